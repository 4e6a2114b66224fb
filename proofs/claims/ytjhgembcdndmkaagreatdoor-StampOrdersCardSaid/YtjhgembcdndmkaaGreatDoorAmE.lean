import Derived.Lib.Bytealg
import Derived.Lib.MakeNoZero
import Derived.Lib.Builder
import Derived.AtR
import Derived.RangeFuncLeaves
import Derived.Test.YtjhgembcdndmkaaGreatDoorAmD
/- THE ABSTRACT MACHINE, part E: a machine over values without block numbers, and the proof that the model's machine does what it does. No condition. -/
set_option linter.unusedSimpArgs false
set_option linter.unusedVariables false
namespace Go.Proofs.YtjhgembcdndmkaaGreatDoor.Am
section
variable {P : Program} {φ : Phi} {h : Hp} {w : World}
theorem put_block (hR : HR P φ h w) {id : Pos} {b : Nat} {blk blk' : Blk} (hid : T.get id h.heap = some blk) (hnc : ∀ s c lo hi g m ro fz, blk ≠ .cells s c lo hi g m ro fz) (hφ : φ id 0 = some (b, 0, 0)) (ser : Nat) {o' : Obj} (hB : BR P φ (putO w b o') id blk') :
    HR P φ ⟨T.set id (some blk') h.heap, h.next, ser, h.lim⟩ (putO w b o') ∧ Adv h w φ ⟨T.set id (some blk') h.heap, h.next, ser, h.lim⟩ (putO w b o') φ := by
  have u : Upd h w φ id h.next (putO w b o') φ := Upd.same hR hid (by simp [putO]) (fun y hy kk => putO_ne (fun c => kk 0 0 0 (by rw [c]; exact hφ))) rfl rfl rfl
  refine ⟨hR.update u (.inr ⟨_, hid, fun s c lo hi g m ro fz kk => absurd kk (hnc s c lo hi g m ro fz)⟩) fun x hx => ?_, Adv.update hR u (.inr ⟨_, hid, fun s c lo hi g m ro fz kk => absurd kk (hnc s c lo hi g m ro fz)⟩)⟩
  cases hx
  exact hB
theorem new_block (hR : HR P φ h w) (hm : Room h) (ser : Nat) {o : Obj} {blk : Blk} (hB : BR P (φ.put h.next 0 (w.heap.size, 0, 0)) (w.alloc o) h.next blk) :
    HR P (φ.put h.next 0 (w.heap.size, 0, 0)) ⟨T.set h.next (some blk) h.heap, h.next.succ, ser, h.lim⟩ (w.alloc o) ∧ Adv h w φ ⟨T.set h.next (some blk) h.heap, h.next.succ, ser, h.lim⟩ (w.alloc o) (φ.put h.next 0 (w.heap.size, 0, 0)) ∧ Le φ (φ.put h.next 0 (w.heap.size, 0, 0)) := by
  have u := Upd.alloc hR hm o 0
  refine ⟨hR.update u (.inl ⟨Nat.le_refl _, by rw [Pos.num_succ]; omega, hR.next_none hm⟩) fun x hx => ?_, Adv.update hR u (.inl ⟨Nat.le_refl _, by rw [Pos.num_succ]; omega, hR.next_none hm⟩), u.le⟩
  cases hx
  exact hB
theorem putO_self {b : Nat} {o : Obj} (h : w.heap[b]? = some o) : putO w b o = w := by
  unfold putO
  have : w.heap.setIfInBounds b o = w.heap := by
    apply Array.ext_getElem?
    intro i
    rw [Array.getElem?_setIfInBounds]
    by_cases c : b = i
    · subst c
      rw [if_pos rfl, if_pos (heap_lt h), h]
    · rw [if_neg c]
  rw [this]
variable {env : T AV} {a : Act} {o : Oper}
theorem op_rangeStr (hR : HR P φ h w) (hE : EnvR φ env a.tmps) (hm : Room h) {t : TypeId} {x : Operand} {x' : Opd} (hx : compOpd P x = some x') (hd : P.underlying t = some .string) (ho : o.op = .range t x) : ResR P φ h w (evalOp P (.rangeStr x') env h) ((execOp a.eval o).run P w) := by
  have rx := opd_rel hR hE hx
  unfold evalOp
  simp only
  generalize hX : a.eval x = X at *
  split
  · rename_i n v e
    rw [e] at rx
    cases rx with
    | @str _ _ s hs hv =>
      rw [newK_eq]
      obtain ⟨q1, q2, q3⟩ := new_block hR hm (Nat.succ h.ser) (o := .stringIter s 0) (blk := .sit h.ser n v 0) ⟨w.heap.size, s, Phi.put_same _ _ _ _, alloc_new _ _, hs, hv⟩
      refine ⟨_, .pointer (some ⟨w.heap.size, 0, none⟩), w.alloc (.stringIter s 0), _, ?_, .inl rfl, q1, q2, .ptr (Phi.put_same _ _ _ _) rfl rfl rfl⟩
      simp only [execOp, ho, hX, Instr.range, Sem.run_bind, run_underlying hd, Result.andThen_ok, Sem.run_pure, run_newObj]
      rfl
  · trivial
theorem byteAt_get {n v : Nat} {s : ByteArray} (hs : s.data.toList = unpack n v) {pos : Nat} (hp : pos < n) : (s.get! pos).toNat = byteAt n v pos := by
  have hg := unpack_get n v pos hp
  rw [← hs, Array.getElem?_toList] at hg
  have e : s.get! pos = UInt8.ofNat (v / 256 ^ (n - 1 - pos)) := by
    show s.data[pos]! = _
    rw [getElem!_def, hg]
  rw [e]
  unfold byteAt
  show (UInt8.ofNat (v / 256 ^ (n - 1 - pos))).toNat = v / 256 ^ (n - (pos + 1)) % 256
  rw [UInt8.toNat_ofNat', show n - (pos + 1) = n - 1 - pos by omega]
theorem rune_run {n v : Nat} {s : ByteArray} (hs : s.data.toList = unpack n v) {pos : Nat} (hp : pos < n) : runeA n v pos (byteAt n v pos) = Utf8.decode s pos := by
  have hse : s = ⟨(unpack n v).toArray⟩ := by
    cases s
    simp only at hs
    rw [← hs, Array.toArray_toList]
  unfold runeA
  cases hb : Nat.blt (byteAt n v pos) 128 with
  | false => rw [cond_false, ← hse]
  | true =>
    rw [cond_true]
    have hb := blt_iff.1 hb
    have hb' : (s.get! (pos + 0)).toNat < 0x80 := by rw [Nat.add_zero, byteAt_get hs hp]; exact hb
    rw [← byteAt_get hs hp]
    unfold Utf8.decode
    exact (if_pos hb').symm
theorem op_nextStr (hR : HR P φ h w) (hE : EnvR φ env a.tmps) {x : Operand} {x' : Opd} (hx : compOpd P x = some x') (ho : o.op = .next x true) : ResR P φ h w (evalOp P (.nextStr x') env h) ((execOp a.eval o).run P w) := by
  have rx := opd_rel hR hE hx
  unfold evalOp
  simp only
  generalize hX : a.eval x = X at *
  split
  · rename_i id g off e
    rw [e] at rx
    cases hb : (Nat.beq g 0 && Nat.beq off 0) with
    | false => trivial
    | true =>
      rw [cond_true]
      rw [Bool.and_eq_true] at hb
      have hg : g = 0 := Nat.eq_of_beq_eq_true hb.1
      have ho' : off = 0 := Nat.eq_of_beq_eq_true hb.2
      subst hg; subst ho'
      split
      · rename_i ser n v pos hid
        obtain ⟨b, s, e1, e2, e3, e4⟩ := hR.blk _ _ hid
        cases rx with
        | @ptr _ _ _ b1 s1 n1 a1 p1 q1 r1 t1 =>
          rw [e1] at p1
          cases p1
          have ha1 : a1 = ⟨b, 0, none⟩ := by
            obtain ⟨ab, ao, as⟩ := a1
            simp only at q1 r1 t1
            subst q1; subst t1
            have : ao = 0 := by omega
            subst this; rfl
          subst ha1
          have hsz : s.size = n := by rw [← unpack_length n v, ← e3]; simp
          cases hp : Nat.blt pos n with
          | true =>
            have hp := blt_iff.1 hp
            rw [cond_true]
            simp only [natK_eq, T.setK_eq]
            rw [rune_run e3 hp]
            obtain ⟨q1, q2⟩ := put_block hR hid (fun _ _ _ _ _ _ _ _ kk => by cases kk) e1 h.ser (blk' := .sit ser n v (Nat.add pos (Utf8.decode s pos).2)) (o' := .stringIter s (pos + (Utf8.decode s pos).2)) ⟨b, s, e1, putO_same e2, e3, e4⟩
            refine ⟨_, .tuple #[.bool true, goInt pos, .int .i32 (Utf8.decode s pos).1], putO w b (.stringIter s (pos + (Utf8.decode s pos).2)), φ, ?_, .inl rfl, q1, q2, .tup (.cons (.bool true) (.cons (.int _ _) (.cons (.int _ _) .nil)))⟩
            simp only [execOp, ho, hX, Instr.next, Sem.run_bind, run_getObj e2 (fun _ _ _ q => by cases q), Result.andThen_ok, hsz, hp, if_true, run_setObj e2 (fun _ _ _ q => by cases q), Sem.run_pure]
          | false =>
            have hp : ¬ pos < n := by
              intro q
              rw [blt_iff.2 q] at hp; cases hp
            rw [cond_false]
            refine ResR.pure hR (x := .tuple #[.bool false]) (.tup (.cons (.bool false) .nil)) ?_
            simp only [execOp, ho, hX, Instr.next, Sem.run_bind, run_getObj e2 (fun _ _ _ q => by cases q), Result.andThen_ok, hsz, hp, if_false, Sem.run_pure]
      · trivial
  · trivial
theorem isMapT_facts {t : TypeId} (e : isMapT P t = true) : ∃ k v, P.underlying t = some (.map k v) := by
  unfold isMapT at e
  split at e
  · exact ⟨_, _, by assumption⟩
  · cases e
theorem op_mkMap (hR : HR P φ h w) (hm : Room h) {t : TypeId} {r : Option Operand} (hd : isMapT P t = true) (hr : r = none ∨ ∃ k n, r = some (.const (.int k n))) (ho : o.op = .makeMap t r) : ResR P φ h w (evalOp P .mkMap env h) ((execOp a.eval o).run P w) := by
  obtain ⟨kt, et, hd⟩ := isMapT_facts hd
  unfold evalOp
  rw [newK_eq]
  obtain ⟨q1, q2, q3⟩ := new_block hR hm (Nat.succ h.ser) (o := .map #[] 0) (blk := .map h.ser [] 0) ⟨w.heap.size, #[], Phi.put_same _ _ _ _, alloc_new _ _, .nil⟩
  refine ⟨_, .map (some w.heap.size), w.alloc (.map #[] 0), _, ?_, .inl rfl, q1, q2, .map (Phi.put_same _ _ _ _)⟩
  rcases hr with rfl | ⟨k, n, rfl⟩
  · simp only [execOp, ho, Instr.makeMap, Option.map_none, Sem.run_bind, Result.andThen_ok, Sem.run_pure, run_newObj]
    rfl
  · have : a.eval (.const (.int k n)) = .int k n := rfl
    simp only [execOp, ho, Instr.makeMap, Option.map_some, this, Sem.run_bind, run_underlying hd, Result.andThen_ok, Sem.run_pure, run_newObj, asInt, asIntOf]
    rfl
theorem op_lenM (hR : HR P φ h w) (hE : EnvR φ env a.tmps) {c : Call} {x : Operand} {x' : Opd} {t k e : TypeId} (hx : compOpd P x = some x') (hd : P.underlying t = some (.map k e)) (hc : c.callee = .builtin .len) (ha : c.args.toList = [x]) (htt : c.argTypes.toList = [t]) (ho : o.op = .call c) :
    ResR P φ h w (evalOp P (.lenM x') env h) ((execOp a.eval o).run P w) := by
  have rx := opd_rel hR hE hx
  have ha : c.args = #[x] := by rw [← Array.toArray_toList (xs := c.args), ha]
  have htt : c.argTypes = #[t] := by rw [← Array.toArray_toList (xs := c.argTypes), htt]
  have hrun : (execOp a.eval o).run P w = ((Builtin.len_ #[t] o.type #[a.eval x]).run P w).andThen fun v w' => .ok (.value v) w' := by
    rw [exec_builtin ho hc, ha, htt]
    show (do pure (Next.value (← Builtin.len_ #[t] o.type (#[x].map a.eval))) : Sem Next).run P w = _
    rw [Sem.run_bind, show #[x].map a.eval = #[a.eval x] by simp]
    rfl
  rw [hrun]
  unfold evalOp
  simp only
  generalize hX : a.eval x = X at *
  split
  · rename_i e
    rw [e] at rx
    cases rx
    refine ResR.pure hR (x := goInt 0) (.int _ _) ?_
    simp [Builtin.len_, Sem.run_bind, run_underlying hd]
  · rename_i id e
    rw [e] at rx
    cases rx with
    | @map _ b hφ =>
      split
      · rename_i ser es clock hid
        obtain ⟨b', E, e1, e2, e3⟩ := hR.blk _ _ hid
        rw [hφ] at e1
        cases e1
        simp only [natK_eq]
        refine ResR.pure hR (x := goInt E.size) ?_ ?_
        · rw [e3.length, Array.length_toList]
          exact .int _ _
        · simp [Builtin.len_, Sem.run_bind, run_underlying hd, run_getObj e2 (fun _ _ _ q => by cases q)]
      · trivial
  · trivial
end
end Go.Proofs.YtjhgembcdndmkaaGreatDoor.Am

namespace Go.Proofs.YtjhgembcdndmkaaGreatDoor.Am
section
variable {P : Program} {φ : Phi} {h : Hp} {w : World}
theorem findA_get {kk : KK} {k : AV} : ∀ {es : List (AV × AV × Nat)} {s i : Nat} {v : AV}, findA P h kk k es s = some (some (i, v)) → ∃ j k0 n, i = s + j ∧ es[j]? = some (k0, v, n) ∧ keyEq P h kk k k0 = some true
  | [], s, i, v, e => by cases e
  | (k', v', n) :: es, s, i, v, e => by
    unfold findA at e
    split at e
    · rename_i hq
      cases e
      exact ⟨0, k', n, rfl, rfl, hq⟩
    · obtain ⟨j, k0, n0, h1, h2, h3⟩ := findA_get e
      exact ⟨j + 1, k0, n0, by omega, h2, h3⟩
    · cases e
theorem EntsR.get {es : List (AV × AV × Nat)} {E : List MapEntry} (hE : EntsR φ es E) : ∀ {j : Nat} {k v : AV} {n : Nat}, es[j]? = some (k, v, n) → ∃ x y, E[j]? = some { key := x, val := y, born := n } ∧ Rel φ k x ∧ Rel φ v y := by
  induction hE with
  | nil => intro j k v n e; simp at e
  | cons hk hv t ih =>
    intro j k v n e
    cases j with
    | zero => simp at e; obtain ⟨rfl, rfl, rfl⟩ := e; exact ⟨_, _, rfl, hk, hv⟩
    | succ j => simpa using ih (by simpa using e)
theorem EntsR.setAt {es : List (AV × AV × Nat)} {E : List MapEntry} (hE : EntsR φ es E) {k v : AV} {x y : Value} (hk : Rel φ k x) (hv : Rel φ v y) : ∀ (i : Nat), EntsR φ (setAt es i k v) (E.modify i fun e => { e with key := x, val := y }) := by
  induction hE with
  | nil => intro i; cases i <;> exact .nil
  | cons hk' hv' t ih =>
    intro i
    cases i with
    | zero => exact .cons hk hv t
    | succ i => exact .cons hk' hv' (ih i)
theorem EntsR.push {es : List (AV × AV × Nat)} {E : List MapEntry} (hE : EntsR φ es E) {k v : AV} {n : Nat} {x y : Value} (hk : Rel φ k x) (hv : Rel φ v y) : EntsR φ (es ++ [(k, v, n)]) (E ++ [{ key := x, val := y, born := n }]) := by
  induction hE with
  | nil => exact .cons hk hv .nil
  | cons hk' hv' t ih => exact .cons hk' hv' ih
theorem EntsR.erase {es : List (AV × AV × Nat)} {E : List MapEntry} (hE : EntsR φ es E) : ∀ (i : Nat), EntsR φ (es.eraseIdx i) (E.eraseIdx i) := by
  induction hE with
  | nil => intro i; exact .nil
  | cons hk' hv' t ih =>
    intro i
    cases i with
    | zero => exact t
    | succ i => exact .cons hk' hv' (ih i)
theorem EntsR.filter {es : List (AV × AV × Nat)} {E : List MapEntry} (hE : EntsR φ es E) (p : Nat → Bool) : EntsR φ (es.filter fun e => p e.2.2) (E.filter fun e => p e.born) := by
  induction hE with
  | nil => exact .nil
  | @cons k v n x y l r hk' hv' t ih =>
    simp only [List.filter_cons]
    cases p n with
    | true => exact .cons hk' hv' ih
    | false => exact ih
theorem EntsR.all {es : List (AV × AV × Nat)} {E : List MapEntry} (hE : EntsR φ es E) (p : Nat → Bool) : (es.all fun e => p e.2.2) = E.all fun e => p e.born := by
  induction hE with
  | nil => rfl
  | cons hk' hv' t ih => simp only [List.all_cons, ih]
theorem EntsR.find {es : List (AV × AV × Nat)} {E : List MapEntry} (hE : EntsR φ es E) (p : Nat → Bool) {e : AV × AV × Nat} (he : es.find? (fun e => p e.2.2) = some e) : ∃ x y, E.find? (fun e => p e.born) = some { key := x, val := y, born := e.2.2 } ∧ Rel φ e.1 x ∧ Rel φ e.2.1 y := by
  induction hE with
  | nil => cases he
  | @cons k v n x y l r hk' hv' t ih =>
    simp only [List.find?_cons] at he ⊢
    cases hp : p n with
    | true => rw [hp] at he; cases he; exact ⟨_, _, rfl, hk', hv'⟩
    | false => rw [hp] at he; exact ih he
theorem bits_one {k : LK} {a b : AV} {x y : Value} (hx : Rel φ a x) (hy : Rel φ b y) (e : sameK k a b = some true) (n : Nat) : Instr.sameBits n y x = true := by
  unfold sameK at e
  split at e
  · rename_i p q
    cases hx; cases hy
    simp only [Option.some.injEq] at e
    have := eq_of_beq e
    subst this
    cases n <;> simp [Instr.sameBits]
  · rename_i i m j l
    cases hx; cases hy
    split at e
    · rename_i e1
      subst e1
      rw [cmpA_eq] at e
      by_cases c : m = l
      · subst c
        cases n <;> simp [Instr.sameBits]
      · exfalso
        by_cases c' : m < l <;> simp [c, c'] at e
    · cases e
  · cases hx with
    | str hs hv => cases hy with
      | str ht hu =>
        simp only [Option.some.injEq, Bool.and_eq_true] at e
        have e1 := Nat.eq_of_beq_eq_true e.1
        have e2 := Nat.eq_of_beq_eq_true e.2
        subst e1; subst e2
        have := bytes_beq ht hu hs hv
        rw [show (Nat.beq _ _ && Nat.beq _ _) = true by simp] at this
        cases n <;> simpa [Instr.sameBits] using this
  · cases e
theorem bits_list {ks : List LK} : ∀ {l r : List AV} {xs ys : List Value}, RelL φ l xs → RelL φ r ys → sameKs ks l r = some true → ∀ n, ys.length = xs.length ∧ (ys.zip xs).all (fun (p : Value × Value) => Instr.sameBits n p.1 p.2) = true := by
  induction ks with
  | nil =>
    intro l r xs ys h1 h2 e n
    have := sameKs_length e
    have e1 : l = [] := List.length_eq_zero_iff.1 (by simpa using this.1)
    have e2 : r = [] := List.length_eq_zero_iff.1 (by simpa using this.2)
    subst e1; subst e2
    cases h1; cases h2
    exact ⟨rfl, rfl⟩
  | cons k ks ih =>
    intro l r xs ys h1 h2 e n
    cases h1 with
    | nil => simp [sameKs] at e
    | cons h1 t1 => cases h2 with
      | nil => simp [sameKs] at e
      | cons h2 t2 =>
        simp only [sameKs] at e
        split at e
        · rename_i x hx
          split at e
          · rename_i y hy
            simp only [Option.some.injEq] at e
            cases x with
            | false => cases e
            | true =>
              cases y with
              | false => cases e
              | true =>
                obtain ⟨q1, q2⟩ := ih t1 t2 hy n
                refine ⟨by simp [q1], ?_⟩
                simp only [List.zip_cons_cons, List.all_cons, bits_one h1 h2 hx n, Bool.true_and]
                exact q2
          · cases e
        · cases e
theorem bits_ptr (hR : HR P φ h w) {a b : AV} {x y : Value} (hx : Rel φ a x) (hy : Rel φ b y) (e : sameP h a b = some true) (n : Nat) : Instr.sameBits n y x = true := by
  unfold sameP at e
  split at e
  · cases hx; cases hy
    cases n <;> simp [Instr.sameBits]
  · cases e
  · cases e
  · rename_i id g off id' g' off'
    cases hx with
    | @ptr _ _ _ b1 s1 n1 a1 p1 q1 r1 t1 => cases hy with
      | @ptr _ _ _ b2 s2 n2 a2 p2 q2 r2 t2 =>
        cases hsp : samePos id id' with
        | true =>
          rw [hsp, cond_true] at e
          have := samePos_iff.1 hsp
          subst this
          cases hg : Nat.beq g g' with
          | false => rw [hg] at e; cases e
          | true =>
            rw [hg, cond_true] at e
            have := Nat.eq_of_beq_eq_true hg
            subst this
            rw [p1] at p2
            cases p2
            simp only [Option.some.injEq] at e
            have := Nat.eq_of_beq_eq_true e
            subst this
            have hae : a2 = a1 := by
              obtain ⟨ab, ao, as⟩ := a1
              obtain ⟨bb, bo, bs⟩ := a2
              simp only at q1 q2 r1 r2 t1 t2
              subst q1; subst q2; subst t1; subst t2
              have : ao = bo := by omega
              subst this; rfl
            subst hae
            cases n <;> simp [Instr.sameBits]
        | false =>
          rw [hsp, cond_false] at e
          split at e
          · rename_i m ro fz _ _ _ _ _ _ m' ro' fz' _ _
            revert e
            cases (Nat.ble _ g && Nat.ble _ g' && !(_ || _ || _ || _)) <;> (intro e; cases e)
          · cases e
  · cases e
theorem bits_key (hR : HR P φ h w) {kk : KK} {a b : AV} {x y : Value} (hx : Rel φ a x) (hy : Rel φ b y) (e : keyEq P h kk a b = some true) : Instr.sameBits 10000 y x = true := by
  unfold keyEq at e
  split at e
  · exact bits_one hx hy e _
  · exact bits_ptr hR hx hy e _
  · cases hx with
    | agg hl => cases hy with
      | agg hr =>
        obtain ⟨q1, q2⟩ := bits_list hl hr e 9999
        show Instr.sameBits (9999 + 1) _ _ = true
        unfold Instr.sameBits
        rw [Bool.and_eq_true]
        refine ⟨?_, q2⟩
        rw [Array.length_toList, Array.length_toList] at q1
        rw [q1]; simp
  · rename_i t1 x1 t2 x2
    cases hx with
    | ifc hx => cases hy with
      | ifc hy =>
        cases ht : Nat.beq t1 t2 with
        | false => rw [ht] at e; cases e
        | true =>
          rw [ht, cond_true] at e
          have := Nat.eq_of_beq_eq_true ht
          subst this
          cases ho : okPtrT P t1 with
          | false =>
            rw [ho, cond_false] at e
            split at e
            · show Instr.sameBits (9999 + 1) _ _ = true
              unfold Instr.sameBits
              rw [Bool.and_eq_true]
              exact ⟨by simp, bits_one hx hy e _⟩
            · cases e
          | true =>
            rw [ho, cond_true] at e
            show Instr.sameBits (9999 + 1) _ _ = true
            unfold Instr.sameBits
            rw [Bool.and_eq_true]
            exact ⟨by simp, bits_ptr hR hx hy e _⟩
  · cases e
end
end Go.Proofs.YtjhgembcdndmkaaGreatDoor.Am

namespace Go.Proofs.YtjhgembcdndmkaaGreatDoor.Am
section
variable {P : Program} {φ : Phi} {h : Hp} {w : World} {env : T AV} {a : Act} {o : Oper}
theorem map_plain {E : Array MapEntry} {n : Nat} : ∀ c e f, Obj.map E n ≠ .cells c e f := fun _ _ _ q => by cases q
theorem mit_plain {m : Option Nat} {s : Nat} {l : Array Nat} {n : Nat} : ∀ c e f, Obj.mapIter m s l n ≠ .cells c e f := fun _ _ _ q => by cases q
theorem op_update (hR : HR P φ h w) (hE : EnvR φ env a.tmps) {t : TypeId} {m k v : Operand} {m' k' v' : Opd} {kk : KK} (hkk : keyT P t = some kk) (hm : compOpd P m = some m') (hk : compOpd P k = some k') (hv : compOpd P v = some v')
    (ho : o.op = .mapUpdate t m k v ∨ o.op = .insert t m k v) : ResR P φ h w (evalOp P (.update kk m' k' v') env h) ((execOp a.eval o).run P w) := by
  have rm := opd_rel hR hE hm
  have rk := opd_rel hR hE hk
  have rv := opd_rel hR hE hv
  obtain ⟨kt, et, hd, hK⟩ := keyT_facts hkk
  have hrun : ∃ nx, NV nx Go.undef ∧ (execOp a.eval o).run P w = ((Instr.mapUpdate t (a.eval m) (a.eval k) (a.eval v)).run P w).andThen fun _ w' => .ok nx w' := by
    rcases ho with ho | ho <;> exact ⟨.skip, .inr ⟨rfl, rfl⟩, by simp only [execOp, ho, Sem.run_bind]; rfl⟩
  obtain ⟨nx, hnx, hrun⟩ := hrun
  rw [hrun]
  unfold evalOp
  simp only
  generalize hkv : ev env k' = kv at *
  generalize hmv : ev env m' = mv at *
  generalize hvv : ev env v' = vv at *
  generalize hX : a.eval m = X at *
  generalize hY : a.eval k = Y at *
  generalize hZ : a.eval v = Z at *
  cases hok : keyOk P kk kv with
  | false => trivial
  | true =>
    rw [cond_true]
    split
    · rename_i id
      cases rm with
      | @map _ b hφ =>
        split
        · rename_i ser es clock hid
          obtain ⟨b', E, e1, e2, e3⟩ := hR.blk _ _ hid
          rw [hφ] at e1
          cases e1
          have hck := checkKey_run (w := w) hK rk hok false
          have put : ∀ (es' : List (AV × AV × Nat)) (clock' : Nat) (E' : Array MapEntry), EntsR φ es' E'.toList → (Instr.mapUpdate t (.map (some b)) Y Z).run P w = .ok () (putO w b (.map E' clock')) →
              ResR P φ h w (.val .undef ⟨T.set id (some (.map ser es' clock')) h.heap, h.next, h.ser, h.lim⟩) (((Instr.mapUpdate t (.map (some b)) Y Z).run P w).andThen fun _ w' => .ok nx w') := by
            intro es' clock' E' hE' e
            rw [e]
            obtain ⟨q1, q2⟩ := put_block hR hid (fun _ _ _ _ _ _ _ _ kk => by cases kk) hφ h.ser (blk' := .map ser es' clock') (o' := .map E' clock') ⟨b, E', hφ, putO_same e2, hE'⟩
            exact ⟨nx, Go.undef, _, φ, rfl, hnx, q1, q2, Rel.undef⟩
          split
          · rename_i i v0 hf
            obtain ⟨res', f1, f2⟩ := findKey_run hR hK rk e3 hf
            obtain ⟨j, k0, n0, g1, g2, g3⟩ := findA_get hf
            rw [Nat.zero_add] at g1
            subst g1
            obtain ⟨x0, y0, g4, g5, _⟩ := e3.get g2
            have hbits := bits_key hR rk g5 g3
            cases res' with
            | none => cases f2
            | some p =>
              obtain ⟨pi, py⟩ := p
              obtain ⟨rfl, _⟩ := f2
              simp only [T.setK_eq]
              refine put _ _ (E.modify i fun e => { e with key := Y, val := Z }) ?_ ?_
              · rw [Array.toList_modify]; exact e3.setAt rk rv i
              · unfold Instr.mapUpdate
                rw [Sem.run_bind, run_underlying hd, Result.andThen_ok]
                rw [Array.getElem?_toList] at g4
                simp only [Sem.run_bind, run_getObj e2 map_plain, Result.andThen_ok, hck, f1, g4, Option.map_some, Option.getD_some, Instr.keyThatStays, hbits, if_true, Sem.run_pure, run_setObj e2 map_plain]
          · rename_i hf
            obtain ⟨res', f1, f2⟩ := findKey_run hR hK rk e3 hf
            cases res' with
            | some p => cases f2
            | none =>
              simp only [natK_eq, T.setK_eq]
              refine put _ _ (E.push { key := Y, val := Z, born := clock }) ?_ ?_
              · rw [Array.toList_push]; exact e3.push rk rv
              · unfold Instr.mapUpdate
                rw [Sem.run_bind, run_underlying hd, Result.andThen_ok]
                simp only [Sem.run_bind, run_getObj e2 map_plain, Result.andThen_ok, hck, f1, run_setObj e2 map_plain]
          · trivial
        · trivial
    · trivial
theorem op_delete (hR : HR P φ h w) (hE : EnvR φ env a.tmps) {c : Call} {t : TypeId} {ts : List TypeId} {m k : Operand} {m' k' : Opd} {kk : KK} (hkk : keyT P t = some kk) (hm : compOpd P m = some m') (hk : compOpd P k = some k')
    (hc : c.callee = .builtin .delete) (ha : c.args.toList = [m, k]) (htt : c.argTypes.toList = t :: ts) (ho : o.op = .call c) : ResR P φ h w (evalOp P (.delete kk m' k') env h) ((execOp a.eval o).run P w) := by
  have rm := opd_rel hR hE hm
  have rk := opd_rel hR hE hk
  obtain ⟨kt, et, hd, hK⟩ := keyT_facts hkk
  have ha : c.args = #[m, k] := by rw [← Array.toArray_toList (xs := c.args), ha]
  have ht0 : c.argTypes[0]? = some t := by rw [← Array.getElem?_toList, htt]; rfl
  have hrun : (execOp a.eval o).run P w = ((Builtin.delete_ c.argTypes o.type #[a.eval m, a.eval k]).run P w).andThen fun v w' => .ok (.value v) w' := by
    rw [exec_builtin ho hc, ha]
    show (do pure (Next.value (← Builtin.delete_ c.argTypes o.type (#[m, k].map a.eval))) : Sem Next).run P w = _
    rw [Sem.run_bind, show #[m, k].map a.eval = #[a.eval m, a.eval k] by simp]
    rfl
  rw [hrun]
  unfold evalOp
  simp only
  generalize hkv : ev env k' = kv at *
  generalize hmv : ev env m' = mv at *
  generalize hX : a.eval m = X at *
  generalize hY : a.eval k = Y at *
  cases hok : keyOk P kk kv with
  | false => trivial
  | true =>
    rw [cond_true]
    have hck : ∀ e, (Instr.checkKey e 10000 kt Y).run P w = .ok () w := fun e => checkKey_run hK rk hok e
    have a0 : (#[X, Y] : Array Value)[0]? = some X := rfl
    have a1 : (#[X, Y] : Array Value)[1]? = some Y := rfl
    split
    · cases rm
      refine ResR.pure hR (x := .tuple #[]) (.tup .nil) ?_
      simp [Builtin.delete_, ht0, Sem.run_bind, run_underlying hd, hck]
    · rename_i id
      cases rm with
      | @map _ b hφ =>
        split
        · rename_i ser es clock hid
          obtain ⟨b', E, e1, e2, e3⟩ := hR.blk _ _ hid
          rw [hφ] at e1
          cases e1
          split
          · rename_i i v0 hf
            obtain ⟨res', f1, f2⟩ := findKey_run hR hK rk e3 hf
            cases res' with
            | none => cases f2
            | some p =>
              obtain ⟨pi, py⟩ := p
              obtain ⟨rfl, _⟩ := f2
              simp only [T.setK_eq]
              obtain ⟨q1, q2⟩ := put_block hR hid (fun _ _ _ _ _ _ _ _ kk => by cases kk) hφ h.ser (blk' := .map ser (es.eraseIdx i) clock) (o' := .map (E.eraseIdxIfInBounds i) clock)
                ⟨b, _, hφ, putO_same e2, by rw [Array.toList_eraseIdxIfInBounds]; exact e3.erase i⟩
              refine ⟨_, .tuple #[], _, φ, ?_, .inl rfl, q1, q2, .tup .nil⟩
              simp [Builtin.delete_, ht0, Sem.run_bind, run_underlying hd, hck, run_getObj e2 map_plain, f1, run_setObj e2 map_plain]
          · rename_i hf
            obtain ⟨res', f1, f2⟩ := findKey_run hR hK rk e3 hf
            cases res' with
            | some p => cases f2
            | none =>
              refine ResR.pure hR (x := .tuple #[]) (.tup .nil) ?_
              simp [Builtin.delete_, ht0, Sem.run_bind, run_underlying hd, hck, run_getObj e2 map_plain, f1, run_setObj e2 map_plain, putO_self e2]
          · trivial
        · trivial
    · trivial
theorem op_rangeMap (hR : HR P φ h w) (hE : EnvR φ env a.tmps) (hm : Room h) {t : TypeId} {x : Operand} {x' : Opd} (hx : compOpd P x = some x') (hd : isMapT P t = true) (ho : o.op = .range t x) : ResR P φ h w (evalOp P (.rangeMap x') env h) ((execOp a.eval o).run P w) := by
  have rx := opd_rel hR hE hx
  obtain ⟨kt, et, hd⟩ := isMapT_facts hd
  unfold evalOp
  simp only
  generalize hX : a.eval x = X at *
  split
  · rename_i e
    rw [e] at rx
    cases rx
    rw [newK_eq]
    obtain ⟨q1, q2, q3⟩ := new_block hR hm (Nat.succ h.ser) (o := .mapIter none 0 #[] 0) (blk := .mit h.ser none 0 [] 0) ⟨w.heap.size, none, Phi.put_same _ _ _ _, alloc_new _ _, trivial⟩
    refine ⟨_, .pointer (some ⟨w.heap.size, 0, none⟩), w.alloc (.mapIter none 0 #[] 0), _, ?_, .inl rfl, q1, q2, .ptr (Phi.put_same _ _ _ _) rfl rfl rfl⟩
    simp only [execOp, ho, hX, Instr.range, Sem.run_bind, run_underlying hd, Result.andThen_ok, Sem.run_pure, run_newObj]
    rfl
  · rename_i m e
    rw [e] at rx
    cases rx with
    | @map _ b hφ =>
      split
      · rename_i ser es clock hid
        obtain ⟨b', E, e1, e2, e3⟩ := hR.blk _ _ hid
        rw [hφ] at e1
        cases e1
        rw [newK_eq]
        have u := Upd.alloc hR hm (.mapIter (some b) clock #[] clock) 0
        obtain ⟨q1, q2, q3⟩ := new_block hR hm (Nat.succ h.ser) (o := .mapIter (some b) clock #[] clock) (blk := .mit h.ser (some m) clock [] clock) ⟨w.heap.size, some b, Phi.put_same _ _ _ _, alloc_new _ _, u.le _ _ _ hφ⟩
        refine ⟨_, .pointer (some ⟨w.heap.size, 0, none⟩), w.alloc (.mapIter (some b) clock #[] clock), _, ?_, .inl rfl, q1, q2, .ptr (Phi.put_same _ _ _ _) rfl rfl rfl⟩
        simp only [execOp, ho, hX, Instr.range, Sem.run_bind, run_underlying hd, Result.andThen_ok, run_getObj e2 map_plain, Sem.run_pure, run_newObj]
        rfl
      · trivial
  · trivial
theorem ptr_zero {id : Pos} {X : Value} {b : Nat} (hx : Rel φ (.ptr id 0 0) X) (hφ : φ id 0 = some (b, 0, 0)) : X = .pointer (some ⟨b, 0, none⟩) := by
  cases hx with
  | @ptr _ _ _ b1 s1 n1 a1 p1 q1 r1 t1 =>
    rw [hφ] at p1
    cases p1
    obtain ⟨ab, ao, as⟩ := a1
    simp only at q1 r1 t1
    subst q1; subst t1
    have : ao = 0 := by omega
    subst this; rfl
theorem op_nextMap (hR : HR P φ h w) (hE : EnvR φ env a.tmps) {x : Operand} {x' : Opd} (hx : compOpd P x = some x') (ho : o.op = .next x false) : ResR P φ h w (evalOp P (.nextMap x') env h) ((execOp a.eval o).run P w) := by
  have rx := opd_rel hR hE hx
  have hrun : (execOp a.eval o).run P w = ((Instr.next (a.eval x) false o.type).run P w).andThen fun v w' => .ok (.value v) w' := by
    simp only [execOp, ho, Sem.run_bind]; rfl
  rw [hrun]
  unfold evalOp
  simp only
  generalize hX : a.eval x = X at *
  split
  · rename_i id g off e
    rw [e] at rx
    cases hb : (Nat.beq g 0 && Nat.beq off 0) with
    | false => trivial
    | true =>
      rw [cond_true]
      rw [Bool.and_eq_true] at hb
      have hg : g = 0 := Nat.eq_of_beq_eq_true hb.1
      have ho' : off = 0 := Nat.eq_of_beq_eq_true hb.2
      subst hg; subst ho'
      split
      · rename_i ser since seen last hid
        obtain ⟨b, bm, e1, e2, e3⟩ := hR.blk _ _ hid
        cases bm with
        | some c => cases e3
        | none =>
          have hXe := ptr_zero rx e1
          subst hXe
          refine ResR.pure hR (x := .tuple #[.bool false]) (.tup (.cons (.bool false) .nil)) ?_
          simp only [Instr.next, Sem.run_bind, run_getObj e2 mit_plain, Result.andThen_ok, Sem.run_pure]
      · rename_i ser m since seen last hid
        obtain ⟨b, bm, e1, e2, e3⟩ := hR.blk _ _ hid
        cases bm with
        | none => cases e3
        | some c =>
          have hXe := ptr_zero rx e1
          subst hXe
          have e3 : φ m 0 = some (c, 0, 0) := e3
          split
          · rename_i ser' es clock hid'
            obtain ⟨b', E, f1, f2, f3⟩ := hR.blk _ _ hid'
            rw [e3] at f1
            cases f1
            have hleft := f3.filter fun n => !seen.contains n
            have hold := f3.filter fun n => !seen.contains n
            cases hcond : (!seen.isEmpty && !es.isEmpty && es.all (fun e => Nat.ble last e.2.2)) with
            | true => trivial
            | false =>
              rw [cond_false]
              have hcond' : (!seen.toArray.isEmpty && !E.isEmpty && E.all (fun e => decide (e.born ≥ last))) = false := by
                rw [← hcond, f3.empty]
                have q := f3.all fun n => Nat.ble last n
                rw [q]
                congr 1
                · congr 1
                  cases seen <;> rfl
                · rw [← Array.all_toList]
                  congr 1
                  funext e
                  by_cases c : last ≤ e.born
                  · rw [ble_iff.2 c]; simp [c]
                  · rw [ble_false.2 (by omega)]; simp [c]
              generalize hl : (es.filter fun e => !seen.contains e.2.2) = left at hleft
              generalize hL : (E.toList.filter fun e => !seen.contains e.born) = Left at hleft
              have hfil : (E.filter fun e => !seen.toArray.contains e.born) = Left.toArray := by
                rw [← hL]
                apply Array.toList_inj.1
                rw [Array.toList_filter]
                simp
              have hrun2 : ∀ (R : Result Value), Left = [] → R = .ok (.tuple #[.bool false]) w → (Instr.next (.pointer (some ⟨b, 0, none⟩)) false o.type).run P w = R := by
                intro R hE0 hR0
                subst hE0
                rw [hR0]
                simp only [Instr.next, Sem.run_bind, run_getObj e2 mit_plain, Result.andThen_ok, run_getObj f2 map_plain, hcond', Bool.false_eq_true, if_false, hfil]
                simp [Question.forced]
              split
              · cases hleft
                exact ResR.pure hR (x := .tuple #[.bool false]) (.tup (.cons (.bool false) .nil)) (by rw [hrun2 _ rfl rfl]; rfl)
              · rename_i e0
                cases hleft with
                | @cons k v n x y _ r hk hv ht =>
                  cases ht
                  cases hlt : Nat.blt n since with
                  | false => 
                    simp only [cond_false]
                    trivial
                  | true =>
                    simp only [cond_true, T.setK_eq]
                    have hlt := blt_iff.1 hlt
                    obtain ⟨q1, q2⟩ := put_block hR hid (fun _ _ _ _ _ _ _ _ kk => by cases kk) e1 h.ser (blk' := .mit ser (some m) since (seen ++ [n]) clock) (o' := .mapIter (some c) since (seen ++ [n]).toArray clock) ⟨b, some c, e1, putO_same e2, e3⟩
                    refine ⟨_, .tuple #[.bool true, x, y], _, φ, ?_, .inl rfl, q1, q2, .tup (.cons (.bool true) (.cons hk (.cons hv .nil)))⟩
                    simp only [Instr.next, Sem.run_bind, run_getObj e2 mit_plain, Result.andThen_ok, run_getObj f2 map_plain, hcond', Bool.false_eq_true, if_false, hfil]
                    have hge : ¬ (since ≤ n) := by omega
                    simp [Question.forced, hlt, hge, run_setObj e2 mit_plain]
              · trivial
          · trivial
      · trivial
  · trivial
theorem op_defer (hR : HR P φ h w) (hE : EnvR φ env a.tmps) {c : Call} {f : Operand} {f' : Opd} {l : List Opd} (hf : compOpd P f = some f') (hl : mapO (compOpd P) c.args.toList = some l) (hc : c.callee = .value f) (ho : o.op = .defer c) :
    ResR P φ h w (evalOp P (.defer f' l) env h) ((execOp a.eval o).run P w) := by
  have rf := opd_rel hR hE hf
  have rl := opds_rel hR hE hl
  have hrun : (execOp a.eval o).run P w = (do let d ← Deferred.ofValue (a.eval f) (c.args.map a.eval); pure (.defer d) : Sem Next).run P w := by
    simp only [execOp, ho, resolve, hc]
  rw [hrun]
  unfold evalOp
  simp only
  generalize hF : a.eval f = F at *
  split
  · rename_i g first captured e
    rw [e] at rf
    cases rf with
    | fn h1 h2 =>
      rename_i X Y
      refine ⟨{ target := .fn (.func g) Y, args := X ++ c.args.map a.eval }, rfl, Y, rfl, ?_⟩
      simp only [Array.toList_append, Array.toList_map, List.append_assoc]
      exact h1.append (rl.append h2)
  · trivial
theorem op_entry (hR : HR P φ h w) (hE : EnvR φ env a.tmps) {x : Operand} {x' : Opd} (hx : compOpd P x = some x') (ho : o.op = .entry x) : ResR P φ h w (evalOp P (.entry x') env h) ((execOp a.eval o).run P w) := by
  have rx := opd_rel hR hE hx
  have hrun : (execOp a.eval o).run P w = ((Instr.entry (a.eval x)).run P w).andThen fun v w' => .ok (.value v) w' := by
    simp only [execOp, ho, Sem.run_bind]; rfl
  rw [hrun]
  unfold evalOp
  simp only
  generalize hX : a.eval x = X at *
  split
  · rename_i id g off e
    rw [e] at rx
    cases hb : (Nat.beq g 0 && Nat.beq off 0) with
    | false => trivial
    | true =>
      rw [cond_true]
      rw [Bool.and_eq_true] at hb
      have hg : g = 0 := Nat.eq_of_beq_eq_true hb.1
      have ho' : off = 0 := Nat.eq_of_beq_eq_true hb.2
      subst hg; subst ho'
      split
      · rename_i ser m since seen stepped hid
        obtain ⟨b, bm, e1, e2, e3⟩ := hR.blk _ _ hid
        cases bm with
        | none => cases e3
        | some c =>
          have hXe := ptr_zero rx e1
          subst hXe
          have e3 : φ m 0 = some (c, 0, 0) := e3
          split
          · rename_i ser' es clock st hid' hst
            obtain ⟨b', E, f1, f2, f3⟩ := hR.blk _ _ hid'
            rw [e3] at f1
            cases f1
            cases hc : Nat.beq clock stepped with
            | false => trivial
            | true =>
              rw [cond_true]
              have hc := Nat.eq_of_beq_eq_true hc
              subst hc
              split
              · rename_i en hen
                obtain ⟨x, y, g1, g2, g3⟩ := f3.find (fun n => Nat.beq n st) hen
                refine ResR.pure hR (x := .tuple #[x, y]) (.tup (.cons g2 (.cons g3 .nil))) ?_
                have hback : seen.toArray.back? = some st := by simpa using hst
                have hfind : E.find? (fun e => e.born == st) = some { key := x, val := y, born := en.2.2 } := by
                  rw [← Array.find?_toList, ← g1]
                  congr 1
                  funext e
                  by_cases c : e.born = st
                  · rw [c]; simp
                  · have h1 : (e.born == st) = false := by simpa using c
                    have h2 : Nat.beq e.born st = false := by
                      cases q : Nat.beq e.born st with
                      | false => rfl
                      | true => exact absurd (Nat.eq_of_beq_eq_true q) c
                    rw [h1, h2]
                simp only [Instr.entry, Sem.run_bind, run_getObj e2 mit_plain, Result.andThen_ok, run_getObj f2 map_plain, hback, bne_self_eq_false, Bool.false_eq_true, if_false, hfind, Sem.run_pure]
              · trivial
          · trivial
      · trivial
  · trivial
theorem sameP_odd {a b : AV} {x y : Value} {r : Bool} (hx : Rel φ a x) (hy : Rel φ b y) (e : sameP h a b = some r) : Odd x ∧ ∃ q, x = .pointer q := by
  unfold sameP at e
  split at e
  · cases hx; exact ⟨trivial, _, rfl⟩
  · cases hx; exact ⟨trivial, _, rfl⟩
  · cases hx; exact ⟨trivial, _, rfl⟩
  · cases hx; exact ⟨trivial, _, rfl⟩
  · cases e
theorem op_eqPtr (hR : HR P φ h w) (hE : EnvR φ env a.tmps) {op : BinOp} {neg : Bool} (hop : (op = .eql ∧ neg = false) ∨ (op = .neq ∧ neg = true)) {t yt : TypeId} {x y : Operand} {x' y' : Opd} (hx : compOpd P x = some x') (hy : compOpd P y = some y')
    {el : TypeId} (ht : P.underlying t = some (.pointer el)) (hk : okT P el = true) (hz : 0 < P.cellsOf el) (ho : o.op = .binOp op t x y yt) : ResR P φ h w (evalOp P (.eqPtr neg x' y') env h) ((execOp a.eval o).run P w) := by
  have rx := opd_rel hR hE hx
  have ry := opd_rel hR hE hy
  unfold evalOp
  refine ResR.opt hR fun v e => ?_
  split at e
  · rename_i b hb
    obtain ⟨hodd, q, hq⟩ := sameP_odd rx ry hb
    have heq : (Op.equal t (a.eval x) (a.eval y)).run P w = .ok b w := sameP_run hR rx ry hb ht hk hz 9999
    have hg : (eqGuard op t x y (a.eval x) (a.eval y)).run P w = .ok () w := guard_none (fun a' e' => by rw [hq] at e'; cases e') (fun ⟨e', _⟩ => by rw [hq] at e'; cases e') P w
    unfold notIf at e
    cases e
    simp only [execOp, ho]
    rcases hop with ⟨rfl, rfl⟩ | ⟨rfl, rfl⟩
    · refine ⟨.bool b, ?_, .bool _⟩
      rw [binOp_eql hodd]
      simp only [Sem.run_bind, hg, heq, Result.andThen_ok, Sem.run_pure]
    · refine ⟨.bool (!b), ?_, .bool _⟩
      rw [binOp_neq hodd]
      simp only [Sem.run_bind, hg, heq, Result.andThen_ok, Sem.run_pure]
  · cases e
theorem sameI_run (hR : HR P φ h w) {a b : AV} {x y : Value} {nilOk r : Bool} (hx : Rel φ a x) (hy : Rel φ b y) (e : sameI P h nilOk a b = some r) {t : TypeId} {ms : Array (String × TypeId)} (ht : P.underlying t = some (.interface ms)) :
    Odd x ∧ (Op.equal t x y).run P w = .ok r w ∧ (∀ a', x ≠ .agg a') ∧ ((x = .nilIface ∧ y = .nilIface) → nilOk = true) := by
  unfold sameI at e
  split at e
  · cases hx; cases hy
    cases nilOk with
    | false => cases e
    | true =>
      cases e
      refine ⟨trivial, ?_, fun a' q => (by cases q), fun _ => rfl⟩
      show (Op.equalIn (9999 + 1) t _ _).run P w = _
      unfold Op.equalIn
      rw [Sem.run_bind, run_underlying ht, Result.andThen_ok]; rfl
  · cases hx; cases hy; cases e
    refine ⟨trivial, ?_, fun a' q => (by cases q), fun q => (by cases q.2)⟩
    show (Op.equalIn (9999 + 1) t _ _).run P w = _
    unfold Op.equalIn
    rw [Sem.run_bind, run_underlying ht, Result.andThen_ok]; rfl
  · cases hx; cases hy; cases e
    refine ⟨trivial, ?_, fun a' q => (by cases q), fun q => (by cases q.1)⟩
    show (Op.equalIn (9999 + 1) t _ _).run P w = _
    unfold Op.equalIn
    rw [Sem.run_bind, run_underlying ht, Result.andThen_ok]; rfl
  · have := keyEq_run (w := w) (kk := .any) hR (t := t) ⟨ms, ht⟩ hx hy e
    cases hx; cases hy
    exact ⟨trivial, this, fun a' q => (by cases q), fun q => (by cases q.1)⟩
  · cases e
theorem op_eqIfc (hR : HR P φ h w) (hE : EnvR φ env a.tmps) {op : BinOp} {neg : Bool} (hop : (op = .eql ∧ neg = false) ∨ (op = .neq ∧ neg = true)) {t yt : TypeId} {x y : Operand} {x' y' : Opd} (hx : compOpd P x = some x') (hy : compOpd P y = some y')
    {ms : Array (String × TypeId)} (ht : P.underlying t = some (.interface ms)) (ho : o.op = .binOp op t x y yt) : ResR P φ h w (evalOp P (.eqIfc neg (nilOkT P t x y) x' y') env h) ((execOp a.eval o).run P w) := by
  have rx := opd_rel hR hE hx
  have ry := opd_rel hR hE hy
  unfold evalOp
  refine ResR.opt hR fun v e => ?_
  split at e
  · rename_i b hb
    obtain ⟨hodd, heq, hag, hnil⟩ := sameI_run hR rx ry hb ht
    have hg : (eqGuard op t x y (a.eval x) (a.eval y)).run P w = .ok () w := by
      by_cases hn : a.eval x = .nilIface ∧ a.eval y = .nilIface
      · rw [hn.1, hn.2]; exact nilOk_guard (hnil hn) op
      · exact guard_none hag hn P w
    unfold notIf at e
    cases e
    simp only [execOp, ho]
    rcases hop with ⟨rfl, rfl⟩ | ⟨rfl, rfl⟩
    · refine ⟨.bool b, ?_, .bool _⟩
      rw [binOp_eql hodd]
      simp only [Sem.run_bind, hg, heq, Result.andThen_ok, Sem.run_pure]
    · refine ⟨.bool (!b), ?_, .bool _⟩
      rw [binOp_neq hodd]
      simp only [Sem.run_bind, hg, heq, Result.andThen_ok, Sem.run_pure]
  · cases e
end
end Go.Proofs.YtjhgembcdndmkaaGreatDoor.Am

namespace Go.Proofs.YtjhgembcdndmkaaGreatDoor.Am
section
variable {P : Program} {φ : Phi} {h : Hp} {w : World} {env : T AV} {a : Act} {o : Oper}
theorem op_sliceData (hR : HR P φ h w) (hE : EnvR φ env a.tmps) {c : Call} {x : Operand} {x' : Opd} (hx : compOpd P x = some x') (hc : c.callee = .builtin .unsafeSliceData) (ha : c.args.toList = [x]) (ho : o.op = .call c) :
    ResR P φ h w (evalOp P (.sliceData x') env h) ((execOp a.eval o).run P w) := by
  have rx := opd_rel hR hE hx
  have ha : c.args = #[x] := by rw [← Array.toArray_toList (xs := c.args), ha]
  have hrun : (execOp a.eval o).run P w = (do pure (Next.value (← Builtin.unsafeSliceData_ c.argTypes o.type #[a.eval x])) : Sem Next).run P w := by
    rw [exec_builtin ho hc, ha, show #[x].map a.eval = #[a.eval x] by simp]; rfl
  rw [hrun]
  unfold evalOp
  simp only
  generalize hX : a.eval x = X at *
  split
  · rename_i e
    rw [e] at rx
    cases rx
    exact ResR.pure hR .nilPtr rfl
  · rename_i id g off len cap ex es e
    rw [e] at rx
    cases hb : Nat.blt 0 cap with
    | false => trivial
    | true =>
      have hb := blt_iff.1 hb
      rw [cond_true]
      rcases rel_sl rx with ⟨ad, cc, b, s, n, rfl, k1, k2, k3, k4, k5, k6, k7, k8⟩ | ⟨_, _, _, q, _⟩
      · obtain ⟨q1, _⟩ := k8 (by omega)
        refine ResR.pure hR (x := .pointer (some ad)) (.ptr k1 k2 q1 k3) ?_
        rw [Sem.run_bind, Lib.run_unsafeSliceData_row (P := P) w c.argTypes o.type ad len cc (by omega)]
        rfl
      · omega
  · trivial
theorem liesAt_row {e u : TypeId} (hc : P.cellsOf e = 1) (he : P.underlying e = some (.int .u8)) (hu : P.underlying u = some (.int .u8)) {count off n : Nat} (hn : off + n ≤ count) : liesAt P P.depth e count off u n = true := by
  have hd : P.depth = (2 * (P.types.size + Made.depth) + 1) + 1 := rfl
  rw [hd]
  simp only [liesAt, Bool.or_eq_true]
  left
  rw [hd]
  have : off % 1 = 0 := by omega
  simp [rowAt, hc, hn, sameLayout, he, hu, this]
theorem run_unsafeStr {ts : Array TypeId} {pt ty pe el : TypeId} {ad : Addr} {cells : Nat} (hts : ts[0]? = some pt) (hp : P.underlying pt = some (.pointer pe)) (hpe : P.underlying pe = some (.int .u8)) (hc : P.cellsOf el = 1) (he : P.underlying el = some (.int .u8)) (hsh : w.shape? ad.block = some (el, cells)) (l : List UInt8) (h0 : l ≠ []) (hn : ad.off + l.length ≤ cells) (h63 : l.length ≤ 9223372036854775807)
    (hcell : ∀ j x, l[j]? = some x → w.cell? (ad.add j) = some (.int .u8 x.toNat)) :
    (Builtin.unsafeString_ ts ty #[.pointer (some ad), .int .i64 l.length]).run P w = .ok (.string ⟨l.toArray⟩) (w.freeze ad l.length) := by
  have hl : l.length ≠ 0 := by simpa using h0
  have hlb := Lib.run_loadBytes (P := P) w l ad .empty hcell
  have hlies : liesAt P P.depth el (cells / P.cellsOf el) ad.off pe l.length = true := liesAt_row hc he hpe (by rw [hc]; simpa using hn)
  have h63' : ¬ (9223372036854775807 : Int) < (l.length : Int) := by omega
  have hdef : Builtin.unsafeString_ ts ty #[.pointer (some ad), .int .i64 l.length] =
      (do
        let n ← asInt (.int .i64 l.length)
        let some pt := ts[0]? | stuck _
        if n < 0 then runtimePanic (.error _)
        if n > IntKind.i64.max then unsupported (.unsafePointer _)
        if n = 0 then pure (.string .empty)
        else if ← variablesAt ad (← elemOf pt) n.toNat then do
          let s ← loadBytes ad .empty n.toNat
          freeze ad n.toNat
          pure (.string s)
        else unsupported (.unsafePointer _)) := rfl
  rw [hdef]
  have hmax : IntKind.i64.max = 9223372036854775807 := rfl
  have hneg : ¬ (l.length : Int) < 0 := by omega
  simp [asInt, asIntOf, hmax, h63', hneg, hl, variablesAt, hsh, elemOf, run_underlying hp, hlies, hlb, hts]
theorem run_unsafeStr0 {ts : Array TypeId} {pt ty : TypeId} (hts : ts[0]? = some pt) (p : Option Addr) : (Builtin.unsafeString_ ts ty #[.pointer p, .int .i64 0]).run P w = .ok (.string .empty) w := by
  have hmax : IntKind.i64.max = 9223372036854775807 := rfl
  cases p with
  | none =>
    obtain ⟨s1, s2, s3, s4, hdef⟩ : ∃ s1 s2 s3 s4 : String, Builtin.unsafeString_ ts ty #[.pointer none, .int .i64 0] =
        (do
          let n ← asInt (.int .i64 0)
          let some pt := ts[0]? | stuck s1
          if n < 0 then runtimePanic (.error s2)
          if n > IntKind.i64.max then unsupported (.unsafePointer s3)
          if n = 0 then pure (.string .empty)
          else runtimePanic (.error s4)) := ⟨_, _, _, _, rfl⟩
    rw [hdef]
    simp [asInt, asIntOf, hmax, hts]
  | some a =>
    have hdef : Builtin.unsafeString_ ts ty #[.pointer (some a), .int .i64 0] =
        (do
          let n ← asInt (.int .i64 0)
          let some pt := ts[0]? | stuck _
          if n < 0 then runtimePanic (.error _)
          if n > IntKind.i64.max then unsupported (.unsafePointer _)
          if n = 0 then pure (.string .empty)
          else if ← variablesAt a (← elemOf pt) n.toNat then do
            let s ← loadBytes a .empty n.toNat
            freeze a n.toNat
            pure (.string s)
          else unsupported (.unsafePointer _)) := rfl
    rw [hdef]
    simp [asInt, asIntOf, hmax, hts]
theorem freeze_same {C : Array Value} {el : TypeId} {fr : Nat × Nat} {ad : Addr} {n : Nat} (hn : n ≠ 0) (hb : w.heap[ad.block]? = some (.cells C el fr)) : ∃ fr', (w.freeze ad n).heap[ad.block]? = some (.cells C el fr') := by
  obtain ⟨lo, hi⟩ := fr
  unfold World.freeze
  rw [if_neg hn]
  exact ⟨_, by simp only [Array.getElem?_modify, if_pos, hb]; rfl⟩
theorem freeze_else {ad : Addr} {n b : Nat} (hb : b ≠ ad.block) : (w.freeze ad n).heap[b]? = w.heap[b]? := by
  unfold World.freeze
  split
  · rfl
  · simp only [Array.getElem?_modify]
    rw [if_neg (Ne.symm hb)]
theorem freeze_hr (hR : HR P φ h w) {id : Pos} {note lo hi g m : Nat} {c : Cells} {fz : Bool} (hid : T.get id h.heap = some (.cells note c lo hi g m false fz)) {b : Nat} {s : Int} {n : Nat} (hφ : φ id g = some (b, s, n)) {ad : Addr} (hb : ad.block = b) (k ser : Nat) :
    HR P φ ⟨T.set id (some (.cells note c lo hi g m true fz)) h.heap, h.next, ser, h.lim⟩ (w.freeze ad k) ∧ Adv h w φ ⟨T.set id (some (.cells note c lo hi g m true fz)) h.heap, h.next, ser, h.lim⟩ (w.freeze ad k) φ := by
  obtain ⟨⟨h1, h2, h3, h4, h6, h5⟩, ty⟩ := hR.blk _ _ hid
  have hsz : (w.freeze ad k).heap.size = w.heap.size := by unfold World.freeze; split <;> simp
  have u : Upd h w φ id h.next (w.freeze ad k) φ :=
    Upd.same hR hid hsz (fun y hy q => freeze_else fun c => q g s n (by rw [c, hb]; exact hφ)) (by unfold World.freeze; split <;> rfl) (by unfold World.freeze; split <;> rfl) (by unfold World.freeze; split <;> rfl)
  refine ⟨hR.update u (.inr ⟨_, hid, fun _ _ _ _ _ _ _ _ k => by cases k; rfl⟩) fun x hx => ?_, Adv.update hR u (.inr ⟨_, hid, fun _ _ _ _ _ _ _ _ k => by cases k; rfl⟩)⟩
  cases hx
  have same : ∀ {b' : Nat} {C : Array Value} {el : TypeId} {fr : Nat × Nat}, w.heap[b']? = some (.cells C el fr) → ∃ fr', (w.freeze ad k).heap[b']? = some (.cells C el fr') := fun {b' C el fr} e => by
    by_cases hk : k = 0
    · refine ⟨fr, ?_⟩
      unfold World.freeze
      rw [if_pos hk]; exact e
    · by_cases hbb : b' = ad.block
      · subst hbb; exact freeze_same hk e
      · exact ⟨fr, by rw [freeze_else hbb]; exact e⟩
  refine ⟨⟨h1, h2, h3, h4, h6, fun j hj1 hj2 => ?_⟩, fun j b' s' n' C el fr a1 a2 q1 q2 => ?_⟩
  · obtain ⟨b', s', n', C', el', fr', f1, f2, f3, f4, f5⟩ := h5 j hj1 hj2
    obtain ⟨fr2, e2⟩ := same f2
    exact ⟨b', s', n', C', el', fr2, f1, e2, f3, (fun q => by cases q), f5⟩
  · obtain ⟨b2, s2, n2, C2, el2, fr2, f1, f2, _⟩ := h5 j a1 a2
    rw [q1] at f1
    cases f1
    obtain ⟨fr3, e3⟩ := same f2
    rw [e3] at q2
    cases q2
    exact ty j _ _ _ _ _ _ a1 a2 q1 f2
theorem op_unsafeStr (hR : HR P φ h w) (hE : EnvR φ env a.tmps) {c : Call} {p n : Operand} {p' n' : Opd} {t e : TypeId} {r : List TypeId} (hp : compOpd P p = some p') (hn : compOpd P n = some n') (hc : c.callee = .builtin .unsafeString) (ha : c.args.toList = [p, n]) (htt : c.argTypes.toList = t :: r)
    (hd : P.underlying t = some (.pointer e)) (he : byteT P e = true) (ho : o.op = .call c) : ResR P φ h w (evalOp P (.unsafeStr p' n') env h) ((execOp a.eval o).run P w) := by
  have rp := opd_rel hR hE hp
  have rn := opd_rel hR hE hn
  have ha : c.args = #[p, n] := by rw [← Array.toArray_toList (xs := c.args), ha]
  have hts : c.argTypes[0]? = some t := by rw [← Array.toArray_toList (xs := c.argTypes), htt]; rfl
  have hu8 : P.underlying e = some (.int .u8) := by
    unfold byteT at he
    rw [Bool.and_eq_true, Bool.and_eq_true] at he
    have := he.1.1
    split at this
    · rename_i q; exact q
    · cases this
  have hrun : (execOp a.eval o).run P w = (do pure (Next.value (← Builtin.unsafeString_ c.argTypes o.type #[a.eval p, a.eval n])) : Sem Next).run P w := by
    rw [exec_builtin ho hc, ha, show #[p, n].map a.eval = #[a.eval p, a.eval n] by simp]; rfl
  rw [hrun]
  unfold evalOp
  simp only
  generalize hX : a.eval p = X at *
  generalize hY : a.eval n = Y at *
  split
  · rename_i k ek
    rw [ek] at rn
    cases rn
    have hempty : ∀ (q : Option Addr), (do pure (Next.value (← Builtin.unsafeString_ c.argTypes o.type #[.pointer q, .int .i64 0])) : Sem Next).run P w = .ok (.value (.string .empty)) w := fun q => by
      rw [Sem.run_bind, run_unsafeStr0 hts q]; rfl
    cases hk : Nat.beq k 0 with
    | true =>
      have hk := beq_iff.1 hk
      subst hk
      rw [cond_true]
      split
      · rename_i ep
        rw [ep] at rp
        cases rp
        exact ResR.pure hR (x := .string .empty) (.str rfl (by simp)) (hempty none)
      · rename_i id g off ep
        rw [ep] at rp
        obtain ⟨ad, b, s, N, rfl, _⟩ := rel_ptr rp
        exact ResR.pure hR (x := .string .empty) (.str rfl (by simp)) (hempty (some ad))
      · trivial
    | false =>
      rw [cond_false]
      have hk := beq_false.1 hk
      split
      · rename_i id g off ep
        rw [ep] at rp
        obtain ⟨ad, b, s, N, rfl, k1, k2, k3, k4⟩ := rel_ptr rp
        split
        · rename_i note cc lo hi g' m ro fz hid
          cases hb : (!ro && Nat.beq note 1 && Nat.beq g g' && Nat.ble k i64max) with
          | false => trivial
          | true =>
            simp only [Bool.and_eq_true, Bool.not_eq_true'] at hb
            obtain ⟨⟨⟨f1, f2⟩, f3⟩, f4⟩ := hb
            subst f1
            have f2 := beq_iff.1 f2
            have f3 := beq_iff.1 f3
            subst f2 f3
            have f4 := ble_iff.1 f4
            rw [cond_true]
            cases hr : readN h id g off k with
            | none => trivial
            | some c' =>
              obtain ⟨xs, r1, r2, r3, r4⟩ := readN_run hR hr k1 k2 k3 (fun _ => k4)
              cases c' with
              | lst _ _ => trivial
              | byt k2' v =>
                have hkk : k2' = k := r4
                subst hkk
                simp only [natK_eq, T.setK_eq]
                obtain ⟨⟨_, c2, _, _, _, c5⟩, ty⟩ := hR.blk _ _ hid
                obtain ⟨b', s2, n2, C, el, fr, e1, e2, e3, _, _⟩ := c5 g c2 (Nat.le_refl _)
                rw [k1] at e1
                cases e1
                have hty : P.underlying el = some (.int .u8) ∧ P.cellsOf el = 1 := by
                  rcases ty g _ _ _ _ _ _ c2 (Nat.le_refl _) k1 e2 with q | ⟨_, q⟩ | ⟨u, q, _⟩
                  · cases q
                  · exact q
                  · have : 1 = u + 2 := q; omega
                -- the cells
                have hrd : ∃ hs : seeable cc lo hi g m g off k2' = true, True := by
                  unfold readN at hr
                  rw [show Nat.beq k2' 0 = false from beq_false.2 hk, cond_false, hid] at hr
                  simp only at hr
                  cases hs : seeable cc lo hi g m g off k2' with
                  | false => rw [hs] at hr; cases hr
                  | true => exact ⟨rfl, trivial⟩
                obtain ⟨hs, _⟩ := hrd
                have hcc : cc.sub off k2' = .byt k2' v := by
                  unfold readN at hr
                  rw [show Nat.beq k2' 0 = false from beq_false.2 hk, cond_false, hid] at hr
                  simp only [hs, cond_true, Option.some.injEq] at hr
                  exact hr
                obtain ⟨hle, C', el', fr', g1, g2, g3⟩ := seen hR hid k1 hs
                rw [e2] at g1
                cases g1
                have hwf := (hR.blk _ _ hid).1.1
                have htl : (cc.toL.drop off).take k2' = bytesL k2' v := by
                  have := (Cells.sub_spec hwf (off := off) (n := k2') hle).2.1
                  rw [hcc] at this
                  exact this.symm
                have hcell : ∀ j x, (unpack k2' v)[j]? = some x → w.cell? (ad.add j) = some (.int .u8 x.toNat) := fun j x hj => by
                  have hjl : j < k2' := by have := (List.getElem?_eq_some_iff.1 hj).1; rwa [unpack_length] at this
                  obtain ⟨o, av, xv, o1, o2, o3, o4⟩ := g3 j hjl
                  have : (bytesL k2' v)[j]? = some (byteV x.toNat) := by rw [bytesL_eq, List.getElem?_map, hj]; rfl
                  rw [← htl, List.getElem?_take_of_lt hjl, List.getElem?_drop, o2] at this
                  cases this
                  cases o4
                  rw [add_eq ad k3, k2, cell_eq e2, show ad.off + j = o by omega, o3]
                  rfl
                have hlen : (unpack k2' v).length = k2' := unpack_length _ _
                have hlast : ad.off + k2' ≤ C.size := by
                  obtain ⟨o, av, xv, o1, o2, o3, o4⟩ := g3 (k2' - 1) (by omega)
                  have := (Array.getElem?_eq_some_iff.1 o3).1
                  omega
                have run := run_unsafeStr (P := P) (w := w) (ts := c.argTypes) (ty := o.type) (ad := ad) (cells := C.size) hts hd hu8 hty.2 hty.1 (by unfold World.shape?; rw [k2, e2]) (unpack k2' v) (by intro q; rw [q] at hlen; simp at hlen; omega) (by rw [hlen]; exact hlast) (by rw [hlen]; exact f4) hcell
                rw [hlen] at run
                obtain ⟨n1, n2⟩ := freeze_hr hR hid k1 k2 k2' h.ser
                refine ⟨_, .string ⟨(unpack k2' v).toArray⟩, w.freeze ad k2', φ, ?_, .inl rfl, n1, n2, .str (by simp) r3⟩
                have run' : (Builtin.unsafeString_ c.argTypes o.type #[.pointer (some ad), .int .i64 (Int.ofNat k2')]).run P w = _ := run
                rw [Sem.run_bind, run']
                rfl
        · trivial
      · trivial
  · trivial
theorem idxL_eq (c : Nat) (hc : c < 256) : ∀ (l : List UInt8) (i : Nat), idxL c l i = if Lib.indexByte l (UInt8.ofNat c) == -1 then -1 else Lib.indexByte l (UInt8.ofNat c) + i
  | [], i => by simp [idxL, Lib.indexByte]
  | b :: l, i => by
    have ge := Lib.indexByte_ge l (UInt8.ofNat c)
    unfold idxL Lib.indexByte
    by_cases hb : b.toNat = c
    · have e : b = UInt8.ofNat c := by apply UInt8.toNat_inj.1; rw [hb]; simp; omega
      rw [show Nat.beq b.toNat c = true from beq_iff.2 hb, cond_true, e]
      simp
    · have e : ¬ b = UInt8.ofNat c := fun q => hb (by rw [q]; simp; omega)
      rw [show Nat.beq b.toNat c = false from beq_false.2 hb, cond_false, idxL_eq c hc l (Nat.succ i)]
      have e' : (b == UInt8.ofNat c) = false := by simpa using e
      rw [e']
      simp only [Bool.false_eq_true, if_false]
      by_cases q : Lib.indexByte l (UInt8.ofNat c) = -1
      · simp [q]
      · have q1 : (Lib.indexByte l (UInt8.ofNat c) == -1) = false := by simpa using q
        have q2 : (Lib.indexByte l (UInt8.ofNat c) + 1 == -1) = false := by rw [beq_eq_false_iff_ne]; omega
        simp only [q1, q2, Bool.false_eq_true, if_false]
        show _ + ((i + 1 : Nat) : Int) = _
        omega
theorem cntL_eq (c : Nat) (hc : c < 256) : ∀ (l : List UInt8) (n : Nat), cntL c l n = n + Lib.countByte l (UInt8.ofNat c)
  | [], n => by simp [cntL, Lib.countByte]
  | b :: l, n => by
    unfold cntL Lib.countByte
    rw [List.count_cons]
    by_cases hb : b.toNat = c
    · have e : b = UInt8.ofNat c := by apply UInt8.toNat_inj.1; rw [hb]; simp; omega
      rw [show Nat.beq b.toNat c = true from beq_iff.2 hb, cond_true, e, cntL_eq c hc]
      simp [Lib.countByte]; omega
    · have e : ¬ b = UInt8.ofNat c := fun q => hb (by rw [q]; simp; omega)
      rw [show Nat.beq b.toNat c = false from beq_false.2 hb, cond_false, cntL_eq c hc]
      simp [Lib.countByte, e]
theorem cmpI_eq : ∀ (l m : List UInt8), cmpI (cmpL l m) = Lib.compareBytes l m
  | [], [] => rfl
  | [], _ :: _ => rfl
  | _ :: _, [] => rfl
  | a :: l, b :: m => by
    have ih := cmpI_eq l m
    unfold cmpL Lib.compareBytes
    by_cases h1 : a < b
    · have h1' := UInt8.lt_iff_toNat_lt.1 h1
      simp [h1, h1', cmpI]
    · by_cases h2 : b < a
      · have : ¬ a = b := fun q => by subst q; exact UInt8.lt_irrefl a h2
        have h2' := UInt8.lt_iff_toNat_lt.1 h2
        have h3 : ¬ a.toNat < b.toNat := by omega
        have h4 : ¬ a.toNat = b.toNat := by omega
        simp [h1, h2, h3, h4, cmpI]
      · have : a = b := UInt8.le_antisymm (UInt8.not_lt.1 h2) (UInt8.not_lt.1 h1)
        simp [h1, h2, this, ih]
theorem ext_find {fn : Func} (ho : fn.origin = "") {k : Nat} (hk : extName fn = k + 1) :
    Extern.findNext fn = none ∧ ∃ e, Extern.find fn = some e ∧ (k = 0 → e = Extern.AbiNoEscape.same) ∧ (k = 1 → e = Extern.BytealgMakeNoZero.makeNoZero fn.params fn.resultTypes) ∧ (k = 2 → e = Extern.BytealgCompare.compare) ∧ (k = 3 → e = Extern.BytealgIndexByte.indexByte) ∧ (k = 4 → e = Extern.BytealgCount.count) := by
  unfold extName at hk
  cases h1 : fn.name == slash "internal" "abi.NoEscape" with
  | true =>
    rw [h1, cond_true] at hk
    cases hk
    unfold Extern.findNext Extern.find
    rw [eq_of_beq h1, ho]
    exact ⟨rfl, _, rfl, fun _ => rfl, (by intro q; cases q), (by intro q; cases q), (by intro q; cases q), (by intro q; cases q)⟩
  | false =>
  rw [h1, cond_false] at hk
  cases h1 : fn.name == slash "internal" "bytealg.MakeNoZero" with
  | true =>
    rw [h1, cond_true] at hk
    cases hk
    unfold Extern.findNext Extern.find
    rw [eq_of_beq h1, ho]
    exact ⟨rfl, _, rfl, (by intro q; cases q), fun _ => rfl, (by intro q; cases q), (by intro q; cases q), (by intro q; cases q)⟩
  | false =>
  rw [h1, cond_false] at hk
  cases h1 : fn.name == slash "internal" "bytealg.abigen_runtime_cmpstring" with
  | true =>
    rw [h1, cond_true] at hk
    cases hk
    unfold Extern.findNext Extern.find
    rw [eq_of_beq h1, ho]
    exact ⟨rfl, _, rfl, (by intro q; cases q), (by intro q; cases q), fun _ => rfl, (by intro q; cases q), (by intro q; cases q)⟩
  | false =>
  rw [h1, cond_false] at hk
  cases h1 : fn.name == slash "internal" "bytealg.IndexByteString" with
  | true =>
    rw [h1, cond_true] at hk
    cases hk
    unfold Extern.findNext Extern.find
    rw [eq_of_beq h1, ho]
    exact ⟨rfl, _, rfl, (by intro q; cases q), (by intro q; cases q), (by intro q; cases q), fun _ => rfl, (by intro q; cases q)⟩
  | false =>
  rw [h1, cond_false] at hk
  cases h1 : fn.name == slash "internal" "bytealg.CountString" with
  | true =>
    rw [h1, cond_true] at hk
    cases hk
    unfold Extern.findNext Extern.find
    rw [eq_of_beq h1, ho]
    exact ⟨rfl, _, rfl, (by intro q; cases q), (by intro q; cases q), (by intro q; cases q), (by intro q; cases q), fun _ => rfl⟩
  | false => rw [h1, cond_false] at hk; cases hk
theorem ext_name {fn : Func} {k : Nat} (hk : extName fn = k + 1) : (fn.name == "runtime.NumGoroutine") = false := by
  cases hn : fn.name == "runtime.NumGoroutine" with
  | false => rfl
  | true =>
    exfalso
    have hn := eq_of_beq hn
    unfold extName at hk
    rw [hn] at hk
    revert hk
    simp only [slash]
    intro hk
    have e : (0 : Nat) = k + 1 := hk
    cases e
theorem byteT_ok {e : TypeId} (hb : byteT P e = true) : P.underlying e = some (.int .u8) ∧ P.cellsOf e = 1 := by
  unfold byteT at hb
  rw [Bool.and_eq_true, Bool.and_eq_true] at hb
  refine ⟨?_, beq_iff.1 hb.1.2⟩
  have := hb.1.1
  split at this
  · assumption
  · cases this
theorem extKind_ok {f : FuncId} {k : Nat} (hk : extKind P f = k + 1) : ∃ fn, P.funcs[f]? = some fn ∧ fn.body = none ∧ fn.origin = "" ∧ extName fn = k + 1 ∧
    (k = 1 → ∃ t r e, fn.resultTypes.toList = t :: r ∧ P.underlying t = some (.slice e) ∧ P.underlying e = some (.int .u8) ∧ P.cellsOf e = 1) := by
  unfold extKind at hk
  split at hk
  · rename_i fn hf
    split at hk
    · cases hk
    · rename_i hb
      cases ho : fn.origin == "" with
      | false => rw [ho] at hk; cases hk
      | true =>
        rw [ho, cond_true] at hk
        refine ⟨fn, hf, hb, eq_of_beq ho, ?_⟩
        split at hk
        · rename_i hx
          split at hk
          · rename_i t r hrt
            split at hk
            · rename_i e he
              cases hbt : byteT P e with
              | false => rw [hbt] at hk; cases hk
              | true =>
                rw [hbt] at hk
                cases hk
                exact ⟨hx, fun _ => ⟨t, r, e, hrt, (elem_underlying he).1, byteT_ok hbt⟩⟩
            · cases hk
          · cases hk
        · rename_i hx
          refine ⟨hk, fun q => ?_⟩
          subst q
          exact absurd hk hx
  · cases hk
theorem op_ext (hR : HR P φ h w) (hE : EnvR φ env a.tmps) (hm : Room h) {c : Call} {f : FuncId} {k : Nat} {l : List Opd} (hk : extKind P f = k + 1) (hl : mapO (compOpd P) c.args.toList = some l) (hc : c.callee = .value (.func f)) (ho : o.op = .call c) :
    ResR P φ h w (evalOp P (.ext (k + 1) l) env h) ((execOp a.eval o).run P w) := by
  have rl := opds_rel hR hE hl
  obtain ⟨fn, hf, hb, hor, hx, hres⟩ := extKind_ok hk
  obtain ⟨f1, e, f2, f3⟩ := ext_find hor hx
  have hrun : (execOp a.eval o).run P w = ((e (c.args.map a.eval)).run P w).andThen fun v w' => .ok (.value v) w' := by
    rw [← callExt_run hf hb (ext_name hx) f1 f2]
    simp only [execOp, ho, resolve, hc]
    show (callFunc f ((#[] ++ c.args.map a.eval) ++ #[])).run P w = _
    rw [Array.empty_append, Array.append_empty]
  rw [hrun]
  show ResR P φ h w (extE h (k + 1) (l.map (ev env))) _
  generalize hA : c.args.map a.eval = A
  have rl : RelL φ (l.map (ev env)) A.toList := by rw [← hA]; simpa using rl
  generalize l.map (ev env) = al at rl
  obtain ⟨A⟩ := A
  unfold extE
  split
  · rename_i hk1
    cases hk1
    cases rl with
    | cons r1 r2 =>
      cases r2
      rw [(f3.1 rfl)]
      exact ResR.pure hR r1 (by rw [Lib.run_noEscape]; rfl)
  · rename_i hk1
    cases hk1
    cases rl with
    | cons r1 r2 =>
      cases r2
      rw [(f3.1 rfl)]
      exact ResR.pure hR r1 (by rw [Lib.run_noEscape]; rfl)
  · rename_i n hk1
    cases hk1
    cases rl with
    | cons r1 r2 =>
      cases r2
      cases r1
      cases hb1 : Nat.ble n 140737488355328 with
      | false => trivial
      | true =>
        have hb1 := ble_iff.1 hb1
        rw [cond_true, newCellsN_eq, f3.2.1 rfl]
        obtain ⟨t, r, el, q1, q2, q3, q4⟩ := hres rfl
        have hmk : Extern.BytealgMakeNoZero.makeNoZero fn.params fn.resultTypes #[.int .i64 (Int.ofNat n)] = Extern.BytealgMakeNoZero.makeNoZero fn.params #[t] #[.int .i64 (Int.ofNat n)] := by
          have q : fn.resultTypes[0]? = some t := by rw [← Array.getElem?_toList, q1]; rfl
          have hdef : ∀ rs : Array TypeId, Extern.BytealgMakeNoZero.makeNoZero fn.params rs #[.int .i64 (Int.ofNat n)] =
              (do
                let some t := rs[0]? | stuck _
                let .slice elem ← underlying t | stuck _
                if Int.ofNat n < 0 || Int.ofNat n > 2 ^ 48 then runtimePanic (.error _)
                let cap ← choose (.appendCap (Int.ofNat n).toNat 0 elem)
                askRoom cap
                let bytes ← choose _
                let a ← newRow elem (Extern.BytealgMakeNoZero.digits cap bytes #[])
                pure (.slice (some a) (Int.ofNat n).toNat cap)) := fun _ => rfl
          rw [hdef, hdef, q]
          rfl
        obtain ⟨cs, e1, e2, _⟩ := Lib.run_makeNoZero (P := P) w fn.params t el q2 n (by omega)
        have e1 : (Extern.BytealgMakeNoZero.makeNoZero fn.params #[t] #[.int .i64 (Int.ofNat n)]).run P w = _ := e1
        have hR1 := hR.drew (w.drawn + 2)
        have hA1 := Adv.drew h w φ (w.drawn + 2)
        obtain ⟨n1, n2⟩ := newCells_run hR1 hm (c := .byt 0 0) (xs := []) (spare := cs.toList) (by simp [Cells.wf]) .nil el (0, 0) false rfl 1 (Nat.succ h.ser) (.inr (.inl ⟨rfl, q3, q4⟩))
        simp only [List.nil_append, Array.toArray_toList] at n1 n2
        refine ⟨.value (.slice (some ⟨w.heap.size, 0, none⟩) n cs.size), .slice (some ⟨w.heap.size, 0, none⟩) n cs.size, _, _, ?_, .inl rfl, n1, hA1.trans hR n2 (hm.was (by simp only [Pos.num_succ]; omega)), ?_⟩
        · show Result.andThen ((Extern.BytealgMakeNoZero.makeNoZero fn.params fn.resultTypes #[.int .i64 (Int.ofNat n)]).run P w) _ = _
          rw [hmk, e1]
          rfl
        · exact .sl (Phi.put_same _ _ _ _) rfl rfl e2 e2 (Nat.le_refl _) (fun q => by cases q) fun _ => ⟨rfl, by simp⟩
  · rename_i n v m u hk1
    cases hk1
    cases rl with
    | cons r1 r2 =>
      cases r2 with
      | cons r2 r3 =>
        cases r3
        obtain ⟨s, rfl, s1, s2, s3⟩ := rel_str r1
        obtain ⟨s', rfl, s1', s2', s3'⟩ := rel_str r2
        rw [intK_eq, f3.2.2.1 rfl, strCmp_eq _ _ _ _ s2 s2', ← s1, ← s1', cmpI_eq]
        exact ResR.pure hR (.int _ _) (by show Result.andThen ((Extern.BytealgCompare.compare #[.string s, .string s']).run P w) _ = _; rw [Lib.run_compareString]; rfl)
  · rename_i n v b hk1
    cases hk1
    cases rl with
    | cons r1 r2 =>
      cases r2 with
      | cons r2 r3 =>
        cases r3
        obtain ⟨s, rfl, s1, s2, s3⟩ := rel_str r1
        cases r2
        cases hb1 : Nat.blt b 256 with
        | false => trivial
        | true =>
          have hb1 := blt_iff.1 hb1
          rw [cond_true, intK_eq, f3.2.2.2.1 rfl, ← s1, idxL_eq b hb1]
          have ge := Lib.indexByte_ge s.data.toList (UInt8.ofNat b)
          have e0 : (if Lib.indexByte s.data.toList (UInt8.ofNat b) == -1 then -1 else Lib.indexByte s.data.toList (UInt8.ofNat b) + ((0 : Nat) : Int)) = Lib.indexByte s.data.toList (UInt8.ofNat b) := by
            by_cases q : Lib.indexByte s.data.toList (UInt8.ofNat b) = -1
            · simp [q]
            · simp [q]
          rw [e0]
          exact ResR.pure hR (.int _ _) (by show Result.andThen ((Extern.BytealgIndexByte.indexByte #[.string s, .int .u8 (Int.ofNat b)]).run P w) _ = _; rw [Lib.run_indexByteString]; rfl)
  · rename_i n v b hk1
    cases hk1
    cases rl with
    | cons r1 r2 =>
      cases r2 with
      | cons r2 r3 =>
        cases r3
        obtain ⟨s, rfl, s1, s2, s3⟩ := rel_str r1
        cases r2
        cases hb1 : Nat.blt b 256 with
        | false => trivial
        | true =>
          have hb1 := blt_iff.1 hb1
          rw [cond_true, natK_eq, f3.2.2.2.2 rfl, ← s1, cntL_eq b hb1, Nat.zero_add]
          exact ResR.pure hR (.int _ _) (by show Result.andThen ((Extern.BytealgCount.count #[.string s, .int .u8 (Int.ofNat b)]).run P w) _ = _; rw [Lib.run_countString]; rfl)
  · trivial
end
end Go.Proofs.YtjhgembcdndmkaaGreatDoor.Am

namespace Go.Proofs.YtjhgembcdndmkaaGreatDoor.Am
section
variable {P : Program} {φ : Phi} {h : Hp} {w : World} {env : T AV} {a : Act} {o : Oper}
theorem builtin_run (hR : HR P φ h w) (hE : EnvR φ env a.tmps) (hm : Room h) {c : Call} {b : Builtin} {ao : AOp} (hc : c.callee = .builtin b) (h1 : compBuiltin P b c.args.toList c.argTypes.toList = some ao) (ho : o.op = .call c) :
    ResR P φ h w (evalOp P ao env h) ((execOp a.eval o).run P w) := by
  generalize hal : c.args.toList = al at h1
  generalize htl : c.argTypes.toList = tl at h1
  unfold compBuiltin at h1
  split at h1
  · rename_i x t
    unfold compLen at h1
    split at h1
    · rename_i hd
      cases hx : compOpd P x with
      | none => rw [hx] at h1; cases h1
      | some x' => rw [hx] at h1; cases h1; exact op_lenS hR hE hx hd hc hal htl ho
    · rename_i e hd
      cases hx : compOpd P x with
      | none => rw [hx] at h1; cases h1
      | some x' => rw [hx] at h1; cases h1; exact op_lenL hR hE hx hd hc hal htl ho
    · rename_i kt e hd
      cases hx : compOpd P x with
      | none => rw [hx] at h1; cases h1
      | some x' => rw [hx] at h1; cases h1; exact op_lenM hR hE hx hd hc hal htl ho
    · rename_i n e hd
      cases h1
      exact op_lenArr hR hE (.inl ⟨e, hd⟩) hc hal htl ho
    · rename_i b' hd
      split at h1
      · rename_i n e hb
        cases h1
        exact op_lenArr hR hE (.inr ⟨b', e, hd, hb⟩) hc hal htl ho
      · cases h1
    · cases h1
  · rename_i x t
    unfold compCap at h1
    split at h1
    · rename_i e hd
      cases hx : compOpd P x with
      | none => rw [hx] at h1; cases h1
      | some x' => rw [hx] at h1; cases h1; exact op_cap hR hE hx hd hc hal htl ho
    · cases h1
  · rename_i s x t u
    unfold compAppend at h1
    split at h1
    · rename_i e s' x' he hs hx
      split at h1
      · rename_i z hz
        cases hb : (Nat.beq z.cells.length (P.cellsOf e) && okT P u && Nat.blt 0 (P.bytesOf e)) with
        | false => rw [hb] at h1; cases h1
        | true =>
          rw [hb, cond_true] at h1
          rw [Bool.and_eq_true, Bool.and_eq_true] at hb
          have h0 := blt_iff.1 hb.2
          cases hi : isIntT P u with
          | true => rw [hi] at h1; cases h1; exact op_appendZ hR hE hm he hs hx hz (beq_iff.1 hb.1.1) hb.1.2 h0 hi hc hal htl ho
          | false => rw [hi] at h1; cases h1; exact op_append hR hE hm he hs hx hz (beq_iff.1 hb.1.1) hb.1.2 h0 hi hc hal htl ho
      · cases h1
    · cases h1
  · rename_i d s t r
    unfold compCopy at h1
    split at h1
    · rename_i e d' s' he hd hs
      cases h1
      exact op_copy hR hE he hd hs hc hal htl ho
    · cases h1
  · rename_i x t
    unfold compClear at h1
    split at h1
    · rename_i e x' he hx
      split at h1
      · rename_i z hz
        cases hb : Nat.beq z.cells.length (P.cellsOf e) with
        | false => rw [hb] at h1; cases h1
        | true => rw [hb] at h1; cases h1; exact op_clear hR hE he hx hz (beq_iff.1 hb) hc hal htl ho
      · cases h1
    · cases h1
  · rename_i m k t r
    split at h1
    · rename_i kk m' k' hkk hm' hk'
      cases h1
      exact op_delete hR hE hkk hm' hk' hc hal htl ho
    · cases h1
  · cases h1
    rename_i hnil
    show (execOp a.eval o).run P w = .ok .recover w
    rw [exec_builtin ho hc]
    rfl
  · rename_i x
    cases hx : compOpd P x with
    | none => rw [hx] at h1; cases h1
    | some x' => rw [hx] at h1; cases h1; exact op_sliceData hR hE hx hc hal ho
  · rename_i p n t r
    split at h1
    · rename_i e hd
      cases hb : byteT P e with
      | false => rw [hb] at h1; cases h1
      | true =>
        rw [hb, cond_true] at h1
        split at h1
        · rename_i p' n' hp hn
          cases h1
          exact op_unsafeStr hR hE hp hn hc hal htl hd hb ho
        · cases h1
    · cases h1
  · rename_i x y
    split at h1
    · rename_i x' y' hx hy
      cases h1
      exact op_minmax hR hE false hx hy hc hal ho
    · cases h1
  · rename_i x y
    split at h1
    · rename_i x' y' hx hy
      cases h1
      exact op_minmax hR hE true hx hy hc hal ho
    · cases h1
  · cases h1
theorem ekT_ptr {t : TypeId} (e : ekT P t = .ptr true) : ∃ el, P.underlying t = some (.pointer el) ∧ okT P el = true ∧ 0 < P.cellsOf el := by
  unfold ekT at e
  split at e <;> first | (cases e; done) | skip
  · rename_i el hd
    injection e with e
    rw [Bool.and_eq_true] at e
    exact ⟨el, hd, e.1, blt_iff.1 e.2⟩
  · split at e
    · rename_i ks hf
      cases hg : P.eqGuardType P.depth t <;> rw [hg] at e <;> cases e
    · cases e
theorem ekT_ifc {t : TypeId} (e : ekT P t = .ifc) : ∃ ms, P.underlying t = some (.interface ms) := by
  unfold ekT at e
  split at e <;> first | (cases e; done) | (exact ⟨_, by assumption⟩) | skip
  split at e
  · rename_i ks hf
    cases hg : P.eqGuardType P.depth t <;> rw [hg] at e <;> cases e
  · cases e
theorem evalOp_run (hR : HR P φ h w) (hE : EnvR φ env a.tmps) (hm : Room h) {ao : AOp} (hc : compAOp P o.op = some ao) : ResR P φ h w (evalOp P ao env h) ((execOp a.eval o).run P w) := by
  generalize ho : o.op = op at hc
  unfold compAOp at hc
  split at hc
  all_goals first | (cases hc; done) | skip
  · rename_i x
    cases hx : compOpd P x with
    | none => rw [hx] at hc; cases hc
    | some x' => rw [hx] at hc; cases hc; exact op_move hR hE hx (.inl ho)
  · rename_i x
    cases hx : compOpd P x with
    | none => rw [hx] at hc; cases hc
    | some x' => rw [hx] at hc; cases hc; exact op_move hR hE hx (.inr ho)
  · rename_i c x y
    split at hc
    · rename_i c' x' y' h1 h2 h3; cases hc; exact op_pick hR hE h1 h2 h3 ho
    · cases hc
  · rename_i t
    cases hz : zeroT P t with
    | none => rw [hz] at hc; cases hc
    | some z =>
      rw [hz] at hc
      simp only [Option.map] at hc
      cases hs : (selfT P t && Nat.beq z.cells.length (P.cellsOf t)) with
      | true =>
        rw [hs] at hc
        cases hc
        rw [Bool.and_eq_true] at hs
        exact op_allocT hR hm hz (beq_iff.1 hs.2) ho
      | false => rw [hs] at hc; cases hc; exact op_alloc hR hm hz ho
  · rename_i t x
    cases hx : compOpd P x with
    | none => rw [hx] at hc; cases hc
    | some x' => rw [hx] at hc; cases hc; exact op_box hR hE hm hx ho
  · rename_i t parts
    split at hc
    · cases hc
    · rename_i z hz; exact op_build hR hE hz hc ho
  · rename_i t len parts
    split at hc
    · cases hc
    · rename_i e he
      split at hc
      · cases hc
      · rename_i z hz
        cases hb : (Nat.ble (len * P.cellsOf e) 16777216 && Nat.beq z.cells.length (P.cellsOf e)) with
        | false => rw [hb] at hc; cases hc
        | true =>
          rw [hb, cond_true] at hc
          rw [Bool.and_eq_true] at hb
          cases hp : compParts P (fun i => some (i * P.cellsOf e, P.cellsOf e)) parts.toList with
          | none => rw [hp] at hc; cases hc
          | some parts' => rw [hp] at hc; cases hc; exact op_buildSl hR hE hm he hz (ble_iff.1 hb.1) (beq_iff.1 hb.2) hp ho
  · rename_i t x
    split at hc
    · rename_i x' d hx hd
      cases hk : okT P t with
      | false => rw [hk] at hc; cases hc
      | true =>
        rw [hk, cond_true, Option.some.injEq] at hc
        subst hc
        cases hg : isAggT P t with
        | true => exact op_loadN hR hE hx hd hk hg ho
        | false => exact op_load1 hR hE hx hd hg ho
    · cases hc
  · rename_i t x y
    split at hc
    · rename_i x' y' hx hy
      cases hk : okT P t with
      | false => rw [hk] at hc; cases hc
      | true => rw [hk, cond_true, Option.some.injEq] at hc; subst hc; exact op_store hR hE hx hy hk ho
    · cases hc
  · rename_i x
    cases hx : compOpd P x with
    | none => rw [hx] at hc; cases hc
    | some x' => rw [hx] at hc; cases hc; exact op_nilCheck hR hE hx ho
  · rename_i op t x y yt
    split at hc
    · rename_i x' y' hx hy
      cases hc
      have ptr : ∀ neg, ((op = .eql ∧ neg = false) ∨ (op = .neq ∧ neg = true)) → ekT P t = .ptr true → ResR P φ h w (evalOp P (.eqPtr neg x' y') env h) ((execOp a.eval o).run P w) := by
        intro neg hop hk
        obtain ⟨el, h1, h2, h3⟩ := ekT_ptr hk
        exact op_eqPtr hR hE hop hx hy h1 h2 h3 ho
      unfold compBin
      cases op <;> first | exact op_bin hR hE hx hy ho | skip
      · simp only
        split
        · rename_i hk; exact ptr false (.inl ⟨rfl, rfl⟩) hk
        · rename_i hk; obtain ⟨ms, hk⟩ := ekT_ifc hk; exact op_eqIfc hR hE (.inl ⟨rfl, rfl⟩) hx hy hk ho
        · exact op_bin hR hE hx hy ho
      · simp only
        split
        · rename_i hk; exact ptr true (.inr ⟨rfl, rfl⟩) hk
        · rename_i hk; obtain ⟨ms, hk⟩ := ekT_ifc hk; exact op_eqIfc hR hE (.inr ⟨rfl, rfl⟩) hx hy hk ho
        · exact op_bin hR hE hx hy ho
    · cases hc
  · rename_i op t x
    cases hx : compOpd P x with
    | none => rw [hx] at hc; cases hc
    | some x' => rw [hx] at hc; cases hc; exact op_un hR hE hx ho
  · rename_i s d x
    split at hc
    · rename_i x' hx; exact op_conv hR hE hm hx hc ho
    · cases hc
  · rename_i t x
    split at hc
    · cases hc
    · rename_i d hno hd
      cases hx : compOpd P x with
      | none => rw [hx] at hc; cases hc
      | some x' =>
        rw [hx] at hc; cases hc
        exact op_mkIfc hR hE hx hd (fun ms q => hno ms q) ho
    · cases hc
  · rename_i f x y
    split at hc
    · rename_i x' y' hx hy; cases hc; exact op_mkFn hR hE hx hy ho
    · cases hc
  · rename_i t l c
    split at hc
    · cases hc
    · rename_i e he
      split at hc
      · rename_i z l' c' hz hl hcc
        cases hb : Nat.beq z.cells.length (P.cellsOf e) with
        | false => rw [hb] at hc; cases hc
        | true => rw [hb, cond_true, Option.some.injEq] at hc; subst hc; exact op_mkSl hR hE hm he hz (beq_iff.1 hb) hl hcc ho
      · cases hc
  · rename_i t x lo hi mx
    split at hc
    · rename_i x' lo' hi' mx' hx hlo hhi hmx
      unfold compSlice at hc
      cases hb : (mx'.isSome && hi'.isNone) with
      | true => rw [hb] at hc; cases hc
      | false =>
        rw [hb, cond_false] at hc
        have h4 : mx.isSome = true → hi.isSome = true := by
          intro q
          rw [← compOpdO_some hmx] at q
          rw [q, Bool.true_and] at hb
          rw [← compOpdO_some hhi]
          cases hi' <;> simp_all
        cases hst : isStrT P t with
        | true =>
          rw [hst, cond_true] at hc
          split at hc
          · cases hc
            have : mx = none := by
              have := compOpdO_some hmx
              cases mx with
              | none => rfl
              | some m => simp at this
            subst this
            exact op_sliceStr hR hE hx hlo hhi hst ho
          · cases hc
        | false =>
          rw [hst, cond_false] at hc
          split at hc
          · rename_i e he; cases hc; exact op_sliceSl hR hE hx hlo hhi hmx h4 he ho
          · split at hc
            · rename_i n e he; cases hc; exact op_sliceArr hR hE hx hlo hhi hmx h4 he ho
            · cases hc
    · cases hc
  · rename_i t x f
    split at hc
    · rename_i fd x' hf hx
      cases hb : Nat.blt 0 (P.cellsOf fd.type) with
      | false => rw [hb] at hc; cases hc
      | true => rw [hb, cond_true, Option.some.injEq] at hc; subst hc; exact op_fieldAddr hR hE hx hf (blt_iff.1 hb) ho
    · cases hc
  · rename_i t x f
    split at hc
    · rename_i fd x' hf hx
      cases hc
      cases hg : isAggT P fd.type with
      | true => exact op_partN hR hE hx hf hg ho
      | false => exact op_part1 hR hE hx hf hg ho
    · cases hc
  · rename_i t x i
    split at hc
    · rename_i x' i' hx hi
      split at hc
      · rename_i n e he; cases hc; exact op_idxAddrArr hR hE hx hi he ho
      · split at hc
        · rename_i e he; cases hc; exact op_idxAddrSl hR hE hx hi he ho
        · cases hc
    · cases hc
  · rename_i t x i
    split at hc
    · rename_i x' i' hx hi
      split at hc
      · rename_i n e he; cases hc; exact op_idxArr hR hE hx hi he ho
      · cases hst : isStrT P t with
        | false => rw [hst] at hc; cases hc
        | true => rw [hst, cond_true, Option.some.injEq] at hc; subst hc; exact op_idxStr hR hE hx hi hst ho
    · cases hc
  · rename_i x xt t ok
    split at hc
    · cases hc
    · rename_i d z x' hno hd hz hx
      cases hc
      exact op_assertT hR hE hx hd (fun ms q => hno ms q) hz ho
    · cases hc
  · rename_i x i
    cases hx : compOpd P x with
    | none => rw [hx] at hc; cases hc
    | some x' => rw [hx] at hc; cases hc; exact op_extract hR hE hx ho
  · rename_i c
    unfold compCall at hc
    split at hc
    · rename_i f hcl
      split at hc
      · rename_i l hl
        split at hc
        · cases hc; exact op_callV hR hE hm (f := .func f) rfl hl hcl ho
        · rename_i k hk; cases hc; exact op_ext hR hE hm hk hl hcl ho
      · cases hc
    · rename_i f _ hcl
      split at hc
      · rename_i f' l hf hl; cases hc; exact op_callV hR hE hm hf hl hcl ho
      · cases hc
    · rename_i r name hcl
      split at hc
      · rename_i r' l hr hl; cases hc; exact op_invoke hR hE hm hr hl hcl ho
      · cases hc
    · rename_i b hcl
      exact builtin_run hR hE hm hcl hc ho
  · rename_i t
    cases hd : isMapT P t with
    | false => rw [hd] at hc; cases hc
    | true => rw [hd] at hc; cases hc; exact op_mkMap hR hm hd (.inl rfl) ho
  · rename_i t k n
    cases hd : isMapT P t with
    | false => rw [hd] at hc; cases hc
    | true => rw [hd] at hc; cases hc; exact op_mkMap hR hm hd (.inr ⟨k, n, rfl⟩) ho
  · rename_i t m k ok
    split at hc
    · rename_i kk z m' k' hkk hz hm' hk'; cases hc; exact op_lookup hR hE hkk hz hm' hk' ho
    · cases hc
  · rename_i t m k v
    split at hc
    · rename_i kk m' k' v' hkk hm' hk' hv'; cases hc; exact op_update hR hE hkk hm' hk' hv' (.inl ho)
    · cases hc
  · rename_i t m k v
    split at hc
    · rename_i kk m' k' v' hkk hm' hk' hv'; cases hc; exact op_update hR hE hkk hm' hk' hv' (.inr ho)
    · cases hc
  · rename_i t x
    split at hc
    · rename_i x' hx
      cases hst : isStrT P t with
      | true => rw [hst] at hc; cases hc; exact op_rangeStr hR hE hm hx (isStr_underlying hst) ho
      | false =>
        rw [hst, cond_false] at hc
        cases hmt : isMapT P t with
        | true => rw [hmt] at hc; cases hc; exact op_rangeMap hR hE hm hx hmt ho
        | false => rw [hmt] at hc; cases hc
    · cases hc
  · rename_i x
    cases hx : compOpd P x with
    | none => rw [hx] at hc; cases hc
    | some x' => rw [hx] at hc; cases hc; exact op_nextStr hR hE hx ho
  · rename_i x
    cases hx : compOpd P x with
    | none => rw [hx] at hc; cases hc
    | some x' => rw [hx] at hc; cases hc; exact op_nextMap hR hE hx ho
  · rename_i x
    cases hx : compOpd P x with
    | none => rw [hx] at hc; cases hc
    | some x' => rw [hx] at hc; cases hc; exact op_entry hR hE hx ho
  · rename_i c
    split at hc
    · rename_i f hcl
      split at hc
      · rename_i f' l hf hl; cases hc; exact op_defer hR hE hf hl hcl ho
      · cases hc
    · cases hc
end
end Go.Proofs.YtjhgembcdndmkaaGreatDoor.Am

namespace Go.Proofs.YtjhgembcdndmkaaGreatDoor.Am
def ItemR (P : Program) (φ : Phi) (n : Nat) : Item → Go.Item → Prop
  | .code c, .code k => c = comp P n k
  | .inBlock i, .inBlock j => i = j
  | .inLoop c, .inLoop k => c = comp P n k
  | .inScope, .inScope _ => True
  | .ops l, .inRegion ops idx => l = idx.map (fun i => compOper P n ops 0 (ops.getD i default)) ∧ ∀ i ∈ idx, i < ops.size
  | .beginRound, .beginRound => True
  | .inRange l, .inRangeFunc b => φ l 0 = some (b, 0, 0)
  | .endRange l, .endRangeFunc b => φ l 0 = some (b, 0, 0)
  | _, _ => False
inductive ItemsR (P : Program) (φ : Phi) (n : Nat) : List Item → List Go.Item → Prop where
  | nil : ItemsR P φ n [] []
  | cons {x : Item} {y : Go.Item} {l : List Item} {r : List Go.Item} (h : ItemR P φ n x y) (t : ItemsR P φ n l r) : ItemsR P φ n (x :: l) (y :: r)
inductive DefsR (φ : Phi) : List AD → List Deferred → Prop where
  | nil : DefsR φ [] []
  | mark {id : Pos} {b : Nat} {l : List AD} {r : List Deferred} (h : φ id 0 = some (b, 0, 0)) (t : DefsR φ l r) : DefsR φ (.mark id :: l) ({ target := .collected b, args := #[] } :: r)
  | call {f : FuncId} {args : List AV} {d : Deferred} {l : List AD} {r : List Deferred} (h : DefR φ f args d) (t : DefsR φ l r) : DefsR φ (.call f args :: l) (d :: r)
def ModeR : Md → FrameMode → Prop
  | .run, .run => True
  | .ret, .returning => True
  | _, _ => False
def RoundR (φ : Phi) : Option Pos → Option Nat → Prop
  | none, none => True
  | some l, some b => φ l 0 = some (b, 0, 0)
  | _, _ => False
structure FrR (P : Program) (φ : Phi) (fr : Fr) (g : Frame) : Prop where
  fn : g.fn = fr.fn
  env : EnvR φ fr.env g.tmps
  size : numT P fr.fn ≤ g.tmps.size
  todo : ItemsR P φ (numT P fr.fn) fr.todo g.todo
  defers : DefsR φ fr.defers g.defers
  mode : ModeR fr.mode g.mode
  kind : g.kind = if fr.dk = true ∧ fr.round = none then .deferred else .normal
  round : RoundR φ fr.round g.roundOf
inductive FrsR (P : Program) (φ : Phi) : List Fr → List Frame → Prop where
  | nil : FrsR P φ [] []
  | cons {x : Fr} {y : Frame} {l : List Fr} {r : List Frame} (h : FrR P φ x y) (t : FrsR P φ l r) : FrsR P φ (x :: l) (y :: r)
theorem ItemR.mono {P : Program} {φ ψ : Phi} (hle : Le φ ψ) {n : Nat} {x : Item} {y : Go.Item} (h : ItemR P φ n x y) : ItemR P ψ n x y := by
  cases x <;> cases y <;> first | exact h | (exact hle _ _ _ h)
theorem ItemsR.mono {P : Program} {φ ψ : Phi} (hle : Le φ ψ) {n : Nat} {l : List Item} {r : List Go.Item} (h : ItemsR P φ n l r) : ItemsR P ψ n l r := by
  induction h with
  | nil => exact .nil
  | cons h _ ih => exact .cons (h.mono hle) ih
theorem DefR.mono {φ ψ : Phi} (hle : Le φ ψ) {f : FuncId} {args : List AV} {d : Deferred} (h : DefR φ f args d) : DefR ψ f args d :=
  let ⟨Y, h1, h2⟩ := h
  ⟨Y, h1, h2.mono hle⟩
theorem DefsR.mono {φ ψ : Phi} (hle : Le φ ψ) {l : List AD} {r : List Deferred} (h : DefsR φ l r) : DefsR ψ l r := by
  induction h with
  | nil => exact .nil
  | mark h _ ih => exact .mark (hle _ _ _ h) ih
  | call h _ ih => exact .call (h.mono hle) ih
theorem RoundR.mono {φ ψ : Phi} (hle : Le φ ψ) {x : Option Pos} {y : Option Nat} (h : RoundR φ x y) : RoundR ψ x y := by
  cases x <;> cases y <;> first | exact h | (exact hle _ _ _ h)
theorem FrR.mono {P : Program} {φ ψ : Phi} (hle : Le φ ψ) {fr : Fr} {g : Frame} (h : FrR P φ fr g) : FrR P ψ fr g :=
  ⟨h.fn, h.env.mono hle, h.size, h.todo.mono hle, h.defers.mono hle, h.mode, h.kind, h.round.mono hle⟩
theorem FrsR.mono {P : Program} {φ ψ : Phi} (hle : Le φ ψ) {l : List Fr} {r : List Frame} (h : FrsR P φ l r) : FrsR P ψ l r := by
  induction h with
  | nil => exact .nil
  | cons h _ ih => exact .cons (h.mono hle) ih
def bot (s : St) : Fr := (s.callers.getLast?).getD s.cur
def OutR (P : Program) (c0 : List Frame) (φ : Phi) (s : St) (g : Frame) (cs : List Frame) (w : World) : Out → Prop
  | .next s' => ∃ g' cs' w' φ', Steps P (lone g (cs ++ c0) w) (lone g' (cs' ++ c0) w') ∧ HR P φ' s'.hp w' ∧ FrR P φ' s'.cur g' ∧ FrsR P φ' s'.callers cs' ∧ Adv s.hp w φ s'.hp w' φ' ∧
      (bot s').fn = (bot s).fn ∧ (bot s').round = (bot s).round
  | .done v h' => ∃ w' φ' x, HR P φ' h' w' ∧ Adv s.hp w φ h' w' φ' ∧ Rel φ' v x ∧
      (∀ c cs1, c0 = c :: cs1 → Steps P (lone g (cs ++ c0) w) (lone (c.finish x) cs1 w')) ∧
      ((bot s).round = none → ∃ g', Steps P (lone g (cs ++ c0) w) (lone g' c0 w') ∧ g'.fn = (bot s).fn ∧ g'.leaving P w' (.returned x))
  | .fail _ => True
theorem frame_run {g : Frame} (h : g.mode = .run) : g = g.atR ⟨g.tmps, g.defers⟩ g.todo := by
  cases g; simp only at h; subst h; rfl
theorem bot_cons (c : Fr) (cs : List Fr) (x : Fr) (h : Hp) (h' : Hp) : bot ⟨x, c :: cs, h⟩ = bot ⟨c, cs, h'⟩ := by
  cases cs with
  | nil => rfl
  | cons d ds =>
    simp only [bot, List.getLast?_cons_cons]
    cases hq : (d :: ds).getLast? with
    | none => simp at hq
    | some y => rfl
section
variable {P : Program} {φ : Phi} {h : Hp} {w : World} {fr : Fr} {cs' : List Fr} {g : Frame} {cs c0 : List Frame}
theorem OutR.plain {fr' : Fr} {g' : Frame} (hR : HR P φ h w) (hF : FrR P φ fr' g') (hC : FrsR P φ cs' cs) (hs : Steps P (lone g (cs ++ c0) w) (lone g' (cs ++ c0) w)) (hfn : fr'.fn = fr.fn) (hro : fr'.round = fr.round) :
    OutR P c0 φ ⟨fr, cs', h⟩ g cs w (.next ⟨fr', cs', h⟩) := by
  refine ⟨g', cs, w, φ, hs, hR, hF, hC, Adv.refl h w φ, ?_, ?_⟩
  · cases cs' with
    | nil => exact hfn
    | cons c l => simp [bot, List.getLast?_cons]
  · cases cs' with
    | nil => exact hro
    | cons c l => simp [bot, List.getLast?_cons]
theorem FrR.setTodo {k : List Item} {k' : List Go.Item} (hF : FrR P φ fr g) (ht : ItemsR P φ (numT P fr.fn) k k') (hm : fr.mode = .run) : FrR P φ { fr with todo := k } (g.atR ⟨g.tmps, g.defers⟩ k') :=
  ⟨hF.fn, hF.env, hF.size, ht, hF.defers, by show ModeR fr.mode .run; rw [hm]; trivial, hF.kind, hF.round⟩
theorem OutR.to {x : Go.Item} {k0 : List Go.Item} {k : List Item} {k' : List Go.Item} (hR : HR P φ h w) (hF : FrR P φ fr g) (hC : FrsR P φ cs' cs) (hm : fr.mode = .run) (hg : g.todo = x :: k0)
    (ht : ItemsR P φ (numT P fr.fn) k k') (hs : ∀ (b : Frame) (a : Act) (cs : List Frame), b = g → a = ⟨g.tmps, g.defers⟩ → Go.step P (lone (b.atR a (x :: k0)) cs w) = .next (lone (b.atR a k') cs w)) :
    OutR P c0 φ ⟨fr, cs', h⟩ g cs w (.next ⟨{ fr with todo := k }, cs', h⟩) := by
  have hmode : g.mode = .run := by
    have := hF.mode
    rw [hm] at this
    cases hgm : g.mode <;> rw [hgm] at this <;> first | rfl | (cases this)
  refine OutR.plain hR (hF.setTodo ht hm) hC ?_ rfl rfl
  have e := frame_run hmode
  rw [hg] at e
  have := hs g ⟨g.tmps, g.defers⟩ (cs ++ c0) rfl rfl
  rw [← e] at this
  exact .one this
theorem exitA_spec {n : Nat} {k : List Item} {k' : List Go.Item} (h : ItemsR P φ n k k') (id : Nat) :
    (∀ r, exitA id k = some r → ∃ r', exitTo id k' = some r' ∧ ItemsR P φ n r r') ∧ (exitA id k = none → exitTo id k' = none) := by
  induction h with
  | nil => exact ⟨fun r e => (by cases e), fun _ => rfl⟩
  | @cons x y l r hx ht ih =>
    cases x <;> cases y <;> first | (cases hx; done) | skip
    case inBlock.inBlock i j =>
      have hij : i = j := hx
      subst hij
      unfold exitA exitTo
      by_cases e : i = id
      · subst e
        simp only [beq_iff.2 rfl, cond_true, BEq.rfl, if_true]
        exact ⟨fun r e => (by cases e; exact ⟨_, rfl, ht⟩), fun e => (by cases e)⟩
      · have e' : (i == id) = false := by simpa using e
        simp only [beq_false.2 e, cond_false, e', Bool.false_eq_true, if_false]
        exact ih
    all_goals (unfold exitA exitTo; exact ih)
end
end Go.Proofs.YtjhgembcdndmkaaGreatDoor.Am

namespace Go.Proofs.YtjhgembcdndmkaaGreatDoor.Am
theorem compFn_spec {P : Program} {f : FuncId} {fu : Fu} (h : compFn P f = some fu) :
    ∃ fn b, P.funcs[f]? = some fn ∧ fn.body = some b ∧ mapO (compRV P) fn.results.toList = some fu.results ∧ fu.nargs = fn.ntmps ∧ fu.body = comp P fn.ntmps b ∧ numT P f = fn.ntmps := by
  unfold compFn at h
  split at h
  · cases h
  · rename_i fn hf
    split at h
    · cases h
    · rename_i b hb
      split at h
      · rename_i r hr
        cases h
        exact ⟨fn, b, hf, hb, hr, rfl, rfl, by simp [numT, hf]⟩
      · cases h
theorem ev_setArgs (l : List AV) (env : T AV) (i t : Nat) : ev (setArgs env i l) (.tmp (Pos.ofNat t)) = if i ≤ t ∧ t < i + l.length then l.getD (t - i) .undef else ev env (.tmp (Pos.ofNat t)) := by
  induction l generalizing env i with
  | nil => rw [setArgs, if_neg (by simp only [List.length_nil]; omega)]
  | cons v l ih =>
    unfold setArgs
    rw [T.setK_eq, ih, ev_set]
    by_cases h1 : i + 1 ≤ t ∧ t < i + 1 + l.length
    · rw [if_pos h1, if_pos ⟨by omega, by simp; omega⟩, show t - i = (t - (i + 1)) + 1 by omega]; rfl
    · rw [if_neg h1]
      by_cases h2 : t = i
      · subst h2
        rw [if_pos rfl, if_pos ⟨Nat.le_refl _, by simp⟩, Nat.sub_self]; rfl
      · rw [if_neg (fun q => h2 (Pos.ofNat_inj q)), if_neg (by simp; omega)]
theorem ev_empty (x : Pos) : ev .e (.tmp x) = .undef := by simp [ev, T.get_e]
theorem begin_run {P : Program} {φ : Phi} {f : FuncId} {args : List AV} {xs : Array Value} {fr : Fr} (h : beginFn P f args = some fr) (hx : RelL φ args xs.toList) :
    FrR P φ fr (Frame.enter P f xs .normal) ∧ fr.fn = f ∧ fr.round = none ∧ ∃ fn b, P.funcs[f]? = some fn ∧ fn.body = some b := by
  unfold beginFn at h
  split at h
  · rename_i fu hfu
    obtain ⟨fn, b, h1, h2, h3, h4, h5, h6⟩ := compFn_spec hfu
    cases hb : Nat.ble args.length fu.nargs with
    | false => rw [hb] at h; cases h
    | true =>
      rw [hb, cond_true, Option.some.injEq] at h
      have hb := ble_iff.1 hb
      rw [h4] at hb
      have hl : args.length = xs.size := by rw [hx.length, Array.length_toList]
      subst h
      have ht : (Frame.enter P f xs .normal).tmps = xs ++ Array.replicate (fn.ntmps - xs.size) Go.undef := by simp [Frame.enter, h1]
      refine ⟨⟨rfl, ?_, ?_, ?_, .nil, trivial, rfl, trivial⟩, rfl, rfl, fn, b, h1, h2⟩
      · intro t
        rw [ev_setArgs, ht, Array.getD_eq_getD_getElem?, Array.getElem?_append, ev_empty]
        by_cases c : t < args.length
        · rw [if_pos ⟨Nat.zero_le _, by omega⟩, if_pos (by omega), Nat.sub_zero, List.getD_eq_getElem?_getD]
          obtain ⟨x, e1, e2⟩ := hx.get (List.getElem?_eq_getElem c)
          rw [Array.getElem?_toList] at e1
          rw [e1, List.getElem?_eq_getElem c]
          exact e2
        · rw [if_neg (by omega), if_neg (by omega), Array.getElem?_replicate]
          by_cases c2 : t - xs.size < fn.ntmps - xs.size
          · rw [if_pos c2]; exact Rel.undef
          · rw [if_neg c2]; exact Rel.undef
      · rw [ht, h6]; simp; omega
      · have e : (Frame.enter P f xs .normal).todo = [.code b] := by simp [Frame.enter, h1, h2]
        rw [e]
        exact .cons (by show fu.body = _; rw [h5, h6]) .nil
  · cases h
theorem okDst_lt {n d : Nat} (h : okDst n (some d) = true) : d < n := blt_iff.1 h
section
variable {P : Program} {φ : Phi} {fr : Fr} {g : Frame}
theorem give_run {v : AV} {x : Value} (k : Fr → Out) (hF : FrR P φ fr g) (hv : Rel φ v x) :
    (∃ why, give fr v k = .fail why) ∨ ∃ fr', give fr v k = k fr' ∧ FrR P φ fr' (g.finish x) ∧ fr'.fn = fr.fn ∧ fr'.round = fr.round := by
  have ht := hF.todo
  unfold give
  split
  · rename_i o rest td e
    rw [e] at ht
    cases hok : o.ok with
    | false => exact .inl ⟨_, rfl⟩
    | true =>
      rw [cond_true]
      generalize hg : g.todo = gt at ht
      cases ht with
      | @cons x1 y l r hx ht =>
        cases y <;> first | (cases hx; done) | skip
        rename_i ops idx
        obtain ⟨h1, h2⟩ := hx
        cases idx with
        | nil => cases h1
        | cons i idx =>
          rw [List.map_cons, List.cons.injEq] at h1
          obtain ⟨h1, h3⟩ := h1
          have hi := h2 i (by simp)
          have hoi : ops[i]? = some (ops.getD i default) := by rw [Array.getD_eq_getD_getElem?, Array.getElem?_eq_getElem hi]; rfl
          have hitem : ItemR P φ (numT P fr.fn) (.ops rest) (.inRegion ops idx) := ⟨h3, fun j hj => h2 j (by simp [hj])⟩
          have hfin : g.finish x = { g with tmps := (match (ops.getD i default).dst with | some d => g.tmps.setIfInBounds d x | none => g.tmps), todo := .inRegion ops idx :: r } := by
            simp only [Frame.finish, hg, hoi, Option.bind_some]
            cases (ops.getD i default).dst <;> rfl
          have hdst : o.dst = (ops.getD i default).dst.map Pos.ofNat := by rw [h1]; rfl
          have hokd : okDst (numT P fr.fn) (ops.getD i default).dst = true := by
            rw [h1] at hok
            simp only [compOper, Bool.and_eq_true] at hok
            exact hok.1
          rw [hfin]
          cases hd : (ops.getD i default).dst with
          | none =>
            rw [hd, Option.map_none] at hdst
            rw [hdst]
            exact .inr ⟨_, rfl, ⟨hF.fn, hF.env, hF.size, .cons hitem ht, hF.defers, hF.mode, hF.kind, hF.round⟩, rfl, rfl⟩
          | some d =>
            rw [hd, Option.map_some] at hdst
            rw [hdst]
            simp only [T.setK_eq]
            rw [hd] at hokd
            have hdl := okDst_lt hokd
            have := hF.size
            refine .inr ⟨_, rfl, ⟨hF.fn, hF.env.set hv (by omega), ?_, .cons hitem ht, hF.defers, hF.mode, hF.kind, hF.round⟩, rfl, rfl⟩
            simpa using hF.size
  · rename_i l td e
    rw [e] at ht
    generalize hg : g.todo = gt at ht
    cases ht with
    | @cons x1 y l r hx ht =>
      cases y <;> first | (cases hx; done) | skip
      rename_i b
      have hfin : g.finish x = { g with todo := .endRangeFunc b :: r } := by simp only [Frame.finish, hg]
      rw [hfin]
      exact .inr ⟨_, rfl, ⟨hF.fn, hF.env, hF.size, .cons hx ht, hF.defers, hF.mode, hF.kind, hF.round⟩, rfl, rfl⟩
  · exact .inl ⟨_, rfl⟩
theorem result_run {h : Hp} {w : World} (hR : HR P φ h w) {env : T AV} {tmps : Array Value} (hE : EnvR φ env tmps) {r : ResultVar} {rv : RV} {v : AV} (hc : compRV P r = some rv) (hv : result1 env h rv = some v) :
    ∃ x, ((match r with | .tmp t => pure (tmps.getD t Go.undef) | .cell a t => do loadVar t (← asAddr (tmps.getD a Go.undef)) : Sem Value)).run P w = .ok x w ∧ Rel φ v x := by
  cases r with
  | tmp t =>
    simp only [compRV, Option.some.injEq] at hc
    subst hc
    simp only [result1, Option.some.injEq] at hv
    subst hv
    exact ⟨_, rfl, hE t⟩
  | cell a t =>
    simp only [compRV] at hc
    cases hk : okT P t with
    | false => rw [hk] at hc; cases hc
    | true =>
      rw [hk, cond_true, Option.some.injEq] at hc
      subst hc
      obtain ⟨d, hd⟩ := okT_desc hk
      have ha := hE a
      cases hg : isAggT P t with
      | true =>
        rw [hg, cond_true] at hv
        simp only [result1] at hv
        split at hv
        · rename_i id gg off e
          rw [e] at ha
          obtain ⟨ad, b, s, n, hX, k1, k2, k3, k4⟩ := rel_ptr ha
          split at hv
          · rename_i c hc
            cases hv
            obtain ⟨xs, e1, e2, e3, e4⟩ := readN_run hR hc k1 k2 k3 (fun _ => k4)
            refine ⟨.agg xs.toArray, ?_, .agg (by simpa using e2)⟩
            simp only [hX, asAddr, loadVar, Sem.run_bind, Sem.run_pure, Result.andThen_ok, run_isAgg' hd, hg, if_true, run_sizeOf' hk, e1]
          · cases hv
        · cases hv
      | false =>
        rw [hg, cond_false] at hv
        simp only [result1] at hv
        split at hv
        · rename_i id gg off e
          rw [e] at ha
          obtain ⟨ad, b, s, n, hX, k1, k2, k3, k4⟩ := rel_ptr ha
          obtain ⟨y, e1, e2⟩ := read1_run hR hv k1 k2 k3 k4
          refine ⟨y, ?_, e2⟩
          simp only [hX, asAddr, loadVar, Sem.run_bind, Sem.run_pure, Result.andThen_ok, run_isAgg' hd, hg, Bool.false_eq_true, if_false, run_load, e1]
        · cases hv
theorem results_run {h : Hp} {w : World} (hR : HR P φ h w) {env : T AV} {tmps : Array Value} (hE : EnvR φ env tmps) {fn : Func} {rvs : List RV} {vs : List AV} (hc : mapO (compRV P) fn.results.toList = some rvs)
    (hv : mapO (result1 env h) rvs = some vs) : ∃ x, (results fn tmps).run P w = .ok x w ∧ Rel φ (tupleA vs) x := by
  have key : ∀ (rs : List ResultVar) (rvs : List RV) (vs : List AV), mapO (compRV P) rs = some rvs → mapO (result1 env h) rvs = some vs →
      ∃ xs, (rs.mapM (m := Sem) fun | .tmp t => pure (tmps.getD t Go.undef) | .cell a t => do loadVar t (← asAddr (tmps.getD a Go.undef))).run P w = .ok xs w ∧ RelL φ vs xs := by
    intro rs
    induction rs with
    | nil =>
      intro rvs vs h1 h2
      simp only [mapO, Option.some.injEq] at h1
      subst h1
      simp only [mapO, Option.some.injEq] at h2
      subst h2
      exact ⟨[], by simp, .nil⟩
    | cons r rs ih =>
      intro rvs vs h1 h2
      unfold mapO at h1
      split at h1
      · rename_i rv hrv
        split at h1
        · rename_i rvs' hrs
          cases h1
          unfold mapO at h2
          split at h2
          · rename_i v hv1
            split at h2
            · rename_i vs' hvs
              cases h2
              obtain ⟨x, e1, e2⟩ := result_run hR hE hrv hv1
              obtain ⟨xs, e3, e4⟩ := ih rvs' vs' hrs hvs
              refine ⟨x :: xs, ?_, .cons e2 e4⟩
              rw [List.mapM_cons, Sem.run_bind]
              refine (congrArg (fun q => Result.andThen q _) e1).trans ?_
              rw [Result.andThen_ok, Sem.run_bind]
              refine (congrArg (fun q => Result.andThen q _) e3).trans ?_
              rfl
            · cases h2
          · cases h2
        · cases h1
      · cases h1
  obtain ⟨xs, e1, e2⟩ := key fn.results.toList rvs vs hc hv
  unfold results
  rw [Sem.run_bind, Array.mapM_eq_mapM_toList, Sem.run_map]
  have e1' := congrArg (fun q => Result.andThen q fun a w' => Result.ok (List.toArray a) w') e1
  refine ⟨if h : xs.toArray.size = 1 then xs.toArray[0] else .tuple xs.toArray, ?_, ?_⟩
  · refine (congrArg (fun q => Result.andThen q _) e1').trans ?_
    rfl
  · cases e2 with
    | nil => exact .tup .nil
    | cons h t =>
      cases t with
      | nil => exact h
      | cons h2 t2 =>
        rw [dif_neg (by simp)]
        exact .tup (.cons h (.cons h2 t2))
end
end Go.Proofs.YtjhgembcdndmkaaGreatDoor.Am
