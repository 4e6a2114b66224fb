import Derived.Test.YtpbhlpajhdlemaaGreatDoorAmE
/- THE ABSTRACT MACHINE, part F: a machine over values without block numbers, run by the kernel, and the proof that the model's machine does what it does. No condition. -/
set_option linter.unusedSimpArgs false
set_option linter.unusedVariables false
namespace Go.Proofs.YtpbhlpajhdlemaaGreatDoor.Am

section
variable {P : Program} {φ : Phi} {h : Hp} {w : World}

/-- A block that is no row of cells is changed in its place. -/
theorem put_block (hR : HR P φ h w) {id : Pos} {b : Nat} {blk blk' : Blk} (hid : T.get id h.heap = some blk) (hnc : blk.free) (hφ : φ id 0 = some (b, 0, 0)) (ser : Nat) {o' : Obj} (hB : BR P φ (putO w b o') id blk') :
    HR P φ ⟨T.set id (some blk') h.heap, h.next, ser, h.lim⟩ (putO w b o') ∧ Adv h w φ ⟨T.set id (some blk') h.heap, h.next, ser, h.lim⟩ (putO w b o') φ := by
  have u : Upd h w φ id h.next (putO w b o') φ := Upd.same hR hid (by simp [putO]) (fun y hy kk => putO_ne (fun c => kk 0 0 0 (by rw [c]; exact hφ))) rfl rfl rfl
  refine ⟨hR.update u (.inr ⟨_, hid, hnc⟩) fun x hx => ?_, Adv.update hR u (.inr ⟨_, hid, hnc⟩)⟩
  cases hx
  exact hB

/-- A new block that is no row of cells. -/
theorem new_block (hR : HR P φ h w) (hm : Room h) (ser : Nat) {o : Obj} {blk : Blk} (hB : BR P (φ.put h.next 0 (w.heap.size, 0, 0)) (w.alloc o) h.next blk) :
    HR P (φ.put h.next 0 (w.heap.size, 0, 0)) ⟨T.set h.next (some blk) h.heap, h.next.succ, ser, h.lim⟩ (w.alloc o) ∧ Adv h w φ ⟨T.set h.next (some blk) h.heap, h.next.succ, ser, h.lim⟩ (w.alloc o) (φ.put h.next 0 (w.heap.size, 0, 0)) ∧ Le φ (φ.put h.next 0 (w.heap.size, 0, 0)) := by
  have u := Upd.alloc hR hm o 0
  refine ⟨hR.update u (.inl ⟨Nat.le_refl _, by rw [Pos.num_succ]; omega, hR.next_none hm⟩) fun x hx => ?_, Adv.update hR u (.inl ⟨Nat.le_refl _, by rw [Pos.num_succ]; omega, hR.next_none hm⟩), u.le⟩
  cases hx
  exact hB

theorem putO_self {b : Nat} {o : Obj} (h : w.heap[b]? = some o) : putO w b o = w := by
  unfold putO
  have : w.heap.setIfInBounds b o = w.heap := by
    apply Array.ext_getElem?
    intro i
    rw [Array.getElem?_setIfInBounds]
    by_cases c : b = i
    · subst c
      rw [if_pos rfl, if_pos (heap_lt h), h]
    · rw [if_neg c]
  rw [this]

variable {env : T AV} {a : Act} {o : Oper}

theorem op_rangeStr (hR : HR P φ h w) (hE : EnvR φ env a.tmps) (hm : Room h) {t : TypeId} {x : Operand} {x' : Opd} (hx : compOpd P x = some x') (hd : P.underlying t = some .string) (ho : o.op = .range t x) : ResR P φ h w (evalOp P (.rangeStr x') env h) ((execOp a.eval o).run P w) := by
  have rx := opd_rel hR hE hx
  unfold evalOp
  simp only
  generalize hX : a.eval x = X at *
  split
  · rename_i n v e
    rw [e] at rx
    cases rx with
    | @str _ _ s hs hv =>
      rw [newK_eq]
      obtain ⟨q1, q2, q3⟩ := new_block hR hm (Nat.succ h.ser) (o := .stringIter s 0) (blk := .sit h.ser n v 0) ⟨w.heap.size, s, Phi.put_same _ _ _ _, alloc_new _ _, hs, hv⟩
      refine ⟨_, .pointer (some ⟨w.heap.size, 0, none⟩), w.alloc (.stringIter s 0), _, ?_, .inl rfl, q1, q2, .ptr (Phi.put_same _ _ _ _) rfl rfl rfl⟩
      simp only [execOp, ho, hX, Instr.range, Sem.run_bind, run_underlying hd, Result.andThen_ok, Sem.run_pure, run_newObj]
      rfl
  · trivial

theorem byteAt_get {n v : Nat} {s : ByteArray} (hs : s.data.toList = unpack n v) {pos : Nat} (hp : pos < n) : (s.get! pos).toNat = byteAt n v pos := by
  have hg := unpack_get n v pos hp
  rw [← hs, Array.getElem?_toList] at hg
  have e : s.get! pos = UInt8.ofNat (v / 256 ^ (n - 1 - pos)) := by
    show s.data[pos]! = _
    rw [getElem!_def, hg]
  rw [e]
  unfold byteAt
  show (UInt8.ofNat (v / 256 ^ (n - 1 - pos))).toNat = v / 256 ^ (n - (pos + 1)) % 256
  rw [UInt8.toNat_ofNat', show n - (pos + 1) = n - 1 - pos by omega]

theorem rune_run {n v : Nat} {s : ByteArray} (hs : s.data.toList = unpack n v) {pos : Nat} (hp : pos < n) : runeA n v pos (byteAt n v pos) = Utf8.decode s pos := by
  have hse : s = ⟨(unpack n v).toArray⟩ := by
    cases s
    simp only at hs
    rw [← hs, Array.toArray_toList]
  unfold runeA
  cases hb : Nat.blt (byteAt n v pos) 128 with
  | false => rw [cond_false, ← hse]
  | true =>
    rw [cond_true]
    have hb := blt_iff.1 hb
    have hb' : (s.get! (pos + 0)).toNat < 0x80 := by rw [Nat.add_zero, byteAt_get hs hp]; exact hb
    rw [← byteAt_get hs hp]
    unfold Utf8.decode
    exact (if_pos hb').symm

theorem op_nextStr (hR : HR P φ h w) (hE : EnvR φ env a.tmps) {x : Operand} {x' : Opd} (hx : compOpd P x = some x') (ho : o.op = .next x true) : ResR P φ h w (evalOp P (.nextStr x') env h) ((execOp a.eval o).run P w) := by
  have rx := opd_rel hR hE hx
  unfold evalOp
  simp only
  generalize hX : a.eval x = X at *
  split
  · rename_i id g off e
    rw [e] at rx
    cases hb : (Nat.beq g 0 && Nat.beq off 0) with
    | false => trivial
    | true =>
      rw [cond_true]
      rw [Bool.and_eq_true] at hb
      have hg : g = 0 := Nat.eq_of_beq_eq_true hb.1
      have ho' : off = 0 := Nat.eq_of_beq_eq_true hb.2
      subst hg; subst ho'
      split
      · rename_i ser n v pos hid
        obtain ⟨b, s, e1, e2, e3, e4⟩ := hR.blk _ _ hid
        cases rx with
        | @ptr _ _ _ b1 s1 n1 a1 p1 q1 r1 t1 =>
          rw [e1] at p1
          cases p1
          have ha1 : a1 = ⟨b, 0, none⟩ := by
            obtain ⟨ab, ao, as⟩ := a1
            simp only at q1 r1 t1
            subst q1; subst t1
            have : ao = 0 := by omega
            subst this; rfl
          subst ha1
          have hsz : s.size = n := by rw [← unpack_length n v, ← e3]; simp
          cases hp : Nat.blt pos n with
          | true =>
            have hp := blt_iff.1 hp
            rw [cond_true]
            simp only [natK_eq, T.setK_eq]
            rw [rune_run e3 hp]
            obtain ⟨q1, q2⟩ := put_block hR hid trivial e1 h.ser (blk' := .sit ser n v (Nat.add pos (Utf8.decode s pos).2)) (o' := .stringIter s (pos + (Utf8.decode s pos).2)) ⟨b, s, e1, putO_same e2, e3, e4⟩
            refine ⟨_, .tuple #[.bool true, goInt pos, .int .i32 (Utf8.decode s pos).1], putO w b (.stringIter s (pos + (Utf8.decode s pos).2)), φ, ?_, .inl rfl, q1, q2, .tup (.cons (.bool true) (.cons (.int _ _) (.cons (.int _ _) .nil)))⟩
            simp only [execOp, ho, hX, Instr.next, Sem.run_bind, run_getObj e2 (fun _ _ _ q => by cases q), Result.andThen_ok, hsz, hp, if_true, run_setObj e2 (fun _ _ _ q => by cases q), Sem.run_pure]
          | false =>
            have hp : ¬ pos < n := by
              intro q
              rw [blt_iff.2 q] at hp; cases hp
            rw [cond_false]
            refine ResR.pure hR (x := .tuple #[.bool false]) (.tup (.cons (.bool false) .nil)) ?_
            simp only [execOp, ho, hX, Instr.next, Sem.run_bind, run_getObj e2 (fun _ _ _ q => by cases q), Result.andThen_ok, hsz, hp, if_false, Sem.run_pure]
      · trivial
  · trivial

theorem isMapT_facts {t : TypeId} (e : isMapT P t = true) : ∃ k v, P.underlying t = some (.map k v) := by
  unfold isMapT at e
  split at e
  · exact ⟨_, _, by assumption⟩
  · cases e

theorem op_mkMap (hR : HR P φ h w) (hm : Room h) {t : TypeId} {r : Option Operand} (hd : isMapT P t = true) (hr : r = none ∨ ∃ k n, r = some (.const (.int k n))) (ho : o.op = .makeMap t r) : ResR P φ h w (evalOp P .mkMap env h) ((execOp a.eval o).run P w) := by
  obtain ⟨kt, et, hd⟩ := isMapT_facts hd
  unfold evalOp
  rw [newK_eq]
  obtain ⟨q1, q2, q3⟩ := new_block hR hm (Nat.succ h.ser) (o := .map #[] 0) (blk := .map 0 [] 0) ⟨w.heap.size, #[], Phi.put_same _ _ _ _, alloc_new _ _, .nil⟩
  refine ⟨_, .map (some w.heap.size), w.alloc (.map #[] 0), _, ?_, .inl rfl, q1, q2, .map (Phi.put_same _ _ _ _)⟩
  rcases hr with rfl | ⟨k, n, rfl⟩
  · simp only [execOp, ho, Instr.makeMap, Option.map_none, Sem.run_bind, Result.andThen_ok, Sem.run_pure, run_newObj]
    rfl
  · have : a.eval (.const (.int k n)) = .int k n := rfl
    simp only [execOp, ho, Instr.makeMap, Option.map_some, this, Sem.run_bind, run_underlying hd, Result.andThen_ok, Sem.run_pure, run_newObj, asInt, asIntOf]
    rfl

theorem op_lenM (hR : HR P φ h w) (hE : EnvR φ env a.tmps) {c : Call} {x : Operand} {x' : Opd} {t k e : TypeId} (hx : compOpd P x = some x') (hd : P.underlying t = some (.map k e)) (hc : c.callee = .builtin .len) (ha : c.args.toList = [x]) (htt : c.argTypes.toList = [t]) (ho : o.op = .call c) :
    ResR P φ h w (evalOp P (.lenM x') env h) ((execOp a.eval o).run P w) := by
  have rx := opd_rel hR hE hx
  have ha : c.args = #[x] := by rw [← Array.toArray_toList (xs := c.args), ha]
  have htt : c.argTypes = #[t] := by rw [← Array.toArray_toList (xs := c.argTypes), htt]
  have hrun : (execOp a.eval o).run P w = ((Builtin.len_ #[t] o.type #[a.eval x]).run P w).andThen fun v w' => .ok (.value v) w' := by
    rw [exec_builtin ho hc, ha, htt]
    show (do pure (Next.value (← Builtin.len_ #[t] o.type (#[x].map a.eval))) : Sem Next).run P w = _
    rw [Sem.run_bind, show #[x].map a.eval = #[a.eval x] by simp]
    rfl
  rw [hrun]
  unfold evalOp
  simp only
  generalize hX : a.eval x = X at *
  split
  · rename_i e
    rw [e] at rx
    cases rx
    refine ResR.pure hR (x := goInt 0) (.int _ _) ?_
    simp [Builtin.len_, Sem.run_bind, run_underlying hd]
  · rename_i id e
    rw [e] at rx
    cases rx with
    | @map _ b hφ =>
      split
      · rename_i ser es clock hid
        obtain ⟨b', E, e1, e2, e3⟩ := hR.blk _ _ hid
        rw [hφ] at e1
        cases e1
        simp only [natK_eq]
        refine ResR.pure hR (x := goInt E.size) ?_ ?_
        · rw [e3.length, Array.length_toList]
          exact .int _ _
        · simp [Builtin.len_, Sem.run_bind, run_underlying hd, run_getObj e2 (fun _ _ _ q => by cases q)]
      · trivial
  · trivial
end
end Go.Proofs.YtpbhlpajhdlemaaGreatDoor.Am

namespace Go.Proofs.YtpbhlpajhdlemaaGreatDoor.Am

section
variable {P : Program} {φ : Phi} {h : Hp} {w : World}

theorem findA_get {kk : KK} {k : AV} : ∀ {es : List (AV × AV × Nat)} {s i : Nat} {v : AV}, findA P h kk k es s = some (some (i, v)) → ∃ j k0 n, i = s + j ∧ es[j]? = some (k0, v, n) ∧ keyEq P h kk k k0 = some true
  | [], s, i, v, e => by cases e
  | (k', v', n) :: es, s, i, v, e => by
    unfold findA at e
    split at e
    · rename_i hq
      cases e
      exact ⟨0, k', n, rfl, rfl, hq⟩
    · obtain ⟨j, k0, n0, h1, h2, h3⟩ := findA_get e
      exact ⟨j + 1, k0, n0, by omega, h2, h3⟩
    · cases e

theorem EntsR.get {es : List (AV × AV × Nat)} {E : List MapEntry} (hE : EntsR φ es E) : ∀ {j : Nat} {k v : AV} {n : Nat}, es[j]? = some (k, v, n) → ∃ x y, E[j]? = some { key := x, val := y, born := n } ∧ Rel φ k x ∧ Rel φ v y := by
  induction hE with
  | nil => intro j k v n e; simp at e
  | cons hk hv t ih =>
    intro j k v n e
    cases j with
    | zero => simp at e; obtain ⟨rfl, rfl, rfl⟩ := e; exact ⟨_, _, rfl, hk, hv⟩
    | succ j => simpa using ih (by simpa using e)

theorem EntsR.setAt {es : List (AV × AV × Nat)} {E : List MapEntry} (hE : EntsR φ es E) {k v : AV} {x y : Value} (hk : Rel φ k x) (hv : Rel φ v y) : ∀ (i : Nat), EntsR φ (setAt es i k v) (E.modify i fun e => { e with key := x, val := y }) := by
  induction hE with
  | nil => intro i; cases i <;> exact .nil
  | cons hk' hv' t ih =>
    intro i
    cases i with
    | zero => exact .cons hk hv t
    | succ i => exact .cons hk' hv' (ih i)

theorem EntsR.push {es : List (AV × AV × Nat)} {E : List MapEntry} (hE : EntsR φ es E) {k v : AV} {n : Nat} {x y : Value} (hk : Rel φ k x) (hv : Rel φ v y) : EntsR φ (es ++ [(k, v, n)]) (E ++ [{ key := x, val := y, born := n }]) := by
  induction hE with
  | nil => exact .cons hk hv .nil
  | cons hk' hv' t ih => exact .cons hk' hv' ih

theorem EntsR.erase {es : List (AV × AV × Nat)} {E : List MapEntry} (hE : EntsR φ es E) : ∀ (i : Nat), EntsR φ (es.eraseIdx i) (E.eraseIdx i) := by
  induction hE with
  | nil => intro i; exact .nil
  | cons hk' hv' t ih =>
    intro i
    cases i with
    | zero => exact t
    | succ i => exact .cons hk' hv' (ih i)

theorem EntsR.filter {es : List (AV × AV × Nat)} {E : List MapEntry} (hE : EntsR φ es E) (p : Nat → Bool) : EntsR φ (es.filter fun e => p e.2.2) (E.filter fun e => p e.born) := by
  induction hE with
  | nil => exact .nil
  | @cons k v n x y l r hk' hv' t ih =>
    simp only [List.filter_cons]
    cases p n with
    | true => exact .cons hk' hv' ih
    | false => exact ih

theorem EntsR.all {es : List (AV × AV × Nat)} {E : List MapEntry} (hE : EntsR φ es E) (p : Nat → Bool) : (es.all fun e => p e.2.2) = E.all fun e => p e.born := by
  induction hE with
  | nil => rfl
  | cons hk' hv' t ih => simp only [List.all_cons, ih]

theorem EntsR.find {es : List (AV × AV × Nat)} {E : List MapEntry} (hE : EntsR φ es E) (p : Nat → Bool) {e : AV × AV × Nat} (he : es.find? (fun e => p e.2.2) = some e) : ∃ x y, E.find? (fun e => p e.born) = some { key := x, val := y, born := e.2.2 } ∧ Rel φ e.1 x ∧ Rel φ e.2.1 y := by
  induction hE with
  | nil => cases he
  | @cons k v n x y l r hk' hv' t ih =>
    simp only [List.find?_cons] at he ⊢
    cases hp : p n with
    | true => rw [hp] at he; cases he; exact ⟨_, _, rfl, hk', hv'⟩
    | false => rw [hp] at he; exact ih he

/-- Keys that are found alike are so bit for bit. -/
theorem bits_one {k : LK} {a b : AV} {x y : Value} (hx : Rel φ a x) (hy : Rel φ b y) (e : sameK k a b = some true) (n : Nat) : Instr.sameBits n y x = true := by
  unfold sameK at e
  split at e
  · rename_i p q
    cases hx; cases hy
    simp only [Option.some.injEq] at e
    have := eq_of_beq e
    subst this
    cases n <;> simp [Instr.sameBits]
  · rename_i i m j l
    cases hx; cases hy
    split at e
    · rename_i e1
      subst e1
      rw [cmpA_eq] at e
      by_cases c : m = l
      · subst c
        cases n <;> simp [Instr.sameBits]
      · exfalso
        by_cases c' : m < l <;> simp [c, c'] at e
    · cases e
  · cases hx with
    | str hs hv => cases hy with
      | str ht hu =>
        simp only [Option.some.injEq, Bool.and_eq_true] at e
        have e1 := Nat.eq_of_beq_eq_true e.1
        have e2 := Nat.eq_of_beq_eq_true e.2
        subst e1; subst e2
        have := bytes_beq ht hu hs hv
        rw [show (Nat.beq _ _ && Nat.beq _ _) = true by simp] at this
        cases n <;> simpa [Instr.sameBits] using this
  · cases e

theorem bits_list {ks : List LK} : ∀ {l r : List AV} {xs ys : List Value}, RelL φ l xs → RelL φ r ys → sameKs ks l r = some true → ∀ n, ys.length = xs.length ∧ (ys.zip xs).all (fun (p : Value × Value) => Instr.sameBits n p.1 p.2) = true := by
  induction ks with
  | nil =>
    intro l r xs ys h1 h2 e n
    have := sameKs_length e
    have e1 : l = [] := List.length_eq_zero_iff.1 (by simpa using this.1)
    have e2 : r = [] := List.length_eq_zero_iff.1 (by simpa using this.2)
    subst e1; subst e2
    cases h1; cases h2
    exact ⟨rfl, rfl⟩
  | cons k ks ih =>
    intro l r xs ys h1 h2 e n
    cases h1 with
    | nil => simp [sameKs] at e
    | cons h1 t1 => cases h2 with
      | nil => simp [sameKs] at e
      | cons h2 t2 =>
        simp only [sameKs] at e
        split at e
        · rename_i x hx
          split at e
          · rename_i y hy
            simp only [Option.some.injEq] at e
            cases x with
            | false => cases e
            | true =>
              cases y with
              | false => cases e
              | true =>
                obtain ⟨q1, q2⟩ := ih t1 t2 hy n
                refine ⟨by simp [q1], ?_⟩
                simp only [List.zip_cons_cons, List.all_cons, bits_one h1 h2 hx n, Bool.true_and]
                exact q2
          · cases e
        · cases e

theorem bits_ptr (hR : HR P φ h w) {a b : AV} {x y : Value} (hx : Rel φ a x) (hy : Rel φ b y) (e : sameP h a b = some true) (n : Nat) : Instr.sameBits n y x = true := by
  unfold sameP at e
  split at e
  · cases hx; cases hy
    cases n <;> simp [Instr.sameBits]
  · cases e
  · cases e
  · rename_i id g off id' g' off'
    cases hx with
    | @ptr _ _ _ b1 s1 n1 a1 p1 q1 r1 t1 => cases hy with
      | @ptr _ _ _ b2 s2 n2 a2 p2 q2 r2 t2 =>
        cases hsp : samePos id id' with
        | true =>
          rw [hsp, cond_true] at e
          have := samePos_iff.1 hsp
          subst this
          cases hg : Nat.beq g g' with
          | false => rw [hg] at e; cases e
          | true =>
            rw [hg, cond_true] at e
            have := Nat.eq_of_beq_eq_true hg
            subst this
            rw [p1] at p2
            cases p2
            simp only [Option.some.injEq] at e
            have := Nat.eq_of_beq_eq_true e
            subst this
            have hae : a2 = a1 := by
              obtain ⟨ab, ao, as⟩ := a1
              obtain ⟨bb, bo, bs⟩ := a2
              simp only at q1 q2 r1 r2 t1 t2
              subst q1; subst q2; subst t1; subst t2
              have : ao = bo := by omega
              subst this; rfl
            subst hae
            cases n <;> simp [Instr.sameBits]
        | false =>
          rw [hsp, cond_false] at e
          split at e
          · rename_i m ro fz _ _ _ _ _ _ m' ro' fz' _ _
            revert e
            cases (Nat.ble _ g && Nat.ble _ g' && !(_ || _ || _ || _)) <;> (intro e; cases e)
          · cases e
  · cases e

theorem bits_key (hR : HR P φ h w) {kk : KK} {a b : AV} {x y : Value} (hx : Rel φ a x) (hy : Rel φ b y) (e : keyEq P h kk a b = some true) : Instr.sameBits 10000 y x = true := by
  unfold keyEq at e
  split at e
  · exact bits_one hx hy e _
  · exact bits_ptr hR hx hy e _
  · cases hx with
    | agg hl => cases hy with
      | agg hr =>
        obtain ⟨q1, q2⟩ := bits_list hl hr e 9999
        show Instr.sameBits (9999 + 1) _ _ = true
        unfold Instr.sameBits
        rw [Bool.and_eq_true]
        refine ⟨?_, q2⟩
        rw [Array.length_toList, Array.length_toList] at q1
        rw [q1]; simp
  · rename_i t1 x1 t2 x2
    cases hx with
    | ifc hx => cases hy with
      | ifc hy =>
        cases ht : Nat.beq t1 t2 with
        | false => rw [ht] at e; cases e
        | true =>
          rw [ht, cond_true] at e
          have := Nat.eq_of_beq_eq_true ht
          subst this
          cases ho : okPtrT P t1 with
          | false =>
            rw [ho, cond_false] at e
            split at e
            · show Instr.sameBits (9999 + 1) _ _ = true
              unfold Instr.sameBits
              rw [Bool.and_eq_true]
              exact ⟨by simp, bits_one hx hy e _⟩
            · cases e
          | true =>
            rw [ho, cond_true] at e
            show Instr.sameBits (9999 + 1) _ _ = true
            unfold Instr.sameBits
            rw [Bool.and_eq_true]
            exact ⟨by simp, bits_ptr hR hx hy e _⟩
  · cases e
end
end Go.Proofs.YtpbhlpajhdlemaaGreatDoor.Am

namespace Go.Proofs.YtpbhlpajhdlemaaGreatDoor.Am

section
variable {P : Program} {φ : Phi} {h : Hp} {w : World} {env : T AV} {a : Act} {o : Oper}

theorem map_plain {E : Array MapEntry} {n : Nat} : ∀ c e f, Obj.map E n ≠ .cells c e f := fun _ _ _ q => by cases q
theorem mit_plain {m : Option Nat} {s : Nat} {l : Array Nat} {n : Nat} : ∀ c e f, Obj.mapIter m s l n ≠ .cells c e f := fun _ _ _ q => by cases q

theorem op_update (hR : HR P φ h w) (hE : EnvR φ env a.tmps) {t : TypeId} {m k v : Operand} {m' k' v' : Opd} {kk : KK} (hkk : keyT P t = some kk) (hm : compOpd P m = some m') (hk : compOpd P k = some k') (hv : compOpd P v = some v')
    (ho : o.op = .mapUpdate t m k v ∨ o.op = .insert t m k v) : ResR P φ h w (evalOp P (.update kk m' k' v') env h) ((execOp a.eval o).run P w) := by
  have rm := opd_rel hR hE hm
  have rk := opd_rel hR hE hk
  have rv := opd_rel hR hE hv
  obtain ⟨kt, et, hd, hK⟩ := keyT_facts hkk
  have hrun : ∃ nx, NV nx Go.undef ∧ (execOp a.eval o).run P w = ((Instr.mapUpdate t (a.eval m) (a.eval k) (a.eval v)).run P w).andThen fun _ w' => .ok nx w' := by
    rcases ho with ho | ho <;> exact ⟨.skip, .inr ⟨rfl, rfl⟩, by simp only [execOp, ho, Sem.run_bind]; rfl⟩
  obtain ⟨nx, hnx, hrun⟩ := hrun
  rw [hrun]
  unfold evalOp
  simp only
  generalize hkv : ev env k' = kv at *
  generalize hmv : ev env m' = mv at *
  generalize hvv : ev env v' = vv at *
  generalize hX : a.eval m = X at *
  generalize hY : a.eval k = Y at *
  generalize hZ : a.eval v = Z at *
  cases hok : keyOk P kk kv with
  | false => trivial
  | true =>
    rw [cond_true]
    split
    · rename_i id
      cases rm with
      | @map _ b hφ =>
        split
        · rename_i ser es clock hid
          obtain ⟨b', E, e1, e2, e3⟩ := hR.blk _ _ hid
          rw [hφ] at e1
          cases e1
          have hck := checkKey_run (w := w) hK rk hok false
          cases hs : Nat.beq ser 0 with
          | false => trivial
          | true =>
          rw [cond_true]
          have hfree : ser = 0 := beq_iff.1 hs
          have put : ∀ (es' : List (AV × AV × Nat)) (clock' : Nat) (E' : Array MapEntry), EntsR φ es' E'.toList → (Instr.mapUpdate t (.map (some b)) Y Z).run P w = .ok () (putO w b (.map E' clock')) →
              ResR P φ h w (.val .undef ⟨T.set id (some (.map ser es' clock')) h.heap, h.next, h.ser, h.lim⟩) (((Instr.mapUpdate t (.map (some b)) Y Z).run P w).andThen fun _ w' => .ok nx w') := by
            intro es' clock' E' hE' e
            rw [e]
            obtain ⟨q1, q2⟩ := put_block hR hid hfree hφ h.ser (blk' := .map ser es' clock') (o' := .map E' clock') ⟨b, E', hφ, putO_same e2, hE'⟩
            exact ⟨nx, Go.undef, _, φ, rfl, hnx, q1, q2, Rel.undef⟩
          split
          · rename_i i v0 hf
            obtain ⟨res', f1, f2⟩ := findKey_run hR hK rk e3 hf
            obtain ⟨j, k0, n0, g1, g2, g3⟩ := findA_get hf
            rw [Nat.zero_add] at g1
            subst g1
            obtain ⟨x0, y0, g4, g5, _⟩ := e3.get g2
            have hbits := bits_key hR rk g5 g3
            cases res' with
            | none => cases f2
            | some p =>
              obtain ⟨pi, py⟩ := p
              obtain ⟨rfl, _⟩ := f2
              simp only [T.setK_eq]
              refine put _ _ (E.modify i fun e => { e with key := Y, val := Z }) ?_ ?_
              · rw [Array.toList_modify]; exact e3.setAt rk rv i
              · unfold Instr.mapUpdate
                rw [Sem.run_bind, run_underlying hd, Result.andThen_ok]
                rw [Array.getElem?_toList] at g4
                simp only [Sem.run_bind, run_getObj e2 map_plain, Result.andThen_ok, hck, f1, g4, Option.map_some, Option.getD_some, Instr.keyThatStays, hbits, if_true, Sem.run_pure, run_setObj e2 map_plain]
          · rename_i hf
            obtain ⟨res', f1, f2⟩ := findKey_run hR hK rk e3 hf
            cases res' with
            | some p => cases f2
            | none =>
              simp only [natK_eq, T.setK_eq]
              refine put _ _ (E.push { key := Y, val := Z, born := clock }) ?_ ?_
              · rw [Array.toList_push]; exact e3.push rk rv
              · unfold Instr.mapUpdate
                rw [Sem.run_bind, run_underlying hd, Result.andThen_ok]
                simp only [Sem.run_bind, run_getObj e2 map_plain, Result.andThen_ok, hck, f1, run_setObj e2 map_plain]
          · trivial
        · trivial
    · trivial

theorem op_delete (hR : HR P φ h w) (hE : EnvR φ env a.tmps) {c : Call} {t : TypeId} {ts : List TypeId} {m k : Operand} {m' k' : Opd} {kk : KK} (hkk : keyT P t = some kk) (hm : compOpd P m = some m') (hk : compOpd P k = some k')
    (hc : c.callee = .builtin .delete) (ha : c.args.toList = [m, k]) (htt : c.argTypes.toList = t :: ts) (ho : o.op = .call c) : ResR P φ h w (evalOp P (.delete kk m' k') env h) ((execOp a.eval o).run P w) := by
  have rm := opd_rel hR hE hm
  have rk := opd_rel hR hE hk
  obtain ⟨kt, et, hd, hK⟩ := keyT_facts hkk
  have ha : c.args = #[m, k] := by rw [← Array.toArray_toList (xs := c.args), ha]
  have ht0 : c.argTypes[0]? = some t := by rw [← Array.getElem?_toList, htt]; rfl
  have hrun : (execOp a.eval o).run P w = ((Builtin.delete_ c.argTypes o.type #[a.eval m, a.eval k]).run P w).andThen fun v w' => .ok (.value v) w' := by
    rw [exec_builtin ho hc, ha]
    show (do pure (Next.value (← Builtin.delete_ c.argTypes o.type (#[m, k].map a.eval))) : Sem Next).run P w = _
    rw [Sem.run_bind, show #[m, k].map a.eval = #[a.eval m, a.eval k] by simp]
    rfl
  rw [hrun]
  unfold evalOp
  simp only
  generalize hkv : ev env k' = kv at *
  generalize hmv : ev env m' = mv at *
  generalize hX : a.eval m = X at *
  generalize hY : a.eval k = Y at *
  cases hok : keyOk P kk kv with
  | false => trivial
  | true =>
    rw [cond_true]
    have hck : ∀ e, (Instr.checkKey e 10000 kt Y).run P w = .ok () w := fun e => checkKey_run hK rk hok e
    have a0 : (#[X, Y] : Array Value)[0]? = some X := rfl
    have a1 : (#[X, Y] : Array Value)[1]? = some Y := rfl
    split
    · cases rm
      refine ResR.pure hR (x := .tuple #[]) (.tup .nil) ?_
      simp [Builtin.delete_, ht0, Sem.run_bind, run_underlying hd, hck]
    · rename_i id
      cases rm with
      | @map _ b hφ =>
        split
        · rename_i ser es clock hid
          obtain ⟨b', E, e1, e2, e3⟩ := hR.blk _ _ hid
          rw [hφ] at e1
          cases e1
          cases hs : Nat.beq ser 0 with
          | false => trivial
          | true =>
          rw [cond_true]
          have hfree : ser = 0 := beq_iff.1 hs
          split
          · rename_i i v0 hf
            obtain ⟨res', f1, f2⟩ := findKey_run hR hK rk e3 hf
            cases res' with
            | none => cases f2
            | some p =>
              obtain ⟨pi, py⟩ := p
              obtain ⟨rfl, _⟩ := f2
              simp only [T.setK_eq]
              obtain ⟨q1, q2⟩ := put_block hR hid hfree hφ h.ser (blk' := .map ser (es.eraseIdx i) clock) (o' := .map (E.eraseIdxIfInBounds i) clock)
                ⟨b, _, hφ, putO_same e2, by rw [Array.toList_eraseIdxIfInBounds]; exact e3.erase i⟩
              refine ⟨_, .tuple #[], _, φ, ?_, .inl rfl, q1, q2, .tup .nil⟩
              simp [Builtin.delete_, ht0, Sem.run_bind, run_underlying hd, hck, run_getObj e2 map_plain, f1, run_setObj e2 map_plain]
          · rename_i hf
            obtain ⟨res', f1, f2⟩ := findKey_run hR hK rk e3 hf
            cases res' with
            | some p => cases f2
            | none =>
              refine ResR.pure hR (x := .tuple #[]) (.tup .nil) ?_
              simp [Builtin.delete_, ht0, Sem.run_bind, run_underlying hd, hck, run_getObj e2 map_plain, f1, run_setObj e2 map_plain, putO_self e2]
          · trivial
        · trivial
    · trivial

theorem op_rangeMap (hR : HR P φ h w) (hE : EnvR φ env a.tmps) (hm : Room h) {t : TypeId} {x : Operand} {x' : Opd} (hx : compOpd P x = some x') (hd : isMapT P t = true) (ho : o.op = .range t x) : ResR P φ h w (evalOp P (.rangeMap x') env h) ((execOp a.eval o).run P w) := by
  have rx := opd_rel hR hE hx
  obtain ⟨kt, et, hd⟩ := isMapT_facts hd
  unfold evalOp
  simp only
  generalize hX : a.eval x = X at *
  split
  · rename_i e
    rw [e] at rx
    cases rx
    rw [newK_eq]
    obtain ⟨q1, q2, q3⟩ := new_block hR hm (Nat.succ h.ser) (o := .mapIter none 0 #[] 0) (blk := .mit h.ser none 0 [] 0) ⟨w.heap.size, none, Phi.put_same _ _ _ _, alloc_new _ _, trivial⟩
    refine ⟨_, .pointer (some ⟨w.heap.size, 0, none⟩), w.alloc (.mapIter none 0 #[] 0), _, ?_, .inl rfl, q1, q2, .ptr (Phi.put_same _ _ _ _) rfl rfl rfl⟩
    simp only [execOp, ho, hX, Instr.range, Sem.run_bind, run_underlying hd, Result.andThen_ok, Sem.run_pure, run_newObj]
    rfl
  · rename_i m e
    rw [e] at rx
    cases rx with
    | @map _ b hφ =>
      split
      · rename_i ser es clock hid
        obtain ⟨b', E, e1, e2, e3⟩ := hR.blk _ _ hid
        rw [hφ] at e1
        cases e1
        rw [newK_eq]
        have u := Upd.alloc hR hm (.mapIter (some b) clock #[] clock) 0
        obtain ⟨q1, q2, q3⟩ := new_block hR hm (Nat.succ h.ser) (o := .mapIter (some b) clock #[] clock) (blk := .mit h.ser (some m) clock [] clock) ⟨w.heap.size, some b, Phi.put_same _ _ _ _, alloc_new _ _, u.le _ _ _ hφ⟩
        refine ⟨_, .pointer (some ⟨w.heap.size, 0, none⟩), w.alloc (.mapIter (some b) clock #[] clock), _, ?_, .inl rfl, q1, q2, .ptr (Phi.put_same _ _ _ _) rfl rfl rfl⟩
        simp only [execOp, ho, hX, Instr.range, Sem.run_bind, run_underlying hd, Result.andThen_ok, run_getObj e2 map_plain, Sem.run_pure, run_newObj]
        rfl
      · trivial
  · trivial

theorem ptr_zero {id : Pos} {X : Value} {b : Nat} (hx : Rel φ (.ptr id 0 0) X) (hφ : φ id 0 = some (b, 0, 0)) : X = .pointer (some ⟨b, 0, none⟩) := by
  cases hx with
  | @ptr _ _ _ b1 s1 n1 a1 p1 q1 r1 t1 =>
    rw [hφ] at p1
    cases p1
    obtain ⟨ab, ao, as⟩ := a1
    simp only at q1 r1 t1
    subst q1; subst t1
    have : ao = 0 := by omega
    subst this; rfl

theorem Adv.undrew {h' : Hp} {w' : World} {φ' : Phi} {d : Nat} (A : Adv h { w with drawn := d } φ h' w' φ') : Adv h w φ h' w' φ' :=
  ⟨A.le, A.os, A.output, A.tape, A.size, A.next, A.new, A.old, A.keep, A.lim, A.hid, A.same⟩

theorem op_nextMap (hR : HR P φ h w) (hE : EnvR φ env a.tmps) {x : Operand} {x' : Opd} (hx : compOpd P x = some x') (ho : o.op = .next x false) : ResR P φ h w (evalOp P (.nextMap x') env h) ((execOp a.eval o).run P w) := by
  have rx := opd_rel hR hE hx
  have hrun : (execOp a.eval o).run P w = ((Instr.next (a.eval x) false o.type).run P w).andThen fun v w' => .ok (.value v) w' := by
    simp only [execOp, ho, Sem.run_bind]; rfl
  rw [hrun]
  unfold evalOp
  simp only
  generalize hX : a.eval x = X at *
  split
  · rename_i id g off e
    rw [e] at rx
    cases hb : (Nat.beq g 0 && Nat.beq off 0) with
    | false => trivial
    | true =>
      rw [cond_true]
      rw [Bool.and_eq_true] at hb
      have hg : g = 0 := Nat.eq_of_beq_eq_true hb.1
      have ho' : off = 0 := Nat.eq_of_beq_eq_true hb.2
      subst hg; subst ho'
      split
      · rename_i ser since seen last hid
        obtain ⟨b, bm, e1, e2, e3⟩ := hR.blk _ _ hid
        cases bm with
        | some c => cases e3
        | none =>
          have hXe := ptr_zero rx e1
          subst hXe
          refine ResR.pure hR (x := .tuple #[.bool false]) (.tup (.cons (.bool false) .nil)) ?_
          simp only [Instr.next, Sem.run_bind, run_getObj e2 mit_plain, Result.andThen_ok, Sem.run_pure]
      · rename_i ser m since seen last hid
        obtain ⟨b, bm, e1, e2, e3⟩ := hR.blk _ _ hid
        cases bm with
        | none => cases e3
        | some c =>
          have hXe := ptr_zero rx e1
          subst hXe
          have e3 : φ m 0 = some (c, 0, 0) := e3
          split
          · rename_i ser' es clock hid'
            obtain ⟨b', E, f1, f2, f3⟩ := hR.blk _ _ hid'
            rw [e3] at f1
            cases f1
            have hleft := f3.filter fun n => !seen.contains n
            have hold := f3.filter fun n => !seen.contains n
            cases hcond : (!seen.isEmpty && !es.isEmpty && es.all (fun e => Nat.ble last e.2.2)) with
            | true => trivial
            | false =>
              rw [cond_false]
              have hcond' : (!seen.toArray.isEmpty && !E.isEmpty && E.all (fun e => decide (e.born ≥ last))) = false := by
                rw [← hcond, f3.empty]
                have q := f3.all fun n => Nat.ble last n
                rw [q]
                congr 1
                · congr 1
                  cases seen <;> rfl
                · rw [← Array.all_toList]
                  congr 1
                  funext e
                  by_cases c : last ≤ e.born
                  · rw [ble_iff.2 c]; simp [c]
                  · rw [ble_false.2 (by omega)]; simp [c]
              generalize hl : (es.filter fun e => !seen.contains e.2.2) = left at hleft
              generalize hL : (E.toList.filter fun e => !seen.contains e.born) = Left at hleft
              have hfil : (E.filter fun e => !seen.toArray.contains e.born) = Left.toArray := by
                rw [← hL]
                apply Array.toList_inj.1
                rw [Array.toList_filter]
                simp
              have hrun2 : ∀ (R : Result Value), Left = [] → R = .ok (.tuple #[.bool false]) w → (Instr.next (.pointer (some ⟨b, 0, none⟩)) false o.type).run P w = R := by
                intro R hE0 hR0
                subst hE0
                rw [hR0]
                simp only [Instr.next, Sem.run_bind, run_getObj e2 mit_plain, Result.andThen_ok, run_getObj f2 map_plain, hcond', Bool.false_eq_true, if_false, hfil]
                simp [Question.forced]
              split
              · cases hleft
                exact ResR.pure hR (x := .tuple #[.bool false]) (.tup (.cons (.bool false) .nil)) (by rw [hrun2 _ rfl rfl]; rfl)
              · rename_i e0
                cases hleft with
                | @cons k v n x y _ r hk hv ht =>
                  cases ht
                  cases hlt : Nat.blt n since with
                  | false => 
                    simp only [cond_false]
                    trivial
                  | true =>
                    simp only [cond_true, T.setK_eq]
                    have hlt := blt_iff.1 hlt
                    obtain ⟨q1, q2⟩ := put_block hR hid trivial e1 h.ser (blk' := .mit ser (some m) since (seen ++ [n]) clock) (o' := .mapIter (some c) since (seen ++ [n]).toArray clock) ⟨b, some c, e1, putO_same e2, e3⟩
                    refine ⟨_, .tuple #[.bool true, x, y], _, φ, ?_, .inl rfl, q1, q2, .tup (.cons (.bool true) (.cons hk (.cons hv .nil)))⟩
                    simp only [Instr.next, Sem.run_bind, run_getObj e2 mit_plain, Result.andThen_ok, run_getObj f2 map_plain, hcond', Bool.false_eq_true, if_false, hfil]
                    have hge : ¬ (since ≤ n) := by omega
                    simp [Question.forced, hlt, hge, run_setObj e2 mit_plain]
              · rename_i n1 n2
                cases hall : left.all (fun e => Nat.blt e.2.2 since) with
                | false => trivial
                | true =>
                  rw [cond_true]
                  have hlen : 2 ≤ Left.length := by
                    rw [← hleft.length]
                    cases left with
                    | nil => exact absurd rfl n1
                    | cons a r => cases r with
                      | nil => exact absurd rfl (n2 a)
                      | cons b r => simp
                  have hold : ∀ e ∈ Left, e.born < since := by
                    rw [hleft.all (fun n => Nat.blt n since)] at hall
                    exact fun e he => blt_iff.1 (List.all_eq_true.1 hall e he)
                  have hF1 : (Left.toArray.filter fun e => decide (e.born < since)) = Left.toArray := by
                    apply Array.toList_inj.1
                    rw [Array.toList_filter]
                    exact List.filter_eq_self.2 fun e he => by simpa using hold e he
                  have hF2 : (Left.toArray.filter fun e => decide (e.born ≥ since)) = #[] := by
                    apply Array.toList_inj.1
                    rw [Array.toList_filter]
                    exact List.filter_eq_nil_iff.2 fun e he => by have := hold e he; simp; omega
                  have hi : w.tape w.drawn (.mapNext Left.length) % Left.length < Left.length := Nat.mod_lt _ (by omega)
                  have hi' : w.tape w.drawn (.mapNext Left.length) % Left.length < left.length := by rw [hleft.length]; exact hi
                  obtain ⟨x, y, g1, g2, g3⟩ := hleft.get (List.getElem?_eq_getElem hi')
                  have hch : (choose (.mapNext Left.length)).run P w = .ok (w.tape w.drawn (.mapNext Left.length) % Left.length) { w with drawn := w.drawn + 1 } := by
                    have : ¬ Left.length ≤ 1 := by omega
                    simp [choose, Sem.run, Question.forced, this, Question.cut]
                  have hR1 := hR.drew (w.drawn + 1)
                  obtain ⟨q1, q2⟩ := put_block hR1 hid trivial e1 h.ser (blk' := .mit ser (some m) since (seen ++ [(left[w.tape w.drawn (.mapNext Left.length) % Left.length]).2.2]) clock) (o' := .mapIter (some c) since (seen ++ [(left[w.tape w.drawn (.mapNext Left.length) % Left.length]).2.2]).toArray clock) ⟨b, some c, e1, putO_same e2, e3⟩
                  refine ⟨_, _, List.mem_map.2 ⟨left[w.tape w.drawn (.mapNext Left.length) % Left.length], List.getElem_mem _, rfl⟩, .value (.tuple #[.bool true, x, y]), .tuple #[.bool true, x, y], _, φ, ?_, .inl rfl, q1, q2.undrew, .tup (.cons (.bool true) (.cons g2 (.cons g3 .nil)))⟩
                  have hne : Left.toArray.isEmpty = false := by
                    cases Left with
                    | nil => simp at hlen
                    | cons a r => rfl
                  have hcand : ((if Left.toArray.isEmpty = true then #[none] else #[]) ++ Array.map some (Left.toArray ++ #[])) = (Left.map some).toArray := by
                    rw [hne]; simp
                  have hsz : (Left.map some).toArray.size = Left.length := by simp
                  have hget : (Left.map some).toArray[w.tape w.drawn (.mapNext Left.length) % Left.length]? = some (some { key := x, val := y, born := (left[w.tape w.drawn (.mapNext Left.length) % Left.length]).2.2 }) := by
                    rw [List.getElem?_toArray, List.getElem?_map]
                    have g1' : Left[w.tape w.drawn (.mapNext Left.length) % Left.length]? = some { key := x, val := y, born := (left[w.tape w.drawn (.mapNext Left.length) % Left.length]).2.2 } := g1
                    rw [g1']; rfl
                  simp only [Instr.next, Sem.run_bind, run_getObj e2 mit_plain, Result.andThen_ok, run_getObj f2 map_plain, hcond', Bool.false_eq_true, if_false, hfil, hF1, hF2, hcand, hsz, hch, hget]
                  have hso := run_setObj (P := P) (w := { w with drawn := w.drawn + 1 }) (o' := .mapIter (some c) since (seen ++ [(left[w.tape w.drawn (.mapNext Left.length) % Left.length]).2.2]).toArray clock) e2 mit_plain
                  have hpush : seen.toArray.push (left[w.tape w.drawn (.mapNext Left.length) % Left.length]).2.2 = (seen ++ [(left[w.tape w.drawn (.mapNext Left.length) % Left.length]).2.2]).toArray := by simp
                  rw [hpush, hso]
                  rfl
          · trivial
      · trivial
  · trivial

theorem op_defer (hR : HR P φ h w) (hE : EnvR φ env a.tmps) {c : Call} {f : Operand} {f' : Opd} {l : List Opd} (hf : compOpd P f = some f') (hl : mapO (compOpd P) c.args.toList = some l) (hc : c.callee = .value f) (ho : o.op = .defer c) :
    ResR P φ h w (evalOp P (.defer f' l) env h) ((execOp a.eval o).run P w) := by
  have rf := opd_rel hR hE hf
  have rl := opds_rel hR hE hl
  have hrun : (execOp a.eval o).run P w = (do let d ← Deferred.ofValue (a.eval f) (c.args.map a.eval); pure (.defer d) : Sem Next).run P w := by
    simp only [execOp, ho, resolve, hc]
  rw [hrun]
  unfold evalOp
  simp only
  generalize hF : a.eval f = F at *
  split
  · rename_i g first captured e
    rw [e] at rf
    cases rf with
    | fn h1 h2 =>
      rename_i X Y
      refine ⟨{ target := .fn (.func g) Y, args := X ++ c.args.map a.eval }, rfl, Y, rfl, ?_⟩
      simp only [Array.toList_append, Array.toList_map, List.append_assoc]
      exact h1.append (rl.append h2)
  · trivial

theorem op_entry (hR : HR P φ h w) (hE : EnvR φ env a.tmps) {x : Operand} {x' : Opd} (hx : compOpd P x = some x') (ho : o.op = .entry x) : ResR P φ h w (evalOp P (.entry x') env h) ((execOp a.eval o).run P w) := by
  have rx := opd_rel hR hE hx
  have hrun : (execOp a.eval o).run P w = ((Instr.entry (a.eval x)).run P w).andThen fun v w' => .ok (.value v) w' := by
    simp only [execOp, ho, Sem.run_bind]; rfl
  rw [hrun]
  unfold evalOp
  simp only
  generalize hX : a.eval x = X at *
  split
  · rename_i id g off e
    rw [e] at rx
    cases hb : (Nat.beq g 0 && Nat.beq off 0) with
    | false => trivial
    | true =>
      rw [cond_true]
      rw [Bool.and_eq_true] at hb
      have hg : g = 0 := Nat.eq_of_beq_eq_true hb.1
      have ho' : off = 0 := Nat.eq_of_beq_eq_true hb.2
      subst hg; subst ho'
      split
      · rename_i ser m since seen stepped hid
        obtain ⟨b, bm, e1, e2, e3⟩ := hR.blk _ _ hid
        cases bm with
        | none => cases e3
        | some c =>
          have hXe := ptr_zero rx e1
          subst hXe
          have e3 : φ m 0 = some (c, 0, 0) := e3
          split
          · rename_i ser' es clock st hid' hst
            obtain ⟨b', E, f1, f2, f3⟩ := hR.blk _ _ hid'
            rw [e3] at f1
            cases f1
            cases hc : Nat.beq clock stepped with
            | false => trivial
            | true =>
              rw [cond_true]
              have hc := Nat.eq_of_beq_eq_true hc
              subst hc
              split
              · rename_i en hen
                obtain ⟨x, y, g1, g2, g3⟩ := f3.find (fun n => Nat.beq n st) hen
                refine ResR.pure hR (x := .tuple #[x, y]) (.tup (.cons g2 (.cons g3 .nil))) ?_
                have hback : seen.toArray.back? = some st := by simpa using hst
                have hfind : E.find? (fun e => e.born == st) = some { key := x, val := y, born := en.2.2 } := by
                  rw [← Array.find?_toList, ← g1]
                  congr 1
                  funext e
                  by_cases c : e.born = st
                  · rw [c]; simp
                  · have h1 : (e.born == st) = false := by simpa using c
                    have h2 : Nat.beq e.born st = false := by
                      cases q : Nat.beq e.born st with
                      | false => rfl
                      | true => exact absurd (Nat.eq_of_beq_eq_true q) c
                    rw [h1, h2]
                simp only [Instr.entry, Sem.run_bind, run_getObj e2 mit_plain, Result.andThen_ok, run_getObj f2 map_plain, hback, bne_self_eq_false, Bool.false_eq_true, if_false, hfind, Sem.run_pure]
              · trivial
          · trivial
      · trivial
  · trivial

theorem sameP_odd {a b : AV} {x y : Value} {r : Bool} (hx : Rel φ a x) (hy : Rel φ b y) (e : sameP h a b = some r) : Odd x ∧ ∃ q, x = .pointer q := by
  unfold sameP at e
  split at e
  · cases hx; exact ⟨trivial, _, rfl⟩
  · cases hx; exact ⟨trivial, _, rfl⟩
  · cases hx; exact ⟨trivial, _, rfl⟩
  · cases hx; exact ⟨trivial, _, rfl⟩
  · cases e

theorem op_eqPtr (hR : HR P φ h w) (hE : EnvR φ env a.tmps) {op : BinOp} {neg : Bool} (hop : (op = .eql ∧ neg = false) ∨ (op = .neq ∧ neg = true)) {t yt : TypeId} {x y : Operand} {x' y' : Opd} (hx : compOpd P x = some x') (hy : compOpd P y = some y')
    {el : TypeId} (ht : P.underlying t = some (.pointer el)) (hk : okT P el = true) (hz : 0 < P.cellsOf el) (ho : o.op = .binOp op t x y yt) : ResR P φ h w (evalOp P (.eqPtr neg x' y') env h) ((execOp a.eval o).run P w) := by
  have rx := opd_rel hR hE hx
  have ry := opd_rel hR hE hy
  unfold evalOp
  refine ResR.opt hR fun v e => ?_
  split at e
  · rename_i b hb
    obtain ⟨hodd, q, hq⟩ := sameP_odd rx ry hb
    have heq : (Op.equal t (a.eval x) (a.eval y)).run P w = .ok b w := sameP_run hR rx ry hb ht hk hz 9999
    have hg : (eqGuard op t x y (a.eval x) (a.eval y)).run P w = .ok () w := guard_none (fun a' e' => by rw [hq] at e'; cases e') (fun ⟨e', _⟩ => by rw [hq] at e'; cases e') P w
    unfold notIf at e
    cases e
    simp only [execOp, ho]
    rcases hop with ⟨rfl, rfl⟩ | ⟨rfl, rfl⟩
    · refine ⟨.bool b, ?_, .bool _⟩
      rw [binOp_eql hodd]
      simp only [Sem.run_bind, hg, heq, Result.andThen_ok, Sem.run_pure]
    · refine ⟨.bool (!b), ?_, .bool _⟩
      rw [binOp_neq hodd]
      simp only [Sem.run_bind, hg, heq, Result.andThen_ok, Sem.run_pure]
  · cases e

theorem sameI_run (hR : HR P φ h w) {a b : AV} {x y : Value} {nilOk r : Bool} (hx : Rel φ a x) (hy : Rel φ b y) (e : sameI P h nilOk a b = some r) {t : TypeId} {ms : Array (String × TypeId)} (ht : P.underlying t = some (.interface ms)) :
    Odd x ∧ (Op.equal t x y).run P w = .ok r w ∧ (∀ a', x ≠ .agg a') ∧ ((x = .nilIface ∧ y = .nilIface) → nilOk = true) := by
  unfold sameI at e
  split at e
  · cases hx; cases hy
    cases nilOk with
    | false => cases e
    | true =>
      cases e
      refine ⟨trivial, ?_, fun a' q => (by cases q), fun _ => rfl⟩
      show (Op.equalIn (9999 + 1) t _ _).run P w = _
      unfold Op.equalIn
      rw [Sem.run_bind, run_underlying ht, Result.andThen_ok]; rfl
  · cases hx; cases hy; cases e
    refine ⟨trivial, ?_, fun a' q => (by cases q), fun q => (by cases q.2)⟩
    show (Op.equalIn (9999 + 1) t _ _).run P w = _
    unfold Op.equalIn
    rw [Sem.run_bind, run_underlying ht, Result.andThen_ok]; rfl
  · cases hx; cases hy; cases e
    refine ⟨trivial, ?_, fun a' q => (by cases q), fun q => (by cases q.1)⟩
    show (Op.equalIn (9999 + 1) t _ _).run P w = _
    unfold Op.equalIn
    rw [Sem.run_bind, run_underlying ht, Result.andThen_ok]; rfl
  · have := keyEq_run (w := w) (kk := .any) hR (t := t) ⟨ms, ht⟩ hx hy e
    cases hx; cases hy
    exact ⟨trivial, this, fun a' q => (by cases q), fun q => (by cases q.1)⟩
  · cases e

theorem op_eqIfc (hR : HR P φ h w) (hE : EnvR φ env a.tmps) {op : BinOp} {neg : Bool} (hop : (op = .eql ∧ neg = false) ∨ (op = .neq ∧ neg = true)) {t yt : TypeId} {x y : Operand} {x' y' : Opd} (hx : compOpd P x = some x') (hy : compOpd P y = some y')
    {ms : Array (String × TypeId)} (ht : P.underlying t = some (.interface ms)) (ho : o.op = .binOp op t x y yt) : ResR P φ h w (evalOp P (.eqIfc neg (nilOkT P t x y) x' y') env h) ((execOp a.eval o).run P w) := by
  have rx := opd_rel hR hE hx
  have ry := opd_rel hR hE hy
  unfold evalOp
  refine ResR.opt hR fun v e => ?_
  split at e
  · rename_i b hb
    obtain ⟨hodd, heq, hag, hnil⟩ := sameI_run hR rx ry hb ht
    have hg : (eqGuard op t x y (a.eval x) (a.eval y)).run P w = .ok () w := by
      by_cases hn : a.eval x = .nilIface ∧ a.eval y = .nilIface
      · rw [hn.1, hn.2]; exact nilOk_guard (hnil hn) op
      · exact guard_none hag hn P w
    unfold notIf at e
    cases e
    simp only [execOp, ho]
    rcases hop with ⟨rfl, rfl⟩ | ⟨rfl, rfl⟩
    · refine ⟨.bool b, ?_, .bool _⟩
      rw [binOp_eql hodd]
      simp only [Sem.run_bind, hg, heq, Result.andThen_ok, Sem.run_pure]
    · refine ⟨.bool (!b), ?_, .bool _⟩
      rw [binOp_neq hodd]
      simp only [Sem.run_bind, hg, heq, Result.andThen_ok, Sem.run_pure]
  · cases e
end
end Go.Proofs.YtpbhlpajhdlemaaGreatDoor.Am
