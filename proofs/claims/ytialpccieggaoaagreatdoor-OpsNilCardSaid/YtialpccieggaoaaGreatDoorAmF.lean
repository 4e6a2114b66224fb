import Derived.Test.YtialpccieggaoaaGreatDoorAmE
/- THE ABSTRACT MACHINE, part F: a machine over values without block numbers, run by the kernel, and the proof that the model's machine does what it does. No condition. -/
set_option linter.unusedSimpArgs false
set_option linter.unusedVariables false
namespace Go.Proofs.YtialpccieggaoaaGreatDoor.Am

theorem freeze_push (w : World) (C : Array Value) (el : TypeId) (n : Nat) (hn : C.size = n) :
    ({ w with heap := w.heap.push (.cells C el) } : World).freeze { block := w.heap.size, off := n } 1 = w.alloc (.cells C el (n, n + 1)) := by
  unfold World.freeze World.alloc
  rw [if_neg (by decide)]
  congr 1
  apply Array.ext_getElem?
  intro i
  simp only [Array.getElem?_modify, Array.getElem?_push]
  by_cases e : w.heap.size = i
  · subst e
    simp
  · have e' : ¬ i = w.heap.size := fun q => e q.symm
    rw [if_neg e, if_neg e', if_neg e']

theorem pushAll (ls : List UInt8) (s : ByteArray) : (ls.foldl (fun s b => s.push b) s).data.toList = s.data.toList ++ ls := by
  induction ls generalizing s with
  | nil => simp
  | cons b l ih => rw [List.foldl_cons, ih]; simp [ByteArray.push]

theorem bytes_loop {P : Program} (w : World) (why : String) (ls : List UInt8) (s : ByteArray) :
    (forIn (m := Sem) (ls.map fun b => Value.int .u8 b.toNat) s fun c s => do
      match c with
      | Value.int IntKind.u8 n => pure (ForInStep.yield (s.push (UInt8.ofNat n.toNat)))
      | _ => do
        stuck why
        pure (ForInStep.yield s)).run P w = .ok (ls.foldl (fun s b => s.push b) s) w := by
  induction ls generalizing s with
  | nil => simp
  | cons b l ih =>
    simp only [List.map_cons, List.forIn_cons, Sem.run_bind, Sem.run_pure, Result.andThen_ok, List.foldl_cons]
    rw [show UInt8.ofNat ((b.toNat : Int)).toNat = b by simp]
    exact ih (s.push b)

theorem bytes_run {P : Program} {w : World} {ad : Addr} {len c : Nat} {xs : List Value} {ls : List UInt8} (h : (loadCells ad len).run P w = .ok xs.toArray w) (hx : xs = ls.map fun b => Value.int .u8 b.toNat) :
    (Conv.bytesToString (.slice (some ad) len c)).run P w = .ok (.string ⟨ls.toArray⟩) w := by
  subst hx
  unfold Conv.bytesToString
  simp only [Sem.run_bind, h, Result.andThen_ok]
  rw [← Array.forIn_toList, show (List.map (fun b => Value.int IntKind.u8 (b.toNat : Int)) ls).toArray.toList = List.map (fun b => Value.int IntKind.u8 (b.toNat : Int)) ls by simp]
  refine (congrArg (fun r => Result.andThen r fun a w' => Sem.run P (pure (Value.string a)) w') (bytes_loop (P := P) w _ ls .empty)).trans ?_
  simp only [Result.andThen_ok, Sem.run_pure]
  congr 2
  have := pushAll ls .empty
  apply ByteArray.ext
  apply Array.toList_inj.1
  rw [this]
  simp

theorem relL_bytes {φ : Phi} {ls : List UInt8} {xs : List Value} (h : RelL φ (ls.map fun b => byteV b.toNat) xs) : xs = ls.map fun b => Value.int .u8 b.toNat := by
  induction ls generalizing xs with
  | nil => cases h; rfl
  | cons b l ih =>
    cases h with
    | cons h t =>
      cases h
      rw [ih t]; rfl

section
variable {P : Program} {φ : Phi} {h : Hp} {w : World} {env : T AV} {a : Act} {o : Oper}

theorem op_mkSl (hR : HR P φ h w) (hE : EnvR φ env a.tmps) (hm : Room h) {t e : TypeId} {z : AV} {l c : Operand} {l' c' : Opd} (ht : elemOfSlice P t = some e) (hz : zeroT P e = some z) (hzl : z.cells.length = P.cellsOf e) (hl : compOpd P l = some l') (hc : compOpd P c = some c')
    {bytes : Nat} (hB : BytesOk P e bytes) (ho : o.op = .makeSlice t l c) : ResR P φ h w (evalOp P (.mkSl (P.cellsOf e) bytes z.cells l' c') env h) ((execOp a.eval o).run P w) := by
  have rl := opd_rel hR hE hl
  have rc := opd_rel hR hE hc
  obtain ⟨hd, hk⟩ := elem_underlying ht
  obtain ⟨i, hi, hi1, hi2⟩ := okT_info hk
  obtain ⟨Z, z1, z2⟩ := zeroT_run hz φ w
  have hZ : Z.cells.size = P.cellsOf e := by rw [← hzl, z2.cells.length, Array.length_toList]
  have hrun : (execOp a.eval o).run P w = (do pure (Next.value (← Instr.makeSlice t (a.eval l) (a.eval c))) : Sem Next).run P w := by
    simp only [execOp, ho]
  rw [hrun]
  unfold evalOp
  simp only
  generalize hL : a.eval l = L at *
  generalize hC : a.eval c = Cc at *
  split
  · rename_i k m k' n e1 e2
    rw [e1] at rl; rw [e2] at rc
    cases rl; cases rc
    cases hb : (Nat.ble m n && okSize n bytes && Nat.blt 0 (P.cellsOf e)) with
    | false => trivial
    | true =>
      simp only [Bool.and_eq_true] at hb
      obtain ⟨⟨b1, b23⟩, b4⟩ := hb
      obtain ⟨b2, b3, b3'⟩ := hB.size b23
      have b1 := ble_iff.1 b1
      have b4 := blt_iff.1 b4
      rw [cond_true]
      have hrep := repl_rel z2.cells n
      rw [hZ] at hrep
      refine ResR.newSlN (noteB bytes) hR hm hrep e hB.noteB b1 (by simp) ?_
      have hw1 : IntKind.i64.wrap (Int.ofNat m) = (m : Int) := wrap_i64 (n := (m : Int)) (by omega) (by omega)
      have hw2 : IntKind.i64.wrap (Int.ofNat n) = (n : Int) := wrap_i64 (n := (n : Int)) (by omega) (by omega)
      have hbytes : ¬ ((i.bytes : Int) * (n : Int) > 2 ^ 48) := by
        rw [hi2]
        have h3 : P.bytesOf e * n ≤ 140737488355328 := by rw [Nat.mul_comm]; exact b3
        have h4 : ((P.bytesOf e * n : Nat) : Int) ≤ ((140737488355328 : Nat) : Int) := Int.ofNat_le.2 h3
        rw [Int.natCast_mul] at h4
        omega
      have hcond : (((n : Int) < 0 || (i.bytes : Int) * (n : Int) > 2 ^ 48) || (m : Int) < 0 || (m : Int) > (n : Int)) = false := by
        simp only [Bool.or_eq_false_iff, decide_eq_false_iff_not]
        exact ⟨⟨⟨by omega, hbytes⟩, by omega⟩, by omega⟩
      unfold Instr.makeSlice
      simp only [asInt, asIntOf, Sem.run_bind, Sem.run_pure, Result.andThen_ok, run_underlying hd, run_typeInfo w hi, hw1, hw2, hcond, Bool.false_eq_true, if_false, run_askRoom, Int.toNat_natCast, run_sizeOf' hk]
      by_cases h0 : n * P.cellsOf e = 0
      · rw [if_pos h0]
        have hr : ∀ f : Nat → Value, (Array.range 0).map f = #[] := fun f => by simp
        simp only [Sem.run_pure, Result.andThen_ok, h0, hr, newRow, Sem.run_bind, run_newObj, Array.toArray_toList]
        rfl
      · rw [if_neg h0]
        simp only [Sem.run_bind, Sem.run_pure, z1, Result.andThen_ok, hZ, newRow, run_newObj, Array.toArray_toList]
        rfl
  · trivial

theorem op_conv (hR : HR P φ h w) (hE : EnvR φ env a.tmps) (hm : Room h) {s d : TypeId} {x : Operand} {x' : Opd} {ao : AOp} (hx : compOpd P x = some x') (hc : compConv P s d x' = some ao) (ho : o.op = .convert s d x) :
    ResR P φ h w (evalOp P ao env h) ((execOp a.eval o).run P w) := by
  have rx := opd_rel hR hE hx
  have hrun : (execOp a.eval o).run P w = (do pure (Next.value (← convert s d (a.eval x))) : Sem Next).run P w := by
    simp only [execOp, ho]
  rw [hrun]
  generalize hX : a.eval x = X at *
  unfold compConv at hc
  split at hc
  · rename_i k0 k hs hd
    cases hc
    unfold evalOp
    simp only
    split
    · rename_i k' n e
      rw [e] at rx
      cases rx
      rw [intK_eq, wrapA_eq]
      exact ResR.pure hR (.int _ _) (by simp [convert, run_underlying hs, run_underlying hd, Conv.intToInt])
    · trivial
  · rename_i hs hd
    cases hc
    unfold evalOp
    simp only
    split
    · rename_i n v e
      rw [e] at rx
      obtain ⟨str, rfl, q1, q2, q3⟩ := rel_str rx
      exact ResR.pure hR rx (by simp [convert, run_underlying hs, run_underlying hd])
    · trivial
  · rename_i e hs hd
    split at hc
    · rename_i he
      cases hb : (Nat.beq (P.cellsOf e) 1 && okT P e) with
      | false => rw [hb] at hc; cases hc
      | true =>
        rw [hb, cond_true, Option.some.injEq] at hc
        subst hc
        unfold evalOp
        simp only
        split
        · rename_i n v ev
          rw [ev] at rx
          obtain ⟨str, rfl, q1, q2, q3⟩ := rel_str rx
          cases hn : Nat.ble n 1073741824 with
          | false => trivial
          | true =>
            rw [cond_true, newK_eq]
            obtain ⟨cp, hcp, hcr⟩ := appendCap_run (P := P) (w := w) str.size 0 e
            have hxs : RelL φ (bytesL n v) (str.data.toList.map fun b => Value.int .u8 b.toNat) := by
              rw [bytesL_eq, q1]
              refine RelL.of_get (by simp) fun i v x hv hx => ?_
              rw [List.getElem?_map] at hv hx
              cases hu : (unpack n _)[i]? with
              | none => rw [hu] at hv; cases hv
              | some u =>
                rw [hu, Option.map_some, Option.some.injEq] at hv hx
                subst hv; subst hx
                exact .int _ _
            obtain ⟨n1, n2⟩ := newCells_run (hR.drew (w.drawn + 1)) hm (c := .byt n v) (xs := str.data.toList.map fun b => Value.int .u8 b.toNat) (spare := List.replicate (cp - str.size) (.int .u8 0)) q2 hxs e
              (cp, cp + 1) true (by unfold Thawed; rw [if_pos rfl]; left; simp; omega) 0 (Nat.succ h.ser) (.inl rfl)
            refine ⟨_, .slice (some ⟨w.heap.size, 0, none⟩) str.size cp, _, _, ?_, .inl rfl, n1, (Adv.drew h w φ _).trans hR n2 (hm.was (by simp only [Pos.num_succ]; omega)), ?_⟩
            · simp only [convert, Sem.run_bind, run_underlying hs, run_underlying hd, Result.andThen_ok, run_underlying he, Conv.stringToBytes, hcr, newRow, run_newObj, Sem.run_pure, markStringish, run_shape]
              have hsz : (str.data.map (fun b => Value.int .u8 b.toNat) ++ Array.replicate (cp - str.size) (Value.int .u8 0)).size = cp := by
                simp; omega
              simp only [World.shape?, Array.getElem?_push_size, hsz, run_freeze, Result.andThen_ok]
              have hfz := freeze_push { w with drawn := w.drawn + 1 } (str.data.map (fun b => Value.int .u8 b.toNat) ++ Array.replicate (cp - str.size) (Value.int .u8 0)) e cp hsz
              have e3 : (str.data.toList.map (fun b => Value.int .u8 b.toNat) ++ List.replicate (cp - str.size) (Value.int .u8 0)).toArray = str.data.map (fun b => Value.int .u8 b.toNat) ++ Array.replicate (cp - str.size) (Value.int .u8 0) := by
                simp
              rw [e3]
              exact congrArg _ hfz
            · have e4 : n = str.size := q3.symm
              rw [e4]
              refine .sl (Phi.put_same _ _ _ _) rfl rfl hcp hcp (Nat.le_refl _) (fun q => by cases q) fun _ => ⟨rfl, ?_⟩
              simp only [List.length_append, List.length_map, List.length_replicate, Array.length_toList]
              show 0 + cp * 1 ≤ str.size + (cp - str.size)
              omega
        · trivial
    · cases hc
  · rename_i e hs hd
    split at hc
    · rename_i he
      cases hc
      unfold evalOp
      simp only
      split
      · rename_i ev
        rw [ev] at rx
        cases rx
        refine ResR.pure hR (x := .string .empty) (.str rfl (by simp)) ?_
        simp [convert, run_underlying hs, run_underlying hd, run_underlying he, Conv.bytesToString]
      · rename_i id g off len cap ex es ev
        rw [ev] at rx
        obtain ⟨ad, c', rfl, k4, _⟩ := rel_slS rx
        have hcv : (convert s d (.slice (some ad) len c')).run P w = (Conv.bytesToString (.slice (some ad) len c')).run P w := by
          simp [convert, run_underlying hs, run_underlying hd, run_underlying he]
        have hdo : ∀ str, (Conv.bytesToString (.slice (some ad) len c')).run P w = .ok (.string str) w →
            (do pure (Next.value (← convert s d (.slice (some ad) len c'))) : Sem Next).run P w = .ok (.value (.string str)) w := by
          intro str q
          rw [Sem.run_bind, hcv, q]; rfl
        cases hl0 : Nat.beq len 0 with
        | true =>
          have hl0 := beq_iff.1 hl0
          subst hl0
          rw [cond_true]
          refine ResR.pure hR (x := .string .empty) (.str rfl (by simp)) (hdo _ ?_)
          have := run_loadCells_list (P := P) w ad [] (fun j v e => by simp at e)
          exact bytes_run (ls := []) this rfl
        | false =>
          rw [cond_false]
          have hl0 := beq_false.1 hl0
          rcases rel_sl rx with ⟨ad', c2, b, s0, N, hX', k1, k2, k3, _, _, _, _, k8⟩ | ⟨_, _, z, _, _⟩
          case inr => exact absurd z hl0
          cases hX'
          obtain ⟨q1, _⟩ := k8 (by omega)
          cases hes : Nat.beq es 1 with
          | false => trivial
          | true =>
            rw [cond_true]
            cases hr : readN h id g off len with
            | none => trivial
            | some c =>
              obtain ⟨xs, r1, r2, r3, r4⟩ := readN_run hR hr k1 k2 k3 (fun _ => q1)
              have key : ∀ n v, v < 256 ^ n → bytesL n v = c.toL → (Conv.bytesToString (.slice (some ad) len c')).run P w = .ok (.string ⟨(unpack n v).toArray⟩) w := by
                intro n v hv he2
                rw [← he2] at r2
                refine bytes_run r1 ?_
                rw [bytesL_eq] at r2
                exact relL_bytes r2
              cases c with
              | byt n v =>
                simp only [natK_eq]
                exact ResR.pure hR (x := .string ⟨(unpack n v).toArray⟩) (.str (by simp) r3) (hdo _ (key n v r3 rfl))
              | lst n l =>
                simp only
                cases hp : packAV l 0 0 with
                | none => trivial
                | some r =>
                  obtain ⟨m, u⟩ := r
                  obtain ⟨p1, p2, p3⟩ := packAV_spec l 0 0 m u hp (by simp)
                  exact ResR.pure hR (x := .string ⟨(unpack m u).toArray⟩) (.str (by simp) p1) (hdo _ (key m u p1 (by rw [p3]; rfl)))
      · trivial
    · cases hc
  · rename_i t hs hd
    cases hb : (okT P t && Nat.blt 0 (P.cellsOf t)) with
    | false => rw [hb] at hc; cases hc
    | true =>
      rw [hb] at hc
      cases hc
      rw [Bool.and_eq_true] at hb
      exact toUnsafe_run hR rx hs hd hb.1 (blt_iff.1 hb.2)
  · rename_i u hs hd
    cases hb : (okT P u && Nat.blt 0 (P.cellsOf u)) with
    | false => rw [hb] at hc; cases hc
    | true =>
      rw [hb] at hc
      cases hc
      rw [Bool.and_eq_true] at hb
      exact fromUnsafe_run hR rx hs hd hb.1 (blt_iff.1 hb.2)
  · cases hc

end

end Go.Proofs.YtialpccieggaoaaGreatDoor.Am

namespace Go.Proofs.YtialpccieggaoaaGreatDoor.Am

def putO (w : World) (b : Nat) (o : Obj) : World := { w with heap := w.heap.setIfInBounds b o }

theorem putO_same {w : World} {b : Nat} {o o' : Obj} (h : w.heap[b]? = some o) : (putO w b o').heap[b]? = some o' := by
  have := heap_lt h
  simp [putO, this]

theorem putO_ne {w : World} {b c : Nat} {o' : Obj} (h : c ≠ b) : (putO w b o').heap[c]? = w.heap[c]? := Array.getElem?_setIfInBounds_ne (Ne.symm h)


theorem run_getObj {P : Program} {w : World} {b : Nat} {o : Obj} (h : w.heap[b]? = some o) (hc : ∀ c e f, o ≠ .cells c e f) : (getObj b).run P w = .ok o w := by
  simp only [getObj, Sem.run, h]

theorem run_setObj {P : Program} {w : World} {b : Nat} {o : Obj} (h : w.heap[b]? = some o) (hc : ∀ c e f, o ≠ .cells c e f) (o' : Obj) : (setObj b o').run P w = .ok () (putO w b o') := by
  simp only [setObj, Sem.run, h, putO]

theorem sameD_iff {x y : D8} : sameD x y = true ↔ x = y := by cases x <;> cases y <;> simp [sameD]

theorem sameBin_iff {p q : Bin} : sameBin p q = true ↔ p = q := by
  induction p generalizing q with
  | h => cases q <;> simp [sameBin]
  | o p ih => cases q <;> simp [sameBin, ih]
  | i p ih => cases q <;> simp [sameBin, ih]

theorem samePos_iff {p q : Pos} : samePos p q = true ↔ p = q := by
  cases p <;> cases q <;> simp [samePos, sameD_iff, sameBin_iff, and_comm, and_left_comm]

section
variable {P : Program} {φ : Phi} {h : Hp} {w : World}

theorem addr_beq {a b : Addr} (h1 : a.block = b.block) (s1 : a.spot = none) (s2 : b.spot = none) : (a == b) = Nat.beq a.off b.off := by
  obtain ⟨ab, ao, as⟩ := a
  obtain ⟨bb, bo, bs⟩ := b
  simp only at h1 s1 s2
  subst h1; subst s1; subst s2
  by_cases c : ao = bo
  · subst c
    rw [show (({ block := ab, off := ao, spot := none } : Addr) == { block := ab, off := ao, spot := none }) = true from beq_self_eq_true _]
    simp
  · have h1 : (({ block := ab, off := ao, spot := none } : Addr) == { block := ab, off := bo, spot := none }) = false := by
      cases h : (({ block := ab, off := ao, spot := none } : Addr) == { block := ab, off := bo, spot := none }) with
      | false => rfl
      | true => have := eq_of_beq h; simp at this; exact absurd this c
    rw [h1]
    cases h : Nat.beq ao bo with
    | false => rfl
    | true => exact absurd (Nat.eq_of_beq_eq_true h) c

/-- A block that is no text's memory. -/
theorem plain_facts (hR : HR P φ h w) {id : Pos} {ser : Nat} {c : Cells} {lo hi g m gg : Nat} {b n : Nat} {s : Int} (hid : T.get id h.heap = some (.cells ser c lo hi g m false false)) (hφ : φ id gg = some (b, s, n)) (hm : m ≤ gg) :
    ∃ C el, w.heap[b]? = some (.cells C el (0, 0)) := by
  obtain ⟨⟨_, _, _, h4, _, h5⟩, _⟩ := hR.blk _ _ hid
  have hg : gg ≤ g := by
    by_cases q : g < gg
    · rw [h4 gg q] at hφ; cases hφ
    · omega
  obtain ⟨b', s', n', C, el, fr, e1, e2, e3, e4, _⟩ := h5 gg hm hg
  rw [hφ] at e1
  cases e1
  have := e4 rfl
  unfold Thawed at this
  simp only [Bool.false_eq_true, if_false] at this
  subst this
  exact ⟨C, el, e2⟩

theorem sameP_run (hR : HR P φ h w) {a b : AV} {x y : Value} {r : Bool} (hx : Rel φ a x) (hy : Rel φ b y) (hs : sameP h a b = some r) {t e : TypeId} (ht : P.underlying t = some (.pointer e)) (hk : okT P e = true) (hz : 0 < P.cellsOf e) (d : Nat) :
    (Op.equalIn (d + 1) t x y).run P w = .ok r w := by
  unfold sameP at hs
  split at hs
  · cases hx; cases hy; cases hs; exact eq_ptr0 d ht none
  · cases hx; cases hy; cases hs; exact eq_ptr0 d ht _
  · cases hx; cases hy; cases hs; exact eq_ptr1 d ht _
  · rename_i id g off id' g' off'
    cases hx with
    | @ptr _ _ _ b1 s1 n1 a1 p1 q1 r1 t1 => cases hy with
      | @ptr _ _ _ b2 s2 n2 a2 p2 q2 r2 t2 =>
        have hne : ¬ (P.cellsOf e = 0) := by omega
        have go : ∀ res, (sameAddr a1 a2).run P w = .ok res w → (Op.equalIn (d + 1) t (.pointer (some a1)) (.pointer (some a2))).run P w = .ok res w := by
          intro res hr
          simp only [Op.equalIn, Sem.run_bind, run_underlying ht, Result.andThen_ok, run_sizeOf' hk, hne, ne_eq, not_false_eq_true, if_true, hr]
        cases hsp : samePos id id' with
        | true =>
          rw [hsp, cond_true] at hs
          have := samePos_iff.1 hsp
          subst this
          cases hg : Nat.beq g g' with
          | false => rw [hg] at hs; cases hs
          | true =>
            rw [hg, cond_true] at hs
            have := Nat.eq_of_beq_eq_true hg
            subst this
            rw [p1] at p2
            cases p2
            cases hs
            refine go _ ?_
            have hb : a1.block = a2.block := by rw [q1, q2]
            have ho : Nat.beq off off' = Nat.beq a1.off a2.off := by
              by_cases c : off = off'
              · have : a1.off = a2.off := by omega
                rw [c, this]; simp
              · have c' : a1.off ≠ a2.off := by omega
                cases u : Nat.beq off off' with
                | true => exact absurd (Nat.eq_of_beq_eq_true u) c
                | false =>
                  cases u' : Nat.beq a1.off a2.off with
                  | true => exact absurd (Nat.eq_of_beq_eq_true u') c'
                  | false => rfl
            unfold sameAddr
            rw [show (a1.block == a2.block) = true by rw [hb]; simp]
            simp only [if_true, Sem.run_pure]
            rw [addr_beq hb t1 t2, ho]
        | false =>
          rw [hsp, cond_false] at hs
          split at hs
          · rename_i ser c lo hi gg m ro fz ser' c' lo' hi' gg' m' ro' fz' hid hid'
            cases hb : (Nat.ble m g && Nat.ble m' g' && !(ro || fz || ro' || fz')) with
            | false => rw [hb] at hs; cases hs
            | true =>
              rw [hb, cond_true] at hs
              cases hs
              simp only [Bool.and_eq_true, Bool.not_eq_true', Bool.or_eq_false_iff] at hb
              obtain ⟨⟨m1, m2⟩, ⟨⟨rfl, rfl⟩, rfl⟩, rfl⟩ := hb
              obtain ⟨C1, el1, h1⟩ := plain_facts hR hid p1 (ble_iff.1 m1)
              obtain ⟨C2, el2, h2⟩ := plain_facts hR hid' p2 (ble_iff.1 m2)
              rw [← q1] at h1
              rw [← q2] at h2
              have hne : ¬ (a1.block = a2.block) := fun q => by
                rw [q1, q2] at q
                subst q
                rcases hR.sep _ _ _ _ _ _ _ _ _ p1 p2 with this | this
                case inr => exact this.1 ⟨_, hid, rfl⟩
                subst this
                rw [samePos_iff.2 rfl] at hsp
                cases hsp
              have f1 : ∀ o, w.frozen? { block := a1.block, off := o } = false := fun o => by simp [World.frozen?, h1]
              have f2 : ∀ o, w.frozen? { block := a2.block, off := o } = false := fun o => by simp [World.frozen?, h2]
              have g1 : w.frozen? a1 = false := by simp [World.frozen?, h1]
              have g2 : w.frozen? a2 = false := by simp [World.frozen?, h2]
              have s1 : w.shape? a1.block = some (el1, C1.size) := by simp [World.shape?, h1]
              have s2 : w.shape? a2.block = some (el2, C2.size) := by simp [World.shape?, h2]
              refine go _ ?_
              unfold sameAddr
              rw [if_neg (by simpa using hne)]
              simp [run_frozen, g1, g2, noView, viewAt, s1, s2, mayBeOne, stringish, f1, f2]
          · cases hs
  · cases hs

/-- What a key's kind says of its type. -/
def KkR (P : Program) (t : TypeId) : KK → Prop
  | .one k => LkR P t k
  | .flat ks => flatK P 8 t = some ks ∧ isAggT P t = true
  | .any => ∃ ms, P.underlying t = some (.interface ms)
  | .ptr => ∃ e, P.underlying t = some (.pointer e) ∧ okT P e = true ∧ 0 < P.cellsOf e

theorem kkT_R {t : TypeId} {kk : KK} (e : kkT P t = some kk) : KkR P t kk := by
  unfold kkT at e
  split at e
  · cases e; assumption
  · cases e; exact ⟨_, by assumption⟩
  · cases e; assumption
  · rename_i fs hd
    cases hf : flatK P 8 t with
    | none => rw [hf] at e; cases e
    | some ks => rw [hf] at e; cases e; exact ⟨hf, by unfold isAggT; rw [hd]⟩
  · cases e; exact ⟨_, by assumption⟩
  · rename_i el hd
    cases hb : (okT P el && Nat.blt 0 (P.cellsOf el)) with
    | false => rw [hb] at e; cases e
    | true =>
      rw [hb] at e; cases e
      rw [Bool.and_eq_true] at hb
      exact ⟨el, hd, hb.1, blt_iff.1 hb.2⟩
  · cases e

theorem okPtrT_facts {t : TypeId} (e : okPtrT P t = true) : ∃ i el, P.info? t = some i ∧ i.comparable = true ∧ P.underlying t = some (.pointer el) ∧ okT P el = true ∧ 0 < P.cellsOf el := by
  unfold okPtrT at e
  rw [Bool.and_eq_true] at e
  obtain ⟨e1, e2⟩ := e
  split at e1
  · rename_i i hi
    split at e2
    · rename_i el hd
      rw [Bool.and_eq_true] at e2
      exact ⟨i, el, hi, e1, hd, e2.1, blt_iff.1 e2.2⟩
    · cases e2
  · cases e1

theorem lkI_facts {t : TypeId} {k : LK} (e : lkI P t = some k) : ∃ i, P.info? t = some i ∧ i.comparable = true ∧ LkR P t k := by
  unfold lkI at e
  split at e
  · rename_i i hi
    cases hc : i.comparable with
    | false => rw [hc] at e; cases e
    | true =>
      rw [hc, cond_true] at e
      refine ⟨i, hi, hc, ?_⟩
      split at e
      · cases e; assumption
      · cases e; exact ⟨_, by assumption⟩
      · cases e; assumption
      · cases e
  · cases e

theorem keyEq_run (hR : HR P φ h w) {kk : KK} {t : TypeId} (hk : KkR P t kk) {a b : AV} {x y : Value} {r : Bool} (hx : Rel φ a x) (hy : Rel φ b y) (e : keyEq P h kk a b = some r) : (Op.equal t x y).run P w = .ok r w := by
  show (Op.equalIn (9999 + 1) t x y).run P w = .ok r w
  unfold keyEq at e
  split at e
  · exact sameK_run hx hy e 9999 hk
  · obtain ⟨el, h1, h2, h3⟩ := hk
    exact sameP_run hR hx hy e h1 h2 h3 9999
  · obtain ⟨h1, h2⟩ := hk
    cases hx with
    | agg hl => cases hy with
      | agg hr => exact flat_run (w := w) 8 t _ h1 9992 _ _ _ _ r (fun _ => ⟨_, _, rfl, rfl, hl, hr⟩) (fun q => by rw [h2] at q; cases q) e
  · rename_i t1 x1 t2 x2
    obtain ⟨ms, h1⟩ := hk
    cases hx with
    | ifc hx => cases hy with
      | ifc hy =>
        cases ht : Nat.beq t1 t2 with
        | false =>
          rw [ht] at e; cases e
          have hne : t1 ≠ t2 := fun q => by rw [q] at ht; simp at ht
          unfold Op.equalIn
          rw [Sem.run_bind, run_underlying h1, Result.andThen_ok]
          simp only [ne_eq, hne, not_false_eq_true, if_true]
          rfl
        | true =>
          rw [ht, cond_true] at e
          have := Nat.eq_of_beq_eq_true ht
          subst this
          cases ho : okPtrT P t1 with
          | false =>
            rw [ho, cond_false] at e
            split at e
            · rename_i k hk
              obtain ⟨i, i1, i2, i3⟩ := lkI_facts hk
              have := sameK_run (w := w) hx hy e 9998 i3
              unfold Op.equalIn
              rw [Sem.run_bind, run_underlying h1, Result.andThen_ok]
              simp only [ne_eq, not_true_eq_false, if_false, Sem.run_bind, run_typeInfo w i1, Result.andThen_ok, i2, Bool.not_true, Bool.false_eq_true]
              exact this
            · cases e
          | true =>
            rw [ho, cond_true] at e
            obtain ⟨i, el, i1, i2, i3, i4, i5⟩ := okPtrT_facts ho
            have := sameP_run hR hx hy e i3 i4 i5 9998
            unfold Op.equalIn
            rw [Sem.run_bind, run_underlying h1, Result.andThen_ok]
            simp only [ne_eq, not_true_eq_false, if_false, Sem.run_bind, run_typeInfo w i1, Result.andThen_ok, i2, Bool.not_true, Bool.false_eq_true]
            exact this
  · cases e

theorem sameNow_none {d : TypeDesc} {x y : Value} (h : (∃ ms, d = .interface ms) ∨ (∃ e, d = .pointer e) ∨ ∃ fs, d = .struct fs) : Instr.sameNow d x y = none := by
  rcases h with ⟨_, rfl⟩ | ⟨_, rfl⟩ | ⟨_, rfl⟩ <;> (unfold Instr.sameNow; split <;> first | rfl | (rename_i q; cases q))

theorem sameNow_agree {kk : KK} {t : TypeId} {d : TypeDesc} (hd : P.underlying t = some d) (hk : KkR P t kk) {a b : AV} {x y : Value} {r q : Bool} (hx : Rel φ a x) (hy : Rel φ b y) (e : keyEq P h kk a b = some r) (hq : Instr.sameNow d x y = some q) : q = r := by
  unfold keyEq at e
  split at e
  · rename_i k
    unfold sameK at e
    split at e
    · cases hx; cases hy; cases e
      have hk : P.underlying t = some .bool := hk
      rw [hd] at hk; cases hk
      cases hq; rfl
    · rename_i i n j m
      cases hx; cases hy
      obtain ⟨kd, hk⟩ := hk
      rw [hd] at hk; cases hk
      split at e
      · rename_i e1
        subst e1
        cases e
        simp only [Instr.sameNow, if_true, Option.some.injEq] at hq
        rw [← hq, cmpA_eq]
        by_cases c : n < m
        · have : n ≠ m := by omega
          simp [c, this]
        · by_cases c' : n = m <;> simp [c, c']
      · cases e
    · cases hx with
      | str hs hv => cases hy with
        | str ht hu =>
          cases e
          have hk : P.underlying t = some .string := hk
          rw [hd] at hk; cases hk
          simp only [Instr.sameNow, Option.some.injEq] at hq
          rw [← hq, bytes_beq hs hv ht hu]
    · cases e
  · obtain ⟨el, h1, _⟩ := hk
    rw [hd] at h1; cases h1
    rw [sameNow_none (.inr (.inl ⟨_, rfl⟩))] at hq; cases hq
  · obtain ⟨h1, h2⟩ := hk
    rcases flat_agg h1 with ⟨_, fs, hf⟩ | ⟨q1, _⟩
    · rw [hd] at hf; cases hf
      rw [sameNow_none (.inr (.inr ⟨_, rfl⟩))] at hq; cases hq
    · rw [h2] at q1; cases q1
  · obtain ⟨ms, h1⟩ := hk
    rw [hd] at h1; cases h1
    rw [sameNow_none (.inl ⟨_, rfl⟩)] at hq; cases hq
  · cases e

def FindR (φ : Phi) : Option (Nat × AV) → Option (Nat × Value) → Prop
  | none, none => True
  | some (i, v), some (j, y) => i = j ∧ Rel φ v y
  | _, _ => False

theorem find_run {R : Nat → Nat → Prop} (hR : HR P φ h w) {kk : KK} {t : TypeId} {d : TypeDesc} (hd : P.underlying t = some d) (hk : KkR P t kk) {k : AV} {x : Value} (hx : Rel φ k x) : ∀ {es : List (AV × AV × Nat)} {E : List MapEntry} {i : Nat} {res : Option (Nat × AV)}, EntsR φ R es E →
    findA P h kk k es i = some res → ∃ res', (Instr.findAsking t x E i).run P w = .ok res' w ∧ FindR φ res res' ∧ (Instr.findNow d x E i = none ∨ Instr.findNow d x E i = some res')
  | [], E, i, res, hE, e => by
    cases hE
    cases e
    exact ⟨none, rfl, trivial, .inr rfl⟩
  | (k', v, n) :: es, E, i, res, hE, e => by
    cases hE with
    | @cons _ _ _ _ kx vy _ r hkx hvy hn ht =>
      unfold findA at e
      split at e
      · rename_i hq
        split at e
        case h_2 => cases e
        cases e
        have he := keyEq_run hR hk hx hkx hq
        refine ⟨some (i, vy), ?_, ⟨rfl, hvy⟩, ?_⟩
        · unfold Instr.findAsking
          rw [Sem.run_bind, he, Result.andThen_ok]
          rfl
        · unfold Instr.findNow
          split
          · exact .inr rfl
          · rename_i hn; have := sameNow_agree hd hk hx hkx hq hn; cases this
          · exact .inl rfl
      · rename_i hq
        have he := keyEq_run hR hk hx hkx hq
        obtain ⟨res', h1, h2, h3⟩ := find_run hR hd hk hx ht e
        refine ⟨res', ?_, h2, ?_⟩
        · unfold Instr.findAsking
          rw [Sem.run_bind, he, Result.andThen_ok]
          exact h1
        · unfold Instr.findNow
          split
          · rename_i hn; have := sameNow_agree hd hk hx hkx hq hn; cases this
          · exact h3
          · exact .inl rfl
      · cases e

theorem findKey_run {R : Nat → Nat → Prop} (hR : HR P φ h w) {kk : KK} {t : TypeId} (hk : KkR P t kk) {k : AV} {x : Value} (hx : Rel φ k x) {es : List (AV × AV × Nat)} {E : List MapEntry} {res : Option (Nat × AV)} (hE : EntsR φ R es E) (e : findA P h kk k es 0 = some res) :
    ∃ res', (Instr.findKey t x E).run P w = .ok res' w ∧ FindR φ res res' := by
  have hd : ∃ d, P.underlying t = some d := by
    cases kk with
    | one k => cases k with
      | bool => exact ⟨_, hk⟩
      | int => obtain ⟨i, hk⟩ := hk; exact ⟨_, hk⟩
      | str => exact ⟨_, hk⟩
    | flat ks =>
      obtain ⟨h1, _⟩ := hk
      rcases flat_agg h1 with ⟨_, fs, hf⟩ | ⟨_, k, _, hl⟩
      · exact ⟨_, hf⟩
      · cases k with
        | bool => exact ⟨_, hl⟩
        | int => obtain ⟨i, hl⟩ := hl; exact ⟨_, hl⟩
        | str => exact ⟨_, hl⟩
    | any => obtain ⟨_, hk⟩ := hk; exact ⟨_, hk⟩
    | ptr => obtain ⟨_, hk, _⟩ := hk; exact ⟨_, hk⟩
  obtain ⟨d, hd⟩ := hd
  obtain ⟨res', h1, h2, h3⟩ := find_run hR hd hk hx hE e
  refine ⟨res', ?_, h2⟩
  unfold Instr.findKey
  rw [Sem.run_bind, run_underlying hd, Result.andThen_ok]
  rcases h3 with q | q
  · rw [q]; exact h1
  · rw [q]; rfl

theorem findA_none {kk : KK} {k : AV} : ∀ {es : List (AV × AV × Nat)} {i : Nat}, findA P h kk k es i = some none → ∀ e ∈ es, keyEq P h kk k e.1 = some false
  | [], _, _, e, m => by cases m
  | (k', v, n) :: es, i, e, x, m => by
    unfold findA at e
    split at e
    · split at e <;> cases e
    · rename_i hq
      rcases List.mem_cons.1 m with rfl | m
      · exact hq
      · exact findA_none e x m
    · cases e

theorem findA_mk0 {kk : KK} {k : AV} : ∀ {es : List (AV × AV × Nat)} (i : Nat), (∀ e ∈ es, keyEq P h kk k e.1 = some false) → findA P h kk k es i = some none
  | [], _, _ => rfl
  | (k', v, n) :: es, i, m => by
    unfold findA
    rw [m (k', v, n) List.mem_cons_self]
    exact findA_mk0 (i + 1) fun e q => m e (List.mem_cons_of_mem _ q)

theorem findA_some {kk : KK} {k : AV} : ∀ {es : List (AV × AV × Nat)} {i p : Nat} {v : AV}, findA P h kk k es i = some (some (p, v)) →
    ∃ A k0 n B, es = A ++ (k0, v, n) :: B ∧ p = i + A.length ∧ keyEq P h kk k k0 = some true ∧ ∀ e ∈ A ++ B, keyEq P h kk k e.1 = some false
  | [], _, _, _, e => by cases e
  | (k', v', n) :: es, i, p, v, e => by
    unfold findA at e
    split at e
    · rename_i hq
      split at e
      · rename_i hr
        cases e
        exact ⟨[], k', n, es, rfl, rfl, hq, fun e m => findA_none hr e m⟩
      · cases e
    · rename_i hq
      obtain ⟨A, k0, n0, B, h1, h2, h3, h4⟩ := findA_some e
      refine ⟨(k', v', n) :: A, k0, n0, B, by rw [h1]; rfl, by simp only [List.length_cons]; omega, h3, fun e m => ?_⟩
      rcases List.mem_cons.1 m with rfl | m
      · exact hq
      · exact h4 e m
    · cases e

theorem findA_mk1 {kk : KK} {k k0 v : AV} {n : Nat} {B : List (AV × AV × Nat)} (hq : keyEq P h kk k k0 = some true) : ∀ {A : List (AV × AV × Nat)} (i : Nat), (∀ e ∈ A ++ B, keyEq P h kk k e.1 = some false) →
    findA P h kk k (A ++ (k0, v, n) :: B) i = some (some (i + A.length, v))
  | [], i, m => by
    show findA P h kk k ((k0, v, n) :: B) i = _
    unfold findA
    rw [hq]
    have e0 : findA P h kk k B (i + 1) = some none := findA_mk0 (i + 1) fun e q => m e q
    simp only [e0]
    rfl
  | (k', v', n') :: A, i, m => by
    show findA P h kk k ((k', v', n') :: (A ++ (k0, v, n) :: B)) i = _
    unfold findA
    rw [m (k', v', n') List.mem_cons_self]
    simp only
    rw [findA_mk1 hq (i + 1) fun e q => m e (List.mem_cons_of_mem _ q)]
    simp only [List.length_cons]
    congr 3
    omega

/-- A key is found in any order of the entries, at one place. -/
theorem findA_perm {kk : KK} {k : AV} {l es : List (AV × AV × Nat)} (p : List.Perm l es) : (findA P h kk k es 0 = some none → findA P h kk k l 0 = some none) ∧
    ∀ i v, findA P h kk k es 0 = some (some (i, v)) → ∃ A k0 n B A' B', es = A ++ (k0, v, n) :: B ∧ i = A.length ∧ l = A' ++ (k0, v, n) :: B' ∧ List.Perm (A' ++ B') (A ++ B) ∧ keyEq P h kk k k0 = some true ∧ findA P h kk k l 0 = some (some (A'.length, v)) := by
  refine ⟨fun e => findA_mk0 0 fun x m => findA_none e x (p.mem_iff.1 m), fun i v e => ?_⟩
  obtain ⟨A, k0, n, B, h1, h2, h3, h4⟩ := findA_some e
  subst h1
  obtain ⟨A', B', rfl⟩ := List.append_of_mem (p.mem_iff.2 (List.mem_append_right A List.mem_cons_self))
  have q : List.Perm (A' ++ B') (A ++ B) := by
    have := (List.perm_middle (a := (k0, v, n)) (l₁ := A') (l₂ := B')).symm.trans (p.trans List.perm_middle)
    exact this.cons_inv
  refine ⟨A, k0, n, B, A', B', rfl, by omega, rfl, q, h3, ?_⟩
  have := findA_mk1 (P := P) (h := h) (kk := kk) (k := k) (v := v) (n := n) (B := B') h3 (A := A') 0 fun e m => h4 e (q.mem_iff.1 m)
  rwa [Nat.zero_add] at this
end
end Go.Proofs.YtialpccieggaoaaGreatDoor.Am

namespace Go.Proofs.YtialpccieggaoaaGreatDoor.Am

section
variable {P : Program} {φ : Phi} {h : Hp} {w : World}

theorem ck_one {t : TypeId} {k : LK} (hk : LkR P t k) (e : Bool) (n : Nat) (X : Value) : (Instr.checkKey e (n + 1) t X).run P w = .ok () w := by
  unfold Instr.checkKey
  cases k with
  | bool =>
    have hk : P.underlying t = some .bool := hk
    rw [Sem.run_bind, run_underlying hk, Result.andThen_ok]
    cases X <;> rfl
  | int =>
    obtain ⟨i, hk⟩ := hk
    rw [Sem.run_bind, run_underlying hk, Result.andThen_ok]
    cases X <;> rfl
  | str =>
    have hk : P.underlying t = some .string := hk
    rw [Sem.run_bind, run_underlying hk, Result.andThen_ok]
    cases X <;> rfl

theorem ck_ptr {t el : TypeId} (hk : P.underlying t = some (.pointer el)) (e : Bool) (n : Nat) (X : Value) : (Instr.checkKey e (n + 1) t X).run P w = .ok () w := by
  unfold Instr.checkKey
  rw [Sem.run_bind, run_underlying hk, Result.andThen_ok]
  cases X <;> rfl

theorem ck_fields {e : Bool} {n : Nat} {g : TypeId → Option (List LK)} {cs : Array Value} (hg : ∀ (t : TypeId) (ks : List LK) (off : Nat), okT P t = true → g t = some ks → ks.length = P.cellsOf t → off + ks.length ≤ cs.size →
      ∃ X, (part t cs off).run P w = .ok X w ∧ (Instr.checkKey e n t X).run P w = .ok () w)
    {body : Field → PUnit → Sem (ForInStep PUnit)} (hB : ∀ (f : Field) (st : PUnit) (X : Value), f.name ≠ "_" → (part f.type cs f.offset).run P w = .ok X w → (Instr.checkKey e n f.type X).run P w = .ok () w → (body f st).run P w = .ok (.yield ⟨⟩) w) :
    ∀ (fs : List Field) (acc : Nat) (ks : List LK), flatFs P g fs acc = some ks → acc + ks.length ≤ cs.size → (forIn (m := Sem) fs PUnit.unit body).run P w = .ok ⟨⟩ w
  | [], acc, ks, h, _ => by cases h; rfl
  | f :: fs, acc, ks, h, hl => by
    unfold flatFs at h
    cases hc : (f.name == "_" || !Nat.beq f.offset acc || !okT P f.type) with
    | true => rw [hc] at h; cases h
    | false =>
      rw [hc, cond_false] at h
      simp only [Bool.or_eq_false_iff, Bool.not_eq_false'] at hc
      obtain ⟨⟨c1, c2⟩, c3⟩ := hc
      have c2 : f.offset = acc := Nat.eq_of_beq_eq_true c2
      split at h
      · rename_i k1 hk1
        cases hb : Nat.beq k1.length (P.cellsOf f.type) with
        | false => rw [hb] at h; cases h
        | true =>
          rw [hb, cond_true] at h
          split at h
          · rename_i k2 hk2
            cases h
            rw [List.length_append] at hl
            obtain ⟨X, r1, r2⟩ := hg f.type k1 acc c3 hk1 (Nat.eq_of_beq_eq_true hb) (by omega)
            have hname : f.name ≠ "_" := fun e => by rw [e] at c1; cases c1
            rw [List.forIn_cons, Sem.run_bind, hB f _ X hname (by rw [c2]; exact r1) r2, Result.andThen_ok]
            exact ck_fields hg hB fs (Nat.add acc k1.length) k2 hk2 (by show acc + k1.length + k2.length ≤ _; omega)
          · cases h
      · cases h

theorem ck_flat (e : Bool) : ∀ (n : Nat) (t : TypeId) (ks : List LK), flatK P n t = some ks → ∀ (d : Nat) (X : Value), (isAggT P t = true → ∃ a, X = .agg a ∧ a.size = ks.length) → (Instr.checkKey e (n + d) t X).run P w = .ok () w
  | 0, t, ks, h => by cases h
  | n + 1, t, ks, h => by
    intro d X ha
    rw [show n + 1 + d = (n + d) + 1 by omega]
    rcases flat_agg h with ⟨hag, fs, hd⟩ | ⟨hag, k, rfl, hk⟩
    · obtain ⟨cs, rfl, hl⟩ := ha hag
      unfold flatK at h
      rw [hd] at h
      simp only at h
      cases hst : P.stoodInHeld t with
      | true => rw [hst] at h; cases h
      | false =>
        rw [hst, cond_false] at h
        unfold Instr.checkKey
        rw [Sem.run_bind, run_underlying hd, Result.andThen_ok]
        simp only
        rw [← Array.forIn_toList]
        rw [Sem.run_bind, ck_fields (P := P) (w := w) (e := e) (n := n + d) (g := flatK P n) (cs := cs) ?_ ?_ fs.toList 0 ks h (by omega), Result.andThen_ok]
        · rfl
        · intro t' ks' off hok hk' hlen hle
          rcases flat_agg hk' with ⟨hag', _⟩ | ⟨hag', k', rfl, hkk⟩
          · refine ⟨_, part_agg hok hag' cs off w, ck_flat e n t' ks' hk' d _ fun _ => ⟨_, rfl, ?_⟩⟩
            rw [← hlen, Array.size_extract]; omega
          · have hlt : off < cs.size := by simp at hle; omega
            refine ⟨cs[off], part_one hok hag' (Array.getElem?_eq_getElem hlt) w, ck_flat e n t' [k'] hk' d _ fun q => by rw [hag'] at q; cases q⟩
        · intro f st X hname e1 e2
          rw [if_pos hname]
          simp only [Sem.run_bind, e1, e2, Result.andThen_ok, Sem.run_pure]
    · exact ck_one hk e (n + d) X

theorem checkKey_run {kk : KK} {t : TypeId} (hk : KkR P t kk) {k : AV} {x : Value} (hx : Rel φ k x) (hok : keyOk P kk k = true) (e : Bool) : (Instr.checkKey e 10000 t x).run P w = .ok () w := by
  unfold keyOk at hok
  split at hok
  · exact ck_one hk e 9999 x
  · obtain ⟨el, h1, _⟩ := hk; exact ck_ptr h1 e 9999 x
  · obtain ⟨h1, h2⟩ := hk
    cases hx with
    | agg hl =>
      refine ck_flat e 8 t _ h1 9992 _ fun _ => ⟨_, rfl, ?_⟩
      rw [← Array.length_toList, ← hl.length]
      exact beq_iff.1 hok
  · obtain ⟨ms, h1⟩ := hk
    cases hx with
    | ifc hx =>
      obtain ⟨i, el, i1, i2, i3, _⟩ := okPtrT_facts hok
      show (Instr.checkKey e (9999 + 1) t _).run P w = _
      unfold Instr.checkKey
      rw [Sem.run_bind, run_underlying h1, Result.andThen_ok]
      simp only [Sem.run_bind, run_typeInfo w i1, Result.andThen_ok, i2, Bool.not_true, Bool.false_eq_true, if_false]
      exact ck_ptr i3 e 9998 _
  · cases hok

theorem keyT_facts {t : TypeId} {kk : KK} (e : keyT P t = some kk) : ∃ kt et, P.underlying t = some (.map kt et) ∧ KkR P kt kk := by
  unfold keyT at e
  split at e
  · exact ⟨_, _, by assumption, kkT_R e⟩
  · cases e

theorem valT_facts {t kt et : TypeId} {z : AV} (hd : P.underlying t = some (.map kt et)) (e : valT P t = some z) : zeroT P et = some z := by
  unfold valT at e
  rw [hd] at e
  exact e

theorem EntsR.empty {R : Nat → Nat → Prop} {es : List (AV × AV × Nat)} {E : Array MapEntry} (h : EntsR φ R es E.toList) : E.isEmpty = es.isEmpty := by
  obtain ⟨l⟩ := E
  cases h <;> rfl

theorem EntsR.length {R : Nat → Nat → Prop} {es : List (AV × AV × Nat)} {E : List MapEntry} (h : EntsR φ R es E) : es.length = E.length := by
  induction h with
  | nil => rfl
  | cons _ _ _ _ ih => simp [ih]

/-- A key that is looked for in a map. -/
theorem findM_run (hR : HR P φ h w) {kk : KK} {t : TypeId} (hk : KkR P t kk) {k : AV} {x : Value} (hx : Rel φ k x) {id : Pos} {b : Nat} {d : Int} {n0 : Nat} {es : List (AV × AV × Nat)} {clock : Nat} {E : List MapEntry} {clk : Nat} (hM : MapR φ id b d n0 es clock E clk) :
    (findA P h kk k es 0 = some none → (Instr.findKey t x E).run P w = .ok none w) ∧
    ∀ i v, findA P h kk k es 0 = some (some (i, v)) → ∃ A k0 n B A' B' y, es = A ++ (k0, v, n) :: B ∧ i = A.length ∧ List.Perm (A' ++ B') (A ++ B) ∧ keyEq P h kk k k0 = some true ∧ EntsR φ (BornR φ id b d n0) (A' ++ (k0, v, n) :: B') E ∧
      (Instr.findKey t x E).run P w = .ok (some (A'.length, y)) w ∧ Rel φ v y := by
  obtain ⟨l, p, hE⟩ := hM.ents
  refine ⟨fun e => ?_, fun i v e => ?_⟩
  · obtain ⟨res', f1, f2⟩ := findKey_run hR hk hx hE ((findA_perm p).1 e)
    cases res' with
    | none => exact f1
    | some p => cases f2
  · obtain ⟨A, k0, n, B, A', B', h1, h2, h3, h4, h5, h6⟩ := (findA_perm p).2 i v e
    subst h3
    obtain ⟨res', f1, f2⟩ := findKey_run hR hk hx hE h6
    cases res' with
    | none => cases f2
    | some p =>
      obtain ⟨pi, py⟩ := p
      obtain ⟨rfl, hy⟩ := f2
      exact ⟨A, k0, n, B, A', B', py, h1, h2, h4, h5, hE, f1, hy⟩

variable {env : T AV} {a : Act} {o : Oper}

theorem op_lookup (hR : HR P φ h w) (hE : EnvR φ env a.tmps) {t : TypeId} {m k : Operand} {m' k' : Opd} {kk : KK} {z : AV} {ok : Bool} (hkk : keyT P t = some kk) (hz : valT P t = some z) (hm : compOpd P m = some m') (hk : compOpd P k = some k')
    (ho : o.op = .lookup t m k ok) : ResR P φ h w (evalOp P (.lookup z ok kk m' k') env h) ((execOp a.eval o).run P w) := by
  have rm := opd_rel hR hE hm
  have rk := opd_rel hR hE hk
  obtain ⟨kt, et, hd, hK⟩ := keyT_facts hkk
  have hz := valT_facts hd hz
  obtain ⟨Z, z1, z2⟩ := zeroT_run hz φ w
  have hrun : (execOp a.eval o).run P w = ((Instr.lookup t (a.eval m) (a.eval k) ok).run P w).andThen fun v w' => .ok (.value v) w' := by
    simp only [execOp, ho, Sem.run_bind]; rfl
  rw [hrun]
  unfold evalOp
  simp only
  generalize hkv : ev env k' = kv at *
  generalize hmv : ev env m' = mv at *
  generalize hX : a.eval m = X at *
  generalize hY : a.eval k = Y at *
  cases hok : keyOk P kk kv with
  | false => trivial
  | true =>
    rw [cond_true]
    have hck : ∀ e, (Instr.checkKey e 10000 kt Y).run P w = .ok () w := fun e => checkKey_run hK rk hok e
    have fin : ∀ (v : AV) (y : Value) (b : Bool), Rel φ v y → (Instr.lookup t X Y ok).run P w = .ok (if ok then .tuple #[y, .bool b] else y) w →
        ResR P φ h w (.val (bif ok then .tup [v, .bool b] else v) h) (((Instr.lookup t X Y ok).run P w).andThen fun v w' => .ok (.value v) w') := by
      intro v y b hv e
      rw [e]
      refine ResR.pure hR (x := if ok then .tuple #[y, .bool b] else y) ?_ rfl
      cases ok with
      | true => exact .tup (.cons hv (.cons (.bool b) .nil))
      | false => exact hv
    split
    · cases rm
      refine fin z Z false z2 ?_
      unfold Instr.lookup
      rw [Sem.run_bind, run_underlying hd, Result.andThen_ok]
      simp only [Sem.run_bind, Sem.run_pure, Result.andThen_ok, hck, Instr.findKey]
      obtain ⟨res', f1, f2⟩ := findKey_run hR hK rk (es := []) (E := []) (R := fun _ _ => True) .nil (kk := kk) (res := none) rfl
      have f1 : (Instr.findKey kt Y (#[] : Array MapEntry).toList).run P w = .ok res' w := f1
      unfold Instr.findKey at f1
      simp only [Sem.run_bind] at f1
      rw [f1, Result.andThen_ok]
      cases res' with
      | some p => cases f2
      | none => simp only [Sem.run_bind, z1, Result.andThen_ok, Sem.run_pure]
    · rename_i id
      cases rm with
      | @map _ b s0 m0 hφ =>
        split
        · rename_i ser es clock hid
          obtain ⟨b', d, n0, E, clk, e1, e2, e3⟩ := hR.blk _ _ hid
          rw [hφ] at e1
          cases e1
          have hmodel : ∀ (res' : Option (Nat × Value)), (Instr.findKey kt Y E.toList).run P w = .ok res' w →
              (Instr.lookup t (.map (some b)) Y ok).run P w = .ok (match res' with | some (_, y) => if ok then .tuple #[y, .bool true] else y | none => if ok then .tuple #[Z, .bool false] else Z) w := by
            intro res' f1
            unfold Instr.lookup
            rw [Sem.run_bind, run_underlying hd, Result.andThen_ok]
            simp only [Sem.run_bind, run_getObj e2 (fun _ _ _ q => by cases q), Sem.run_pure, Result.andThen_ok, hck, f1]
            cases res' with
            | none => simp only [Sem.run_bind, z1, Result.andThen_ok, Sem.run_pure]
            | some p => rfl
          split
          · rename_i i v hf
            obtain ⟨_, _, _, _, _, _, y, _, _, _, _, _, f1, f2⟩ := (findM_run hR hK rk e3).2 _ _ hf
            exact fin v y true f2 (hmodel _ f1)
          · rename_i hf
            exact fin z Z false z2 (hmodel _ ((findM_run hR hK rk e3).1 hf))
          · trivial
        · trivial
    · trivial
end
end Go.Proofs.YtialpccieggaoaaGreatDoor.Am

namespace Go.Proofs.YtialpccieggaoaaGreatDoor.Am

section
variable {P : Program} {φ : Phi} {h : Hp} {w : World}

/-- A block that is no row of cells is changed in its place. -/
theorem put_block (hR : HR P φ h w) {id : Pos} {b : Nat} {blk blk' : Blk} (hid : T.get id h.heap = some blk) (hnc : blk.free) {s0 : Int} {m0 : Nat} (hφ : φ id 0 = some (b, s0, m0)) (ser : Nat) {o' : Obj} (hB : BR P φ (putO w b o') id blk') :
    HR P φ ⟨T.set id (some blk') h.heap, h.next, ser, h.lim⟩ (putO w b o') ∧ Adv h w φ ⟨T.set id (some blk') h.heap, h.next, ser, h.lim⟩ (putO w b o') φ := by
  have u : Upd h w φ id h.next (putO w b o') φ := Upd.same hR hid (by simp [putO]) (fun y hy kk => putO_ne (fun c => kk 0 s0 m0 (by rw [c]; exact hφ))) rfl rfl rfl
  refine ⟨hR.update u (.inr ⟨_, hid, hnc⟩) fun x hx => ?_, Adv.update hR u (.inr ⟨_, hid, hnc⟩)⟩
  cases hx
  exact hB

/-- A new block that is no row of cells. -/
theorem new_block (hR : HR P φ h w) (hm : Room h) (ser : Nat) {o : Obj} {blk : Blk} (hB : BR P (φ.put h.next 0 (w.heap.size, 0, 0)) (w.alloc o) h.next blk) :
    HR P (φ.put h.next 0 (w.heap.size, 0, 0)) ⟨T.set h.next (some blk) h.heap, h.next.succ, ser, h.lim⟩ (w.alloc o) ∧ Adv h w φ ⟨T.set h.next (some blk) h.heap, h.next.succ, ser, h.lim⟩ (w.alloc o) (φ.put h.next 0 (w.heap.size, 0, 0)) ∧ Le φ (φ.put h.next 0 (w.heap.size, 0, 0)) := by
  have u := Upd.alloc hR hm o 0
  refine ⟨hR.update u (.inl ⟨Nat.le_refl _, by rw [Pos.num_succ]; omega, hR.next_none hm⟩) fun x hx => ?_, Adv.update hR u (.inl ⟨Nat.le_refl _, by rw [Pos.num_succ]; omega, hR.next_none hm⟩), u.le⟩
  cases hx
  exact hB

theorem putO_self {b : Nat} {o : Obj} (h : w.heap[b]? = some o) : putO w b o = w := by
  unfold putO
  have : w.heap.setIfInBounds b o = w.heap := by
    apply Array.ext_getElem?
    intro i
    rw [Array.getElem?_setIfInBounds]
    by_cases c : b = i
    · subst c
      rw [if_pos rfl, if_pos (heap_lt h), h]
    · rw [if_neg c]
  rw [this]

variable {env : T AV} {a : Act} {o : Oper}

theorem op_rangeStr (hR : HR P φ h w) (hE : EnvR φ env a.tmps) (hm : Room h) {t : TypeId} {x : Operand} {x' : Opd} (hx : compOpd P x = some x') (hd : P.underlying t = some .string) (ho : o.op = .range t x) : ResR P φ h w (evalOp P (.rangeStr x') env h) ((execOp a.eval o).run P w) := by
  have rx := opd_rel hR hE hx
  unfold evalOp
  simp only
  generalize hX : a.eval x = X at *
  split
  · rename_i n v e
    rw [e] at rx
    cases rx with
    | @str _ _ s hs hv =>
      rw [newK_eq]
      obtain ⟨q1, q2, q3⟩ := new_block hR hm (Nat.succ h.ser) (o := .stringIter s 0) (blk := .sit h.ser n v 0) ⟨w.heap.size, s, Phi.put_same _ _ _ _, alloc_new _ _, hs, hv⟩
      refine ⟨_, .pointer (some ⟨w.heap.size, 0, none⟩), w.alloc (.stringIter s 0), _, ?_, .inl rfl, q1, q2, .ptr (Phi.put_same _ _ _ _) rfl rfl rfl⟩
      simp only [execOp, ho, hX, Instr.range, Sem.run_bind, run_underlying hd, Result.andThen_ok, Sem.run_pure, run_newObj]
      rfl
  · trivial

theorem byteAt_get {n v : Nat} {s : ByteArray} (hs : s.data.toList = unpack n v) {pos : Nat} (hp : pos < n) : (s.get! pos).toNat = byteAt n v pos := by
  have hg := unpack_get n v pos hp
  rw [← hs, Array.getElem?_toList] at hg
  have e : s.get! pos = UInt8.ofNat (v / 256 ^ (n - 1 - pos)) := by
    show s.data[pos]! = _
    rw [getElem!_def, hg]
  rw [e]
  unfold byteAt
  show (UInt8.ofNat (v / 256 ^ (n - 1 - pos))).toNat = v / 256 ^ (n - (pos + 1)) % 256
  rw [UInt8.toNat_ofNat', show n - (pos + 1) = n - 1 - pos by omega]

theorem rune_run {n v : Nat} {s : ByteArray} (hs : s.data.toList = unpack n v) {pos : Nat} (hp : pos < n) : runeA n v pos (byteAt n v pos) = Utf8.decode s pos := by
  have hse : s = ⟨(unpack n v).toArray⟩ := by
    cases s
    simp only at hs
    rw [← hs, Array.toArray_toList]
  unfold runeA
  cases hb : Nat.blt (byteAt n v pos) 128 with
  | false => rw [cond_false, ← hse]
  | true =>
    rw [cond_true]
    have hb := blt_iff.1 hb
    have hb' : (s.get! (pos + 0)).toNat < 0x80 := by rw [Nat.add_zero, byteAt_get hs hp]; exact hb
    rw [← byteAt_get hs hp]
    unfold Utf8.decode
    exact (if_pos hb').symm

theorem op_nextStr (hR : HR P φ h w) (hE : EnvR φ env a.tmps) {x : Operand} {x' : Opd} (hx : compOpd P x = some x') (ho : o.op = .next x true) : ResR P φ h w (evalOp P (.nextStr x') env h) ((execOp a.eval o).run P w) := by
  have rx := opd_rel hR hE hx
  unfold evalOp
  simp only
  generalize hX : a.eval x = X at *
  split
  · rename_i id g off e
    rw [e] at rx
    cases hb : (Nat.beq g 0 && Nat.beq off 0) with
    | false => trivial
    | true =>
      rw [cond_true]
      rw [Bool.and_eq_true] at hb
      have hg : g = 0 := Nat.eq_of_beq_eq_true hb.1
      have ho' : off = 0 := Nat.eq_of_beq_eq_true hb.2
      subst hg; subst ho'
      split
      · rename_i ser n v pos hid
        obtain ⟨b, s, e1, e2, e3, e4⟩ := hR.blk _ _ hid
        cases rx with
        | @ptr _ _ _ b1 s1 n1 a1 p1 q1 r1 t1 =>
          rw [e1] at p1
          cases p1
          have ha1 : a1 = ⟨b, 0, none⟩ := by
            obtain ⟨ab, ao, as⟩ := a1
            simp only at q1 r1 t1
            subst q1; subst t1
            have : ao = 0 := by omega
            subst this; rfl
          subst ha1
          have hsz : s.size = n := by rw [← unpack_length n v, ← e3]; simp
          cases hp : Nat.blt pos n with
          | true =>
            have hp := blt_iff.1 hp
            rw [cond_true]
            simp only [natK_eq, T.setK_eq]
            rw [rune_run e3 hp]
            obtain ⟨q1, q2⟩ := put_block hR hid trivial e1 h.ser (blk' := .sit ser n v (Nat.add pos (Utf8.decode s pos).2)) (o' := .stringIter s (pos + (Utf8.decode s pos).2)) ⟨b, s, e1, putO_same e2, e3, e4⟩
            refine ⟨_, .tuple #[.bool true, goInt pos, .int .i32 (Utf8.decode s pos).1], putO w b (.stringIter s (pos + (Utf8.decode s pos).2)), φ, ?_, .inl rfl, q1, q2, .tup (.cons (.bool true) (.cons (.int _ _) (.cons (.int _ _) .nil)))⟩
            simp only [execOp, ho, hX, Instr.next, Sem.run_bind, run_getObj e2 (fun _ _ _ q => by cases q), Result.andThen_ok, hsz, hp, if_true, run_setObj e2 (fun _ _ _ q => by cases q), Sem.run_pure]
          | false =>
            have hp : ¬ pos < n := by
              intro q
              rw [blt_iff.2 q] at hp; cases hp
            rw [cond_false]
            refine ResR.pure hR (x := .tuple #[.bool false]) (.tup (.cons (.bool false) .nil)) ?_
            simp only [execOp, ho, hX, Instr.next, Sem.run_bind, run_getObj e2 (fun _ _ _ q => by cases q), Result.andThen_ok, hsz, hp, if_false, Sem.run_pure]
      · trivial
  · trivial

theorem isMapT_facts {t : TypeId} (e : isMapT P t = true) : ∃ k v, P.underlying t = some (.map k v) := by
  unfold isMapT at e
  split at e
  · exact ⟨_, _, by assumption⟩
  · cases e

theorem op_mkMap (hR : HR P φ h w) (hm : Room h) {t : TypeId} {r : Option Operand} (hd : isMapT P t = true) (hr : r = none ∨ ∃ k n, r = some (.const (.int k n))) (ho : o.op = .makeMap t r) : ResR P φ h w (evalOp P .mkMap env h) ((execOp a.eval o).run P w) := by
  obtain ⟨kt, et, hd⟩ := isMapT_facts hd
  unfold evalOp
  rw [newK_eq]
  obtain ⟨q1, q2, q3⟩ := new_block hR hm (Nat.succ h.ser) (o := .map #[] 0) (blk := .map 0 [] 0) ⟨w.heap.size, 0, 0, #[], 0, Phi.put_same _ _ _ _, alloc_new _ _, MapR.nil _ _ _⟩
  refine ⟨_, .map (some w.heap.size), w.alloc (.map #[] 0), _, ?_, .inl rfl, q1, q2, .map (Phi.put_same _ _ _ _)⟩
  rcases hr with rfl | ⟨k, n, rfl⟩
  · simp only [execOp, ho, Instr.makeMap, Option.map_none, Sem.run_bind, Result.andThen_ok, Sem.run_pure, run_newObj]
    rfl
  · have : a.eval (.const (.int k n)) = .int k n := rfl
    simp only [execOp, ho, Instr.makeMap, Option.map_some, this, Sem.run_bind, run_underlying hd, Result.andThen_ok, Sem.run_pure, run_newObj, asInt, asIntOf]
    rfl

theorem op_lenM (hR : HR P φ h w) (hE : EnvR φ env a.tmps) {c : Call} {x : Operand} {x' : Opd} {t k e : TypeId} (hx : compOpd P x = some x') (hd : P.underlying t = some (.map k e)) (hc : c.callee = .builtin .len) (ha : c.args.toList = [x]) (htt : c.argTypes.toList = [t]) (ho : o.op = .call c) :
    ResR P φ h w (evalOp P (.lenM x') env h) ((execOp a.eval o).run P w) := by
  have rx := opd_rel hR hE hx
  have ha : c.args = #[x] := by rw [← Array.toArray_toList (xs := c.args), ha]
  have htt : c.argTypes = #[t] := by rw [← Array.toArray_toList (xs := c.argTypes), htt]
  have hrun : (execOp a.eval o).run P w = ((Builtin.len_ #[t] o.type #[a.eval x]).run P w).andThen fun v w' => .ok (.value v) w' := by
    rw [exec_builtin ho hc, ha, htt]
    show (do pure (Next.value (← Builtin.len_ #[t] o.type (#[x].map a.eval))) : Sem Next).run P w = _
    rw [Sem.run_bind, show #[x].map a.eval = #[a.eval x] by simp]
    rfl
  rw [hrun]
  unfold evalOp
  simp only
  generalize hX : a.eval x = X at *
  split
  · rename_i e
    rw [e] at rx
    cases rx
    refine ResR.pure hR (x := goInt 0) (.int _ _) ?_
    simp [Builtin.len_, Sem.run_bind, run_underlying hd]
  · rename_i id e
    rw [e] at rx
    cases rx with
    | @map _ b s0 m0 hφ =>
      split
      · rename_i ser es clock hid
        obtain ⟨b', d, n0, E, clk, e1, e2, e3⟩ := hR.blk _ _ hid
        rw [hφ] at e1
        cases e1
        simp only [natK_eq]
        refine ResR.pure hR (x := goInt E.size) ?_ ?_
        · obtain ⟨l, p, hE⟩ := e3.ents
          rw [← p.length_eq, hE.length, Array.length_toList]
          exact .int _ _
        · simp [Builtin.len_, Sem.run_bind, run_underlying hd, run_getObj e2 (fun _ _ _ q => by cases q)]
      · trivial
  · trivial
end
end Go.Proofs.YtialpccieggaoaaGreatDoor.Am

namespace Go.Proofs.YtialpccieggaoaaGreatDoor.Am

section
variable {P : Program} {φ : Phi} {h : Hp} {w : World}

variable {R : Nat → Nat → Prop}

theorem EntsR.get {es : List (AV × AV × Nat)} {E : List MapEntry} (hE : EntsR φ R es E) : ∀ {j : Nat} {k v : AV} {n : Nat}, es[j]? = some (k, v, n) → ∃ x y n', E[j]? = some { key := x, val := y, born := n' } ∧ Rel φ k x ∧ Rel φ v y ∧ R n n' := by
  induction hE with
  | nil => intro j k v n e; simp at e
  | cons hk hv hn t ih =>
    intro j k v n e
    cases j with
    | zero => simp at e; obtain ⟨rfl, rfl, rfl⟩ := e; exact ⟨_, _, _, rfl, hk, hv, hn⟩
    | succ j => simpa using ih (by simpa using e)

theorem EntsR.setAt {es : List (AV × AV × Nat)} {E : List MapEntry} (hE : EntsR φ R es E) {k v : AV} {x y : Value} (hk : Rel φ k x) (hv : Rel φ v y) : ∀ (i : Nat), EntsR φ R (setAt es i k v) (E.modify i fun e => { e with key := x, val := y }) := by
  induction hE with
  | nil => intro i; cases i <;> exact .nil
  | cons hk' hv' hn t ih =>
    intro i
    cases i with
    | zero => exact .cons hk hv hn t
    | succ i => exact .cons hk' hv' hn (ih i)

theorem EntsR.push {es : List (AV × AV × Nat)} {E : List MapEntry} (hE : EntsR φ R es E) {k v : AV} {n n' : Nat} {x y : Value} (hk : Rel φ k x) (hv : Rel φ v y) (hn : R n n') : EntsR φ R (es ++ [(k, v, n)]) (E ++ [{ key := x, val := y, born := n' }]) := by
  induction hE with
  | nil => exact .cons hk hv hn .nil
  | cons hk' hv' hn' t ih => exact .cons hk' hv' hn' ih

theorem EntsR.erase {es : List (AV × AV × Nat)} {E : List MapEntry} (hE : EntsR φ R es E) : ∀ (i : Nat), EntsR φ R (es.eraseIdx i) (E.eraseIdx i) := by
  induction hE with
  | nil => intro i; exact .nil
  | cons hk' hv' hn' t ih =>
    intro i
    cases i with
    | zero => exact t
    | succ i => exact .cons hk' hv' hn' (ih i)

theorem EntsR.filter {es : List (AV × AV × Nat)} {E : List MapEntry} (hE : EntsR φ R es E) {p q : Nat → Bool} (hpq : ∀ n n', R n n' → p n = q n') : EntsR φ R (es.filter fun e => p e.2.2) (E.filter fun e => q e.born) := by
  induction hE with
  | nil => exact .nil
  | @cons k v n n' x y l r hk' hv' hn t ih =>
    simp only [List.filter_cons]
    rw [← hpq _ _ hn]
    cases p n with
    | true => exact .cons hk' hv' hn ih
    | false => exact ih

theorem EntsR.all {es : List (AV × AV × Nat)} {E : List MapEntry} (hE : EntsR φ R es E) {p q : Nat → Bool} (hpq : ∀ n n', R n n' → p n = q n') : (es.all fun e => p e.2.2) = E.all fun e => q e.born := by
  induction hE with
  | nil => rfl
  | cons hk' hv' hn t ih => simp only [List.all_cons, ih, hpq _ _ hn]

theorem EntsR.find {es : List (AV × AV × Nat)} {E : List MapEntry} (hE : EntsR φ R es E) {p q : Nat → Bool} (hpq : ∀ n n', R n n' → p n = q n') {e : AV × AV × Nat} (he : es.find? (fun e => p e.2.2) = some e) : ∃ x y n', E.find? (fun e => q e.born) = some { key := x, val := y, born := n' } ∧ Rel φ e.1 x ∧ Rel φ e.2.1 y ∧ R e.2.2 n' := by
  induction hE with
  | nil => cases he
  | @cons k v n n' x y l r hk' hv' hn t ih =>
    simp only [List.find?_cons] at he ⊢
    rw [← hpq _ _ hn]
    cases hp : p n with
    | true => rw [hp] at he; cases he; exact ⟨_, _, _, rfl, hk', hv', hn⟩
    | false => rw [hp] at he; exact ih he

theorem setAt_mid (A : List (AV × AV × Nat)) (k0 v0 : AV) (n : Nat) (B : List (AV × AV × Nat)) (k v : AV) : Am.setAt (A ++ (k0, v0, n) :: B) A.length k v = A ++ (k, v, n) :: B := by
  induction A with
  | nil => rfl
  | cons a A ih => obtain ⟨a1, a2, a3⟩ := a; show (a1, a2, a3) :: Am.setAt (A ++ _) A.length k v = _; rw [ih]; rfl

theorem erase_mid {α : Type} (A : List α) (x : α) (B : List α) : (A ++ x :: B).eraseIdx A.length = A ++ B := by
  induction A with
  | nil => rfl
  | cons a A ih => simp only [List.cons_append, List.length_cons, List.eraseIdx_cons_succ, ih]

theorem map_modify {α β : Type} (f : α → β) (g : α → α) (hg : ∀ a, f (g a) = f a) : ∀ (l : List α) (i : Nat), (l.modify i g).map f = l.map f
  | [], i => by cases i <;> rfl
  | a :: l, 0 => by show f (g a) :: l.map f = _; rw [hg]; rfl
  | a :: l, i + 1 => by show f a :: (l.modify i g).map f = _; rw [map_modify f g hg l i]; rfl

theorem map_erase {α β : Type} (f : α → β) : ∀ (l : List α) (i : Nat), (l.eraseIdx i).map f = (l.map f).eraseIdx i
  | [], i => rfl
  | a :: l, 0 => rfl
  | a :: l, i + 1 => by show f a :: (l.eraseIdx i).map f = _; rw [map_erase f l i]; rfl

section
variable {id : Pos} {b : Nat} {d : Int} {n0 : Nat} {es : List (AV × AV × Nat)} {clock : Nat} {E : List MapEntry} {clk : Nat}

theorem MapR.set (hM : MapR φ id b d n0 es clock E clk) {A B A' B' : List (AV × AV × Nat)} {k0 v0 : AV} {n : Nat} (h1 : es = A ++ (k0, v0, n) :: B) (h2 : List.Perm (A' ++ B') (A ++ B)) (hE : EntsR φ (BornR φ id b d n0) (A' ++ (k0, v0, n) :: B') E)
    {k v : AV} {x y : Value} (hk : Rel φ k x) (hv : Rel φ v y) : MapR φ id b d n0 (Am.setAt es A.length k v) clock (E.modify A'.length fun e => { e with key := x, val := y }) clk where
  le := hM.le
  ck := hM.ck
  ents := by
    refine ⟨A' ++ (k, v, n) :: B', ?_, ?_⟩
    · rw [h1, setAt_mid]
      exact List.perm_middle.trans ((h2.cons _).trans List.perm_middle.symm)
    · rw [← setAt_mid A' k0 v0 n B' k v]
      exact hE.setAt hk hv A'.length
  first := hM.first
  inj := hM.inj
  born := by rw [map_modify (fun e : MapEntry => e.born) (fun e => { e with key := x, val := y }) fun _ => rfl]; exact hM.born
  nodup := by rw [map_modify (fun e : MapEntry => e.born) (fun e => { e with key := x, val := y }) fun _ => rfl]; exact hM.nodup

theorem MapR.push (hM : MapR φ id b d n0 es clock E clk) {k v : AV} {x y : Value} (hk : Rel φ k x) (hv : Rel φ v y) : MapR φ id b d n0 (es ++ [(k, v, clock)]) (Nat.succ clock) (E ++ [{ key := x, val := y, born := clk }]) (clk + 1) where
  le := Nat.le_succ_of_le hM.le
  ck := by have := hM.ck; show ((clk + 1 : Nat) : Int) = ((clock + 1 : Nat) : Int) + d; omega
  ents := let ⟨l, p, q⟩ := hM.ents; ⟨l ++ [(k, v, clock)], p.append_right _, q.push hk hv (.inr ⟨hM.le, hM.ck⟩)⟩
  first := hM.first
  inj := hM.inj
  born := fun x hx => by
    rw [List.map_append, List.mem_append] at hx
    rcases hx with hx | hx
    · exact Nat.lt_succ_of_lt (hM.born x hx)
    · simp at hx; omega
  nodup := by
    rw [List.map_append, List.nodup_append]
    refine ⟨hM.nodup, by simp, fun a ha b hb => ?_⟩
    have := hM.born a ha
    simp at hb
    omega

theorem MapR.erase (hM : MapR φ id b d n0 es clock E clk) {A B A' B' : List (AV × AV × Nat)} {k0 v0 : AV} {n : Nat} (h1 : es = A ++ (k0, v0, n) :: B) (h2 : List.Perm (A' ++ B') (A ++ B)) (hE : EntsR φ (BornR φ id b d n0) (A' ++ (k0, v0, n) :: B') E) :
    MapR φ id b d n0 (es.eraseIdx A.length) clock (E.eraseIdx A'.length) clk where
  le := hM.le
  ck := hM.ck
  ents := by
    refine ⟨A' ++ B', ?_, ?_⟩
    · rw [h1, erase_mid]; exact h2
    · have := hE.erase A'.length
      rwa [erase_mid] at this
  first := hM.first
  inj := hM.inj
  born := fun x hx => by
    rw [map_erase] at hx
    exact hM.born x (List.mem_of_mem_eraseIdx hx)
  nodup := by
    rw [map_erase]
    exact hM.nodup.sublist (List.eraseIdx_sublist _ _)

/-- Unlike entries have unlike numbers. -/
theorem MapR.bornInj (hM : MapR φ id b d n0 es clock E clk) {n m x : Nat} (h : BornR φ id b d n0 n x) (k : BornR φ id b d n0 m x) : n = m := by
  have key : ∀ {n m : Nat}, n < n0 → φ id (n + 1) = some (b, (x : Int), 0) → (x : Int) = m + d → n0 ≤ m → False := by
    intro n m h1 h2 h3 h4
    obtain ⟨x', q1, q2⟩ := hM.first n h1
    rw [h2] at q1
    injection q1 with q1
    injection q1 with _ q1
    injection q1 with q1 _
    omega
  rcases h with ⟨h1, h2⟩ | ⟨h1, h2⟩ <;> rcases k with ⟨k1, k2⟩ | ⟨k1, k2⟩
  · exact hM.inj n m _ h1 k1 h2 k2
  · exact (key h1 h2 k2 k1).elim
  · exact (key k1 k2 h2 h1).elim
  · omega

theorem MapR.bornLt (hM : MapR φ id b d n0 es clock E clk) {n x s s' : Nat} (h : BornR φ id b d n0 n x) (hs : n0 ≤ s) (hs' : (s' : Int) = s + d) : n < s ↔ x < s' := by
  rcases h with ⟨h1, h2⟩ | ⟨h1, h2⟩
  · obtain ⟨x', q1, q2⟩ := hM.first n h1
    rw [h2] at q1
    injection q1 with q1
    injection q1 with _ q1
    injection q1 with q1 _
    omega
  · omega

theorem MapR.seen (hM : MapR φ id b d n0 es clock E clk) {l r : List Nat} (hs : SeenR (BornR φ id b d n0) l r) {n x : Nat} (h : BornR φ id b d n0 n x) : l.contains n = r.contains x := by
  induction hs with
  | nil => rfl
  | @cons m y l r hm t ih =>
    simp only [List.contains_cons, ih]
    congr 1
    by_cases c : n = m
    · subst c
      rw [hm.fn h]; simp
    · have c' : x ≠ y := fun q => c (hM.bornInj h (by rw [q]; exact hm))
      rw [beq_false_of_ne c, beq_false_of_ne c']
end

theorem SeenR.push {l r : List Nat} {n x : Nat} (hs : SeenR R l r) (h : R n x) : SeenR R (l ++ [n]) (r ++ [x]) := by
  induction hs with
  | nil => exact .cons h .nil
  | cons hm _ ih => exact .cons hm ih

theorem SeenR.empty {l r : List Nat} (hs : SeenR R l r) : l.isEmpty = r.isEmpty := by cases hs <;> rfl

theorem SeenR.last {l r : List Nat} (hs : SeenR R l r) {n : Nat} (h : l.getLast? = some n) : ∃ x, r.getLast? = some x ∧ R n x := by
  induction hs with
  | nil => cases h
  | @cons m y l r hm t ih =>
    cases t with
    | nil => cases h; exact ⟨y, rfl, hm⟩
    | cons hm' t' => 
      rw [List.getLast?_cons_cons] at h
      rw [List.getLast?_cons_cons]
      exact ih h

/-- Keys that are found alike are so bit for bit. -/
theorem bits_one {k : LK} {a b : AV} {x y : Value} (hx : Rel φ a x) (hy : Rel φ b y) (e : sameK k a b = some true) (n : Nat) : Instr.sameBits n y x = true := by
  unfold sameK at e
  split at e
  · rename_i p q
    cases hx; cases hy
    simp only [Option.some.injEq] at e
    have := eq_of_beq e
    subst this
    cases n <;> simp [Instr.sameBits]
  · rename_i i m j l
    cases hx; cases hy
    split at e
    · rename_i e1
      subst e1
      rw [cmpA_eq] at e
      by_cases c : m = l
      · subst c
        cases n <;> simp [Instr.sameBits]
      · exfalso
        by_cases c' : m < l <;> simp [c, c'] at e
    · cases e
  · cases hx with
    | str hs hv => cases hy with
      | str ht hu =>
        simp only [Option.some.injEq, Bool.and_eq_true] at e
        have e1 := Nat.eq_of_beq_eq_true e.1
        have e2 := Nat.eq_of_beq_eq_true e.2
        subst e1; subst e2
        have := bytes_beq ht hu hs hv
        rw [show (Nat.beq _ _ && Nat.beq _ _) = true by simp] at this
        cases n <;> simpa [Instr.sameBits] using this
  · cases e

theorem bits_list {ks : List LK} : ∀ {l r : List AV} {xs ys : List Value}, RelL φ l xs → RelL φ r ys → sameKs ks l r = some true → ∀ n, ys.length = xs.length ∧ (ys.zip xs).all (fun (p : Value × Value) => Instr.sameBits n p.1 p.2) = true := by
  induction ks with
  | nil =>
    intro l r xs ys h1 h2 e n
    have := sameKs_length e
    have e1 : l = [] := List.length_eq_zero_iff.1 (by simpa using this.1)
    have e2 : r = [] := List.length_eq_zero_iff.1 (by simpa using this.2)
    subst e1; subst e2
    cases h1; cases h2
    exact ⟨rfl, rfl⟩
  | cons k ks ih =>
    intro l r xs ys h1 h2 e n
    cases h1 with
    | nil => simp [sameKs] at e
    | cons h1 t1 => cases h2 with
      | nil => simp [sameKs] at e
      | cons h2 t2 =>
        simp only [sameKs] at e
        split at e
        · rename_i x hx
          split at e
          · rename_i y hy
            simp only [Option.some.injEq] at e
            cases x with
            | false => cases e
            | true =>
              cases y with
              | false => cases e
              | true =>
                obtain ⟨q1, q2⟩ := ih t1 t2 hy n
                refine ⟨by simp [q1], ?_⟩
                simp only [List.zip_cons_cons, List.all_cons, bits_one h1 h2 hx n, Bool.true_and]
                exact q2
          · cases e
        · cases e

theorem bits_ptr (hR : HR P φ h w) {a b : AV} {x y : Value} (hx : Rel φ a x) (hy : Rel φ b y) (e : sameP h a b = some true) (n : Nat) : Instr.sameBits n y x = true := by
  unfold sameP at e
  split at e
  · cases hx; cases hy
    cases n <;> simp [Instr.sameBits]
  · cases e
  · cases e
  · rename_i id g off id' g' off'
    cases hx with
    | @ptr _ _ _ b1 s1 n1 a1 p1 q1 r1 t1 => cases hy with
      | @ptr _ _ _ b2 s2 n2 a2 p2 q2 r2 t2 =>
        cases hsp : samePos id id' with
        | true =>
          rw [hsp, cond_true] at e
          have := samePos_iff.1 hsp
          subst this
          cases hg : Nat.beq g g' with
          | false => rw [hg] at e; cases e
          | true =>
            rw [hg, cond_true] at e
            have := Nat.eq_of_beq_eq_true hg
            subst this
            rw [p1] at p2
            cases p2
            simp only [Option.some.injEq] at e
            have := Nat.eq_of_beq_eq_true e
            subst this
            have hae : a2 = a1 := by
              obtain ⟨ab, ao, as⟩ := a1
              obtain ⟨bb, bo, bs⟩ := a2
              simp only at q1 q2 r1 r2 t1 t2
              subst q1; subst q2; subst t1; subst t2
              have : ao = bo := by omega
              subst this; rfl
            subst hae
            cases n <;> simp [Instr.sameBits]
        | false =>
          rw [hsp, cond_false] at e
          split at e
          · rename_i m ro fz _ _ _ _ _ _ m' ro' fz' _ _
            revert e
            cases (Nat.ble _ g && Nat.ble _ g' && !(_ || _ || _ || _)) <;> (intro e; cases e)
          · cases e
  · cases e

theorem bits_key (hR : HR P φ h w) {kk : KK} {a b : AV} {x y : Value} (hx : Rel φ a x) (hy : Rel φ b y) (e : keyEq P h kk a b = some true) : Instr.sameBits 10000 y x = true := by
  unfold keyEq at e
  split at e
  · exact bits_one hx hy e _
  · exact bits_ptr hR hx hy e _
  · cases hx with
    | agg hl => cases hy with
      | agg hr =>
        obtain ⟨q1, q2⟩ := bits_list hl hr e 9999
        show Instr.sameBits (9999 + 1) _ _ = true
        unfold Instr.sameBits
        rw [Bool.and_eq_true]
        refine ⟨?_, q2⟩
        rw [Array.length_toList, Array.length_toList] at q1
        rw [q1]; simp
  · rename_i t1 x1 t2 x2
    cases hx with
    | ifc hx => cases hy with
      | ifc hy =>
        cases ht : Nat.beq t1 t2 with
        | false => rw [ht] at e; cases e
        | true =>
          rw [ht, cond_true] at e
          have := Nat.eq_of_beq_eq_true ht
          subst this
          cases ho : okPtrT P t1 with
          | false =>
            rw [ho, cond_false] at e
            split at e
            · show Instr.sameBits (9999 + 1) _ _ = true
              unfold Instr.sameBits
              rw [Bool.and_eq_true]
              exact ⟨by simp, bits_one hx hy e _⟩
            · cases e
          | true =>
            rw [ho, cond_true] at e
            show Instr.sameBits (9999 + 1) _ _ = true
            unfold Instr.sameBits
            rw [Bool.and_eq_true]
            exact ⟨by simp, bits_ptr hR hx hy e _⟩
  · cases e
end
end Go.Proofs.YtialpccieggaoaaGreatDoor.Am
