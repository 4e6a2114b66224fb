import Derived.Test.YtkgoachgmdkmjaaGreatDoorAmC
/- THE ABSTRACT MACHINE, part D: a machine over values without block numbers, run by the kernel, and the proof that the model's machine does what it does. No condition. -/
set_option linter.unusedSimpArgs false
set_option linter.unusedVariables false
namespace Go.Proofs.YtkgoachgmdkmjaaGreatDoor.Am

section
variable {P : Program} {φ : Phi} {h : Hp} {w : World} {env : T AV} {a : Act} {o : Oper}

theorem op_fieldAddr (hR : HR P φ h w) (hE : EnvR φ env a.tmps) {t : TypeId} {f : Nat} {fd : Field} {x : Operand} {x' : Opd} (hx : compOpd P x = some x') (hf : fieldOf P t f = some fd) (hz : 0 < P.cellsOf fd.type) (ho : o.op = .fieldAddr t x f) :
    ResR P φ h w (evalOp P (.fieldAddr fd.offset x') env h) ((execOp a.eval o).run P w) := by
  have rx := opd_rel hR hE hx
  obtain ⟨fs, hd, hfs, hk⟩ := field_underlying hf
  unfold evalOp
  simp only
  split
  · rename_i id g off e
    rw [e] at rx
    obtain ⟨ad, b, s, n, hX, k1, k2, k3, k4⟩ := rel_ptr rx
    rw [natK_eq]
    refine ResR.pure hR (x := .pointer (some (ad.add fd.offset))) (.ptr k1 ?_ ?_ ?_) ?_
    · rw [add_eq ad k3]; exact k2
    · rw [add_eq ad k3]; show ((ad.off + fd.offset : Nat) : Int) = ((off + fd.offset : Nat) : Int) + s; omega
    · rw [add_eq ad k3]
    · simp only [execOp, ho, hX, Instr.fieldAt, Instr.sureAddr, fieldPlace]
      simp only [Sem.run_bind, Sem.run_pure, Result.andThen_ok, run_underlying hd, hfs, run_sizeOf' hk, Nat.ne_of_gt hz, if_false]
  · trivial

theorem op_part1 (hR : HR P φ h w) (hE : EnvR φ env a.tmps) {t : TypeId} {f : Nat} {fd : Field} {x : Operand} {x' : Opd} (hx : compOpd P x = some x') (hf : fieldOf P t f = some fd) (hg : isAggT P fd.type = false) (ho : o.op = .field t x f) :
    ResR P φ h w (evalOp P (.part1 fd.offset x') env h) ((execOp a.eval o).run P w) := by
  have rx := opd_rel hR hE hx
  obtain ⟨fs, hd, hfs, hk⟩ := field_underlying hf
  unfold evalOp
  simp only
  generalize hX : a.eval x = X at *
  split
  · rename_i l e
    rw [e] at rx
    refine ResR.opt hR fun v ev => ?_
    cases rx with
    | agg hl =>
      rename_i arr
      rw [nth_eq] at ev
      obtain ⟨z, e1, e2⟩ := hl.get ev
      rw [Array.getElem?_toList] at e1
      refine ⟨z, ?_, e2⟩
      simp only [execOp, ho, hX, Instr.field, asAgg]
      simp only [Sem.run_bind, Sem.run_pure, Result.andThen_ok, run_underlying hd, hfs, part_one hk hg e1]
  · trivial

theorem op_partN (hR : HR P φ h w) (hE : EnvR φ env a.tmps) {t : TypeId} {f : Nat} {fd : Field} {x : Operand} {x' : Opd} (hx : compOpd P x = some x') (hf : fieldOf P t f = some fd) (hg : isAggT P fd.type = true) (ho : o.op = .field t x f) :
    ResR P φ h w (evalOp P (.partN fd.offset (P.cellsOf fd.type) x') env h) ((execOp a.eval o).run P w) := by
  have rx := opd_rel hR hE hx
  obtain ⟨fs, hd, hfs, hk⟩ := field_underlying hf
  unfold evalOp
  simp only
  generalize hX : a.eval x = X at *
  split
  · rename_i l e
    rw [e] at rx
    cases rx with
    | agg hl =>
      rename_i arr
      refine ResR.pure hR (x := .agg (arr.extract fd.offset (fd.offset + P.cellsOf fd.type))) (.agg (extract_rel hl _ _)) ?_
      simp only [execOp, ho, hX, Instr.field, asAgg]
      simp only [Sem.run_bind, Sem.run_pure, Result.andThen_ok, run_underlying hd, hfs, part_agg hk hg]
  · trivial

theorem op_idxAddrArr (hR : HR P φ h w) (hE : EnvR φ env a.tmps) {t e : TypeId} {n : Nat} {x i : Operand} {x' i' : Opd} (hx : compOpd P x = some x') (hi : compOpd P i = some i') (ht : arrayOf P t = some (n, e)) (ho : o.op = .indexAddr t x i) :
    ResR P φ h w (evalOp P (.idxAddrArr n (P.cellsOf e) x' i') env h) ((execOp a.eval o).run P w) := by
  have rx := opd_rel hR hE hx
  have ri := opd_rel hR hE hi
  obtain ⟨hd, hk⟩ := array_underlying ht
  unfold evalOp
  simp only
  generalize hI : a.eval i = I at *
  split
  · rename_i id g off k j e1 e2
    rw [e1] at rx
    rw [e2] at ri
    cases hb : Nat.blt j n with
    | false => trivial
    | true =>
      have hb := blt_iff.1 hb
      rw [cond_true, natK_eq]
      obtain ⟨ad, b, s, m, hX, k1, k2, k3, k4⟩ := rel_ptr rx
      cases ri
      refine ResR.pure hR (x := .pointer (some (ad.add (j * P.cellsOf e)))) (.ptr k1 ?_ ?_ ?_) ?_
      · rw [add_eq ad k3]; exact k2
      · rw [add_eq ad k3]; show ((ad.off + j * P.cellsOf e : Nat) : Int) = ((off + j * P.cellsOf e : Nat) : Int) + s; omega
      · rw [add_eq ad k3]
      · simp only [execOp, ho, hX, hI, Instr.indexAt, Instr.sureAddr, asIntOf]
        simp only [Sem.run_bind, Sem.run_pure, Result.andThen_ok, run_underlying hd]
        have : (0 : Int) ≤ Int.ofNat j ∧ Int.ofNat j < (n : Int) := ⟨by simp, by simpa using hb⟩
        simp only [this, and_self, if_true, Sem.run_bind, run_sizeOf' hk, Result.andThen_ok, Sem.run_pure]
        rfl
  · trivial

theorem op_idxAddrSl (hR : HR P φ h w) (hE : EnvR φ env a.tmps) {t e : TypeId} {x i : Operand} {x' i' : Opd} (hx : compOpd P x = some x') (hi : compOpd P i = some i') (ht : elemOfSlice P t = some e) (ho : o.op = .indexAddr t x i) :
    ResR P φ h w (evalOp P (.idxAddrSl (P.cellsOf e) x' i') env h) ((execOp a.eval o).run P w) := by
  have rx := opd_rel hR hE hx
  have ri := opd_rel hR hE hi
  obtain ⟨hd, hk⟩ := elem_underlying ht
  unfold evalOp
  simp only
  generalize hI : a.eval i = I at *
  split
  · rename_i id g off len cap ex es k j e1 e2
    rw [e1] at rx
    rw [e2] at ri
    cases hb : (Nat.blt j len && Nat.beq (P.cellsOf e) es) with
    | false => trivial
    | true =>
      rw [Bool.and_eq_true] at hb
      have he := beq_iff.1 hb.2
      have hb := blt_iff.1 hb.1
      rw [cond_true, natK_eq]
      rcases rel_sl rx with ⟨ad, c, b, s, m, hX, k1, k2, k3, k4, k5, k6, k7, k8⟩ | ⟨_, _, z, _, _⟩
      case inr => omega
      obtain ⟨k8, _⟩ := k8 (by omega)
      cases ri
      refine ResR.pure hR (x := .pointer (some (ad.add (j * P.cellsOf e)))) (.ptr k1 ?_ ?_ ?_) ?_
      · rw [add_eq ad k3]; exact k2
      · rw [add_eq ad k3]; show ((ad.off + j * P.cellsOf e : Nat) : Int) = ((off + j * P.cellsOf e : Nat) : Int) + s; omega
      · rw [add_eq ad k3]
      · simp only [execOp, ho, hX, hI, Instr.indexAt, asIntOf]
        simp only [Sem.run_bind, Sem.run_pure, Result.andThen_ok, run_underlying hd]
        have : (0 : Int) ≤ Int.ofNat j ∧ Int.ofNat j < (len : Int) := ⟨by simp, by simpa using hb⟩
        simp only [this, and_self, if_true, Sem.run_bind, run_sizeOf' hk, Result.andThen_ok, Sem.run_pure]
        rfl
  · trivial

theorem op_idxArr (hR : HR P φ h w) (hE : EnvR φ env a.tmps) {t e : TypeId} {n : Nat} {x i : Operand} {x' i' : Opd} (hx : compOpd P x = some x') (hi : compOpd P i = some i') (ht : arrayOf P t = some (n, e)) (ho : o.op = .index t x i) :
    ResR P φ h w (evalOp P (.idxArr n (P.cellsOf e) (isAggT P e) x' i') env h) ((execOp a.eval o).run P w) := by
  have rx := opd_rel hR hE hx
  have ri := opd_rel hR hE hi
  obtain ⟨hd, hk⟩ := array_underlying ht
  unfold evalOp
  simp only
  generalize hI : a.eval i = I at *
  generalize hX : a.eval x = X at *
  split
  · rename_i l k j e1 e2
    rw [e1] at rx
    rw [e2] at ri
    cases ri
    cases hb : Nat.blt j n with
    | false => trivial
    | true =>
      have hb := blt_iff.1 hb
      rw [cond_true]
      have hin : (0 : Int) ≤ Int.ofNat j ∧ Int.ofNat j < (n : Int) := ⟨by simp, by simpa using hb⟩
      cases rx with
      | agg hl =>
        rename_i arr
        cases hg : isAggT P e with
        | true =>
          rw [cond_true]
          refine ResR.pure hR (x := .agg (arr.extract (j * P.cellsOf e) (j * P.cellsOf e + P.cellsOf e))) (.agg (extract_rel hl _ _)) ?_
          simp only [execOp, ho, hX, hI, Instr.index, asIntOf]
          simp only [Sem.run_bind, Sem.run_pure, Result.andThen_ok, run_underlying hd]
          simp only [hin, and_self, if_true, Sem.run_bind, run_sizeOf' hk, Result.andThen_ok]
          rw [show (Int.ofNat j).toNat = j from rfl, part_agg hk hg]
          rfl
        | false =>
          rw [cond_false]
          refine ResR.opt hR fun v ev => ?_
          rw [nth_eq] at ev
          obtain ⟨z, f1, f2⟩ := hl.get ev
          rw [Array.getElem?_toList] at f1
          have f1 : arr[j * P.cellsOf e]? = some z := f1
          refine ⟨z, ?_, f2⟩
          simp only [execOp, ho, hX, hI, Instr.index, asIntOf]
          simp only [Sem.run_bind, Sem.run_pure, Result.andThen_ok, run_underlying hd]
          simp only [hin, and_self, if_true, Sem.run_bind, run_sizeOf' hk, Result.andThen_ok]
          rw [show (Int.ofNat j).toNat = j from rfl, part_one hk hg f1]
          rfl
  · trivial

theorem isStr_underlying {t : TypeId} (h : isStrT P t = true) : P.underlying t = some .string := by
  unfold isStrT at h
  split at h
  · assumption
  · cases h

theorem rel_str {n v : Nat} {X : Value} (h : Rel φ (.str n v) X) : ∃ s, X = .string s ∧ s.data.toList = unpack n v ∧ v < 256 ^ n ∧ s.size = n := by
  cases h with
  | str h hv => exact ⟨_, rfl, h, hv, by rw [← unpack_length n v, ← h]; simp⟩

theorem op_idxStr (hR : HR P φ h w) (hE : EnvR φ env a.tmps) {t : TypeId} {x i : Operand} {x' i' : Opd} (hx : compOpd P x = some x') (hi : compOpd P i = some i') (ht : isStrT P t = true) (ho : o.op = .index t x i) :
    ResR P φ h w (evalOp P (.idxStr x' i') env h) ((execOp a.eval o).run P w) := by
  have rx := opd_rel hR hE hx
  have ri := opd_rel hR hE hi
  have hd := isStr_underlying ht
  unfold evalOp
  simp only
  generalize hI : a.eval i = I at *
  generalize hX : a.eval x = X at *
  split
  · rename_i n v k j e1 e2
    rw [e1] at rx
    rw [e2] at ri
    cases ri
    obtain ⟨s, rfl, hs, hv, hn⟩ := rel_str rx
    cases hb : Nat.blt j n with
    | false => trivial
    | true =>
      have hb := blt_iff.1 hb
      rw [cond_true, natK_eq]
      have hj : s.data.toList[j]? = some (UInt8.ofNat (v / 256 ^ (n - 1 - j))) := by rw [hs, unpack_get n v j hb]
      have hj' : s[j]? = some (UInt8.ofNat (v / 256 ^ (n - 1 - j))) := by
        rw [← hj, Array.getElem?_toList]
        rfl
      refine ResR.pure hR (x := .int .u8 ((UInt8.ofNat (v / 256 ^ (n - 1 - j))).toNat : Int)) ?_ ?_
      · have : byteV (byteAt n v j) = .int .u8 ((UInt8.ofNat (v / 256 ^ (n - 1 - j))).toNat : Int) := by
          unfold byteV
          congr 1
          show ((v / 256 ^ (n - (j + 1)) % 256 : Nat) : Int) = _
          rw [show n - (j + 1) = n - 1 - j by omega]
          simp
        rw [this]
        exact .int _ _
      · simp only [execOp, ho, hX, hI, Instr.index, asIntOf]
        simp only [Sem.run_bind, Sem.run_pure, Result.andThen_ok, run_underlying hd]
        rw [if_pos (by simp), show (Int.ofNat j).toNat = j from rfl, hj']
        rfl
  · trivial
end

end Go.Proofs.YtkgoachgmdkmjaaGreatDoor.Am

namespace Go.Proofs.YtkgoachgmdkmjaaGreatDoor.Am

/-- A bound of a slice expression. -/
def Bnd (ρ : Operand → Value) (x : Option Operand) (n d : Nat) : Prop := (x = none ∧ n = d) ∨ ∃ y k, x = some y ∧ ρ y = .int k (Int.ofNat n)

theorem sliceBound_run {P : Program} {w : World} {k : IntKind} {n y : Nat} (h : n ≤ y) (code : BoundsCode) : (Instr.sliceBound (.int k (Int.ofNat n)) y code).run P w = .ok n w := by
  unfold Instr.sliceBound
  simp only [asIntOf, Sem.run_bind, Sem.run_pure, Result.andThen_ok]
  rw [if_pos ⟨by simp, by simpa using h⟩]
  rfl

theorem sliceBounds_run {P : Program} {w : World} {ρ : Operand → Value} {lo hi mx : Option Operand} {l r m len cap : Nat} (isSlice : Bool) (hl : Bnd ρ lo l 0) (hh : Bnd ρ hi r len) (hm : Bnd ρ mx m cap)
    (h1 : l ≤ r) (h2 : r ≤ m) (h3 : m ≤ cap) (h4 : mx.isSome = true → hi.isSome = true) : (Instr.sliceBounds isSlice len cap (lo.map ρ) (hi.map ρ) (mx.map ρ)).run P w = .ok (l, r, m) w := by
  unfold Instr.sliceBounds
  rcases hm with ⟨rfl, rfl⟩ | ⟨mo, mk, rfl, em⟩
  · rcases hh with ⟨rfl, rfl⟩ | ⟨ho, hk, rfl, eh⟩
    · rcases hl with ⟨rfl, rfl⟩ | ⟨lo, lk, rfl, el⟩
      · simp only [Option.map_none, Sem.run_bind, Sem.run_pure, Result.andThen_ok]
      · simp only [Option.map_none, Option.map_some, Sem.run_bind, Sem.run_pure, Result.andThen_ok, el, sliceBound_run h1]
    · rcases hl with ⟨rfl, rfl⟩ | ⟨lo, lk, rfl, el⟩
      · simp only [Option.map_none, Option.map_some, Sem.run_bind, Sem.run_pure, Result.andThen_ok, eh, sliceBound_run h2]
      · simp only [Option.map_none, Option.map_some, Sem.run_bind, Sem.run_pure, Result.andThen_ok, eh, el, sliceBound_run h2, sliceBound_run h1]
  · rcases hh with ⟨rfl, rfl⟩ | ⟨ho, hk, rfl, eh⟩
    · simp at h4
    · rcases hl with ⟨rfl, rfl⟩ | ⟨lo, lk, rfl, el⟩
      · simp only [Option.map_none, Option.map_some, Sem.run_bind, Sem.run_pure, Result.andThen_ok, eh, em, sliceBound_run h3, sliceBound_run h2]
      · simp only [Option.map_some, Sem.run_bind, Sem.run_pure, Result.andThen_ok, eh, em, el, sliceBound_run h3, sliceBound_run h2, sliceBound_run h1]

section
variable {P : Program} {φ : Phi} {h : Hp} {w : World} {env : T AV} {a : Act} {o : Oper}

theorem evO_bnd (hR : HR P φ h w) (hE : EnvR φ env a.tmps) {x : Option Operand} {x' : Option Opd} (hx : compOpdO P x = some x') {d n : Nat} (he : evO env x' d = some n) : Bnd a.eval x n d := by
  cases x with
  | none =>
    simp only [compOpdO, Option.some.injEq] at hx
    subst hx
    simp only [evO, Option.some.injEq] at he
    exact .inl ⟨rfl, he.symm⟩
  | some x =>
    simp only [compOpdO] at hx
    cases hc : compOpd P x with
    | none => rw [hc] at hx; cases hx
    | some y =>
      rw [hc, Option.map_some, Option.some.injEq] at hx
      subst hx
      have rx := opd_rel hR hE hc
      simp only [evO] at he
      split at he
      · rename_i k j e
        cases he
        rw [e] at rx
        generalize hv : a.eval x = X at rx
        cases rx
        exact .inr ⟨x, k, rfl, hv⟩
      · cases he

theorem compOpdO_some {x : Option Operand} {x' : Option Opd} (hx : compOpdO P x = some x') : x'.isSome = x.isSome := by
  cases x with
  | none => simp only [compOpdO, Option.some.injEq] at hx; subst hx; rfl
  | some x =>
    simp only [compOpdO] at hx
    cases hc : compOpd P x with
    | none => rw [hc] at hx; cases hx
    | some y => rw [hc, Option.map_some, Option.some.injEq] at hx; subst hx; rfl

theorem op_sliceStr (hR : HR P φ h w) (hE : EnvR φ env a.tmps) {t : TypeId} {x : Operand} {lo hi : Option Operand} {x' : Opd} {lo' hi' : Option Opd} (hx : compOpd P x = some x') (hlo : compOpdO P lo = some lo') (hhi : compOpdO P hi = some hi')
    (ht : isStrT P t = true) (ho : o.op = .slice t x lo hi none) : ResR P φ h w (evalOp P (.sliceStr x' lo' hi') env h) ((execOp a.eval o).run P w) := by
  have rx := opd_rel hR hE hx
  have hd := isStr_underlying ht
  unfold evalOp
  simp only
  generalize hX : a.eval x = X at *
  split
  · rename_i n v e
    rw [e] at rx
    obtain ⟨s, rfl, hs, hv, hn⟩ := rel_str rx
    split
    · rename_i l r el er
      cases hb : (Nat.ble l r && Nat.ble r n) with
      | false => trivial
      | true =>
        rw [Bool.and_eq_true] at hb
        have h1 := ble_iff.1 hb.1
        have h2 := ble_iff.1 hb.2
        rw [cond_true, natK_eq, natK_eq]
        have bl := evO_bnd hR hE hlo el
        have br := evO_bnd hR hE hhi er
        have hrun := sliceBounds_run (P := P) (w := w) (mx := none) (m := s.size) (len := s.size) (cap := s.size) false bl (by rw [hn]; exact br) (.inl ⟨rfl, rfl⟩) h1 (by omega) (Nat.le_refl _) (by simp)
        refine ResR.pure hR (x := .string (s.extract l r)) (.str ?_ ?_) ?_
        · show (s.extract l r).data.toList = unpack (r - l) (v / 256 ^ (n - r) % 256 ^ (r - l))
          have := unpack_sub n v l (r - l) (by omega)
          rw [show l + (r - l) = r by omega] at this
          rw [← this, ← hs, ByteArray.data_extract, Array.toList_extract, List.extract_eq_take_drop]
        · exact Nat.mod_lt _ (Nat.pow_pos (by omega))
        · simp only [execOp, ho, hX, Instr.sliceAt, Instr.slice]
          simp only [Sem.run_bind, Sem.run_pure, Result.andThen_ok, run_underlying hd]
          simp only [Option.map_none, Option.isSome_none, Bool.false_eq_true, if_false, Sem.run_bind, Sem.run_pure, Result.andThen_ok] at hrun ⊢
          rw [hrun]
          rfl
    · trivial
  · trivial

theorem op_sliceSl (hR : HR P φ h w) (hE : EnvR φ env a.tmps) {t e : TypeId} {x : Operand} {lo hi mx : Option Operand} {x' : Opd} {lo' hi' mx' : Option Opd} (hx : compOpd P x = some x') (hlo : compOpdO P lo = some lo') (hhi : compOpdO P hi = some hi')
    (hmx : compOpdO P mx = some mx') (h4 : mx.isSome = true → hi.isSome = true) (ht : elemOfSlice P t = some e) (ho : o.op = .slice t x lo hi mx) :
    ResR P φ h w (evalOp P (.sliceSl (P.cellsOf e) x' lo' hi' mx') env h) ((execOp a.eval o).run P w) := by
  have rx := opd_rel hR hE hx
  obtain ⟨hd, hk⟩ := elem_underlying ht
  unfold evalOp
  simp only
  split
  · rename_i e0
    rw [e0] at rx
    split
    · rename_i e1 e2 e3
      generalize hX : a.eval x = X at *
      cases rx
      have hrun := sliceBounds_run (P := P) (w := w) true (evO_bnd hR hE hlo e1) (evO_bnd hR hE hhi e2) (evO_bnd hR hE hmx e3) (Nat.le_refl _) (Nat.le_refl _) (Nat.le_refl _) h4
      refine ResR.pure hR (x := .slice none 0 0) .nilSl ?_
      simp only [execOp, ho, hX, Instr.sliceAt, Instr.slice]
      simp only [Sem.run_bind, Sem.run_pure, Result.andThen_ok, run_underlying hd, hrun, run_sizeOf' hk, if_true]
    · trivial
  · rename_i id g off len cap ex es e0
    rw [e0] at rx
    obtain ⟨ad, c, hX, k4, k5, k6, k7⟩ := rel_slS rx
    split
    · rename_i l r m e1 e2 e3
      cases hb : (Nat.beq (P.cellsOf e) es && Nat.ble l r && Nat.ble r m && Nat.ble m cap) with
      | false => trivial
      | true =>
        simp only [Bool.and_eq_true] at hb
        obtain ⟨⟨⟨b1, b2⟩, b3⟩, b4⟩ := hb
        have b1 : P.cellsOf e = es := beq_iff.1 b1
        have b2 := ble_iff.1 b2
        have b3 := ble_iff.1 b3
        have b4 := ble_iff.1 b4
        subst b1
        simp only [cond_true, natK_eq]
        have bm := evO_bnd hR hE hmx e3
        have hms := compOpdO_some hmx
        -- the model's own bound
        obtain ⟨mc, hbm, hmc1, hmc2, hmc3⟩ : ∃ mc, Bnd a.eval mx mc c ∧ m ≤ mc ∧ mc ≤ c ∧ ((ex = true ∨ mx'.isSome = true) → mc = m) := by
          rcases bm with ⟨rfl, rfl⟩ | ⟨y, k, rfl, ey⟩
          · exact ⟨c, .inl ⟨rfl, rfl⟩, k5, Nat.le_refl _, fun q => by
              rcases q with q | q
              · exact k7 q
              · rw [hms] at q; cases q⟩
          · exact ⟨m, .inr ⟨y, k, rfl, ey⟩, Nat.le_refl _, by omega, fun _ => rfl⟩
        have hrun := sliceBounds_run (P := P) (w := w) true (evO_bnd hR hE hlo e1) (evO_bnd hR hE hhi e2) hbm b2 (by omega) hmc2 h4
        have hbl : ∀ q : Bool, (bif q then true else mx'.isSome) = true → q = true ∨ mx'.isSome = true := fun q z => by cases q <;> simp_all
        refine ResR.pure hR (x := .slice (some (if mc = l then ad else ad.add (l * P.cellsOf e))) (r - l) (mc - l)) ?_ ?_
        · rcases rel_sl rx with ⟨ad', c2, b, s, n, hX', k1, k2, k3, _, _, _, _, k8⟩ | ⟨ad', hX', z1, z2, z3⟩
          case inr =>
            rw [hX] at hX'
            cases hX'
            have zl : l = 0 := by omega
            have zr : r = 0 := by omega
            have zm : m = 0 := by omega
            have zc : mc = 0 := by omega
            subst zl zr zm zc
            rw [z3, if_pos rfl]
            exact .sl0
          rw [hX] at hX'
          cases hX'
          refine .sl k1 ?_ ?_ ?_ ?_ ?_ ?_ ?_
          · split
            · exact k2
            · rw [add_eq ad k3]; exact k2
          · split
            · exact k3
            · rw [add_eq ad k3]
          · exact Nat.sub_le_sub_right (by omega) _
          · exact Nat.sub_le_sub_right hmc1 _
          · exact Nat.sub_le_sub_right b3 _
          · intro q
            rw [hmc3 (hbl ex q)]
            rfl
          · intro hpos
            have hml : mc ≠ l := by omega
            rw [if_neg hml, add_eq ad k3]
            obtain ⟨q1, q2⟩ := k8 (by omega)
            have hno : (bif (Nat.beq l m && (bif ex then true else mx'.isSome)) then off else off.add (l.mul (P.cellsOf e))) = off + l * P.cellsOf e := by
              cases hq : (Nat.beq l m && (bif ex then true else mx'.isSome)) with
              | false => rfl
              | true =>
                rw [Bool.and_eq_true] at hq
                have := hmc3 (hbl ex hq.2)
                have := beq_iff.1 hq.1
                omega
            rw [hno]
            refine ⟨by push_cast; omega, ?_⟩
            show ad.off + l * P.cellsOf e + (mc - l) * P.cellsOf e ≤ n
            rw [Nat.add_assoc, ← Nat.add_mul, show l + (mc - l) = mc by omega]
            have := Nat.mul_le_mul_right (P.cellsOf e) hmc2
            omega
        · simp only [execOp, ho, hX, Instr.sliceAt, Instr.slice]
          simp only [Sem.run_bind, Sem.run_pure, Result.andThen_ok, run_underlying hd, hrun, run_sizeOf' hk, Option.map_some]
          split <;> rfl
    · trivial
  · trivial

theorem op_sliceArr (hR : HR P φ h w) (hE : EnvR φ env a.tmps) {t e : TypeId} {n : Nat} {x : Operand} {lo hi mx : Option Operand} {x' : Opd} {lo' hi' mx' : Option Opd} (hx : compOpd P x = some x') (hlo : compOpdO P lo = some lo') (hhi : compOpdO P hi = some hi')
    (hmx : compOpdO P mx = some mx') (h4 : mx.isSome = true → hi.isSome = true) (ht : arrayOf P t = some (n, e)) (ho : o.op = .slice t x lo hi mx) :
    ResR P φ h w (evalOp P (.sliceArr n (P.cellsOf e) x' lo' hi' mx') env h) ((execOp a.eval o).run P w) := by
  have rx := opd_rel hR hE hx
  obtain ⟨hd, hk⟩ := array_underlying ht
  unfold evalOp
  simp only
  split
  · rename_i id g off e0
    rw [e0] at rx
    obtain ⟨ad, b, s, N, hX, k1, k2, k3, k4⟩ := rel_ptr rx
    split
    · rename_i l r m e1 e2 e3
      cases hb : (Nat.blt 0 (n * P.cellsOf e) && (readN h id g off (n * P.cellsOf e)).isSome && Nat.ble l r && Nat.ble r m && Nat.ble m n) with
      | false => trivial
      | true =>
        simp only [Bool.and_eq_true] at hb
        obtain ⟨⟨⟨⟨b0, bs⟩, b2⟩, b3⟩, b4⟩ := hb
        have b0 : 0 < n * P.cellsOf e := blt_iff.1 b0
        have b2 := ble_iff.1 b2
        have b3 := ble_iff.1 b3
        have b4 := ble_iff.1 b4
        simp only [cond_true, natK_eq]
        have hroom : ad.off + n * P.cellsOf e ≤ N := by
          cases hr : readN h id g off (n * P.cellsOf e) with
          | none => rw [hr] at bs; cases bs
          | some c =>
            unfold readN at hr
            rw [beq_false.2 (by omega), cond_false] at hr
            split at hr
            · rename_i ser c' lo2 hi2 g' m2 ro fz hid
              cases hse : seeable c' lo2 hi2 g' m2 g off (n * P.cellsOf e) with
              | false => rw [hse] at hr; cases hr
              | true =>
                obtain ⟨_, C, el, fr, f2, f3, f5⟩ := seen hR hid k1 hse
                obtain ⟨o', v', x', g1, g2, g3, _⟩ := f5 (n * P.cellsOf e - 1) (by omega)
                have := (Array.getElem?_eq_some_iff.1 g3).1
                omega
            · cases hr
        have hrun := sliceBounds_run (P := P) (w := w) false (evO_bnd hR hE hlo e1) (evO_bnd hR hE hhi e2) (evO_bnd hR hE hmx e3) b2 b3 b4 h4
        refine ResR.pure hR (x := .slice (some (if m = l then ad else ad.add (l * P.cellsOf e))) (r - l) (m - l)) (.sl k1 ?_ ?_ ?_ (Nat.le_refl _) ?_ (fun _ => rfl) ?_) ?_
        · split
          · exact k2
          · rw [add_eq ad k3]; exact k2
        · split
          · exact k3
          · rw [add_eq ad k3]
        · exact Nat.sub_le_sub_right b3 _
        · exact Nat.sub_le_sub_right b3 _
        · intro hpos
          have hml : m ≠ l := by omega
          rw [if_neg hml, add_eq ad k3, beq_false.2 (Ne.symm hml), cond_false]
          refine ⟨by show ((ad.off + l * P.cellsOf e : Nat) : Int) = ((off + l * P.cellsOf e : Nat) : Int) + s; omega, ?_⟩
          show ad.off + l * P.cellsOf e + (m - l) * P.cellsOf e ≤ N
          rw [Nat.add_assoc, ← Nat.add_mul, show l + (m - l) = m by omega]
          have := Nat.mul_le_mul_right (P.cellsOf e) b4
          omega
        · simp only [execOp, ho, hX, Instr.sliceAt, Instr.sureAddr]
          simp only [Sem.run_bind, Sem.run_pure, Result.andThen_ok, run_underlying hd, hrun, run_sizeOf' hk]
    · trivial
  · trivial

theorem op_lenS (hR : HR P φ h w) (hE : EnvR φ env a.tmps) {c : Call} {x : Operand} {t : TypeId} {x' : Opd} (hx : compOpd P x = some x') (hd : P.underlying t = some .string) (hc : c.callee = .builtin .len) (ha : c.args.toList = [x]) (htt : c.argTypes.toList = [t])
    (ho : o.op = .call c) : ResR P φ h w (evalOp P (.lenS x') env h) ((execOp a.eval o).run P w) := by
  have rx := opd_rel hR hE hx
  have ha : c.args = #[x] := by rw [← Array.toArray_toList (xs := c.args), ha]
  have htt : c.argTypes = #[t] := by rw [← Array.toArray_toList (xs := c.argTypes), htt]
  unfold evalOp
  simp only
  generalize hX : a.eval x = X at *
  split
  · rename_i n v e
    rw [e] at rx
    obtain ⟨s, rfl, hs, hv, hn⟩ := rel_str rx
    refine ResR.pure hR (x := goInt s.size) (by rw [hn]; exact .int _ _) ?_
    simp [execOp, ho, resolve, hc, ha, htt, hX, invoke, builtin, Builtin.len_, run_underlying hd]
  · trivial

theorem op_lenL (hR : HR P φ h w) (hE : EnvR φ env a.tmps) {c : Call} {x : Operand} {t e : TypeId} {x' : Opd} (hx : compOpd P x = some x') (hd : P.underlying t = some (.slice e)) (hc : c.callee = .builtin .len) (ha : c.args.toList = [x]) (htt : c.argTypes.toList = [t])
    (ho : o.op = .call c) : ResR P φ h w (evalOp P (.lenL x') env h) ((execOp a.eval o).run P w) := by
  have rx := opd_rel hR hE hx
  have ha : c.args = #[x] := by rw [← Array.toArray_toList (xs := c.args), ha]
  have htt : c.argTypes = #[t] := by rw [← Array.toArray_toList (xs := c.argTypes), htt]
  unfold evalOp
  simp only
  split
  · rename_i id g off len cap ex es e0
    rw [e0] at rx
    obtain ⟨ad, c', hX, _⟩ := rel_slS rx
    refine ResR.pure hR (x := goInt len) (.int _ _) ?_
    simp [execOp, ho, resolve, hc, ha, htt, hX, invoke, builtin, Builtin.len_, run_underlying hd]
  · rename_i e0
    rw [e0] at rx
    generalize hX : a.eval x = X at *
    cases rx
    refine ResR.pure hR (x := goInt 0) (.int _ _) ?_
    simp [execOp, ho, resolve, hc, ha, htt, hX, invoke, builtin, Builtin.len_, run_underlying hd]
  · trivial

end

end Go.Proofs.YtkgoachgmdkmjaaGreatDoor.Am

namespace Go.Proofs.YtkgoachgmdkmjaaGreatDoor.Am

theorem HR.drew {P : Program} {φ : Phi} {h : Hp} {w : World} (hR : HR P φ h w) (d : Nat) : HR P φ h { w with drawn := d } :=
  ⟨fun id b e => BR.mono (Le.refl φ) (fun _ _ e => e) (fun _ _ _ _ _ => rfl) (hR.blk id b e), hR.used, hR.dom, hR.sep, hR.inb, hR.glob⟩

theorem Adv.drew (h : Hp) (w : World) (φ : Phi) (d : Nat) : Adv h w φ h { w with drawn := d } φ :=
  ⟨Le.refl φ, rfl, rfl, rfl, Nat.le_refl _, Nat.le_refl _, fun _ g _ s n e _ => ⟨g, s, n, e⟩, fun _ _ k => k, fun _ _ _ => rfl, rfl, fun _ _ e => e, fun _ _ _ _ _ e => e⟩

theorem appendCap_run {P : Program} {w : World} (need old : Nat) (e : TypeId) : ∃ c, need ≤ c ∧ (choose (.appendCap need old e)).run P w = .ok c { w with drawn := w.drawn + 1 } := by
  refine ⟨_, ?_, by rw [run_choose]; rfl⟩
  exact Nat.le_add_right _ _

theorem foldl_set (l : List Value) (off k : Nat) (cs : Array Value) (h : off + k + l.length ≤ cs.size) :
    ((l.zipIdx k).foldl (fun cs (p : Value × Nat) => cs.setIfInBounds (off + p.2) p.1) cs).toList = spliceV cs.toList (off + k) l := by
  induction l generalizing k cs with
  | nil => simp [spliceV]
  | cons v l ih =>
    simp only [List.zipIdx_cons, List.foldl_cons, List.length_cons] at *
    rw [ih (k + 1) _ (by simp; omega)]
    apply List.ext_getElem?
    intro i
    rw [spliceV_get (by simp; omega), spliceV_get (by simp; omega), Array.toList_setIfInBounds, List.getElem?_set]
    simp only [List.length_cons]
    by_cases c1 : i = off + k
    · subst c1
      rw [if_neg (by omega), if_pos rfl, if_pos (by simp; omega), if_pos ⟨by omega, by omega⟩, Nat.sub_self]
      rfl
    · by_cases c2 : off + (k + 1) ≤ i ∧ i < off + (k + 1) + l.length
      · rw [if_pos c2, if_pos ⟨by omega, by omega⟩, show i - (off + k) = (i - (off + (k + 1))) + 1 by omega, List.getElem?_cons_succ]
      · rw [if_neg c2, if_neg (by omega), if_neg (by omega)]

theorem foldl_setA (vs : Array Value) (off : Nat) (cs : Array Value) (h : off + vs.size ≤ cs.size) :
    (vs.zipIdx.foldl (fun cs (p : Value × Nat) => cs.setIfInBounds (off + p.2) p.1) cs).toList = spliceV cs.toList off vs.toList := by
  rw [← Array.foldl_toList, Array.toList_zipIdx]
  exact foldl_set vs.toList off 0 cs (by simpa using h)

theorem RelL.splice {φ : Phi} {l v : List AV} {cs vs : List Value} (h : RelL φ l cs) (k : RelL φ v vs) (off : Nat) : RelL φ (l.take off ++ (v ++ l.drop (off + v.length))) (spliceV cs off vs) := by
  unfold spliceV
  rw [k.length]
  exact (h.take off).append (k.append (h.drop _))

theorem replA_eq {α : Type} (n : Nat) (z acc : List α) : replA n z acc = (List.replicate n z).flatten ++ acc := by
  induction n generalizing acc with
  | zero => simp [replA]
  | succ n ih =>
    rw [replA, ih, List.replicate_succ', List.flatten_append]
    simp

theorem flatten_get {α : Type} (n : Nat) (z : List α) (i : Nat) (hi : i < n * z.length) : ((List.replicate n z).flatten)[i]? = z[i % z.length]? := by
  induction n generalizing i with
  | zero => omega
  | succ n ih =>
    rw [List.replicate_succ, List.flatten_cons]
    by_cases c : i < z.length
    · rw [List.getElem?_append_left c, Nat.mod_eq_of_lt c]
    · rw [List.getElem?_append_right (by omega), ih (i - z.length) (by rw [Nat.add_mul, Nat.one_mul] at hi; omega), ← Nat.mod_eq_sub_mod (by omega)]

theorem repl_rel {φ : Phi} {z : List AV} {Z : Array Value} (h : RelL φ z Z.toList) (n : Nat) :
    RelL φ (replA n z []) ((Array.range (n * Z.size)).map (Z[· % Z.size]!)).toList := by
  have hl : z.length = Z.size := by rw [h.length, Array.length_toList]
  have hlen : (replA n z []).length = n * Z.size := by rw [replA_eq]; simp [hl]
  refine RelL.of_get (by rw [hlen]; simp) fun i v x hv hx => ?_
  have hi : i < n * Z.size := by rw [← hlen]; exact (List.getElem?_eq_some_iff.1 hv).1
  rw [replA_eq, List.append_nil, flatten_get n z i (by rw [hl]; exact hi)] at hv
  obtain ⟨y, e1, e2⟩ := h.get hv
  rw [Array.toList_map, List.getElem?_map, Array.toList_range, List.getElem?_range hi, Option.map_some, Option.some.injEq] at hx
  rw [Array.getElem?_toList, hl] at e1
  have : Z[i % Z.size]! = y := by rw [getElem!_def, e1]
  rw [← hx, this]
  exact e2

section
variable {P : Program} {φ : Phi} {h : Hp} {w : World} {env : T AV} {a : Act} {o : Oper}

theorem fill_run (hR : HR P φ h w) (hE : EnvR φ env a.tmps) {sz place : Nat → Option (Nat × Nat)} (hp : ∀ i, place i = sz i) : ∀ (parts : List (Nat × Operand)) (parts' : List (Nat × Nat × Opd)) (l r : List AV) (cells : Array Value),
    compParts P sz parts = some parts' → RelL φ l cells.toList → fillA env l parts' = some r → ∃ cells', Instr.fill place cells (parts.map fun p => (p.1, a.eval p.2)) = some cells' ∧ RelL φ r cells'.toList
  | [], parts', l, r, cells, hc, hl, hf => by
    simp only [compParts, Option.some.injEq] at hc
    subst hc
    simp only [fillA, Option.some.injEq] at hf
    subst hf
    exact ⟨cells, rfl, hl⟩
  | (i, x) :: rest, parts', l, r, cells, hc, hl, hf => by
    unfold compParts at hc
    split at hc
    · rename_i off n x' rest' h1 h2 h3
      simp only [Option.some.injEq] at hc
      subst hc
      have rx := (opd_rel hR hE h2).cells
      unfold fillA at hf
      simp only at hf
      cases hb : (Nat.beq (ev env x').cells.length n && Nat.ble (Nat.add off n) l.length) with
      | false => rw [hb] at hf; cases hf
      | true =>
        rw [hb, cond_true] at hf
        rw [Bool.and_eq_true] at hb
        have b1 : (ev env x').cells.length = n := beq_iff.1 hb.1
        have b2 : off + n ≤ l.length := ble_iff.1 hb.2
        have hs : (a.eval x).cells.size = n := by rw [← b1, rx.length, Array.length_toList]
        have hcl : l.length = cells.size := by rw [hl.length, Array.length_toList]
        have step : RelL φ (l.take off ++ ((ev env x').cells ++ l.drop (Nat.add off n))) ((a.eval x).cells.zipIdx.foldl (fun cs (p : Value × Nat) => cs.setIfInBounds (off + p.2) p.1) cells).toList := by
          rw [foldl_setA _ _ _ (by omega)]
          have := hl.splice rx off
          rwa [b1] at this
        obtain ⟨cells', e1, e2⟩ := fill_run hR hE hp rest rest' _ r _ h3 step hf
        refine ⟨cells', ?_, e2⟩
        rw [List.map_cons]
        unfold Instr.fill
        simp only [hp, h1]
        rw [if_neg (by simp [hs]; omega)]
        exact e1
    · cases hc

theorem places_run {fs : Array Field} (hk : fs.toList.all (fun f => okT P f.type) = true) (w : World) : (fs.mapM (m := Sem) fun f => do pure (f.offset, ← sizeOf f.type)).run P w = .ok (fs.map fun f => (f.offset, P.cellsOf f.type)) w := by
  rw [Array.mapM_eq_mapM_toList]
  have : ∀ l : List Field, l.all (fun f => okT P f.type) = true → (l.mapM (m := Sem) fun f => do pure (f.offset, ← sizeOf f.type)).run P w = .ok (l.map fun f => (f.offset, P.cellsOf f.type)) w := by
    intro l
    induction l with
    | nil => intro _; simp
    | cons f l ih =>
      intro hl
      rw [List.all_cons, Bool.and_eq_true] at hl
      rw [List.mapM_cons]
      simp only [Sem.run_bind, run_sizeOf' hl.1, Result.andThen_ok, Sem.run_pure, ih hl.2, List.map_cons]
  rw [Sem.run_map, this fs.toList hk, Result.andThen_ok, ← Array.toList_map, Array.toArray_toList]

theorem op_build (hR : HR P φ h w) (hE : EnvR φ env a.tmps) {t : TypeId} {z : AV} {parts : Array (Nat × Operand)} {ao : AOp} (hz : zeroT P t = some z) (hc : compBuild P t z parts.toList = some ao) (ho : o.op = .build t parts) :
    ResR P φ h w (evalOp P ao env h) ((execOp a.eval o).run P w) := by
  obtain ⟨Z, z1, z2⟩ := zeroT_run hz φ w
  unfold compBuild at hc
  split at hc
  · rename_i fs hd
    cases hk : fs.toList.all (fun f => okT P f.type) with
    | false => rw [hk] at hc; cases hc
    | true =>
      rw [hk, cond_true] at hc
      cases hp : compParts P (fun i => (fs[i]?).map fun f => (f.offset, P.cellsOf f.type)) parts.toList with
      | none => rw [hp] at hc; cases hc
      | some parts' =>
        rw [hp, Option.map_some, Option.some.injEq] at hc
        subst hc
        unfold evalOp
        simp only
        split
        · rename_i l hf
          obtain ⟨cells', e1, e2⟩ := fill_run hR hE (place := fun i => (fs.map fun f => (f.offset, P.cellsOf f.type))[i]?) (fun i => by simp) parts.toList parts' _ l _ hp z2.cells hf
          refine ResR.pure hR (x := .agg cells') (.agg e2) ?_
          simp only [execOp, ho, Instr.build]
          have e1' : Instr.fill (fun i => (fs.map fun f => (f.offset, P.cellsOf f.type))[i]?) Z.cells (parts.map fun p => (p.1, a.eval p.2)).toList = some cells' := by
            rw [Array.toList_map]; exact e1
          simp only [Sem.run_bind, z1, Result.andThen_ok, run_underlying hd, places_run hk w]
          simp only [e1', Sem.run_pure, Result.andThen_ok]
        · trivial
  · rename_i n e hd
    cases hk : okT P e with
    | false => rw [hk] at hc; cases hc
    | true =>
      rw [hk, cond_true] at hc
      cases hp : compParts P (fun i => some (i * P.cellsOf e, P.cellsOf e)) parts.toList with
      | none => rw [hp] at hc; cases hc
      | some parts' =>
        rw [hp, Option.map_some, Option.some.injEq] at hc
        subst hc
        unfold evalOp
        simp only
        split
        · rename_i l hf
          obtain ⟨cells', e1, e2⟩ := fill_run hR hE (place := fun i => some (i * P.cellsOf e, P.cellsOf e)) (fun i => rfl) parts.toList parts' _ l _ hp z2.cells hf
          refine ResR.pure hR (x := .agg cells') (.agg e2) ?_
          simp only [execOp, ho, Instr.build]
          have e1' : Instr.fill (fun i => some (i * P.cellsOf e, P.cellsOf e)) Z.cells (parts.map fun p => (p.1, a.eval p.2)).toList = some cells' := by
            rw [Array.toList_map]; exact e1
          simp only [Sem.run_bind, z1, Result.andThen_ok, run_underlying hd, run_sizeOf' hk]
          simp only [e1', Sem.run_pure, Result.andThen_ok]
        · trivial
  · cases hc

/-- A slice over a new row of which something is known. -/
theorem ResR.newSlN (note : Nat) (hR : HR P φ h w) (hm : Room h) {l : List AV} {xs : List Value} (hl : RelL φ l xs) (el : TypeId) (hnote : NoteR P note 0 xs.length el) {len cap es : Nat} (hlc : len ≤ cap) (hsz : cap * es = xs.length) {R : Result Next}
    (e : R = .ok (.value (.slice (some ⟨w.heap.size, 0, none⟩) len cap)) (w.alloc (.cells xs.toArray el (0, 0)))) :
    ResR P φ h w (newCellsN h note (Cells.ofL l) fun id h => .val (.sl id 0 0 len cap true es) h) R := by
  obtain ⟨w1, t1, _⟩ := Cells.ofL_spec l
  have hl' : RelL φ (Cells.ofL l).toL xs := by rw [t1]; exact hl
  obtain ⟨n1, n2⟩ := newCells_run hR hm w1 hl' (spare := []) el (0, 0) false rfl note (Nat.succ h.ser) (by rw [List.append_nil]; exact hnote)
  simp only [List.append_nil] at n1 n2
  unfold newCellsN
  rw [newK_eq]
  exact ⟨_, _, _, _, e, .inl rfl, n1, n2, .sl (Phi.put_same _ _ _ _) rfl rfl hlc (Nat.le_refl _) hlc (fun _ => rfl) fun _ => ⟨rfl, by show 0 + cap * es ≤ _; omega⟩⟩

/-- A slice over a new row. -/
theorem ResR.newSl (hR : HR P φ h w) (hm : Room h) {l : List AV} {xs : List Value} (hl : RelL φ l xs) (el : TypeId) {len cap es : Nat} (hlc : len ≤ cap) (hsz : cap * es = xs.length) {R : Result Next}
    (e : R = .ok (.value (.slice (some ⟨w.heap.size, 0, none⟩) len cap)) (w.alloc (.cells xs.toArray el (0, 0)))) :
    ResR P φ h w (newCells h (Cells.ofL l) fun id h => .val (.sl id 0 0 len cap true es) h) R := by
  obtain ⟨w1, t1, _⟩ := Cells.ofL_spec l
  have hl' : RelL φ (Cells.ofL l).toL xs := by rw [t1]; exact hl
  obtain ⟨n1, n2⟩ := newCells_run hR hm w1 hl' (spare := []) el (0, 0) false rfl 0 (Nat.succ h.ser) (.inl rfl)
  simp only [List.append_nil] at n1 n2
  unfold newCells
  rw [newK_eq]
  exact ⟨_, _, _, _, e, .inl rfl, n1, n2, .sl (Phi.put_same _ _ _ _) rfl rfl hlc (Nat.le_refl _) hlc (fun _ => rfl) fun _ => ⟨rfl, by show 0 + cap * es ≤ _; omega⟩⟩

theorem op_buildSl (hR : HR P φ h w) (hE : EnvR φ env a.tmps) (hm : Room h) {t e : TypeId} {len : Nat} {z : AV} {parts : Array (Nat × Operand)} {parts' : List (Nat × Nat × Opd)} (ht : elemOfSlice P t = some e) (hz : zeroT P e = some z)
    (hsz : len * P.cellsOf e ≤ 16777216) (hzl : z.cells.length = P.cellsOf e) (hp : compParts P (fun i => some (i * P.cellsOf e, P.cellsOf e)) parts.toList = some parts') (ho : o.op = .buildSlice t len parts) :
    ResR P φ h w (evalOp P (.buildSl len (P.cellsOf e) z.cells parts') env h) ((execOp a.eval o).run P w) := by
  obtain ⟨hd, hk⟩ := elem_underlying ht
  obtain ⟨Z, z1, z2⟩ := zeroT_run hz φ w
  have hZ : Z.cells.size = P.cellsOf e := by rw [← hzl, z2.cells.length, Array.length_toList]
  unfold evalOp
  simp only
  split
  · rename_i l hf
    cases hb : Nat.blt 0 (P.cellsOf e) with
    | false => trivial
    | true =>
      have hb := blt_iff.1 hb
      rw [cond_true]
      have hrep := repl_rel z2.cells len
      rw [hZ] at hrep
      obtain ⟨cells', e1, e2⟩ := fill_run hR hE (place := fun i => some (i * P.cellsOf e, P.cellsOf e)) (fun i => rfl) parts.toList parts' _ l _ hp hrep hf
      have e1' : Instr.fill (fun i => some (i * P.cellsOf e, P.cellsOf e)) ((Array.range (len * P.cellsOf e)).map (Z.cells[· % P.cellsOf e]!)) (parts.map fun p => (p.1, a.eval p.2)).toList = some cells' := by
        rw [Array.toList_map]; exact e1
      have hfl : l.length = len * P.cellsOf e := by
        have : ∀ (ps : List (Nat × Nat × Opd)) (l r : List AV), fillA env l ps = some r → r.length = l.length := by
          intro ps
          induction ps with
          | nil => intro l r k; simp only [fillA, Option.some.injEq] at k; rw [k]
          | cons p ps ih =>
            intro l r k
            obtain ⟨off, n, x⟩ := p
            unfold fillA at k
            simp only at k
            cases hb : (Nat.beq (ev env x).cells.length n && Nat.ble (Nat.add off n) l.length) with
            | false => rw [hb] at k; cases k
            | true =>
              rw [hb, cond_true] at k
              rw [Bool.and_eq_true] at hb
              have b1 : (ev env x).cells.length = n := beq_iff.1 hb.1
              have b2 : off + n ≤ l.length := ble_iff.1 hb.2
              rw [ih _ _ k]
              simp only [List.length_append, List.length_take, List.length_drop, b1]
              show min off l.length + (n + (l.length - (off + n))) = l.length
              omega
        rw [this _ _ _ hf, replA_eq]; simp [hzl]
      have hcl : len * P.cellsOf e = cells'.toList.length := by rw [← e2.length, hfl]
      refine ResR.newSl hR hm e2 e (Nat.le_refl len) hcl ?_
      simp only [execOp, ho, Instr.buildSlice]
      simp only [Sem.run_bind, Sem.run_pure, Result.andThen_ok, run_underlying hd, run_sizeOf' hk]
      by_cases h0 : len * P.cellsOf e = 0
      · have hl0 : len = 0 := by
          rcases Nat.mul_eq_zero.1 h0 with q | q
          · exact q
          · omega
        subst hl0
        simp only [Nat.zero_mul, gt_iff_lt, Nat.not_lt_zero, if_false, if_true] at e1' ⊢
        have e1'' : Instr.fill (fun i => some (i * P.cellsOf e, P.cellsOf e)) ((Array.range 0).map fun i => (#[] : Array Value)[i % (#[] : Array Value).size]!) (parts.map fun p => (p.1, a.eval p.2)).toList = some cells' := by
          have hr : ∀ f : Nat → Value, (Array.range 0).map f = #[] := fun f => by simp
          rw [hr] at e1' ⊢
          exact e1'
        simp only [e1'', Sem.run_bind, newRow, run_newObj, Sem.run_pure, Result.andThen_ok, Array.toArray_toList]
        rfl
      · rw [if_neg (show ¬ (len * P.cellsOf e > 2 ^ 24) by omega), if_neg h0]
        simp only [Sem.run_bind, Sem.run_pure, z1, Result.andThen_ok, hZ, e1', newRow, run_newObj, Array.toArray_toList]
        rfl
  · trivial

end

end Go.Proofs.YtkgoachgmdkmjaaGreatDoor.Am

namespace Go.Proofs.YtkgoachgmdkmjaaGreatDoor.Am

theorem okSize_iff {n b : Nat} : okSize n b = true ↔ n ≤ 140737488355328 ∧ n * b ≤ 140737488355328 ∧ b ≤ 4096 := by
  unfold okSize
  rw [Bool.and_eq_true, Bool.and_eq_true, ble_iff, ble_iff, ble_iff, and_assoc]
  exact Iff.rfl

theorem okSize_small {n b : Nat} (h : n ≤ 1073741824) (hb : b ≤ 4096) : okSize n b = true := okSize_iff.2 ⟨by omega, by
  have : n * b ≤ 1073741824 * 4096 := Nat.mul_le_mul h hb
  omega, hb⟩

theorem growBy_le (newLen : Nat) : ∀ r c, c ≤ newLen + (newLen + 768) / 4 → Builtin.growBy newLen r c ≤ newLen + (newLen + 768) / 4
  | 0, c, h => h
  | r + 1, c, h => by
    unfold Builtin.growBy
    split
    · exact h
    · exact growBy_le newLen r _ (by omega)

theorem nextcap_le {need old : Nat} (h : old < need) : Builtin.nextslicecap need old ≤ need + (need + 768) / 4 + 256 := by
  unfold Builtin.nextslicecap
  split
  · omega
  · split
    · omega
    · have := growBy_le need 4 old (by omega)
      omega

section
variable {P : Program} {φ : Phi} {h : Hp} {w : World}

/-- What an append of n elements ends with, R, by whether there is room. -/
structure Apps (P : Program) (w : World) (elem : TypeId) (size : Nat) (s : Value) (base : Option Addr) (sLen sCap n : Nat) (appended : Sem (Array Value)) (R : Result Value) : Prop where
  room : ∀ (a : Addr) (xs : List Value) (w' : World), sLen + n ≤ sCap → base = some a → appended.run P w = .ok xs.toArray w → (storeCells (a.add (sLen * size)) xs).run P w = .ok () w' →
    R = .ok (.slice (some a) (sLen + n) sCap) w'
  zero : n = 0 → sLen ≤ sCap → appended.run P w = .ok #[] w → R = .ok (.slice base sLen sCap) w
  grow : ∀ (old xs : List Value) (Z : Value), sCap < sLen + n → okT P elem = true → sLen + n ≤ 140737488355328 → (sLen + n) * P.bytesOf elem ≤ 140737488355328 ∧ P.bytesOf elem ≤ 4096 →
    (Builtin.firstCells size sLen s).run P { w with drawn := w.drawn + 1 } = .ok old.toArray { w with drawn := w.drawn + 1 } → appended.run P { w with drawn := w.drawn + 1 } = .ok xs.toArray { w with drawn := w.drawn + 1 } →
    (zeroValue elem).run P { w with drawn := w.drawn + 1 } = .ok Z { w with drawn := w.drawn + 1 } → Z.cells.size = size → old.length = sLen * size → xs.length = n * size →
    ∃ c spare, sLen + n ≤ c ∧ (old ++ xs ++ spare).length = c * size ∧
      R = .ok (.slice (some ⟨w.heap.size, 0, none⟩) (sLen + n) c) ({ w with drawn := w.drawn + 1 }.alloc (.cells (old ++ xs ++ spare).toArray elem (0, 0)))

theorem spare_len {old xs : List Value} {Z : Value} {size sLen n c : Nat} (hc : sLen + n ≤ c) (hzl : Z.cells.size = size) (hol : old.length = sLen * size) (hxl : xs.length = n * size) :
    (old ++ xs ++ (Builtin.zeroCells Z.cells (c - (sLen + n))).toList).length = c * size := by
  unfold Builtin.zeroCells
  simp only [List.length_append, hol, hxl, Array.length_toList, Array.size_map, Array.size_range, hzl]
  rw [← Nat.add_mul, ← Nat.add_mul]
  congr 1
  omega

theorem grow_le {need sCap b : Nat} (hn : sCap < need) (hb1 : need ≤ 140737488355328) (hb2 : need * b ≤ 140737488355328 ∧ b ≤ 4096) : ¬ (Builtin.nextslicecap need sCap * b > 2 ^ 48) := by
  have hnc := nextcap_le hn
  have : Builtin.nextslicecap need sCap * b ≤ 2 ^ 48 := by
    have h1 : Builtin.nextslicecap need sCap * b * 4 ≤ (need * 5 + 1792) * b := by
      rw [Nat.mul_right_comm]
      exact Nat.mul_le_mul_right b (by omega)
    have h2 : (need * 5 + 1792) * b = 5 * (need * b) + 1792 * b := by rw [Nat.add_mul, Nat.mul_right_comm, Nat.mul_comm (need * b) 5]
    obtain ⟨h3, h4⟩ := hb2
    omega
  omega

/-- A value's end. -/
def ValR (P : Program) (φ : Phi) (h : Hp) (w : World) (r : Res) (R : Result Value) : Prop :=
  match r with
  | .val v h' => ∃ x w' φ', R = .ok x w' ∧ HR P φ' h' w' ∧ Adv h w φ h' w' φ' ∧ Rel φ' v x
  | .fail _ => True
  | _ => False

theorem newCells_eq (c : Cells) (k : Pos → Hp → Res) : newCells h c k = k h.next ⟨T.set h.next (some (.cells 0 c 0 0 0 0 false false)) h.heap, h.next.succ, Nat.succ h.ser, h.lim⟩ := by
  unfold newCells; rw [newK_eq]

theorem newCellsN_eq (note : Nat) (c : Cells) (k : Pos → Hp → Res) : newCellsN h note c k = k h.next ⟨T.set h.next (some (.cells note c 0 0 0 0 false false)) h.heap, h.next.succ, Nat.succ h.ser, h.lim⟩ := by
  unfold newCellsN; rw [newK_eq]

/-- The bytes that an append is told. -/
def BytesOk (P : Program) (elem : TypeId) (bytes : Nat) : Prop := bytes = P.bytesOf elem ∧ bytes ≠ 0 ∨ bytes = 0 ∧ P.bytesOf elem = 1 ∧ P.underlying elem = some (.int .u8) ∧ P.cellsOf elem = 1

theorem BytesOk.size {elem : TypeId} {bytes n : Nat} (b : BytesOk P elem bytes) (ok : okSize n bytes = true) : n ≤ 140737488355328 ∧ n * P.bytesOf elem ≤ 140737488355328 ∧ P.bytesOf elem ≤ 4096 := by
  obtain ⟨h1, h2, h3⟩ := okSize_iff.1 ok
  rcases b with ⟨e, _⟩ | ⟨_, e, _⟩
  · rw [← e]; exact ⟨h1, h2, h3⟩
  · rw [e, Nat.mul_one]; exact ⟨h1, h1, by omega⟩

theorem BytesOk.noteB {elem : TypeId} {bytes n : Nat} (b : BytesOk P elem bytes) : NoteR P (noteB bytes) 0 n elem := by
  unfold Am.noteB
  rcases b with ⟨_, e⟩ | ⟨e, _, e2, e3⟩
  · have : Nat.beq bytes 0 = false := by cases h : Nat.beq bytes 0 with
      | false => rfl
      | true => exact absurd (beq_iff.1 h) e
    rw [this]; exact .inl rfl
  · rw [e]; exact .inr (.inl ⟨rfl, e2, e3⟩)

theorem noteG_or (bytes s : Nat) : noteG bytes s = 0 ∨ noteG bytes s = s := by
  unfold noteG
  cases h : (Nat.beq bytes 0 && Nat.beq s 1) with
  | false => exact .inl rfl
  | true => rw [Bool.and_eq_true] at h; exact .inr (beq_iff.1 h.2).symm

theorem BytesOk.noteG {elem : TypeId} {bytes s : Nat} (b : BytesOk P elem bytes) : noteG bytes s = 0 ∨ (noteG bytes s = 1 ∧ s = 1 ∧ P.underlying elem = some (.int .u8) ∧ P.cellsOf elem = 1) := by
  unfold Am.noteG
  cases h : (Nat.beq bytes 0 && Nat.beq s 1) with
  | false => exact .inl rfl
  | true =>
    rw [Bool.and_eq_true] at h
    rcases b with ⟨_, e⟩ | ⟨e, _, e2, e3⟩
    · exact absurd (beq_iff.1 h.1) e
    · exact .inr ⟨rfl, beq_iff.1 h.2, e2, e3⟩

theorem appendSeg_run (hR : HR P φ h w) (hm : Room h) {elem : TypeId} {sv : AV} {S : Value} {n : Nat} {appended : Sem (Array Value)} {R : Result Value} (hA : ∀ base sLen sCap, S = .slice base sLen sCap → Apps P w elem (P.cellsOf elem) S base sLen sCap n appended R) {seg : Cells} {z : AV} (hS : Rel φ sv S) (hw : seg.wf) (hn : 0 < n)
    (hsz : seg.size = n * P.cellsOf elem) (happ : ∀ d, ∃ xs, appended.run P { w with drawn := d } = .ok xs.toArray { w with drawn := d } ∧ RelL φ seg.toL xs) (hk : okT P elem = true) (hz : zeroT P elem = some z)
    (hzl : z.cells.length = P.cellsOf elem) {bytes : Nat} (hB : BytesOk P elem bytes) :
    ValR P φ h w (appendSeg h (P.cellsOf elem) bytes sv n seg) R := by
  have hR1 := hR.drew (w.drawn + 1)
  have hA1 := Adv.drew h w φ (w.drawn + 1)
  obtain ⟨xs, a1, a2⟩ := happ w.drawn
  obtain ⟨xs1, b1, b2⟩ := happ (w.drawn + 1)
  obtain ⟨Z, z1, z2⟩ := zeroT_run hz φ { w with drawn := w.drawn + 1 }
  have hZ : Z.cells.size = P.cellsOf elem := by rw [← hzl, z2.cells.length, Array.length_toList]
  have l1 : xs.length = n * P.cellsOf elem := by rw [← a2.length, Cells.toL_length hw, hsz]
  have l2 : xs1.length = n * P.cellsOf elem := by rw [← b2.length, Cells.toL_length hw, hsz]
  unfold appendSeg
  split
  · -- a nil slice
    cases hS
    cases hb : (okSize n bytes && Nat.blt 0 (P.cellsOf elem)) with
    | false => trivial
    | true =>
      rw [Bool.and_eq_true] at hb
      obtain ⟨c1, c2⟩ := hB.size hb.1
      rw [cond_true, newCellsN_eq]
      obtain ⟨c, spare, e1, e2, e3⟩ := (hA _ _ _ rfl).grow [] xs1 Z (by omega) hk (by omega) (by rw [Nat.zero_add]; exact c2) rfl b1 z1 hZ (by simp) l2
      simp only [List.nil_append] at e2 e3
      rw [Nat.zero_add] at e1 e3
      obtain ⟨n1, n2⟩ := newCells_run hR1 hm (xs := xs1) (spare := spare) hw b2 elem (0, 0) false rfl (noteB bytes) (Nat.succ h.ser) hB.noteB
      refine ⟨_, _, _, e3, n1, hA1.trans hR n2 (hm.was (by simp only [Pos.num_succ]; omega)), ?_⟩
      exact .sl (Phi.put_same _ _ _ _) rfl rfl e1 e1 (Nat.le_refl _) (fun q => by cases q) fun _ => ⟨rfl, by show 0 + c * P.cellsOf elem ≤ _; omega⟩
  · rename_i id g off len cap ex es
    rcases rel_sl hS with ⟨ad, c, b, s, N, rfl, k1, k2, k3, k4, k5, k6, k7, k8⟩ | ⟨ad, rfl, rfl, rfl, rfl⟩
    case inr =>
      -- a slice without room: a new row
      simp only [natK_eq]
      cases hb : (!(Nat.beq (P.cellsOf elem) es && Nat.blt 0 (P.cellsOf elem) && okSize (Nat.add 0 n) bytes)) with
      | true => trivial
      | false =>
        rw [cond_false]
        simp only [Bool.not_eq_false', Bool.and_eq_true] at hb
        obtain ⟨⟨b0, b00⟩, b01⟩ := hb
        have b0 : P.cellsOf elem = es := beq_iff.1 b0
        subst b0
        have b00 := blt_iff.1 b00
        obtain ⟨c1, c2⟩ := hB.size b01
        have c1 : 0 + n ≤ 140737488355328 := c1
        have c2 : (0 + n) * P.bytesOf elem ≤ 140737488355328 ∧ P.bytesOf elem ≤ 4096 := c2
        have hc : Nat.ble (Nat.add 0 n) 0 = false := ble_false.2 (by show 0 < 0 + n; omega)
        simp only [hc, cond_false, cond_true]
        have hr : readN h id g off (Nat.mul 0 (P.cellsOf elem)) = some (.lst 0 []) := by
          rw [show Nat.mul 0 (P.cellsOf elem) = 0 from Nat.zero_mul _]; rfl
        simp only [hr]
        rw [newCellsN_eq]
        obtain ⟨v1, v2, _⟩ := Cells.app_spec (a := .lst 0 []) rfl hw
        obtain ⟨c', spare, e1, e2, e3⟩ := (hA _ _ _ rfl).grow [] xs1 Z (by omega) hk c1 c2 (by
          simp only [Builtin.firstCells, Nat.zero_mul]
          exact run_loadCells_list _ ad [] (fun j v e => by simp at e)) b1 z1 hZ (by simp) l2
        obtain ⟨n1, n2⟩ := newCells_run hR1 hm (xs := [] ++ xs1) (spare := spare) v1 (by rw [v2]; exact b2) elem (0, 0) false rfl (noteB bytes) (Nat.succ h.ser) hB.noteB
        refine ⟨_, _, _, e3, n1, hA1.trans hR n2 (hm.was (by simp only [Pos.num_succ]; omega)), ?_⟩
        exact .sl (Phi.put_same _ _ _ _) rfl rfl e1 e1 (Nat.le_refl _) (fun q => by cases q) fun _ => ⟨rfl, by show 0 + c' * P.cellsOf elem ≤ _; omega⟩
    simp only [natK_eq]
    cases hb : (!(Nat.beq (P.cellsOf elem) es && Nat.blt 0 (P.cellsOf elem) && okSize (Nat.add len n) bytes)) with
    | true => trivial
    | false =>
      rw [cond_false]
      simp only [Bool.not_eq_false', Bool.and_eq_true] at hb
      obtain ⟨⟨b0, b00⟩, b01⟩ := hb
      have b0 : P.cellsOf elem = es := beq_iff.1 b0
      subst b0
      have b00 := blt_iff.1 b00
      obtain ⟨c1, c2⟩ := hB.size b01
      have c1 : len + n ≤ 140737488355328 := c1
      have c2 : (len + n) * P.bytesOf elem ≤ 140737488355328 ∧ P.bytesOf elem ≤ 4096 := c2
      cases hc : Nat.ble (Nat.add len n) cap with
      | true =>
        have hc : len + n ≤ cap := ble_iff.1 hc
        rw [cond_true]
        obtain ⟨q1, q2⟩ := k8 (by omega)
        have hadd := add_eq ad k3 (len * P.cellsOf elem)
        have hmul := Nat.mul_le_mul_right (P.cellsOf elem) (show len + n ≤ c by omega)
        rw [Nat.add_mul] at hmul
        unfold extendN
        split
        · rename_i ser cc lo hi g' m ro fz hid
          cases hcc : (!ro && Nat.beq g g' && Nat.ble lo (Nat.add off (Nat.mul len (P.cellsOf elem))) && Nat.ble (Nat.add off (Nat.mul len (P.cellsOf elem))) cc.size && seg.atoms) with
          | false => trivial
          | true =>
            simp only [Bool.and_eq_true, Bool.not_eq_true'] at hcc
            obtain ⟨⟨⟨⟨f1, f2⟩, f3⟩, f4⟩, f5⟩ := hcc
            subst f1
            have f2 := beq_iff.1 f2
            subst f2
            have f4 : off + len * P.cellsOf elem ≤ cc.size := ble_iff.1 f4
            rw [cond_true, T.setK_eq]
            have hwf := (hR.blk _ _ hid).1.1
            have hc2 : ∃ c₂ : Cells, (bif Nat.ble (Nat.add (Nat.add off (Nat.mul len (P.cellsOf elem))) seg.size) cc.size then cc.splice (Nat.add off (Nat.mul len (P.cellsOf elem))) seg else (cc.sub 0 (Nat.add off (Nat.mul len (P.cellsOf elem)))).app seg) = c₂ ∧ c₂.wf ∧
                c₂.toL = cc.toL.take (off + len * P.cellsOf elem) ++ (seg.toL ++ cc.toL.drop (off + len * P.cellsOf elem + xs.length)) := by
              refine ⟨_, rfl, ?_⟩
              cases hsp : Nat.ble (Nat.add (Nat.add off (Nat.mul len (P.cellsOf elem))) seg.size) cc.size with
              | true =>
                have hsp : off + len * P.cellsOf elem + seg.size ≤ cc.size := ble_iff.1 hsp
                rw [cond_true]
                obtain ⟨r1, r2, _⟩ := Cells.splice_spec hwf hw hsp
                exact ⟨r1, by rw [l1, ← hsz]; exact r2⟩
              | false =>
                have hsp : cc.size < off + len * P.cellsOf elem + seg.size := ble_false.1 hsp
                rw [cond_false]
                obtain ⟨w1, t1, s1⟩ := Cells.sub_spec hwf (off := 0) (n := off + len * P.cellsOf elem) (by omega)
                obtain ⟨w2, t2, _⟩ := Cells.app_spec w1 hw
                refine ⟨w2, ?_⟩
                show ((cc.sub 0 (off + len * P.cellsOf elem)).app seg).toL = _
                rw [t2, t1, List.drop_zero, List.drop_eq_nil_of_le (by rw [Cells.toL_length hwf]; omega), List.append_nil]
            obtain ⟨c₂, g1, g2, g3⟩ := hc2
            rw [g1]
            obtain ⟨w', p1, p2, p3⟩ := put_run hR hid k1 (a := ad.add (len * P.cellsOf elem)) (off := off + len * P.cellsOf elem) (xs := xs) (by rw [hadd]; exact k2) (by rw [hadd])
              (by rw [hadd]; show ((ad.off + len * P.cellsOf elem : Nat) : Int) = ((off + len * P.cellsOf elem : Nat) : Int) + s; omega) f4 (by rw [hadd]; show ad.off + len * P.cellsOf elem + xs.length ≤ N; omega)
              a2 (atoms_oneCell f5 a2) g2 g3 (bif Nat.blt (Nat.add off (Nat.mul len (P.cellsOf elem))) hi then g else m) (by
                by_cases hb : off + len * P.cellsOf elem < hi
                · rw [show Nat.blt (Nat.add off (Nat.mul len (P.cellsOf elem))) hi = true from blt_iff.2 hb]; exact .inl rfl
                · rw [show Nat.blt (Nat.add off (Nat.mul len (P.cellsOf elem))) hi = false from blt_false.2 (by show hi ≤ off + len * P.cellsOf elem; omega)]; exact .inr ⟨rfl, by omega⟩) h.ser
            refine ⟨_, w', φ, (hA _ _ _ rfl).room _ _ _ (by omega) rfl a1 p1, p2, p3, ?_⟩
            exact .sl k1 k2 k3 (by show len + n ≤ c; omega) k5 hc k7 k8
        · trivial
      | false =>
        have hc : cap < len + n := ble_false.1 hc
        rw [cond_false]
        cases hex : ex with
        | true =>
          have hcap := k7 hex
          rw [cond_true]
          cases hr : readN h id g off (Nat.mul len (P.cellsOf elem)) with
          | none => trivial
          | some oldc =>
            obtain ⟨ys, o1, o2, o3, o4⟩ := readN_run hR1 hr k1 k2 k3 (fun hp => (k8 (by
              rcases Nat.eq_zero_or_pos len with q | q
              · rw [q] at hp; simp at hp
              · omega)).1)
            simp only
            rw [newCellsN_eq]
            obtain ⟨v1, v2, _⟩ := Cells.app_spec o3 hw
            obtain ⟨c', spare, e1, e2, e3⟩ := (hA _ _ _ rfl).grow ys xs1 Z (by omega) hk c1 c2 o1 b1 z1 hZ (by rw [← o2.length, Cells.toL_length o3, o4]; rfl) l2
            obtain ⟨n1, n2⟩ := newCells_run hR1 hm (xs := ys ++ xs1) (spare := spare) v1 (by rw [v2]; exact o2.append b2) elem (0, 0) false rfl (noteB bytes) (Nat.succ h.ser) hB.noteB
            refine ⟨_, _, _, e3, n1, hA1.trans hR n2 (hm.was (by simp only [Pos.num_succ]; omega)), ?_⟩
            exact .sl (Phi.put_same _ _ _ _) rfl rfl e1 e1 (Nat.le_refl _) (fun q => by cases q) fun _ => ⟨rfl, by show 0 + c' * P.cellsOf elem ≤ _; omega⟩
        | false =>
          rw [cond_false]
          split
          · rename_i ser cc lo hi g' m ro fz hid
            cases hcc : (!ro && seeable cc lo hi g' m g off (Nat.mul len (P.cellsOf elem)) && seg.atoms) with
            | false => trivial
            | true =>
              simp only [Bool.and_eq_true, Bool.not_eq_true'] at hcc
              obtain ⟨⟨f1, f2⟩, f5⟩ := hcc
              subst f1
              have hsee := f2
              obtain ⟨_, hmg0, hhc, _⟩ := (hR.blk _ _ hid).1
              unfold seeable at f2
              rw [Bool.and_eq_true] at f2
              have f3 := ble_iff.1 f2.1
              have hq : m ≤ g ∧ g ≤ g' ∧ (off + len * P.cellsOf elem ≤ if g = g' then cc.size else hi) ∧ off + len * P.cellsOf elem ≤ cc.size := by
                have f2 := f2.2
                cases hgg : Nat.beq g g' with
                | true =>
                  rw [hgg, cond_true] at f2
                  have hgg := beq_iff.1 hgg
                  have f2 : off + len * P.cellsOf elem ≤ cc.size := ble_iff.1 f2
                  exact ⟨by omega, by omega, by rw [if_pos hgg]; exact f2, f2⟩
                | false =>
                  rw [hgg, cond_false, Bool.and_eq_true, Bool.and_eq_true] at f2
                  have h1 := ble_iff.1 f2.1.1
                  have h2 := blt_iff.1 f2.1.2
                  have h3 : off + len * P.cellsOf elem ≤ hi := ble_iff.1 f2.2
                  have := hhc (by omega)
                  exact ⟨h1, by omega, by rw [if_neg (by omega)]; exact h3, by omega⟩
              obtain ⟨hqm, hqg, hqt, f4⟩ := hq
              rw [cond_true, T.setK_eq]
              have hhi : (bif Nat.blt m g' then (bif Nat.ble hi (Nat.add off (Nat.mul len (P.cellsOf elem))) then hi else (Nat.add off (Nat.mul len (P.cellsOf elem)))) else (Nat.add off (Nat.mul len (P.cellsOf elem)))) ≤ off + len * P.cellsOf elem ∧
                  (m < g' → (bif Nat.blt m g' then (bif Nat.ble hi (Nat.add off (Nat.mul len (P.cellsOf elem))) then hi else (Nat.add off (Nat.mul len (P.cellsOf elem)))) else (Nat.add off (Nat.mul len (P.cellsOf elem)))) ≤ hi) := by
                by_cases hmg : m < g'
                · rw [blt_iff.2 hmg, cond_true]
                  by_cases hh : hi ≤ off + len * P.cellsOf elem
                  · rw [show Nat.ble hi (Nat.add off (Nat.mul len (P.cellsOf elem))) = true from ble_iff.2 hh, cond_true]; exact ⟨hh, fun _ => Nat.le_refl _⟩
                  · rw [show Nat.ble hi (Nat.add off (Nat.mul len (P.cellsOf elem))) = false from ble_false.2 (by show off + len * P.cellsOf elem < hi; omega), cond_false]; exact ⟨Nat.le_refl _, fun _ => by show off + len * P.cellsOf elem ≤ hi; omega⟩
                · rw [blt_false.2 (by omega), cond_false]; exact ⟨Nat.le_refl _, fun q => absurd q hmg⟩
              generalize (bif Nat.blt m g' then (bif Nat.ble hi (Nat.add off (Nat.mul len (P.cellsOf elem))) then hi else (Nat.add off (Nat.mul len (P.cellsOf elem)))) else (Nat.add off (Nat.mul len (P.cellsOf elem)))) = hi' at hhi
              by_cases hin : len + n ≤ c
              · obtain ⟨q1, q2⟩ := k8 (by omega)
                have hadd := add_eq ad k3 (len * P.cellsOf elem)
                have hmul := Nat.mul_le_mul_right (P.cellsOf elem) hin
                rw [Nat.add_mul] at hmul
                obtain ⟨w', p1, p2, p3⟩ := regen_same hR hid hqm hqg hqt k1 (a := ad.add (len * P.cellsOf elem)) (off := off) (top := off + len * P.cellsOf elem) (seg := seg) (xs := xs) (by rw [hadd]; exact k2) (by rw [hadd])
                  (by rw [hadd]; show ((ad.off + len * P.cellsOf elem : Nat) : Int) = ((off + len * P.cellsOf elem : Nat) : Int) + s; omega) f3 (by omega) f4 (by rw [hadd]; show ad.off + len * P.cellsOf elem + xs.length ≤ N; omega)
                  a2 (atoms_oneCell f5 a2) hw hi' hhi.1 hhi.2 h.ser _ (noteG_or bytes ser)
                refine ⟨_, w', _, (hA _ _ _ rfl).room _ _ _ hin rfl a1 p1, p2, p3, ?_⟩
                exact .sl (Phi.put_same _ _ _ _) k2 k3 hin hin (Nat.le_refl _) (fun q => by cases q) fun _ => ⟨q1, q2⟩
              · have hrd : readN h id g off (len * P.cellsOf elem) = some (bif Nat.beq (len * P.cellsOf elem) 0 then .lst 0 [] else cc.sub off (len * P.cellsOf elem)) := by
                  unfold readN
                  cases hz0 : Nat.beq (len * P.cellsOf elem) 0 with
                  | true => rfl
                  | false =>
                    rw [cond_false, hid]
                    simp only
                    rw [show seeable cc lo hi g' m g off (len * P.cellsOf elem) = true from hsee]; rfl
                obtain ⟨ys, o1, o2, o3, o4⟩ := readN_run hR1 hrd k1 k2 k3 (fun hp => (k8 (by
                  rcases Nat.eq_zero_or_pos len with q | q
                  · rw [q] at hp; simp at hp
                  · omega)).1)
                have hwf := (hR.blk _ _ hid).1.1
                have hoo : RelL φ ((cc.toL.drop off).take (off + len * P.cellsOf elem - off)) ys := by
                  rw [show off + len * P.cellsOf elem - off = len * P.cellsOf elem by omega]
                  cases hz0 : Nat.beq (len * P.cellsOf elem) 0 with
                  | true =>
                    rw [hz0, cond_true] at o2
                    rw [beq_iff.1 hz0, List.take_zero]
                    exact o2
                  | false =>
                    rw [hz0, cond_false, (Cells.sub_spec hwf f4).2.1] at o2
                    exact o2
                obtain ⟨c', spare, e1, e2, e3⟩ := (hA _ _ _ rfl).grow ys xs1 Z (by omega) hk c1 c2 o1 b1 z1 hZ (by rw [← o2.length, Cells.toL_length o3, o4]) l2
                obtain ⟨n1, n2⟩ := regen_new hR1 hid (off := off) (top := off + len * P.cellsOf elem) f3 (by omega) f4 (old := ys) (spare := spare) (xs := xs1) hoo b2 hw hi' hhi.1 hhi.2 h.ser elem _ hB.noteG
                refine ⟨_, _, _, e3, n1, hA1.trans hR n2 (hm.was (by simp only [Pos.num_succ]; omega)), ?_⟩
                exact .sl (Phi.put_same _ _ _ _) rfl rfl e1 e1 (Nat.le_refl _) (fun q => by cases q) fun _ => ⟨by show ((0 : Nat) : Int) = (off : Int) + -(off : Int); omega, by show 0 + c' * P.cellsOf elem ≤ _; omega⟩
          · trivial
  · cases sv <;> first | trivial | skip
    all_goals rename_i h1 h2
    all_goals first | (exact absurd rfl h1) | (exact absurd rfl (h2 _ _ _ _ _ _ _)) | trivial

end

end Go.Proofs.YtkgoachgmdkmjaaGreatDoor.Am
