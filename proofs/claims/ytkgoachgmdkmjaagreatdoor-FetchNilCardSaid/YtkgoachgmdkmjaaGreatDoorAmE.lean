import Derived.Lib.Builder
import Derived.Lib.UnsafeStr
import Derived.Lib.MakeNoZero
import Derived.Test.YtkgoachgmdkmjaaGreatDoorAmD
/- THE ABSTRACT MACHINE, part E: a machine over values without block numbers, run by the kernel, and the proof that the model's machine does what it does. No condition. -/
set_option linter.unusedSimpArgs false
set_option linter.unusedVariables false
namespace Go.Proofs.YtkgoachgmdkmjaaGreatDoor.Am

theorem intT_iff {P : Program} {u : TypeId} {d : TypeDesc} (h : P.underlying u = some d) : (match (generalizing := false) d with | .int _ => true | _ => false) = isIntT P u := by
  unfold isIntT
  rw [h]
  cases d <;> rfl

theorem exec_builtin {ρ : Operand → Value} {o : Oper} {c : Call} {b : Builtin} (ho : o.op = .call c) (hc : c.callee = .builtin b) :
    execOp ρ o = builtin b c.argTypes o.type (c.args.map fun | .const _ => true | _ => false) (c.args.map ρ) := by
  simp only [execOp, ho, resolve, hc]
  rfl

/-- n zero elements. -/
def zerosOf (e : TypeId) (size n : Nat) : Sem (Array Value) := if n * size = 0 then pure #[] else do pure (Builtin.zeroCells (← zeroValue e).cells n)

theorem append_says {P : Program} {w : World} {t u ty e : TypeId} {du : TypeDesc} (hd : P.underlying t = some (.slice e)) (hk : okT P e = true) (hdu : P.underlying u = some du)
    {base : Option Addr} {sLen sCap n : Nat} {X : Value} {appended : Sem (Array Value)}
    (hcase : (isIntT P u = false ∧ (Builtin.lenOf X).run P w = .ok n w ∧ appended = Builtin.firstCells (P.cellsOf e) n X) ∨
      (isIntT P u = true ∧ (∃ k, X = .int k (Int.ofNat n)) ∧ n ≤ 1073741824 ∧ P.bytesOf e ≤ 4096 ∧ appended = zerosOf e (P.cellsOf e) n)) :
    Apps P w e (P.cellsOf e) (.slice base sLen sCap) base sLen sCap n appended ((Builtin.append_ #[t, u] ty #[.slice base sLen sCap, X]).run P w) := by
  obtain ⟨i, hinf, hi1, hi2⟩ := okT_info hk
  unfold isIntT at hcase
  rw [hdu] at hcase
  generalize hR : (Builtin.append_ #[t, u] ty #[.slice base sLen sCap, X]).run P w = R
  unfold Builtin.append_ at hR
  simp only [List.getElem?_toArray, List.getElem?_cons_zero, List.getElem?_cons_succ] at hR
  rw [Sem.run_bind, run_underlying hd, Result.andThen_ok] at hR
  simp only [] at hR
  rw [Sem.run_bind, run_sizeOf' hk, Result.andThen_ok, Sem.run_bind, run_underlying hdu, Result.andThen_ok, Sem.run_bind, Sem.run_pure, Result.andThen_ok] at hR
  rcases hcase with ⟨hi, hl, rfl⟩ | ⟨hi, ⟨k, rfl⟩, h1, h2, rfl⟩
  · split at hR
    · cases hi
    · simp only [Bool.false_eq_true, if_false, Bool.not_false, if_true, false_or] at hR
      rw [Sem.run_bind, hl, Result.andThen_ok] at hR
      refine ⟨fun a xs w' hn hb ha hs => ?_, fun h0 hn ha => ?_, fun old xs Z hn hk' hb1 hb2 ho ha hz hzl hol hxl => ?_⟩
      · rw [← hR, hb]
        simp only [hn, if_true, Sem.run_bind, ha, Result.andThen_ok, hs, Sem.run_pure]
      · subst h0
        rw [← hR]
        simp only [Nat.add_zero, hn, if_true, Sem.run_bind, ha, Result.andThen_ok]
        cases base <;> simp [storeCells]
      · obtain ⟨c, hc, hcr⟩ := appendCap_run (P := P) (w := w) (sLen + n) sCap e
        refine ⟨c, (Builtin.zeroCells Z.cells (c - (sLen + n))).toList, hc, spare_len hc hzl hol hxl, ?_⟩
        rw [← hR]
        simp only [Nat.not_le.2 hn, if_false, Sem.run_bind, run_typeInfo w hinf, Result.andThen_ok]
        have g1 : ¬ (((sLen + n : Nat) : Int) > IntKind.i64.max ∧ i.bytes = 0) := by
          rw [i64_max]; omega
        have g2 := grow_le hn hb1 (b := i.bytes) (by rw [hi2]; exact hb2)
        simp only [g1, g2, if_false, Sem.run_pure, Result.andThen_ok, Sem.run_bind, run_typeInfo w hinf, hcr]
        simp only [run_typeInfo _ hinf, Result.andThen_ok, run_askRoom, ho, ha, hz, newRow, run_newObj, Sem.run_bind, Sem.run_pure]
        rw [show (old ++ xs ++ (Builtin.zeroCells Z.cells (c - (sLen + n))).toList).toArray = old.toArray ++ xs.toArray ++ Builtin.zeroCells Z.cells (c - (sLen + n)) by simp]
        rfl
  · split at hR
    · have hw : IntKind.i64.wrap (Int.ofNat n) = (n : Int) := wrap_i64 (n := (n : Int)) (by omega) (by omega)
      have hbytes : ¬ ((n : Int) * (i.bytes : Int) > 2 ^ 48) := by
        rw [hi2]
        have h3 : n * P.bytesOf e ≤ 1073741824 * 4096 := Nat.mul_le_mul h1 h2
        have h4 : ((n * P.bytesOf e : Nat) : Int) ≤ ((1073741824 * 4096 : Nat) : Int) := Int.ofNat_le.2 h3
        rw [Int.natCast_mul] at h4
        omega
      simp only [if_true, Bool.not_true, Bool.false_eq_true, if_false, true_or, and_true] at hR
      have hint : (asInt (.int k (Int.ofNat n))).run P w = .ok (Int.ofNat n) w := rfl
      rw [Sem.run_bind, hint, Result.andThen_ok, hw, if_neg (by omega)] at hR
      simp only [Sem.run_bind, Sem.run_pure, Result.andThen_ok, run_typeInfo w hinf, hbytes, if_false, Int.toNat_natCast] at hR
      refine ⟨fun a xs w' hn hb ha hs => ?_, fun h0 hn ha => ?_, fun old xs Z hn hk' hb1 hb2 ho ha hz hzl hol hxl => ?_⟩
      · unfold zerosOf at ha
        rw [← hR, hb]
        simp only [hn, if_true, Sem.run_bind, ha, Result.andThen_ok, hs, Sem.run_pure]
      · subst h0
        rw [← hR]
        simp only [Nat.add_zero, hn, if_true, Nat.zero_mul, Sem.run_bind, Sem.run_pure, Result.andThen_ok]
        cases base <;> simp [storeCells]
      · obtain ⟨c, hc, hcr⟩ := appendCap_run (P := P) (w := w) (sLen + n) sCap e
        refine ⟨c, (Builtin.zeroCells Z.cells (c - (sLen + n))).toList, hc, spare_len hc hzl hol hxl, ?_⟩
        unfold zerosOf at ha
        rw [← hR]
        simp only [Nat.not_le.2 hn, if_false, Sem.run_bind, run_typeInfo w hinf, Result.andThen_ok]
        have g1 : ¬ (((sLen + n : Nat) : Int) > IntKind.i64.max) := by
          rw [i64_max]; omega
        have g2 := grow_le hn hb1 (b := i.bytes) (by rw [hi2]; exact hb2)
        simp only [g1, g2, if_false, Sem.run_pure, Result.andThen_ok, Sem.run_bind, run_typeInfo w hinf, hcr]
        simp only [run_typeInfo _ hinf, Result.andThen_ok, run_askRoom, ho, ha, hz, newRow, run_newObj, Sem.run_bind, Sem.run_pure]
        rw [show (old ++ xs ++ (Builtin.zeroCells Z.cells (c - (sLen + n))).toList).toArray = old.toArray ++ xs.toArray ++ Builtin.zeroCells Z.cells (c - (sLen + n)) by simp]
        rfl
    · rename_i hne
      split at hi
      · rename_i kk e1
        exact (hne kk (by simpa using e1)).elim
      · cases hi

section
variable {P : Program} {φ : Phi} {h : Hp} {w : World} {env : T AV} {a : Act} {o : Oper}

theorem ValR.res {r : Res} {R : Result Value} (hv : ValR P φ h w r R) : ResR P φ h w r (R.andThen fun x w' => .ok (.value x) w') := by
  unfold ValR at hv
  split at hv
  · obtain ⟨x, w', φ', rfl, h1, h2, h3⟩ := hv
    exact ⟨_, x, w', φ', rfl, .inl rfl, h1, h2, h3⟩
  · trivial
  · exact hv.elim

/-- The cells that are appended or copied. -/
theorem src_run (hR : HR P φ h w) {es n : Nat} {xv : AV} {X : Value} {seg : Cells} (hX : Rel φ xv X) (hs : srcCells h es n xv = some seg) (hl : ∃ m, lenA xv = some m ∧ n ≤ m) :
    ∃ xs, (Builtin.firstCells es n X).run P w = .ok xs.toArray w ∧ RelL φ seg.toL xs ∧ seg.wf ∧ (seg.size = n * es ∨ xv = .nilSl) := by
  obtain ⟨m, hm, hnm⟩ := hl
  unfold srcCells at hs
  split at hs
  · rename_i id g off len cap ex es'
    rcases rel_sl hX with ⟨ad, c, b, s, N, rfl, k1, k2, k3, k4, k5, k6, k7, k8⟩ | ⟨ad, rfl, rfl, rfl, rfl⟩
    case inr =>
      simp only [lenA, Option.some.injEq] at hm
      subst hm
      have hn : n = 0 := by omega
      subst hn
      rw [Nat.zero_mul] at hs
      have hs : some (Cells.lst 0 []) = some seg := hs
      cases hs
      refine ⟨[], ?_, .nil, rfl, .inl (by simp [Cells.size])⟩
      simp only [Builtin.firstCells, Nat.zero_mul]
      exact run_loadCells_list w ad [] (fun j v e => by simp at e)
    simp only [lenA, Option.some.injEq] at hm
    subst hm
    obtain ⟨xs, e1, e2, e3, e4⟩ := readN_run hR hs k1 k2 k3 (fun hp => (k8 (by
      rcases Nat.eq_zero_or_pos n with q | q
      · rw [q] at hp; simp at hp
      · omega)).1)
    exact ⟨xs, e1, e2, e3, .inl e4⟩
  · cases hs
    cases hX
    exact ⟨[], rfl, .nil, rfl, .inr rfl⟩
  · rename_i m' v
    obtain ⟨s, rfl, h1, h2, h3⟩ := rel_str hX
    cases hb : (Nat.beq es 1 && Nat.ble n m') with
    | false => rw [hb] at hs; cases hs
    | true =>
      rw [hb, cond_true, Option.some.injEq] at hs
      rw [Bool.and_eq_true] at hb
      have b1 : es = 1 := beq_iff.1 hb.1
      have b2 : n ≤ m' := ble_iff.1 hb.2
      subst b1; subst hs
      obtain ⟨q1, q2, q3⟩ := Cells.sub_spec (c := .byt m' v) h2 (off := 0) (n := n) (by show 0 + n ≤ m'; omega)
      refine ⟨((s.extract 0 n).data.map fun b => Value.int .u8 b.toNat).toList, by rw [Array.toArray_toList]; rfl, ?_, q1, .inl (by rw [q3]; omega)⟩
      rw [q2, List.drop_zero]
      have : RelL φ (bytesL m' v) (s.data.toList.map fun b => Value.int .u8 b.toNat) := by
        rw [bytesL_eq, h1]
        refine RelL.of_get (by simp) fun i v x hv hx => ?_
        rw [List.getElem?_map] at hv hx
        cases hu : (unpack m' _)[i]? with
        | none => rw [hu] at hv; cases hv
        | some u =>
          rw [hu, Option.map_some, Option.some.injEq] at hv hx
          subst hv; subst hx
          exact .int _ _
      have := this.take n
      rw [ByteArray.data_extract, Array.toList_map, Array.toList_extract, List.extract_eq_take_drop, List.drop_zero, Nat.sub_zero, List.map_take]
      exact this
  · cases hs

theorem bytesN_ok {P : Program} {e : TypeId} (h : 0 < P.bytesOf e) : BytesOk P e (bytesN P e) := by
  unfold bytesN
  cases hb : byteT P e with
  | false => exact .inl ⟨rfl, by rw [cond_false]; omega⟩
  | true =>
    unfold byteT at hb
    rw [Bool.and_eq_true, Bool.and_eq_true] at hb
    refine .inr ⟨rfl, beq_iff.1 hb.2, ?_, beq_iff.1 hb.1.2⟩
    have := hb.1.1
    split at this
    · rename_i q; exact q
    · cases this

theorem op_append (hR : HR P φ h w) (hE : EnvR φ env a.tmps) (hm : Room h) {c : Call} {s x : Operand} {t u e : TypeId} {s' x' : Opd} {z : AV} (ht : elemOfSlice P t = some e) (hs : compOpd P s = some s') (hx : compOpd P x = some x') (hz : zeroT P e = some z)
    (hzl : z.cells.length = P.cellsOf e) (hu : okT P u = true) (h0 : 0 < P.bytesOf e) (hi : isIntT P u = false) (hc : c.callee = .builtin .append) (ha : c.args.toList = [s, x]) (htt : c.argTypes.toList = [t, u]) (ho : o.op = .call c) :
    ResR P φ h w (evalOp P (.append (P.cellsOf e) (bytesN P e) s' x') env h) ((execOp a.eval o).run P w) := by
  have rs := opd_rel hR hE hs
  have rx := opd_rel hR hE hx
  obtain ⟨hd, hk⟩ := elem_underlying ht
  obtain ⟨du, hdu⟩ := okT_desc hu
  have ha : c.args = #[s, x] := by rw [← Array.toArray_toList (xs := c.args), ha]
  have htt : c.argTypes = #[t, u] := by rw [← Array.toArray_toList (xs := c.argTypes), htt]
  have hint := intT_iff hdu
  rw [hi] at hint
  generalize hS : a.eval s = S at *
  generalize hX : a.eval x = X at *
  -- the model's call
  have hrun : (execOp a.eval o).run P w = ((Builtin.append_ #[t, u] o.type #[S, X]).run P w).andThen fun v w' => .ok (.value v) w' := by
    rw [exec_builtin ho hc, ha, htt, show #[s, x].map a.eval = #[a.eval s, a.eval x] by simp]
    show (do pure (Next.value (← Builtin.append_ #[t, u] o.type #[a.eval s, a.eval x])) : Sem Next).run P w = _
    rw [Sem.run_bind, hS, hX]
    rfl
  show ResR P φ h w (appendA h (P.cellsOf e) (bytesN P e) (ev env s') (ev env x')) _
  unfold appendA
  generalize hsv : ev env s' = sv at *
  generalize hxv : ev env x' = xv at *
  cases hl : lenA xv with
  | none => trivial
  | some n =>
    simp only
    have hlr : (Builtin.lenOf X).run P w = .ok n w := by
      unfold lenA at hl
      split at hl
      · cases hl
        obtain ⟨ad, c', rfl, _⟩ := rel_slS rx
        rfl
      · cases hl; cases rx; rfl
      · cases hl
        obtain ⟨s0, rfl, _, _, hn⟩ := rel_str rx
        rw [← hn]; rfl
      · cases hl
    have says : ∀ base sLen sCap, S = .slice base sLen sCap → Apps P w e (P.cellsOf e) S base sLen sCap n (Builtin.firstCells (P.cellsOf e) n X) ((Builtin.append_ #[t, u] o.type #[S, X]).run P w) := fun base sLen sCap q => by
      subst q; exact append_says hd hk hdu (.inl ⟨hi, hlr, rfl⟩)
    cases hn0 : Nat.beq n 0 with
    | true =>
      have hn0 := beq_iff.1 hn0
      subst hn0
      rw [cond_true]
      have happ : (Builtin.firstCells (P.cellsOf e) 0 X).run P w = .ok #[] w := by
        unfold lenA at hl
        split at hl
        · obtain ⟨ad, c', rfl, _⟩ := rel_slS rx
          simp only [Builtin.firstCells, Nat.zero_mul]
          exact run_loadCells_list w ad [] (fun j v e => by simp at e)
        · cases rx; rfl
        · obtain ⟨s0, rfl, _⟩ := rel_str rx
          simp [Builtin.firstCells]
        · cases hl
      split
      · rename_i id g off len cap ex es
        obtain ⟨ad, c', rfl, k4, _⟩ := rel_slS rs
        rw [hrun, (says _ _ _ rfl).zero rfl k4 happ]
        exact ResR.pure hR (x := .slice (some ad) len c') rs rfl
      · cases rs
        rw [hrun, (says _ _ _ rfl).zero rfl (Nat.le_refl _) happ]
        exact ResR.pure hR .nilSl rfl
      · trivial
    | false =>
      rw [cond_false]
      have hn0 := beq_false.1 hn0
      cases hsrc : srcCells h (P.cellsOf e) n xv with
      | none => trivial
      | some seg =>
        simp only
        obtain ⟨xs, _, q2, q3, q4⟩ := src_run hR rx hsrc ⟨n, hl, Nat.le_refl _⟩
        have hsz : seg.size = n * P.cellsOf e := by
          rcases q4 with q | q
          · exact q
          · subst q; simp only [lenA, Option.some.injEq] at hl; omega
        have hv := appendSeg_run hR hm says rs q3 (by omega) hsz (fun d => by
            obtain ⟨xs, r1, r2, _⟩ := src_run (hR.drew d) rx hsrc ⟨n, hl, Nat.le_refl _⟩
            exact ⟨xs, r1, r2⟩) hk hz hzl (bytesN_ok h0)
        rw [hrun]
        exact hv.res

theorem op_appendZ (hR : HR P φ h w) (hE : EnvR φ env a.tmps) (hm : Room h) {c : Call} {s x : Operand} {t u e : TypeId} {s' x' : Opd} {z : AV} (ht : elemOfSlice P t = some e) (hs : compOpd P s = some s') (hx : compOpd P x = some x') (hz : zeroT P e = some z)
    (hzl : z.cells.length = P.cellsOf e) (hu : okT P u = true) (h0 : 0 < P.bytesOf e) (hi : isIntT P u = true) (hc : c.callee = .builtin .append) (ha : c.args.toList = [s, x]) (htt : c.argTypes.toList = [t, u]) (ho : o.op = .call c) :
    ResR P φ h w (evalOp P (.appendZ (P.cellsOf e) (P.bytesOf e) z.cells s' x') env h) ((execOp a.eval o).run P w) := by
  have rs := opd_rel hR hE hs
  have rx := opd_rel hR hE hx
  obtain ⟨hd, hk⟩ := elem_underlying ht
  obtain ⟨du, hdu⟩ := okT_desc hu
  obtain ⟨i, hinf, hi1, hi2⟩ := okT_info hk
  have ha : c.args = #[s, x] := by rw [← Array.toArray_toList (xs := c.args), ha]
  have htt : c.argTypes = #[t, u] := by rw [← Array.toArray_toList (xs := c.argTypes), htt]
  have hint := intT_iff hdu
  rw [hi] at hint
  generalize hS : a.eval s = S at *
  generalize hX : a.eval x = X at *
  generalize hsv : ev env s' = sv at *
  generalize hxv : ev env x' = xv at *
  unfold evalOp
  simp only [hsv, hxv]
  split
  · rename_i k n
    cases rx
    have hrun : (execOp a.eval o).run P w = ((Builtin.append_ #[t, u] o.type #[S, .int k (Int.ofNat n)]).run P w).andThen fun v w' => .ok (.value v) w' := by
      rw [exec_builtin ho hc, ha, htt, show #[s, x].map a.eval = #[a.eval s, a.eval x] by simp]
      show (do pure (Next.value (← Builtin.append_ #[t, u] o.type #[a.eval s, a.eval x])) : Sem Next).run P w = _
      rw [Sem.run_bind, hS, hX]
      rfl
    cases hb : (Nat.ble n 1073741824 && Nat.ble (P.bytesOf e) 4096) with
    | false => trivial
    | true =>
      rw [Bool.and_eq_true] at hb
      have g1 := ble_iff.1 hb.1
      have g2 := ble_iff.1 hb.2
      rw [cond_true]
      have says : ∀ base sLen sCap, S = .slice base sLen sCap → Apps P w e (P.cellsOf e) S base sLen sCap n (zerosOf e (P.cellsOf e) n) ((Builtin.append_ #[t, u] o.type #[S, .int k (Int.ofNat n)]).run P w) := fun base sLen sCap q => by
        subst q; exact append_says hd hk hdu (.inr ⟨hi, ⟨k, rfl⟩, g1, g2, rfl⟩)
      cases hn0 : Nat.beq n 0 with
      | true =>
        have hn0 := beq_iff.1 hn0
        subst hn0
        rw [cond_true]
        have happ : (zerosOf e (P.cellsOf e) 0).run P w = .ok #[] w := by
          unfold zerosOf
          rw [if_pos (Nat.zero_mul _)]; rfl
        split
        · rename_i id g off len cap ex es
          obtain ⟨ad, c', rfl, k4, _⟩ := rel_slS rs
          rw [hrun, (says _ _ _ rfl).zero rfl k4 happ]
          exact ResR.pure hR (x := .slice (some ad) len c') rs rfl
        · cases rs
          rw [hrun, (says _ _ _ rfl).zero rfl (Nat.le_refl _) happ]
          exact ResR.pure hR .nilSl rfl
        · trivial
      | false =>
        rw [cond_false]
        have hn0 := beq_false.1 hn0
        obtain ⟨w1, t1, s1⟩ := Cells.ofL_spec (replA n z.cells [])
        have hsz : (Cells.ofL (replA n z.cells [])).size = n * P.cellsOf e := by rw [s1, replA_eq]; simp [hzl]
        have hv := appendSeg_run hR hm says rs w1 (by omega) hsz (fun d => by
            obtain ⟨Z, z1, z2⟩ := zeroT_run hz φ { w with drawn := d }
            have hZ : Z.cells.size = P.cellsOf e := by rw [← hzl, z2.cells.length, Array.length_toList]
            have hr := repl_rel z2.cells n
            rw [hZ] at hr
            refine ⟨((Array.range (n * P.cellsOf e)).map (Z.cells[· % P.cellsOf e]!)).toList, ?_, by rw [t1]; exact hr⟩
            unfold zerosOf
            by_cases h00 : n * P.cellsOf e = 0
            · rw [if_pos h00, h00]
              simp
            · rw [if_neg h00, Sem.run_bind, z1, Result.andThen_ok, Array.toArray_toList]
              unfold Builtin.zeroCells
              rw [hZ]; rfl) hk hz hzl (.inl ⟨rfl, by omega⟩)
        rw [hrun]
        exact hv.res
  · trivial

end

end Go.Proofs.YtkgoachgmdkmjaaGreatDoor.Am

namespace Go.Proofs.YtkgoachgmdkmjaaGreatDoor.Am

theorem fieldPtr_depth (P : Program) : P.types.size + Made.depth = (P.types.size + 99) + 1 := rfl

section
variable {P : Program} {φ : Phi} {h : Hp} {w : World} {env : T AV} {a : Act} {o : Oper}

theorem op_lenArr (hR : HR P φ h w) (hE : EnvR φ env a.tmps) {c : Call} {x : Operand} {t : TypeId} {n : Nat} (hd : (∃ e, P.underlying t = some (.array n e)) ∨ ∃ b e, P.underlying t = some (.pointer b) ∧ P.underlying b = some (.array n e))
    (hc : c.callee = .builtin .len) (ha : c.args.toList = [x]) (htt : c.argTypes.toList = [t]) (ho : o.op = .call c) : ResR P φ h w (evalOp P (.lenArr n) env h) ((execOp a.eval o).run P w) := by
  have ha : c.args = #[x] := by rw [← Array.toArray_toList (xs := c.args), ha]
  have htt : c.argTypes = #[t] := by rw [← Array.toArray_toList (xs := c.argTypes), htt]
  refine ResR.pure hR (x := goInt n) (.int _ _) ?_
  rw [exec_builtin ho hc, ha, htt, show #[x].map a.eval = #[a.eval x] by simp]
  show (do pure (Next.value (← Builtin.len_ #[t] o.type #[a.eval x])) : Sem Next).run P w = _
  rcases hd with ⟨e, hd⟩ | ⟨b, e, hd, hb⟩
  · simp [Builtin.len_, run_underlying hd]
  · simp [Builtin.len_, run_underlying hd, run_underlying hb]

theorem op_cap (hR : HR P φ h w) (hE : EnvR φ env a.tmps) {c : Call} {x : Operand} {t e : TypeId} {x' : Opd} (hx : compOpd P x = some x') (hd : P.underlying t = some (.slice e)) (hc : c.callee = .builtin .cap) (ha : c.args.toList = [x]) (htt : c.argTypes.toList = [t])
    (ho : o.op = .call c) : ResR P φ h w (evalOp P (.cap x') env h) ((execOp a.eval o).run P w) := by
  have rx := opd_rel hR hE hx
  have ha : c.args = #[x] := by rw [← Array.toArray_toList (xs := c.args), ha]
  have htt : c.argTypes = #[t] := by rw [← Array.toArray_toList (xs := c.argTypes), htt]
  have hrun : (execOp a.eval o).run P w = (do pure (Next.value (← Builtin.cap_ #[t] o.type #[a.eval x])) : Sem Next).run P w := by
    rw [exec_builtin ho hc, ha, htt, show #[x].map a.eval = #[a.eval x] by simp]; rfl
  rw [hrun]
  unfold evalOp
  simp only
  split
  · rename_i e0
    rw [e0] at rx
    generalize hX : a.eval x = X at *
    cases rx
    exact ResR.pure hR (x := goInt 0) (.int _ _) (by simp [Builtin.cap_, run_underlying hd])
  · rename_i id g off len cap es e0
    rw [e0] at rx
    obtain ⟨ad, c', hX, _, _, _, k7⟩ := rel_slS rx
    have := k7 rfl
    subst this
    exact ResR.pure hR (x := goInt c') (.int _ _) (by simp [Builtin.cap_, run_underlying hd, hX])
  · trivial

theorem op_copy (hR : HR P φ h w) (hE : EnvR φ env a.tmps) {c : Call} {d s : Operand} {t e : TypeId} {r : List TypeId} {d' s' : Opd} (ht : elemOfSlice P t = some e) (hd : compOpd P d = some d') (hs : compOpd P s = some s')
    (hc : c.callee = .builtin .copy) (ha : c.args.toList = [d, s]) (htt : c.argTypes.toList = t :: r) (ho : o.op = .call c) :
    ResR P φ h w (evalOp P (.copy (P.cellsOf e) d' s') env h) ((execOp a.eval o).run P w) := by
  have rd := opd_rel hR hE hd
  have rs := opd_rel hR hE hs
  obtain ⟨hde, hk⟩ := elem_underlying ht
  have ha : c.args = #[d, s] := by rw [← Array.toArray_toList (xs := c.args), ha]
  have htt : c.argTypes = (t :: r).toArray := by rw [← Array.toArray_toList (xs := c.argTypes), htt]
  have hrun : (execOp a.eval o).run P w = (do pure (Next.value (← Builtin.copy_ (t :: r).toArray o.type #[a.eval d, a.eval s])) : Sem Next).run P w := by
    rw [exec_builtin ho hc, ha, htt, show #[d, s].map a.eval = #[a.eval d, a.eval s] by simp]; rfl
  rw [hrun]
  show ResR P φ h w (copyA h (P.cellsOf e) (ev env d') (ev env s')) _
  generalize hD : a.eval d = D at *
  generalize hS : a.eval s = S at *
  generalize ev env d' = dv at *
  generalize ev env s' = sv at *
  have hcopy : ∀ base dLen c0 m cells w', D = .slice base dLen c0 → (Builtin.lenOf S).run P w = .ok m w → (Builtin.firstCells (P.cellsOf e) (Nat.min m dLen) S).run P w = .ok cells w →
      (match base with | some ad => (storeCells ad cells.toList).run P w = .ok () w' | none => w' = w) →
      (do pure (Next.value (← Builtin.copy_ (t :: r).toArray o.type #[D, S])) : Sem Next).run P w = .ok (.value (goInt (Nat.min m dLen : Nat))) w' := by
    intro base dLen c0 m cells w' hDe hm hf hst
    subst hDe
    have h0 : (t :: r).toArray[0]? = some t := by simp
    simp only [Builtin.copy_, h0]
    simp only [Sem.run_bind, run_underlying hde, Result.andThen_ok, List.getElem?_toArray, List.getElem?_cons_zero, List.getElem?_cons_succ, hm, run_sizeOf' hk, hf]
    cases base with
    | none => simp only at hst; subst hst; simp
    | some ad => simp only at hst; simp [hst]
  unfold copyA
  split
  · rename_i m hm
    cases rd
    have hmr : ∃ m', (Builtin.lenOf S).run P w = .ok m' w := by
      unfold lenA at hm
      split at hm
      · obtain ⟨ad, c', rfl, _⟩ := rel_slS rs; exact ⟨_, rfl⟩
      · cases rs; exact ⟨_, rfl⟩
      · obtain ⟨s0, rfl, _⟩ := rel_str rs; exact ⟨_, rfl⟩
      · cases hm
    obtain ⟨m', hmr⟩ := hmr
    have hf : (Builtin.firstCells (P.cellsOf e) 0 S).run P w = .ok #[] w := by
      unfold lenA at hm
      split at hm
      · obtain ⟨ad, c', rfl, _⟩ := rel_slS rs
        simp only [Builtin.firstCells, Nat.zero_mul]
        exact run_loadCells_list w ad [] (fun j v e => by simp at e)
      · cases rs; rfl
      · obtain ⟨s0, rfl, _⟩ := rel_str rs
        simp [Builtin.firstCells]
      · cases hm
    have h0 : Nat.min m' 0 = 0 := Nat.min_zero m'
    refine ResR.pure hR (x := goInt 0) (.int _ _) ?_
    rw [hcopy none 0 0 m' #[] w rfl hmr (by rw [h0]; exact hf) rfl, h0]
    rfl
  · rename_i id g off len cap ex es' m hm
    obtain ⟨ad, c', rfl, k4, k5, k6, k7⟩ := rel_slS rd
    simp only [natK_eq]
    have hmin : (bif Nat.ble m len then m else len) = Nat.min m len := by
      by_cases q : m ≤ len
      · rw [ble_iff.2 q, cond_true]; exact (Nat.min_eq_left q).symm
      · rw [ble_false.2 (by omega), cond_false]; exact (Nat.min_eq_right (by omega)).symm
    rw [hmin]
    cases hb : (!(Nat.beq (P.cellsOf e) es')) with
    | true => trivial
    | false =>
      rw [cond_false]
      have hb : P.cellsOf e = es' := beq_iff.1 (by simpa using hb)
      subst hb
      cases hsrc : srcCells h (P.cellsOf e) (Nat.min m len) sv with
      | none => trivial
      | some seg =>
        simp only
        have hmr : (Builtin.lenOf S).run P w = .ok m w := by
          unfold lenA at hm
          split at hm
          · cases hm; obtain ⟨ad, c', rfl, _⟩ := rel_slS rs; rfl
          · cases hm; cases rs; rfl
          · cases hm; obtain ⟨s0, rfl, _, _, hn⟩ := rel_str rs; rw [← hn]; rfl
          · cases hm
        obtain ⟨xs, q1, q2, q3, q4⟩ := src_run hR rs hsrc ⟨m, hm, Nat.min_le_left _ _⟩
        have hlen : 0 < seg.size → 0 < len := by
          intro hp
          rcases q4 with q | q
          · rw [q] at hp
            rcases Nat.eq_zero_or_pos len with z | z
            · rw [z, show Nat.min m 0 = 0 from Nat.min_zero m] at hp; simp at hp
            · exact z
          · subst q
            simp only [srcCells, Option.some.injEq] at hsrc
            subst hsrc
            simp [Cells.size] at hp
        rcases rel_sl rd with ⟨ad', c2, b, s0, N, hX', k1, k2, k3, _, _, _, _, k8⟩ | ⟨ad', hX', z1, z2, z3⟩
        case inr =>
          have hz : seg.size = 0 := by
            rcases Nat.eq_zero_or_pos seg.size with q | q
            · exact q
            · have := hlen q; omega
          have hxs : xs = [] := by
            have : seg.toL.length = 0 := by rw [Cells.toL_length q3, hz]
            have := q2.length
            exact List.length_eq_zero_iff.1 (by omega)
          have e1 : writeN h id g off seg (fun h => Res.val (.int .i64 (.ofNat (Nat.min m len))) h) = .val (.int .i64 (.ofNat (Nat.min m len))) h := by
            unfold writeN
            rw [beq_iff.2 hz]; rfl
          rw [e1]
          subst hxs
          exact ⟨_, goInt (Nat.min m len : Nat), w, φ, hcopy (some ad) len c' m (([] : List Value).toArray) w rfl hmr q1 (by show (storeCells ad []).run P w = _; unfold storeCells; rfl), .inl rfl, hR, Adv.refl h w φ, .int _ _⟩
        cases hX'
        rcases writeN_run hR (k := fun h => .val (.int .i64 (.ofNat (Nat.min m len))) h) k1 k2 k3 (fun hp => (k8 (by have := hlen hp; omega)).1) q3 q2 with ⟨why, e1⟩ | ⟨h', w', e1, p1, p2, p3⟩
        · rw [e1]; trivial
        · rw [e1]
          exact ⟨_, goInt (Nat.min m len : Nat), w', φ, hcopy (some ad) len c' m xs.toArray w' rfl hmr q1 (by simpa using p1), .inl rfl, p2, p3, .int _ _⟩
  · trivial

theorem op_minmax (hR : HR P φ h w) (hE : EnvR φ env a.tmps) {c : Call} {x y : Operand} {x' y' : Opd} (mx : Bool) (hx : compOpd P x = some x') (hy : compOpd P y = some y') (hc : c.callee = .builtin (if mx then .max else .min)) (ha : c.args.toList = [x, y]) (ho : o.op = .call c) :
    ResR P φ h w (evalOp P (if mx then .bmax x' y' else .bmin x' y') env h) ((execOp a.eval o).run P w) := by
  have rx := opd_rel hR hE hx
  have ry := opd_rel hR hE hy
  have ha : c.args = #[x, y] := by rw [← Array.toArray_toList (xs := c.args), ha]
  have hrun : (execOp a.eval o).run P w = (do pure (Next.value (← (if mx then Builtin.max_ c.argTypes o.type #[a.eval x, a.eval y] else Builtin.min_ c.argTypes o.type #[a.eval x, a.eval y]))) : Sem Next).run P w := by
    rw [exec_builtin ho hc, ha, show #[x, y].map a.eval = #[a.eval x, a.eval y] by simp]
    cases mx <;> rfl
  rw [hrun]
  generalize hX : a.eval x = X at *
  generalize hY : a.eval y = Y at *
  cases mx
  · unfold evalOp
    simp only [Bool.false_eq_true, if_false]
    split
    · rename_i k u k' v e1 e2
      rw [e1] at rx; rw [e2] at ry
      cases rx; cases ry
      refine ResR.pure hR (x := .int k (if v < u then v else u)) ?_ (by simp [Builtin.min_, Builtin.min2])
      rw [cmpA_eq]
      by_cases c1 : v < u
      · rw [if_pos c1, if_pos c1]; exact .int _ _
      · rw [if_neg c1, if_neg c1]
        by_cases c2 : v = u <;> simp only [c2, if_true, if_false] <;> exact .int _ _
    · trivial
  · unfold evalOp
    simp only [if_true]
    split
    · rename_i k u k' v e1 e2
      rw [e1] at rx; rw [e2] at ry
      cases rx; cases ry
      refine ResR.pure hR (x := .int k (if v > u then v else u)) ?_ (by simp [Builtin.max_, Builtin.max2])
      rw [cmpA_eq]
      by_cases c1 : v < u
      · rw [if_pos c1, if_neg (by omega)]; exact .int _ _
      · rw [if_neg c1]
        by_cases c2 : v = u
        · rw [if_pos c2, if_neg (by omega)]; exact .int _ _
        · rw [if_neg c2, if_pos (by omega)]; exact .int _ _
    · trivial

theorem op_assertT (hR : HR P φ h w) (hE : EnvR φ env a.tmps) {t xt : TypeId} {d : TypeDesc} {z : AV} {ok : Bool} {x : Operand} {x' : Opd} (hx : compOpd P x = some x') (hd : P.underlying t = some d) (hi : ∀ ms, d ≠ .interface ms) (hz : zeroT P t = some z)
    (ho : o.op = .typeAssert x xt t ok) : ResR P φ h w (evalOp P (.assertT t z ok x') env h) ((execOp a.eval o).run P w) := by
  have rx := opd_rel hR hE hx
  obtain ⟨Z, z1, z2⟩ := zeroT_run hz φ w
  have hrun : (execOp a.eval o).run P w = (do pure (Next.value (← Instr.typeAssert (a.eval x) xt t ok)) : Sem Next).run P w := by
    simp only [execOp, ho]
  rw [hrun]
  generalize hX : a.eval x = X at *
  unfold evalOp
  simp only
  split
  · rename_i t' v e
    rw [e] at rx
    cases rx with
    | ifc hv =>
      rename_i xv
      cases hb : Nat.beq t t' with
      | true =>
        have hb := beq_iff.1 hb
        subst hb
        rw [cond_true]
        cases ok
        · refine ResR.pure hR hv ?_
          cases d <;> first | (exact absurd rfl (hi _)) | simp [Instr.typeAssert, run_underlying hd]
        · refine ResR.pure hR (x := .tuple #[xv, .bool true]) (.tup (.cons hv (.cons (.bool true) .nil))) ?_
          cases d <;> first | (exact absurd rfl (hi _)) | simp [Instr.typeAssert, run_underlying hd]
      | false =>
        have hb : ¬ t' = t := fun q => beq_false.1 hb q.symm
        rw [cond_false]
        cases ok
        · trivial
        · refine ResR.pure hR (x := .tuple #[Z, .bool false]) (.tup (.cons z2 (.cons (.bool false) .nil))) ?_
          cases d <;> first | (exact absurd rfl (hi _)) | simp [Instr.typeAssert, run_underlying hd, hb, z1]
  · rename_i e
    rw [e] at rx
    cases rx
    cases ok
    · trivial
    · refine ResR.pure hR (x := .tuple #[Z, .bool false]) (.tup (.cons z2 (.cons (.bool false) .nil))) ?_
      cases d <;> first | (exact absurd rfl (hi _)) | simp [Instr.typeAssert, run_underlying hd, z1]
  · trivial

theorem callFunc_run {f : FuncId} {fn : Func} {c : Code} (hf : P.funcs[f]? = some fn) (hb : fn.body = some c) (hn : (fn.name == "runtime.NumGoroutine") = false) (xs : Array Value) :
    (callFunc f xs).run P w = .ok (.enter f xs) w := by
  unfold callFunc
  simp only [Sem.run_bind, run_program, Result.andThen_ok, hf, hn, hb, Bool.false_eq_true, if_false, Option.isNone_some, Sem.run_pure]

theorem enter_run {f : FuncId} {args : List AV} {xs : Array Value} (hxs : RelL φ args xs.toList) : ResR P φ h w (enterA P h f args) ((callFunc f xs).run P w) := by
  unfold enterA
  split
  · rename_i fn hf
    split
    · rename_i c hc
      cases hn : (fn.name == "runtime.NumGoroutine") with
      | true => trivial
      | false =>
        rw [cond_false, callFunc_run hf hc hn]
        exact ⟨rfl, xs, fn, c, rfl, hf, hc, hxs⟩
    · trivial
  · trivial

theorem callExt_run {f : FuncId} {fn : Func} (hf : P.funcs[f]? = some fn) (hb : fn.body = none) (hn : (fn.name == "runtime.NumGoroutine") = false) {e : Array Value → Sem Value} (h1 : Extern.findNext fn = none) (h2 : Extern.find fn = some e) (xs : Array Value) :
    (callFunc f xs).run P w = ((e xs).run P w).andThen fun v w' => .ok (.value v) w' := by
  unfold callFunc
  simp only [Sem.run_bind, run_program, Result.andThen_ok, hf, hn, hb, Bool.false_eq_true, if_false, Option.isNone_none, if_true, run_mark, h1, h2]
  rfl

theorem find_clone {fn : Func} (h : fn.name = "maps.clone") (ho : fn.origin = "") : Extern.findNext fn = none ∧ Extern.find fn = some Extern.MapsClone.clone := by
  unfold Extern.findNext Extern.find
  rw [h, ho]
  exact ⟨rfl, rfl⟩

theorem call_run (hR : HR P φ h w) (hm : Room h) {f : FuncId} {args : List AV} {xs : Array Value} (hxs : RelL φ args xs.toList) : ResR P φ h w (callA P h f args) ((callFunc f xs).run P w) := by
  unfold callA
  split
  · rename_i fn hf
    split
    · exact enter_run hxs
    · rename_i hb
      cases hn : (fn.name == "runtime.NumGoroutine") with
      | true => trivial
      | false =>
        rw [cond_false]
        unfold extA
        cases hc : (fn.name == "maps.clone" && fn.origin == "") with
        | false => trivial
        | true =>
          rw [cond_true]
          rw [Bool.and_eq_true] at hc
          obtain ⟨h1, h2⟩ := find_clone (eq_of_beq hc.1) (eq_of_beq hc.2)
          rw [callExt_run hf hb hn h1 h2]
          split
          · rename_i t id
            split
            · rename_i ser es clock hid
              obtain ⟨b, d, n0, E, clk, e1, e2, e3⟩ := hR.blk _ _ hid
              have hx : xs = #[.iface t (.map (some b))] := by
                obtain ⟨l⟩ := xs
                cases hxs with
                | cons hx ht =>
                  cases ht
                  cases hx with
                  | ifc hx => cases hx with
                    | map hφ => rw [e1] at hφ; cases hφ; rfl
              subst hx
              rw [newK_eq]
              have hν : ∀ j, (φ.row h.next fun j => (φ id j).map fun r => (w.heap.size, r.2)) h.next j = (φ id j).map fun r => (w.heap.size, r.2) := fun j => Phi.row_same _ _ _ j
              have u := Upd.allocRow hR hm (.map E clk) (fun j => (φ id j).map fun r => (w.heap.size, r.2)) fun g r k => by
                cases hg : φ id g with
                | none => rw [hg] at k; cases k
                | some r0 => rw [hg] at k; cases k; rfl
              have h0 : (φ.row h.next fun j => (φ id j).map fun r => (w.heap.size, r.2)) h.next 0 = some (w.heap.size, d, n0) := by rw [hν, e1]; rfl
              refine ⟨_, .iface t (.map (some w.heap.size)), w.alloc (.map E clk), _, ?_, .inl rfl, hR.update (ser := Nat.succ h.ser) u (.inl ⟨Nat.le_refl _, by rw [Pos.num_succ]; omega, hR.next_none hm⟩) fun x hx => ?_, Adv.update hR u (.inl ⟨Nat.le_refl _, by rw [Pos.num_succ]; omega, hR.next_none hm⟩), .ifc (.map h0)⟩
              · have hg : (getObj b).run P w = .ok (.map E clk) w := by simp only [getObj, Sem.run, e2]
                have key : (Extern.MapsClone.clone #[.iface t (.map (some b))]).run P w = .ok (.iface t (.map (some w.heap.size))) (w.alloc (.map E clk)) := by
                  show Sem.run P (getObj b >>= _) w = _
                  rw [Sem.run_bind, hg, Result.andThen_ok]
                  rfl
                rw [key]; rfl
              · cases hx
                exact ⟨w.heap.size, d, n0, E, clk, h0, alloc_new _ _, e3.copy u.le hν⟩
            · trivial
          · trivial
  · trivial

theorem op_callV (hR : HR P φ h w) (hE : EnvR φ env a.tmps) (hm : Room h) {c : Call} {f : Operand} {f' : Opd} {l : List Opd} (hf : compOpd P f = some f') (hl : mapO (compOpd P) c.args.toList = some l) (hc : c.callee = .value f) (ho : o.op = .call c) :
    ResR P φ h w (evalOp P (.call (.value f') l) env h) ((execOp a.eval o).run P w) := by
  have rf := opd_rel hR hE hf
  have rl := opds_rel hR hE hl
  have hrun : (execOp a.eval o).run P w = (do let d ← Deferred.ofValue (a.eval f) (c.args.map a.eval); invoke d.target d.args : Sem Next).run P w := by
    simp only [execOp, ho, resolve, hc]
  rw [hrun]
  unfold evalOp
  simp only
  generalize hF : a.eval f = F at *
  split
  · rename_i g first captured e
    rw [e] at rf
    cases rf with
    | fn h1 h2 =>
      rename_i X Y
      show ResR P φ h w _ ((callFunc g ((X ++ c.args.map a.eval) ++ Y)).run P w)
      refine call_run hR hm ?_
      simp only [Array.toList_append, Array.toList_map, List.append_assoc]
      exact h1.append (rl.append h2)
  · rename_i id e
    rw [e] at rf
    cases rf with
    | yield hφ =>
      refine ⟨_, c.args.map a.eval, hφ, by simpa using rl, ?_⟩
      show (Instr.yield _ (#[] ++ c.args.map a.eval)).run P w = _
      rw [Array.empty_append]
  · trivial

theorem recv_run {t : TypeId} {ptr : Bool} {xv : Value} {wr : Option String} (hr : recvOk (P.underlying t) ptr = true) : (receiverAt t (.val xv) ptr wr).run P w = .ok xv w := by
  cases hd : P.underlying t with
  | none => rw [hd] at hr; cases hr
  | some d =>
    rw [hd] at hr
    unfold receiverAt
    cases d <;> cases ptr <;> first | (cases hr; done) | simp [run_underlying hd, Place.get]

theorem op_invoke (hR : HR P φ h w) (hE : EnvR φ env a.tmps) (hroom : Room h) {c : Call} {r : Operand} {name : String} {r' : Opd} {l : List Opd} (hr : compOpd P r = some r') (hl : mapO (compOpd P) c.args.toList = some l) (hc : c.callee = .invoke r name) (ho : o.op = .call c) :
    ResR P φ h w (evalOp P (.call (.invoke r' name) l) env h) ((execOp a.eval o).run P w) := by
  have rr := opd_rel hR hE hr
  have rl := opds_rel hR hE hl
  unfold evalOp
  simp only
  split
  · rename_i t v e
    rw [e] at rr
    generalize hX : a.eval r = X at *
    cases rr with
    | ifc hv =>
      rename_i xv
      cases hm : methodOf P t name with
      | none => trivial
      | some f =>
        simp only
        have hmr : (method (P.types.size + Made.depth) t xv name).run P w = .ok (f, xv) w := by
          unfold methodOf at hm
          split at hm
          · rename_i i hi
            split at hm
            · rename_i m hfind
              cases hp : m.path.isEmpty with
              | false => rw [hp] at hm; cases hm
              | true =>
                rw [hp, cond_true] at hm
                have hpl : m.path.toList = [] := by simpa using hp
                split at hm
                · rename_i g ptr hg
                  cases hrc : recvOk (P.underlying t) ptr with
                  | false => rw [hrc] at hm; cases hm
                  | true =>
                    rw [hrc, cond_true, Option.some.injEq] at hm
                    subst hm
                    rw [fieldPtr_depth]
                    unfold method
                    simp only [Sem.run_bind, run_typeInfo w hi, Result.andThen_ok, hfind, hpl, follow, Sem.run_pure, hg, recv_run hrc]
                · cases hm
            · cases hm
          · cases hm
        have hrun : (execOp a.eval o).run P w = (callFunc f (#[xv] ++ c.args.map a.eval)).run P w := by
          have h0 : (#[Value.iface t xv] ++ c.args.map a.eval)[0]? = some (.iface t xv) := by simp [Array.getElem?_append]
          have he : (#[Value.iface t xv] ++ c.args.map a.eval).extract 1 (#[Value.iface t xv] ++ c.args.map a.eval).size = c.args.map a.eval := by
            apply Array.toList_inj.1
            simp only [Array.toList_extract, List.extract_eq_take_drop, Array.toList_append, Array.toList_map, Array.size_append, Array.size_map]
            exact List.take_of_length_le (by simp)
          simp only [execOp, ho, resolve, hc, hX, Sem.run_bind, Sem.run_pure, Result.andThen_ok, invoke, h0, he, callMethod, run_program, hmr]
        rw [hrun]
        refine call_run hR hroom ?_
        simp only [Array.toList_append, Array.toList_map, List.singleton_append]
        exact .cons hv rl
  · trivial

end

end Go.Proofs.YtkgoachgmdkmjaaGreatDoor.Am

namespace Go.Proofs.YtkgoachgmdkmjaaGreatDoor.Am

section
variable {P : Program} {φ : Phi} {h : Hp} {w : World} {X : Value} {v : AV}

/-- A cell that can be read lies in a row. -/
theorem read1_row (hR : HR P φ h w) {id : Pos} {g off b : Nat} {s : Int} {n : Nat} {v : AV} {a : Addr} (hr : read1 h id g off = some v) (hφ : φ id g = some (b, s, n)) (hb : a.block = b) (ho : (a.off : Int) = off + s) :
    ∃ el cells, w.shape? a.block = some (el, cells) ∧ a.off < cells := by
  unfold read1 at hr
  split at hr
  · rename_i ser c' lo hi g' m ro fz hid
    cases hse : seeable c' lo hi g' m g off 1 with
    | false => rw [hse] at hr; cases hr
    | true =>
      obtain ⟨_, C, el, fr, e1, e2, e3⟩ := seen hR hid hφ hse
      obtain ⟨o, _, x, q1, _, q3, _⟩ := e3 0 (by omega)
      have hlt := (Array.getElem?_eq_some_iff.1 q3).1
      refine ⟨el, C.size, by unfold World.shape?; rw [hb, e1], ?_⟩
      have : a.off = o := by omega
      omega
  · cases hr

theorem toUnsafe_run (hR : HR P φ h w) {env : T AV} {x' : Opd} (rx : Rel φ (ev env x') X) {s d t : TypeId} (hs : P.underlying s = some (.pointer t)) (hd : P.underlying d = some .unsafePointer) (hk : okT P t = true) (h0 : 0 < P.cellsOf t) :
    ResR P φ h w (evalOp P (.toUnsafe x') env h) ((do pure (Next.value (← convert s d X)) : Sem Next).run P w) := by
  obtain ⟨i, hi, hi1, _⟩ := okT_info hk
  unfold evalOp
  simp only
  split
  · rename_i e
    rw [e] at rx
    cases rx
    exact ResR.pure hR .nilPtr (by simp [convert, run_underlying hs, run_underlying hd, Conv.unsafePointer])
  · rename_i id g off e
    rw [e] at rx
    split
    · rename_i v hr
      obtain ⟨a, b, s', n, rfl, k1, k2, k3, k4⟩ := rel_ptr rx
      obtain ⟨el, cells, q1, q2⟩ := read1_row hR hr k1 k2 k4
      refine ResR.pure hR rx ?_
      have := Lib.run_to_unsafe (P := P) w a hs hd hi (by omega) q1 q2
      rw [Sem.run_bind, this]
      rfl
    · trivial
  · trivial

/-- One variable lies at the head of its own row. -/
theorem liesAt_self {u : TypeId} (h0 : 0 < P.cellsOf u) : liesAt P P.depth u 1 0 u 1 = true := by
  have hd : P.depth = (2 * (P.types.size + Made.depth) + 1) + 1 := rfl
  rw [hd]
  simp only [liesAt, Bool.or_eq_true]
  left
  rw [hd]
  have : P.cellsOf u ≠ 0 := by omega
  simp [rowAt, this, sameLayout]

theorem fromUnsafe_run (hR : HR P φ h w) {env : T AV} {x' : Opd} (rx : Rel φ (ev env x') X) {s d u : TypeId} (hs : P.underlying s = some .unsafePointer) (hd : P.underlying d = some (.pointer u)) (hk : okT P u = true) (h0 : 0 < P.cellsOf u) :
    ResR P φ h w (evalOp P (.fromUnsafe u x') env h) ((do pure (Next.value (← convert s d X)) : Sem Next).run P w) := by
  obtain ⟨i, hi, hi1, _⟩ := okT_info hk
  unfold evalOp
  simp only
  split
  · rename_i e
    rw [e] at rx
    cases rx
    exact ResR.pure hR .nilPtr (by simp [convert, run_underlying hs, run_underlying hd, Conv.unsafePointer])
  · rename_i id g off e
    rw [e] at rx
    cases ho : Nat.beq off 0 with
    | false => trivial
    | true =>
      have ho := beq_iff.1 ho
      subst ho
      rw [cond_true]
      split
      · rename_i note c lo hi g' m ro fz hid
        cases hb : (Nat.beq note (Nat.succ (Nat.succ u)) && Nat.beq g g') with
        | false => trivial
        | true =>
          rw [Bool.and_eq_true] at hb
          have h1 := beq_iff.1 hb.1
          have h2 := beq_iff.1 hb.2
          subst h1 h2
          obtain ⟨a, b, s', n, rfl, k1, k2, k3, k4⟩ := rel_ptr rx
          obtain ⟨⟨_, c2, _, _, _, c5⟩, ty⟩ := hR.blk _ _ hid
          obtain ⟨b', s2, n2, C, el, fr, e1, e2, e3, _, _⟩ := c5 g c2 (Nat.le_refl _)
          rw [k1] at e1
          cases e1
          rcases ty g _ _ _ _ _ _ c2 (Nat.le_refl _) k1 e2 with q | ⟨q, _⟩ | ⟨u', q1, q2, q3, q4⟩
          · cases q
          · cases q
          · have : u' = u := by have : u + 2 = u' + 2 := q1; omega
            subst this
            subst q2
            refine ResR.pure hR rx ?_
            have hoff : a.off = 0 := by omega
            have hsz : C.size / P.cellsOf el = 1 := by rw [e3, q4]; exact Nat.div_self h0
            have := Lib.run_from_unsafe (P := P) w a hs hd hi (e := el) (cells := C.size) (by unfold World.shape?; rw [k2, e2]) (by rw [hsz, hoff]; exact liesAt_self h0)
            rw [Sem.run_bind, this]
            rfl
      · trivial
  · trivial
end
end Go.Proofs.YtkgoachgmdkmjaaGreatDoor.Am

namespace Go.Proofs.YtkgoachgmdkmjaaGreatDoor.Am

theorem freeze_push (w : World) (C : Array Value) (el : TypeId) (n : Nat) (hn : C.size = n) :
    ({ w with heap := w.heap.push (.cells C el) } : World).freeze { block := w.heap.size, off := n } 1 = w.alloc (.cells C el (n, n + 1)) := by
  unfold World.freeze World.alloc
  rw [if_neg (by decide)]
  congr 1
  apply Array.ext_getElem?
  intro i
  simp only [Array.getElem?_modify, Array.getElem?_push]
  by_cases e : w.heap.size = i
  · subst e
    simp
  · have e' : ¬ i = w.heap.size := fun q => e q.symm
    rw [if_neg e, if_neg e', if_neg e']

theorem pushAll (ls : List UInt8) (s : ByteArray) : (ls.foldl (fun s b => s.push b) s).data.toList = s.data.toList ++ ls := by
  induction ls generalizing s with
  | nil => simp
  | cons b l ih => rw [List.foldl_cons, ih]; simp [ByteArray.push]

theorem bytes_loop {P : Program} (w : World) (why : String) (ls : List UInt8) (s : ByteArray) :
    (forIn (m := Sem) (ls.map fun b => Value.int .u8 b.toNat) s fun c s => do
      match c with
      | Value.int IntKind.u8 n => pure (ForInStep.yield (s.push (UInt8.ofNat n.toNat)))
      | _ => do
        stuck why
        pure (ForInStep.yield s)).run P w = .ok (ls.foldl (fun s b => s.push b) s) w := by
  induction ls generalizing s with
  | nil => simp
  | cons b l ih =>
    simp only [List.map_cons, List.forIn_cons, Sem.run_bind, Sem.run_pure, Result.andThen_ok, List.foldl_cons]
    rw [show UInt8.ofNat ((b.toNat : Int)).toNat = b by simp]
    exact ih (s.push b)

theorem bytes_run {P : Program} {w : World} {ad : Addr} {len c : Nat} {xs : List Value} {ls : List UInt8} (h : (loadCells ad len).run P w = .ok xs.toArray w) (hx : xs = ls.map fun b => Value.int .u8 b.toNat) :
    (Conv.bytesToString (.slice (some ad) len c)).run P w = .ok (.string ⟨ls.toArray⟩) w := by
  subst hx
  unfold Conv.bytesToString
  simp only [Sem.run_bind, h, Result.andThen_ok]
  rw [← Array.forIn_toList, show (List.map (fun b => Value.int IntKind.u8 (b.toNat : Int)) ls).toArray.toList = List.map (fun b => Value.int IntKind.u8 (b.toNat : Int)) ls by simp]
  refine (congrArg (fun r => Result.andThen r fun a w' => Sem.run P (pure (Value.string a)) w') (bytes_loop (P := P) w _ ls .empty)).trans ?_
  simp only [Result.andThen_ok, Sem.run_pure]
  congr 2
  have := pushAll ls .empty
  apply ByteArray.ext
  apply Array.toList_inj.1
  rw [this]
  simp

theorem relL_bytes {φ : Phi} {ls : List UInt8} {xs : List Value} (h : RelL φ (ls.map fun b => byteV b.toNat) xs) : xs = ls.map fun b => Value.int .u8 b.toNat := by
  induction ls generalizing xs with
  | nil => cases h; rfl
  | cons b l ih =>
    cases h with
    | cons h t =>
      cases h
      rw [ih t]; rfl

section
variable {P : Program} {φ : Phi} {h : Hp} {w : World} {env : T AV} {a : Act} {o : Oper}

theorem op_mkSl (hR : HR P φ h w) (hE : EnvR φ env a.tmps) (hm : Room h) {t e : TypeId} {z : AV} {l c : Operand} {l' c' : Opd} (ht : elemOfSlice P t = some e) (hz : zeroT P e = some z) (hzl : z.cells.length = P.cellsOf e) (hl : compOpd P l = some l') (hc : compOpd P c = some c')
    {bytes : Nat} (hB : BytesOk P e bytes) (ho : o.op = .makeSlice t l c) : ResR P φ h w (evalOp P (.mkSl (P.cellsOf e) bytes z.cells l' c') env h) ((execOp a.eval o).run P w) := by
  have rl := opd_rel hR hE hl
  have rc := opd_rel hR hE hc
  obtain ⟨hd, hk⟩ := elem_underlying ht
  obtain ⟨i, hi, hi1, hi2⟩ := okT_info hk
  obtain ⟨Z, z1, z2⟩ := zeroT_run hz φ w
  have hZ : Z.cells.size = P.cellsOf e := by rw [← hzl, z2.cells.length, Array.length_toList]
  have hrun : (execOp a.eval o).run P w = (do pure (Next.value (← Instr.makeSlice t (a.eval l) (a.eval c))) : Sem Next).run P w := by
    simp only [execOp, ho]
  rw [hrun]
  unfold evalOp
  simp only
  generalize hL : a.eval l = L at *
  generalize hC : a.eval c = Cc at *
  split
  · rename_i k m k' n e1 e2
    rw [e1] at rl; rw [e2] at rc
    cases rl; cases rc
    cases hb : (Nat.ble m n && okSize n bytes && Nat.blt 0 (P.cellsOf e)) with
    | false => trivial
    | true =>
      simp only [Bool.and_eq_true] at hb
      obtain ⟨⟨b1, b23⟩, b4⟩ := hb
      obtain ⟨b2, b3, b3'⟩ := hB.size b23
      have b1 := ble_iff.1 b1
      have b4 := blt_iff.1 b4
      rw [cond_true]
      have hrep := repl_rel z2.cells n
      rw [hZ] at hrep
      refine ResR.newSlN (noteB bytes) hR hm hrep e hB.noteB b1 (by simp) ?_
      have hw1 : IntKind.i64.wrap (Int.ofNat m) = (m : Int) := wrap_i64 (n := (m : Int)) (by omega) (by omega)
      have hw2 : IntKind.i64.wrap (Int.ofNat n) = (n : Int) := wrap_i64 (n := (n : Int)) (by omega) (by omega)
      have hbytes : ¬ ((i.bytes : Int) * (n : Int) > 2 ^ 48) := by
        rw [hi2]
        have h3 : P.bytesOf e * n ≤ 140737488355328 := by rw [Nat.mul_comm]; exact b3
        have h4 : ((P.bytesOf e * n : Nat) : Int) ≤ ((140737488355328 : Nat) : Int) := Int.ofNat_le.2 h3
        rw [Int.natCast_mul] at h4
        omega
      have hcond : (((n : Int) < 0 || (i.bytes : Int) * (n : Int) > 2 ^ 48) || (m : Int) < 0 || (m : Int) > (n : Int)) = false := by
        simp only [Bool.or_eq_false_iff, decide_eq_false_iff_not]
        exact ⟨⟨⟨by omega, hbytes⟩, by omega⟩, by omega⟩
      unfold Instr.makeSlice
      simp only [asInt, asIntOf, Sem.run_bind, Sem.run_pure, Result.andThen_ok, run_underlying hd, run_typeInfo w hi, hw1, hw2, hcond, Bool.false_eq_true, if_false, run_askRoom, Int.toNat_natCast, run_sizeOf' hk]
      by_cases h0 : n * P.cellsOf e = 0
      · rw [if_pos h0]
        have hr : ∀ f : Nat → Value, (Array.range 0).map f = #[] := fun f => by simp
        simp only [Sem.run_pure, Result.andThen_ok, h0, hr, newRow, Sem.run_bind, run_newObj, Array.toArray_toList]
        rfl
      · rw [if_neg h0]
        simp only [Sem.run_bind, Sem.run_pure, z1, Result.andThen_ok, hZ, newRow, run_newObj, Array.toArray_toList]
        rfl
  · trivial

theorem op_conv (hR : HR P φ h w) (hE : EnvR φ env a.tmps) (hm : Room h) {s d : TypeId} {x : Operand} {x' : Opd} {ao : AOp} (hx : compOpd P x = some x') (hc : compConv P s d x' = some ao) (ho : o.op = .convert s d x) :
    ResR P φ h w (evalOp P ao env h) ((execOp a.eval o).run P w) := by
  have rx := opd_rel hR hE hx
  have hrun : (execOp a.eval o).run P w = (do pure (Next.value (← convert s d (a.eval x))) : Sem Next).run P w := by
    simp only [execOp, ho]
  rw [hrun]
  generalize hX : a.eval x = X at *
  unfold compConv at hc
  split at hc
  · rename_i k0 k hs hd
    cases hc
    unfold evalOp
    simp only
    split
    · rename_i k' n e
      rw [e] at rx
      cases rx
      rw [intK_eq, wrapA_eq]
      exact ResR.pure hR (.int _ _) (by simp [convert, run_underlying hs, run_underlying hd, Conv.intToInt])
    · trivial
  · rename_i hs hd
    cases hc
    unfold evalOp
    simp only
    split
    · rename_i n v e
      rw [e] at rx
      obtain ⟨str, rfl, q1, q2, q3⟩ := rel_str rx
      exact ResR.pure hR rx (by simp [convert, run_underlying hs, run_underlying hd])
    · trivial
  · rename_i e hs hd
    split at hc
    · rename_i he
      cases hb : (Nat.beq (P.cellsOf e) 1 && okT P e) with
      | false => rw [hb] at hc; cases hc
      | true =>
        rw [hb, cond_true, Option.some.injEq] at hc
        subst hc
        unfold evalOp
        simp only
        split
        · rename_i n v ev
          rw [ev] at rx
          obtain ⟨str, rfl, q1, q2, q3⟩ := rel_str rx
          cases hn : Nat.ble n 1073741824 with
          | false => trivial
          | true =>
            rw [cond_true, newK_eq]
            obtain ⟨cp, hcp, hcr⟩ := appendCap_run (P := P) (w := w) str.size 0 e
            have hxs : RelL φ (bytesL n v) (str.data.toList.map fun b => Value.int .u8 b.toNat) := by
              rw [bytesL_eq, q1]
              refine RelL.of_get (by simp) fun i v x hv hx => ?_
              rw [List.getElem?_map] at hv hx
              cases hu : (unpack n _)[i]? with
              | none => rw [hu] at hv; cases hv
              | some u =>
                rw [hu, Option.map_some, Option.some.injEq] at hv hx
                subst hv; subst hx
                exact .int _ _
            obtain ⟨n1, n2⟩ := newCells_run (hR.drew (w.drawn + 1)) hm (c := .byt n v) (xs := str.data.toList.map fun b => Value.int .u8 b.toNat) (spare := List.replicate (cp - str.size) (.int .u8 0)) q2 hxs e
              (cp, cp + 1) true (by unfold Thawed; rw [if_pos rfl]; left; simp; omega) 0 (Nat.succ h.ser) (.inl rfl)
            refine ⟨_, .slice (some ⟨w.heap.size, 0, none⟩) str.size cp, _, _, ?_, .inl rfl, n1, (Adv.drew h w φ _).trans hR n2 (hm.was (by simp only [Pos.num_succ]; omega)), ?_⟩
            · simp only [convert, Sem.run_bind, run_underlying hs, run_underlying hd, Result.andThen_ok, run_underlying he, Conv.stringToBytes, hcr, newRow, run_newObj, Sem.run_pure, markStringish, run_shape]
              have hsz : (str.data.map (fun b => Value.int .u8 b.toNat) ++ Array.replicate (cp - str.size) (Value.int .u8 0)).size = cp := by
                simp; omega
              simp only [World.shape?, Array.getElem?_push_size, hsz, run_freeze, Result.andThen_ok]
              have hfz := freeze_push { w with drawn := w.drawn + 1 } (str.data.map (fun b => Value.int .u8 b.toNat) ++ Array.replicate (cp - str.size) (Value.int .u8 0)) e cp hsz
              have e3 : (str.data.toList.map (fun b => Value.int .u8 b.toNat) ++ List.replicate (cp - str.size) (Value.int .u8 0)).toArray = str.data.map (fun b => Value.int .u8 b.toNat) ++ Array.replicate (cp - str.size) (Value.int .u8 0) := by
                simp
              rw [e3]
              exact congrArg _ hfz
            · have e4 : n = str.size := q3.symm
              rw [e4]
              refine .sl (Phi.put_same _ _ _ _) rfl rfl hcp hcp (Nat.le_refl _) (fun q => by cases q) fun _ => ⟨rfl, ?_⟩
              simp only [List.length_append, List.length_map, List.length_replicate, Array.length_toList]
              show 0 + cp * 1 ≤ str.size + (cp - str.size)
              omega
        · trivial
    · cases hc
  · rename_i e hs hd
    split at hc
    · rename_i he
      cases hc
      unfold evalOp
      simp only
      split
      · rename_i ev
        rw [ev] at rx
        cases rx
        refine ResR.pure hR (x := .string .empty) (.str rfl (by simp)) ?_
        simp [convert, run_underlying hs, run_underlying hd, run_underlying he, Conv.bytesToString]
      · rename_i id g off len cap ex es ev
        rw [ev] at rx
        obtain ⟨ad, c', rfl, k4, _⟩ := rel_slS rx
        have hcv : (convert s d (.slice (some ad) len c')).run P w = (Conv.bytesToString (.slice (some ad) len c')).run P w := by
          simp [convert, run_underlying hs, run_underlying hd, run_underlying he]
        have hdo : ∀ str, (Conv.bytesToString (.slice (some ad) len c')).run P w = .ok (.string str) w →
            (do pure (Next.value (← convert s d (.slice (some ad) len c'))) : Sem Next).run P w = .ok (.value (.string str)) w := by
          intro str q
          rw [Sem.run_bind, hcv, q]; rfl
        cases hl0 : Nat.beq len 0 with
        | true =>
          have hl0 := beq_iff.1 hl0
          subst hl0
          rw [cond_true]
          refine ResR.pure hR (x := .string .empty) (.str rfl (by simp)) (hdo _ ?_)
          have := run_loadCells_list (P := P) w ad [] (fun j v e => by simp at e)
          exact bytes_run (ls := []) this rfl
        | false =>
          rw [cond_false]
          have hl0 := beq_false.1 hl0
          rcases rel_sl rx with ⟨ad', c2, b, s0, N, hX', k1, k2, k3, _, _, _, _, k8⟩ | ⟨_, _, z, _, _⟩
          case inr => exact absurd z hl0
          cases hX'
          obtain ⟨q1, _⟩ := k8 (by omega)
          cases hes : Nat.beq es 1 with
          | false => trivial
          | true =>
            rw [cond_true]
            cases hr : readN h id g off len with
            | none => trivial
            | some c =>
              obtain ⟨xs, r1, r2, r3, r4⟩ := readN_run hR hr k1 k2 k3 (fun _ => q1)
              have key : ∀ n v, v < 256 ^ n → bytesL n v = c.toL → (Conv.bytesToString (.slice (some ad) len c')).run P w = .ok (.string ⟨(unpack n v).toArray⟩) w := by
                intro n v hv he2
                rw [← he2] at r2
                refine bytes_run r1 ?_
                rw [bytesL_eq] at r2
                exact relL_bytes r2
              cases c with
              | byt n v =>
                simp only [natK_eq]
                exact ResR.pure hR (x := .string ⟨(unpack n v).toArray⟩) (.str (by simp) r3) (hdo _ (key n v r3 rfl))
              | lst n l =>
                simp only
                cases hp : packAV l 0 0 with
                | none => trivial
                | some r =>
                  obtain ⟨m, u⟩ := r
                  obtain ⟨p1, p2, p3⟩ := packAV_spec l 0 0 m u hp (by simp)
                  exact ResR.pure hR (x := .string ⟨(unpack m u).toArray⟩) (.str (by simp) p1) (hdo _ (key m u p1 (by rw [p3]; rfl)))
      · trivial
    · cases hc
  · rename_i t hs hd
    cases hb : (okT P t && Nat.blt 0 (P.cellsOf t)) with
    | false => rw [hb] at hc; cases hc
    | true =>
      rw [hb] at hc
      cases hc
      rw [Bool.and_eq_true] at hb
      exact toUnsafe_run hR rx hs hd hb.1 (blt_iff.1 hb.2)
  · rename_i u hs hd
    cases hb : (okT P u && Nat.blt 0 (P.cellsOf u)) with
    | false => rw [hb] at hc; cases hc
    | true =>
      rw [hb] at hc
      cases hc
      rw [Bool.and_eq_true] at hb
      exact fromUnsafe_run hR rx hs hd hb.1 (blt_iff.1 hb.2)
  · cases hc

end

end Go.Proofs.YtkgoachgmdkmjaaGreatDoor.Am
