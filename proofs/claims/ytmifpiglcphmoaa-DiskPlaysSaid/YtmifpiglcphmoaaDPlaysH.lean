import Derived.Test.YtmifpiglcphmoaaDPlaysG
/- THE WALK'S PARTS, part H: what the functions of the law compute, over the abstract machine that stands beside this text. No condition. -/
set_option linter.unusedSimpArgs false
set_option linter.unusedVariables false
namespace Go.Proofs.Ytmifpiglcphmoaa.DPlays
open Go Go.Proofs.Ytmifpiglcphmoaa.Am Go.Proofs

section
variable {h h1 h2 h3 h4 h5 : Hp} {x y vt : AV} {n : Int}

/-- The step is laid. -/
theorem dstep_box (h : Hp) (x y : AV) (k n : Int) (vt : AV) : ∃ env1 h1, runOps Try.prog dstep_0 (setArgs .e 0 [x, y, .agg [int64 k, int64 n, vt]]) h = some (env1, h1) ∧ sv env1 0 = x ∧ sv env1 1 = y ∧ sv env1 5 = .ptr h.next 0 0 ∧ Arr h1 h.next [int64 k, int64 n, vt] ∧ Only [] h h1 ∧ h1.next.num = h.next.num + 1 := by
  obtain ⟨h1, bx, o1, n1, c1⟩ := boxed (fun _ => 0) 0 h [int64 k, int64 n, vt]
  obtain ⟨env1, e1, f0, f1, f5⟩ : ∃ env', runOps Try.prog dstep_0 (setArgs .e 0 [x, y, .agg [int64 k, int64 n, vt]]) h = some (env', h1) ∧ sv env' 0 = x ∧ sv env' 1 = y ∧ sv env' 5 = .ptr h.next 0 0 := by
    simp [dstep_0, sv_args, runOps, wanted_no, wanted_sv, ev_tm, ev_vl, sv_setD, sv_set, setD_none, qev_mov, qev_bin, qev_un, qev_lenI, qev_pick, qev_load1, qev_idxSl, idx2_sl, idxA2_ptr, opt_some, bin_add, bin_sub, bin_mul, bin_lss, bin_leq, bin_gtr, bin_geq, bin_eql, bin_neq, un_not, un_neg, qev_callv, qev_new1, qev_store1, qev_nilC, nilC_ptr, qev_fld, fld0, fldN, qev_extract, nth0, nth1, nth2, qev_eqPtr, sameP_nil, notIf, bx]
  exact ⟨env1, h1, e1, f0, f1, f5, c1.arr, o1, n1⟩

/-- What a step's call is, by what the calls in it are. -/
def StepFn (h : Hp) (x y : AV) (k n : Int) (vt : AV) (h1 : Hp) (b : Pos) (x' y' : AV) (h' : Hp) : Prop :=
  ∀ env1, runOps Try.prog dstep_0 (setArgs .e 0 [x, y, .agg [int64 k, int64 n, vt]]) h = some (env1, h1) → sv env1 0 = x → sv env1 1 = y → sv env1 5 = .ptr b 0 0 → AmFn Try.prog 47 [x, y, .agg [int64 k, int64 n, vt]] h (.tup [x', y', .bool true]) h'

/-- All behind the box. -/
noncomputable def drest : C := .seq (.seq (.region dstep_1) (.block 0 (.seq (.region dstep_2) (.cond (tm 18) (.seq (.region dstep_3) (.seq (.drawn dstep_4) (.seq (.region dstep_5) .ret))) (.seq (.region dstep_6) (.cond (tm 44) (.seq (.drawn dstep_7) .ret) (.seq (.region dstep_8) (.cond (tm 57) (.seq (.region dstep_9) .ret) (.seq (.region dstep_10) (.cond (tm 66) (.seq (.region dstep_11) (.seq (.region dstep_12) (.seq (.seq (.region dstep_13) (.cond (tm 91) (.seq (.region dstep_14) .ret) .skip)) (.seq (.seq (.region dstep_15) (.cond (tm 95) (.seq (.region dstep_16) .ret) .skip)) (.seq (.region dstep_17) (.seq (.region dstep_18) .ret)))))) (.seq (.region dstep_19) (.cond (tm 103) (.seq (.region dstep_20) (.seq (.seq (.region dstep_21) (.cond (tm 117) (.seq (.region dstep_22) .ret) .skip)) (.seq (.region dstep_23) (.seq (.region dstep_24) .ret)))) .skip)))))))))))) (.seq (.region dstep_25) .ret)

theorem StepFn.of {k : Int} {b : Pos} {x' y' : AV} {h' : Hp} (H : ∀ env1, sv env1 0 = x → sv env1 1 = y → sv env1 5 = .ptr b 0 0 → ∃ env', Dos Try.prog 47 drest env1 h1 .ret [] env' h' ∧ sv env' 6 = x' ∧ sv env' 7 = y' ∧ sv env' 8 = .bool true) : StepFn h x y k n vt h1 b x' y' h' := fun env1 e0 s0 s1 s5 => by
  obtain ⟨env', d, f6, f7, f8⟩ := H env1 s0 s1 s5
  exact AmFn.dos dstep_code (by simp) (Dos.seq (M := []) (M1 := []) (Dos.region e0) d) (vs := [sv env' 6, sv env' 7, sv env' 8]) rfl (by rw [f6, f7, f8]; rfl)

/-- Another kind does nothing. -/
theorem dstep_none {k : Int} {b : Pos} (ar : Arr h1 b [int64 k, int64 n, vt]) (hk : k ≠ 1 ∧ k ≠ 2 ∧ k ≠ 3 ∧ k ≠ 4 ∧ k ≠ 5) : StepFn h x y k n vt h1 b x y h1 := .of fun env1 s0 s1 s5 => by
  obtain ⟨k1, k2, k3, k4, k5⟩ := hk
  have l0 : read1 h1 b 0 0 = some (int64 k) := ar.one (i := 0) (by simp)
  obtain ⟨env3, e3, g⟩ : ∃ env', runS Try.prog true drest [] env1 h1 = some (.ret, [], env', h1) ∧ sv env' 6 = x ∧ sv env' 7 = y ∧ sv env' 8 = .bool true := by
    unfold drest
    simp [dstep_1, dstep_2, dstep_6, dstep_8, dstep_10, dstep_19, dstep_25, runS, runR, Rs.seq, Rs.block, runOps, wanted_no, wanted_sv, ev_tm, ev_vl, sv_setD, sv_set, setD_none, qev_mov, qev_bin, qev_un, qev_lenI, qev_pick, qev_load1, qev_idxSl, idx2_sl, idxA2_ptr, opt_some, bin_add, bin_sub, bin_mul, bin_lss, bin_leq, bin_gtr, bin_geq, bin_eql, bin_neq, un_not, un_neg, qev_callv, qev_new1, qev_store1, qev_nilC, nilC_ptr, qev_fld, fld0, fldN, qev_extract, nth0, nth1, nth2, qev_eqPtr, sameP_nil, notIf, s0, s1, s5, l0, k1, k2, k3, k4, k5]
  exact ⟨env3, Dos.runRet [] (by simp) e3, g⟩

/-- Lay. -/
theorem dstep_lay {b : Pos} {m : AV} {e : Int} (a1 : Arr h1 b [int64 1, int64 n, vt]) (a3 : Arr h3 b [int64 1, int64 n, vt]) (a2 : Arr h2 b [int64 1, int64 n, vt]) (a4 : Arr h4 b [int64 1, int64 n, vt]) (hv : eqAV 8 vt vt = true)
    (k1 : AmFn Try.prog 43 [vt] h1 m h2) (k2 : AmFn Try.prog 36 [x, int64 n, m] h2 (int64 e) h3) (k3 : AmFn Try.prog 74 [y, int64 n, vt] h3 (int64 e) h4) (k4 : AmFn Try.prog 45 [m, vt] h4 (.bool true) h5) : StepFn h x y 1 n vt h1 b x y h5 := .of fun env1 s0 s1 s5 => by
  have l0 : read1 h1 b 0 0 = some (int64 1) := a1.one (i := 0) (by simp)
  have l2 : read1 h1 b 0 2 = some vt := a1.one (i := 2) (by simp)
  have l21 : read1 h2 b 0 1 = some (int64 n) := a2.one (i := 1) (by simp)
  have l22 : read1 h2 b 0 2 = some vt := a2.one (i := 2) (by simp)
  have l31 : read1 h3 b 0 1 = some (int64 n) := a3.one (i := 1) (by simp)
  have l32 : read1 h3 b 0 2 = some vt := a3.one (i := 2) (by simp)
  have l42 : read1 h4 b 0 2 = some vt := a4.one (i := 2) (by simp)
  obtain ⟨env2, e2, f0, f1, f5, f9⟩ : ∃ env', runS Try.prog false drest [⟨43, [vt], h1, m, h2⟩] env1 h1 = some (.upt [.code (.drawn dstep_4), .code (.seq (.region dstep_5) .ret), .inBlock 0, .code (.seq (.region dstep_25) .ret)], [], env', h2) ∧ sv env' 0 = x ∧ sv env' 1 = y ∧ sv env' 5 = .ptr b 0 0 ∧ sv env' 9 = m := by
    unfold drest
    simp [dstep_1, dstep_2, dstep_3, runS, runR, Rs.seq, Rs.block, runOps, wanted_no, wanted_sv, ev_tm, ev_vl, sv_setD, sv_set, setD_none, qev_mov, qev_bin, qev_un, qev_lenI, qev_pick, qev_load1, qev_idxSl, idx2_sl, idxA2_ptr, opt_some, bin_add, bin_sub, bin_mul, bin_lss, bin_leq, bin_gtr, bin_geq, bin_eql, bin_neq, un_not, un_neg, qev_callv, qev_new1, qev_store1, qev_nilC, nilC_ptr, qev_fld, fld0, fldN, qev_extract, nth0, nth1, nth2, qev_eqPtr, sameP_nil, notIf, callA_ok ok43, s0, s1, s5, l0, l2]
  have hsound := recG_sound (P := Try.prog) (A := [⟨36, [x, int64 n, m], h2, int64 e, h3⟩, ⟨74, [y, int64 n, vt], h3, int64 e, h4⟩]) (by
    intro k hk
    simp only [List.mem_cons, List.not_mem_nil, or_false] at hk
    rcases hk with e | e <;> subst e
    · exact k2
    · exact k3)
  have R1 := recG_hit (P := Try.prog) 36 [x, int64 n, m] h2 (int64 e) h3 [⟨74, [y, int64 n, vt], h3, int64 e, h4⟩]
  have R2 := recG_next (P := Try.prog) (a := ⟨36, [x, int64 n, m], h2, int64 e, h3⟩) (recG_hit (P := Try.prog) 74 [y, int64 n, vt] h3 (int64 e) h4 []) (fun q1 _ => by
    have := frOf_fn k3 k2 q1
    exact absurd this (by decide))
  have bg1 := k2.begins.1
  have bg2 := k3.begins.1
  generalize recG Try.prog [⟨36, [x, int64 n, m], h2, int64 e, h3⟩, ⟨74, [y, int64 n, vt], h3, int64 e, h4⟩] = R at *
  have hz : ∀ hh : Hp, (⟨hh.heap, hh.next, hh.ser, hh.lim⟩ : Hp) = hh := fun _ => rfl
  obtain ⟨env3, acts, lds, e3, g0, g1, g5, g9, g10⟩ : ∃ env' acts lds, runD Try.prog R 0 dstep_4 ⟨[], [], [], h2.next, env2, h2⟩ = some ⟨acts, lds, [], h2.next, env', h4⟩ ∧ sv env' 0 = x ∧ sv env' 1 = y ∧ sv env' 5 = .ptr b 0 0 ∧ sv env' 9 = m ∧ sv env' 10 = .bool true := by
    unfold dstep_4
    simp [runD, stepD, actO, kindOf, lookBack, lookAgain, putT, remAl, insT, bit, wanted_no, wanted_sv, ev_tm, ev_vl, sv_setD, setD_none, qev_mov, qev_bin, bin_eql, opt_some, qev_load1, qev_fld, fld0, fldN, qev_callv, callA_ok ok36, callA_ok ok74, eqAV_ptr8, eqAV_int8, hv, f0, f1, f5, f9, l21, l22, l31, l32, bg1, bg2, R1, R2, hz]
  have d3 := Dos.drawn (F := 47) hsound (runDrawn_of (acts := acts) (lds := lds) (by simp [dstep_4, skipIds, isAlloc, kindOf]) e3)
  obtain ⟨env4, e4, g⟩ : ∃ env', runS Try.prog true (.seq (.region dstep_5) .ret) [⟨45, [m, vt], h4, .bool true, h5⟩] env3 h4 = some (.ret, [], env', h5) ∧ sv env' 6 = x ∧ sv env' 7 = y ∧ sv env' 8 = .bool true := by
    simp [dstep_5, runS, runR, Rs.seq, Rs.block, runOps, wanted_no, wanted_sv, ev_tm, ev_vl, sv_setD, sv_set, setD_none, qev_mov, qev_bin, qev_un, qev_lenI, qev_pick, qev_load1, qev_idxSl, idx2_sl, idxA2_ptr, opt_some, bin_add, bin_sub, bin_mul, bin_lss, bin_leq, bin_gtr, bin_geq, bin_eql, bin_neq, un_not, un_neg, qev_callv, qev_new1, qev_store1, qev_nilC, nilC_ptr, qev_fld, fld0, fldN, qev_extract, nth0, nth1, nth2, qev_eqPtr, sameP_nil, notIf, wanted_sv, callA_ok ok45, g0, g1, g5, g9, g10, l42]
  exact ⟨env4, Dos.run (M := []) _ (by intro z hz; simp at hz; subst hz; exact k1) e2 (DosL.more (M := []) (M1 := []) d3 (DosL.ret (Dos.runRet _ (by intro z hz; simp at hz; subst hz; exact k4) e4))), g⟩

/-- Clear. -/
theorem dstep_clear {b : Pos} {e : Int} (a1 : Arr h1 b [int64 2, int64 n, vt]) (a2 : Arr h2 b [int64 2, int64 n, vt])
    (k2 : AmFn Try.prog 37 [x, int64 n] h1 (int64 e) h2) (k3 : AmFn Try.prog 75 [y, int64 n] h2 (int64 e) h3) : StepFn h x y 2 n vt h1 b x y h3 := .of fun env1 s0 s1 s5 => by
  have l0 : read1 h1 b 0 0 = some (int64 2) := a1.one (i := 0) (by simp)
  have l11 : read1 h1 b 0 1 = some (int64 n) := a1.one (i := 1) (by simp)
  have l21 : read1 h2 b 0 1 = some (int64 n) := a2.one (i := 1) (by simp)
  obtain ⟨env2, e2, f0, f1, f5⟩ : ∃ env', runS Try.prog false drest [] env1 h1 = some (.upt [.code (.drawn dstep_7), .code .ret, .inBlock 0, .code (.seq (.region dstep_25) .ret)], [], env', h1) ∧ sv env' 0 = x ∧ sv env' 1 = y ∧ sv env' 5 = .ptr b 0 0 := by
    unfold drest
    simp [dstep_1, dstep_2, dstep_6, runS, runR, Rs.seq, Rs.block, runOps, wanted_no, wanted_sv, ev_tm, ev_vl, sv_setD, sv_set, setD_none, qev_mov, qev_bin, qev_un, qev_lenI, qev_pick, qev_load1, qev_idxSl, idx2_sl, idxA2_ptr, opt_some, bin_add, bin_sub, bin_mul, bin_lss, bin_leq, bin_gtr, bin_geq, bin_eql, bin_neq, un_not, un_neg, qev_callv, qev_new1, qev_store1, qev_nilC, nilC_ptr, qev_fld, fld0, fldN, qev_extract, nth0, nth1, nth2, qev_eqPtr, sameP_nil, notIf, s0, s1, s5, l0]
  have hsound := recG_sound (P := Try.prog) (A := [⟨37, [x, int64 n], h1, int64 e, h2⟩, ⟨75, [y, int64 n], h2, int64 e, h3⟩]) (by
    intro k hk
    simp only [List.mem_cons, List.not_mem_nil, or_false] at hk
    rcases hk with e | e <;> subst e
    · exact k2
    · exact k3)
  have R1 := recG_hit (P := Try.prog) 37 [x, int64 n] h1 (int64 e) h2 [⟨75, [y, int64 n], h2, int64 e, h3⟩]
  have R2 := recG_next (P := Try.prog) (a := ⟨37, [x, int64 n], h1, int64 e, h2⟩) (recG_hit (P := Try.prog) 75 [y, int64 n] h2 (int64 e) h3 []) (fun q1 _ => by
    have := frOf_fn k3 k2 q1
    exact absurd this (by decide))
  have bg1 := k2.begins.1
  have bg2 := k3.begins.1
  generalize recG Try.prog [⟨37, [x, int64 n], h1, int64 e, h2⟩, ⟨75, [y, int64 n], h2, int64 e, h3⟩] = R at *
  have hz : ∀ hh : Hp, (⟨hh.heap, hh.next, hh.ser, hh.lim⟩ : Hp) = hh := fun _ => rfl
  obtain ⟨env3, acts, lds, e3, g⟩ : ∃ env' acts lds, runD Try.prog R 0 dstep_7 ⟨[], [], [], h1.next, env2, h1⟩ = some ⟨acts, lds, [], h1.next, env', h3⟩ ∧ sv env' 6 = x ∧ sv env' 7 = y ∧ sv env' 8 = .bool true := by
    unfold dstep_7
    simp [runD, stepD, actO, kindOf, lookBack, lookAgain, putT, remAl, insT, bit, wanted_no, wanted_sv, ev_tm, ev_vl, sv_setD, setD_none, qev_mov, qev_bin, bin_eql, opt_some, qev_load1, qev_fld, fld0, fldN, qev_callv, callA_ok ok37, callA_ok ok75, eqAV_ptr8, eqAV_int8, f0, f1, f5, l11, l21, bg1, bg2, R1, R2, hz]
  have d3 := Dos.drawn (F := 47) hsound (runDrawn_of (acts := acts) (lds := lds) (by simp [dstep_7, skipIds, isAlloc, kindOf]) e3)
  exact ⟨env3, Dos.run (M := []) [] (by simp) e2 (DosL.more (M := []) (M1 := []) d3 (DosL.ret Dos.ret)), g⟩

/-- Turn. -/
theorem dstep_turn {b : Pos} {e : Int} (a1 : Arr h1 b [int64 3, int64 n, vt]) (k2 : AmFn Try.prog 38 [x] h1 (int64 e) h2) (k3 : AmFn Try.prog 76 [y] h2 (int64 e) h3) : StepFn h x y 3 n vt h1 b x y h3 := .of fun env1 s0 s1 s5 => by
  have l0 : read1 h1 b 0 0 = some (int64 3) := a1.one (i := 0) (by simp)
  obtain ⟨env2, e2, g⟩ : ∃ env', runS Try.prog true drest [⟨38, [x], h1, int64 e, h2⟩, ⟨76, [y], h2, int64 e, h3⟩] env1 h1 = some (.ret, [], env', h3) ∧ sv env' 6 = x ∧ sv env' 7 = y ∧ sv env' 8 = .bool true := by
    unfold drest
    simp [dstep_1, dstep_2, dstep_6, dstep_8, dstep_9, runS, runR, Rs.seq, Rs.block, runOps, wanted_no, wanted_sv, ev_tm, ev_vl, sv_setD, sv_set, setD_none, qev_mov, qev_bin, qev_un, qev_lenI, qev_pick, qev_load1, qev_idxSl, idx2_sl, idxA2_ptr, opt_some, bin_add, bin_sub, bin_mul, bin_lss, bin_leq, bin_gtr, bin_geq, bin_eql, bin_neq, un_not, un_neg, qev_callv, qev_new1, qev_store1, qev_nilC, nilC_ptr, qev_fld, fld0, fldN, qev_extract, nth0, nth1, nth2, qev_eqPtr, sameP_nil, notIf, callA_ok ok38, callA_ok ok76, s0, s1, s5, l0]
  refine ⟨env2, Dos.runRet _ (fun z hz => ?_) e2, g⟩
  simp only [List.mem_cons, List.not_mem_nil, or_false] at hz
  rcases hz with e | e <;> subst e
  · exact k2
  · exact k3

/-- A cut that is none. -/
theorem dstep_cut_no {b : Pos} {e : Int} (a1 : Arr h1 b [int64 4, int64 n, vt]) (a2 : Arr h2 b [int64 4, int64 n, vt]) (k2 : AmFn Try.prog 40 [x, int64 n] h1 (.tup [.nilPtr, int64 e]) h2) (k3 : AmFn Try.prog 77 [y, int64 n] h2 (.tup [.nilPtr, int64 e]) h3) : StepFn h x y 4 n vt h1 b x y h3 := .of fun env1 s0 s1 s5 => by
  have l0 : read1 h1 b 0 0 = some (int64 4) := a1.one (i := 0) (by simp)
  have l11 : read1 h1 b 0 1 = some (int64 n) := a1.one (i := 1) (by simp)
  have l21 : read1 h2 b 0 1 = some (int64 n) := a2.one (i := 1) (by simp)
  obtain ⟨env2, e2, g⟩ : ∃ env', runS Try.prog true drest [⟨40, [x, int64 n], h1, .tup [.nilPtr, int64 e], h2⟩, ⟨77, [y, int64 n], h2, .tup [.nilPtr, int64 e], h3⟩] env1 h1 = some (.ret, [], env', h3) ∧ sv env' 6 = x ∧ sv env' 7 = y ∧ sv env' 8 = .bool true := by
    unfold drest
    simp [dstep_1, dstep_2, dstep_6, dstep_8, dstep_10, dstep_11, dstep_12, dstep_13, dstep_15, dstep_16, runS, runR, Rs.seq, Rs.block, runOps, wanted_no, wanted_sv, ev_tm, ev_vl, sv_setD, sv_set, setD_none, qev_mov, qev_bin, qev_un, qev_lenI, qev_pick, qev_load1, qev_idxSl, idx2_sl, idxA2_ptr, opt_some, bin_add, bin_sub, bin_mul, bin_lss, bin_leq, bin_gtr, bin_geq, bin_eql, bin_neq, un_not, un_neg, qev_callv, qev_new1, qev_store1, qev_nilC, nilC_ptr, qev_fld, fld0, fldN, qev_extract, nth0, nth1, nth2, qev_eqPtr, sameP_nil, notIf, wanted_sv, callA_ok ok40, callA_ok ok77, s0, s1, s5, l0, l11, l21, sameP_nn, bin_neqBb]
  refine ⟨env2, Dos.runRet _ (fun z hz => ?_) e2, g⟩
  simp only [List.mem_cons, List.not_mem_nil, or_false] at hz
  rcases hz with e | e <;> subst e
  · exact k2
  · exact k3

/-- A cut takes the disk's place. -/
theorem dstep_cut_yes {b : Pos} {p q : Pos} {e : Int} (a1 : Arr h1 b [int64 4, int64 n, vt]) (a2 : Arr h2 b [int64 4, int64 n, vt]) (k2 : AmFn Try.prog 40 [x, int64 n] h1 (.tup [.ptr p 0 0, int64 0]) h2) (k3 : AmFn Try.prog 77 [y, int64 n] h2 (.tup [.ptr q 0 0, int64 0]) h3)
    (bl : ∀ env, evalOp Try.prog (.buildSl 1 1 [.int .u8 0] [(0, 1, vl (.int .u8 1))]) env h3 = .val (.sl h3.next 0 0 1 1 true 1) h4) (k4 : AmFn Try.prog 36 [x, int64 0, .sl h3.next 0 0 1 1 true 1] h4 (int64 e) h5) : StepFn h x y 4 n vt h1 b (.ptr p 0 0) (.ptr q 0 0) h5 := .of fun env1 s0 s1 s5 => by
  have l0 : read1 h1 b 0 0 = some (int64 4) := a1.one (i := 0) (by simp)
  have l11 : read1 h1 b 0 1 = some (int64 n) := a1.one (i := 1) (by simp)
  have l21 : read1 h2 b 0 1 = some (int64 n) := a2.one (i := 1) (by simp)
  obtain ⟨env2, e2, g⟩ : ∃ env', runS Try.prog true drest [⟨40, [x, int64 n], h1, .tup [.ptr p 0 0, int64 0], h2⟩, ⟨77, [y, int64 n], h2, .tup [.ptr q 0 0, int64 0], h3⟩, ⟨36, [x, int64 0, .sl h3.next 0 0 1 1 true 1], h4, int64 e, h5⟩] env1 h1 = some (.ret, [], env', h5) ∧ sv env' 6 = .ptr p 0 0 ∧ sv env' 7 = .ptr q 0 0 ∧ sv env' 8 = .bool true := by
    unfold drest
    simp [dstep_1, dstep_2, dstep_6, dstep_8, dstep_10, dstep_11, dstep_12, dstep_13, dstep_15, dstep_17, dstep_18, runS, runR, Rs.seq, Rs.block, runOps, wanted_no, wanted_sv, ev_tm, ev_vl, sv_setD, sv_set, setD_none, qev_mov, qev_bin, qev_un, qev_lenI, qev_pick, qev_load1, qev_idxSl, idx2_sl, idxA2_ptr, opt_some, bin_add, bin_sub, bin_mul, bin_lss, bin_leq, bin_gtr, bin_geq, bin_eql, bin_neq, un_not, un_neg, qev_callv, qev_new1, qev_store1, qev_nilC, nilC_ptr, qev_fld, fld0, fldN, qev_extract, nth0, nth1, nth2, qev_eqPtr, sameP_nil, notIf, wanted_sv, callA_ok ok40, callA_ok ok77, callA_ok ok36, s0, s1, s5, l0, l11, l21, bl, bin_neqBb]
  refine ⟨env2, Dos.runRet _ (fun z hz => ?_) e2, g⟩
  simp only [List.mem_cons, List.not_mem_nil, or_false] at hz
  rcases hz with e | e | e <;> subst e
  · exact k2
  · exact k3
  · exact k4

/-- A copy of nothing. -/
theorem dstep_copy_nil {b : Pos} {e : Int} (a1 : Arr h1 b [int64 5, int64 n, vt]) (k2 : AmFn Try.prog 72 [.nilPtr] h1 .nilPtr h2) (k3 : AmFn Try.prog 41 [.nilPtr, .nilPtr] h2 (.bool true) h2) (k4 : AmFn Try.prog 38 [.nilPtr] h2 (int64 e) h3) : StepFn h .nilPtr .nilPtr 5 n vt h1 b .nilPtr .nilPtr h3 := .of fun env1 s0 s1 s5 => by
  have l0 : read1 h1 b 0 0 = some (int64 5) := a1.one (i := 0) (by simp)
  obtain ⟨env2, e2, g⟩ : ∃ env', runS Try.prog true drest [⟨72, [.nilPtr], h1, .nilPtr, h2⟩, ⟨41, [.nilPtr, .nilPtr], h2, .bool true, h2⟩, ⟨38, [.nilPtr], h2, int64 e, h3⟩] env1 h1 = some (.ret, [], env', h3) ∧ sv env' 6 = .nilPtr ∧ sv env' 7 = .nilPtr ∧ sv env' 8 = .bool true := by
    unfold drest
    simp [dstep_1, dstep_2, dstep_6, dstep_8, dstep_10, dstep_19, dstep_20, dstep_21, dstep_23, dstep_24, runS, runR, Rs.seq, Rs.block, runOps, wanted_no, wanted_sv, ev_tm, ev_vl, sv_setD, sv_set, setD_none, qev_mov, qev_bin, qev_un, qev_lenI, qev_pick, qev_load1, qev_idxSl, idx2_sl, idxA2_ptr, opt_some, bin_add, bin_sub, bin_mul, bin_lss, bin_leq, bin_gtr, bin_geq, bin_eql, bin_neq, un_not, un_neg, qev_callv, qev_new1, qev_store1, qev_nilC, nilC_ptr, qev_fld, fld0, fldN, qev_extract, nth0, nth1, nth2, qev_eqPtr, sameP_nil, notIf, wanted_sv, callA_ok ok72, callA_ok ok41, callA_ok ok38, s0, s1, s5, l0, sameP_nn, bin_neqBb]
  refine ⟨env2, Dos.runRet _ (fun z hz => ?_) e2, g⟩
  simp only [List.mem_cons, List.not_mem_nil, or_false] at hz
  rcases hz with e | e | e <;> subst e
  · exact k2
  · exact k3
  · exact k4

/-- A copy takes the disk's place. -/
theorem dstep_copy {b : Pos} {p q r : Pos} {e : Int} (a1 : Arr h1 b [int64 5, int64 n, vt]) (k2 : AmFn Try.prog 72 [.ptr p 0 0] h1 (.ptr r 0 0) h2) (k3 : AmFn Try.prog 41 [.ptr r 0 0, .ptr p 0 0] h2 (.bool true) h2) (k4 : AmFn Try.prog 38 [.ptr p 0 0] h2 (int64 e) h3) : StepFn h (.ptr p 0 0) (.ptr q 0 0) 5 n vt h1 b (.ptr r 0 0) (.ptr q 0 0) h3 := .of fun env1 s0 s1 s5 => by
  have l0 : read1 h1 b 0 0 = some (int64 5) := a1.one (i := 0) (by simp)
  obtain ⟨env2, e2, g⟩ : ∃ env', runS Try.prog true drest [⟨72, [.ptr p 0 0], h1, .ptr r 0 0, h2⟩, ⟨41, [.ptr r 0 0, .ptr p 0 0], h2, .bool true, h2⟩, ⟨38, [.ptr p 0 0], h2, int64 e, h3⟩] env1 h1 = some (.ret, [], env', h3) ∧ sv env' 6 = .ptr r 0 0 ∧ sv env' 7 = .ptr q 0 0 ∧ sv env' 8 = .bool true := by
    unfold drest
    simp [dstep_1, dstep_2, dstep_6, dstep_8, dstep_10, dstep_19, dstep_20, dstep_21, dstep_23, dstep_24, runS, runR, Rs.seq, Rs.block, runOps, wanted_no, wanted_sv, ev_tm, ev_vl, sv_setD, sv_set, setD_none, qev_mov, qev_bin, qev_un, qev_lenI, qev_pick, qev_load1, qev_idxSl, idx2_sl, idxA2_ptr, opt_some, bin_add, bin_sub, bin_mul, bin_lss, bin_leq, bin_gtr, bin_geq, bin_eql, bin_neq, un_not, un_neg, qev_callv, qev_new1, qev_store1, qev_nilC, nilC_ptr, qev_fld, fld0, fldN, qev_extract, nth0, nth1, nth2, qev_eqPtr, sameP_nil, notIf, wanted_sv, callA_ok ok72, callA_ok ok41, callA_ok ok38, s0, s1, s5, l0, bin_neqBb]
  refine ⟨env2, Dos.runRet _ (fun z hz => ?_) e2, g⟩
  simp only [List.mem_cons, List.not_mem_nil, or_false] at hz
  rcases hz with e | e | e <;> subst e
  · exact k2
  · exact k3
  · exact k4
end
end Go.Proofs.Ytmifpiglcphmoaa.DPlays

namespace Go.Proofs.Ytmifpiglcphmoaa.DPlays
open Go Go.Proofs.Ytmifpiglcphmoaa.Am Go.Proofs
attribute [local irreducible] Tree

/-- A row that grew and is of one kind. -/
structure KGro (κ : Pos → Nat) (k : Nat) (h : Hp) (id : Pos) (g : Nat) (l : List AV) : Prop where
  gro : Gro h id g l
  k : κ id = k

theorem KGro.chg {κ κ' : Pos → Nat} {k : Nat} {K : Nat → Prop} {h h' : Hp} {id : Pos} {g : Nat} {l : List AV} (a : KGro κ k h id g l) (c : Chg κ K h h') (q : Agr h κ κ') (hk : ¬ K k) : KGro κ' k h' id g l := by
  obtain ⟨S, o, hS⟩ := c
  exact ⟨a.gro.only o fun z => hk (by have := hS _ z a.gro.old; rwa [a.k] at this), (q _ a.gro.old).trans a.k⟩

/-- The two disks. -/
def Pair (κ : Pos → Nat) (h : Hp) (n : Nat) (x y : AV) : Prop :=
  (x = .nilPtr ∧ y = .nilPtr) ∨ ∃ d p q V ws V' ws', x = .ptr p 0 0 ∧ y = .ptr q 0 0 ∧ DkAt κ 1 h p d V ws ∧ RkAt κ 11 h q d V' ws' ∧ Made d ∧ d.ws.length ≤ n

/-- Where the law stands. -/
def Now (h0 h : Hp) (n : Nat) (x y : AV) : Prop := ∃ κ : Pos → Nat, (∀ id, id.num < h0.next.num → κ id = 0) ∧ Only [] h0 h ∧ Pair κ h n x y

section
variable {h0 h h1 : Hp} {n : Nat} {x y vt : AV} {b : List UInt8} {nn : Int} {κ : Pos → Nat} {p q bx : Pos} {d : Dk} {V V' : Vs} {ws ws' : List (Wr × AV)}

/-- A step of two disks that are there, with its box. -/
structure Rdy (h0 h1 : Hp) (κ : Pos → Nat) (bx : Pos) (l : List AV) (n : Nat) (p q : Pos) (d : Dk) (V : Vs) (ws : List (Wr × AV)) (V' : Vs) (ws' : List (Wr × AV)) : Prop where
  old : ∀ id, id.num < h0.next.num → κ id = 0
  o : Only [] h0 h1
  dk : DkAt κ 1 h1 p d V ws
  rk : RkAt κ 11 h1 q d V' ws'
  md : Made d
  len : d.ws.length ≤ n
  box : KArr κ 20 h1 bx l

theorem wk1 {k : Nat} (h : 5 ≤ k) : ¬ Wk 1 k := fun q => by unfold Wk at q; omega
theorem wk11 {k : Nat} (h : k ≤ 10 ∨ 15 ≤ k) : ¬ Wk 11 k := fun q => by unfold Wk at q; omega

theorem does_lay (a : Rdy h0 h1 κ bx [int64 1, int64 nn, vt] n p q d V ws V' ws') (hn : n ≤ 99999) (r : SlN h0 1 vt b.length (byt b)) (ok : okSize (b.length + 1) 1 = true) :
    ∃ h', StepFn h (.ptr p 0 0) (.ptr q 0 0) 1 nn vt h1 bx (.ptr p 0 0) (.ptr q 0 0) h' ∧ Now h0 h' (n + 1) (.ptr p 0 0) (.ptr q 0 0) := by
  obtain ⟨old, o, dk, rk, md, len, box⟩ := a
  have hb : b.length + 1 ≤ 140737488355328 := by
    unfold okSize at ok
    simp only [Bool.and_eq_true, ble_iff] at ok
    exact ok.1.1
  have ok0 : okSize b.length 1 = true := by
    unfold okSize at ok ⊢
    simp only [Bool.and_eq_true, ble_iff] at ok ⊢
    have e1 : Nat.mul (b.length + 1) 1 = b.length + 1 := Nat.mul_one _
    have e2 : Nat.mul b.length 1 = b.length := Nat.mul_one _
    rw [e1] at ok
    rw [e2]
    omega
  obtain ⟨id, g, h2, k1, gr, o2, hid⟩ := lent_fn (r.more o) ok
  have g2 := newK'_agr κ h1 21
  have dk := dk.more o2 g2
  have rk := rk.more o2 g2
  have box2 := box.chg (K := fun _ => False) (.of o2) g2 (fun q => q)
  have old : ∀ id, id.num < h0.next.num → newK' κ h1 21 id = 0 := fun id q => (g2 id (by have := o.next; omega)).trans (old id q)
  have gr : KGro (newK' κ h1 21) 21 h2 id g (byt (b ++ [165])) := ⟨gr, newK'_new κ 21 hid⟩
  generalize newK' κ h1 21 = κ2 at *
  have o := o.trans o2
  have rs : SlN h2 1 (.sl id g 0 b.length (b.length + 1) false 1) b.length (byt b) := by
    have := gr.gro.sl (n := b.length) (cap := b.length + 1) (ex := false) (by rw [byt_length]; simp)
    rw [byt_append, List.take_append_of_le_length (by rw [byt_length]; omega), List.take_of_length_le (by rw [byt_length]; omega)] at this
    exact this
  obtain ⟨κ3, h3, V3, ws3, k3, g3, ch3, dk3⟩ := dlay_fn dk nn rs (by omega)
  have rk3 := rk.chg ch3 g3 (fun k q1 q2 => wk1 (by omega))
  have box3 := box2.chg ch3 g3 (wk1 (by omega))
  have gr3 := gr.chg ch3 g3 (wk1 (by omega))
  have o3 := Chg.later ch3 o fun id q => by rw [old id q]; unfold Wk; omega
  have old3 : ∀ id, id.num < h0.next.num → κ3 id = 0 := fun id q => (g3 id (by have := o.next; omega)).trans (old id q)
  obtain ⟨κ4, h4, V4, ws4, k4, g4, ch4, rk4⟩ := rlay_fn rk3 nn (r.more o3) ok0 (by omega)
  have dk4 := dk3.chg ch4 g4 (fun k q1 q2 => wk11 (by omega))
  have box4 := box3.chg ch4 g4 (wk11 (by omega))
  have gr4 := gr3.chg ch4 g4 (wk11 (by omega))
  have o4 := Chg.later ch4 o3 fun id q => by rw [old3 id q]; unfold Wk; omega
  have old4 : ∀ id, id.num < h0.next.num → κ4 id = 0 := fun id q => (g4 id (by have := o3.next; omega)).trans (old3 id q)
  obtain ⟨h5, k5, o5⟩ := left_fn gr4.gro rfl (r.more o4) hb
  have ch5 : Chg κ4 (fun k => k = 21) h4 h5 := ⟨[id], o5, fun z hz _ => by simp at hz; subst hz; exact gr4.k⟩
  have o5' := Chg.later ch5 o4 fun id q => by rw [old4 id q]; omega
  refine ⟨h5, dstep_lay box.arr box3.arr box2.arr box4.arr (r.eqv 7) k1 k3 k4 k5, κ4, old4, o5', .inr ⟨d.layD nn b, p, q, V3, ws3, V4, ws4, rfl, rfl, dk4.chg ch5 .refl (by omega), rk4.chg ch5 .refl (by omega), made_lay md dk.ok nn b, ?_⟩⟩
  have := (next_lay d nn b).2
  omega

theorem does_clear (a : Rdy h0 h1 κ bx [int64 2, int64 nn, vt] n p q d V ws V' ws') (hn : n ≤ 99999) :
    ∃ h', StepFn h (.ptr p 0 0) (.ptr q 0 0) 2 nn vt h1 bx (.ptr p 0 0) (.ptr q 0 0) h' ∧ Now h0 h' (n + 1) (.ptr p 0 0) (.ptr q 0 0) := by
  obtain ⟨old, o, dk, rk, md, len, box⟩ := a
  obtain ⟨κ3, h3, V3, ws3, k3, g3, ch3, dk3⟩ := dclear_fn dk nn (by omega)
  have rk3 := rk.chg ch3 g3 (fun k q1 q2 => wk1 (by omega))
  have box3 := box.chg ch3 g3 (wk1 (by omega))
  have o3 := Chg.later ch3 o fun id q => by rw [old id q]; unfold Wk; omega
  have old3 : ∀ id, id.num < h0.next.num → κ3 id = 0 := fun id q => (g3 id (by have := o.next; omega)).trans (old id q)
  obtain ⟨κ4, h4, V4, ws4, k4, g4, ch4, rk4⟩ := rclear_fn rk3 nn (by omega)
  have dk4 := dk3.chg ch4 g4 (fun k q1 q2 => wk11 (by omega))
  have o4 := Chg.later ch4 o3 fun id q => by rw [old3 id q]; unfold Wk; omega
  have old4 : ∀ id, id.num < h0.next.num → κ4 id = 0 := fun id q => (g4 id (by have := o3.next; omega)).trans (old3 id q)
  refine ⟨h4, dstep_clear box.arr box3.arr k3 k4, κ4, old4, o4, .inr ⟨d.clearD nn, p, q, V3, ws3, V4, ws4, rfl, rfl, dk4, rk4, made_clear md nn, ?_⟩⟩
  have := (next_clear d nn).2
  omega

theorem does_turn (a : Rdy h0 h1 κ bx [int64 3, int64 nn, vt] n p q d V ws V' ws') (hn : n ≤ 99999) :
    ∃ h', StepFn h (.ptr p 0 0) (.ptr q 0 0) 3 nn vt h1 bx (.ptr p 0 0) (.ptr q 0 0) h' ∧ Now h0 h' (n + 1) (.ptr p 0 0) (.ptr q 0 0) := by
  obtain ⟨old, o, dk, rk, md, len, box⟩ := a
  obtain ⟨κ3, h3, V3, ws3, k3, g3, ch3, dk3⟩ := dturn_fn dk (by omega)
  have rk3 := rk.chg ch3 g3 (fun k q1 q2 => wk1 (by omega))
  have o3 := Chg.later ch3 o fun id q => by rw [old id q]; unfold Wk; omega
  have old3 : ∀ id, id.num < h0.next.num → κ3 id = 0 := fun id q => (g3 id (by have := o.next; omega)).trans (old id q)
  obtain ⟨κ4, h4, V4, ws4, k4, g4, ch4, rk4⟩ := rturn_fn rk3 (by omega)
  have dk4 := dk3.chg ch4 g4 (fun k q1 q2 => wk11 (by omega))
  have o4 := Chg.later ch4 o3 fun id q => by rw [old3 id q]; unfold Wk; omega
  have old4 : ∀ id, id.num < h0.next.num → κ4 id = 0 := fun id q => (g4 id (by have := o3.next; omega)).trans (old3 id q)
  refine ⟨h4, dstep_turn box.arr k3 k4, κ4, old4, o4, .inr ⟨d.turnD, p, q, V3, ws3, V4, ws4, rfl, rfl, dk4, rk4, made_turn md, ?_⟩⟩
  have := (next_turn d).2
  omega

theorem does_cut (a : Rdy h0 h1 κ bx [int64 4, int64 nn, vt] n p q d V ws V' ws') (hn : n ≤ 99999) :
    ∃ x' y' h', StepFn h (.ptr p 0 0) (.ptr q 0 0) 4 nn vt h1 bx x' y' h' ∧ Now h0 h' (n + 1) x' y' := by
  obtain ⟨old, o, dk, rk, md, len, box⟩ := a
  by_cases hc : nn < 0 ∨ (d.ws.length : Int) < nn
  · obtain ⟨h2, k2, o2⟩ := cut_no dk hc
    have k3 := rcut_no (rk.more o2 .refl) hc
    exact ⟨_, _, h2, dstep_cut_no box.arr (Arr.more box.arr o2) k2 k3, κ, old, o.trans o2, .inr ⟨d, p, q, V, ws, V', ws', rfl, rfl, dk.more o2 .refl, rk.more o2 .refl, md, by omega⟩⟩
  · obtain ⟨m, rfl⟩ : ∃ m : Nat, nn = m := ⟨nn.toNat, by omega⟩
    have hm : m ≤ d.ws.length := by omega
    obtain ⟨κ2, h2, V2, ws2, u, k2, g2, o2, A2, _⟩ := cut_fn dk md (by omega) hm κ 31
    have dk2 := dk.more o2 g2
    have rk2 := rk.more o2 g2
    have box2 := Arr.more box.arr o2
    have o2' := o.trans o2
    have old2 : ∀ id, id.num < h0.next.num → κ2 id = 0 := fun id q => (g2 id (by have := o.next; omega)).trans (old id q)
    obtain ⟨κ3, h3, V3, ws3, v, k3, g3, o3, A3, _⟩ := rcut_fn rk2 md (by omega) hm κ2 41
    have dk3 := dk2.more o3 g3
    have A2 := A2.more o3 g3
    have o3' := o2'.trans o3
    have old3 : ∀ id, id.num < h0.next.num → κ3 id = 0 := fun id q => (g3 id (by have := o2'.next; omega)).trans (old2 id q)
    obtain ⟨h4, bl, a4, o4, n4⟩ := oneSl Try.prog (es := 1) (z := [AV.int .u8 0]) (l := byt [1]) (by omega) rfl rfl h3
    have bl0 := fun env => bl env (vl (.int .u8 1)) rfl
    have hl0 : SlN h4 1 (.sl h3.next 0 0 1 1 true 1) 1 (byt [1]) := a4.slN (n := 1) (es := 1) rfl
    have g4 := newK'_agr κ3 h3 20
    have dk4 := dk3.more o4 g4
    have A2 := A2.more o4 g4
    have A3 := A3.more o4 g4
    have o4' := o3'.trans o4
    have old4 : ∀ id, id.num < h0.next.num → newK' κ3 h3 20 id = 0 := fun id q => (g4 id (by have := o3'.next; omega)).trans (old3 id q)
    generalize newK' κ3 h3 20 = κ4 at *
    obtain ⟨κ5, h5, V5, ws5, k5, g5, ch5, _⟩ := dlay_fn dk4 0 hl0 (by omega)
    have A2 := A2.chg ch5 g5 (fun k q1 q2 => wk1 (by omega))
    have A3 := A3.chg ch5 g5 (fun k q1 q2 => wk1 (by omega))
    have o5 := Chg.later ch5 o4' fun id q => by rw [old4 id q]; unfold Wk; omega
    have old5 : ∀ id, id.num < h0.next.num → κ5 id = 0 := fun id q => (g5 id (by have := o4'.next; omega)).trans (old4 id q)
    refine ⟨.ptr u 0 0, .ptr v 0 0, h5, dstep_cut_yes box.arr box2 k2 k3 bl0 k5, fun id => κ5 id - 30, fun id q => by show κ5 id - 30 = 0; rw [old5 id q], o5, .inr ⟨d.cut m, u, v, V2, ws2, V3, ws3, rfl, rfl, A2.rekind fun id k e _ _ => by show κ5 id - 30 = _; omega, A3.rekind fun id k e _ _ => by show κ5 id - 30 = _; omega, md.cut hm, ?_⟩⟩
    rw [(cut_fix d m).2.2.2.2, List.length_take]
    omega

theorem does_copy (a : Rdy h0 h1 κ bx [int64 5, int64 nn, vt] n p q d V ws V' ws') (hn : n ≤ 99999) :
    ∃ x' y' h', StepFn h (.ptr p 0 0) (.ptr q 0 0) 5 nn vt h1 bx x' y' h' ∧ Now h0 h' (n + 1) x' y' := by
  obtain ⟨old, o, dk, rk, md, len, box⟩ := a
  obtain ⟨κ2, h2, V2, ws2, u, k2, g2, o2, A2, _⟩ := dcopy_fn dk md (by omega) κ 31
  have dk2 := dk.more o2 g2
  have rk2 := rk.more o2 g2
  have o2' := o.trans o2
  have old2 : ∀ id, id.num < h0.next.num → κ2 id = 0 := fun id q => (g2 id (by have := o.next; omega)).trans (old id q)
  have k3 := same_yes A2 dk2 rfl rfl rfl rfl
  obtain ⟨κ5, h5, V5, ws5, k5, g5, ch5, _⟩ := dturn_fn dk2 (by omega)
  have A2 := A2.chg ch5 g5 (fun k q1 q2 => wk1 (by omega))
  have A3 := rk2.chg ch5 g5 (fun k q1 q2 => wk1 (by omega))
  have o5 := Chg.later ch5 o2' fun id q => by rw [old2 id q]; unfold Wk; omega
  have old5 : ∀ id, id.num < h0.next.num → κ5 id = 0 := fun id q => (g5 id (by have := o2'.next; omega)).trans (old2 id q)
  refine ⟨.ptr u 0 0, .ptr q 0 0, h5, dstep_copy box.arr k2 k3 k5, fun id => if κ5 id ≤ 20 then (if κ5 id ≤ 10 then 0 else κ5 id) else κ5 id - 30, fun id q => by show (if κ5 id ≤ 20 then (if κ5 id ≤ 10 then 0 else κ5 id) else κ5 id - 30) = 0; rw [old5 id q]; rfl, o5, .inr ⟨d, u, q, V2, ws2, V', ws', rfl, rfl, A2.rekind fun id k e _ _ => ?_, A3.rekind fun id k e hk _ => ?_, md, by omega⟩⟩
  · show (if κ5 id ≤ 20 then (if κ5 id ≤ 10 then 0 else κ5 id) else κ5 id - 30) = _
    rw [if_neg (by omega)]; omega
  · show (if κ5 id ≤ 20 then (if κ5 id ≤ 10 then 0 else κ5 id) else κ5 id - 30) = _
    rw [if_pos (by omega), if_neg (by omega)]; omega

/-- A step. -/
theorem does_fn (a : Now h0 h n x y) (hn : n ≤ 99999) (k : Int) (r : SlN h0 1 vt b.length (byt b)) (ok : okSize (b.length + 1) 1 = true) : ∃ x' y' h', AmFn Try.prog 47 [x, y, .agg [int64 k, int64 nn, vt]] h (.tup [x', y', .bool true]) h' ∧ Now h0 h' (n + 1) x' y' := by
  obtain ⟨env1, h1, e0, s0, s1, s5, ar, o1, n1⟩ := dstep_box h x y k nn vt
  suffices hh : ∃ x' y' h', StepFn h x y k nn vt h1 h.next x' y' h' ∧ Now h0 h' (n + 1) x' y' by
    obtain ⟨x', y', h', st, nw⟩ := hh
    exact ⟨x', y', h', st env1 e0 s0 s1 s5, nw⟩
  obtain ⟨κ, old, o, pr⟩ := a
  rcases pr with ⟨ex, ey⟩ | ⟨d, p, q, V, ws, V', ws', ex, ey, dk, rk, md, len⟩
  · subst ex ey
    have now : ∀ h', Only [] h0 h' → Now h0 h' (n + 1) .nilPtr .nilPtr := fun h' o' => ⟨κ, old, o', .inl ⟨rfl, rfl⟩⟩
    have o1' := o.trans o1
    by_cases c1 : k = 1
    · subst c1
      have hb : b.length + 1 ≤ 140737488355328 := by
        unfold okSize at ok
        simp only [Bool.and_eq_true, ble_iff] at ok
        exact ok.1.1
      obtain ⟨id, g, h2, k1, gr, o2, hid⟩ := lent_fn (r.more o1') ok
      obtain ⟨h5, k5, o5⟩ := left_fn gr rfl (r.more (o1'.trans o2)) hb
      have a2 := Arr.more ar o2
      exact ⟨_, _, h5, dstep_lay ar a2 a2 a2 (r.eqv 7) k1 (dlay_nil _ _ _) (rlay_nil _ _ _) k5, now _ ((((o1'.trans o2).mono (S' := [id]) (by simp)).trans o5).mono fun z hz => .inr (by simp at hz; subst hz; have := o1'.next; omega))⟩
    · by_cases c2 : k = 2
      · subst c2
        exact ⟨_, _, h1, dstep_clear ar ar (dclear_nil _ _) (rclear_nil _ _), now _ o1'⟩
      · by_cases c3 : k = 3
        · subst c3
          exact ⟨_, _, h1, dstep_turn ar (dturn_nil _) (rturn_nil _), now _ o1'⟩
        · by_cases c4 : k = 4
          · subst c4
            have o2 : Only [] h1 (newB h1 (int64 nn)) := newH_only _ _ _
            exact ⟨_, _, _, dstep_cut_no ar (Arr.more ar o2) (cut_nil _ _) (rcut_nil _ _), now _ (o1'.trans o2)⟩
          · by_cases c5 : k = 5
            · subst c5
              have o2 : Only [] h1 (newB h1 (int64 0)) := newH_only _ _ _
              exact ⟨_, _, _, dstep_copy_nil ar (dcopy_nil _) (same_nil _) (dturn_nil _), now _ (o1'.trans o2)⟩
            · exact ⟨_, _, h1, dstep_none ar ⟨c1, c2, c3, c4, c5⟩, now _ o1'⟩
  · subst ex ey
    have g1 := newK'_agr κ h 20
    have rdy : Rdy h0 h1 (newK' κ h 20) h.next [int64 k, int64 nn, vt] n p q d V ws V' ws' :=
      ⟨fun id q => (g1 id (by have := o.next; omega)).trans (old id q), o.trans o1, dk.more o1 g1, rk.more o1 g1, md, len, ⟨ar, newK'_new κ 20 (Nat.le_refl _)⟩⟩
    by_cases c1 : k = 1
    · subst c1
      obtain ⟨h', a1, a2⟩ := does_lay rdy hn r ok
      exact ⟨_, _, h', a1, a2⟩
    · by_cases c2 : k = 2
      · subst c2
        obtain ⟨h', a1, a2⟩ := does_clear rdy hn
        exact ⟨_, _, h', a1, a2⟩
      · by_cases c3 : k = 3
        · subst c3
          obtain ⟨h', a1, a2⟩ := does_turn rdy hn
          exact ⟨_, _, h', a1, a2⟩
        · by_cases c4 : k = 4
          · subst c4
            exact does_cut rdy hn
          · by_cases c5 : k = 5
            · subst c5
              exact does_copy rdy hn
            · exact ⟨_, _, h1, dstep_none ar ⟨c1, c2, c3, c4, c5⟩, _, rdy.old, rdy.o, .inr ⟨d, p, q, V, ws, V', ws', rfl, rfl, rdy.dk, rdy.rk, md, by omega⟩⟩
end
end Go.Proofs.Ytmifpiglcphmoaa.DPlays

namespace Go.Proofs.Ytmifpiglcphmoaa.DPlays
open Go Go.Proofs.Ytmifpiglcphmoaa.Am Go.Proofs
attribute [local irreducible] Tree

theorem SlN.lenOf_eq {h : Hp} {es n : Nat} {v : AV} {l : List AV} (r : SlN h es v n l) : lenOf v = n := by cases r <;> rfl

/-- Bytes that are handed in leave room for one more. -/
theorem handed_small {h : Hp} {v : AV} (a : Tree Try.prog h (0 + 2) 55 [v]) : ∃ b : List UInt8, SlN h 1 v b.length (byt b) ∧ okSize (b.length + 1) 1 = true := by
  obtain ⟨b, r, _⟩ := handed_bytes a
  refine ⟨b, r, ?_⟩
  have hr : reachBytes + 1 ≤ 140737488355328 := by decide
  have hb : b.length ≤ reachBytes := by
    rw [← SlN.lenOf_eq r]
    rcases a.of_slice (d := 1) Try.underlying55 with q | ⟨id, g, off, q⟩ | ⟨id, n, cap, L, q, h1, h2, _⟩
    · cases q; exact Nat.zero_le _
    · cases q; exact Nat.zero_le _
    · cases q
      rw [bytes5, Nat.mul_one] at h2
      exact Nat.le_trans h1 h2
  unfold okSize
  have e1 : Nat.mul (b.length + 1) 1 = b.length + 1 := Nat.mul_one _
  rw [e1, ble_iff.2 (show b.length + 1 ≤ 140737488355328 by omega)]
  rfl

theorem start_small {h0 : Hp} {l : List AV} (a : Tree Try.prog h0 (0 + 3) 57 l) : ∃ cap used va vb, ∃ b1 b2 : List UInt8, l = [int64 cap, int64 used, va, vb] ∧ SlN h0 1 va b1.length (byt b1) ∧ okSize (b1.length + 1) 1 = true ∧ SlN h0 1 vb b2.length (byt b2) ∧ okSize (b2.length + 1) 1 = true := by
  obtain ⟨x, y, va, vb, e, t1, t2⟩ := rec4_of (d := 1) Try.underlying57 cells57 Try.underlying3 cells3 cells55 ⟨rfl, rfl⟩ ⟨rfl, rfl⟩ ⟨rfl, rfl⟩ ⟨rfl, rfl⟩ a
  obtain ⟨b1, r1, k1⟩ := handed_small t1
  obtain ⟨b2, r2, k2⟩ := handed_small t2
  exact ⟨x, y, va, vb, b1, b2, e, r1, k1, r2, k2⟩

theorem step_small {h0 : Hp} {vs : AV} (a : Tree Try.prog h0 (0 + 3 + 1) 58 [vs]) {i : Nat} (hi : i < lenOf vs) :
    ∃ id cap kind n vt, ∃ b : List UInt8, vs = .sl id 0 0 (lenOf vs) cap true 3 ∧ (∀ h, Only [] h0 h → ∀ env y, ev env y = .ptr id 0 (i * 3) → evalOp Try.prog (.loadN 3 y) env h = .val (.agg [int64 kind, int64 n, vt]) h) ∧ SlN h0 1 vt b.length (byt b) ∧ okSize (b.length + 1) 1 = true := by
  obtain ⟨id, cap, l, q1, q2, q3⟩ := a.record Try.underlying58 hi
  rw [cells63] at q1 q3
  obtain ⟨kind, n, vt, e, t1⟩ := rec3_of (d := 1) Try.underlying63 cells63 Try.underlying3 cells3 cells55 ⟨rfl, rfl⟩ ⟨rfl, rfl⟩ ⟨rfl, rfl⟩ q2
  obtain ⟨b, r, k⟩ := handed_small t1
  subst e
  refine ⟨id, cap, kind, n, vt, b, q1, fun h o env y hy => ?_, r, k⟩
  obtain ⟨cc, c1, c2⟩ := q3 h o
  rw [qev_loadN Try.prog hy c1, c2]

section
variable {h0 h : Hp} {n : Nat} {x y vs : AV} {leave : Int} {env : T AV}

theorem stands_now (a : Now h0 h n x y) (hn : n ≤ 99999) (leave : Int) : ∃ h', AmFn Try.prog 46 [x, y, int64 leave] h (.bool true) h' ∧ Now h0 h' n x y := by
  obtain ⟨κ, old, o, pr⟩ := a
  rcases pr with ⟨ex, ey⟩ | ⟨d, p, q, V, ws, V', ws', ex, ey, dk, rk, md, len⟩
  · subst ex ey
    obtain ⟨h', k, o'⟩ := stands_nil h leave
    exact ⟨h', k, κ, old, o.trans o', .inl ⟨rfl, rfl⟩⟩
  · subst ex ey
    obtain ⟨h', k, o'⟩ := stands_fn dk rk md (by omega) leave
    exact ⟨h', k, κ, old, o.trans o', .inr ⟨d, p, q, V, ws, V', ws', rfl, rfl, dk.more o' .refl, rk.more o' .refl, md, len⟩⟩

/-- The law's variables. -/
structure PEn (env : T AV) (vs x y : AV) (leave : Int) : Prop where
  e1 : sv env 1 = vs
  e2 : sv env 2 = int64 leave
  e9 : sv env 9 = x
  e11 : sv env 11 = y

/-- All steps. -/
theorem plays_loop (tr : Tree Try.prog h0 (0 + 3 + 1) 58 [vs]) (hlen : lenOf vs ≤ 60) : ∀ (r i : Nat) (env : T AV) (h : Hp) (x y : AV), i + r = lenOf vs → Now h0 h i x y → PEn env vs x y leave → sv env 13 = int64 (i : Nat) →
    ∃ env' h', Loops Try.prog 7 plays_15 env h (.exit 0) [] env' h' ∧ Only [] h0 h'
  | 0, i, env, h, x, y, hi, a, ⟨e1, e2, e9, e11⟩, e13 => by
    have hl := steps_len tr h
    have hi' : ¬ (i : Int) < (lenOf vs : Nat) := by omega
    obtain ⟨env1, r1⟩ : ∃ env', runS Try.prog true plays_15 [] env h = some (.exit 0, [], env', h) := by
      unfold plays_15
      simp [plays_9, runS, runR, Rs.seq, Rs.block, runOps, wanted_no, wanted_sv, ev_tm, ev_vl, sv_setD, sv_set, setD_none, qev_mov, qev_bin, qev_un, qev_lenI, qev_pick, qev_load1, qev_idxSl, idx2_sl, idxA2_ptr, opt_some, bin_add, bin_sub, bin_mul, bin_lss, bin_leq, bin_gtr, bin_geq, bin_eql, bin_neq, un_not, un_neg, qev_callv, qev_new1, qev_store1, qev_nilC, nilC_ptr, qev_fld, fld0, fldN, qev_extract, nth0, nth1, nth2, qev_eqPtr, sameP_nil, notIf, e1, e13, hl, hi']
    obtain ⟨_, _, o, _⟩ := a
    exact ⟨env1, h, Loops.out (Dos.runExit [] (by simp) r1) (by simp), o⟩
  | r + 1, i, env, h, x, y, hi, a, ⟨e1, e2, e9, e11⟩, e13 => by
    have hl := steps_len tr h
    have hiN : i < lenOf vs := by omega
    have hi' : (i : Int) < (lenOf vs : Nat) := by omega
    obtain ⟨id, cap, kind, nn, vt, b, hv, ld, rb, ok⟩ := step_small tr hiN
    have ldh := ld h (by obtain ⟨_, _, o, _⟩ := a; exact o)
    obtain ⟨x', y', h2, k2, a2⟩ := does_fn (nn := nn) a (by omega) kind rb ok
    obtain ⟨h3, k3, a3⟩ := stands_now a2 (by omega) leave
    have w1 : wrapA .i64 ((i : Int) + 1) = ((i + 1 : Nat) : Int) := by rw [wrap64 (by omega) (by omega)]; omega
    obtain ⟨env1, r1, f1, f2, f9, f11, f13⟩ : ∃ env', runS Try.prog true plays_15 [⟨47, [x, y, .agg [int64 kind, int64 nn, vt]], h, .tup [x', y', .bool true], h2⟩, ⟨46, [x', y', int64 leave], h2, .bool true, h3⟩] env h = some (.upt [], [], env', h3) ∧ sv env' 1 = vs ∧ sv env' 2 = int64 leave ∧ sv env' 9 = x' ∧ sv env' 11 = y' ∧ sv env' 13 = int64 (i + 1 : Nat) := by
      have e1' : sv env 1 = .sl id 0 0 (lenOf vs) cap true 3 := by rw [e1]; exact hv
      have hl' : ∀ env x, ev env x = .sl id 0 0 (lenOf vs) cap true 3 → evalOp Try.prog (.lenL x) env h = .val (int64 (lenOf vs : Nat)) h := fun env x hx => by rw [qev_lenI, hx]
      obtain ⟨env', q1, q2, q3⟩ : ∃ env', runS Try.prog true plays_15 [⟨47, [x, y, .agg [int64 kind, int64 nn, vt]], h, .tup [x', y', .bool true], h2⟩, ⟨46, [x', y', int64 leave], h2, .bool true, h3⟩] env h = some (.upt [], [], env', h3) ∧ sv env' 1 = .sl id 0 0 (lenOf vs) cap true 3 ∧ (sv env' 2 = int64 leave ∧ sv env' 9 = x' ∧ sv env' 11 = y' ∧ sv env' 13 = int64 (i + 1 : Nat)) := by
        unfold plays_15
        simp [plays_9, plays_10, plays_11, plays_12, plays_14, runS, runR, Rs.seq, Rs.block, runOps, wanted_no, wanted_sv, ev_tm, ev_vl, sv_setD, sv_set, setD_none, qev_mov, qev_bin, qev_un, qev_lenI, qev_pick, qev_load1, qev_idxSl, idx2_sl, idxA2_ptr, opt_some, bin_add, bin_sub, bin_mul, bin_lss, bin_leq, bin_gtr, bin_geq, bin_eql, bin_neq, un_not, un_neg, qev_callv, qev_new1, qev_store1, qev_nilC, nilC_ptr, qev_fld, fld0, fldN, qev_extract, nth0, nth1, nth2, qev_eqPtr, sameP_nil, notIf, wanted_sv, callA_ok ok47, callA_ok ok46, e1', e2, e9, e11, e13, hl', hi', hiN, ldh, w1]
      exact ⟨env', q1, q2.trans hv.symm, q3⟩
    obtain ⟨env2, h4, L, o4⟩ := plays_loop tr hlen r (i + 1) env1 h3 x' y' (by omega) a3 ⟨f1, f2, f9, f11⟩ f13
    refine ⟨env2, h4, Loops.more (M := []) (M1 := []) (Dos.runGo _ (fun z hz => ?_) r1) L, o4⟩
    simp only [List.mem_cons, List.not_mem_nil, or_false] at hz
    rcases hz with e | e <;> subst e
    · exact k2
    · exact k3
end
end Go.Proofs.Ytmifpiglcphmoaa.DPlays

namespace Go.Proofs.Ytmifpiglcphmoaa.DPlays
open Go Go.Proofs.Ytmifpiglcphmoaa.Am Go.Proofs
attribute [local irreducible] Tree

section
variable {h0 : Hp} {cap used leave : Int} {va vb vs : AV} {b1 b2 : List UInt8}

/-- The bytes of both areas, lent. -/
theorem plays_lent {h1 : Hp} {b3 : Pos} {env : T AV} (k3 : Arr h1 b3 [int64 cap, int64 used, va, vb]) (ra : SlN h1 1 va b1.length (byt b1)) (oka : okSize (b1.length + 1) 1 = true) (rb : SlN h1 1 vb b2.length (byt b2)) (okb : okSize (b2.length + 1) 1 = true)
    (e1 : sv env 1 = vs) (e2 : sv env 2 = int64 leave) (e3 : sv env 3 = .ptr b3 0 0) :
    ∃ env' h3 i1 g1 i2 g2, Dos Try.prog 7 (.drawn plays_3) env h1 .go [] env' h3 ∧ Only [] h1 h3 ∧ Gro h3 i1 g1 (byt (b1 ++ [165])) ∧ Gro h3 i2 g2 (byt (b2 ++ [165])) ∧ i1 ≠ i2 ∧ h1.next.num ≤ i1.num ∧ h1.next.num ≤ i2.num ∧
      sv env' 1 = vs ∧ sv env' 2 = int64 leave ∧ sv env' 3 = .ptr b3 0 0 ∧ sv env' 7 = .sl i1 g1 0 b1.length (b1.length + 1) false 1 ∧ sv env' 8 = .sl i2 g2 0 b2.length (b2.length + 1) false 1 := by
  obtain ⟨i1, g1, h2, k1, gr1, o1, q1⟩ := lent_fn ra oka
  obtain ⟨i2, g2, h3, k2, gr2, o2, q2⟩ := lent_fn (rb.more o1) okb
  have old1 := gr1.old
  have old2 := gr2.old
  have l2 : read1 h1 b3 0 2 = some va := k3.one (i := 2) (by simp)
  have l3 : read1 h1 b3 0 3 = some vb := k3.one (i := 3) (by simp)
  have l3' : read1 h2 b3 0 3 = some vb := (Arr.more k3 o1).one (i := 3) (by simp)
  have hsound := recG_sound (P := Try.prog) (A := [⟨43, [va], h1, .sl i1 g1 0 b1.length (b1.length + 1) false 1, h2⟩, ⟨43, [vb], h2, .sl i2 g2 0 b2.length (b2.length + 1) false 1, h3⟩]) (by
    intro k hk
    simp only [List.mem_cons, List.not_mem_nil, or_false] at hk
    rcases hk with e | e <;> subst e
    · exact k1
    · exact k2)
  have R1 := recG_hit (P := Try.prog) 43 [va] h1 (.sl i1 g1 0 b1.length (b1.length + 1) false 1) h2 [⟨43, [vb], h2, .sl i2 g2 0 b2.length (b2.length + 1) false 1, h3⟩]
  have R2 := recG_next (P := Try.prog) (a := ⟨43, [va], h1, .sl i1 g1 0 b1.length (b1.length + 1) false 1, h2⟩) (recG_hit (P := Try.prog) 43 [vb] h2 (.sl i2 g2 0 b2.length (b2.length + 1) false 1) h3 []) (fun _ c => by
    have c : h2 = h1 := c
    rw [c] at old1
    omega)
  have bg1 := k1.begins.1
  have bg2 := k2.begins.1
  have hvb : eqAV 8 vb vb = true := rb.eqv 7
  generalize recG Try.prog [⟨43, [va], h1, .sl i1 g1 0 b1.length (b1.length + 1) false 1, h2⟩, ⟨43, [vb], h2, .sl i2 g2 0 b2.length (b2.length + 1) false 1, h3⟩] = R at *
  have hz : ∀ hh : Hp, (⟨hh.heap, hh.next, hh.ser, hh.lim⟩ : Hp) = hh := fun _ => rfl
  obtain ⟨env', acts, lds, e, f⟩ : ∃ env' acts lds, runD Try.prog R 0 plays_3 ⟨[], [], [], h1.next, env, h1⟩ = some ⟨acts, lds, [], h1.next, env', h3⟩ ∧ sv env' 1 = vs ∧ sv env' 2 = int64 leave ∧ sv env' 3 = .ptr b3 0 0 ∧ sv env' 7 = .sl i1 g1 0 b1.length (b1.length + 1) false 1 ∧ sv env' 8 = .sl i2 g2 0 b2.length (b2.length + 1) false 1 := by
    unfold plays_3
    simp [runD, stepD, actO, kindOf, lookBack, lookAgain, putT, remAl, insT, bit, wanted_no, wanted_sv, ev_tm, ev_vl, sv_setD, setD_none, qev_mov, opt_some, qev_load1, qev_fld, fld0, fldN, qev_callv, callA_ok ok43, hvb, e1, e2, e3, l2, l3, l3', bg1, bg2, R1, R2, hz]
  refine ⟨env', h3, i1, g1, i2, g2, Dos.drawn hsound (runDrawn_of (acts := acts) (lds := lds) (by simp [plays_3, skipIds, isAlloc, kindOf]) e), o1.trans o2, gr1.only o2 (by simp), gr2, num_ne (by omega), q1, ?_, f⟩
  have := o1.next
  omega

/-- What was lent, as bytes. -/
theorem lent_sl {h : Hp} {i : Pos} {g : Nat} {b : List UInt8} (a : Gro h i g (byt (b ++ [165]))) : SlN h 1 (.sl i g 0 b.length (b.length + 1) false 1) b.length (byt b) := by
  have := a.sl (n := b.length) (cap := b.length + 1) (ex := false) (by rw [byt_length]; simp)
  rw [byt_append, List.take_append_of_le_length (by rw [byt_length]; omega), List.take_of_length_le (by rw [byt_length]; omega)] at this
  exact this

/-- Both begin. -/
theorem plays_of {h3 : Hp} {va' vb' : AV} (o : Only [] h0 h3) (ra : SlN h3 1 va b1.length (byt b1)) (rb : SlN h3 1 vb b2.length (byt b2)) (ra' : SlN h3 1 va' b1.length (byt b1)) (rb' : SlN h3 1 vb' b2.length (byt b2)) :
    ∃ x y h4 h5, AmFn Try.prog 34 [int64 cap, int64 used, va', vb'] h3 (.tup [x, int64 (ofE cap used b1 b2)]) h4 ∧ AmFn Try.prog 44 [int64 cap, int64 used, va, vb] h4 (.tup [y, int64 (ofE cap used b1 b2)]) h5 ∧ Only [] h3 h4 ∧ Only [] h4 h5 ∧ ((x = .nilPtr ∧ y = .nilPtr) ∨ ∃ p q, x = .ptr p 0 0 ∧ y = .ptr q 0 0) ∧
      ∃ κ : Pos → Nat, (∀ id, id.num < h3.next.num → κ id = 0) ∧ Pair κ h5 0 x y := by
  by_cases he : ofE cap used b1 b2 = 0
  · obtain ⟨κ1, h4, V, p, k1, g1, o1, A, _⟩ := of_yes (fun _ => 0) 1 ra' rb' he
    obtain ⟨κ2, h5, V', q, k2, g2, o2, B, _⟩ := rof_yes κ1 11 (ra.more o1) (rb.more o1) he
    refine ⟨_, _, h4, h5, by rw [he]; exact k1, by rw [he]; exact k2, o1, o2, .inr ⟨p, q, rfl, rfl⟩, κ2, fun id c => (g2 id (by have := o1.next; omega)).trans (g1 id c), .inr ⟨_, p, q, V, [], V', [], rfl, rfl, A.more o2 g2, B, .of he, Nat.le_refl _⟩⟩
  · exact ⟨_, _, h3, h3, of_no ra' rb' he, rof_no ra rb he, .refl _ _, .refl _ _, .inl ⟨rfl, rfl⟩, fun _ => 0, fun _ _ => rfl, .inl ⟨rfl, rfl⟩⟩

theorem Pair.chg {κ : Pos → Nat} {h h' : Hp} {n : Nat} {x y : AV} (a : Pair κ h n x y) (c : Chg κ (fun k => k = 0) h h') : Pair κ h' n x y := by
  rcases a with q | ⟨d, p, q, V, ws, V', ws', ex, ey, dk, rk, md, len⟩
  · exact .inl q
  · exact .inr ⟨d, p, q, V, ws, V', ws', ex, ey, dk.chg c .refl (by omega), rk.chg c .refl (by omega), md, len⟩

/-- DiskPlays. -/
theorem plays_fn {l : List AV} (ts : Tree Try.prog h0 (0 + 3) 57 l) (tr : Tree Try.prog h0 (0 + 3 + 1) 58 [vs]) (leave : Int) : ∃ h', AmFn Try.prog 7 [.agg l, vs, int64 leave] h0 (.bool true) h' := by
  obtain ⟨cap, used, va, vb, b1, b2, e, ra, oka, rb, okb⟩ := start_small ts
  subst e
  obtain ⟨h1, bx, o1, n1, c1⟩ := boxed (fun _ => 0) 0 h0 [int64 cap, int64 used, va, vb]
  have k3 := c1.arr
  have hlen := steps_len tr h1
  obtain ⟨env1, r1, e1, e2, e3⟩ : ∃ env', runOps Try.prog plays_0 (setArgs .e 0 [.agg [int64 cap, int64 used, va, vb], vs, int64 leave]) h0 = some (env', h1) ∧ sv env' 1 = vs ∧ sv env' 2 = int64 leave ∧ sv env' 3 = .ptr h0.next 0 0 := by
    simp [plays_0, sv_args, runOps, wanted_no, wanted_sv, ev_tm, ev_vl, sv_setD, sv_set, setD_none, qev_mov, qev_bin, qev_un, qev_lenI, qev_pick, qev_load1, qev_idxSl, idx2_sl, idxA2_ptr, opt_some, bin_add, bin_sub, bin_mul, bin_lss, bin_leq, bin_gtr, bin_geq, bin_eql, bin_neq, un_not, un_neg, qev_callv, qev_new1, qev_store1, qev_nilC, nilC_ptr, qev_fld, fld0, fldN, qev_extract, nth0, nth1, nth2, qev_eqPtr, sameP_nil, notIf, bx]
  rcases Nat.lt_or_ge 60 (lenOf vs) with hm | hm
  · have hm' : (60 : Int) < (lenOf vs : Nat) := by omega
    obtain ⟨env2, r2, f6⟩ : ∃ env', runS Try.prog true (.seq (.region plays_1) (.cond (tm 17) (.seq (.region plays_2) .ret) .skip)) [⟨35, [], h1, .bool true, h1⟩] env1 h1 = some (.ret, [], env', h1) ∧ sv env' 6 = .bool true := by
      simp [plays_1, plays_2, runS, runR, Rs.seq, Rs.block, runOps, wanted_no, wanted_sv, ev_tm, ev_vl, sv_setD, sv_set, setD_none, qev_mov, qev_bin, qev_un, qev_lenI, qev_pick, qev_load1, qev_idxSl, idx2_sl, idxA2_ptr, opt_some, bin_add, bin_sub, bin_mul, bin_lss, bin_leq, bin_gtr, bin_geq, bin_eql, bin_neq, un_not, un_neg, qev_callv, qev_new1, qev_store1, qev_nilC, nilC_ptr, qev_fld, fld0, fldN, qev_extract, nth0, nth1, nth2, qev_eqPtr, sameP_nil, notIf, callA_ok ok35, e1, e2, e3, hlen, hm']
    exact ⟨h1, AmFn.dos plays_code (by simp) (Dos.seq (M := []) (M1 := []) (Dos.region r1) (Dos.left (Dos.runRet _ (by intro z hz; simp at hz; subst hz; exact known_fn h1) r2) (by simp))) (vs := [sv env2 6]) rfl f6⟩
  · have hm' : ¬ (60 : Int) < (lenOf vs : Nat) := by omega
    obtain ⟨env2, r2, f1, f2, f3⟩ : ∃ env', runS Try.prog true (.seq (.region plays_1) (.cond (tm 17) (.seq (.region plays_2) .ret) .skip)) [] env1 h1 = some (.upt [], [], env', h1) ∧ sv env' 1 = vs ∧ sv env' 2 = int64 leave ∧ sv env' 3 = .ptr h0.next 0 0 := by
      simp [plays_1, runS, runR, Rs.seq, Rs.block, runOps, wanted_no, wanted_sv, ev_tm, ev_vl, sv_setD, sv_set, setD_none, qev_mov, qev_bin, qev_un, qev_lenI, qev_pick, qev_load1, qev_idxSl, idx2_sl, idxA2_ptr, opt_some, bin_add, bin_sub, bin_mul, bin_lss, bin_leq, bin_gtr, bin_geq, bin_eql, bin_neq, un_not, un_neg, qev_callv, qev_new1, qev_store1, qev_nilC, nilC_ptr, qev_fld, fld0, fldN, qev_extract, nth0, nth1, nth2, qev_eqPtr, sameP_nil, notIf, e1, e2, e3, hlen, hm']
    obtain ⟨env3, h3, i1, g1, i2, g2, d3, o3, gr1, gr2, hne, q1, q2, j1, j2, j3, j7, j8⟩ := plays_lent k3 (ra.more o1) oka (rb.more o1) okb f1 f2 f3
    have o13 := o1.trans o3
    have k33 := Arr.more k3 o3
    obtain ⟨x, y, h4, h5, kO, kR, o4, o5, xy, κ, old, pr⟩ := plays_of (cap := cap) (used := used) o13 (ra.more o13) (rb.more o13) (lent_sl gr1) (lent_sl gr2)
    have l30 : read1 h3 h0.next 0 0 = some (int64 cap) := k33.one (i := 0) (by simp)
    have l31 : read1 h3 h0.next 0 1 = some (int64 used) := k33.one (i := 1) (by simp)
    have k34 := Arr.more k33 o4
    have l40 : read1 h4 h0.next 0 0 = some (int64 cap) := k34.one (i := 0) (by simp)
    have l41 : read1 h4 h0.next 0 1 = some (int64 used) := k34.one (i := 1) (by simp)
    have l42 : read1 h4 h0.next 0 2 = some va := k34.one (i := 2) (by simp)
    have l43 : read1 h4 h0.next 0 3 = some vb := k34.one (i := 3) (by simp)
    generalize hee : ofE cap used b1 b2 = ee at *
    obtain ⟨env4, r4, m1, m2, m3, m7, m8, m9, m10⟩ : ∃ env', runS Try.prog true (.region plays_4) [⟨34, [int64 cap, int64 used, .sl i1 g1 0 b1.length (b1.length + 1) false 1, .sl i2 g2 0 b2.length (b2.length + 1) false 1], h3, .tup [x, int64 ee], h4⟩] env3 h3 = some (.upt [], [], env', h4) ∧ sv env' 1 = vs ∧ sv env' 2 = int64 leave ∧ sv env' 3 = .ptr h0.next 0 0 ∧ sv env' 7 = .sl i1 g1 0 b1.length (b1.length + 1) false 1 ∧ sv env' 8 = .sl i2 g2 0 b2.length (b2.length + 1) false 1 ∧ sv env' 9 = x ∧ sv env' 10 = int64 ee := by
      simp [plays_4, runS, runR, Rs.seq, Rs.block, runOps, wanted_no, wanted_sv, ev_tm, ev_vl, sv_setD, sv_set, setD_none, qev_mov, qev_bin, qev_un, qev_lenI, qev_pick, qev_load1, qev_idxSl, idx2_sl, idxA2_ptr, opt_some, bin_add, bin_sub, bin_mul, bin_lss, bin_leq, bin_gtr, bin_geq, bin_eql, bin_neq, un_not, un_neg, qev_callv, qev_new1, qev_store1, qev_nilC, nilC_ptr, qev_fld, fld0, fldN, qev_extract, nth0, nth1, nth2, qev_eqPtr, sameP_nil, notIf, callA_ok ok34, j1, j2, j3, j7, j8, l30, l31]
    obtain ⟨env5, r5, p1, p2, p3, p7, p8, p9, p10, p11, p12⟩ : ∃ env', runS Try.prog true (.region plays_5) [⟨44, [int64 cap, int64 used, va, vb], h4, .tup [y, int64 ee], h5⟩] env4 h4 = some (.upt [], [], env', h5) ∧ sv env' 1 = vs ∧ sv env' 2 = int64 leave ∧ sv env' 3 = .ptr h0.next 0 0 ∧ sv env' 7 = .sl i1 g1 0 b1.length (b1.length + 1) false 1 ∧ sv env' 8 = .sl i2 g2 0 b2.length (b2.length + 1) false 1 ∧ sv env' 9 = x ∧ sv env' 10 = int64 ee ∧ sv env' 11 = y ∧ sv env' 12 = int64 ee := by
      simp [plays_5, runS, runR, Rs.seq, Rs.block, runOps, wanted_no, wanted_sv, ev_tm, ev_vl, sv_setD, sv_set, setD_none, qev_mov, qev_bin, qev_un, qev_lenI, qev_pick, qev_load1, qev_idxSl, idx2_sl, idxA2_ptr, opt_some, bin_add, bin_sub, bin_mul, bin_lss, bin_leq, bin_gtr, bin_geq, bin_eql, bin_neq, un_not, un_neg, qev_callv, qev_new1, qev_store1, qev_nilC, nilC_ptr, qev_fld, fld0, fldN, qev_extract, nth0, nth1, nth2, qev_eqPtr, sameP_nil, notIf, callA_ok ok44, m1, m2, m3, m7, m8, m9, m10, l40, l41, l42, l43]
    -- what was lent stands
    have gold1 := gr1.old
    have gold2 := gr2.old
    have o35 := o4.trans o5
    have o15 := o13.trans o35
    have gr1 := gr1.only o35 (by simp)
    have gr2 := gr2.only o35 (by simp)
    have k35 := Arr.more k33 o35
    have hb1 : b1.length + 1 ≤ 140737488355328 := by
      unfold okSize at oka
      simp only [Bool.and_eq_true, ble_iff] at oka
      exact oka.1.1
    have hb2 : b2.length + 1 ≤ 140737488355328 := by
      unfold okSize at okb
      simp only [Bool.and_eq_true, ble_iff] at okb
      exact okb.1.1
    obtain ⟨h6, k6, o6⟩ := left_fn gr1 rfl (ra.more o15) hb1
    have old1 := gr1.old
    have old2 := gr2.old
    have n13 := o13.next
    have n35 := o35.next
    have o16 : Only [] h0 h6 := ((o15.mono (S' := [i1]) (by simp)).trans o6).mono fun z hz => .inr (by simp at hz; subst hz; omega)
    have gr2' := gr2.only o6 (by simpa using hne.symm)
    obtain ⟨h7, k7, o7⟩ := left_fn gr2' rfl (rb.more o16) hb2
    have oX : Only [] h0 h7 := ((o16.mono (S' := [i2]) (by simp)).trans o7).mono fun z hz => .inr (by simp at hz; subst hz; omega)
    have hk1 : κ i1 = 0 := old i1 gold1
    have hk2 : κ i2 = 0 := old i2 gold2
    have c6 : Chg κ (fun k => k = 0) h5 h6 := ⟨[i1], o6, fun z hz _ => by simp at hz; subst hz; exact hk1⟩
    have c7 : Chg κ (fun k => k = 0) h6 h7 := ⟨[i2], o7, fun z hz _ => by simp at hz; subst hz; exact hk2⟩
    have now : Now h0 h7 0 x y := ⟨κ, fun id q => old id (by omega), oX, (pr.chg c6).chg c7⟩
    obtain ⟨h8, k8, now8⟩ := stands_now now (by omega) leave
    have hb31 : h0.next ≠ i1 := num_ne (by omega)
    have hb32 : h0.next ≠ i2 := num_ne (by omega)
    have k36 := k35.only o6 (by simpa using hb31)
    have k37 := k36.only o7 (by simpa using hb32)
    have l52 : read1 h5 h0.next 0 2 = some va := k35.one (i := 2) (by simp)
    have l63 : read1 h6 h0.next 0 3 = some vb := k36.one (i := 3) (by simp)
    have k6w : AmFn Try.prog 45 [.sl i1 g1 0 b1.length (b1.length + 1) false 1, va] h5 (.bool true) h6 := k6
    have k7w : AmFn Try.prog 45 [.sl i2 g2 0 b2.length (b2.length + 1) false 1, vb] h6 (.bool true) h7 := k7
    obtain ⟨env6, r6, u1, u2, u9, u11⟩ : ∃ env', runS Try.prog true (.seq (.region plays_6) (.cond (tm 77) (.seq (.region plays_7) .ret) .skip)) [⟨45, [.sl i1 g1 0 b1.length (b1.length + 1) false 1, va], h5, .bool true, h6⟩, ⟨45, [.sl i2 g2 0 b2.length (b2.length + 1) false 1, vb], h6, .bool true, h7⟩, ⟨46, [x, y, int64 leave], h7, .bool true, h8⟩] env5 h5 = some (.upt [], [], env', h8) ∧ sv env' 1 = vs ∧ sv env' 2 = int64 leave ∧ sv env' 9 = x ∧ sv env' 11 = y := by
      rcases xy with ⟨ex, ey⟩ | ⟨p, q, ex, ey⟩ <;> subst ex ey
      · simp [plays_6, runS, runR, Rs.seq, Rs.block, runOps, wanted_no, wanted_sv, ev_tm, ev_vl, sv_setD, sv_set, setD_none, qev_mov, qev_bin, qev_un, qev_lenI, qev_pick, qev_load1, qev_idxSl, idx2_sl, idxA2_ptr, opt_some, bin_add, bin_sub, bin_mul, bin_lss, bin_leq, bin_gtr, bin_geq, bin_eql, bin_neq, un_not, un_neg, qev_callv, qev_new1, qev_store1, qev_nilC, nilC_ptr, qev_fld, fld0, fldN, qev_extract, nth0, nth1, nth2, qev_eqPtr, sameP_nil, notIf, wanted_sv, callA_ok ok45, callA_ok ok46, p1, p2, p3, p7, p8, p9, p10, p11, p12, l52, l63, sameP_nn, bin_neqBb]
      · simp [plays_6, runS, runR, Rs.seq, Rs.block, runOps, wanted_no, wanted_sv, ev_tm, ev_vl, sv_setD, sv_set, setD_none, qev_mov, qev_bin, qev_un, qev_lenI, qev_pick, qev_load1, qev_idxSl, idx2_sl, idxA2_ptr, opt_some, bin_add, bin_sub, bin_mul, bin_lss, bin_leq, bin_gtr, bin_geq, bin_eql, bin_neq, un_not, un_neg, qev_callv, qev_new1, qev_store1, qev_nilC, nilC_ptr, qev_fld, fld0, fldN, qev_extract, nth0, nth1, nth2, qev_eqPtr, sameP_nil, notIf, wanted_sv, callA_ok ok45, callA_ok ok46, p1, p2, p3, p7, p8, p9, p10, p11, p12, l52, l63, bin_neqBb]
    obtain ⟨env7, r7, v1, v2, v9, v11, v13⟩ : ∃ env', runOps Try.prog plays_8 env6 h8 = some (env', h8) ∧ sv env' 1 = vs ∧ sv env' 2 = int64 leave ∧ sv env' 9 = x ∧ sv env' 11 = y ∧ sv env' 13 = int64 ((0 : Nat) : Int) := by
      simp [plays_8, runOps, wanted_no, wanted_sv, ev_tm, ev_vl, sv_setD, sv_set, setD_none, qev_mov, qev_bin, qev_un, qev_lenI, qev_pick, qev_load1, qev_idxSl, idx2_sl, idxA2_ptr, opt_some, bin_add, bin_sub, bin_mul, bin_lss, bin_leq, bin_gtr, bin_geq, bin_eql, bin_neq, un_not, un_neg, qev_callv, qev_new1, qev_store1, qev_nilC, nilC_ptr, qev_fld, fld0, fldN, qev_extract, nth0, nth1, nth2, qev_eqPtr, sameP_nil, notIf, u1, u2, u9, u11]
    obtain ⟨env8, h9, L, o9⟩ := plays_loop tr hm (lenOf vs) 0 env7 h8 x y (by omega) now8 ⟨v1, v2, v9, v11⟩ v13
    obtain ⟨env9, r9, f6⟩ : ∃ env', runS Try.prog true (.seq (.region plays_16) .ret) [⟨35, [], h9, .bool true, h9⟩] env8 h9 = some (.ret, [], env', h9) ∧ sv env' 6 = .bool true := by
      simp [plays_16, runS, runR, Rs.seq, Rs.block, runOps, wanted_no, wanted_sv, ev_tm, ev_vl, sv_setD, sv_set, setD_none, qev_mov, qev_bin, qev_un, qev_lenI, qev_pick, qev_load1, qev_idxSl, idx2_sl, idxA2_ptr, opt_some, bin_add, bin_sub, bin_mul, bin_lss, bin_leq, bin_gtr, bin_geq, bin_eql, bin_neq, un_not, un_neg, qev_callv, qev_new1, qev_store1, qev_nilC, nilC_ptr, qev_fld, fld0, fldN, qev_extract, nth0, nth1, nth2, qev_eqPtr, sameP_nil, notIf, callA_ok ok35]
    have body : Dos Try.prog 7 plays_fu.body (setArgs .e 0 [.agg [int64 cap, int64 used, va, vb], vs, int64 leave]) h0 .ret [] env9 h9 := by
      unfold plays_fu
      refine Dos.seq (M := []) (M1 := []) (Dos.region r1) (Dos.seq (M := []) (M1 := []) (Dos.runGo [] (by simp) r2) (Dos.seq (M := []) (M1 := []) d3 (Dos.seq (M := []) (M1 := []) (Dos.runGo _ (by intro z hz; simp only [List.mem_singleton] at hz; subst hz; exact kO) r4) (Dos.seq (M := []) (M1 := []) (Dos.runGo _ (by intro z hz; simp only [List.mem_singleton] at hz; subst hz; exact kR) r5) (Dos.seq (M := []) (M1 := []) (Dos.runGo _ (fun z hz => ?_) r6) (Dos.seq (M := []) (M1 := []) (Dos.seq (M := []) (M1 := []) (Dos.region r7) (Dos.block (i := 0) (o := .exit 0) (Dos.loop L))) (Dos.runRet _ (by intro z hz; simp at hz; subst hz; exact known_fn h9) r9)))))))
      simp only [List.mem_cons, List.not_mem_nil, or_false] at hz
      rcases hz with e | e | e <;> subst e
      · exact k6w
      · exact k7w
      · exact k8
    exact ⟨h9, AmFn.dos plays_code (by simp) body (vs := [sv env9 6]) rfl f6⟩
end
end Go.Proofs.Ytmifpiglcphmoaa.DPlays
