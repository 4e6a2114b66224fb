import Derived.Test.YtpcddenijmhbfaaTogA
/- THE WALK'S PARTS, part B: what the functions of the law compute, over the abstract machine that stands beside this text. No condition. -/
set_option linter.unusedSimpArgs false
set_option linter.unusedVariables false
namespace Go.Proofs.Ytpcddenijmhbfaa.Tog
open Go Go.Proofs.Ytpcddenijmhbfaa.Am Go.Proofs

theorem add_fn (h : Hp) (a b : Int) : AmFn Try.prog 12 [int64 a, int64 b] h (int64 (wrapA .i64 (a + b))) h := by
  obtain ⟨env, e0, f0, f1⟩ : ∃ env, runOps Try.prog add_0 (setArgs .e 0 [int64 a, int64 b]) h = some (env, h) ∧ sv env 0 = int64 a ∧ sv env 1 = int64 b := by
    simp [add_0, sv_args, runOps, wanted_no, wanted_sv, ev_tm, ev_vl, sv_setD, sv_set, setD_none, qev_mov, qev_bin, qev_un, qev_lenI, qev_pick, qev_load1, qev_idxSl, idx2_sl, idxA2_ptr, opt_some, bin_add, bin_sub, bin_mul, bin_lss, bin_leq, bin_gtr, bin_geq, bin_eql, bin_neq, un_not, un_neg, qev_callv, qev_new1, qev_store1]
  obtain ⟨env', e1, f2⟩ : ∃ env', runOps Try.prog add_1 env h = some (env', h) ∧ sv env' 4 = int64 (wrapA .i64 (a + b)) := by
    simp [add_1, f0, f1, runOps, wanted_no, wanted_sv, ev_tm, ev_vl, sv_setD, sv_set, setD_none, qev_mov, qev_bin, qev_un, qev_lenI, qev_pick, qev_load1, qev_idxSl, idx2_sl, idxA2_ptr, opt_some, bin_add, bin_sub, bin_mul, bin_lss, bin_leq, bin_gtr, bin_geq, bin_eql, bin_neq, un_not, un_neg, qev_callv, qev_new1, qev_store1]
  exact AmFn.intro add_code (by simp [add_fu]) fun callers => ⟨[], env', leads_seq.trans ((leads_region e0).trans (leads_seq.trans (leads_region e1))), _, rfl, f2⟩

theorem delta_fn (h : Hp) (a b : Int) : AmFn Try.prog 13 [int64 a, int64 b] h (int64 (wrapA .i64 (b - a))) h := by
  obtain ⟨env, e0, f0, f1⟩ : ∃ env, runOps Try.prog delta_0 (setArgs .e 0 [int64 a, int64 b]) h = some (env, h) ∧ sv env 0 = int64 a ∧ sv env 1 = int64 b := by
    simp [delta_0, sv_args, runOps, wanted_no, wanted_sv, ev_tm, ev_vl, sv_setD, sv_set, setD_none, qev_mov, qev_bin, qev_un, qev_lenI, qev_pick, qev_load1, qev_idxSl, idx2_sl, idxA2_ptr, opt_some, bin_add, bin_sub, bin_mul, bin_lss, bin_leq, bin_gtr, bin_geq, bin_eql, bin_neq, un_not, un_neg, qev_callv, qev_new1, qev_store1]
  obtain ⟨env', e1, f2⟩ : ∃ env', runOps Try.prog delta_1 env h = some (env', h) ∧ sv env' 4 = int64 (wrapA .i64 (b - a)) := by
    simp [delta_1, f0, f1, runOps, wanted_no, wanted_sv, ev_tm, ev_vl, sv_setD, sv_set, setD_none, qev_mov, qev_bin, qev_un, qev_lenI, qev_pick, qev_load1, qev_idxSl, idx2_sl, idxA2_ptr, opt_some, bin_add, bin_sub, bin_mul, bin_lss, bin_leq, bin_gtr, bin_geq, bin_eql, bin_neq, un_not, un_neg, qev_callv, qev_new1, qev_store1]
  exact AmFn.intro delta_code (by simp [delta_fu]) fun callers => ⟨[], env', leads_seq.trans ((leads_region e0).trans (leads_seq.trans (leads_region e1))), _, rfl, f2⟩
/-- Many, as a plain sum. -/
noncomputable def manyS (base : Int) (acc : Int) (xs : List Int) : Int := xs.foldl (fun a x => wrapA .i64 (a + wrapA .i64 (x - base))) acc

theorem ok12 : okCall Try.prog 12 = true := by kernel_rfl
theorem ok13 : okCall Try.prog 13 = true := by kernel_rfl

theorem many_loop {xs : List Int} {h : Hp} {v : AV} (hs : SlR h v (xs.map int64)) (hlen : xs.length < 4611686018427387904) (base : Int) (cx : Cx) (k : List Am.Item) : ∀ (n i : Nat) (acc : Int) (env : T AV), i + n = xs.length →
    sv env 9 = v → sv env 10 = int64 xs.length → sv env 11 = int64 i → sv env 5 = int64 acc → sv env 0 = int64 base →
    ∃ env', Leads Try.prog (sOf cx (.code many_7 :: .inLoop many_7 :: .inBlock 0 :: k) env h) (sOf cx k env' h) ∧ sv env' 5 = int64 (manyS base acc (xs.drop i)) := by
  intro n
  induction n with
  | zero =>
    intro i acc env hi h9 h10 h11 h5 h0
    obtain ⟨env1, e1, f12, f5⟩ : ∃ env1, runOps Try.prog many_3 env h = some (env1, h) ∧ sv env1 12 = .bool false ∧ sv env1 5 = int64 acc := by
      simp [many_3, runOps, wanted_no, wanted_sv, ev_tm, ev_vl, sv_setD, sv_set, setD_none, qev_mov, qev_bin, qev_un, qev_lenI, qev_pick, qev_load1, qev_idxSl, idx2_sl, idxA2_ptr, opt_some, bin_add, bin_sub, bin_mul, bin_lss, bin_leq, bin_gtr, bin_geq, bin_eql, bin_neq, un_not, un_neg, qev_callv, qev_new1, qev_store1, h9, h10, h11, h5]
      omega
    refine ⟨env1, leads_seq.trans ((leads_region e1).trans (leads_seq.trans ((leads_cond (t := false) f12).trans (leads_exit rfl)))), ?_⟩
    rw [f5, List.drop_eq_nil_of_le (by omega)]
    rfl
  | succ n ih =>
    intro i acc env hi h9 h10 h11 h5 h0
    have hil : i < xs.length := by omega
    obtain ⟨id, g, off, cap, ex, hv, row⟩ := SlR.sl_or hs (x := int64 xs[i]) (by simp)
    have hone := row.one i (by simpa using hil)
    simp [List.getElem?_eq_getElem hil] at hone
    obtain ⟨env1, e1, f12, f5, f9, f10, f11, f0⟩ : ∃ env1, runOps Try.prog many_3 env h = some (env1, h) ∧ sv env1 12 = .bool true ∧ sv env1 5 = int64 acc ∧ sv env1 9 = .sl id g off xs.length cap ex 1 ∧ sv env1 10 = int64 xs.length ∧ sv env1 11 = int64 i ∧ sv env1 0 = int64 base := by
      simp [many_3, runOps, wanted_no, wanted_sv, ev_tm, ev_vl, sv_setD, sv_set, setD_none, qev_mov, qev_bin, qev_un, qev_lenI, qev_pick, qev_load1, qev_idxSl, idx2_sl, idxA2_ptr, opt_some, bin_add, bin_sub, bin_mul, bin_lss, bin_leq, bin_gtr, bin_geq, bin_eql, bin_neq, un_not, un_neg, qev_callv, qev_new1, qev_store1, h9, h10, h11, h5, h0, hv]
      omega
    obtain ⟨env2, e2, k5, k7, k9, k10, k11, k0⟩ : ∃ env2, runOps Try.prog many_4 env1 h = some (env2, h) ∧ sv env2 5 = int64 acc ∧ sv env2 7 = int64 xs[i] ∧ sv env2 9 = .sl id g off xs.length cap ex 1 ∧ sv env2 10 = int64 xs.length ∧ sv env2 11 = int64 i ∧ sv env2 0 = int64 base := by
      simp [many_4, runOps, wanted_no, wanted_sv, ev_tm, ev_vl, sv_setD, sv_set, setD_none, qev_mov, qev_bin, qev_un, qev_lenI, qev_pick, qev_load1, qev_idxSl, idx2_sl, idxA2_ptr, opt_some, bin_add, bin_sub, bin_mul, bin_lss, bin_leq, bin_gtr, bin_geq, bin_eql, bin_neq, un_not, un_neg, qev_callv, qev_new1, qev_store1, f5, f9, f10, f11, f0, hil, hone]
    obtain ⟨env3, e3, m15, m16, m17, m9, m10, m11, m0⟩ : ∃ env3, runOps Try.prog (many_5.take 3) env2 h = some (env3, h) ∧ sv env3 15 = int64 acc ∧ sv env3 16 = int64 base ∧ sv env3 17 = int64 xs[i] ∧ sv env3 9 = .sl id g off xs.length cap ex 1 ∧ sv env3 10 = int64 xs.length ∧ sv env3 11 = int64 i ∧ sv env3 0 = int64 base := by
      simp [many_5, runOps, wanted_no, wanted_sv, ev_tm, ev_vl, sv_setD, sv_set, setD_none, qev_mov, qev_bin, qev_un, qev_lenI, qev_pick, qev_load1, qev_idxSl, idx2_sl, idxA2_ptr, opt_some, bin_add, bin_sub, bin_mul, bin_lss, bin_leq, bin_gtr, bin_geq, bin_eql, bin_neq, un_not, un_neg, qev_callv, qev_new1, qev_store1, k5, k7, k9, k10, k11, k0]
    have hd := delta_fn h base xs[i]
    obtain ⟨env4, e4, p5, p9, p10, p11, p0⟩ : ∃ env4, runOps Try.prog (many_5.drop 4) (setD env3 (some (Pos.ofNat 18)) (int64 (wrapA .i64 (xs[i] - base)))) h = some (env4, h) ∧ sv env4 5 = int64 (wrapA .i64 (acc + wrapA .i64 (xs[i] - base))) ∧ sv env4 9 = .sl id g off xs.length cap ex 1 ∧ sv env4 10 = int64 xs.length ∧ sv env4 11 = int64 i ∧ sv env4 0 = int64 base := by
      simp [many_5, runOps, wanted_no, wanted_sv, ev_tm, ev_vl, sv_setD, sv_set, setD_none, qev_mov, qev_bin, qev_un, qev_lenI, qev_pick, qev_load1, qev_idxSl, idx2_sl, idxA2_ptr, opt_some, bin_add, bin_sub, bin_mul, bin_lss, bin_leq, bin_gtr, bin_geq, bin_eql, bin_neq, un_not, un_neg, qev_callv, qev_new1, qev_store1, m15, m9, m10, m11, m0]
    obtain ⟨env5, e5, q5, q9, q10, q11, q0⟩ : ∃ env5, runOps Try.prog many_6 env4 h = some (env5, h) ∧ sv env5 5 = int64 (wrapA .i64 (acc + wrapA .i64 (xs[i] - base))) ∧ sv env5 9 = v ∧ sv env5 10 = int64 xs.length ∧ sv env5 11 = int64 ((i + 1 : Nat) : Int) ∧ sv env5 0 = int64 base := by
      have : wrapA .i64 ((i : Int) + 1) = (i : Int) + 1 := wrap64 (by omega) (by omega)
      simp [many_6, runOps, wanted_no, wanted_sv, ev_tm, ev_vl, sv_setD, sv_set, setD_none, qev_mov, qev_bin, qev_un, qev_lenI, qev_pick, qev_load1, qev_idxSl, idx2_sl, idxA2_ptr, opt_some, bin_add, bin_sub, bin_mul, bin_lss, bin_leq, bin_gtr, bin_geq, bin_eql, bin_neq, un_not, un_neg, qev_callv, qev_new1, qev_store1, p5, p9, p10, p11, p0, this, hv]
    obtain ⟨env', L, r5⟩ := ih (i + 1) _ env5 (by omega) q9 q10 q11 q5 q0
    refine ⟨env', ?_, ?_⟩
    · refine leads_seq.trans ((leads_region e1).trans (leads_seq.trans ((leads_cond (t := true) f12).trans (leads_skip.trans (leads_seq.trans (leads_block.trans (leads_seq.trans ((leads_region e2).trans (leads_enter.trans ?_)))))))))
      refine (leads_ops (l := many_5.take 3) e3).trans ((leads_call rfl rfl (f := 13) (args := [int64 base, int64 xs[i]]) ?_ hd).trans ?_)
      · simp [runOps, wanted_no, wanted_sv, ev_tm, ev_vl, sv_setD, sv_set, setD_none, qev_mov, qev_bin, qev_un, qev_lenI, qev_pick, qev_load1, qev_idxSl, idx2_sl, idxA2_ptr, opt_some, bin_add, bin_sub, bin_mul, bin_lss, bin_leq, bin_gtr, bin_geq, bin_eql, bin_neq, un_not, un_neg, qev_callv, qev_new1, qev_store1, callA_ok ok13, m16, m17]
      · exact (leads_ops (l := many_5.drop 4) (rest := []) e4).trans (leads_opsNil.trans (leads_inBlock.trans ((leads_region e5).trans (leads_inLoop.trans L))))
    · rw [r5, List.drop_eq_getElem_cons hil]
      rfl
theorem many_fn {xs : List Int} {h : Hp} {v : AV} (hs : SlR h v (xs.map int64)) (hlen : xs.length < 4611686018427387904) (base : Int) : AmFn Try.prog 8 [int64 base, v] h (int64 (manyS base base xs)) h := by
  refine AmFn.ends many_code (by simp [many_fu]) fun callers => ?_
  obtain ⟨env0, e0, a0, a1⟩ : ∃ env, runOps Try.prog many_0 (setArgs .e 0 [int64 base, v]) h = some (env, h) ∧ sv env 0 = int64 base ∧ sv env 1 = v := by
    simp [many_0, sv_args, runOps, wanted_no, wanted_sv, ev_tm, ev_vl, sv_setD, sv_set, setD_none, qev_mov, qev_bin, qev_un, qev_lenI, qev_pick, qev_load1, qev_idxSl, idx2_sl, idxA2_ptr, opt_some, bin_add, bin_sub, bin_mul, bin_lss, bin_leq, bin_gtr, bin_geq, bin_eql, bin_neq, un_not, un_neg, qev_callv, qev_new1, qev_store1]
  obtain ⟨env1, e1, b0, b1, b5⟩ : ∃ env, runOps Try.prog many_1 env0 h = some (env, h) ∧ sv env 0 = int64 base ∧ sv env 1 = v ∧ sv env 5 = int64 base := by
    simp [many_1, runOps, wanted_no, wanted_sv, ev_tm, ev_vl, sv_setD, sv_set, setD_none, qev_mov, qev_bin, qev_un, qev_lenI, qev_pick, qev_load1, qev_idxSl, idx2_sl, idxA2_ptr, opt_some, bin_add, bin_sub, bin_mul, bin_lss, bin_leq, bin_gtr, bin_geq, bin_eql, bin_neq, un_not, un_neg, qev_callv, qev_new1, qev_store1, a0, a1]
  have hl := hs.len Try.prog (setD env1 (some (Pos.ofNat 9)) v) (tm 9) (by simp [ev_tm, sv_setD])
  obtain ⟨env2, e2, c0, c5, c9, c10, c11⟩ : ∃ env, runOps Try.prog many_2 env1 h = some (env, h) ∧ sv env 0 = int64 base ∧ sv env 5 = int64 base ∧ sv env 9 = v ∧ sv env 10 = int64 xs.length ∧ sv env 11 = int64 ((0 : Nat) : Int) := by
    simp [many_2, runOps, wanted_no, wanted_sv, ev_tm, ev_vl, sv_setD, qev_mov, hl, b0, b1, b5]
  obtain ⟨env3, L, d5⟩ := many_loop hs hlen base (cxF 8 callers) [.code (.seq (.region many_8) .ret)] xs.length 0 base env2 (by omega) c9 c10 c11 c5 c0
  obtain ⟨env4, e4, g4⟩ : ∃ env, runOps Try.prog many_8 env3 h = some (env, h) ∧ sv env 4 = int64 (manyS base base xs) := by
    simp [many_8, runOps, wanted_no, wanted_sv, ev_tm, ev_vl, sv_setD, sv_set, setD_none, qev_mov, qev_bin, qev_un, qev_lenI, qev_pick, qev_load1, qev_idxSl, idx2_sl, idxA2_ptr, opt_some, bin_add, bin_sub, bin_mul, bin_lss, bin_leq, bin_gtr, bin_geq, bin_eql, bin_neq, un_not, un_neg, qev_callv, qev_new1, qev_store1, d5]
  exact Leads.ends (leads_seq.trans <| (leads_region e0).trans <| leads_seq.trans <| (leads_region e1).trans <| leads_seq.trans <| leads_seq.trans <| (leads_region e2).trans <| leads_block.trans <| leads_loop.trans <| L.trans <| leads_seq.trans <| leads_region e4) (ends_ret1 many_code g4)
/-! ### The document's sums -/

noncomputable def sumS (acc : Int) (xs : List Int) : Int := xs.foldl (fun a x => wrapA .i64 (a + x)) acc

theorem rsum_loop {xs : List Int} {h : Hp} {v : AV} (hs : SlR h v (xs.map int64)) (hlen : xs.length < 4611686018427387904) (cx : Cx) (k : List Am.Item) : ∀ (n i : Nat) (acc : Int) (env : T AV), i + n = xs.length →
    sv env 0 = v → sv env 3 = int64 acc → sv env 4 = int64 i →
    ∃ env', Leads Try.prog (sOf cx (.code rsum_6 :: .inLoop rsum_6 :: .inBlock 0 :: k) env h) (sOf cx k env' h) ∧ sv env' 3 = int64 (sumS acc (xs.drop i)) := by
  intro n
  induction n with
  | zero =>
    intro i acc env hi h0 h3 h4
    have hl := hs.len Try.prog (setD (setD env (some (Pos.ofNat 5)) (int64 i)) (some (Pos.ofNat 6)) v) (tm 6) (by simp [ev_tm, sv_setD])
    obtain ⟨env1, e1, f8, f3⟩ : ∃ env1, runOps Try.prog rsum_3 env h = some (env1, h) ∧ sv env1 8 = .bool false ∧ sv env1 3 = int64 acc := by
      simp [rsum_3, runOps, wanted_no, wanted_sv, ev_tm, ev_vl, sv_setD, qev_mov, qev_bin, opt_some, bin_lss, hl, h0, h3, h4]
      omega
    refine ⟨env1, leads_seq.trans <| leads_seq.trans <| (leads_region e1).trans <| (leads_cond (t := false) f8).trans <| leads_exit rfl, ?_⟩
    rw [f3, List.drop_eq_nil_of_le (by omega)]
    rfl
  | succ n ih =>
    intro i acc env hi h0 h3 h4
    have hil : i < xs.length := by omega
    obtain ⟨id, g, off, cap, ex, hv, row⟩ := hs.sl_or (x := int64 xs[i]) (by simp)
    have hone := row.one i (by simpa using hil)
    simp [List.getElem?_eq_getElem hil] at hone
    obtain ⟨env1, e1, f8, f0, f3, f4⟩ : ∃ env1, runOps Try.prog rsum_3 env h = some (env1, h) ∧ sv env1 8 = .bool true ∧ sv env1 0 = .sl id g off xs.length cap ex 1 ∧ sv env1 3 = int64 acc ∧ sv env1 4 = int64 i := by
      simp [rsum_3, runOps, wanted_no, wanted_sv, ev_tm, ev_vl, sv_setD, sv_set, setD_none, qev_mov, qev_bin, qev_un, qev_lenI, qev_pick, qev_load1, qev_idxSl, idx2_sl, idxA2_ptr, opt_some, bin_add, bin_sub, bin_mul, bin_lss, bin_leq, bin_gtr, bin_geq, bin_eql, bin_neq, un_not, un_neg, qev_callv, qev_new1, qev_store1, h0, h3, h4, hv]
      omega
    obtain ⟨env2, e2, k0, k3, k4⟩ : ∃ env2, runOps Try.prog rsum_4 env1 h = some (env2, h) ∧ sv env2 0 = .sl id g off xs.length cap ex 1 ∧ sv env2 3 = int64 (wrapA .i64 (acc + xs[i])) ∧ sv env2 4 = int64 i := by
      simp [rsum_4, runOps, wanted_no, wanted_sv, ev_tm, ev_vl, sv_setD, sv_set, setD_none, qev_mov, qev_bin, qev_un, qev_lenI, qev_pick, qev_load1, qev_idxSl, idx2_sl, idxA2_ptr, opt_some, bin_add, bin_sub, bin_mul, bin_lss, bin_leq, bin_gtr, bin_geq, bin_eql, bin_neq, un_not, un_neg, qev_callv, qev_new1, qev_store1, f0, f3, f4, hil, hone]
    obtain ⟨env3, e3, m0, m3, m4⟩ : ∃ env3, runOps Try.prog rsum_5 env2 h = some (env3, h) ∧ sv env3 0 = v ∧ sv env3 3 = int64 (wrapA .i64 (acc + xs[i])) ∧ sv env3 4 = int64 ((i + 1 : Nat) : Int) := by
      have : wrapA .i64 ((i : Int) + 1) = (i : Int) + 1 := wrap64 (by omega) (by omega)
      simp [rsum_5, runOps, wanted_no, wanted_sv, ev_tm, ev_vl, sv_setD, sv_set, setD_none, qev_mov, qev_bin, qev_un, qev_lenI, qev_pick, qev_load1, qev_idxSl, idx2_sl, idxA2_ptr, opt_some, bin_add, bin_sub, bin_mul, bin_lss, bin_leq, bin_gtr, bin_geq, bin_eql, bin_neq, un_not, un_neg, qev_callv, qev_new1, qev_store1, k0, k3, k4, this, hv]
    obtain ⟨env', L, r3⟩ := ih (i + 1) _ env3 (by omega) m0 m3 m4
    refine ⟨env', leads_seq.trans <| leads_seq.trans <| (leads_region e1).trans <| (leads_cond (t := true) f8).trans <| leads_skip.trans <| leads_seq.trans <| leads_block.trans <| (leads_region e2).trans <| leads_inBlock.trans <| (leads_region e3).trans <| leads_inLoop.trans L, ?_⟩
    rw [r3, List.drop_eq_getElem_cons hil]
    rfl

theorem rsum_fn {xs : List Int} {h : Hp} {v : AV} (hs : SlR h v (xs.map int64)) (hlen : xs.length < 4611686018427387904) : AmFn Try.prog 10 [v] h (int64 (sumS 0 xs)) h := by
  refine AmFn.ends rsum_code (by simp [rsum_fu]) fun callers => ?_
  obtain ⟨env0, e0, a0⟩ : ∃ env, runOps Try.prog rsum_0 (setArgs .e 0 [v]) h = some (env, h) ∧ sv env 0 = v := by
    simp [rsum_0, sv_args, runOps, wanted_no, wanted_sv, ev_tm, ev_vl, sv_setD, sv_set, setD_none, qev_mov, qev_bin, qev_un, qev_lenI, qev_pick, qev_load1, qev_idxSl, idx2_sl, idxA2_ptr, opt_some, bin_add, bin_sub, bin_mul, bin_lss, bin_leq, bin_gtr, bin_geq, bin_eql, bin_neq, un_not, un_neg, qev_callv, qev_new1, qev_store1]
  obtain ⟨env1, e1, b0, b3⟩ : ∃ env, runOps Try.prog rsum_1 env0 h = some (env, h) ∧ sv env 0 = v ∧ sv env 3 = int64 0 := by
    simp [rsum_1, runOps, wanted_no, wanted_sv, ev_tm, ev_vl, sv_setD, sv_set, setD_none, qev_mov, qev_bin, qev_un, qev_lenI, qev_pick, qev_load1, qev_idxSl, idx2_sl, idxA2_ptr, opt_some, bin_add, bin_sub, bin_mul, bin_lss, bin_leq, bin_gtr, bin_geq, bin_eql, bin_neq, un_not, un_neg, qev_callv, qev_new1, qev_store1, a0]
  obtain ⟨env2, e2, c0, c3, c4⟩ : ∃ env, runOps Try.prog rsum_2 env1 h = some (env, h) ∧ sv env 0 = v ∧ sv env 3 = int64 0 ∧ sv env 4 = int64 ((0 : Nat) : Int) := by
    simp [rsum_2, runOps, wanted_no, wanted_sv, ev_tm, ev_vl, sv_setD, sv_set, setD_none, qev_mov, qev_bin, qev_un, qev_lenI, qev_pick, qev_load1, qev_idxSl, idx2_sl, idxA2_ptr, opt_some, bin_add, bin_sub, bin_mul, bin_lss, bin_leq, bin_gtr, bin_geq, bin_eql, bin_neq, un_not, un_neg, qev_callv, qev_new1, qev_store1, b0, b3]
  obtain ⟨env3, L, d3⟩ := rsum_loop hs hlen (cxF 10 callers) [.code (.seq (.region rsum_7) .ret)] xs.length 0 0 env2 (by omega) c0 c3 c4
  obtain ⟨env4, e4, g2⟩ : ∃ env, runOps Try.prog rsum_7 env3 h = some (env, h) ∧ sv env 2 = int64 (sumS 0 xs) := by
    simp [rsum_7, runOps, wanted_no, wanted_sv, ev_tm, ev_vl, sv_setD, sv_set, setD_none, qev_mov, qev_bin, qev_un, qev_lenI, qev_pick, qev_load1, qev_idxSl, idx2_sl, idxA2_ptr, opt_some, bin_add, bin_sub, bin_mul, bin_lss, bin_leq, bin_gtr, bin_geq, bin_eql, bin_neq, un_not, un_neg, qev_callv, qev_new1, qev_store1, d3]
  exact Leads.ends (leads_seq.trans <| (leads_region e0).trans <| leads_seq.trans <| (leads_region e1).trans <| leads_seq.trans <| leads_seq.trans <| (leads_region e2).trans <| leads_block.trans <| leads_loop.trans <| L.trans <| leads_seq.trans <| leads_region e4) (ends_ret1 rsum_code g2)
end Go.Proofs.Ytpcddenijmhbfaa.Tog

namespace Go.Proofs.Ytpcddenijmhbfaa.Tog
open Go Go.Proofs.Ytpcddenijmhbfaa.Am Go.Proofs

theorem rmany_loop {xs : List Int} {h : Hp} {v : AV} (hs : SlR h v (xs.map int64)) (hlen : xs.length < 4611686018427387904) (base : Int) (cx : Cx) (k : List Am.Item) : ∀ (n i : Nat) (acc : Int) (env : T AV), i + n = xs.length →
    sv env 0 = int64 base → sv env 1 = v → sv env 5 = int64 acc → sv env 6 = int64 i →
    ∃ env', Leads Try.prog (sOf cx (.code rmany_6 :: .inLoop rmany_6 :: .inBlock 0 :: k) env h) (sOf cx k env' h) ∧ sv env' 5 = int64 (manyS base acc (xs.drop i)) := by
  intro n
  induction n with
  | zero =>
    intro i acc env hi h0 h1 h5 h6
    have hl := hs.len Try.prog (setD (setD env (some (Pos.ofNat 8)) (int64 i)) (some (Pos.ofNat 9)) v) (tm 9) (by simp [ev_tm, sv_setD])
    obtain ⟨env1, e1, f11, f5⟩ : ∃ env1, runOps Try.prog rmany_3 env h = some (env1, h) ∧ sv env1 11 = .bool false ∧ sv env1 5 = int64 acc := by
      simp [rmany_3, runOps, wanted_no, wanted_sv, ev_tm, ev_vl, sv_setD, qev_mov, qev_bin, opt_some, bin_lss, hl, h1, h5, h6]
      omega
    refine ⟨env1, leads_seq.trans <| leads_seq.trans <| (leads_region e1).trans <| (leads_cond (t := false) f11).trans <| leads_exit rfl, ?_⟩
    rw [f5, List.drop_eq_nil_of_le (by omega)]
    rfl
  | succ n ih =>
    intro i acc env hi h0 h1 h5 h6
    have hil : i < xs.length := by omega
    obtain ⟨id, g, off, cap, ex, hv, row⟩ := hs.sl_or (x := int64 xs[i]) (by simp)
    have hone := row.one i (by simpa using hil)
    simp [List.getElem?_eq_getElem hil] at hone
    obtain ⟨env1, e1, f11, f0, f1, f5, f6⟩ : ∃ env1, runOps Try.prog rmany_3 env h = some (env1, h) ∧ sv env1 11 = .bool true ∧ sv env1 0 = int64 base ∧ sv env1 1 = .sl id g off xs.length cap ex 1 ∧ sv env1 5 = int64 acc ∧ sv env1 6 = int64 i := by
      simp [rmany_3, runOps, wanted_no, wanted_sv, ev_tm, ev_vl, sv_setD, sv_set, setD_none, qev_mov, qev_bin, qev_un, qev_lenI, qev_pick, qev_load1, qev_idxSl, idx2_sl, idxA2_ptr, opt_some, bin_add, bin_sub, bin_mul, bin_lss, bin_leq, bin_gtr, bin_geq, bin_eql, bin_neq, un_not, un_neg, qev_callv, qev_new1, qev_store1, h0, h1, h5, h6, hv]
      omega
    obtain ⟨env2, e2, k0, k1, k5, k6⟩ : ∃ env2, runOps Try.prog rmany_4 env1 h = some (env2, h) ∧ sv env2 0 = int64 base ∧ sv env2 1 = .sl id g off xs.length cap ex 1 ∧ sv env2 5 = int64 (wrapA .i64 (acc + wrapA .i64 (xs[i] - base))) ∧ sv env2 6 = int64 i := by
      simp [rmany_4, runOps, wanted_no, wanted_sv, ev_tm, ev_vl, sv_setD, sv_set, setD_none, qev_mov, qev_bin, qev_un, qev_lenI, qev_pick, qev_load1, qev_idxSl, idx2_sl, idxA2_ptr, opt_some, bin_add, bin_sub, bin_mul, bin_lss, bin_leq, bin_gtr, bin_geq, bin_eql, bin_neq, un_not, un_neg, qev_callv, qev_new1, qev_store1, f0, f1, f5, f6, hil, hone]
    obtain ⟨env3, e3, m0, m1, m5, m6⟩ : ∃ env3, runOps Try.prog rmany_5 env2 h = some (env3, h) ∧ sv env3 0 = int64 base ∧ sv env3 1 = v ∧ sv env3 5 = int64 (wrapA .i64 (acc + wrapA .i64 (xs[i] - base))) ∧ sv env3 6 = int64 ((i + 1 : Nat) : Int) := by
      have : wrapA .i64 ((i : Int) + 1) = (i : Int) + 1 := wrap64 (by omega) (by omega)
      simp [rmany_5, runOps, wanted_no, wanted_sv, ev_tm, ev_vl, sv_setD, sv_set, setD_none, qev_mov, qev_bin, qev_un, qev_lenI, qev_pick, qev_load1, qev_idxSl, idx2_sl, idxA2_ptr, opt_some, bin_add, bin_sub, bin_mul, bin_lss, bin_leq, bin_gtr, bin_geq, bin_eql, bin_neq, un_not, un_neg, qev_callv, qev_new1, qev_store1, k0, k1, k5, k6, this, hv]
    obtain ⟨env', L, r5⟩ := ih (i + 1) _ env3 (by omega) m0 m1 m5 m6
    refine ⟨env', leads_seq.trans <| leads_seq.trans <| (leads_region e1).trans <| (leads_cond (t := true) f11).trans <| leads_skip.trans <| leads_seq.trans <| leads_block.trans <| (leads_region e2).trans <| leads_inBlock.trans <| (leads_region e3).trans <| leads_inLoop.trans L, ?_⟩
    rw [r5, List.drop_eq_getElem_cons hil]
    rfl

theorem rmany_fn {xs : List Int} {h : Hp} {v : AV} (hs : SlR h v (xs.map int64)) (hlen : xs.length < 4611686018427387904) (base : Int) : AmFn Try.prog 11 [int64 base, v] h (int64 (manyS base base xs)) h := by
  refine AmFn.ends rmany_code (by simp [rmany_fu]) fun callers => ?_
  obtain ⟨env0, e0, a0, a1⟩ : ∃ env, runOps Try.prog rmany_0 (setArgs .e 0 [int64 base, v]) h = some (env, h) ∧ sv env 0 = int64 base ∧ sv env 1 = v := by
    simp [rmany_0, sv_args, runOps, wanted_no, wanted_sv, ev_tm, ev_vl, sv_setD, sv_set, setD_none, qev_mov, qev_bin, qev_un, qev_lenI, qev_pick, qev_load1, qev_idxSl, idx2_sl, idxA2_ptr, opt_some, bin_add, bin_sub, bin_mul, bin_lss, bin_leq, bin_gtr, bin_geq, bin_eql, bin_neq, un_not, un_neg, qev_callv, qev_new1, qev_store1]
  obtain ⟨env1, e1, b0, b1, b5⟩ : ∃ env, runOps Try.prog rmany_1 env0 h = some (env, h) ∧ sv env 0 = int64 base ∧ sv env 1 = v ∧ sv env 5 = int64 base := by
    simp [rmany_1, runOps, wanted_no, wanted_sv, ev_tm, ev_vl, sv_setD, sv_set, setD_none, qev_mov, qev_bin, qev_un, qev_lenI, qev_pick, qev_load1, qev_idxSl, idx2_sl, idxA2_ptr, opt_some, bin_add, bin_sub, bin_mul, bin_lss, bin_leq, bin_gtr, bin_geq, bin_eql, bin_neq, un_not, un_neg, qev_callv, qev_new1, qev_store1, a0, a1]
  obtain ⟨env2, e2, c0, c1, c5, c6⟩ : ∃ env, runOps Try.prog rmany_2 env1 h = some (env, h) ∧ sv env 0 = int64 base ∧ sv env 1 = v ∧ sv env 5 = int64 base ∧ sv env 6 = int64 ((0 : Nat) : Int) := by
    simp [rmany_2, runOps, wanted_no, wanted_sv, ev_tm, ev_vl, sv_setD, sv_set, setD_none, qev_mov, qev_bin, qev_un, qev_lenI, qev_pick, qev_load1, qev_idxSl, idx2_sl, idxA2_ptr, opt_some, bin_add, bin_sub, bin_mul, bin_lss, bin_leq, bin_gtr, bin_geq, bin_eql, bin_neq, un_not, un_neg, qev_callv, qev_new1, qev_store1, b0, b1, b5]
  obtain ⟨env3, L, d5⟩ := rmany_loop hs hlen base (cxF 11 callers) [.code (.seq (.region rmany_7) .ret)] xs.length 0 base env2 (by omega) c0 c1 c5 c6
  obtain ⟨env4, e4, g4⟩ : ∃ env, runOps Try.prog rmany_7 env3 h = some (env, h) ∧ sv env 4 = int64 (manyS base base xs) := by
    simp [rmany_7, runOps, wanted_no, wanted_sv, ev_tm, ev_vl, sv_setD, sv_set, setD_none, qev_mov, qev_bin, qev_un, qev_lenI, qev_pick, qev_load1, qev_idxSl, idx2_sl, idxA2_ptr, opt_some, bin_add, bin_sub, bin_mul, bin_lss, bin_leq, bin_gtr, bin_geq, bin_eql, bin_neq, un_not, un_neg, qev_callv, qev_new1, qev_store1, d5]
  exact Leads.ends (leads_seq.trans <| (leads_region e0).trans <| leads_seq.trans <| (leads_region e1).trans <| leads_seq.trans <| leads_seq.trans <| (leads_region e2).trans <| leads_block.trans <| leads_loop.trans <| L.trans <| leads_seq.trans <| leads_region e4) (ends_ret1 rmany_code g4)

/-! ### Same -/

theorem same_loop {xs ys : List Int} {h : Hp} {v u : AV} (hv : SlR h v (xs.map int64)) (hu : SlR h u (ys.map int64)) (hxy : xs.length = ys.length) (hlen : xs.length < 4611686018427387904) (callers : List Fr) : ∀ (n i : Nat) (env : T AV), i + n = xs.length →
    sv env 0 = v → sv env 1 = u → sv env 5 = int64 i →
    AmEnds Try.prog callers (sOf (cxF 9 callers) (.code same_8 :: .inLoop same_8 :: .inBlock 0 :: [.code (.seq (.region same_9) .ret)]) env h) (.bool (decide (xs.drop i = ys.drop i))) h := by
  intro n
  induction n with
  | zero =>
    intro i env hi h0 h1 h5
    have hl := hv.len Try.prog (setD (setD env (some (Pos.ofNat 11)) (int64 i)) (some (Pos.ofNat 12)) v) (tm 12) (by simp [ev_tm, sv_setD])
    obtain ⟨env1, e1, f14⟩ : ∃ env1, runOps Try.prog same_4 env h = some (env1, h) ∧ sv env1 14 = .bool false := by
      simp [same_4, runOps, wanted_no, wanted_sv, ev_tm, ev_vl, sv_setD, qev_mov, qev_bin, opt_some, bin_lss, hl, h0, h5]
      omega
    obtain ⟨env2, e2, g4⟩ : ∃ env2, runOps Try.prog same_9 env1 h = some (env2, h) ∧ sv env2 4 = .bool (decide (xs.drop i = ys.drop i)) := by
      rw [List.drop_eq_nil_of_le (show xs.length ≤ i by omega), List.drop_eq_nil_of_le (show ys.length ≤ i by omega)]
      simp [same_9, runOps, wanted_no, wanted_sv, ev_tm, ev_vl, sv_setD, sv_set, setD_none, qev_mov, qev_bin, qev_un, qev_lenI, qev_pick, qev_load1, qev_idxSl, idx2_sl, idxA2_ptr, opt_some, bin_add, bin_sub, bin_mul, bin_lss, bin_leq, bin_gtr, bin_geq, bin_eql, bin_neq, un_not, un_neg, qev_callv, qev_new1, qev_store1]
    exact Leads.ends (leads_seq.trans <| leads_seq.trans <| (leads_region e1).trans <| (leads_cond (t := false) f14).trans <| (leads_exit rfl).trans <| leads_seq.trans <| leads_region e2) (ends_ret1 same_code g4)
  | succ n ih =>
    intro i env hi h0 h1 h5
    have hil : i < xs.length := by omega
    have hiy : i < ys.length := by omega
    obtain ⟨id, g, off, cap, ex, hv', row⟩ := hv.sl_or (x := int64 xs[i]) (by simp)
    obtain ⟨id', g', off', cap', ex', hu', row'⟩ := hu.sl_or (x := int64 ys[i]) (by simp)
    have hone := row.one i (by simpa using hil)
    have hone' := row'.one i (by simpa using hiy)
    simp [List.getElem?_eq_getElem hil] at hone
    simp [List.getElem?_eq_getElem hiy] at hone'
    obtain ⟨env1, e1, f14, f0, f1, f5⟩ : ∃ env1, runOps Try.prog same_4 env h = some (env1, h) ∧ sv env1 14 = .bool true ∧ sv env1 0 = .sl id g off xs.length cap ex 1 ∧ sv env1 1 = .sl id' g' off' ys.length cap' ex' 1 ∧ sv env1 5 = int64 i := by
      simp [same_4, runOps, wanted_no, wanted_sv, ev_tm, ev_vl, sv_setD, sv_set, setD_none, qev_mov, qev_bin, qev_un, qev_lenI, qev_pick, qev_load1, qev_idxSl, idx2_sl, idxA2_ptr, opt_some, bin_add, bin_sub, bin_mul, bin_lss, bin_leq, bin_gtr, bin_geq, bin_eql, bin_neq, un_not, un_neg, qev_callv, qev_new1, qev_store1, h0, h1, h5, hv', hu']
      omega
    obtain ⟨env2, e2, k25, k0, k1, k5⟩ : ∃ env2, runDrawn Try.prog noRec same_5 env1 h = some (env2, h) ∧ sv env2 25 = .bool (decide (xs[i] ≠ ys[i])) ∧ sv env2 0 = v ∧ sv env2 1 = u ∧ sv env2 5 = int64 i := by
      simp [runDrawn, same_5, drawnGo, kindOf, skipIds, isAlloc, setDst_eq, lookBack, insAll, kD, outD, runOps, wanted_no, wanted_sv, ev_tm, ev_vl, sv_setD, sv_set, setD_none, qev_mov, qev_bin, qev_un, qev_lenI, qev_pick, qev_load1, qev_idxSl, idx2_sl, idxA2_ptr, opt_some, bin_add, bin_sub, bin_mul, bin_lss, bin_leq, bin_gtr, bin_geq, bin_eql, bin_neq, un_not, un_neg, qev_callv, qev_new1, qev_store1, f0, f1, f5, hil, hiy, hone, hone', hv', hu']
    have key : (xs.drop i = ys.drop i) ↔ (xs[i] = ys[i] ∧ xs.drop (i + 1) = ys.drop (i + 1)) := by
      rw [List.drop_eq_getElem_cons hil, List.drop_eq_getElem_cons hiy, List.cons.injEq]
    by_cases hne : xs[i] = ys[i]
    · obtain ⟨env3, e3, m0, m1, m5⟩ : ∃ env3, runOps Try.prog same_7 env2 h = some (env3, h) ∧ sv env3 0 = v ∧ sv env3 1 = u ∧ sv env3 5 = int64 ((i + 1 : Nat) : Int) := by
        have : wrapA .i64 ((i : Int) + 1) = (i : Int) + 1 := wrap64 (by omega) (by omega)
        simp [same_7, runOps, wanted_no, wanted_sv, ev_tm, ev_vl, sv_setD, sv_set, setD_none, qev_mov, qev_bin, qev_un, qev_lenI, qev_pick, qev_load1, qev_idxSl, idx2_sl, idxA2_ptr, opt_some, bin_add, bin_sub, bin_mul, bin_lss, bin_leq, bin_gtr, bin_geq, bin_eql, bin_neq, un_not, un_neg, qev_callv, qev_new1, qev_store1, k0, k1, k5, this]
      have r := ih (i + 1) env3 (by omega) m0 m1 m5
      rw [show decide (xs.drop i = ys.drop i) = decide (xs.drop (i + 1) = ys.drop (i + 1)) from decide_eq_decide.2 (key.trans ⟨fun q => q.2, fun q => ⟨hne, q⟩⟩)]
      refine Leads.ends (leads_seq.trans <| leads_seq.trans <| (leads_region e1).trans <| (leads_cond (t := true) f14).trans <| leads_skip.trans <| leads_seq.trans <| leads_block.trans <| leads_seq.trans <| (leads_drawn (noRec_sound _) e2).trans <|
        (leads_cond (t := false) (by rw [show ev env2 (tm 25) = sv env2 25 from rfl, k25]; simp [hne])).trans <| leads_skip.trans <| leads_inBlock.trans <| (leads_region e3).trans leads_inLoop) r
    · obtain ⟨env3, e3, m4⟩ : ∃ env3, runOps Try.prog same_6 env2 h = some (env3, h) ∧ sv env3 4 = .bool (decide (xs.drop i = ys.drop i)) := by
        rw [decide_eq_false fun q => hne (key.1 q).1]
        simp [same_6, runOps, wanted_no, wanted_sv, ev_tm, ev_vl, sv_setD, sv_set, setD_none, qev_mov, qev_bin, qev_un, qev_lenI, qev_pick, qev_load1, qev_idxSl, idx2_sl, idxA2_ptr, opt_some, bin_add, bin_sub, bin_mul, bin_lss, bin_leq, bin_gtr, bin_geq, bin_eql, bin_neq, un_not, un_neg, qev_callv, qev_new1, qev_store1]
      exact Leads.ends (leads_seq.trans <| leads_seq.trans <| (leads_region e1).trans <| (leads_cond (t := true) f14).trans <| leads_skip.trans <| leads_seq.trans <| leads_block.trans <| leads_seq.trans <| (leads_drawn (noRec_sound _) e2).trans <|
        (leads_cond (t := true) (by rw [show ev env2 (tm 25) = sv env2 25 from rfl, k25]; simp [hne])).trans <| leads_seq.trans <| leads_region e3) (ends_ret1 same_code m4)

theorem same_fn {xs ys : List Int} {h : Hp} {v u : AV} (hv : SlR h v (xs.map int64)) (hu : SlR h u (ys.map int64)) (hlen : xs.length < 4611686018427387904) : AmFn Try.prog 9 [v, u] h (.bool (decide (xs = ys))) h := by
  refine AmFn.ends same_code (by simp [same_fu]) fun callers => ?_
  obtain ⟨env0, e0, a0, a1⟩ : ∃ env, runOps Try.prog same_0 (setArgs .e 0 [v, u]) h = some (env, h) ∧ sv env 0 = v ∧ sv env 1 = u := by
    simp [same_0, sv_args, runOps, wanted_no, wanted_sv, ev_tm, ev_vl, sv_setD, sv_set, setD_none, qev_mov, qev_bin, qev_un, qev_lenI, qev_pick, qev_load1, qev_idxSl, idx2_sl, idxA2_ptr, opt_some, bin_add, bin_sub, bin_mul, bin_lss, bin_leq, bin_gtr, bin_geq, bin_eql, bin_neq, un_not, un_neg, qev_callv, qev_new1, qev_store1]
  have hl := hv.len Try.prog (setD env0 (some (Pos.ofNat 6)) v) (tm 6) (by simp [ev_tm, sv_setD])
  have hl' := hu.len Try.prog (setD (setD (setD env0 (some (Pos.ofNat 6)) v) (some (Pos.ofNat 7)) (int64 xs.length)) (some (Pos.ofNat 8)) u) (tm 8) (by simp [ev_tm, sv_setD])
  obtain ⟨env1, e1, b10, b0, b1⟩ : ∃ env, runOps Try.prog same_1 env0 h = some (env, h) ∧ sv env 10 = .bool (decide (xs.length ≠ ys.length)) ∧ sv env 0 = v ∧ sv env 1 = u := by
    simp [same_1, runOps, wanted_no, wanted_sv, ev_tm, ev_vl, sv_setD, qev_mov, qev_bin, opt_some, bin_neq, hl, hl', a0, a1]
    omega
  by_cases hxy : xs.length = ys.length
  · obtain ⟨env2, e2, c0, c1, c5⟩ : ∃ env, runOps Try.prog same_3 env1 h = some (env, h) ∧ sv env 0 = v ∧ sv env 1 = u ∧ sv env 5 = int64 ((0 : Nat) : Int) := by
      simp [same_3, runOps, wanted_no, wanted_sv, ev_tm, ev_vl, sv_setD, sv_set, setD_none, qev_mov, qev_bin, qev_un, qev_lenI, qev_pick, qev_load1, qev_idxSl, idx2_sl, idxA2_ptr, opt_some, bin_add, bin_sub, bin_mul, bin_lss, bin_leq, bin_gtr, bin_geq, bin_eql, bin_neq, un_not, un_neg, qev_callv, qev_new1, qev_store1, b0, b1]
    have r := same_loop hv hu hxy hlen callers xs.length 0 env2 (by omega) c0 c1 c5
    exact Leads.ends (leads_seq.trans <| (leads_region e0).trans <| leads_seq.trans <| leads_seq.trans <| (leads_region e1).trans <| (leads_cond (t := false) (by rw [show ev env1 (tm 10) = sv env1 10 from rfl, b10]; simp [hxy])).trans <|
      leads_skip.trans <| leads_seq.trans <| leads_seq.trans <| (leads_region e2).trans <| leads_block.trans leads_loop) r
  · have hne : xs ≠ ys := fun e => hxy (by rw [e])
    obtain ⟨env2, e2, c4⟩ : ∃ env, runOps Try.prog same_2 env1 h = some (env, h) ∧ sv env 4 = .bool (decide (xs = ys)) := by
      simp [same_2, runOps, wanted_no, wanted_sv, ev_tm, ev_vl, sv_setD, sv_set, setD_none, qev_mov, qev_bin, qev_un, qev_lenI, qev_pick, qev_load1, qev_idxSl, idx2_sl, idxA2_ptr, opt_some, bin_add, bin_sub, bin_mul, bin_lss, bin_leq, bin_gtr, bin_geq, bin_eql, bin_neq, un_not, un_neg, qev_callv, qev_new1, qev_store1, hne]
    exact Leads.ends (leads_seq.trans <| (leads_region e0).trans <| leads_seq.trans <| leads_seq.trans <| (leads_region e1).trans <| (leads_cond (t := true) (by rw [show ev env1 (tm 10) = sv env1 10 from rfl, b10]; simp [hxy])).trans <|
      leads_seq.trans <| leads_region e2) (ends_ret1 same_code c4)
end Go.Proofs.Ytpcddenijmhbfaa.Tog

namespace Go.Proofs.Ytpcddenijmhbfaa.Tog
open Go Go.Proofs.Ytpcddenijmhbfaa.Am Go.Proofs

theorem ok15 : okCall Try.prog 15 = true := by kernel_rfl
theorem ok19 : okCall Try.prog 19 = true := by kernel_rfl
theorem ok20 : okCall Try.prog 20 = true := by kernel_rfl

theorem stepsB_fn {h : Hp} {id : Pos} {a : Int} (b : Box h id (int64 a)) (x : Int) : AmFn Try.prog 20 [int64 x, .ptr id 0 0] h (int64 (wrapA .i64 (a + x))) (putB h id (int64 (wrapA .i64 (a + x)))) := by
  refine AmFn.ends stepsB_code (by simp [stepsB_fu]) fun callers => ?_
  obtain ⟨env0, e0, a0, a1⟩ : ∃ env, runOps Try.prog stepsB_0 (setArgs .e 0 [int64 x, .ptr id 0 0]) h = some (env, h) ∧ sv env 0 = int64 x ∧ sv env 1 = .ptr id 0 0 := by
    simp [stepsB_0, sv_args, runOps, wanted_no, wanted_sv, ev_tm, ev_vl, sv_setD, sv_set, setD_none, qev_mov, qev_bin, qev_un, qev_lenI, qev_pick, qev_load1, qev_idxSl, idx2_sl, idxA2_ptr, opt_some, bin_add, bin_sub, bin_mul, bin_lss, bin_leq, bin_gtr, bin_geq, bin_eql, bin_neq, un_not, un_neg, qev_callv, qev_new1, qev_store1]
  obtain ⟨env1, e1, b1⟩ : ∃ env, runOps Try.prog stepsB_1 env0 h = some (env, putB h id (int64 (wrapA .i64 (a + x)))) ∧ sv env 1 = .ptr id 0 0 := by
    have s := storeR_box b (int64 (wrapA .i64 (a + x))) rfl rfl
    simp [stepsB_1, runOps, wanted_no, wanted_sv, ev_tm, ev_vl, sv_setD, sv_set, setD_none, qev_mov, qev_bin, qev_un, qev_lenI, qev_pick, qev_load1, qev_idxSl, idx2_sl, idxA2_ptr, opt_some, bin_add, bin_sub, bin_mul, bin_lss, bin_leq, bin_gtr, bin_geq, bin_eql, bin_neq, un_not, un_neg, qev_callv, qev_new1, qev_store1, a0, a1, b.load, s]
  have b' := putB_box b (int64 (wrapA .i64 (a + x)))
  obtain ⟨env2, e2, c3⟩ : ∃ env, runOps Try.prog stepsB_2 env1 (putB h id (int64 (wrapA .i64 (a + x)))) = some (env, putB h id (int64 (wrapA .i64 (a + x)))) ∧ sv env 3 = int64 (wrapA .i64 (a + x)) := by
    simp [stepsB_2, runOps, wanted_no, wanted_sv, ev_tm, ev_vl, sv_setD, sv_set, setD_none, qev_mov, qev_bin, qev_un, qev_lenI, qev_pick, qev_load1, qev_idxSl, idx2_sl, idxA2_ptr, opt_some, bin_add, bin_sub, bin_mul, bin_lss, bin_leq, bin_gtr, bin_geq, bin_eql, bin_neq, un_not, un_neg, qev_callv, qev_new1, qev_store1, b1, b'.load]
  exact Leads.ends (leads_seq.trans <| (leads_region e0).trans <| leads_seq.trans <| (leads_region e1).trans <| leads_seq.trans <| leads_region e2) (ends_ret1 stepsB_code c3)

theorem sumS_take {xs : List Int} {n0 : Int} {i : Nat} (hi : i < xs.length) : sumS n0 (xs.take (i + 1)) = wrapA .i64 (sumS n0 (xs.take i) + xs[i]) := by
  unfold sumS
  rw [List.take_add_one, List.getElem?_eq_getElem hi, List.foldl_append]
  rfl

/-- Going over the steps, whatever a round does, so long as it goes on. -/
theorem stepsA_loop {xs : List Int} (hlen : xs.length < 4611686018427387904) (n0 : Int) {l at_ : Pos} {v : AV} {S : List Pos} {J : Nat → Hp → Prop} (hat : at_ ∉ S) (hv : ∀ id g off n cap ex, v = .sl id g off n cap ex 1 → id ∉ at_ :: S)
    (hJ : ∀ i h z, J i h → J i (putB h at_ z))
    (hr : ∀ (i : Nat) (hi : i < xs.length) (h : Hp), J i h → ∃ h', RoundFn Try.prog l [int64 i, int64 (sumS n0 (xs.take (i + 1)))] h (.bool true) h' ∧ J (i + 1) h' ∧ Only S h h') :
    ∀ (n i : Nat) (env : T AV) (h : Hp), i + n = xs.length → sv env 0 = .yield l → sv env 5 = .fn (.func 20) [] [.ptr at_ 0 0] → sv env 10 = v → sv env 11 = int64 xs.length → sv env 12 = int64 i →
      SlR h v (xs.map int64) → Box h at_ (int64 (sumS n0 (xs.take i))) → J i h →
      ∃ h', J xs.length h' ∧ Only (at_ :: S) h h' ∧ ∀ callers, AmEnds Try.prog callers (sOf (cxF 19 callers) (.code stepsA_7 :: .inLoop stepsA_7 :: [.inBlock 0]) env h) (.tup []) h' := by
  intro n
  induction n with
  | zero =>
    intro i env h hi h0 h5 h10 h11 h12 hs hb j
    have : i = xs.length := by omega
    subst this
    refine ⟨h, j, Only.refl _ _, fun callers => ?_⟩
    obtain ⟨env1, e1, f13⟩ : ∃ env1, runOps Try.prog stepsA_3 env h = some (env1, h) ∧ sv env1 13 = .bool false := by
      simp [stepsA_3, runOps, wanted_no, wanted_sv, ev_tm, ev_vl, sv_setD, sv_set, setD_none, qev_mov, qev_bin, qev_un, qev_lenI, qev_pick, qev_load1, qev_idxSl, idx2_sl, idxA2_ptr, opt_some, bin_add, bin_sub, bin_mul, bin_lss, bin_leq, bin_gtr, bin_geq, bin_eql, bin_neq, un_not, un_neg, qev_callv, qev_new1, qev_store1, h11, h12]
    exact Leads.ends (leads_seq.trans <| (leads_region e1).trans <| leads_seq.trans <| (leads_cond (t := false) f13).trans <| leads_exit rfl) (ends_nil stepsA_code (vs := []) rfl rfl)
  | succ n ih =>
    intro i env h hi h0 h5 h10 h11 h12 hs hb j
    have hil : i < xs.length := by omega
    obtain ⟨id, g, off, cap, ex, hv', row⟩ := hs.sl_or (x := int64 xs[i]) (by simp)
    have hone := row.one i (by simpa using hil)
    simp [List.getElem?_eq_getElem hil] at hone
    obtain ⟨env1, e1, f13, f0, f5, f10, f11, f12⟩ : ∃ env1, runOps Try.prog stepsA_3 env h = some (env1, h) ∧ sv env1 13 = .bool true ∧ sv env1 0 = .yield l ∧ sv env1 5 = .fn (.func 20) [] [.ptr at_ 0 0] ∧ sv env1 10 = .sl id g off xs.length cap ex 1 ∧ sv env1 11 = int64 xs.length ∧ sv env1 12 = int64 i := by
      simp [stepsA_3, runOps, wanted_no, wanted_sv, ev_tm, ev_vl, sv_setD, sv_set, setD_none, qev_mov, qev_bin, qev_un, qev_lenI, qev_pick, qev_load1, qev_idxSl, idx2_sl, idxA2_ptr, opt_some, bin_add, bin_sub, bin_mul, bin_lss, bin_leq, bin_gtr, bin_geq, bin_eql, bin_neq, un_not, un_neg, qev_callv, qev_new1, qev_store1, h0, h5, h10, h11, h12, hv']
      omega
    obtain ⟨env2, e2, k6, k7, k0, k5, k10, k11, k12⟩ : ∃ env2, runOps Try.prog stepsA_4 env1 h = some (env2, h) ∧ sv env2 6 = int64 i ∧ sv env2 7 = int64 xs[i] ∧ sv env2 0 = .yield l ∧ sv env2 5 = .fn (.func 20) [] [.ptr at_ 0 0] ∧ sv env2 10 = v ∧ sv env2 11 = int64 xs.length ∧ sv env2 12 = int64 i := by
      simp [stepsA_4, runOps, wanted_no, wanted_sv, ev_tm, ev_vl, sv_setD, sv_set, setD_none, qev_mov, qev_bin, qev_un, qev_lenI, qev_pick, qev_load1, qev_idxSl, idx2_sl, idxA2_ptr, opt_some, bin_add, bin_sub, bin_mul, bin_lss, bin_leq, bin_gtr, bin_geq, bin_eql, bin_neq, un_not, un_neg, qev_callv, qev_new1, qev_store1, f0, f5, f10, f11, f12, hil, hone, hv']
    obtain ⟨env3, e3, m17, m18, m19, m20, m10, m11, m12, m0, m5⟩ : ∃ env3, runOps Try.prog (stepsA_5.take 4) env2 h = some (env3, h) ∧ sv env3 17 = .yield l ∧ sv env3 18 = int64 i ∧ sv env3 19 = .fn (.func 20) [] [.ptr at_ 0 0] ∧ sv env3 20 = int64 xs[i] ∧ sv env3 10 = v ∧ sv env3 11 = int64 xs.length ∧ sv env3 12 = int64 i ∧ sv env3 0 = .yield l ∧ sv env3 5 = .fn (.func 20) [] [.ptr at_ 0 0] := by
      simp [stepsA_5, runOps, wanted_no, wanted_sv, ev_tm, ev_vl, sv_setD, sv_set, setD_none, qev_mov, qev_bin, qev_un, qev_lenI, qev_pick, qev_load1, qev_idxSl, idx2_sl, idxA2_ptr, opt_some, bin_add, bin_sub, bin_mul, bin_lss, bin_leq, bin_gtr, bin_geq, bin_eql, bin_neq, un_not, un_neg, qev_callv, qev_new1, qev_store1, k6, k7, k0, k5, k10, k11, k12]
    have hadd := stepsB_fn hb xs[i]
    rw [← sumS_take hil] at hadd
    have hb1 := putB_box hb (int64 (sumS n0 (xs.take (i + 1))))
    have ho1 := putB_only h at_ (int64 (sumS n0 (xs.take (i + 1))))
    obtain ⟨h2, hround, j2, ho2⟩ := hr i hil _ (hJ i h (int64 (sumS n0 (xs.take (i + 1)))) j)
    have hall : Only (at_ :: S) h h2 := (ho1.mono fun x hx => by simp at hx; subst hx; simp).trans (ho2.mono fun x hx => by simp [hx])
    obtain ⟨env4, e4, p23, p0, p5, p10, p11, p12⟩ : ∃ env4, runOps Try.prog (stepsA_5.drop 6) (setD (setD env3 (some (Pos.ofNat 21)) (int64 (sumS n0 (xs.take (i + 1))))) (some (Pos.ofNat 22)) (.bool true)) h2 = some (env4, h2) ∧ sv env4 23 = .bool false ∧ sv env4 0 = .yield l ∧ sv env4 5 = .fn (.func 20) [] [.ptr at_ 0 0] ∧ sv env4 10 = v ∧ sv env4 11 = int64 xs.length ∧ sv env4 12 = int64 i := by
      simp [stepsA_5, runOps, wanted_no, wanted_sv, ev_tm, ev_vl, sv_setD, sv_set, setD_none, qev_mov, qev_bin, qev_un, qev_lenI, qev_pick, qev_load1, qev_idxSl, idx2_sl, idxA2_ptr, opt_some, bin_add, bin_sub, bin_mul, bin_lss, bin_leq, bin_gtr, bin_geq, bin_eql, bin_neq, un_not, un_neg, qev_callv, qev_new1, qev_store1, m10, m11, m12, m0, m5]
    obtain ⟨env5, e5, q0, q5, q10, q11, q12⟩ : ∃ env5, runOps Try.prog stepsA_6 env4 h2 = some (env5, h2) ∧ sv env5 0 = .yield l ∧ sv env5 5 = .fn (.func 20) [] [.ptr at_ 0 0] ∧ sv env5 10 = v ∧ sv env5 11 = int64 xs.length ∧ sv env5 12 = int64 ((i + 1 : Nat) : Int) := by
      have : wrapA .i64 ((i : Int) + 1) = (i : Int) + 1 := wrap64 (by omega) (by omega)
      simp [stepsA_6, runOps, wanted_no, wanted_sv, ev_tm, ev_vl, sv_setD, sv_set, setD_none, qev_mov, qev_bin, qev_un, qev_lenI, qev_pick, qev_load1, qev_idxSl, idx2_sl, idxA2_ptr, opt_some, bin_add, bin_sub, bin_mul, bin_lss, bin_leq, bin_gtr, bin_geq, bin_eql, bin_neq, un_not, un_neg, qev_callv, qev_new1, qev_store1, p0, p5, p10, p11, p12, this]
    obtain ⟨h', jj, oo, ee⟩ := ih (i + 1) env5 h2 (by omega) q0 q5 q10 q11 q12 (hs.only hall hv) (hb1.only ho2 hat) j2
    refine ⟨h', jj, hall.trans oo, fun callers => ?_⟩
    refine Leads.ends (leads_seq.trans <| (leads_region e1).trans <| leads_seq.trans <| (leads_cond (t := true) f13).trans <| leads_skip.trans <| leads_seq.trans <| leads_block.trans <| leads_seq.trans <| (leads_region e2).trans <| leads_seq.trans <| leads_enter.trans <|
      (leads_ops (l := stepsA_5.take 4) e3).trans <| (leads_call rfl rfl (f := 20) (args := [int64 xs[i], .ptr at_ 0 0]) ?_ hadd).trans <| (leads_round rfl rfl (l := l) (args := [int64 i, int64 (sumS n0 (xs.take (i + 1)))]) ?_ hround).trans <|
      (leads_ops (l := stepsA_5.drop 6) (rest := []) e4).trans <| leads_opsNil.trans <| (leads_cond (t := false) p23).trans <| leads_skip.trans <| leads_inBlock.trans <| (leads_region e5).trans leads_inLoop) (ee callers)
    · simp [runOps, wanted_no, wanted_sv, ev_tm, ev_vl, sv_setD, sv_set, setD_none, qev_mov, qev_bin, qev_un, qev_lenI, qev_pick, qev_load1, qev_idxSl, idx2_sl, idxA2_ptr, opt_some, bin_add, bin_sub, bin_mul, bin_lss, bin_leq, bin_gtr, bin_geq, bin_eql, bin_neq, un_not, un_neg, qev_callv, qev_new1, qev_store1, callA_ok ok20, m19, m20]
    · simp [runOps, wanted_no, wanted_sv, ev_tm, ev_vl, sv_setD, sv_set, setD_none, qev_mov, qev_bin, qev_un, qev_lenI, qev_pick, qev_load1, qev_idxSl, idx2_sl, idxA2_ptr, opt_some, bin_add, bin_sub, bin_mul, bin_lss, bin_leq, bin_gtr, bin_geq, bin_eql, bin_neq, un_not, un_neg, qev_callv, qev_new1, qev_store1, m17, m18]
end Go.Proofs.Ytpcddenijmhbfaa.Tog

namespace Go.Proofs.Ytpcddenijmhbfaa.Tog
open Go Go.Proofs.Ytpcddenijmhbfaa.Am Go.Proofs

/-- Going over the steps: the function that Steps answers, whatever a round does, so long as it goes on. -/
theorem stepsA_fn {xs : List Int} (hlen : xs.length < 4611686018427387904) (n0 : Int) {l p0 p5 : Pos} {v : AV} {S : List Pos} {J : Nat → Hp → Prop} {h : Hp} (b0 : Box h p0 (int64 n0)) (b5 : Box h p5 v) (hs : SlR h v (xs.map int64))
    (hS : ∀ id ∈ S, id.num < h.next.num) (hv : ∀ id g off n cap ex, v = .sl id g off n cap ex 1 → id.num < h.next.num ∧ id ∉ S)
    (hJ : ∀ i h1 h2 S', J i h1 → Only S' h1 h2 → (∀ id ∈ S', h.next.num ≤ id.num) → J i h2)
    (hr : ∀ (i : Nat) (hi : i < xs.length) (h1 : Hp), J i h1 → h.next.num ≤ h1.next.num → ∃ h', RoundFn Try.prog l [int64 i, int64 (sumS n0 (xs.take (i + 1)))] h1 (.bool true) h' ∧ J (i + 1) h' ∧ Only S h1 h') (j : J 0 h) :
    ∃ h', AmFn Try.prog 19 [.yield l, .ptr p0 0 0, .ptr p5 0 0] h (.tup []) h' ∧ J xs.length h' ∧ Only S h h' := by
  have hb := newB_box h (int64 0)
  have hn := newH_next h fun s => .cells s (Cells.ofL [int64 0]) 0 0 0 0 false false
  have ho : ∀ S, Only S h (newB h (int64 0)) := fun S => newH_only S h _
  obtain ⟨env0, e0, a0, a2, a4⟩ : ∃ env, runOps Try.prog stepsA_0 (setArgs .e 0 [.yield l, .ptr p0 0 0, .ptr p5 0 0]) h = some (env, putB (newB h (int64 0)) h.next (int64 n0)) ∧ sv env 0 = .yield l ∧ sv env 2 = .ptr p5 0 0 ∧ sv env 4 = .ptr h.next 0 0 := by
    have s := storeR_box hb (int64 n0) rfl rfl
    simp [stepsA_0, sv_args, runOps, wanted_no, wanted_sv, ev_tm, ev_vl, sv_setD, sv_set, setD_none, qev_mov, qev_bin, qev_un, qev_lenI, qev_pick, qev_load1, qev_idxSl, idx2_sl, idxA2_ptr, opt_some, bin_add, bin_sub, bin_mul, bin_lss, bin_leq, bin_gtr, bin_geq, bin_eql, bin_neq, un_not, un_neg, qev_callv, qev_new1, qev_store1, b0.load, s]
  have hp := putB_only (newB h (int64 0)) h.next (int64 n0)
  have hb1 := putB_box hb (int64 n0)
  have ho1 : Only [h.next] h (putB (newB h (int64 0)) h.next (int64 n0)) := (ho _).trans hp
  obtain ⟨env1, e1, c0, c2, c5⟩ : ∃ env, runOps Try.prog stepsA_1 env0 (putB (newB h (int64 0)) h.next (int64 n0)) = some (env, putB (newB h (int64 0)) h.next (int64 n0)) ∧ sv env 0 = .yield l ∧ sv env 2 = .ptr p5 0 0 ∧ sv env 5 = .fn (.func 20) [] [.ptr h.next 0 0] := by
    simp [stepsA_1, runOps, wanted_no, wanted_sv, ev_tm, ev_vl, sv_setD, sv_set, setD_none, qev_mov, qev_bin, qev_un, qev_lenI, qev_pick, qev_load1, qev_idxSl, idx2_sl, idxA2_ptr, opt_some, bin_add, bin_sub, bin_mul, bin_lss, bin_leq, bin_gtr, bin_geq, bin_eql, bin_neq, un_not, un_neg, qev_callv, qev_new1, qev_store1, qev_mkFn, a0, a2, a4]
  have ne5 : p5 ∉ [h.next] := by
    simp only [List.mem_singleton]
    intro e; have := b5.old; rw [e] at this; omega
  have b5' := b5.only ho1 ne5
  have hs' : SlR (putB (newB h (int64 0)) h.next (int64 n0)) v (xs.map int64) := hs.only ho1 fun id g off n cap ex e => by
    simp only [List.mem_singleton]
    intro e'; have := (hv _ _ _ _ _ _ e).1; rw [e'] at this; omega
  have hl := hs'.len Try.prog (setD env1 (some (Pos.ofNat 10)) v) (tm 10) (by simp [ev_tm, sv_setD])
  obtain ⟨env2, e2, d0, d5, d10, d11, d12⟩ : ∃ env, runOps Try.prog stepsA_2 env1 (putB (newB h (int64 0)) h.next (int64 n0)) = some (env, putB (newB h (int64 0)) h.next (int64 n0)) ∧ sv env 0 = .yield l ∧ sv env 5 = .fn (.func 20) [] [.ptr h.next 0 0] ∧ sv env 10 = v ∧ sv env 11 = int64 xs.length ∧ sv env 12 = int64 ((0 : Nat) : Int) := by
    simp [stepsA_2, runOps, wanted_no, wanted_sv, ev_tm, ev_vl, sv_setD, qev_mov, qev_load1, opt_some, b5'.load, hl, c0, c2, c5]
  have nS : h.next ∉ S := fun c => by have := hS _ c; omega
  obtain ⟨h', jj, oo, ee⟩ := stepsA_loop (J := fun i h1 => J i h1 ∧ h.next.num ≤ h1.next.num) hlen n0 (l := l) (at_ := h.next) (v := v) (S := S) nS
    (fun id g off n cap ex e => by
      obtain ⟨q1, q2⟩ := hv _ _ _ _ _ _ e
      simp only [List.mem_cons, not_or]
      exact ⟨fun c => by rw [c] at q1; omega, q2⟩)
    (fun i h1 z jq => ⟨hJ i h1 _ [h.next] jq.1 (putB_only _ _ _) (by simp), jq.2⟩)
    (fun i hi h1 jq => by
      obtain ⟨h', q1, q2, q3⟩ := hr i hi h1 jq.1 jq.2
      exact ⟨h', q1, ⟨q2, Nat.le_trans jq.2 q3.next⟩, q3⟩)
    xs.length 0 env2 _ (by omega) d0 d5 d10 d11 d12 hs' hb1 ⟨hJ 0 h _ [h.next] j ho1 (by simp), ho1.next⟩
  refine ⟨h', AmFn.ends stepsA_code (by simp [stepsA_fu]) fun callers => ?_, jj.1, ((ho1.mono fun id hid => .inl (by simp at hid; simp [hid])).trans oo).mono fun id hid => ?_⟩
  · exact Leads.ends (leads_seq.trans <| (leads_region e0).trans <| leads_seq.trans <| (leads_region e1).trans <| leads_seq.trans <| (leads_region e2).trans <| leads_block.trans leads_loop) (ee callers)
  · rcases List.mem_cons.1 hid with q | q
    · exact .inr (by rw [q]; exact Nat.le_refl _)
    · exact .inl q
theorem steps_fn {xs : List Int} {h : Hp} {v : AV} (hs : SlR h v (xs.map int64)) (hlen : xs.length ≤ 1073741824) (n0 : Int) :
    ∃ p0 p5 v' h', AmFn Try.prog 15 [int64 n0, v] h (.fn (.func 19) [] [.ptr p0 0 0, .ptr p5 0 0]) h' ∧ Box h' p0 (int64 n0) ∧ Box h' p5 v' ∧ SlR h' v' (xs.map int64) ∧ Only [] h h' ∧
      h.next.num ≤ p0.num ∧ h.next.num ≤ p5.num ∧ ∀ id g off n cap ex, v' = .sl id g off n cap ex 1 → h.next.num ≤ id.num ∧ id.num < h'.next.num := by
  have hb := newB_box h (int64 n0)
  have ho : Only [] h (newB h (int64 n0)) := newH_only _ h _
  have hn0 : (newB h (int64 n0)).next.num = h.next.num + 1 := newH_next h _
  obtain ⟨env0, e0, a1, a2⟩ : ∃ env, runOps Try.prog steps_0 (setArgs .e 0 [int64 n0, v]) h = some (env, newB h (int64 n0)) ∧ sv env 1 = v ∧ sv env 2 = .ptr h.next 0 0 := by
    simp [steps_0, sv_args, runOps, wanted_no, wanted_sv, ev_tm, ev_vl, sv_setD, sv_set, setD_none, qev_mov, qev_bin, qev_un, qev_lenI, qev_pick, qev_load1, qev_idxSl, idx2_sl, idxA2_ptr, opt_some, bin_add, bin_sub, bin_mul, bin_lss, bin_leq, bin_gtr, bin_geq, bin_eql, bin_neq, un_not, un_neg, qev_callv, qev_new1, qev_store1, qev_box, AV.cells]
  -- the empty list
  generalize hh1 : newB h (int64 n0) = h1 at *
  have mk0 : evalOp Try.prog (.buildSl 0 1 [int64 0] []) env0 h1 = .val (.sl h1.next 0 0 0 0 true 1) (newH h1 fun s => .cells s (.lst 0 []) 0 0 0 0 false false) := by
    show (bif Nat.blt 0 1 then newCells h1 (Cells.ofL []) fun id h => Res.val (.sl id 0 0 0 0 true 1) h else .fail "buildSl") = _
    rw [show Nat.blt 0 1 = true from rfl, cond_true]
    unfold newCells
    rw [newK_newH]; rfl
  generalize hh2 : (newH h1 fun s => .cells s (.lst 0 []) 0 0 0 0 false false) = h2 at mk0
  have o2 : Only [] h1 h2 := by rw [← hh2]; exact newH_only _ _ _
  have n2 : h2.next.num = h1.next.num + 1 := by rw [← hh2]; exact newH_next _ _
  have hs2 : SlR h2 v (xs.map int64) := (hs.more ho.more).more o2.more
  obtain ⟨v', h3, ap, hs3, o3, hc⟩ := append_new Try.prog (env := setD (setD env0 (some (Pos.ofNat 6)) (.sl h1.next 0 0 0 0 true 1)) (some (Pos.ofNat 7)) v) (h := h2) (s := tm 6) (x := tm 7) (bytes := 8)
    (by simp [ev_tm, sv_setD]) hs2 (by simpa using hlen) (by omega) (.inr ⟨h1.next, 0, 0, by simp [ev_tm, sv_setD], by omega⟩)
  have hb5 := newB_box h3 .nilSl
  have st := storeR_box hb5 v' hs3.atom.1 hs3.atom.2
  have o4 : Only [] h3 (newB h3 .nilSl) := newH_only _ _ _
  have o5 := putB_only (newB h3 .nilSl) h3.next v'
  obtain ⟨env1, e1, b2, b5⟩ : ∃ env, runOps Try.prog steps_1 env0 h1 = some (env, putB (newB h3 .nilSl) h3.next v') ∧ sv env 2 = .ptr h.next 0 0 ∧ sv env 5 = .ptr h3.next 0 0 := by
    simp [steps_1, runOps, wanted_no, wanted_sv, ev_tm, ev_vl, sv_setD, sv_set, setD_none, qev_mov, qev_bin, qev_un, qev_lenI, qev_pick, qev_load1, qev_idxSl, idx2_sl, idxA2_ptr, opt_some, bin_add, bin_sub, bin_mul, bin_lss, bin_leq, bin_gtr, bin_geq, bin_eql, bin_neq, un_not, un_neg, qev_callv, qev_new1, qev_store1, mk0, a1, ap, st, a2]
  obtain ⟨env2, e2, c4⟩ : ∃ env, runOps Try.prog steps_2 env1 (putB (newB h3 .nilSl) h3.next v') = some (env, putB (newB h3 .nilSl) h3.next v') ∧ sv env 4 = .fn (.func 19) [] [.ptr h.next 0 0, .ptr h3.next 0 0] := by
    simp [steps_2, runOps, wanted_no, wanted_sv, ev_tm, ev_vl, sv_setD, sv_set, setD_none, qev_mov, qev_bin, qev_un, qev_lenI, qev_pick, qev_load1, qev_idxSl, idx2_sl, idxA2_ptr, opt_some, bin_add, bin_sub, bin_mul, bin_lss, bin_leq, bin_gtr, bin_geq, bin_eql, bin_neq, un_not, un_neg, qev_callv, qev_new1, qev_store1, qev_mkFn, b2, b5]
  have n3 := o3.next
  have o35 : Only [h3.next] h3 (putB (newB h3 .nilSl) h3.next v') := (o4.mono (by simp)).trans o5
  have idv : ∀ id g off n cap ex, v' = .sl id g off n cap ex 1 → h.next.num ≤ id.num ∧ id.num < h3.next.num := by
    intro id g off n cap ex e
    rcases hc with ⟨q1, q2, q3⟩ | ⟨n', q1, q2, q3⟩
    · rw [e] at q2
      have q2 : AV.sl id g off n cap ex 1 = .sl h1.next 0 0 0 0 true 1 := q2.trans (by simp [ev_tm, sv_setD])
      cases q2
      omega
    · rw [e] at q1
      cases q1
      omega
  refine ⟨h.next, h3.next, v', _, AmFn.ends steps_code (by simp [steps_fu]) fun callers => ?_, ?_, putB_box hb5 v', ?_, ?_, Nat.le_refl _, by omega, fun id g off n cap ex e => ?_⟩
  · exact Leads.ends (leads_seq.trans <| (leads_region e0).trans <| leads_seq.trans <| (leads_region e1).trans <| leads_seq.trans <| leads_region e2) (ends_ret1 steps_code c4)
  · have : Only [h3.next] h1 (putB (newB h3 .nilSl) h3.next v') := ((o2.trans o3).mono (by simp)).trans o35
    exact hb.only this (by simp only [List.mem_singleton]; intro e; have := congrArg Pos.num e; omega)
  · refine hs3.only o35 fun id g off n cap ex e => ?_
    simp only [List.mem_singleton]
    intro e'; have := (idv _ _ _ _ _ _ e).2; rw [e'] at this; omega
  · refine (((ho.trans (o2.trans o3)).mono (S' := [h3.next]) (by simp)).trans o35).mono fun id hid => ?_
    simp at hid; subst hid
    exact .inr (by omega)
  · have q := idv _ _ _ _ _ _ e
    have := o35.next
    omega
end Go.Proofs.Ytpcddenijmhbfaa.Tog
