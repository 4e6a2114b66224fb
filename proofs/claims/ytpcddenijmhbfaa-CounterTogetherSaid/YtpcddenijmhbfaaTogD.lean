import Derived.ProofKit
import Derived.Test.YtpcddenijmhbfaaTogC
/- THE WALK'S PARTS, part D: what the functions of the law compute, over the abstract machine that stands beside this text. No condition. -/
set_option linter.unusedSimpArgs false
set_option linter.unusedVariables false
namespace Go.Proofs.Ytpcddenijmhbfaa.Tog
open Go Go.Proofs.Ytpcddenijmhbfaa.Am Go.Proofs

theorem wrap_mod {x y : Int} (h : x % 18446744073709551616 = y % 18446744073709551616) : wrapA .i64 x = wrapA .i64 y := by
  rw [wrapA_eq, wrapA_eq]
  unfold IntKind.wrap
  have e : (2 : Int) ^ IntKind.i64.bits = 18446744073709551616 := by decide
  rw [e, h]

theorem mod_wrap (x : Int) : (wrapA .i64 x) % 18446744073709551616 = x % 18446744073709551616 := by
  rw [wrapA_eq]
  unfold IntKind.wrap
  have e : (2 : Int) ^ IntKind.i64.bits = 18446744073709551616 := by decide
  rw [e]
  dsimp only
  split <;> omega

theorem three_law (base a b : Int) : wrapA .i64 (a + wrapA .i64 (b - base)) = wrapA .i64 (wrapA .i64 (a + b) - base) := by
  apply wrap_mod
  have h1 := mod_wrap (b - base)
  have h2 := mod_wrap (a + b)
  omega

theorem ok6 : okCall Try.prog 6 = true := by kernel_rfl

set_option maxRecDepth 20000 in
theorem lsums_drawn {xs : List Int} {v : AV} {env : T AV} {h : Hp} (hs : SlR h v (xs.map int64)) (hlen : xs.length ≤ 1000) (base a b : Int) {p4 : Pos} (ha : Arr h p4 [int64 a, int64 b])
    (s0 : sv env 0 = int64 base) (s2 : sv env 2 = v) (s4 : sv env 4 = .ptr p4 0 0) (s8 : sv env 8 = int64 (sumS 0 xs)) (s9 : sv env 9 = int64 (manyS base base xs)) :
    ∃ rec h' env', Sound Try.prog rec ∧ runDrawn Try.prog rec lsums_8 env h = some (env', h') ∧ sv env' 6 = .bool true ∧ Only [] h h' := by
  have c1 := rsum_fn hs (by omega)
  have c2 := rmany_fn hs (by omega) base
  have c3 := add_fn h a b
  have c4 := delta_fn h base a
  have c5 := three_fn h base a b
  rw [three_law] at c5
  obtain ⟨h', c6, o6⟩ := known_fn h
  obtain ⟨b1, n1⟩ := c1.begins
  obtain ⟨b2, n2⟩ := c2.begins
  obtain ⟨b3, n3⟩ := c3.begins
  obtain ⟨b4, n4⟩ := c4.begins
  obtain ⟨b5, n5⟩ := c5.begins
  obtain ⟨b6, n6⟩ := c6.begins
  have la : read1 h p4 0 0 = some (int64 a) := ha.one (i := 0) (by simp)
  have lb : read1 h p4 0 1 = some (int64 b) := ha.one (i := 1) (by simp)
  have la' : read1 h' p4 0 0 = some (int64 a) := (ha.only o6 (by simp)).one (i := 0) (by simp)
  have lb' : read1 h' p4 0 1 = some (int64 b) := (ha.only o6 (by simp)).one (i := 1) (by simp)
  have hsound := recF_sound (P := Try.prog) (fr := fun k => frOf Try.prog k.f k.args) (A := [⟨10, [v], h, int64 (sumS 0 xs), h⟩, ⟨11, [int64 base, v], h, int64 (manyS base base xs), h⟩, ⟨12, [int64 a, int64 b], h, int64 (wrapA .i64 (a + b)), h⟩,
    ⟨13, [int64 base, int64 a], h, int64 (wrapA .i64 (a - base)), h⟩, ⟨14, [int64 base, int64 a, int64 b], h, int64 (wrapA .i64 (wrapA .i64 (a + b) - base)), h⟩, ⟨6, [], h, .bool true, h'⟩]) (by
      intro k hk
      simp only [List.mem_cons, List.not_mem_nil, or_false] at hk
      rcases hk with e | e | e | e | e | e <;> subst e
      · exact ⟨c1, b1⟩
      · exact ⟨c2, b2⟩
      · exact ⟨c3, b3⟩
      · exact ⟨c4, b4⟩
      · exact ⟨c5, b5⟩
      · exact ⟨c6, b6⟩)
  have R1 : recF [⟨10, [v], h, int64 (sumS 0 xs), h⟩, ⟨11, [int64 base, v], h, int64 (manyS base base xs), h⟩, ⟨12, [int64 a, int64 b], h, int64 (wrapA .i64 (a + b)), h⟩,
    ⟨13, [int64 base, int64 a], h, int64 (wrapA .i64 (a - base)), h⟩, ⟨14, [int64 base, int64 a, int64 b], h, int64 (wrapA .i64 (wrapA .i64 (a + b) - base)), h⟩, ⟨6, [], h, .bool true, h'⟩] (fun k => frOf Try.prog k.f k.args) ⟨frOf Try.prog 10 [v], [], h⟩ = .done (int64 (sumS 0 xs)) h := by
    simp [recF, n1]
  have R2 : recF [⟨10, [v], h, int64 (sumS 0 xs), h⟩, ⟨11, [int64 base, v], h, int64 (manyS base base xs), h⟩, ⟨12, [int64 a, int64 b], h, int64 (wrapA .i64 (a + b)), h⟩,
    ⟨13, [int64 base, int64 a], h, int64 (wrapA .i64 (a - base)), h⟩, ⟨14, [int64 base, int64 a, int64 b], h, int64 (wrapA .i64 (wrapA .i64 (a + b) - base)), h⟩, ⟨6, [], h, .bool true, h'⟩] (fun k => frOf Try.prog k.f k.args) ⟨frOf Try.prog 11 [int64 base, v], [], h⟩ = .done (int64 (manyS base base xs)) h := by
    simp [recF, n2]
  have R3 : recF [⟨10, [v], h, int64 (sumS 0 xs), h⟩, ⟨11, [int64 base, v], h, int64 (manyS base base xs), h⟩, ⟨12, [int64 a, int64 b], h, int64 (wrapA .i64 (a + b)), h⟩,
    ⟨13, [int64 base, int64 a], h, int64 (wrapA .i64 (a - base)), h⟩, ⟨14, [int64 base, int64 a, int64 b], h, int64 (wrapA .i64 (wrapA .i64 (a + b) - base)), h⟩, ⟨6, [], h, .bool true, h'⟩] (fun k => frOf Try.prog k.f k.args) ⟨frOf Try.prog 12 [int64 a, int64 b], [], h⟩ = .done (int64 (wrapA .i64 (a + b))) h := by
    simp [recF, n3]
  have R4 : recF [⟨10, [v], h, int64 (sumS 0 xs), h⟩, ⟨11, [int64 base, v], h, int64 (manyS base base xs), h⟩, ⟨12, [int64 a, int64 b], h, int64 (wrapA .i64 (a + b)), h⟩,
    ⟨13, [int64 base, int64 a], h, int64 (wrapA .i64 (a - base)), h⟩, ⟨14, [int64 base, int64 a, int64 b], h, int64 (wrapA .i64 (wrapA .i64 (a + b) - base)), h⟩, ⟨6, [], h, .bool true, h'⟩] (fun k => frOf Try.prog k.f k.args) ⟨frOf Try.prog 13 [int64 base, int64 a], [], h⟩ = .done (int64 (wrapA .i64 (a - base))) h := by
    simp [recF, n4]
  have R5 : recF [⟨10, [v], h, int64 (sumS 0 xs), h⟩, ⟨11, [int64 base, v], h, int64 (manyS base base xs), h⟩, ⟨12, [int64 a, int64 b], h, int64 (wrapA .i64 (a + b)), h⟩,
    ⟨13, [int64 base, int64 a], h, int64 (wrapA .i64 (a - base)), h⟩, ⟨14, [int64 base, int64 a, int64 b], h, int64 (wrapA .i64 (wrapA .i64 (a + b) - base)), h⟩, ⟨6, [], h, .bool true, h'⟩] (fun k => frOf Try.prog k.f k.args) ⟨frOf Try.prog 14 [int64 base, int64 a, int64 b], [], h⟩ = .done (int64 (wrapA .i64 (wrapA .i64 (a + b) - base))) h := by
    simp [recF, n5]
  have R6 : recF [⟨10, [v], h, int64 (sumS 0 xs), h⟩, ⟨11, [int64 base, v], h, int64 (manyS base base xs), h⟩, ⟨12, [int64 a, int64 b], h, int64 (wrapA .i64 (a + b)), h⟩,
    ⟨13, [int64 base, int64 a], h, int64 (wrapA .i64 (a - base)), h⟩, ⟨14, [int64 base, int64 a, int64 b], h, int64 (wrapA .i64 (wrapA .i64 (a + b) - base)), h⟩, ⟨6, [], h, .bool true, h'⟩] (fun k => frOf Try.prog k.f k.args) ⟨frOf Try.prog 6 [], [], h⟩ = .done (.bool true) h' := by
    simp [recF, n6]
  generalize (recF [⟨10, [v], h, int64 (sumS 0 xs), h⟩, ⟨11, [int64 base, v], h, int64 (manyS base base xs), h⟩, ⟨12, [int64 a, int64 b], h, int64 (wrapA .i64 (a + b)), h⟩,
    ⟨13, [int64 base, int64 a], h, int64 (wrapA .i64 (a - base)), h⟩, ⟨14, [int64 base, int64 a, int64 b], h, int64 (wrapA .i64 (wrapA .i64 (a + b) - base)), h⟩, ⟨6, [], h, .bool true, h'⟩] fun k => frOf Try.prog k.f k.args) = R at *
  obtain ⟨env1, g1, f55, f0, f4⟩ : ∃ env1, runD Try.prog R 0 (lsums_8.take 12) ⟨[], [], [], h.next, env, h⟩ = some ⟨[⟨8, h⟩, ⟨2, h⟩], [], [], h.next, env1, h⟩ ∧ sv env1 55 = .bool true ∧ sv env1 0 = int64 base ∧ sv env1 4 = .ptr p4 0 0 := by
    simp [lsums_8, runD, stepD, actO, drawnGo, kindOf, lookBack, lookAgain, putT, remAl, bit, eqAV_int, runOps, wanted_no, wanted_sv, ev_tm, ev_vl, sv_setD, sv_set, setD_none, qev_mov, qev_bin, qev_un, qev_lenI, qev_pick, qev_load1, qev_idxSl, idx2_sl, idxA2_ptr, opt_some, bin_add, bin_sub, bin_mul, bin_lss, bin_leq, bin_gtr, bin_geq, bin_eql, bin_neq, un_not, un_neg, qev_callv, qev_new1, qev_store1, qev_idxArr, callA_ok ok10, callA_ok ok11, callA_ok ok12, callA_ok ok13, callA_ok ok14, callA_ok ok6, b1, b2, b3, b4, b5, b6, R1, R2, R3, R4, R5, R6, la, lb, s0, s2, s4, s8, s9]
  obtain ⟨env2, lds2, g2, l2, k68, k0, k4⟩ : ∃ env2 lds2, runD Try.prog R 12 ((lsums_8.drop 12).take 13) ⟨[⟨8, h⟩, ⟨2, h⟩], [], [], h.next, env1, h⟩ = some ⟨[⟨16, h⟩, ⟨8, h⟩, ⟨2, h⟩], lds2, [], h.next, env2, h⟩ ∧ (∀ d ∈ lds2, d.i < 25) ∧ sv env2 68 = .bool true ∧ sv env2 0 = int64 base ∧ sv env2 4 = .ptr p4 0 0 := by
    simp [lsums_8, runD, stepD, actO, drawnGo, kindOf, lookBack, lookAgain, putT, remAl, bit, eqAV_int8, runOps, wanted_no, wanted_sv, ev_tm, ev_vl, sv_setD, sv_set, setD_none, qev_mov, qev_bin, qev_un, qev_lenI, qev_pick, qev_load1, qev_idxSl, idx2_sl, idxA2_ptr, opt_some, bin_add, bin_sub, bin_mul, bin_lss, bin_leq, bin_gtr, bin_geq, bin_eql, bin_neq, un_not, un_neg, qev_callv, qev_new1, qev_store1, qev_idxArr, callA_ok ok10, callA_ok ok11, callA_ok ok12, callA_ok ok13, callA_ok ok14, callA_ok ok6, b1, b2, b3, b4, b5, b6, R1, R2, R3, R4, R5, R6, la, lb, f55, f0, f4]
    refine ⟨_, _, ⟨rfl, rfl⟩, ?_⟩
    simp [runOps, wanted_no, wanted_sv, ev_tm, ev_vl, sv_setD, sv_set, setD_none, qev_mov, qev_bin, qev_un, qev_lenI, qev_pick, qev_load1, qev_idxSl, idx2_sl, idxA2_ptr, opt_some, bin_add, bin_sub, bin_mul, bin_lss, bin_leq, bin_gtr, bin_geq, bin_eql, bin_neq, un_not, un_neg, qev_callv, qev_new1, qev_store1, f0, f4]
  have ag2 : lookAgain Try.prog h 268435455 lds2 = true := again_ones (n := 28) (by decide) fun d hd => by have := l2 d hd; omega
  obtain ⟨env3, lds3, g3, l3, m79, m0, m4⟩ : ∃ env3 lds3, runD Try.prog R 25 ((lsums_8.drop 25).take 11) ⟨[⟨16, h⟩, ⟨8, h⟩, ⟨2, h⟩], lds2, [], h.next, env2, h⟩ = some ⟨[⟨28, h⟩, ⟨16, h⟩, ⟨8, h⟩, ⟨2, h⟩], lds3, [], h.next, env3, h⟩ ∧ (∀ d ∈ lds3, d.i < 36) ∧ sv env3 79 = .bool true ∧ sv env3 0 = int64 base ∧ sv env3 4 = .ptr p4 0 0 := by
    simp [lsums_8, runD, stepD, actO, drawnGo, kindOf, lookBack, lookAgain, putT, remAl, bit, eqAV_int8, runOps, wanted_no, wanted_sv, ev_tm, ev_vl, sv_setD, sv_set, setD_none, qev_mov, qev_bin, qev_un, qev_lenI, qev_pick, qev_load1, qev_idxSl, idx2_sl, idxA2_ptr, opt_some, bin_add, bin_sub, bin_mul, bin_lss, bin_leq, bin_gtr, bin_geq, bin_eql, bin_neq, un_not, un_neg, qev_callv, qev_new1, qev_store1, qev_idxArr, callA_ok ok10, callA_ok ok11, callA_ok ok12, callA_ok ok13, callA_ok ok14, callA_ok ok6, b1, b2, b3, b4, b5, b6, R1, R2, R3, R4, R5, R6, la, lb, k68, k0, k4, ag2]
    refine ⟨_, _, ⟨rfl, rfl⟩, ?_⟩
    simp [runOps, wanted_no, wanted_sv, ev_tm, ev_vl, sv_setD, sv_set, setD_none, qev_mov, qev_bin, qev_un, qev_lenI, qev_pick, qev_load1, qev_idxSl, idx2_sl, idxA2_ptr, opt_some, bin_add, bin_sub, bin_mul, bin_lss, bin_leq, bin_gtr, bin_geq, bin_eql, bin_neq, un_not, un_neg, qev_callv, qev_new1, qev_store1, k0, k4]
    intro d hd
    have := l2 d hd
    omega
  have ag3 : lookAgain Try.prog h 2199023255551 lds3 = true := again_ones (n := 41) (by decide) fun d hd => by have := l3 d hd; omega
  obtain ⟨env4, lds4, g4, l4, q95, q0, q4⟩ : ∃ env4 lds4, runD Try.prog R 36 ((lsums_8.drop 36).take 16) ⟨[⟨28, h⟩, ⟨16, h⟩, ⟨8, h⟩, ⟨2, h⟩], lds3, [], h.next, env3, h⟩ = some ⟨[⟨41, h⟩, ⟨28, h⟩, ⟨16, h⟩, ⟨8, h⟩, ⟨2, h⟩], lds4, [], h.next, env4, h⟩ ∧ (∀ d ∈ lds4, d.i < 52) ∧ sv env4 95 = .bool true ∧ sv env4 0 = int64 base ∧ sv env4 4 = .ptr p4 0 0 := by
    simp [lsums_8, runD, stepD, actO, drawnGo, kindOf, lookBack, lookAgain, putT, remAl, bit, eqAV_int8, runOps, wanted_no, wanted_sv, ev_tm, ev_vl, sv_setD, sv_set, setD_none, qev_mov, qev_bin, qev_un, qev_lenI, qev_pick, qev_load1, qev_idxSl, idx2_sl, idxA2_ptr, opt_some, bin_add, bin_sub, bin_mul, bin_lss, bin_leq, bin_gtr, bin_geq, bin_eql, bin_neq, un_not, un_neg, qev_callv, qev_new1, qev_store1, qev_idxArr, callA_ok ok10, callA_ok ok11, callA_ok ok12, callA_ok ok13, callA_ok ok14, callA_ok ok6, b1, b2, b3, b4, b5, b6, R1, R2, R3, R4, R5, R6, la, lb, m79, m0, m4, ag3]
    refine ⟨_, _, ⟨rfl, rfl⟩, ?_⟩
    simp [runOps, wanted_no, wanted_sv, ev_tm, ev_vl, sv_setD, sv_set, setD_none, qev_mov, qev_bin, qev_un, qev_lenI, qev_pick, qev_load1, qev_idxSl, idx2_sl, idxA2_ptr, opt_some, bin_add, bin_sub, bin_mul, bin_lss, bin_leq, bin_gtr, bin_geq, bin_eql, bin_neq, un_not, un_neg, qev_callv, qev_new1, qev_store1, m0, m4]
    intro d hd
    have := l3 d hd
    omega
  have ag4 : lookAgain Try.prog h' 4503599627370495 lds4 = true := again_ones (n := 52) (by decide) l4
  obtain ⟨env5, g5, r6⟩ : ∃ env5, runD Try.prog R 52 ((lsums_8.drop 52).take 3) ⟨[⟨41, h⟩, ⟨28, h⟩, ⟨16, h⟩, ⟨8, h⟩, ⟨2, h⟩], lds4, [], h.next, env4, h⟩ = some ⟨[⟨52, h⟩, ⟨41, h⟩, ⟨28, h⟩, ⟨16, h⟩, ⟨8, h⟩, ⟨2, h⟩], lds4, [], h.next, env5, h'⟩ ∧ sv env5 6 = .bool true := by
    simp [lsums_8, runD, stepD, actO, drawnGo, kindOf, lookBack, lookAgain, putT, remAl, bit, eqAV_int8, runOps, wanted_no, wanted_sv, ev_tm, ev_vl, sv_setD, sv_set, setD_none, qev_mov, qev_bin, qev_un, qev_lenI, qev_pick, qev_load1, qev_idxSl, idx2_sl, idxA2_ptr, opt_some, bin_add, bin_sub, bin_mul, bin_lss, bin_leq, bin_gtr, bin_geq, bin_eql, bin_neq, un_not, un_neg, qev_callv, qev_new1, qev_store1, qev_idxArr, callA_ok ok10, callA_ok ok11, callA_ok ok12, callA_ok ok13, callA_ok ok14, callA_ok ok6, b1, b2, b3, b4, b5, b6, R1, R2, R3, R4, R5, R6, la, lb, q95, ag4]
  refine ⟨R, h', env5, hsound, runDrawn_of (acts := [⟨52, h⟩, ⟨41, h⟩, ⟨28, h⟩, ⟨16, h⟩, ⟨8, h⟩, ⟨2, h⟩]) (lds := lds4) (by simp [lsums_8, skipIds, isAlloc, kindOf]) ?_, r6, o6⟩
  have e : lsums_8 = lsums_8.take 12 ++ ((lsums_8.drop 12).take 13 ++ ((lsums_8.drop 25).take 11 ++ ((lsums_8.drop 36).take 16 ++ (lsums_8.drop 52).take 3))) := rfl
  rw [e, runD_app g1]
  show runD Try.prog R 12 _ _ = _
  rw [runD_app g2]
  show runD Try.prog R 25 _ _ = _
  rw [runD_app g3]
  show runD Try.prog R 36 _ _ = _
  rw [runD_app g4]
  exact g5
end Go.Proofs.Ytpcddenijmhbfaa.Tog

namespace Go.Proofs.Ytpcddenijmhbfaa.Tog
open Go Go.Proofs.Ytpcddenijmhbfaa.Am Go.Proofs

/-- A list of one, made. -/
theorem build1 (P : Program) (env : T AV) (h : Hp) (a : Int) : ∃ h', evalOp P (.buildSl 1 1 [int64 0] [(0, 1, vl (int64 a))]) env h = .val (.sl h.next 0 0 1 1 true 1) h' ∧ SlR h' (.sl h.next 0 0 1 1 true 1) [int64 a] ∧ Only [] h h' := by
  refine ⟨newH h fun s => .cells s (Cells.ofL [int64 a]) 0 0 0 0 false false, ?_, ?_, newH_only _ _ _⟩
  · show (bif Nat.blt 0 1 then newCells h (Cells.ofL [int64 a]) fun id h => Res.val (.sl id 0 0 1 1 true 1) h else .fail "buildSl") = _
    rw [show Nat.blt 0 1 = true from rfl, cond_true]
    unfold newCells
    rw [newK_newH]
  · have q := newH_row (h := h) (c := Cells.ofL [int64 a]) (Cells.ofL_spec _).1 (ser := fun s => s) (fz := false)
    rw [(Cells.ofL_spec _).2.1] at q
    exact .mk rfl q

/-- The law's own copy, with one more behind it. -/
theorem lsums_own {xs : List Int} {v : AV} {env : T AV} {h : Hp} (hs : SlR h v (xs.map int64)) (hlen : xs.length ≤ 1000) (s2 : sv env 2 = v) {p4 : AV} {base : Int} (s0 : sv env 0 = int64 base) (s4 : sv env 4 = p4) :
    ∃ h' id g, Gro h' id g (xs.map int64 ++ [int64 77]) ∧ Only [] h h' ∧ h.next.num ≤ id.num ∧
      ∃ env', runOps Try.prog lsums_3 env h = some (env', h') ∧ sv env' 7 = .sl id g 0 (xs.length + 1) (xs.length + 1) false 1 ∧ sv env' 2 = v ∧ sv env' 0 = int64 base ∧ sv env' 4 = p4 := by
  by_cases hx : xs = []
  · subst hx
    obtain ⟨v1, h1, e1, r1, o1, q1⟩ := append_new Try.prog (env := setD env (some (Pos.ofNat 14)) v) (h := h) (s := vl .nilSl) (x := tm 14) (bytes := 8) (by simp [ev_tm, sv_setD]) hs (by simp) (by omega) (.inl rfl)
    have q1 : v1 = .nilSl ∧ h1 = h := by
      rcases q1 with ⟨_, q1, q1'⟩ | ⟨n, q1, q2, q3⟩
      · exact ⟨q1, q1'⟩
      · simp at q2
        subst q2
        exfalso
        rw [q1] at e1
        have e : evalOp Try.prog (.append 1 8 (vl .nilSl) (tm 14)) (setD env (some (Pos.ofNat 14)) v) h = .val .nilSl h := by
          show appendA h 1 8 .nilSl (ev _ (tm 14)) = _
          rw [show ev (setD env (some (Pos.ofNat 14)) v) (tm 14) = v by simp [ev_tm, sv_setD]]
          generalize hL : ([] : List Int).map int64 = L at hs
          cases hs with
          | nil => rfl
          | mk hn r => subst hL; simp at hn; subst hn; rfl
        rw [e] at e1
        cases e1
    obtain ⟨q1, q1'⟩ := q1
    subst q1 q1'
    obtain ⟨h2, e2, r2, o2⟩ := build1 Try.prog (setD (setD env (some (Pos.ofNat 14)) v) (some (Pos.ofNat 15)) .nilSl) h1 77
    obtain ⟨h3, e3, a3, o3, n3⟩ := append_new' Try.prog (env := setD (setD (setD env (some (Pos.ofNat 14)) v) (some (Pos.ofNat 15)) .nilSl) (some (Pos.ofNat 16)) (.sl h1.next 0 0 1 1 true 1)) (h := h2) (s := tm 15) (x := tm 16) (bytes := 8) (by simp [ev_tm, sv_setD]) r2 (by simp) (by simp) (by omega) (.inl (by simp [ev_tm, sv_setD]))
    refine ⟨h3, h2.next, 0, a3.gro, o2.trans o3, o2.next, ?_⟩
    simp [lsums_3, runOps, wanted_no, wanted_sv, ev_tm, ev_vl, sv_setD, sv_set, setD_none, qev_mov, qev_bin, qev_un, qev_lenI, qev_pick, qev_load1, qev_idxSl, idx2_sl, idxA2_ptr, opt_some, bin_add, bin_sub, bin_mul, bin_lss, bin_leq, bin_gtr, bin_geq, bin_eql, bin_neq, un_not, un_neg, qev_callv, qev_new1, qev_store1, s2, e1, e2, e3, s0, s4]
  · have hx' : xs.map int64 ≠ [] := by simpa using hx
    obtain ⟨h1, e1, a1, o1, n1⟩ := append_new' Try.prog (env := setD env (some (Pos.ofNat 14)) v) (h := h) (s := vl .nilSl) (x := tm 14) (bytes := 8) (by simp [ev_tm, sv_setD]) hs hx' (by simp; omega) (by omega) (.inl rfl)
    obtain ⟨h2, e2, r2, o2⟩ := build1 Try.prog (setD (setD env (some (Pos.ofNat 14)) v) (some (Pos.ofNat 15)) (.sl h.next 0 0 (xs.map int64).length (xs.map int64).length false 1)) h1 77
    obtain ⟨h3, e3, a3, o3, n3⟩ := append_gro Try.prog (env := setD (setD (setD env (some (Pos.ofNat 14)) v) (some (Pos.ofNat 15)) (.sl h.next 0 0 (xs.map int64).length (xs.map int64).length false 1)) (some (Pos.ofNat 16)) (.sl h1.next 0 0 1 1 true 1)) (h := h2) (s := tm 15) (x := tm 16) (bytes := 8) (id := h.next) (g := 0) (l := xs.map int64) (l2 := [int64 77])
      (by simp [ev_tm, sv_setD]) (a1.gro.only o2 (by simp)) (by simp [ev_tm, sv_setD]) r2 (by simp) (by simp; omega) (by omega) (by intro y hy; simp at hy; subst hy; rfl)
    refine ⟨h3, h.next, 1, a3, ?_, Nat.le_refl _, ?_⟩
    · exact Only.weak o3 (N := h.next.num) (by simp) (o1.trans o2) (Nat.le_refl _)
    · simp at e1 e2 e3
      simp [lsums_3, runOps, wanted_no, wanted_sv, ev_tm, ev_vl, sv_setD, sv_set, setD_none, qev_mov, qev_bin, qev_un, qev_lenI, qev_pick, qev_load1, qev_idxSl, idx2_sl, idxA2_ptr, opt_some, bin_add, bin_sub, bin_mul, bin_lss, bin_leq, bin_gtr, bin_geq, bin_eql, bin_neq, un_not, un_neg, qev_callv, qev_new1, qev_store1, s2, e1, e2, e3, s0, s4]
end Go.Proofs.Ytpcddenijmhbfaa.Tog

namespace Go.Proofs.Ytpcddenijmhbfaa.Tog
open Go Go.Proofs.Ytpcddenijmhbfaa.Am Go.Proofs

theorem lsums_fn {xs : List Int} {v : AV} {h : Hp} (hs : SlR h v (xs.map int64)) (base a b : Int) : ∃ h', AmFn Try.prog 3 [int64 base, .agg [int64 a, int64 b], v] h (.bool true) h' ∧ Only [] h h' := by
  have ar := newH_arr h [int64 a, int64 b]
  have o1 : Only [] h (newH h fun s => .cells s (Cells.ofL [int64 a, int64 b]) 0 0 0 0 false false) := newH_only _ _ _
  obtain ⟨env0, e0, a0, a2, a4⟩ : ∃ env, runOps Try.prog lsums_0 (setArgs .e 0 [int64 base, .agg [int64 a, int64 b], v]) h = some (env, newH h fun s => .cells s (Cells.ofL [int64 a, int64 b]) 0 0 0 0 false false) ∧ sv env 0 = int64 base ∧ sv env 2 = v ∧ sv env 4 = .ptr h.next 0 0 := by
    simp [lsums_0, sv_args, runOps, wanted_no, wanted_sv, ev_tm, ev_vl, sv_setD, sv_set, setD_none, qev_mov, qev_bin, qev_un, qev_lenI, qev_pick, qev_load1, qev_idxSl, idx2_sl, idxA2_ptr, opt_some, bin_add, bin_sub, bin_mul, bin_lss, bin_leq, bin_gtr, bin_geq, bin_eql, bin_neq, un_not, un_neg, qev_callv, qev_new1, qev_store1, qev_boxL, AV.cells]
  have nx1 : (newH h fun s => Blk.cells s (Cells.ofL [int64 a, int64 b]) 0 0 0 0 false false).next.num = h.next.num + 1 := newH_next _ _
  generalize (newH h fun s => Blk.cells s (Cells.ofL [int64 a, int64 b]) 0 0 0 0 false false) = h1 at *
  have hs1 := hs.more o1.more
  have hl1 : ∀ env x, ev env x = v → evalOp Try.prog (.lenL x) env h1 = .val (int64 xs.length) h1 := fun env x hx => by simpa using hs1.len Try.prog env x hx
  obtain ⟨env1, e1, b12, b0, b2, b4⟩ : ∃ env, runOps Try.prog lsums_1 env0 h1 = some (env, h1) ∧ sv env 12 = .bool (decide ((1000 : Int) < xs.length)) ∧ sv env 0 = int64 base ∧ sv env 2 = v ∧ sv env 4 = .ptr h.next 0 0 := by
    simp [lsums_1, runOps, wanted_no, ev_tm, ev_vl, sv_setD, qev_mov, qev_bin, opt_some, bin_gtr, hl1, a0, a2, a4]
  by_cases hbig : (1000 : Int) < xs.length
  · obtain ⟨h2, k6, o2⟩ := known_fn h1
    obtain ⟨env2, e2, c6⟩ : ∃ env, runC Try.prog [⟨6, [], h1, .bool true, h2⟩] lsums_2 env1 h1 = some (env, h2) ∧ sv env 6 = .bool true := by
      simp [lsums_2, runC, runOps, wanted_no, wanted_sv, ev_tm, ev_vl, sv_setD, sv_set, setD_none, qev_mov, qev_bin, qev_un, qev_lenI, qev_pick, qev_load1, qev_idxSl, idx2_sl, idxA2_ptr, opt_some, bin_add, bin_sub, bin_mul, bin_lss, bin_leq, bin_gtr, bin_geq, bin_eql, bin_neq, un_not, un_neg, qev_callv, qev_new1, qev_store1, callA_ok ok6]
    refine ⟨h2, AmFn.ends lsums_code (by simp [lsums_fu]) fun callers => ?_, o1.trans o2⟩
    exact Leads.ends (leads_seq.trans <| (leads_region e0).trans <| leads_seq.trans <| leads_seq.trans <| (leads_region e1).trans <| (leads_cond (t := true) (by rw [show ev env1 (tm 12) = sv env1 12 from rfl, b12, decide_eq_true hbig])).trans <|
      leads_seq.trans <| leads_regionC _ (by intro x hx; simp at hx; subst hx; exact k6) e2) (ends_ret1 lsums_code c6)
  · have hlen : xs.length ≤ 1000 := by omega
    obtain ⟨h2, id, g, gro, o2, hid, env2, e2, c7, c2, c0, c4⟩ := lsums_own hs1 hlen b2 b0 b4
    have sl2 : SlR h2 (.sl id g 0 xs.length (xs.length + 1) false 1) (xs.map int64) := .mk (by simp) gro.front
    obtain ⟨h3, ks, o3⟩ := sum_fn sl2 (by omega)
    have hs2 := hs1.more o2.more
    have hl2 : ∀ env x, ev env x = v → evalOp Try.prog (.lenL x) env h2 = .val (int64 xs.length) h2 := fun env x hx => by simpa using hs2.len Try.prog env x hx
    have hsl2 : ∀ env x y, ev env x = .sl id g 0 (xs.length + 1) (xs.length + 1) false 1 → ev env y = int64 xs.length → evalOp Try.prog (.sliceSl 1 x none (some y) none) env h2 = .val (.sl id g 0 xs.length (xs.length + 1) false 1) h2 := fun env x y hx hy => slice_to Try.prog hx hy (by omega)
    obtain ⟨env3, e3, d8, d7, d2, d0, d4⟩ : ∃ env, runC Try.prog [⟨7, [.sl id g 0 xs.length (xs.length + 1) false 1], h2, int64 (sumS 0 xs), h3⟩] lsums_4 env2 h2 = some (env, h3) ∧ sv env 8 = int64 (sumS 0 xs) ∧ sv env 7 = .sl id g 0 (xs.length + 1) (xs.length + 1) false 1 ∧ sv env 2 = v ∧ sv env 0 = int64 base ∧ sv env 4 = .ptr h.next 0 0 := by
      simp [lsums_4, runC, wanted_no, ev_tm, ev_vl, sv_setD, qev_mov, qev_callv, callA_ok ok7, hl2, hsl2, c7, c2, c0, c4]
    have gro3 := gro.only o3 (by simp)
    have hs3 := hs2.more o3.more
    have sl3 : SlR h3 (.sl id g 0 xs.length (xs.length + 1) false 1) (xs.map int64) := .mk (by simp) gro3.front
    have hl3 : ∀ env x, ev env x = v → evalOp Try.prog (.lenL x) env h3 = .val (int64 xs.length) h3 := fun env x hx => by simpa using hs3.len Try.prog env x hx
    have hsl3 : ∀ env x y, ev env x = .sl id g 0 (xs.length + 1) (xs.length + 1) false 1 → ev env y = int64 xs.length → evalOp Try.prog (.sliceSl 1 x none (some y) none) env h3 = .val (.sl id g 0 xs.length (xs.length + 1) false 1) h3 := fun env x y hx hy => slice_to Try.prog hx hy (by omega)
    have km := many_fn sl3 (by omega) base
    obtain ⟨env4, e4, f9, f8, f7, f2, f0, f4⟩ : ∃ env, runC Try.prog [⟨8, [int64 base, .sl id g 0 xs.length (xs.length + 1) false 1], h3, int64 (manyS base base xs), h3⟩] lsums_5 env3 h3 = some (env, h3) ∧ sv env 9 = int64 (manyS base base xs) ∧ sv env 8 = int64 (sumS 0 xs) ∧ sv env 7 = .sl id g 0 (xs.length + 1) (xs.length + 1) false 1 ∧ sv env 2 = v ∧ sv env 0 = int64 base ∧ sv env 4 = .ptr h.next 0 0 := by
      simp [lsums_5, runC, wanted_no, ev_tm, ev_vl, sv_setD, qev_mov, qev_callv, callA_ok ok8, hl3, hsl3, d8, d7, d2, d0, d4]
    have kq := same_fn sl3 hs3 (by omega)
    rw [decide_eq_true (rfl : xs = xs)] at kq
    have one := gro3.row.one xs.length (by simp)
    have one : read1 h3 id g xs.length = some (int64 77) := by simpa using one
    have hlt : (xs.length : Int) < xs.length + 1 := by omega
    obtain ⟨env5, e5, g43, g9, g8, g2, g0, g4⟩ : ∃ env, runC Try.prog [⟨9, [.sl id g 0 xs.length (xs.length + 1) false 1, v], h3, .bool true, h3⟩] lsums_6 env4 h3 = some (env, h3) ∧ sv env 43 = .bool false ∧ sv env 9 = int64 (manyS base base xs) ∧ sv env 8 = int64 (sumS 0 xs) ∧ sv env 2 = v ∧ sv env 0 = int64 base ∧ sv env 4 = .ptr h.next 0 0 := by
      simp [lsums_6, runC, wanted_no, wanted_sv, ev_tm, ev_vl, sv_setD, qev_mov, qev_callv, qev_un, un_not, opt_some, qev_idxSl, idx2_sl, qev_load1, qev_bin, bin_neq, qev_pick, callA_ok ok9, hl3, hsl3, f9, f8, f7, f2, f0, f4, one, hlt]
    obtain ⟨rec, h4, env6, hrec, e6, r6, o4⟩ := lsums_drawn hs3 hlen base a b ((ar.only o2 (by simp)).only o3 (by simp)) g0 g2 g4 g8 g9
    refine ⟨h4, AmFn.ends lsums_code (by simp [lsums_fu]) fun callers => ?_, o1.trans (o2.trans (o3.trans o4))⟩
    exact Leads.ends (leads_seq.trans <| (leads_region e0).trans <| leads_seq.trans <| leads_seq.trans <| (leads_region e1).trans <| (leads_cond (t := false) (by rw [show ev env1 (tm 12) = sv env1 12 from rfl, b12, decide_eq_false hbig])).trans <|
      leads_skip.trans <| leads_seq.trans <| (leads_region e2).trans <| leads_seq.trans <| (leads_regionC _ (by intro x hx; simp at hx; subst hx; exact ks) e3).trans <| leads_seq.trans <| (leads_regionC _ (by intro x hx; simp at hx; subst hx; exact km) e4).trans <|
      leads_seq.trans <| leads_seq.trans <| (leads_regionC _ (by intro x hx; simp at hx; subst hx; exact kq) e5).trans <| (leads_cond (t := false) g43).trans <| leads_skip.trans <| leads_seq.trans <| leads_drawn hrec e6) (ends_ret1 lsums_code r6)
end Go.Proofs.Ytpcddenijmhbfaa.Tog

namespace Go.Proofs.Ytpcddenijmhbfaa.Tog
open Go Go.Proofs.Ytpcddenijmhbfaa.Am Go.Proofs Go.RowKit

theorem relInts (φ : Phi) : ∀ xs : List Int, RelL φ (xs.map int64) (xs.map (Value.int .i64))
  | [] => .nil
  | x :: xs => .cons (.int _ _) (relInts φ xs)

/-- CounterSums over a slice that is there. -/
theorem lsums_walk {W : World} {a : Addr} {len cap : Nat} {zs : List Int} (hb : ∃ C el fr, W.heap[a.block]? = some (.cells C el fr)) (hs : a.spot = none) (hl : len ≤ cap) (hz : zs.length = cap) (hc : ∀ i, i < cap → W.cell? (a.add i) = some (.int .i64 (zs.getD i 0))) (base x y : Int) :
    Calls Try.prog 3 #[.int .i64 base, .agg #[.int .i64 x, .int .i64 y], .slice (some a) len cap] W fun e w' => e = .returned (.bool true) ∧ Below W.heap.size W w' := by
  obtain ⟨C, el, fr, hb⟩ := hb
  obtain ⟨b, off, spot⟩ := a
  cases hs
  have hC : ∀ i, i < cap → C[off + i]? = some (.int .i64 (zs.getD i 0)) := fun i hi => by
    have := hc i hi
    rw [Go.WideShapes.add_plain] at this
    simpa [World.cell?, hb] using this
  have hcap : 0 < cap → off + cap ≤ C.size := fun h0 => by
    have := hC (cap - 1) (by omega)
    rcases Nat.lt_or_ge (off + (cap - 1)) C.size with q | q
    · omega
    · rw [Array.getElem?_eq_none q] at this; cases this
  have hll : ((zs.take len).map int64).length = len := by simp; omega
  have hR : HR Try.prog (rowPhi b off C.size) (rowH ((zs.take len).map int64).length ((zs.take len).map int64)) W := rowH_rel (ys := (zs.take len).map (Value.int .i64)) hb (by simp) (fun i hi => by
    have hi : i < len := by simp at hi; omega
    rw [hC i (by omega)]
    simp [List.getElem?_take_of_lt hi, List.getD_eq_getElem?_getD, List.getElem?_eq_getElem (show i < zs.length by omega)]) (fun φ => relInts φ _)
  obtain ⟨h', hf, _⟩ := lsums_fn (rowH_row (l := (zs.take len).map int64)) base x y
  have hsl := rowH_slice (b := b) (off := off) (cap := cap) (n := C.size) (l := (zs.take len).map int64) (by omega) hcap
  rw [hll] at hsl
  rw [hll] at hf
  have hrel : RelL (rowPhi b off C.size) [int64 base, .agg [int64 x, int64 y], .sl Pos.first 0 0 len len false 1] [.int .i64 base, .agg #[.int .i64 x, .int .i64 y], .slice (some ⟨b, off, none⟩) len cap] :=
    .cons (.int _ _) (.cons (.agg (.cons (.int _ _) (.cons (.int _ _) .nil))) (.cons hsl .nil))
  rw [hll] at hR
  refine (hf.calls hR rfl (xs := #[.int .i64 base, .agg #[.int .i64 x, .int .i64 y], .slice (some ⟨b, off, none⟩) len cap]) hrel).mono fun e w' ⟨φ', z, q1, q2, q3, q4⟩ => ?_
  cases q2
  exact ⟨q1, q4.below (rowH_ro _ _)⟩
/-- CounterSums over the slice that is nil. -/
theorem lsums_walk_nil (W : World) (base x y : Int) :
    Calls Try.prog 3 #[.int .i64 base, .agg #[.int .i64 x, .int .i64 y], .slice none 0 0] W fun e w' => e = .returned (.bool true) ∧ Below W.heap.size W w' := by
  have hR := start_rel (P := Try.prog) (w := W) (Nat.zero_le _)
  obtain ⟨h', hf, _⟩ := lsums_fn (xs := []) (v := .nilSl) (h := ⟨.e, Pos.ofNat (globN Try.prog), 0, 0⟩) .nil base x y
  have hrel : RelL (phi0 Try.prog) [int64 base, .agg [int64 x, int64 y], .nilSl] [.int .i64 base, .agg #[.int .i64 x, .int .i64 y], .slice none 0 0] :=
    .cons (.int _ _) (.cons (.agg (.cons (.int _ _) (.cons (.int _ _) .nil))) (.cons .nilSl .nil))
  refine (hf.calls hR rfl (xs := #[.int .i64 base, .agg #[.int .i64 x, .int .i64 y], .slice none 0 0]) hrel).mono fun e w' ⟨φ', z, q1, q2, q3, q4⟩ => ?_
  cases q2
  refine ⟨q1, q4.below fun id ⟨b, e, _⟩ => ?_⟩
  rw [T.get_e] at e
  cases e
end Go.Proofs.Ytpcddenijmhbfaa.Tog
