import Derived.Test.YtmifpiglcphmoaaCountsB
/- THE WALK'S PARTS, part C: what the functions of the law compute, over the abstract machine that stands beside this text. No condition. -/
set_option linter.unusedSimpArgs false
set_option linter.unusedVariables false
namespace Go.Proofs.Ytmifpiglcphmoaa.Counts
open Go Go.Proofs.Ytmifpiglcphmoaa.Am Go.Proofs

theorem known_closed : closedT Try.prog 11 = true := by kernel_rfl

theorem known_fn (h : Hp) : AmFn Try.prog 11 [] h (.bool true) h := closed_fn known_closed h

/-- What holds ahead of a round of the law. -/
structure Inv (N : Nat) (h : Hp) (p : Pos) (v vg vt vp : AV) (w gl ts ps : List Int) (sent : Int) (tw : Bool) (i : Nat) : Prop where
  net : NetAt N h p v w sent
  got : Own N h vg (gl.map int64)
  gp : ∀ g off n cap ex, vg ≠ .sl p g off n cap ex 1
  gv : ∀ id g off n cap ex g' off' n' cap' ex', v = .sl id g off n cap ex 1 → vg ≠ .sl id g' off' n' cap' ex' 1
  things : ArgS h vt (ts.map int64)
  picks : ArgS h vp (ps.map int64)
  ot : ∀ id g off n cap ex, vt = .sl id g off n cap ex 1 → id.num < N
  op : ∀ id g off n cap ex, vp = .sl id g off n cap ex 1 → id.num < N
  sum : sent = (gl.length : Int) + w.length
  bw : w.length ≤ 1000 + i
  bg : gl.length ≤ i
  cnt : tw = false → ∀ x, gl.count x + w.count x = ts.count x
  hN : N ≤ h.next.num

def Sl (env : T AV) (p : Pos) (vt vp vg : AV) (tw : Bool) (n : Int) (i : Nat) : Prop :=
  sv env 0 = vt ∧ sv env 1 = vp ∧ sv env 2 = .bool tw ∧ sv env 7 = .ptr p 0 0 ∧ sv env 8 = int64 n ∧ sv env 9 = vg ∧ sv env 10 = int64 i

section
variable {N : Nat} {h : Hp} {p : Pos} {v vg vt vp : AV} {w gl ts ps : List Int} {sent : Int} {tw : Bool} {i : Nat}

/-- Which one is picked. -/
theorem lcount_pick (a : Inv N h p v vg vt vp w gl ts ps sent tw i) (hi : i < ps.length) (hi2 : i < 2000) (hw : 0 < w.length) {env : T AV} (s : Sl env p vt vp vg tw gl.length i) :
    ∃ rec env', Sound Try.prog rec ∧ runDrawn Try.prog rec lcount_8 env h = some (env', h) ∧ Sl env' p vt vp vg tw gl.length i ∧ sv env' 11 = int64 (ps[i].tmod w.length) := by
  obtain ⟨s0, s1, s2, s7, s8, s9, s10⟩ := s
  have c1 := len_fn a.net
  obtain ⟨b1, n1⟩ := c1.begins
  have hsound := recF_sound (P := Try.prog) (fr := fun k => frOf Try.prog k.f k.args) (A := [⟨12, [.ptr p 0 0], h, int64 w.length, h⟩]) (by
      intro k hk
      simp only [List.mem_cons, List.not_mem_nil, or_false] at hk
      subst hk
      exact ⟨c1, b1⟩)
  have R1 : recF [⟨12, [.ptr p 0 0], h, int64 w.length, h⟩] (fun k => frOf Try.prog k.f k.args) ⟨frOf Try.prog 12 [.ptr p 0 0], [], h⟩ = .done (int64 w.length) h := by
    simp [recF, n1]
  generalize (recF [⟨12, [.ptr p 0 0], h, int64 w.length, h⟩] fun k => frOf Try.prog k.f k.args) = R at *
  obtain ⟨id, g, off, cap, ex, hv, row⟩ := a.picks.sl.sl_or (x := int64 ps[i]) (by simp)
  have hone := row.one i (by simpa using hi)
  simp [List.getElem?_eq_getElem hi] at hone
  have hrem := bin_rem .other false .i64 ps[i] (w.length : Int) (by omega)
  rw [hv] at s1
  obtain ⟨env', acts, lds, e, f⟩ : ∃ env' acts lds, runD Try.prog R 0 lcount_8 ⟨[], [], [], h.next, env, h⟩ = some ⟨acts, lds, [], h.next, env', h⟩ ∧
      ((sv env' 0 = vt ∧ sv env' 1 = .sl id g off ps.length cap ex 1 ∧ sv env' 2 = .bool tw ∧ sv env' 7 = .ptr p 0 0 ∧ sv env' 8 = int64 gl.length ∧ sv env' 9 = vg ∧ sv env' 10 = int64 i) ∧ sv env' 11 = int64 (ps[i].tmod w.length)) := by
    simp [lcount_8, runD, stepD, actO, kindOf, lookBack, lookAgain, putT, insT, remAl, bit, eqAV_int8, runOps, wanted_no, wanted_sv, ev_tm, ev_vl, sv_setD, sv_set, setD_none, qev_mov, qev_bin, qev_un, qev_lenI, qev_pick, qev_load1, qev_idxSl, idx2_sl, idxA2_ptr, opt_some, bin_add, bin_sub, bin_mul, bin_lss, bin_leq, bin_gtr, bin_geq, bin_eql, bin_neq, un_not, un_neg, qev_callv, qev_new1, qev_store1, qev_nilC, nilC_ptr, qev_fld, fldA_ptr, qev_extract, nth0, nth1, nth2, qev_eqPtr, sameP_nil, notIf, callA_ok ok12, b1, R1, s0, s1, s2, s7, s8, s9, s10, hi, hone, hrem]
  refine ⟨R, env', hsound, runDrawn_of (acts := acts) (lds := lds) (by simp [lcount_8, skipIds, isAlloc, kindOf]) e, ?_, f.2⟩
  have f1 := f.1
  rw [← (by simpa using hv : vp = .sl id g off ps.length cap ex 1)] at f1
  exact f1
end
end Go.Proofs.Ytmifpiglcphmoaa.Counts

namespace Go.Proofs.Ytmifpiglcphmoaa.Counts
open Go Go.Proofs.Ytmifpiglcphmoaa.Am Go.Proofs

section
variable {N : Nat} {h : Hp} {p : Pos} {v vg vt vp : AV} {w gl ts ps : List Int} {sent : Int} {tw : Bool} {i : Nat}

/-- The place that is picked, made one within the row. -/
theorem lcount_place (a : Inv N h p v vg vt vp w gl ts ps sent tw i) (hw : 0 < w.length) (hw2 : w.length < 1000000) {env : T AV} (s : Sl env p vt vp vg tw gl.length i) {x : Int} (s11 : sv env 11 = int64 (x.tmod w.length)) :
    ∃ env' k, k < w.length ∧ Dos Try.prog 3 (.seq (.region lcount_9) (.cond (tm 53) (.region lcount_10) .skip)) env h .go [] env' h ∧ Sl env' p vt vp vg tw gl.length i ∧ sv env' 11 = int64 ((k : Nat) : Int) := by
  obtain ⟨s0, s1, s2, s7, s8, s9, s10⟩ := s
  have b1 : x.tmod w.length < w.length := Int.tmod_lt_of_pos _ (by omega)
  have b2 : -(w.length : Int) < x.tmod w.length := by
    have := Int.lt_tmod_of_pos x (show (0 : Int) < w.length by omega)
    omega
  have c1 := len_fn a.net
  by_cases hneg : x.tmod w.length < 0
  · have w1 : wrapA .i64 (x.tmod w.length + w.length) = x.tmod w.length + w.length := wrap64 (by omega) (by omega)
    obtain ⟨k, hk⟩ : ∃ k : Nat, (k : Int) = x.tmod w.length + w.length := ⟨(x.tmod w.length + w.length).toNat, by omega⟩
    obtain ⟨env', e, f⟩ : ∃ env', runS Try.prog true (.seq (.region lcount_9) (.cond (tm 53) (.region lcount_10) .skip)) [⟨12, [.ptr p 0 0], h, int64 w.length, h⟩] env h = some (.upt [], [], env', h) ∧ (sv env' 0 = vt ∧ sv env' 1 = vp ∧ sv env' 2 = .bool tw ∧ sv env' 7 = .ptr p 0 0 ∧ sv env' 8 = int64 gl.length ∧ sv env' 9 = vg ∧ sv env' 10 = int64 i) ∧ sv env' 11 = int64 ((k : Nat) : Int) := by
      rw [hk]
      simp [lcount_9, lcount_10, runS, runR, Rs.seq, runOps, wanted_no, wanted_sv, ev_tm, ev_vl, sv_setD, sv_set, setD_none, qev_mov, qev_bin, qev_un, qev_lenI, qev_pick, qev_load1, qev_idxSl, idx2_sl, idxA2_ptr, opt_some, bin_add, bin_sub, bin_mul, bin_lss, bin_leq, bin_gtr, bin_geq, bin_eql, bin_neq, un_not, un_neg, qev_callv, qev_new1, qev_store1, qev_nilC, nilC_ptr, qev_fld, fldA_ptr, qev_extract, nth0, nth1, nth2, qev_eqPtr, sameP_nil, notIf, callA_ok ok12, s0, s1, s2, s7, s8, s9, s10, s11, hneg, w1]
    exact ⟨env', k, by omega, Dos.runGo _ (by intro x hx; simp at hx; subst hx; exact c1) e, f.1, f.2⟩
  · obtain ⟨k, hk⟩ : ∃ k : Nat, (k : Int) = x.tmod w.length := ⟨(x.tmod w.length).toNat, by omega⟩
    obtain ⟨env', e, f⟩ : ∃ env', runS Try.prog true (.seq (.region lcount_9) (.cond (tm 53) (.region lcount_10) .skip)) [] env h = some (.upt [], [], env', h) ∧ (sv env' 0 = vt ∧ sv env' 1 = vp ∧ sv env' 2 = .bool tw ∧ sv env' 7 = .ptr p 0 0 ∧ sv env' 8 = int64 gl.length ∧ sv env' 9 = vg ∧ sv env' 10 = int64 i) ∧ sv env' 11 = int64 ((k : Nat) : Int) := by
      rw [hk]
      simp [lcount_9, runS, runR, Rs.seq, runOps, wanted_no, wanted_sv, ev_tm, ev_vl, sv_setD, sv_set, setD_none, qev_mov, qev_bin, qev_un, qev_lenI, qev_pick, qev_load1, qev_idxSl, idx2_sl, idxA2_ptr, opt_some, bin_add, bin_sub, bin_mul, bin_lss, bin_leq, bin_gtr, bin_geq, bin_eql, bin_neq, un_not, un_neg, qev_callv, qev_new1, qev_store1, qev_nilC, nilC_ptr, qev_fld, fldA_ptr, qev_extract, nth0, nth1, nth2, qev_eqPtr, sameP_nil, notIf, s0, s1, s2, s7, s8, s9, s10, s11, hneg]
    exact ⟨env', k, by omega, Dos.runGo [] (by simp) e, f.1, f.2⟩

theorem count_cut (w : List Int) {k : Nat} (hk : k < w.length) (x : Int) : (w.take k ++ w.drop (k + 1)).count x + [w[k]].count x = w.count x := by
  have e : w = w.take k ++ (w[k] :: w.drop (k + 1)) := by rw [← List.drop_eq_getElem_cons hk, List.take_append_drop]
  have : w.count x = (w.take k ++ (w[k] :: w.drop (k + 1))).count x := by rw [← e]
  rw [this, List.count_append, List.count_append, List.count_cons, List.count_cons, List.count_nil]
  omega

/-- One round of the law. -/
theorem lcount_round (a : Inv N h p v vg vt vp w gl ts ps sent tw i) (hi : i < ps.length) (hi2 : i < 2000) (hw : 0 < w.length) {env : T AV} (s : Sl env p vt vp vg tw gl.length i) :
    ∃ env' h' v' vg' w' gl' sent', Dos Try.prog 3 lcount_20 env h .go [] env' h' ∧ Inv N h' p v' vg' vt vp w' gl' ts ps sent' tw (i + 1) ∧ Sl env' p vt vp vg' tw gl'.length (i + 1) := by
  have bw := a.bw
  have bg := a.bg
  have c1 := len_fn a.net
  have hps : ∀ env x, ev env x = vp → evalOp Try.prog (.lenL x) env h = .val (int64 ps.length) h := SlR.lenI a.picks.sl
  obtain ⟨env1, e1, s1⟩ : ∃ env', runS Try.prog false lcount_20 [⟨12, [.ptr p 0 0], h, int64 w.length, h⟩] env h = some (.upt [.code (.drawn lcount_8), .code (.seq (.seq (.region lcount_9) (.cond (tm 53) (.region lcount_10) .skip)) (.seq (.seq (.region lcount_11) (.cond (tm 63) (.seq (.seq (.region lcount_12) (.cond (tm 67) (.seq (.region lcount_13) .ret) .skip)) (.exit 1)) .skip)) (.seq (.region lcount_14) (.seq (.seq (.region lcount_15) (.cond (tm 75) (.seq (.region lcount_16) .ret) .skip)) (.seq (.region lcount_17) (.region lcount_18)))))), .inBlock 1, .code (.region lcount_19)], [], env', h) ∧
      (sv env' 0 = vt ∧ sv env' 1 = vp ∧ sv env' 2 = .bool tw ∧ sv env' 7 = .ptr p 0 0 ∧ sv env' 8 = int64 gl.length ∧ sv env' 9 = vg ∧ sv env' 10 = int64 i) := by
    obtain ⟨s0, s1, s2, s7, s8, s9, s10⟩ := s
    have q1 : (i : Int) < ps.length := by omega
    have q2 : (i : Int) < 2000 := by omega
    have q3 : (0 : Int) < w.length := by omega
    simp [lcount_20, lcount_7, runS, runR, Rs.seq, Rs.block, runOps, wanted_no, wanted_sv, ev_tm, ev_vl, sv_setD, qev_mov, qev_bin, bin_lss, bin_gtr, opt_some, qev_pick, qev_callv, callA_ok ok12, hps, s0, s1, s2, s7, s8, s9, s10, q1, q2, q3, hw, hi, hi2]
  obtain ⟨rec, env2, hrec, e2, s2, f11⟩ := lcount_pick a hi hi2 hw (env := env1) s1
  obtain ⟨env3, k, hk, d3, s3, g11⟩ := lcount_place a hw (by omega) s2 f11
  have w1 : wrapA .i64 ((i : Int) + 1) = (i : Int) + 1 := wrap64 (by omega) (by omega)
  have vold := a.net.way.old
  have gold := a.got.old
  have pold := a.net.st.old
  have hN := a.hN
  have hsum := a.sum
  by_cases htw : tw = true ∧ i % 3 = 1
  · obtain ⟨htw, hm⟩ := htw
    obtain ⟨v', h', S, kt, net, o, hS, hv⟩ := twin_fn a.net hk (by omega) (by omega) a.hN
    obtain ⟨t0, t1, t2, t7, t8, t9, t10⟩ := s3
    have hmod : (i : Int).tmod 3 = 1 := by
      rw [Int.tmod_eq_emod_of_nonneg (by omega)]
      omega
    have hrem := bin_rem .other true .i64 (i : Int) 3 (by omega)
    obtain ⟨env4, e4, f⟩ : ∃ env', runS Try.prog true (.seq (.seq (.region lcount_11) (.cond (tm 63) (.seq (.seq (.region lcount_12) (.cond (tm 67) (.seq (.region lcount_13) .ret) .skip)) (.exit 1)) .skip)) (.seq (.region lcount_14) (.seq (.seq (.region lcount_15) (.cond (tm 75) (.seq (.region lcount_16) .ret) .skip)) (.seq (.region lcount_17) (.region lcount_18))))) [⟨13, [.ptr p 0 0, int64 k], h, int64 0, h'⟩] env3 h = some (.exit 1, [], env', h') ∧
        (sv env' 0 = vt ∧ sv env' 1 = vp ∧ sv env' 2 = .bool tw ∧ sv env' 7 = .ptr p 0 0 ∧ sv env' 8 = int64 gl.length ∧ sv env' 9 = vg ∧ sv env' 10 = int64 i) := by
      subst htw
      simp [lcount_11, lcount_12, runS, runR, Rs.seq, Rs.block, runOps, wanted_no, wanted_sv, ev_tm, ev_vl, sv_setD, sv_set, setD_none, qev_mov, qev_bin, qev_un, qev_lenI, qev_pick, qev_load1, qev_idxSl, idx2_sl, idxA2_ptr, opt_some, bin_add, bin_sub, bin_mul, bin_lss, bin_leq, bin_gtr, bin_geq, bin_eql, bin_neq, un_not, un_neg, qev_callv, qev_new1, qev_store1, qev_nilC, nilC_ptr, qev_fld, fldA_ptr, qev_extract, nth0, nth1, nth2, qev_eqPtr, sameP_nil, notIf, callA_ok ok13, t0, t1, t2, t7, t8, t9, t10, g11, hrem, hmod]
    obtain ⟨env5, e5, f5⟩ : ∃ env', runS Try.prog true (.region lcount_19) [] env4 h' = some (.upt [], [], env', h') ∧ Sl env' p vt vp vg tw gl.length (i + 1) := by
      obtain ⟨t0, t1, t2, t7, t8, t9, t10⟩ := f
      unfold Sl
      simp [lcount_19, runS, runR, runOps, wanted_no, wanted_sv, ev_tm, ev_vl, sv_setD, sv_set, setD_none, qev_mov, qev_bin, qev_un, qev_lenI, qev_pick, qev_load1, qev_idxSl, idx2_sl, idxA2_ptr, opt_some, bin_add, bin_sub, bin_mul, bin_lss, bin_leq, bin_gtr, bin_geq, bin_eql, bin_neq, un_not, un_neg, qev_callv, qev_new1, qev_store1, qev_nilC, nilC_ptr, qev_fld, fldA_ptr, qev_extract, nth0, nth1, nth2, qev_eqPtr, sameP_nil, notIf, t0, t1, t2, t7, t8, t9, t10, w1]
    have gS : ∀ id g off n cap ex, vg = .sl id g off n cap ex 1 → id ∉ S := fun id g off n cap ex e c => by
      rcases hS id c with q | ⟨g', off', n', cap', ex', q⟩
      · subst q; exact a.gp _ _ _ _ _ e
      · exact a.gv _ _ _ _ _ _ _ _ _ _ _ q e
    have nS : ∀ id ∈ S, N ≤ id.num := fun id c => by
      rcases hS id c with q | ⟨g', off', n', cap', ex', q⟩
      · subst q; exact a.net.pN
      · exact (vold _ _ _ _ _ _ q).1
    refine ⟨env5, h', v', vg, w ++ [w[k]], gl, sent + 1, Dos.run (M := []) _ (by intro x hx; simp at hx; subst hx; exact c1) e1 (.more (M := []) (M1 := []) (Dos.drawn hrec e2) (.leave (M := []) (M1 := []) (i := 1) (Dos.seq (M := []) (M1 := []) d3 (Dos.runExit _ (by intro x hx; simp at hx; subst hx; exact kt) e4)) rfl (.more (M := []) (M1 := []) (Dos.runGo [] (by simp) e5) .nil))),
      ⟨net, a.got.only o fun id g e => gS _ _ _ _ _ _ e, a.gp, fun id g off n cap ex g' off' n' cap' ex' e e' => ?_, a.things.only o nS a.ot, a.picks.only o nS a.op, a.ot, a.op, by simp; omega, by simp; omega, by omega, fun c => (by rw [htw] at c; cases c), Nat.le_trans hN o.next⟩, f5⟩
    rcases hv _ _ _ _ _ _ e with ⟨g1, o1, n1, c1', x1, q⟩ | q
    · exact a.gv _ _ _ _ _ _ _ _ _ _ _ q e'
    · have := (gold _ _ _ _ _ _ e').2; omega
  · obtain ⟨v', h1, kt, net, o, hv⟩ := take_fn a.net hk (by omega)
    obtain ⟨t0, t1, t2, t7, t8, t9, t10⟩ := s3
    have n1 := o.next
    have got1 : Own N h1 vg (gl.map int64) := a.got.only o fun id g e => by simp only [List.mem_singleton]; intro c; subst c; exact a.gp _ _ _ _ _ e
    obtain ⟨h2, b1, b2, b3, b4⟩ := build1' Try.prog h1 (int64 0) (int64 w[k]) rfl
    obtain ⟨vg', h3, S, ap, ow, o3, hS, hvg⟩ := (got1.more b3).push Try.prog (bytes := 8) b2 (by intro y hy; simp at hy; subst hy; rfl) (by simp; omega) (by omega) (by omega)
    have w8 : wrapA .i64 ((gl.length : Int) + 1) = (gl.length : Int) + 1 := wrap64 (by omega) (by omega)
    have hmod : tw = true → ¬ (i : Int).tmod 3 = 1 := fun c => by
      rw [Int.tmod_eq_emod_of_nonneg (by omega)]
      intro q
      exact htw ⟨c, by omega⟩
    have hrem := bin_rem .other true .i64 (i : Int) 3 (by omega)
    obtain ⟨env4, e4, f⟩ : ∃ env', runS Try.prog true (.seq (.seq (.region lcount_11) (.cond (tm 63) (.seq (.seq (.region lcount_12) (.cond (tm 67) (.seq (.region lcount_13) .ret) .skip)) (.exit 1)) .skip)) (.seq (.region lcount_14) (.seq (.seq (.region lcount_15) (.cond (tm 75) (.seq (.region lcount_16) .ret) .skip)) (.seq (.region lcount_17) (.region lcount_18))))) [⟨14, [.ptr p 0 0, int64 k], h, .tup [int64 w[k], int64 0], h1⟩] env3 h = some (.upt [], [], env', h3) ∧
        (sv env' 0 = vt ∧ sv env' 1 = vp ∧ sv env' 2 = .bool tw ∧ sv env' 7 = .ptr p 0 0 ∧ sv env' 8 = int64 ((gl.length : Int) + 1) ∧ sv env' 9 = vg' ∧ sv env' 10 = int64 i) := by
      cases htw' : tw with
      | false =>
        rw [htw'] at t2
        simp [lcount_11, lcount_14, lcount_15, lcount_17, lcount_18, runS, runR, Rs.seq, Rs.block, runOps, wanted_no, wanted_sv, ev_tm, ev_vl, sv_setD, sv_set, setD_none, qev_mov, qev_bin, qev_un, qev_lenI, qev_pick, qev_load1, qev_idxSl, idx2_sl, idxA2_ptr, opt_some, bin_add, bin_sub, bin_mul, bin_lss, bin_leq, bin_gtr, bin_geq, bin_eql, bin_neq, un_not, un_neg, qev_callv, qev_new1, qev_store1, qev_nilC, nilC_ptr, qev_fld, fldA_ptr, qev_extract, nth0, nth1, nth2, qev_eqPtr, sameP_nil, notIf, callA_ok ok14, t0, t1, t2, t7, t8, t9, t10, g11, b1, ap, w8]
      | true =>
        rw [htw'] at t2
        have hm := hmod htw'
        simp [lcount_11, lcount_14, lcount_15, lcount_17, lcount_18, runS, runR, Rs.seq, Rs.block, runOps, wanted_no, wanted_sv, ev_tm, ev_vl, sv_setD, sv_set, setD_none, qev_mov, qev_bin, qev_un, qev_lenI, qev_pick, qev_load1, qev_idxSl, idx2_sl, idxA2_ptr, opt_some, bin_add, bin_sub, bin_mul, bin_lss, bin_leq, bin_gtr, bin_geq, bin_eql, bin_neq, un_not, un_neg, qev_callv, qev_new1, qev_store1, qev_nilC, nilC_ptr, qev_fld, fldA_ptr, qev_extract, nth0, nth1, nth2, qev_eqPtr, sameP_nil, notIf, callA_ok ok14, t0, t1, t2, t7, t8, t9, t10, g11, b1, ap, w8, hrem, hm]
    obtain ⟨env5, e5, f5⟩ : ∃ env', runS Try.prog true (.region lcount_19) [] env4 h3 = some (.upt [], [], env', h3) ∧ Sl env' p vt vp vg' tw (gl ++ [w[k]]).length (i + 1) := by
      obtain ⟨t0, t1, t2, t7, t8, t9, t10⟩ := f
      unfold Sl
      simp [lcount_19, runS, runR, runOps, wanted_no, wanted_sv, ev_tm, ev_vl, sv_setD, sv_set, setD_none, qev_mov, qev_bin, qev_un, qev_lenI, qev_pick, qev_load1, qev_idxSl, idx2_sl, idxA2_ptr, opt_some, bin_add, bin_sub, bin_mul, bin_lss, bin_leq, bin_gtr, bin_geq, bin_eql, bin_neq, un_not, un_neg, qev_callv, qev_new1, qev_store1, qev_nilC, nilC_ptr, qev_fld, fldA_ptr, qev_extract, nth0, nth1, nth2, qev_eqPtr, sameP_nil, notIf, t0, t1, t2, t7, t8, t9, t10, w1]
    have h1n : h1.next.num ≤ h2.next.num := b3.next
    have nS : ∀ id ∈ S, N ≤ id.num := fun id c => (hS id c).1
    have pS : p ∉ S := fun c => by
      obtain ⟨_, g, off, n, cap, ex, e⟩ := hS p c
      exact a.gp _ _ _ _ _ e
    have vS : ∀ id g off n cap ex, v' = .sl id g off n cap ex 1 → id ∉ S := fun id g off n cap ex e c => by
      obtain ⟨_, g', off', n', cap', ex', e'⟩ := hS _ c
      have := hv _ _ _ _ _ _ e
      have := (gold _ _ _ _ _ _ e').2
      omega
    have oall : ∀ id ∈ [p], N ≤ id.num := fun id hid => by simp at hid; subst hid; exact a.net.pN
    refine ⟨env5, h3, v', vg', w.take k ++ w.drop (k + 1), gl ++ [w[k]], sent, Dos.run (M := []) _ (by intro x hx; simp at hx; subst hx; exact c1) e1 (.more (M := []) (M1 := []) (Dos.drawn hrec e2) (.more (M := []) (M1 := []) (Dos.seq (M := []) (M1 := []) d3 (Dos.runGo _ (by intro x hx; simp at hx; subst hx; exact kt) e4)) (.inBlock (.more (M := []) (M1 := []) (Dos.runGo [] (by simp) e5) .nil)))),
      ⟨(net.more b3).only o3 pS vS, by rw [List.map_append]; exact ow, fun g off n cap ex e => ?_, fun id g off n cap ex g' off' n' cap' ex' e e' => ?_, ((a.things.only o oall a.ot).more b3).only o3 nS a.ot, ((a.picks.only o oall a.op).more b3).only o3 nS a.op, a.ot, a.op, by simp; omega, by simp; omega, by simp; omega, fun c x => ?_, by have := o3.next; omega⟩, f5⟩
    · rcases hvg _ _ _ _ _ _ e with ⟨g1, o1, n1', c1', x1, q⟩ | q
      · exact a.gp _ _ _ _ _ q
      · omega
    · rcases hvg _ _ _ _ _ _ e' with ⟨g1, o1, n1', c1', x1, q⟩ | q
      · have := hv _ _ _ _ _ _ e
        have := (gold _ _ _ _ _ _ q).2
        omega
      · have := (net.way.old _ _ _ _ _ _ e).2
        omega
    · have := a.cnt c x
      have q := count_cut w hk x
      rw [List.count_append]
      omega
end
end Go.Proofs.Ytmifpiglcphmoaa.Counts

namespace Go.Proofs.Ytmifpiglcphmoaa.Counts
open Go Go.Proofs.Ytmifpiglcphmoaa.Am Go.Proofs

section
variable {N : Nat} {p : Pos} {vt vp : AV} {ts ps : List Int} {tw : Bool}

/-- The law's loop. -/
theorem lcount_loop : ∀ (m i : Nat) (env : T AV) (h : Hp) (v vg : AV) (w gl : List Int) (sent : Int), i + m = 2000 → Inv N h p v vg vt vp w gl ts ps sent tw i → Sl env p vt vp vg tw gl.length i →
    ∃ env' h' v' vg' w' gl' sent' i', Loops Try.prog 3 lcount_20 env h (.exit 0) [] env' h' ∧ i' ≤ 2000 ∧ Inv N h' p v' vg' vt vp w' gl' ts ps sent' tw i' ∧ Sl env' p vt vp vg' tw gl'.length i' := by
  intro m
  induction m with
  | zero =>
    intro i env h v vg w gl sent hi a s
    obtain ⟨s0, s1, s2, s7, s8, s9, s10⟩ := s
    have hps : ∀ env x, ev env x = vp → evalOp Try.prog (.lenL x) env h = .val (int64 ps.length) h := SlR.lenI a.picks.sl
    have hn : ¬ (i : Int) < 2000 := by omega
    obtain ⟨env1, e1, f⟩ : ∃ env', runS Try.prog true lcount_20 [] env h = some (.exit 0, [], env', h) ∧ (sv env' 0 = vt ∧ sv env' 1 = vp ∧ sv env' 2 = .bool tw ∧ sv env' 7 = .ptr p 0 0 ∧ sv env' 8 = int64 gl.length ∧ sv env' 9 = vg ∧ sv env' 10 = int64 i) := by
      by_cases hl : i < ps.length <;>
        simp [lcount_20, lcount_7, runS, runR, Rs.seq, Rs.block, runOps, wanted_no, wanted_sv, ev_tm, ev_vl, sv_setD, qev_mov, qev_bin, bin_lss, bin_gtr, opt_some, qev_pick, hps, s0, s1, s2, s7, s8, s9, s10, hn, hl]
    exact ⟨env1, h, v, vg, w, gl, sent, i, .out (Dos.runExit [] (by simp) e1) (by simp), by omega, a, f⟩
  | succ m ih =>
    intro i env h v vg w gl sent hi a s
    by_cases hgo : i < ps.length ∧ 0 < w.length
    · obtain ⟨env1, h1, v1, vg1, w1, gl1, sent1, d, a1, s1⟩ := lcount_round a hgo.1 (by omega) hgo.2 s
      obtain ⟨env', h', v', vg', w', gl', sent', i', L, hi', a', s'⟩ := ih (i + 1) env1 h1 v1 vg1 w1 gl1 sent1 (by omega) a1 s1
      exact ⟨env', h', v', vg', w', gl', sent', i', .more (M := []) (M1 := []) d L, hi', a', s'⟩
    · obtain ⟨s0, s1, s2, s7, s8, s9, s10⟩ := s
      have hps : ∀ env x, ev env x = vp → evalOp Try.prog (.lenL x) env h = .val (int64 ps.length) h := SlR.lenI a.picks.sl
      have hy : (i : Int) < 2000 := by omega
      by_cases hl : i < ps.length
      · have hw : w.length = 0 := by
          rcases Nat.eq_zero_or_pos w.length with q | q
          · exact q
          · exact absurd ⟨hl, q⟩ hgo
        have c1 := len_fn a.net
        rw [hw] at c1
        obtain ⟨env1, e1, f⟩ : ∃ env', runS Try.prog true lcount_20 [⟨12, [.ptr p 0 0], h, int64 ((0 : Nat) : Int), h⟩] env h = some (.exit 0, [], env', h) ∧ (sv env' 0 = vt ∧ sv env' 1 = vp ∧ sv env' 2 = .bool tw ∧ sv env' 7 = .ptr p 0 0 ∧ sv env' 8 = int64 gl.length ∧ sv env' 9 = vg ∧ sv env' 10 = int64 i) := by
          simp [lcount_20, lcount_7, runS, runR, Rs.seq, Rs.block, runOps, wanted_no, wanted_sv, ev_tm, ev_vl, sv_setD, qev_mov, qev_bin, bin_lss, bin_gtr, opt_some, qev_pick, qev_callv, callA_ok ok12, hps, s0, s1, s2, s7, s8, s9, s10, hy, hl]
        exact ⟨env1, h, v, vg, w, gl, sent, i, .out (Dos.runExit _ (by intro x hx; simp at hx; subst hx; exact c1) e1) (by simp), by omega, a, f⟩
      · obtain ⟨env1, e1, f⟩ : ∃ env', runS Try.prog true lcount_20 [] env h = some (.exit 0, [], env', h) ∧ (sv env' 0 = vt ∧ sv env' 1 = vp ∧ sv env' 2 = .bool tw ∧ sv env' 7 = .ptr p 0 0 ∧ sv env' 8 = int64 gl.length ∧ sv env' 9 = vg ∧ sv env' 10 = int64 i) := by
          simp [lcount_20, lcount_7, runS, runR, Rs.seq, Rs.block, runOps, wanted_no, wanted_sv, ev_tm, ev_vl, sv_setD, qev_mov, qev_bin, bin_lss, bin_gtr, opt_some, qev_pick, hps, s0, s1, s2, s7, s8, s9, s10, hy, hl]
        exact ⟨env1, h, v, vg, w, gl, sent, i, .out (Dos.runExit [] (by simp) e1) (by simp), by omega, a, f⟩
end

open Classical in
/-- Two answers that are known. -/
noncomputable def rec2 (s1 : St) (o1 : Out) (s2 : St) (o2 : Out) (s : St) : Out := if s = s1 then o1 else if s = s2 then o2 else .fail ""

theorem rec2_sound {P : Program} {fr1 fr2 : Fr} {h1 h2 : Hp} {v1 v2 : AV} {h1' h2' : Hp} (a1 : Ans P ⟨fr1, [], h1⟩ (.done v1 h1')) (a2 : Ans P ⟨fr2, [], h2⟩ (.done v2 h2')) : Sound P (rec2 ⟨fr1, [], h1⟩ (.done v1 h1') ⟨fr2, [], h2⟩ (.done v2 h2')) := fun s φ w g c0 hs hR hz hF => by
  unfold rec2
  split
  · rename_i e; subst e; exact a1 φ w g [] c0 hR hz hF .nil
  · split
    · rename_i e; subst e; exact a2 φ w g [] c0 hR hz hF .nil
    · trivial

theorem begin_env {P : Program} {f : FuncId} {args : List AV} {fr : Fr} (e : beginFn P f args = some fr) : fr.env = setArgs .e 0 args := by
  unfold beginFn at e
  split at e
  · rename_i fu _
    cases hl : Nat.ble args.length fu.nargs with
    | true => rw [hl] at e; cases e; rfl
    | false => rw [hl] at e; cases e
  · cases e

theorem times_ask {h : Hp} {vg vt : AV} {gl ts : List Int} (hg : SlR h vg (gl.map int64)) (ht : SlR h vt (ts.map int64)) (hgl : gl.length ≤ 1000000) (htl : ts.length ≤ 1000000) (hne : vg ≠ vt) {j : Nat} (hj : j < gl.length) (hc : gl.count gl[j] ≤ ts.count gl[j]) {env : T AV} {tw7 : AV}
    (s0 : sv env 0 = vt) (s2 : sv env 2 = tw7) (s9 : sv env 9 = vg) (s14 : sv env 14 = int64 j) :
    ∃ rec env', Sound Try.prog rec ∧ runDrawn Try.prog rec lcount_25 env h = some (env', h) ∧ sv env' 111 = .bool false ∧ sv env' 0 = vt ∧ sv env' 2 = tw7 ∧ sv env' 9 = vg ∧ sv env' 14 = int64 j := by
  have c1 := times_fn hg hgl gl[j]
  have c2 := times_fn ht htl gl[j]
  obtain ⟨b1, n1⟩ := c1.begins
  obtain ⟨b2, n2⟩ := c2.begins
  obtain ⟨fr1, x1, a1⟩ := c1.ans
  obtain ⟨fr2, x2, a2⟩ := c2.ans
  rw [b1] at x1
  rw [b2] at x2
  cases x1
  cases x2
  have hsound := rec2_sound a1 a2
  have hfne : frOf Try.prog 16 [vt, int64 gl[j]] ≠ frOf Try.prog 16 [vg, int64 gl[j]] := fun e => hne (by
    have e1 := begin_env b1
    have e2 := begin_env b2
    rw [e] at e2
    have q := e2.symm.trans e1
    have : sv (setArgs .e 0 [vt, int64 gl[j]]) 0 = sv (setArgs .e 0 [vg, int64 gl[j]]) 0 := by rw [q]
    simpa [sv_args] using this.symm)
  have R1 : rec2 ⟨frOf Try.prog 16 [vg, int64 gl[j]], [], h⟩ (.done (int64 (gl.count gl[j])) h) ⟨frOf Try.prog 16 [vt, int64 gl[j]], [], h⟩ (.done (int64 (ts.count gl[j])) h) ⟨frOf Try.prog 16 [vg, int64 gl[j]], [], h⟩ = .done (int64 (gl.count gl[j])) h := by
    unfold rec2
    rw [if_pos rfl]
  have R2 : rec2 ⟨frOf Try.prog 16 [vg, int64 gl[j]], [], h⟩ (.done (int64 (gl.count gl[j])) h) ⟨frOf Try.prog 16 [vt, int64 gl[j]], [], h⟩ (.done (int64 (ts.count gl[j])) h) ⟨frOf Try.prog 16 [vt, int64 gl[j]], [], h⟩ = .done (int64 (ts.count gl[j])) h := by
    unfold rec2
    rw [if_neg fun e => hfne (by injection e), if_pos rfl]
  generalize rec2 ⟨frOf Try.prog 16 [vg, int64 gl[j]], [], h⟩ (.done (int64 (gl.count gl[j])) h) ⟨frOf Try.prog 16 [vt, int64 gl[j]], [], h⟩ (.done (int64 (ts.count gl[j])) h) = R at *
  obtain ⟨id, g, off, cap, ex, hv, row⟩ := hg.sl_or (x := int64 gl[j]) (by simp)
  have hone := row.one j (by simpa using hj)
  simp [List.getElem?_eq_getElem hj] at hone
  have hv' : vg = .sl id g off gl.length cap ex 1 := by simpa using hv
  have hle : ¬ ((ts.count gl[j] : Int) < (gl.count gl[j] : Int)) := by omega
  rw [hv'] at b1 R1 s9
  obtain ⟨env', acts, lds, e, f⟩ : ∃ env' acts lds, runD Try.prog R 0 lcount_25 ⟨[], [], [], h.next, env, h⟩ = some ⟨acts, lds, [], h.next, env', h⟩ ∧ sv env' 111 = .bool false ∧ sv env' 0 = vt ∧ sv env' 2 = tw7 ∧ sv env' 9 = .sl id g off gl.length cap ex 1 ∧ sv env' 14 = int64 j := by
    simp [lcount_25, runD, stepD, actO, kindOf, lookBack, lookAgain, putT, insT, remAl, bit, eqAV_int8, runOps, wanted_no, wanted_sv, ev_tm, ev_vl, sv_setD, sv_set, setD_none, qev_mov, qev_bin, qev_un, qev_lenI, qev_pick, qev_load1, qev_idxSl, idx2_sl, idxA2_ptr, opt_some, bin_add, bin_sub, bin_mul, bin_lss, bin_leq, bin_gtr, bin_geq, bin_eql, bin_neq, un_not, un_neg, qev_callv, qev_new1, qev_store1, qev_nilC, nilC_ptr, qev_fld, fldA_ptr, qev_extract, nth0, nth1, nth2, qev_eqPtr, sameP_nil, notIf, callA_ok ok16, b1, b2, R1, R2, s0, s2, s9, s14, hj, hone]
    omega
  rw [← hv'] at f
  exact ⟨R, env', hsound, runDrawn_of (acts := acts) (lds := lds) (by simp [lcount_25, skipIds, isAlloc, kindOf]) e, f⟩
end Go.Proofs.Ytmifpiglcphmoaa.Counts

namespace Go.Proofs.Ytmifpiglcphmoaa.Counts
open Go Go.Proofs.Ytmifpiglcphmoaa.Am Go.Proofs

section
variable {N : Nat} {h : Hp} {p : Pos} {v vg vt vp : AV} {w gl ts ps : List Int} {sent : Int} {tw : Bool} {i : Nat}

theorem lcount_asks (a : Inv N h p v vg vt vp w gl ts ps sent tw i) (hi : i ≤ 2000) (hts : ts.length ≤ 1000) : ∀ (m j : Nat) (env : T AV), j + m = gl.length → sv env 0 = vt → sv env 2 = .bool tw → sv env 9 = vg → sv env 14 = int64 j →
    ∃ env', Loops Try.prog 3 lcount_28 env h (.exit 2) [] env' h := by
  have hl : ∀ env x, ev env x = vg → evalOp Try.prog (.lenL x) env h = .val (int64 gl.length) h := SlR.lenI a.got.sl
  have bg := a.bg
  intro m
  induction m with
  | zero =>
    intro j env hj s0 s2 s9 s14
    have hn : ¬ (j : Int) < gl.length := by omega
    obtain ⟨env1, e1⟩ : ∃ env', runS Try.prog true lcount_28 [] env h = some (.exit 2, [], env', h) := by
      simp [lcount_28, lcount_24, runS, runR, Rs.seq, Rs.block, runOps, wanted_no, wanted_sv, ev_tm, ev_vl, sv_setD, qev_mov, qev_bin, bin_lss, opt_some, qev_pick, hl, s0, s2, s9, s14, hn]
    exact ⟨env1, .out (Dos.runExit [] (by simp) e1) (by simp)⟩
  | succ m ih =>
    intro j env hj s0 s2 s9 s14
    have hjl : j < gl.length := by omega
    cases htw : tw with
    | true =>
      rw [htw] at s2
      obtain ⟨env1, e1⟩ : ∃ env', runS Try.prog true lcount_28 [] env h = some (.exit 2, [], env', h) := by
        simp [lcount_28, lcount_24, runS, runR, Rs.seq, Rs.block, runOps, wanted_no, wanted_sv, ev_tm, ev_vl, sv_setD, qev_mov, qev_bin, bin_lss, qev_un, un_not, opt_some, qev_pick, hl, s0, s2, s9, s14, hjl]
      exact ⟨env1, .out (Dos.runExit [] (by simp) e1) (by simp)⟩
    | false =>
      rw [htw] at s2
      obtain ⟨env1, e1, f0, f2, f9, f14⟩ : ∃ env', runS Try.prog false lcount_28 [] env h = some (.upt [.code (.drawn lcount_25), .code (.cond (tm 111) (.seq (.region lcount_26) .ret) .skip), .inBlock 3, .code (.region lcount_27)], [], env', h) ∧ sv env' 0 = vt ∧ sv env' 2 = .bool false ∧ sv env' 9 = vg ∧ sv env' 14 = int64 j := by
        simp [lcount_28, lcount_24, runS, runR, Rs.seq, Rs.block, runOps, wanted_no, wanted_sv, ev_tm, ev_vl, sv_setD, qev_mov, qev_bin, bin_lss, qev_un, un_not, opt_some, qev_pick, hl, s0, s2, s9, s14, hjl]
      have hne : vg ≠ vt := fun e => by
        obtain ⟨id, g, off, cap, ex, hv, _⟩ := a.got.sl.sl_or (x := int64 gl[j]) (by simp)
        have q1 := (a.got.old _ _ _ _ _ _ hv).1
        have q2 := a.ot _ _ _ _ _ _ (e.symm.trans hv)
        omega
      have hcnt := a.cnt htw gl[j]
      obtain ⟨rec, env2, hrec, e2, g111, g0, g2, g9, g14⟩ := times_ask a.got.sl a.things.sl (by omega) (by omega) hne hjl (by omega) f0 f2 f9 f14
      obtain ⟨env3, e3, k0, k2, k9, k14⟩ : ∃ env', runS Try.prog true (.cond (tm 111) (.seq (.region lcount_26) .ret) .skip) [] env2 h = some (.upt [], [], env', h) ∧ sv env' 0 = vt ∧ sv env' 2 = .bool false ∧ sv env' 9 = vg ∧ sv env' 14 = int64 j := by
        simp [runS, ev_tm, g111, g0, g2, g9, g14]
      have w1 : wrapA .i64 ((j : Int) + 1) = (j : Int) + 1 := wrap64 (by omega) (by omega)
      obtain ⟨env4, e4, l0, l2, l9, l14⟩ : ∃ env', runS Try.prog true (.region lcount_27) [] env3 h = some (.upt [], [], env', h) ∧ sv env' 0 = vt ∧ sv env' 2 = .bool false ∧ sv env' 9 = vg ∧ sv env' 14 = int64 ((j + 1 : Nat) : Int) := by
        simp [lcount_27, runS, runR, runOps, wanted_no, wanted_sv, ev_tm, ev_vl, sv_setD, sv_set, setD_none, qev_mov, qev_bin, qev_un, qev_lenI, qev_pick, qev_load1, qev_idxSl, idx2_sl, idxA2_ptr, opt_some, bin_add, bin_sub, bin_mul, bin_lss, bin_leq, bin_gtr, bin_geq, bin_eql, bin_neq, un_not, un_neg, qev_callv, qev_new1, qev_store1, qev_nilC, nilC_ptr, qev_fld, fldA_ptr, qev_extract, nth0, nth1, nth2, qev_eqPtr, sameP_nil, notIf, k0, k2, k9, k14, w1]
      obtain ⟨env', L⟩ := ih (j + 1) env4 (by omega) l0 (by rw [htw]; exact l2) l9 l14
      exact ⟨env', .more (M := []) (M1 := []) (Dos.run (M := []) [] (by simp) e1 (.more (M := []) (M1 := []) (Dos.drawn hrec e2) (.more (M := []) (M1 := []) (Dos.runGo [] (by simp) e3) (.inBlock (.more (M := []) (M1 := []) (Dos.runGo [] (by simp) e4) .nil))))) L⟩
end

/-- NetCounts, from any heap in which vt and vp read as ts and ps. -/
theorem lcount_fn {ts ps : List Int} {vt vp : AV} {h : Hp} (ht : ArgS h vt (ts.map int64)) (hp : ArgS h vp (ps.map int64)) (tw : Bool) : ∃ h', AmFn Try.prog 3 [vt, vp, .bool tw] h (.bool true) h' := by
  obtain ⟨h1, k9, net1, o1⟩ := new_fn h
  have ht1 := ht.more o1
  have hp1 := hp.more o1
  have lt : ∀ env x, ev env x = vt → evalOp Try.prog (.lenL x) env h1 = .val (int64 ts.length) h1 := SlR.lenI ht1.sl
  by_cases hbig : (1000 : Int) < ts.length
  · obtain ⟨env1, e1, f6⟩ : ∃ env', runS Try.prog true lcount_fu.body [⟨9, [], h, .ptr h.next 0 0, h1⟩, ⟨11, [], h1, .bool true, h1⟩] (setArgs .e 0 [vt, vp, .bool tw]) h = some (.ret, [], env', h1) ∧ sv env' 6 = .bool true := by
      simp [lcount_fu, lcount_0, lcount_1, lcount_2, lcount_3, runS, runR, Rs.seq, Rs.block, sv_args, runOps, wanted_no, wanted_sv, ev_tm, ev_vl, sv_setD, qev_mov, qev_bin, bin_gtr, opt_some, qev_pick, qev_callv, callA_ok ok9, callA_ok ok11, lt, hbig]
    exact ⟨h1, AmFn.dos lcount_code (by simp) (Dos.runRet _ (by
      intro x hx
      simp only [List.mem_cons, List.not_mem_nil, or_false] at hx
      rcases hx with q | q <;> subst q
      · exact k9
      · exact known_fn h1) e1) (vs := [sv env1 6]) rfl f6⟩
  · have hts : ts.length ≤ 1000 := by omega
    have oldt := ht.old
    have oldp := hp.old
    obtain ⟨v', h2, S, ks, net2, o2, hS, hv⟩ := send_fn net1 (l := ts) (v2 := vt) ht1.sl (fun id g off n cap ex e => ⟨fun c => by have := oldt _ _ _ _ _ _ e; rw [c] at this; omega, by simp⟩) (by simp; omega) (by simp; omega) (by have := o1.next; omega)
    have nS : ∀ id ∈ S, h.next.num ≤ id.num := fun id c => by
      rcases hS id c with q | ⟨g, off, n, cap, ex, q⟩
      · subst q; exact Nat.le_refl _
      · cases q
    obtain ⟨env1, e1, f⟩ : ∃ env', runS Try.prog true lcount_fu.body [⟨9, [], h, .ptr h.next 0 0, h1⟩, ⟨10, [.ptr h.next 0 0, vt], h1, int64 0, h2⟩] (setArgs .e 0 [vt, vp, .bool tw]) h =
        some (.upt [.code (.loop lcount_20), .inBlock 0, .code (.seq (.seq (.region lcount_21) (.cond (tm 88) (.seq (.region lcount_22) .ret) .skip)) (.seq (.seq (.region lcount_23) (.block 2 (.loop lcount_28))) (.seq (.region lcount_29) .ret)))], [], env', h2) ∧
        (sv env' 0 = vt ∧ sv env' 1 = vp ∧ sv env' 2 = .bool tw ∧ sv env' 7 = .ptr h.next 0 0 ∧ sv env' 8 = int64 0 ∧ sv env' 9 = .nilSl ∧ sv env' 10 = int64 0) := by
      simp [lcount_fu, lcount_0, lcount_1, lcount_2, lcount_4, lcount_5, lcount_6, runS, runR, Rs.seq, Rs.block, sv_args, runOps, wanted_no, wanted_sv, ev_tm, ev_vl, sv_setD, qev_mov, qev_bin, bin_gtr, bin_neq, opt_some, qev_pick, qev_callv, qev_eqPtr, sameP_nil, notIf, callA_ok ok9, callA_ok ok10, lt, hbig]
    have a0 : Inv h.next.num h2 h.next v' .nilSl vt vp ([] ++ ts) [] ts ps (0 + ts.length) tw 0 :=
      ⟨net2, .inl ⟨rfl, rfl⟩, by simp, by simp, ht1.only o2 nS oldt, hp1.only o2 nS oldp, oldt, oldp, by simp, by simp; omega, by simp, fun _ x => by simp, by have := o1.next; have := o2.next; omega⟩
    obtain ⟨env2, h3, v3, vg, w, gl, sent, i, L1, hi, a3, s3⟩ := lcount_loop 2000 0 env1 h2 v' .nilSl ([] ++ ts) [] (0 + ts.length) (by omega) a0 f
    have c15 := sent_fn a3.net
    have c12 := len_fn a3.net
    obtain ⟨s0, s1, s2, s7, s8, s9, s10⟩ := s3
    have bw := a3.bw
    have bg := a3.bg
    have hsum := a3.sum
    have wsum : wrapA .i64 ((gl.length : Int) + w.length) = (gl.length : Int) + w.length := wrap64 (by omega) (by omega)
    obtain ⟨env3, e3, g0, g2, g9, g14⟩ : ∃ env', runS Try.prog true (.seq (.seq (.region lcount_21) (.cond (tm 88) (.seq (.region lcount_22) .ret) .skip)) (.seq (.seq (.region lcount_23) (.block 2 (.loop lcount_28))) (.seq (.region lcount_29) .ret))) [⟨15, [.ptr h.next 0 0], h3, int64 sent, h3⟩, ⟨12, [.ptr h.next 0 0], h3, int64 w.length, h3⟩] env2 h3 =
        some (.upt [.code (.loop lcount_28), .inBlock 2, .code (.seq (.region lcount_29) .ret)], [], env', h3) ∧ sv env' 0 = vt ∧ sv env' 2 = .bool tw ∧ sv env' 9 = vg ∧ sv env' 14 = int64 ((0 : Nat) : Int) := by
      simp [lcount_21, lcount_23, runS, runR, Rs.seq, Rs.block, runOps, wanted_no, wanted_sv, ev_tm, ev_vl, sv_setD, sv_set, setD_none, qev_mov, qev_bin, qev_un, qev_lenI, qev_pick, qev_load1, qev_idxSl, idx2_sl, idxA2_ptr, opt_some, bin_add, bin_sub, bin_mul, bin_lss, bin_leq, bin_gtr, bin_geq, bin_eql, bin_neq, un_not, un_neg, qev_callv, qev_new1, qev_store1, qev_nilC, nilC_ptr, qev_fld, fldA_ptr, qev_extract, nth0, nth1, nth2, qev_eqPtr, sameP_nil, notIf, callA_ok ok15, callA_ok ok12, s0, s1, s2, s7, s8, s9, s10, wsum, hsum]
    obtain ⟨env4, L2⟩ := lcount_asks a3 hi hts gl.length 0 env3 (by omega) g0 g2 g9 g14
    obtain ⟨env5, e5, q6⟩ : ∃ env', runS Try.prog true (.seq (.region lcount_29) .ret) [⟨11, [], h3, .bool true, h3⟩] env4 h3 = some (.ret, [], env', h3) ∧ sv env' 6 = .bool true := by
      simp [lcount_29, runS, runR, Rs.seq, runOps, wanted_no, wanted_sv, ev_tm, ev_vl, sv_setD, sv_set, setD_none, qev_mov, qev_bin, qev_un, qev_lenI, qev_pick, qev_load1, qev_idxSl, idx2_sl, idxA2_ptr, opt_some, bin_add, bin_sub, bin_mul, bin_lss, bin_leq, bin_gtr, bin_geq, bin_eql, bin_neq, un_not, un_neg, qev_callv, qev_new1, qev_store1, qev_nilC, nilC_ptr, qev_fld, fldA_ptr, qev_extract, nth0, nth1, nth2, qev_eqPtr, sameP_nil, notIf, callA_ok ok11]
    refine ⟨h3, AmFn.dos lcount_code (by simp) (Dos.run (M := []) _ (by
      intro x hx
      simp only [List.mem_cons, List.not_mem_nil, or_false] at hx
      rcases hx with q | q <;> subst q
      · exact k9
      · exact ks) e1 (.leave (M := []) (M1 := []) (i := 0) (Dos.loop L1) rfl (DosL.dos (Dos.run (M := []) _ (by
      intro x hx
      simp only [List.mem_cons, List.not_mem_nil, or_false] at hx
      rcases hx with q | q <;> subst q
      · exact c15
      · exact c12) e3 (.leave (M := []) (M1 := []) (i := 2) (Dos.loop L2) rfl (.ret (Dos.runRet _ (by intro x hx; simp at hx; subst hx; exact known_fn h3) e5))))))) (vs := [sv env5 6]) rfl q6⟩
end Go.Proofs.Ytmifpiglcphmoaa.Counts
