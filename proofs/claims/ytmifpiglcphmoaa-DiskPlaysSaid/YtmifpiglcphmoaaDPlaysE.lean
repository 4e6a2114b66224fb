import Derived.Test.YtmifpiglcphmoaaDPlaysD
/- THE WALK'S PARTS, part E: what the functions of the law compute, over the abstract machine that stands beside this text. No condition. -/
set_option linter.unusedSimpArgs false
set_option linter.unusedVariables false
namespace Go.Proofs.Ytmifpiglcphmoaa.DPlays
open Go Go.Proofs.Ytmifpiglcphmoaa.Am Go.Proofs

section
variable {κ : Pos → Nat} {c : Nat} {h : Hp} {p : Pos} {d : Dk} {V : Vs} {ws : List (Wr × AV)}

/-- The document's raw write is put behind those that were. -/
theorem rdo_list (a : RkAt κ c h p d V ws) {w : Wr} {dv : AV} {m : Nat} (r : KSl κ (c + 4) h 1 dv m (byt w.data)) {q : Pos} (b : KArr κ (c + 4) h q [int64 w.kind, int64 w.area, dv]) (hl : d.ws.length ≤ 100000) {env : T AV} (s0 : sv env 0 = .ptr p 0 0) (s3 : sv env 3 = .ptr q 0 0) :
    ∃ κ' env' h' V', Dos Try.prog 87 (.drawn rdo_8) env h .go [] env' h' ∧ Agr h κ κ' ∧ Chg κ (Wk c) h h' ∧ RkAt κ' c h' p { d with ws := d.ws ++ [w] } V' (ws ++ [(w, dv)]) := by
  have hm : m = w.data.length := by have := r.sl.length; rw [byt_length] at this; omega
  have ld : ∀ hh : Hp, hh.heap = h.heap → ∀ env x, ev env x = .ptr q 0 0 → evalOp Try.prog (.loadN 3 x) env hh = .val (.agg [int64 w.kind, int64 w.area, dv]) hh := fun hh e env x hx => by
    have l := b.arr.whole Try.prog (n := 3) rfl env x hx
    obtain ⟨cc, c1, _, c3⟩ := b.arr.row.all
    have c1' : readN hh q 0 0 3 = some cc := by
      have : readN hh q 0 0 3 = readN h q 0 0 3 := by unfold readN; rw [e]
      rw [this]; exact c1
    rw [qev_loadN Try.prog hx c1', c3]
  have l7 := a.l7
  have rd : ∀ hh : Hp, hh.heap = h.heap → read1 hh p 0 7 = some V.vw := fun hh e => by
    rw [← l7]; unfold read1; rw [e]
  have bld : ∀ env ser lim x, ev env x = .agg [int64 w.kind, int64 w.area, dv] → evalOp Try.prog (.buildSl 1 3 [(int64 (0)), (int64 (0)), .nilSl] [(0, 3, x)]) env ⟨.e, h.next, ser, lim⟩ = .val (.sl h.next 0 0 1 1 true 3) ⟨T.set h.next (some (.cells ser (Cells.ofL [int64 w.kind, int64 w.area, dv]) 0 0 0 0 false false)) .e, h.next.succ, Nat.succ ser, lim⟩ :=
    fun env ser lim x hx => oneSl_resv Try.prog (es := 3) (by omega) rfl rfl (by rw [hx]; rfl)
  have oA := resvH_only h (.cells h.ser (Cells.ofL [int64 w.kind, int64 w.area, dv]) 0 0 0 0 false false)
  have nA := resvH_next h (.cells h.ser (Cells.ofL [int64 w.kind, int64 w.area, dv]) 0 0 0 0 false false)
  have rA := resvH_arr h h.ser [int64 w.kind, int64 w.area, dv]
  have eA : (⟨T.set h.next (some (.cells h.ser (Cells.ofL [int64 w.kind, int64 w.area, dv]) 0 0 0 0 false false)) h.heap, h.next.succ, h.ser, h.lim⟩ : Hp) = resvH h (.cells h.ser (Cells.ofL [int64 w.kind, int64 w.area, dv]) 0 0 0 0 false false) := rfl
  generalize resvH h (.cells h.ser (Cells.ofL [int64 w.kind, int64 w.area, dv]) 0 0 0 0 false false) = hA at *
  have gA := newK'_agr κ h (c + 4)
  have A1 := a.more oA gA
  have r1 := r.chg (K := fun _ => False) (.of oA) gA (fun q => q)
  have b1 := b.chg (K := fun _ => False) (.of oA) gA (fun q => q)
  generalize newK' κ h (c + 4) = κ1 at *
  have hat : ∀ y ∈ [int64 w.kind, int64 w.area, dv], y.atom = true := fun y hy => by
    simp only [List.mem_cons, List.not_mem_nil, or_false] at hy
    rcases hy with e | e | e <;> subst e
    · rfl
    · rfl
    · exact r.sl.atom.1
  obtain ⟨v', h2, ap, hd, ch⟩ := A1.vw.push Try.prog (bytes := 40) (n2 := 1) (v2 := .sl h.next 0 0 1 1 true 3) (rA.slN rfl) hat (by omega) (okSize_small (by omega) (by omega))
  have g2 := newK'_agr κ1 hA (c + 3)
  generalize newK' κ1 hA (c + 3) = κ2 at *
  have st2 := A1.st.chg ch g2 (by omega)
  have b2 := b1.chg ch g2 (by omega)
  have at1 := hd.hd.sl.atom
  have pu := storeR_arr st2.arr (i := 7) (by simp [cellsR]) v' at1.1 at1.2
  obtain ⟨st3, ch3⟩ := st2.put (i := 7) (by simp [cellsR]) v'
  have b3 := b2.chg ch3 .refl (by omega)
  have ld2 := b2.arr.whole Try.prog (n := 3) rfl
  have ld3 := b3.arr.whole Try.prog (n := 3) rfl
  have hz : ∀ hh : Hp, (⟨hh.heap, hh.next, hh.ser, hh.lim⟩ : Hp) = hh := fun _ => rfl
  obtain ⟨env', acts, lds, e3⟩ : ∃ env' acts lds, runE Try.prog noRec 0 rdo_8 ⟨[], [], [], h.next, env, ⟨h.heap, h.next.succ, h.ser, h.lim⟩⟩ = some ⟨acts, lds, [], h.next.succ, env', putA h2 p 7 v'⟩ := by
    simp [rdo_8, runE, stepE, stepD, kindOf, lookBack, lookAgain, actO, insT, putT, remAl, bit, wanted_no, ev_tm, ev_vl, sv_setD, setD_none, qev_mov, opt_some, qev_nilC, nilC_ptr, qev_fld, fld0, fldN, qev_load1, qev_store1, T.get_set, s0, s3, rd, ld, bld, eA, ap, pu, hz, show Nat.testBit 126 6 = true from by decide, show Nat.testBit 126 5 = true from by decide, show Nat.testBit 126 4 = true from by decide]
  have e : runDrawn Try.prog noRec rdo_8 env h = some (env', putA h2 p 7 v') := by
    refine runDrawn_ofE (rid := h.next.succ) (acts := acts) (lds := lds) ?_
    have hsk : skipIds rdo_8 h.next = h.next.succ := by simp [rdo_8, skipIds, isAlloc, kindOf]
    rw [hsk]
    exact e3
  have c1 : Chg κ (Wk c) h hA := .of oA
  refine ⟨κ2, env', _, { V with vw := v' }, Dos.drawn (noRec_sound _) e, gA.trans g2 (by omega), (c1.trans gA (ch.mono fun k q => ⟨by omega, by omega⟩)).trans (gA.trans g2 (by omega)) (ch3.mono fun k q => ⟨by omega, by omega⟩), ?_⟩
  refine ⟨st3, (A1.v0.chg ch g2 (by omega)).chg ch3 .refl (by omega), (A1.v1.chg ch g2 (by omega)).chg ch3 .refl (by omega), ?_, (A1.f0.chg ch g2 (by omega)).chg ch3 .refl (by omega), (A1.f1.chg ch g2 (by omega)).chg ch3 .refl (by omega), fun x hx => ?_, ?_, ⟨a.ok.cap, a.ok.us, a.ok.fr, a.ok.a0, a.ok.a1, a.ok.f0, a.ok.f1⟩⟩
  · have q := hd.chg ch3 .refl (by omega)
    have e1 : recs (ws ++ [(w, dv)]) = recs ws ++ [int64 w.kind, int64 w.area, dv] := by rw [recs_append]; rfl
    rw [e1]
    have e2 : (d.ws ++ [w]).length = d.ws.length + 1 := by simp
    rw [e2]
    exact q
  · rcases List.mem_append.1 hx with hx | hx
    · exact ((A1.dat x hx).chg ch g2 (by omega)).chg ch3 .refl (by omega)
    · simp only [List.mem_singleton] at hx
      subst hx
      have q := (r1.chg ch g2 (by omega)).chg ch3 .refl (by omega)
      rw [hm] at q
      exact q
  · rw [List.map_append, a.eq]; rfl

theorem rdo_fn (a : RkAt κ c h p d V ws) {w : Wr} (hw : w.Ok d) {dv : AV} {m : Nat} (r : KSl κ (c + 4) h 1 dv m (byt w.data)) (hl : d.ws.length ≤ 100000) :
    ∃ κ' h' V', AmFn Try.prog 87 [.ptr p 0 0, .agg [int64 w.kind, int64 w.area, dv]] h (.tup []) h' ∧ Agr h κ κ' ∧ Chg κ (Wk c) h h' ∧ RkAt κ' c h' p (d.put w) V' (ws ++ [(w, dv)]) := by
  obtain ⟨h1, bx, o1, n1, c1⟩ := boxed κ (c + 4) h [int64 w.kind, int64 w.area, dv]
  have g1 := newK'_agr κ h (c + 4)
  have A1 := a.more o1 g1
  have r1 := r.chg (K := fun _ => False) (.of o1) g1 (fun q => q)
  generalize newK' κ h (c + 4) = κ1 at *
  obtain ⟨env1, e1, s0, s3⟩ : ∃ env', runOps Try.prog rdo_0 (setArgs .e 0 [.ptr p 0 0, .agg [int64 w.kind, int64 w.area, dv]]) h = some (env', h1) ∧ sv env' 0 = .ptr p 0 0 ∧ sv env' 3 = .ptr h.next 0 0 := by
    simp [rdo_0, sv_args, runOps, wanted_no, ev_tm, ev_vl, sv_setD, bx]
  obtain ⟨κ2, env2, h2, V2, d2, g2, ch2, A2, t0, t3⟩ := rdo_ways A1 hw r1 c1 s0 s3
  have ch4' : ∀ k, c + 4 ≤ k → k ≤ c + 4 → ¬ Wk c k := fun k q1 q2 q => by unfold Wk at q; omega
  obtain ⟨κ3, env3, h3, V3, d3, g3, ch3, A3⟩ := rdo_list A2 (w := w) (r1.chg ch2 g2 (ch4' _ (by omega) (by omega))) (c1.chg ch2 g2 (ch4' _ (by omega) (by omega))) (by rw [does_ws]; exact hl) t0 t3
  have gE : Agr h κ κ2 := g1.trans g2 o1.next
  refine ⟨κ3, h3, V3, AmFn.dos0 rdo_code (by simp) (o := .go) (fun _ => .inl rfl) (by simp) (Dos.seq (M := []) (M1 := []) (Dos.region e1) (Dos.seq (M := []) (M1 := []) d2 d3)), gE.trans g3 (by have := o1.next; have := ch2.next; omega), ((Chg.of o1).trans g1 ch2).trans gE ch3, ?_⟩
  have e : d.put w = { d.does w with ws := (d.does w).ws ++ [w] } := by unfold Dk.put; rw [does_ws]
  rw [e]
  exact A3

/-! ### Lay, Clear, Turn -/

/-- How much room the document's disk has. -/
theorem rroom (a : RkAt κ c h p d V ws) {n : Int} (hn : n = 0 ∨ n = 1) {v : AV} {m : Nat} {b : List UInt8} (r : SlN h 1 v m (byt b)) {env : T AV} (s0 : sv env 0 = .ptr p 0 0) (s1 : sv env 1 = int64 n) (s2 : sv env 2 = v) :
    ∃ env', Dos Try.prog 74 (.drawn rlay_5) env h .go [] env' h ∧ sv env' 0 = .ptr p 0 0 ∧ sv env' 1 = int64 n ∧ sv env' 2 = v ∧ sv env' 29 = .bool (decide (d.cap - ((d.area n).length : Int) < b.length)) := by
  have hm : m = b.length := by have := r.length; rw [byt_length] at this; omega
  obtain ⟨va, la, ra⟩ := a.larea hn
  have l0 := a.l0
  have lv := r.lenI (P := Try.prog) h
  have lw := ra.lenI (P := Try.prog) h
  have hc := a.ok.cap
  have hle := area_le a.ok n
  have w1 : wrapA .i64 (d.cap - ((d.area n).length : Int)) = d.cap - ((d.area n).length : Int) := wrap64 (by omega) (by omega)
  have hb : 0 ≤ n ∧ n < 2 := by omega
  subst hm
  obtain ⟨env', acts, lds, e, f0, f1, f2, f15⟩ : ∃ env' acts lds, runD Try.prog noRec 0 rlay_5 ⟨[], [], [], h.next, env, h⟩ = some ⟨acts, lds, [], h.next, env', h⟩ ∧ sv env' 0 = .ptr p 0 0 ∧ sv env' 1 = int64 n ∧ sv env' 2 = v ∧ sv env' 29 = .bool (decide (d.cap - ((d.area n).length : Int) < b.length)) := by
    simp [rlay_5, runD, stepD, kindOf, lookBack, wanted_no, ev_tm, ev_vl, sv_setD, setD_none, qev_mov, qev_bin, bin_sub, bin_gtr, opt_some, qev_load1, qev_nilC, nilC_ptr, qev_fld, fld0, fldN, qev_idxArr, idxA2_ptr, s0, s1, s2, l0, lv, lw, la, w1, hb]
  exact ⟨env', Dos.drawn (noRec_sound _) (runDrawn_of (acts := acts) (lds := lds) (by simp [rlay_5, skipIds, isAlloc, kindOf]) e), f0, f1, f2, f15⟩

theorem rlay_fn (a : RkAt κ c h p d V ws) (n : Int) {v : AV} {m : Nat} {b : List UInt8} (r : SlN h 1 v m (byt b)) (ok : okSize m 1 = true) (hl : d.ws.length ≤ 100000) :
    ∃ κ' h' V' ws', AmFn Try.prog 74 [.ptr p 0 0, int64 n, v] h (int64 (d.layE n b)) h' ∧ Agr h κ κ' ∧ Chg κ (Wk c) h h' ∧ RkAt κ' c h' p (d.layD n b) V' ws' := by
  have hm : m = b.length := by have := r.length; rw [byt_length] at this; omega
  unfold Dk.layD
  by_cases hn : n = 0 ∨ n = 1
  · obtain ⟨env1, e1, s0, s1, s2, s14⟩ : ∃ env', runS Try.prog false rlay_fu.body [] (setArgs .e 0 [.ptr p 0 0, int64 n, v]) h = some (.upt [.code (.drawn rlay_5), .code (.cond (tm 29) (.seq (.region rlay_6) .ret) .skip), .code (.seq (.region rlay_7) (.seq (.region rlay_8) .ret))], [], env', h) ∧ sv env' 0 = .ptr p 0 0 ∧ sv env' 1 = int64 n ∧ sv env' 2 = v ∧ sv env' 14 = .bool false := by
      have h0 : ¬ n < 0 := by omega
      have h1 : ¬ 1 < n := by omega
      unfold rlay_fu
      simp [rlay_0, rlay_1, rlay_3, runS, runR, Rs.seq, Rs.block, sv_args, runOps, wanted_no, wanted_sv, ev_tm, ev_vl, sv_setD, sv_set, setD_none, qev_mov, qev_bin, qev_un, qev_lenI, qev_pick, qev_load1, qev_idxSl, idx2_sl, idxA2_ptr, opt_some, bin_add, bin_sub, bin_mul, bin_lss, bin_leq, bin_gtr, bin_geq, bin_eql, bin_neq, un_not, un_neg, qev_callv, qev_new1, qev_store1, qev_nilC, nilC_ptr, qev_fld, fld0, fldN, qev_extract, nth0, nth1, nth2, qev_eqPtr, sameP_nil, notIf, wanted_sv, h0, h1]
    obtain ⟨env2, d2, t0, t1, t2, t29⟩ := rroom a hn r s0 s1 s2
    by_cases hr : d.cap - ((d.area n).length : Int) < b.length
    · have he : d.layE n b = 8 := by unfold Dk.layE; rw [if_pos hn, if_pos hr]
      rw [he]
      rw [decide_eq_true hr] at t29
      obtain ⟨env3, e3, f6⟩ : ∃ env', runS Try.prog true (.seq (.region rlay_6) .ret) [] env2 h = some (.ret, [], env', h) ∧ sv env' 6 = int64 8 := by
        simp [rlay_6, runS, runR, Rs.seq, Rs.block, runOps, wanted_no, wanted_sv, ev_tm, ev_vl, sv_setD, sv_set, setD_none, qev_mov, qev_bin, qev_un, qev_lenI, qev_pick, qev_load1, qev_idxSl, idx2_sl, idxA2_ptr, opt_some, bin_add, bin_sub, bin_mul, bin_lss, bin_leq, bin_gtr, bin_geq, bin_eql, bin_neq, un_not, un_neg, qev_callv, qev_new1, qev_store1, qev_nilC, nilC_ptr, qev_fld, fld0, fldN, qev_extract, nth0, nth1, nth2, qev_eqPtr, sameP_nil, notIf]
      exact ⟨κ, h, V, ws, AmFn.dos rlay_code (by simp) (Dos.run (M := []) [] (by simp) e1 (DosL.more (M := []) (M1 := []) d2 (DosL.ret (Dos.cond (t := true) t29 (Dos.runRet [] (by simp) e3))))) (vs := [sv env3 6]) rfl f6, .refl, .refl, a⟩
    · have he : d.layE n b = 0 := by unfold Dk.layE; rw [if_pos hn, if_neg hr]
      rw [he, if_pos rfl]
      rw [decide_eq_false hr] at t29
      obtain ⟨v', h2, k2, hd2, o2⟩ := rcopy_fn r ok
      have g2 := newK'_agr κ h (c + 4)
      have A2 := a.more o2 g2
      have r2 := (hd2.new κ (c + 4)).sl
      generalize newK' κ h (c + 4) = κ2 at *
      have hcap := a.ok.cap.2
      have hle := area_le a.ok n
      obtain ⟨κ3, h3, V3, k3, g3, ch3, A3⟩ := rdo_fn A2 (w := ⟨1, n, b⟩) (dv := v') ⟨.inl rfl, hn, fun _ => by show ((d.area n).length : Int) + b.length ≤ d.cap; omega, by show b.length ≤ 1048576; omega, fun q => (by cases q), fun q => (by cases q)⟩ r2 hl
      have k3' : AmFn Try.prog 87 [.ptr p 0 0, .agg [int64 1, int64 n, v']] h2 (.tup []) h3 := k3
      obtain ⟨env3, e3, f6⟩ : ∃ env', runS Try.prog true (.seq (.region rlay_7) (.seq (.region rlay_8) .ret)) [⟨70, [v], h, v', h2⟩, ⟨87, [.ptr p 0 0, .agg [int64 1, int64 n, v']], h2, .tup [], h3⟩] env2 h = some (.ret, [], env', h3) ∧ sv env' 6 = int64 0 := by
        simp [rlay_7, rlay_8, runS, runR, Rs.seq, Rs.block, runOps, wanted_no, wanted_sv, ev_tm, ev_vl, sv_setD, sv_set, setD_none, qev_mov, qev_bin, qev_un, qev_lenI, qev_pick, qev_load1, qev_idxSl, idx2_sl, idxA2_ptr, opt_some, bin_add, bin_sub, bin_mul, bin_lss, bin_leq, bin_gtr, bin_geq, bin_eql, bin_neq, un_not, un_neg, qev_callv, qev_new1, qev_store1, qev_nilC, nilC_ptr, qev_fld, fld0, fldN, qev_extract, nth0, nth1, nth2, qev_eqPtr, sameP_nil, notIf, callA_ok ok70, callA_ok ok87, t0, t1, t2, qev_build, fillA, cells64, (hd2.sl.atom).2, show Nat.ble 1 3 = true from rfl, show Nat.ble 2 3 = true from rfl, show Nat.ble 3 3 = true from rfl]
      refine ⟨κ3, h3, V3, _, AmFn.dos rlay_code (by simp) (Dos.run (M := []) [] (by simp) e1 (DosL.more (M := []) (M1 := []) d2 (DosL.more (M := []) (M1 := []) (Dos.cond (t := false) t29 .skip) (DosL.ret (Dos.runRet _ (fun x hx => ?_) e3))))) (vs := [sv env3 6]) rfl f6, g2.trans g3 o2.next, (Chg.of o2).trans g2 ch3, A3⟩
      simp only [List.mem_cons, List.not_mem_nil, or_false] at hx
      rcases hx with q | q <;> subst q
      · exact k2
      · exact k3'
  · have he : d.layE n b = 2 := by unfold Dk.layE; rw [if_neg hn]
    rw [he]
    obtain ⟨env1, e1, f6⟩ : ∃ env', runS Try.prog true rlay_fu.body [] (setArgs .e 0 [.ptr p 0 0, int64 n, v]) h = some (.ret, [], env', h) ∧ sv env' 6 = int64 2 := by
      unfold rlay_fu
      by_cases h0 : n < 0
      · simp [rlay_0, rlay_1, rlay_3, rlay_4, runS, runR, Rs.seq, Rs.block, sv_args, runOps, wanted_no, wanted_sv, ev_tm, ev_vl, sv_setD, sv_set, setD_none, qev_mov, qev_bin, qev_un, qev_lenI, qev_pick, qev_load1, qev_idxSl, idx2_sl, idxA2_ptr, opt_some, bin_add, bin_sub, bin_mul, bin_lss, bin_leq, bin_gtr, bin_geq, bin_eql, bin_neq, un_not, un_neg, qev_callv, qev_new1, qev_store1, qev_nilC, nilC_ptr, qev_fld, fld0, fldN, qev_extract, nth0, nth1, nth2, qev_eqPtr, sameP_nil, notIf, wanted_sv, h0]
      · have h1 : 1 < n := by omega
        simp [rlay_0, rlay_1, rlay_3, rlay_4, runS, runR, Rs.seq, Rs.block, sv_args, runOps, wanted_no, wanted_sv, ev_tm, ev_vl, sv_setD, sv_set, setD_none, qev_mov, qev_bin, qev_un, qev_lenI, qev_pick, qev_load1, qev_idxSl, idx2_sl, idxA2_ptr, opt_some, bin_add, bin_sub, bin_mul, bin_lss, bin_leq, bin_gtr, bin_geq, bin_eql, bin_neq, un_not, un_neg, qev_callv, qev_new1, qev_store1, qev_nilC, nilC_ptr, qev_fld, fld0, fldN, qev_extract, nth0, nth1, nth2, qev_eqPtr, sameP_nil, notIf, wanted_sv, h0, h1]
    exact ⟨κ, h, V, ws, AmFn.dos rlay_code (by simp) (Dos.runRet [] (by simp) e1) (vs := [sv env1 6]) rfl f6, .refl, .refl, a⟩

theorem rclear_fn (a : RkAt κ c h p d V ws) (n : Int) (hl : d.ws.length ≤ 100000) :
    ∃ κ' h' V' ws', AmFn Try.prog 75 [.ptr p 0 0, int64 n] h (int64 (d.clearE n)) h' ∧ Agr h κ κ' ∧ Chg κ (Wk c) h h' ∧ RkAt κ' c h' p (d.clearD n) V' ws' := by
  unfold Dk.clearD
  by_cases hn : n = 0 ∨ n = 1
  · have he : d.clearE n = 0 := by unfold Dk.clearE; rw [if_pos hn]
    rw [he, if_pos rfl]
    obtain ⟨κ3, h3, V3, k3, g3, ch3, A3⟩ := rdo_fn a (w := ⟨2, n, []⟩) (dv := .nilSl) ⟨.inr (.inl rfl), hn, fun q => (by cases q), by simp, fun _ => rfl, fun q => (by cases q)⟩ .nil hl
    have k3' : AmFn Try.prog 87 [.ptr p 0 0, .agg [int64 2, int64 n, .nilSl]] h (.tup []) h3 := k3
    obtain ⟨env3, e3, f4⟩ : ∃ env', runS Try.prog true rclear_fu.body [⟨87, [.ptr p 0 0, .agg [int64 2, int64 n, .nilSl]], h, .tup [], h3⟩] (setArgs .e 0 [.ptr p 0 0, int64 n]) h = some (.ret, [], env', h3) ∧ sv env' 4 = int64 0 := by
      have h0 : ¬ n < 0 := by omega
      have h1 : ¬ 1 < n := by omega
      unfold rclear_fu
      simp [rclear_0, rclear_1, rclear_3, rclear_5, rclear_6, runS, runR, Rs.seq, Rs.block, sv_args, runOps, wanted_no, wanted_sv, ev_tm, ev_vl, sv_setD, sv_set, setD_none, qev_mov, qev_bin, qev_un, qev_lenI, qev_pick, qev_load1, qev_idxSl, idx2_sl, idxA2_ptr, opt_some, bin_add, bin_sub, bin_mul, bin_lss, bin_leq, bin_gtr, bin_geq, bin_eql, bin_neq, un_not, un_neg, qev_callv, qev_new1, qev_store1, qev_nilC, nilC_ptr, qev_fld, fld0, fldN, qev_extract, nth0, nth1, nth2, qev_eqPtr, sameP_nil, notIf, wanted_sv, callA_ok ok87, qev_build, fillA, AV.cells, h0, h1, show Nat.ble 1 3 = true from rfl, show Nat.ble 2 3 = true from rfl, show Nat.ble 3 3 = true from rfl]
    exact ⟨κ3, h3, V3, _, AmFn.dos rclear_code (by simp) (Dos.runRet _ (by intro x hx; simp at hx; subst hx; exact k3') e3) (vs := [sv env3 4]) rfl f4, g3, ch3, A3⟩
  · have he : d.clearE n = 2 := by unfold Dk.clearE; rw [if_neg hn]
    rw [he]
    obtain ⟨env1, e1, f6⟩ : ∃ env', runS Try.prog true rclear_fu.body [] (setArgs .e 0 [.ptr p 0 0, int64 n]) h = some (.ret, [], env', h) ∧ sv env' 4 = int64 2 := by
      unfold rclear_fu
      by_cases h0 : n < 0
      · simp [rclear_0, rclear_1, rclear_3, rclear_4, runS, runR, Rs.seq, Rs.block, sv_args, runOps, wanted_no, wanted_sv, ev_tm, ev_vl, sv_setD, sv_set, setD_none, qev_mov, qev_bin, qev_un, qev_lenI, qev_pick, qev_load1, qev_idxSl, idx2_sl, idxA2_ptr, opt_some, bin_add, bin_sub, bin_mul, bin_lss, bin_leq, bin_gtr, bin_geq, bin_eql, bin_neq, un_not, un_neg, qev_callv, qev_new1, qev_store1, qev_nilC, nilC_ptr, qev_fld, fld0, fldN, qev_extract, nth0, nth1, nth2, qev_eqPtr, sameP_nil, notIf, wanted_sv, h0]
      · have h1 : 1 < n := by omega
        simp [rclear_0, rclear_1, rclear_3, rclear_4, runS, runR, Rs.seq, Rs.block, sv_args, runOps, wanted_no, wanted_sv, ev_tm, ev_vl, sv_setD, sv_set, setD_none, qev_mov, qev_bin, qev_un, qev_lenI, qev_pick, qev_load1, qev_idxSl, idx2_sl, idxA2_ptr, opt_some, bin_add, bin_sub, bin_mul, bin_lss, bin_leq, bin_gtr, bin_geq, bin_eql, bin_neq, un_not, un_neg, qev_callv, qev_new1, qev_store1, qev_nilC, nilC_ptr, qev_fld, fld0, fldN, qev_extract, nth0, nth1, nth2, qev_eqPtr, sameP_nil, notIf, wanted_sv, h0, h1]
    exact ⟨κ, h, V, ws, AmFn.dos rclear_code (by simp) (Dos.runRet [] (by simp) e1) (vs := [sv env1 4]) rfl f6, .refl, .refl, a⟩

theorem rturn_fn (a : RkAt κ c h p d V ws) (hl : d.ws.length ≤ 100000) :
    ∃ κ' h' V' ws', AmFn Try.prog 76 [.ptr p 0 0] h (int64 0) h' ∧ Agr h κ κ' ∧ Chg κ (Wk c) h h' ∧ RkAt κ' c h' p d.turnD V' ws' := by
  obtain ⟨κ3, h3, V3, k3, g3, ch3, A3⟩ := rdo_fn a (w := ⟨3, 0, []⟩) (dv := .nilSl) ⟨.inr (.inr rfl), .inl rfl, fun q => (by cases q), by simp, fun q => (by cases q), fun _ => ⟨rfl, rfl⟩⟩ .nil hl
  have k3' : AmFn Try.prog 87 [.ptr p 0 0, .agg [int64 3, int64 0, .nilSl]] h (.tup []) h3 := k3
  obtain ⟨env3, e3, f4⟩ : ∃ env', runS Try.prog true rturn_fu.body [⟨87, [.ptr p 0 0, .agg [int64 3, int64 0, .nilSl]], h, .tup [], h3⟩] (setArgs .e 0 [.ptr p 0 0]) h = some (.ret, [], env', h3) ∧ sv env' 2 = int64 0 := by
    unfold rturn_fu
    simp [rturn_0, rturn_1, rturn_3, rturn_4, runS, runR, Rs.seq, Rs.block, sv_args, runOps, wanted_no, wanted_sv, ev_tm, ev_vl, sv_setD, sv_set, setD_none, qev_mov, qev_bin, qev_un, qev_lenI, qev_pick, qev_load1, qev_idxSl, idx2_sl, idxA2_ptr, opt_some, bin_add, bin_sub, bin_mul, bin_lss, bin_leq, bin_gtr, bin_geq, bin_eql, bin_neq, un_not, un_neg, qev_callv, qev_new1, qev_store1, qev_nilC, nilC_ptr, qev_fld, fld0, fldN, qev_extract, nth0, nth1, nth2, qev_eqPtr, sameP_nil, notIf, wanted_sv, callA_ok ok87, qev_build, fillA, AV.cells, show Nat.ble 1 3 = true from rfl]
  exact ⟨κ3, h3, V3, _, AmFn.dos rturn_code (by simp) (Dos.runRet _ (by intro x hx; simp at hx; subst hx; exact k3') e3) (vs := [sv env3 2]) rfl f4, g3, ch3, A3⟩
end
end Go.Proofs.Ytmifpiglcphmoaa.DPlays

namespace Go.Proofs.Ytmifpiglcphmoaa.DPlays
open Go Go.Proofs.Ytmifpiglcphmoaa.Am Go.Proofs

/-- The document's Of, where it refuses. -/
theorem rof_no {h : Hp} {cap used : Int} {va vb : AV} {na nb : Nat} {a b : List UInt8} (ra : SlN h 1 va na (byt a)) (rb : SlN h 1 vb nb (byt b)) (he : ofE cap used a b ≠ 0) : AmFn Try.prog 44 [int64 cap, int64 used, va, vb] h (.tup [.nilPtr, int64 (ofE cap used a b)]) h := by
  have ha : na = a.length := by have := ra.length; rw [byt_length] at this; omega
  have hb : nb = b.length := by have := rb.length; rw [byt_length] at this; omega
  subst ha hb
  have la := ra.lenI (P := Try.prog) h
  have lb := rb.lenI (P := Try.prog) h
  obtain ⟨env1, e1, f8, f9⟩ : ∃ env', runS Try.prog true rof_fu.body [] (setArgs .e 0 [int64 cap, int64 used, va, vb]) h = some (.ret, [], env', h) ∧ sv env' 8 = .nilPtr ∧ sv env' 9 = int64 (ofE cap used a b) := by
    unfold rof_fu ofE
    unfold ofE at he
    by_cases h1 : cap < 1
    · simp [rof_0, rof_1, rof_2, runS, runR, Rs.seq, Rs.block, sv_args, runOps, wanted_no, wanted_sv, ev_tm, ev_vl, sv_setD, setD_none, qev_mov, qev_bin, qev_pick, bin_lss, bin_gtr, opt_some, h1]
    · by_cases h2 : 1048576 < cap
      · simp [rof_0, rof_1, rof_2, runS, runR, Rs.seq, Rs.block, sv_args, runOps, wanted_no, wanted_sv, ev_tm, ev_vl, sv_setD, setD_none, qev_mov, qev_bin, qev_pick, bin_lss, bin_gtr, opt_some, h1, h2]
      · by_cases h3 : used < 0
        · simp [rof_0, rof_1, rof_2, runS, runR, Rs.seq, Rs.block, sv_args, runOps, wanted_no, wanted_sv, ev_tm, ev_vl, sv_setD, setD_none, qev_mov, qev_bin, qev_pick, bin_lss, bin_gtr, opt_some, h1, h2, h3]
        · by_cases h4 : 1 < used
          · simp [rof_0, rof_1, rof_2, runS, runR, Rs.seq, Rs.block, sv_args, runOps, wanted_no, wanted_sv, ev_tm, ev_vl, sv_setD, setD_none, qev_mov, qev_bin, qev_pick, bin_lss, bin_gtr, opt_some, h1, h2, h3, h4]
          · by_cases h5 : cap < (a.length : Int)
            · simp [rof_0, rof_1, rof_3, rof_4, runS, runR, Rs.seq, Rs.block, sv_args, runOps, wanted_no, wanted_sv, ev_tm, ev_vl, sv_setD, setD_none, qev_mov, qev_bin, qev_pick, bin_lss, bin_gtr, opt_some, h1, h2, h3, h4, h5, la]
            · have h6 : cap < (b.length : Int) := by
                refine Classical.byContradiction fun h6 => he ?_
                rw [if_neg (by omega), if_neg (by omega)]
              simp [rof_0, rof_1, rof_3, rof_4, runS, runR, Rs.seq, Rs.block, sv_args, runOps, wanted_no, wanted_sv, ev_tm, ev_vl, sv_setD, setD_none, qev_mov, qev_bin, qev_pick, bin_lss, bin_gtr, opt_some, h1, h2, h3, h4, h5, h6, la, lb]
  exact AmFn.dos rof_code (by simp) (Dos.runRet [] (by simp) e1) (vs := [sv env1 8, sv env1 9]) rfl (by rw [f8, f9]; rfl)

/-- The document's Of, where it answers a disk. -/
theorem rof_yes (κ : Pos → Nat) (c : Nat) {h : Hp} {cap used : Int} {va vb : AV} {na nb : Nat} {a b : List UInt8} (ra : SlN h 1 va na (byt a)) (rb : SlN h 1 vb nb (byt b)) (he : ofE cap used a b = 0) :
    ∃ κ' h' V' q, AmFn Try.prog 44 [int64 cap, int64 used, va, vb] h (.tup [.ptr q 0 0, int64 0]) h' ∧ Agr h κ κ' ∧ Only [] h h' ∧ RkAt κ' c h' q (ofD cap used a b) V' [] ∧ h.next.num ≤ q.num := by
  have hok := of_ok he
  have ha : na = a.length := by have := ra.length; rw [byt_length] at this; omega
  have hb : nb = b.length := by have := rb.length; rw [byt_length] at this; omega
  subst ha hb
  have hla : (a.length : Int) ≤ cap := hok.a0
  have hlb : (b.length : Int) ≤ cap := hok.a1
  have hcap : 0 < cap ∧ cap ≤ 1048576 := hok.cap
  have hus : used = 0 ∨ used = 1 := hok.us
  have oka : okSize a.length 1 = true := okSize_small' (by omega) (by omega)
  have okb : okSize b.length 1 = true := okSize_small' (by omega) (by omega)
  have la := ra.lenI (P := Try.prog) h
  have lb := rb.lenI (P := Try.prog) h
  obtain ⟨v1, h1, k1, hd1, o1⟩ := rcopy_fn ra oka
  obtain ⟨v2, h2, k2, hd2, o2⟩ := rcopy_fn (rb.more o1) okb
  obtain ⟨v3, h3, k3, hd3, o3⟩ := rcopy_fn (ra.more (o1.trans o2)) oka
  obtain ⟨v4, h4, k4, hd4, o4⟩ := rcopy_fn (rb.more ((o1.trans o2).trans o3)) okb
  have c1 := hd1.sl.atom
  have c2 := hd2.sl.atom
  have c3 := hd3.sl.atom
  have c4 := hd4.sl.atom
  have n1 := o1.next
  have n2 := o2.next
  have n3 := o3.next
  have n4 := o4.next
  -- the kinds
  have g1 := newK'_agr κ h (c + 1)
  have K1 := hd1.new κ (c + 1)
  generalize newK' κ h (c + 1) = κ1 at *
  have g2 := newK'_agr κ1 h1 (c + 2)
  have K2 := hd2.new κ1 (c + 2)
  have K1 := K1.chg (K := fun _ => False) (.of o2) g2 (fun q => q)
  generalize newK' κ1 h1 (c + 2) = κ2 at *
  have g3 := newK'_agr κ2 h2 (c + 4)
  have K3 := hd3.new κ2 (c + 4)
  have K4 : KHd (newK' κ2 h2 (c + 4)) (c + 4) h4 1 v4 b.length (byt b) := ⟨hd4.weak (Nat.zero_le _), fun id q => newK'_new κ2 (c + 4) (by have := (hd4.old q).1; omega)⟩
  have K1 := (K1.chg (K := fun _ => False) (.of o3) g3 (fun q => q)).chg (K := fun _ => False) (.of o4) .refl (fun q => q)
  have K2 := (K2.chg (K := fun _ => False) (.of o3) g3 (fun q => q)).chg (K := fun _ => False) (.of o4) .refl (fun q => q)
  have K3 := K3.chg (K := fun _ => False) (.of o4) .refl (fun q => q)
  generalize newK' κ2 h2 (c + 4) = κ3 at *
  obtain ⟨h5, bx, o5, n5, b5⟩ := boxed κ3 c h4 [int64 cap, int64 used, int64 used, v1, v2, v3, v4, .nilSl]
  have g4 := newK'_agr κ3 h4 c
  have K1 := K1.chg (K := fun _ => False) (.of o5) g4 (fun q => q)
  have K2 := K2.chg (K := fun _ => False) (.of o5) g4 (fun q => q)
  have K3 := K3.chg (K := fun _ => False) (.of o5) g4 (fun q => q)
  have K4 := K4.chg (K := fun _ => False) (.of o5) g4 (fun q => q)
  generalize newK' κ3 h4 c = κ4 at *
  -- two calls of the same arguments
  obtain ⟨env1, e1, f8, f9⟩ : ∃ env', runS Try.prog true rof_fu.body [⟨70, [va], h, v1, h1⟩, ⟨70, [vb], h1, v2, h2⟩, ⟨70, [va], h2, v3, h3⟩, ⟨70, [vb], h3, v4, h4⟩] (setArgs .e 0 [int64 cap, int64 used, va, vb]) h = some (.ret, [], env', h5) ∧ sv env' 8 = .ptr h4.next 0 0 ∧ sv env' 9 = int64 0 := by
    unfold rof_fu
    have q1 : ¬ cap < 1 := by omega
    have q2 : ¬ 1048576 < cap := by omega
    have q3 : ¬ used < 0 := by omega
    have q4 : ¬ 1 < used := by omega
    have q5 : ¬ cap < (a.length : Int) := by omega
    have q6 : ¬ cap < (b.length : Int) := by omega
    simp [rof_0, rof_1, rof_3, rof_5, runS, runR, Rs.seq, Rs.block, sv_args, runOps, wanted_no, wanted_sv, ev_tm, ev_vl, sv_setD, setD_none, qev_mov, qev_bin, qev_pick, bin_lss, bin_gtr, opt_some, qev_callv, callA_ok ok70, qev_build, fillA, cells64, cellsAgg, c1.2, c2.2, c3.2, c4.2, bx, q1, q2, q3, q4, q5, q6, la, lb, show Nat.ble 1 2 = true from rfl, show Nat.ble 2 2 = true from rfl, show Nat.ble 1 8 = true from rfl, show Nat.ble 2 8 = true from rfl, show Nat.ble 3 8 = true from rfl, show Nat.ble 5 8 = true from rfl, show Nat.ble 7 8 = true from rfl, show Nat.beq 2 2 = true from rfl]
  refine ⟨κ4, h5, ⟨v1, v2, v3, v4, .nilSl⟩, h4.next, AmFn.dos rof_code (by simp) (Dos.runRet _ (fun x hx => ?_) e1) (vs := [sv env1 8, sv env1 9]) rfl (by rw [f8, f9]; rfl), ((g1.trans g2 n1).trans g3 (by omega)).trans g4 (by omega), (((o1.trans o2).trans o3).trans o4).trans o5, ⟨b5, K1, K2, .nil, K3.sl, K4.sl, by simp, rfl, hok⟩, by omega⟩
  simp only [List.mem_cons, List.not_mem_nil, or_false] at hx
  rcases hx with q | q | q | q <;> subst q
  · exact k1
  · exact k2
  · exact k3
  · exact k4
end Go.Proofs.Ytmifpiglcphmoaa.DPlays

namespace Go.Proofs.Ytmifpiglcphmoaa.DPlays
open Go Go.Proofs.Ytmifpiglcphmoaa.Am Go.Proofs

section
variable {h : Hp} {id : Pos} {g n cap : Nat} {ex : Bool} {env : T AV}

/-- Bytes are written over, from the i-th on. -/
theorem over_loop (hb : n ≤ 140737488355328) : ∀ (r i : Nat) (env : T AV) (h : Hp) (L : List AV), i + r = n → Gro h id g L → n ≤ L.length → sv env 0 = .sl id g 0 n cap ex 1 → sv env 2 = int64 (i : Nat) →
    ∃ env' h', Loops Try.prog 71 over_4 env h (.exit 0) [] env' h' ∧ Only [id] h h'
  | 0, i, env, h, L, hi, a, hl, s0, s2 => by
    have lv : ∀ env x, ev env x = .sl id g 0 n cap ex 1 → evalOp Try.prog (.lenL x) env h = .val (int64 (n : Nat)) h := (SlN.mk (l := L.take n) (by simp; omega) (by have := a.part (off := 0) (n := n) (by omega); simpa using this)).lenI h
    have hi' : ¬ (i : Int) < (n : Int) := by omega
    obtain ⟨env1, e1⟩ : ∃ env', runS Try.prog true over_4 [] env h = some (.exit 0, [], env', h) := by
      unfold over_4
      simp [over_1, runS, runR, Rs.seq, Rs.block, runOps, wanted_no, wanted_sv, ev_tm, ev_vl, sv_setD, sv_set, setD_none, qev_mov, qev_bin, qev_un, qev_lenI, qev_pick, qev_load1, qev_idxSl, idx2_sl, idxA2_ptr, opt_some, bin_add, bin_sub, bin_mul, bin_lss, bin_leq, bin_gtr, bin_geq, bin_eql, bin_neq, un_not, un_neg, qev_callv, qev_new1, qev_store1, qev_nilC, nilC_ptr, qev_fld, fld0, fldN, qev_extract, nth0, nth1, nth2, qev_eqPtr, sameP_nil, notIf, s0, s2, lv, hi']
    exact ⟨env1, h, Loops.out (Dos.runExit [] (by simp) e1) (by simp), .refl _ _⟩
  | r + 1, i, env, h, L, hi, a, hl, s0, s2 => by
    have lv : ∀ env x, ev env x = .sl id g 0 n cap ex 1 → evalOp Try.prog (.lenL x) env h = .val (int64 (n : Nat)) h := (SlN.mk (l := L.take n) (by simp; omega) (by have := a.part (off := 0) (n := n) (by omega); simpa using this)).lenI h
    have hi' : (i : Int) < (n : Int) := by omega
    have w1 : wrapA .i64 ((i : Int) + 1) = ((i + 1 : Nat) : Int) := by rw [wrap64 (by omega) (by omega)]; omega
    have hiN : i < n := by omega
    have pu := storeR_gro a (i := i) (by omega) (.int .u8 99) rfl rfl
    obtain ⟨env1, e1, f0, f2⟩ : ∃ env', runS Try.prog true over_4 [] env h = some (.upt [], [], env', putG h id i (.int .u8 99)) ∧ sv env' 0 = .sl id g 0 n cap ex 1 ∧ sv env' 2 = int64 (i + 1 : Nat) := by
      unfold over_4
      simp [over_1, over_2, over_3, runS, runR, Rs.seq, Rs.block, runOps, wanted_no, wanted_sv, ev_tm, ev_vl, sv_setD, sv_set, setD_none, qev_mov, qev_bin, qev_un, qev_lenI, qev_pick, qev_load1, qev_idxSl, idx2_sl, idxA2_ptr, opt_some, bin_add, bin_sub, bin_mul, bin_lss, bin_leq, bin_gtr, bin_geq, bin_eql, bin_neq, un_not, un_neg, qev_callv, qev_new1, qev_store1, qev_nilC, nilC_ptr, qev_fld, fld0, fldN, qev_extract, nth0, nth1, nth2, qev_eqPtr, sameP_nil, notIf, s0, s2, lv, hi', hiN, pu, w1]
    obtain ⟨env2, h2, l2, o2⟩ := over_loop hb r (i + 1) env1 _ _ (by omega) (putG_gro a (i := i) (by omega) (.int .u8 99)) (by simpa using hl) f0 f2
    exact ⟨env2, h2, Loops.more (M := []) (M1 := []) (Dos.runGo [] (by simp) e1) l2, (putG_only _ _ _ _).trans o2⟩

/-- Bytes in a row of one's own are written over. -/
theorem over_row {L : List AV} (hb : n ≤ 140737488355328) (a : Gro h id g L) (hl : n ≤ L.length) : ∃ h', AmFn Try.prog 71 [.sl id g 0 n cap ex 1] h (.tup []) h' ∧ Only [id] h h' := by
  obtain ⟨env1, e1, f0, f2⟩ : ∃ env', runOps Try.prog over_0 (setArgs .e 0 [.sl id g 0 n cap ex 1]) h = some (env', h) ∧ sv env' 0 = .sl id g 0 n cap ex 1 ∧ sv env' 2 = int64 ((0 : Nat) : Int) := by
    simp [over_0, sv_args, runOps, wanted_no, wanted_sv, ev_tm, ev_vl, sv_setD, sv_set, setD_none, qev_mov, qev_bin, qev_un, qev_lenI, qev_pick, qev_load1, qev_idxSl, idx2_sl, idxA2_ptr, opt_some, bin_add, bin_sub, bin_mul, bin_lss, bin_leq, bin_gtr, bin_geq, bin_eql, bin_neq, un_not, un_neg, qev_callv, qev_new1, qev_store1, qev_nilC, nilC_ptr, qev_fld, fld0, fldN, qev_extract, nth0, nth1, nth2, qev_eqPtr, sameP_nil, notIf]
  obtain ⟨env2, h2, l2, o2⟩ := over_loop hb n 0 env1 h L (by omega) a hl f0 f2
  exact ⟨h2, AmFn.dos0 over_code (by simp) (o := .go) (fun _ => .inl rfl) (by simp) (Dos.seq (M := []) (M1 := []) (Dos.region e1) (Dos.block (i := 0) (o := .exit 0) (Dos.loop l2))), o2⟩

/-- The same of a list of one's own. -/
theorem over_fn {N : Nat} {v : AV} {l : List AV} (hd : Held N h 1 v n l) (hb : n ≤ 140737488355328) : ∃ h' S, AmFn Try.prog 71 [v] h (.tup []) h' ∧ Only S h h' ∧ ∀ id ∈ S, InN 1 v id := by
  rcases hd with ⟨q1, q2, q⟩ | ⟨id, g, q0, q2, q3, q4⟩
  · have lv : ∀ env x, ev env x = v → evalOp Try.prog (.lenL x) env h = .val (int64 (0 : Int)) h := fun env x hx => by
      rw [qev_lenI, hx]
      rcases q with q | ⟨_, _, _, q, _⟩ <;> rw [q] <;> rfl
    obtain ⟨env1, e1, f0, f2⟩ : ∃ env', runOps Try.prog over_0 (setArgs .e 0 [v]) h = some (env', h) ∧ sv env' 0 = v ∧ sv env' 2 = int64 (0 : Int) := by
      simp [over_0, sv_args, runOps, wanted_no, wanted_sv, ev_tm, ev_vl, sv_setD, sv_set, setD_none, qev_mov, qev_bin, qev_un, qev_lenI, qev_pick, qev_load1, qev_idxSl, idx2_sl, idxA2_ptr, opt_some, bin_add, bin_sub, bin_mul, bin_lss, bin_leq, bin_gtr, bin_geq, bin_eql, bin_neq, un_not, un_neg, qev_callv, qev_new1, qev_store1, qev_nilC, nilC_ptr, qev_fld, fld0, fldN, qev_extract, nth0, nth1, nth2, qev_eqPtr, sameP_nil, notIf]
    obtain ⟨env2, e2⟩ : ∃ env', runS Try.prog true over_4 [] env1 h = some (.exit 0, [], env', h) := by
      unfold over_4
      simp [over_1, runS, runR, Rs.seq, Rs.block, runOps, wanted_no, wanted_sv, ev_tm, ev_vl, sv_setD, sv_set, setD_none, qev_mov, qev_bin, qev_un, qev_lenI, qev_pick, qev_load1, qev_idxSl, idx2_sl, idxA2_ptr, opt_some, bin_add, bin_sub, bin_mul, bin_lss, bin_leq, bin_gtr, bin_geq, bin_eql, bin_neq, un_not, un_neg, qev_callv, qev_new1, qev_store1, qev_nilC, nilC_ptr, qev_fld, fld0, fldN, qev_extract, nth0, nth1, nth2, qev_eqPtr, sameP_nil, notIf, f0, f2, lv]
    exact ⟨h, [], AmFn.dos0 over_code (by simp) (o := .go) (fun _ => .inl rfl) (by simp) (Dos.seq (M := []) (M1 := []) (Dos.region e1) (Dos.block (i := 0) (o := .exit 0) (Dos.loop (Loops.out (Dos.runExit [] (by simp) e2) (by simp))))), .refl _ _, by simp⟩
  · subst q2
    obtain ⟨h', k, o⟩ := over_row (cap := n) (ex := false) hb q3 (by omega)
    exact ⟨h', [id], k, o, fun id' q => by simp at q; subst q; exact ⟨_, _, _, _, _, rfl⟩⟩

/-- Bytes lent: in new memory, with a mark behind them. -/
theorem lent_fn {v : AV} {b : List UInt8} (r : SlN h 1 v n (byt b)) (ok : okSize (n + 1) 1 = true) : ∃ id g h', AmFn Try.prog 43 [v] h (.sl id g 0 n (n + 1) false 1) h' ∧ Gro h' id g (byt (b ++ [165])) ∧ Only [] h h' ∧ h.next.num ≤ id.num := by
  have hn : n = b.length := by have := r.length; rw [byt_length] at this; omega
  have ok0 : okSize n 1 = true := by
    unfold okSize at ok ⊢
    simp only [Bool.and_eq_true, ble_iff] at ok ⊢
    have e1 : Nat.mul (n + 1) 1 = n + 1 := Nat.mul_one _
    have e2 : Nat.mul n 1 = n := Nat.mul_one _
    rw [e1] at ok
    rw [e2]
    omega
  obtain ⟨v1, h1, S1, ap, hd, o1, hS, hv⟩ := (Held.nil (N := h.next.num) (h := h) (es := 1)).push Try.prog (bytes := 1) r (byt_atom b) (by omega) (by simpa using ok0) (Nat.le_refl _)
  have ap0 := fun env x => ap env (vl .nilSl) x rfl
  have hd : Held h.next.num h1 1 v1 n (byt b) := by simpa using hd
  have o1 : Only [] h h1 := o1.mono fun id q => by obtain ⟨g, off, m, cap, ex, e⟩ := hS id q; cases e
  obtain ⟨h2, bl, a2, o2, n2⟩ := oneSl Try.prog (es := 1) (z := [AV.int .u8 0]) (l := byt [165]) (by omega) rfl rfl h1
  have bl0 := fun env => bl env (vl (.int .u8 165)) rfl
  have n1 := o1.next
  have hl0 : SlN h2 1 (.sl h1.next 0 0 1 1 true 1) 1 (byt [165]) := a2.slN (n := 1) (es := 1) rfl
  obtain ⟨v3, h3, S3, ap3, hd3, o3, hS3, hv3⟩ := (hd.more o2).push Try.prog (bytes := 1) hl0 (byt_atom [165]) (by omega) ok (by omega)
  rw [← byt_append] at hd3
  rcases hd3 with ⟨q, _⟩ | ⟨id, g, q0, q2, q3, q4⟩
  · omega
  subst q2
  have lv := r.lenI (P := Try.prog) h3
  have sl : ∀ env (x y : Opd), ev env x = .sl id g 0 (n + 1) (n + 1) false 1 → ev env y = int64 (n : Nat) → evalOp Try.prog (.sliceSl 1 x none (some y) none) env h3 = .val (.sl id g 0 n (n + 1) false 1) h3 := fun env x y hx hy => by
    have := slice_ev Try.prog (h := h3) (lo := none) (hi := some y) (l := 0) (r := n) hx rfl (evO_int hy) (by omega) (by omega)
    simpa using this
  obtain ⟨env', e, f⟩ : ∃ env', runS Try.prog true lent_fu.body [] (setArgs .e 0 [v]) h = some (.ret, [], env', h3) ∧ sv env' 2 = .sl id g 0 n (n + 1) false 1 := by
    unfold lent_fu
    simp [lent_0, lent_1, lent_2, runS, runR, Rs.seq, Rs.block, sv_args, runOps, wanted_no, ev_tm, ev_vl, sv_setD, qev_mov, opt_some, ap0, bl0, ap3, lv, sl]
  refine ⟨id, g, h3, AmFn.dos lent_code (by simp) (Dos.runRet [] (by simp) e) (vs := [sv env' 2]) rfl f, q3, ?_, q0⟩
  refine (((o1.trans o2).mono (S' := S3) (by simp)).trans o3).mono fun id' q => .inr ?_
  exact (hd.old (hS3 id' q)).1

/-- What was lent stands, and is written over. -/
theorem left_fn {v : AV} {b : List UInt8} (a : Gro h id g (byt (b ++ [165]))) (hn : n = b.length) (r : SlN h 1 v n (byt b)) (hb : n + 1 ≤ 140737488355328) : ∃ h', AmFn Try.prog 45 [.sl id g 0 n (n + 1) false 1, v] h (.bool true) h' ∧ Only [id] h h' := by
  have hl : (byt (b ++ [165])).length = n + 1 := by rw [byt_length]; simp [hn]
  have rs : SlN h 1 (.sl id g 0 n (n + 1) false 1) n (byt b) := by
    have := a.sl (n := n) (cap := n + 1) (ex := false) (by omega)
    rw [byt_append, List.take_append_of_le_length (by rw [byt_length]; omega), List.take_of_length_le (by rw [byt_length]; omega)] at this
    exact this
  have s1 := rs.str (P := Try.prog)
  have s2 := r.str (P := Try.prog)
  have lv := r.lenI (P := Try.prog) h
  have w1 : wrapA .i64 ((n : Int) + 1) = ((n + 1 : Nat) : Int) := by rw [wrap64 (by omega) (by omega)]; omega
  have sl : ∀ env (x y : Opd), ev env x = .sl id g 0 n (n + 1) false 1 → ev env y = int64 (n + 1 : Nat) → evalOp Try.prog (.sliceSl 1 x none (some y) none) env h = .val (.sl id g 0 (n + 1) (n + 1) false 1) h := fun env x y hx hy => by
    have := slice_ev Try.prog (h := h) (lo := none) (hi := some y) (l := 0) (r := n + 1) hx rfl (evO_int hy) (by omega) (by omega)
    simpa using this
  have l1 : read1 h id g n = some (.int .u8 165) := by
    rw [a.one (i := n) (by omega)]
    have : (byt (b ++ [165]))[n]'(by omega) = (byt b ++ byt [165])[n]'(by rw [← byt_append]; omega) := by simp only [byt_append]
    rw [this, List.getElem_append_right (by rw [byt_length]; omega)]
    simp only [byt_length, hn, Nat.sub_self]
    rfl
  have hlt : (n : Int) < (n : Int) + 1 := by omega
  obtain ⟨h2, k2, o2⟩ := over_row (cap := n + 1) (ex := false) (n := n) (by omega) a (by omega)
  obtain ⟨env', e, f⟩ : ∃ env', runS Try.prog true left_fu.body [⟨71, [.sl id g 0 n (n + 1) false 1], h, .tup [], h2⟩] (setArgs .e 0 [.sl id g 0 n (n + 1) false 1, v]) h = some (.ret, [], env', h2) ∧ sv env' 4 = .bool true := by
    unfold left_fu
    simp [left_0, left_1, left_2, left_3, left_4, runS, runR, Rs.seq, Rs.block, sv_args, runOps, wanted_no, wanted_sv, ev_tm, ev_vl, sv_setD, sv_set, setD_none, qev_mov, qev_bin, qev_un, qev_lenI, qev_pick, qev_load1, qev_idxSl, idx2_sl, idxA2_ptr, opt_some, bin_add, bin_sub, bin_mul, bin_lss, bin_leq, bin_gtr, bin_geq, bin_eql, bin_neq, un_not, un_neg, qev_callv, qev_new1, qev_store1, qev_nilC, nilC_ptr, qev_fld, fld0, fldN, qev_extract, nth0, nth1, nth2, qev_eqPtr, sameP_nil, notIf, wanted_sv, callA_ok ok71, s1, s2, lv, w1, sl, hlt, l1, bin_eqlS]
  exact ⟨h2, AmFn.dos left_code (by simp) (Dos.runRet _ (by intro x hx; simp at hx; subst hx; exact k2) e) (vs := [sv env' 4]) rfl f, o2⟩

/-- Two raw writes that are the same. -/
theorem samew_fn {k a : Int} {v1 v2 : AV} {n1 n2 : Nat} {b : List UInt8} (r1 : SlN h 1 v1 n1 (byt b)) (r2 : SlN h 1 v2 n2 (byt b)) : ∃ h', AmFn Try.prog 73 [.agg [int64 k, int64 a, v1], .agg [int64 k, int64 a, v2]] h (.bool true) h' ∧ Only [] h h' := by
  obtain ⟨h1, bx1, o1, n1, c1⟩ := boxed (fun _ => 0) 0 h [int64 k, int64 a, v1]
  obtain ⟨h2, bx2, o2, n2, c2⟩ := boxed (fun _ => 0) 0 h1 [int64 k, int64 a, v2]
  have a1 := c1.arr.only o2 (by simp)
  have a2 := c2.arr
  have l10 : read1 h2 h.next 0 0 = some (int64 k) := a1.one (i := 0) (by simp)
  have l11 : read1 h2 h.next 0 1 = some (int64 a) := a1.one (i := 1) (by simp)
  have l12 : read1 h2 h.next 0 2 = some v1 := a1.one (i := 2) (by simp)
  have l20 : read1 h2 h1.next 0 0 = some (int64 k) := a2.one (i := 0) (by simp)
  have l21 : read1 h2 h1.next 0 1 = some (int64 a) := a2.one (i := 1) (by simp)
  have l22 : read1 h2 h1.next 0 2 = some v2 := a2.one (i := 2) (by simp)
  have s1 := (r1.more (o1.trans o2)).str (P := Try.prog)
  have s2 := (r2.more (o1.trans o2)).str (P := Try.prog)
  obtain ⟨env1, e1, s2', s3'⟩ : ∃ env', runOps Try.prog samew_0 (setArgs .e 0 [.agg [int64 k, int64 a, v1], .agg [int64 k, int64 a, v2]]) h = some (env', h2) ∧ sv env' 2 = .ptr h.next 0 0 ∧ sv env' 3 = .ptr h1.next 0 0 := by
    unfold samew_0
    simp [sv_args, runOps, wanted_no, wanted_sv, ev_tm, ev_vl, sv_setD, sv_set, setD_none, qev_mov, qev_bin, qev_un, qev_lenI, qev_pick, qev_load1, qev_idxSl, idx2_sl, idxA2_ptr, opt_some, bin_add, bin_sub, bin_mul, bin_lss, bin_leq, bin_gtr, bin_geq, bin_eql, bin_neq, un_not, un_neg, qev_callv, qev_new1, qev_store1, qev_nilC, nilC_ptr, qev_fld, fld0, fldN, qev_extract, nth0, nth1, nth2, qev_eqPtr, sameP_nil, notIf, bx1, bx2]
  obtain ⟨env', e, f⟩ : ∃ env', runOps Try.prog samew_1 env1 h2 = some (env', h2) ∧ sv env' 4 = .bool true := by
    unfold samew_1
    simp [runOps, wanted_no, wanted_sv, ev_tm, ev_vl, sv_setD, sv_set, setD_none, qev_mov, qev_bin, qev_un, qev_lenI, qev_pick, qev_load1, qev_idxSl, idx2_sl, idxA2_ptr, opt_some, bin_add, bin_sub, bin_mul, bin_lss, bin_leq, bin_gtr, bin_geq, bin_eql, bin_neq, un_not, un_neg, qev_callv, qev_new1, qev_store1, qev_nilC, nilC_ptr, qev_fld, fld0, fldN, qev_extract, nth0, nth1, nth2, qev_eqPtr, sameP_nil, notIf, wanted_sv, s2', s3', l10, l11, l12, l20, l21, l22, s1, s2, bin_eqlS]
  exact ⟨h2, AmFn.dos samew_code (by simp) (Dos.seq (M := []) (M1 := []) (Dos.region e1) (Dos.seq (M := []) (M1 := []) (Dos.region e) Dos.ret)) (vs := [sv env' 4]) rfl f, o1.trans o2⟩
end
end Go.Proofs.Ytmifpiglcphmoaa.DPlays

namespace Go.Proofs.Ytmifpiglcphmoaa.DPlays
open Go Go.Proofs.Ytmifpiglcphmoaa.Am Go.Proofs

theorem bin_eqBb (op : Bool) (x y : Bool) : binA .eql .bool op (.bool x) (.bool y) = some (.bool (x == y)) := by cases x <;> cases y <;> rfl
theorem bin_neqBb (op : Bool) (x y : Bool) : binA .neq .bool op (.bool x) (.bool y) = some (.bool (!(x == y))) := by cases x <;> cases y <;> rfl

section
variable {κ : Pos → Nat} {c : Nat} {h : Hp} {p : Pos} {d : Dk} {V : Vs} {ws : List (Wr × AV)}

def Dk.room (d : Dk) (n : Int) : Int := if n = 0 ∨ n = 1 then d.cap - ((d.area n).length : Int) else 0

theorem room_fn (a : DkAt κ c h p d V ws) (n : Int) : AmFn Try.prog 60 [.ptr p 0 0, int64 n] h (int64 (d.room n)) h := by
  have kt := there_fn a
  have ka := area_fn h n
  unfold Dk.room
  by_cases hn : n = 0 ∨ n = 1
  · rw [if_pos hn]
    rw [decide_eq_true hn] at ka
    obtain ⟨va, la, ra⟩ := a.larea hn
    have l0 := a.l0
    have lw := ra.lenI (P := Try.prog) h
    have hc := a.ok.cap
    have hle := area_le a.ok n
    have w1 : wrapA .i64 (d.cap - ((d.area n).length : Int)) = d.cap - ((d.area n).length : Int) := wrap64 (by omega) (by omega)
    have hb : 0 ≤ n ∧ n < 2 := by omega
    obtain ⟨env1, e1, s0, s1⟩ : ∃ env', runS Try.prog false room_fu.body [⟨63, [.ptr p 0 0], h, .bool true, h⟩, ⟨64, [int64 n], h, .bool true, h⟩] (setArgs .e 0 [.ptr p 0 0, int64 n]) h = some (.upt [.code (.drawn room_3), .code .ret], [], env', h) ∧ sv env' 0 = .ptr p 0 0 ∧ sv env' 1 = int64 n := by
      unfold room_fu
      simp [room_0, room_1, runS, runR, Rs.seq, Rs.block, sv_args, runOps, wanted_no, wanted_sv, ev_tm, ev_vl, sv_setD, sv_set, setD_none, qev_mov, qev_bin, qev_un, qev_lenI, qev_pick, qev_load1, qev_idxSl, idx2_sl, idxA2_ptr, opt_some, bin_add, bin_sub, bin_mul, bin_lss, bin_leq, bin_gtr, bin_geq, bin_eql, bin_neq, un_not, un_neg, qev_callv, qev_new1, qev_store1, qev_nilC, nilC_ptr, qev_fld, fld0, fldN, qev_extract, nth0, nth1, nth2, qev_eqPtr, sameP_nil, notIf, wanted_sv, callA_ok ok63, callA_ok ok64]
    obtain ⟨env', acts, lds, e, f4⟩ : ∃ env' acts lds, runD Try.prog noRec 0 room_3 ⟨[], [], [], h.next, env1, h⟩ = some ⟨acts, lds, [], h.next, env', h⟩ ∧ sv env' 4 = int64 (d.cap - ((d.area n).length : Int)) := by
      simp [room_3, runD, stepD, kindOf, lookBack, wanted_no, ev_tm, ev_vl, sv_setD, setD_none, qev_mov, qev_bin, bin_sub, opt_some, qev_load1, qev_nilC, nilC_ptr, qev_fld, fld0, fldN, qev_idxArr, idxA2_ptr, s0, s1, l0, lw, la, w1, hb]
    refine AmFn.dos room_code (by simp) (Dos.run (M := []) _ (fun x hx => ?_) e1 (DosL.more (M := []) (M1 := []) (Dos.drawn (noRec_sound _) (runDrawn_of (acts := acts) (lds := lds) (by simp [room_3, skipIds, isAlloc, kindOf]) e)) (DosL.ret Dos.ret))) (vs := [sv env' 4]) rfl f4
    simp only [List.mem_cons, List.not_mem_nil, or_false] at hx
    rcases hx with q | q <;> subst q
    · exact kt
    · exact ka
  · rw [if_neg hn]
    rw [decide_eq_false hn] at ka
    obtain ⟨env1, e1, f4⟩ : ∃ env', runS Try.prog true room_fu.body [⟨63, [.ptr p 0 0], h, .bool true, h⟩, ⟨64, [int64 n], h, .bool false, h⟩] (setArgs .e 0 [.ptr p 0 0, int64 n]) h = some (.ret, [], env', h) ∧ sv env' 4 = int64 0 := by
      unfold room_fu
      simp [room_0, room_1, room_2, runS, runR, Rs.seq, Rs.block, sv_args, runOps, wanted_no, wanted_sv, ev_tm, ev_vl, sv_setD, sv_set, setD_none, qev_mov, qev_bin, qev_un, qev_lenI, qev_pick, qev_load1, qev_idxSl, idx2_sl, idxA2_ptr, opt_some, bin_add, bin_sub, bin_mul, bin_lss, bin_leq, bin_gtr, bin_geq, bin_eql, bin_neq, un_not, un_neg, qev_callv, qev_new1, qev_store1, qev_nilC, nilC_ptr, qev_fld, fld0, fldN, qev_extract, nth0, nth1, nth2, qev_eqPtr, sameP_nil, notIf, wanted_sv, callA_ok ok63, callA_ok ok64]
    refine AmFn.dos room_code (by simp) (Dos.runRet _ (fun x hx => ?_) e1) (vs := [sv env1 4]) rfl f4
    simp only [List.mem_cons, List.not_mem_nil, or_false] at hx
    rcases hx with q | q <;> subst q
    · exact kt
    · exact ka

theorem dused_fn (a : DkAt κ c h p d V ws) : AmFn Try.prog 61 [.ptr p 0 0] h (int64 d.used) h := by
  have kt := there_fn a
  have l1 := a.l1
  obtain ⟨env1, e1, f⟩ : ∃ env', runS Try.prog true dused_fu.body [⟨63, [.ptr p 0 0], h, .bool true, h⟩] (setArgs .e 0 [.ptr p 0 0]) h = some (.ret, [], env', h) ∧ sv env' 2 = int64 d.used := by
    unfold dused_fu
    simp [dused_0, dused_1, dused_3, runS, runR, Rs.seq, Rs.block, sv_args, runOps, wanted_no, wanted_sv, ev_tm, ev_vl, sv_setD, sv_set, setD_none, qev_mov, qev_bin, qev_un, qev_lenI, qev_pick, qev_load1, qev_idxSl, idx2_sl, idxA2_ptr, opt_some, bin_add, bin_sub, bin_mul, bin_lss, bin_leq, bin_gtr, bin_geq, bin_eql, bin_neq, un_not, un_neg, qev_callv, qev_new1, qev_store1, qev_nilC, nilC_ptr, qev_fld, fld0, fldN, qev_extract, nth0, nth1, nth2, qev_eqPtr, sameP_nil, notIf, wanted_sv, callA_ok ok63, l1]
  exact AmFn.dos dused_code (by simp) (Dos.runRet _ (by intro x hx; simp at hx; subst hx; exact kt) e1) (vs := [sv env1 2]) rfl f

theorem darea_fn (a : DkAt κ c h p d V ws) {n : Int} (hn : n = 0 ∨ n = 1) : ∃ v' h', AmFn Try.prog 62 [.ptr p 0 0, int64 n] h (.tup [v', int64 0]) h' ∧ Held h.next.num h' 1 v' (d.area n).length (byt (d.area n)) ∧ Only [] h h' := by
  have kt := there_fn a
  have ka := area_fn h n
  rw [decide_eq_true hn] at ka
  obtain ⟨va, la, ra⟩ := a.larea hn
  have hb : 0 ≤ n ∧ n < 2 := by omega
  have hc := a.ok.cap
  have hle := area_le a.ok n
  obtain ⟨v', h2, k2, hd, o2⟩ := clb_fn ra (okSize_small' (by omega) (by omega))
  obtain ⟨env1, e1, f4, f5⟩ : ∃ env', runS Try.prog true darea_fu.body [⟨63, [.ptr p 0 0], h, .bool true, h⟩, ⟨64, [int64 n], h, .bool true, h⟩, ⟨58, [va], h, v', h2⟩] (setArgs .e 0 [.ptr p 0 0, int64 n]) h = some (.ret, [], env', h2) ∧ sv env' 4 = v' ∧ sv env' 5 = int64 0 := by
    unfold darea_fu
    simp [darea_0, darea_1, darea_3, darea_5, runS, runR, Rs.seq, Rs.block, sv_args, runOps, wanted_no, wanted_sv, ev_tm, ev_vl, sv_setD, sv_set, setD_none, qev_mov, qev_bin, qev_un, qev_lenI, qev_pick, qev_load1, qev_idxSl, idx2_sl, idxA2_ptr, opt_some, bin_add, bin_sub, bin_mul, bin_lss, bin_leq, bin_gtr, bin_geq, bin_eql, bin_neq, un_not, un_neg, qev_callv, qev_new1, qev_store1, qev_nilC, nilC_ptr, qev_fld, fld0, fldN, qev_extract, nth0, nth1, nth2, qev_eqPtr, sameP_nil, notIf, wanted_sv, callA_ok ok63, callA_ok ok64, callA_ok ok58, la, hb, qev_idxArr, idxA2_ptr]
  refine ⟨v', h2, AmFn.dos darea_code (by simp) (Dos.runRet _ (fun x hx => ?_) e1) (vs := [sv env1 4, sv env1 5]) rfl (by rw [f4, f5]; rfl), hd, o2⟩
  simp only [List.mem_cons, List.not_mem_nil, or_false] at hx
  rcases hx with q | q | q <;> subst q
  · exact kt
  · exact ka
  · exact k2

theorem darea_no (a : DkAt κ c h p d V ws) {n : Int} (hn : ¬ (n = 0 ∨ n = 1)) : AmFn Try.prog 62 [.ptr p 0 0, int64 n] h (.tup [.nilSl, int64 2]) h := by
  have kt := there_fn a
  have ka := area_fn h n
  rw [decide_eq_false hn] at ka
  obtain ⟨env1, e1, f4, f5⟩ : ∃ env', runS Try.prog true darea_fu.body [⟨63, [.ptr p 0 0], h, .bool true, h⟩, ⟨64, [int64 n], h, .bool false, h⟩] (setArgs .e 0 [.ptr p 0 0, int64 n]) h = some (.ret, [], env', h) ∧ sv env' 4 = .nilSl ∧ sv env' 5 = int64 2 := by
    unfold darea_fu
    simp [darea_0, darea_1, darea_3, darea_4, runS, runR, Rs.seq, Rs.block, sv_args, runOps, wanted_no, wanted_sv, ev_tm, ev_vl, sv_setD, sv_set, setD_none, qev_mov, qev_bin, qev_un, qev_lenI, qev_pick, qev_load1, qev_idxSl, idx2_sl, idxA2_ptr, opt_some, bin_add, bin_sub, bin_mul, bin_lss, bin_leq, bin_gtr, bin_geq, bin_eql, bin_neq, un_not, un_neg, qev_callv, qev_new1, qev_store1, qev_nilC, nilC_ptr, qev_fld, fld0, fldN, qev_extract, nth0, nth1, nth2, qev_eqPtr, sameP_nil, notIf, wanted_sv, callA_ok ok63, callA_ok ok64]
  refine AmFn.dos darea_code (by simp) (Dos.runRet _ (fun x hx => ?_) e1) (vs := [sv env1 4, sv env1 5]) rfl (by rw [f4, f5]; rfl)
  simp only [List.mem_cons, List.not_mem_nil, or_false] at hx
  rcases hx with q | q <;> subst q
  · exact kt
  · exact ka

/-- A raw write that was done. -/
theorem dwrite_fn (a : DkAt κ c h p d V ws) {i : Nat} (hi : i < ws.length) (hl : d.ws.length ≤ 100000) (hs : (ws[i]).1.data.length ≤ 1048576) :
    ∃ v' h', AmFn Try.prog 48 [.ptr p 0 0, int64 (i : Nat)] h (.tup [.agg [int64 (ws[i]).1.kind, int64 (ws[i]).1.area, v'], int64 0]) h' ∧ SlN h' 1 v' (ws[i]).1.data.length (byt (ws[i]).1.data) ∧ Only [] h h' := by
  have hwl : ws.length = d.ws.length := by rw [← a.eq, List.length_map]
  have rdat := (a.dat _ (List.getElem_mem hi)).sl
  generalize hx : ws[i] = x at *
  have hat : ∀ y ∈ [int64 x.1.kind, int64 x.1.area, x.2], y.atom = true := fun y hy => by
    simp only [List.mem_cons, List.not_mem_nil, or_false] at hy
    rcases hy with e | e | e <;> subst e
    · rfl
    · rfl
    · exact rdat.atom.1
  have o1 : Only [] h (newH h fun s => .cells s (Cells.ofL [int64 0, int64 0, .nilSl]) 0 0 0 0 false false) := newH_only _ _ _
  have n1 : (newH h fun s => .cells s (Cells.ofL [int64 0, int64 0, .nilSl]) 0 0 0 0 false false).next.num = h.next.num + 1 := newH_next _ _
  have b1 := newH_arr h [int64 0, int64 0, .nilSl]
  have nw := qev_newL Try.prog
  have nwq := fun env => nw env h [int64 0, int64 0, .nilSl]
  have A1 := a.more o1 .refl
  have kt := there_fn A1
  have l7 := A1.l7
  obtain ⟨id, g, cc, e1, e2, e3⟩ := A1.vw.hd.record (i := i) (by omega)
  rw [recs_get ws hi, hx] at e3
  have lenV := A1.vw.hd.sl.lenI (P := Try.prog) (newH h fun s => .cells s (Cells.ofL [int64 0, int64 0, .nilSl]) 0 0 0 0 false false)
  rw [e1] at l7 lenV
  generalize (newH h fun s => .cells s (Cells.ofL [int64 0, int64 0, .nilSl]) 0 0 0 0 false false) = h1 at *
  have ld : ∀ env y, ev env y = .ptr id g (i * 3) → evalOp Try.prog (.loadN 3 y) env h1 = .val (.agg [int64 x.1.kind, int64 x.1.area, x.2]) h1 := fun env y hy => by
    rw [qev_loadN Try.prog hy e2, e3]; rfl
  have o2 : Only [] h1 (newH h1 fun s => .cells s (Cells.ofL [int64 0, int64 0, .nilSl]) 0 0 0 0 false false) := newH_only _ _ _
  have n2 : (newH h1 fun s => .cells s (Cells.ofL [int64 0, int64 0, .nilSl]) 0 0 0 0 false false).next.num = h1.next.num + 1 := newH_next _ _
  have b2 := newH_arr h1 [int64 0, int64 0, .nilSl]
  have b1' := b1.only o2 (by simp)
  obtain ⟨h3, st3, b3, o3, n3⟩ := storeN_arr Try.prog b2 (xs := [int64 x.1.kind, int64 x.1.area, x.2]) rfl (by simp) hat
  simp only [List.length_cons, List.length_nil] at st3
  have n3' := congrArg Pos.num n3
  have b1'' := b1'.only o3 (by simp; exact num_ne (by omega))
  have lx : read1 h3 h1.next 0 2 = some x.2 := b3.one (i := 2) (by simp)
  have o13 : Only [] h1 h3 := ((o2.mono (S' := [h1.next]) (by simp)).trans o3).mono fun id hid => .inr (by simp only [List.mem_singleton] at hid; subst hid; exact Nat.le_refl _)
  obtain ⟨v', h4, k4, hd4, o4⟩ := clb_fn (rdat.more (o1.trans o13)) (okSize_small' hs (by omega))
  have b4 := b3.only o4 (by simp)
  have at4 := hd4.sl.atom
  have pu := storeR_arr b4 (i := 2) (by simp) v' at4.1 at4.2
  have b5 := putA_arr b4 (i := 2) (by simp) v'
  have o5 := putA_only h4 h1.next 2 v'
  have hne : h.next ≠ h1.next := num_ne (by omega)
  have b1''' := (b1''.only o4 (by simp)).only o5 (by simpa using hne)
  have ld5 := b5.whole Try.prog (n := 3) rfl
  obtain ⟨h6, st6, b6, o6, n6⟩ := storeN_arr Try.prog b1''' (xs := [int64 x.1.kind, int64 x.1.area, v']) rfl (by simp) (fun y hy => by
    simp only [List.mem_cons, List.not_mem_nil, or_false] at hy
    rcases hy with e | e | e <;> subst e
    · rfl
    · rfl
    · exact at4.1)
  simp only [List.length_cons, List.length_nil] at st6
  have hq : ¬ (i : Int) < 0 := by omega
  have hq2 : ¬ (d.ws.length : Int) ≤ (i : Int) := by omega
  have hq3 : i < d.ws.length := by omega
  have n4 := o4.next
  obtain ⟨env1, r1, s0, s1, s4⟩ : ∃ env', runS Try.prog true (.seq (.region dwrite_1) (.cond (tm 7) (.seq (.region dwrite_2) .ret) (.seq (.region dwrite_3) (.cond (tm 12) (.seq (.region dwrite_4) .ret) .skip)))) [⟨63, [.ptr p 0 0], h1, .bool true, h1⟩] (setD (setD (setArgs .e 0 [.ptr p 0 0, int64 (i : Nat)]) (some (Pos.ofNat 4)) (.ptr h.next 0 0)) (some (Pos.ofNat 5)) (int64 0)) h1 = some (.upt [], [], env', h1) ∧ sv env' 0 = .ptr p 0 0 ∧ sv env' 1 = int64 (i : Nat) ∧ sv env' 4 = .ptr h.next 0 0 := by
    simp [dwrite_1, dwrite_3, runS, runR, Rs.seq, Rs.block, sv_args, runOps, wanted_no, wanted_sv, ev_tm, ev_vl, sv_setD, sv_set, setD_none, qev_mov, qev_bin, qev_un, qev_lenI, qev_pick, qev_load1, qev_idxSl, idx2_sl, idxA2_ptr, opt_some, bin_add, bin_sub, bin_mul, bin_lss, bin_leq, bin_gtr, bin_geq, bin_eql, bin_neq, un_not, un_neg, qev_callv, qev_new1, qev_store1, qev_nilC, nilC_ptr, qev_fld, fld0, fldN, qev_extract, nth0, nth1, nth2, qev_eqPtr, sameP_nil, notIf, wanted_sv, callA_ok ok63, l7, lenV, hq, hq2, hq3]
  obtain ⟨env2, r2, t4, t6⟩ : ∃ env', runOps Try.prog dwrite_5 env1 h1 = some (env', h3) ∧ sv env' 4 = .ptr h.next 0 0 ∧ sv env' 6 = .ptr h1.next 0 0 := by
    simp [dwrite_5, runOps, wanted_no, wanted_sv, ev_tm, ev_vl, sv_setD, sv_set, setD_none, qev_mov, qev_bin, qev_un, qev_lenI, qev_pick, qev_load1, qev_idxSl, idx2_sl, idxA2_ptr, opt_some, bin_add, bin_sub, bin_mul, bin_lss, bin_leq, bin_gtr, bin_geq, bin_eql, bin_neq, un_not, un_neg, qev_callv, qev_new1, qev_store1, qev_nilC, nilC_ptr, qev_fld, fld0, fldN, qev_extract, nth0, nth1, nth2, qev_eqPtr, sameP_nil, notIf, s0, s1, s4, l7, hq3, ld, nw, st3]
  obtain ⟨env3, r3, u4, u5⟩ : ∃ env', runS Try.prog true (.seq (.region dwrite_6) (.seq (.region dwrite_7) .ret)) [⟨58, [x.2], h3, v', h4⟩] env2 h3 = some (.ret, [], env', h6) ∧ sv env' 4 = .ptr h.next 0 0 ∧ sv env' 5 = int64 0 := by
    have hset : [int64 x.1.kind, int64 x.1.area, x.2].set 2 v' = [int64 x.1.kind, int64 x.1.area, v'] := rfl
    rw [hset] at ld5
    simp [dwrite_6, dwrite_7, runS, runR, Rs.seq, Rs.block, runOps, wanted_no, wanted_sv, ev_tm, ev_vl, sv_setD, sv_set, setD_none, qev_mov, qev_bin, qev_un, qev_lenI, qev_pick, qev_load1, qev_idxSl, idx2_sl, idxA2_ptr, opt_some, bin_add, bin_sub, bin_mul, bin_lss, bin_leq, bin_gtr, bin_geq, bin_eql, bin_neq, un_not, un_neg, qev_callv, qev_new1, qev_store1, qev_nilC, nilC_ptr, qev_fld, fld0, fldN, qev_extract, nth0, nth1, nth2, qev_eqPtr, sameP_nil, notIf, callA_ok ok58, t4, t6, lx, pu, ld5, st6]
  obtain ⟨cc', c1', _, c3'⟩ := b6.row.all
  have res : result1 env3 h6 (.cellN (Pos.ofNat 4) 3) = some (.agg [int64 x.1.kind, int64 x.1.area, v']) := by
    show (match ev env3 (.tmp (Pos.ofNat 4)) with | .ptr id g off => (match readN h6 id g off 3 with | some c => some (AV.agg c.toL) | none => none) | _ => none) = _
    rw [ev_tm, u4]
    have c1'' : readN h6 h.next 0 0 3 = some cc' := c1'
    simp only [c1'', c3']
  have rd0 : runOps Try.prog dwrite_0 (setArgs .e 0 [.ptr p 0 0, int64 (i : Nat)]) h = some (setD (setD (setArgs .e 0 [.ptr p 0 0, int64 (i : Nat)]) (some (Pos.ofNat 4)) (.ptr h.next 0 0)) (some (Pos.ofNat 5)) (int64 0), h1) := by
    simp [dwrite_0, runOps, wanted_no, ev_tm, ev_vl, qev_mov, nwq]
  refine ⟨v', h6, AmFn.dos dwrite_code (by simp) (Dos.seq (M := []) (M1 := []) (Dos.region rd0) (Dos.seq (M := []) (M1 := []) (Dos.block (i := 0) (o := .go) (Dos.runGo _ (by intro z hz; simp at hz; subst hz; exact kt) r1)) (Dos.seq (M := []) (M1 := []) (Dos.region r2) (Dos.runRet _ (by intro z hz; simp at hz; subst hz; exact k4) r3)))) (vs := [AV.agg [int64 x.1.kind, int64 x.1.area, v'], int64 0]) ?_ rfl, ?_, ?_⟩
  · show mapO (result1 env3 h6) [.cellN (Pos.ofNat 4) 3, .tmp (Pos.ofNat 5)] = _
    have r5 : result1 env3 h6 (.tmp (Pos.ofNat 5)) = some (int64 0) := by show some (ev env3 (.tmp (Pos.ofNat 5))) = _; rw [ev_tm, u5]
    simp [mapO, res, r5]
  · have hin : ∀ id, InN 1 v' id → id ≠ h1.next ∧ id ≠ h.next := fun id q => by
      have := (hd4.old q).1
      exact ⟨num_ne (by omega), num_ne (by omega)⟩
    exact (hd4.sl.only o5 (fun id q => by simpa using (hin id q).1)).only o6 (fun id q => by simpa using (hin id q).2)
  · have := (((o1.trans o13).trans o4).mono (S' := [h1.next, h.next]) (by simp)).trans ((o5.mono (S' := [h1.next, h.next]) (by simp)).trans (o6.mono (S' := [h1.next, h.next]) (by simp)))
    exact this.mono fun id hid => .inr (by simp only [List.mem_cons, List.not_mem_nil, or_false] at hid; rcases hid with e | e <;> subst e <;> omega)
end
end Go.Proofs.Ytmifpiglcphmoaa.DPlays
