import Derived.Test.YtmifpiglcphmoaaDPlaysE
/- THE WALK'S PARTS, part F: what the functions of the law compute, over the abstract machine that stands beside this text. No condition. -/
set_option linter.unusedSimpArgs false
set_option linter.unusedVariables false
namespace Go.Proofs.Ytmifpiglcphmoaa.DPlays
open Go Go.Proofs.Ytmifpiglcphmoaa.Am Go.Proofs

section
variable {κ : Pos → Nat} {c : Nat} {h h0 : Hp} {p q : Pos} {d : Dk} {V : Vs} {ws : List (Wr × AV)} {n : Nat}

/-- What a change of new memory alone comes to. -/
theorem Chg.later {κ : Pos → Nat} {K : Nat → Prop} {h0 h h' : Hp} (a : Chg κ K h h') (o : Only [] h0 h) (old : ∀ id, id.num < h0.next.num → ¬ K (κ id)) : Only [] h0 h' := by
  obtain ⟨S, oS, hS⟩ := a
  refine ((o.mono (S' := S) (by simp)).trans oS).mono fun id hid => .inr ?_
  rcases Nat.lt_or_ge id.num h0.next.num with e | e
  · exact absurd (hS id hid (by have := o.next; omega)) (old id e)
  · exact e

/-- The document's cut: a raw write is done again. -/
theorem rcut_loop (a : RkAt κ c h0 p d V ws) (m : Made d) (hl : d.ws.length ≤ 100000) (hn : n ≤ d.ws.length) : ∀ (r i : Nat) (env : T AV) (κi : Pos → Nat) (h : Hp) (Vi : Vs) (wsi : List (Wr × AV)), i + r = n → RkAt κi 1 h q (d.cut i) Vi wsi → (∀ id, id.num < h0.next.num → κi id = 0) → Only [] h0 h →
    sv env 0 = .ptr p 0 0 → sv env 1 = int64 (n : Nat) → sv env 6 = .ptr q 0 0 → sv env 8 = int64 (i : Nat) →
    ∃ env' κ' h' V' ws', Loops Try.prog 77 rcut_12 env h (.exit 0) [] env' h' ∧ RkAt κ' 1 h' q (d.cut n) V' ws' ∧ (∀ id, id.num < h0.next.num → κ' id = 0) ∧ Only [] h0 h' ∧ sv env' 6 = .ptr q 0 0
  | 0, i, env, κi, h, Vi, wsi, hi, A, old, o, s0, s1, s6, s8 => by
    have hi' : ¬ (i : Int) < (n : Int) := by omega
    obtain ⟨env1, e1, f6⟩ : ∃ env', runS Try.prog true rcut_12 [] env h = some (.exit 0, [], env', h) ∧ sv env' 6 = .ptr q 0 0 := by
      unfold rcut_12
      simp [rcut_7, runS, runR, Rs.seq, Rs.block, runOps, wanted_no, wanted_sv, ev_tm, ev_vl, sv_setD, sv_set, setD_none, qev_mov, qev_bin, qev_un, qev_lenI, qev_pick, qev_load1, qev_idxSl, idx2_sl, idxA2_ptr, opt_some, bin_add, bin_sub, bin_mul, bin_lss, bin_leq, bin_gtr, bin_geq, bin_eql, bin_neq, un_not, un_neg, qev_callv, qev_new1, qev_store1, qev_nilC, nilC_ptr, qev_fld, fld0, fldN, qev_extract, nth0, nth1, nth2, qev_eqPtr, sameP_nil, notIf, s1, s6, s8, hi']
    have e : i = n := by omega
    subst e
    exact ⟨env1, κi, h, Vi, wsi, Loops.out (Dos.runExit [] (by simp) e1) (by simp), A, old, o, f6⟩
  | r + 1, i, env, κi, h, Vi, wsi, hi, A, old, o, s0, s1, s6, s8 => by
    have hwl : ws.length = d.ws.length := by rw [← a.eq, List.length_map]
    have hiw : i < ws.length := by omega
    have hid : i < d.ws.length := by omega
    have D := a.more o .refl
    have ewi : ws[i].1 = d.ws[i] := by
      have : (ws.map Prod.fst)[i]? = d.ws[i]? := by rw [a.eq]
      rw [List.getElem?_map, List.getElem?_eq_getElem hiw, List.getElem?_eq_getElem hid] at this
      exact Option.some.inj this
    have hok : (ws[i].1).Ok (d.cut i) := by rw [ewi]; exact m.hist.each i _ (List.getElem?_eq_getElem hid)
    have rdat := (D.dat _ (List.getElem_mem hiw)).sl
    have l7 := D.l7
    obtain ⟨id, g, cc, e1, e2, e3⟩ := D.vw.hd.record (i := i) (by omega)
    rw [recs_get ws hiw] at e3
    rw [e1] at l7
    have ecut : (d.cut i).put ws[i].1 = d.cut (i + 1) := by rw [cut_succ hid, ewi]
    generalize hx : ws[i] = x at *
    have hat : ∀ y ∈ [int64 x.1.kind, int64 x.1.area, x.2], y.atom = true := fun y hy => by
      simp only [List.mem_cons, List.not_mem_nil, or_false] at hy
      rcases hy with e | e | e <;> subst e
      · rfl
      · rfl
      · exact rdat.atom.1
    have ld : ∀ env y, ev env y = .ptr id g (i * 3) → evalOp Try.prog (.loadN 3 y) env h = .val (.agg [int64 x.1.kind, int64 x.1.area, x.2]) h := fun env y hy => by
      rw [qev_loadN Try.prog hy e2, e3]; rfl
    have nw := fun env => qev_newL Try.prog env h [int64 0, int64 0, .nilSl]
    have o1 : Only [] h (newH h fun s => .cells s (Cells.ofL [int64 0, int64 0, .nilSl]) 0 0 0 0 false false) := newH_only _ _ _
    have n1 : (newH h fun s => .cells s (Cells.ofL [int64 0, int64 0, .nilSl]) 0 0 0 0 false false).next.num = h.next.num + 1 := newH_next _ _
    have b1 := newH_arr h [int64 0, int64 0, .nilSl]
    obtain ⟨h2, st2, b2, o2, n2⟩ := storeN_arr Try.prog b1 (xs := [int64 x.1.kind, int64 x.1.area, x.2]) rfl (by simp) hat
    simp only [List.length_cons, List.length_nil] at st2
    have n2' := congrArg Pos.num n2
    have o12 : Only [] h h2 := ((o1.mono (S' := [h.next]) (by simp)).trans o2).mono fun id hid => .inr (by simp only [List.mem_singleton] at hid; subst hid; exact Nat.le_refl _)
    have lx : read1 h2 h.next 0 2 = some x.2 := b2.one (i := 2) (by simp)
    obtain ⟨v', h3, k3, hd3, o3⟩ := rcopy_fn (rdat.more o12) (okSize_small' hok.size (by omega))
    have b3 := b2.only o3 (by simp)
    have at3 := hd3.sl.atom
    have pu := storeR_arr b3 (i := 2) (by simp) v' at3.1 at3.2
    have b4 := putA_arr b3 (i := 2) (by simp) v'
    have o4 := putA_only h3 h.next 2 v'
    have hset : [int64 x.1.kind, int64 x.1.area, x.2].set 2 v' = [int64 x.1.kind, int64 x.1.area, v'] := rfl
    rw [hset] at b4
    have ld4 := b4.whole Try.prog (n := 3) rfl
    have oZ : Only [] h (putA h3 h.next 2 v') := (((o12.trans o3).mono (S' := [h.next]) (by simp)).trans o4).mono fun id hid => .inr (by simp only [List.mem_singleton] at hid; subst hid; exact Nat.le_refl _)
    have hd4 := hd3.only o4 (fun id q => by have := (hd3.old q).1; simp only [List.mem_singleton]; exact num_ne (by omega))
    have n4 : (putA h3 h.next 2 v').next = h3.next := rfl
    generalize putA h3 h.next 2 v' = h4 at *
    have g4 := newK'_agr κi h 5
    have k5 : ∀ id, h.next.num ≤ id.num → newK' κi h 5 id = 5 := fun id q => newK'_new κi 5 q
    have A4 := A.more oZ g4
    have old4 : ∀ id, id.num < h0.next.num → newK' κi h 5 id = 0 := fun id q => (g4 id (by have := o.next; omega)).trans (old id q)
    generalize newK' κi h 5 = κ4 at *
    have kd : KSl κ4 (1 + 4) h4 1 v' x.1.data.length (byt x.1.data) := ⟨hd4.sl, fun id q => ⟨k5 id (by have := (hd4.old q).1; omega), (hd4.old q).2⟩⟩
    have hlen : (d.cut i).ws.length ≤ 100000 := by rw [(cut_fix d i).2.2.2.2, List.length_take]; omega
    obtain ⟨κ6, h6, V6, k6, g6, ch6, A6⟩ := rdo_fn A4 hok kd hlen
    have oh4 := o.trans oZ
    have o6 : Only [] h0 h6 := Chg.later ch6 oh4 fun id q => by rw [old4 id q]; unfold Wk; omega
    have hi' : (i : Int) < (n : Int) := by omega
    have w1 : wrapA .i64 ((i : Int) + 1) = ((i + 1 : Nat) : Int) := by rw [wrap64 (by omega) (by omega)]; omega
    obtain ⟨env1, r1, f0, f1, f6, f8⟩ : ∃ env', runS Try.prog true rcut_12 [⟨70, [x.2], h2, v', h3⟩, ⟨87, [.ptr q 0 0, .agg [int64 x.1.kind, int64 x.1.area, v']], h4, .tup [], h6⟩] env h = some (.upt [], [], env', h6) ∧ sv env' 0 = .ptr p 0 0 ∧ sv env' 1 = int64 (n : Nat) ∧ sv env' 6 = .ptr q 0 0 ∧ sv env' 8 = int64 (i + 1 : Nat) := by
      unfold rcut_12
      simp [rcut_7, rcut_8, rcut_9, rcut_10, rcut_11, runS, runR, Rs.seq, Rs.block, runOps, wanted_no, wanted_sv, ev_tm, ev_vl, sv_setD, sv_set, setD_none, qev_mov, qev_bin, qev_un, qev_lenI, qev_pick, qev_load1, qev_idxSl, idx2_sl, idxA2_ptr, opt_some, bin_add, bin_sub, bin_mul, bin_lss, bin_leq, bin_gtr, bin_geq, bin_eql, bin_neq, un_not, un_neg, qev_callv, qev_new1, qev_store1, qev_nilC, nilC_ptr, qev_fld, fld0, fldN, qev_extract, nth0, nth1, nth2, qev_eqPtr, sameP_nil, notIf, callA_ok ok70, callA_ok ok87, s0, s1, s6, s8, hi', hid, l7, ld, nw, st2, lx, pu, ld4, w1]
    rw [ecut] at A6
    obtain ⟨env2, κ', h', V', ws', L, A', old', o', f⟩ := rcut_loop a m hl hn r (i + 1) env1 κ6 h6 V6 _ (by omega) A6 (fun id q => (g6 id (by have := oh4.next; omega)).trans (old4 id q)) o6 f0 f1 f6 f8
    refine ⟨env2, κ', h', V', ws', Loops.more (M := []) (M1 := []) (Dos.runGo _ (fun z hz => ?_) r1) L, A', old', o', f⟩
    simp only [List.mem_cons, List.not_mem_nil, or_false] at hz
    rcases hz with e | e <;> subst e
    · exact k3
    · exact k6

theorem rofE_ok {d : Dk} (a : d.Ok) : ofE d.cap d.fr d.f0 d.f1 = 0 := ofE_ok a

/-- The document's cut. -/
theorem rcut_fn (a : RkAt κ c h p d V ws) (m : Made d) (hl : d.ws.length ≤ 100000) (hn : n ≤ d.ws.length) (κ0 : Pos → Nat) (c' : Nat) :
    ∃ κ' h' V' ws' q, AmFn Try.prog 77 [.ptr p 0 0, int64 (n : Nat)] h (.tup [.ptr q 0 0, int64 0]) h' ∧ Agr h κ0 κ' ∧ Only [] h h' ∧ RkAt κ' c' h' q (d.cut n) V' ws' ∧ h.next.num ≤ q.num := by
  have l0 := a.l0
  have l2 := a.l2
  have l5 := a.l5
  have l6 := a.l6
  have l7 := a.l7
  have lw := a.vw.hd.sl.lenI (P := Try.prog) h
  have hq : ¬ (n : Int) < 0 := by omega
  have hq2 : ¬ (d.ws.length : Int) < (n : Int) := by omega
  have hq3 : ¬ d.ws.length < n := by omega
  obtain ⟨env1, e1, s0, s1⟩ : ∃ env', runS Try.prog false rcut_fu.body [] (setArgs .e 0 [.ptr p 0 0, int64 (n : Nat)]) h = some (.upt [.code (.drawn rcut_5), .code (.seq (.seq (.region rcut_6) (.block 0 (.loop rcut_12))) (.seq (.region rcut_13) .ret))], [], env', h) ∧ sv env' 0 = .ptr p 0 0 ∧ sv env' 1 = int64 (n : Nat) := by
    unfold rcut_fu
    simp [rcut_0, rcut_1, rcut_3, runS, runR, Rs.seq, Rs.block, sv_args, runOps, wanted_no, wanted_sv, ev_tm, ev_vl, sv_setD, sv_set, setD_none, qev_mov, qev_bin, qev_un, qev_lenI, qev_pick, qev_load1, qev_idxSl, idx2_sl, idxA2_ptr, opt_some, bin_add, bin_sub, bin_mul, bin_lss, bin_leq, bin_gtr, bin_geq, bin_eql, bin_neq, un_not, un_neg, qev_callv, qev_new1, qev_store1, qev_nilC, nilC_ptr, qev_fld, fld0, fldN, qev_extract, nth0, nth1, nth2, qev_eqPtr, sameP_nil, notIf, wanted_sv, l7, lw, hq, hq2, hq3]
  obtain ⟨κ2, h2, V2, q, k2, g2, o2, A2, hq0⟩ := rof_yes (fun _ => 0) 1 a.f0.sl a.f1.sl (ofE_ok a.ok)
  have hsound := recG_sound (P := Try.prog) (A := [⟨44, [int64 d.cap, int64 d.fr, V.f0, V.f1], h, .tup [.ptr q 0 0, int64 0], h2⟩]) (by
    intro k hk
    simp only [List.mem_cons, List.not_mem_nil, or_false] at hk
    subst hk
    exact k2)
  have R1 := recG_hit (P := Try.prog) 44 [int64 d.cap, int64 d.fr, V.f0, V.f1] h (.tup [.ptr q 0 0, int64 0]) h2 []
  have bg := k2.begins.1
  generalize recG Try.prog [⟨44, [int64 d.cap, int64 d.fr, V.f0, V.f1], h, .tup [.ptr q 0 0, int64 0], h2⟩] = R at *
  have hz : ∀ hh : Hp, (⟨hh.heap, hh.next, hh.ser, hh.lim⟩ : Hp) = hh := fun _ => rfl
  obtain ⟨env2, acts, lds, e2, t0, t1, t6⟩ : ∃ env' acts lds, runD Try.prog R 0 rcut_5 ⟨[], [], [], h.next, env1, h⟩ = some ⟨acts, lds, [], h.next, env', h2⟩ ∧ sv env' 0 = .ptr p 0 0 ∧ sv env' 1 = int64 (n : Nat) ∧ sv env' 6 = .ptr q 0 0 := by
    simp [rcut_5, runD, stepD, actO, kindOf, lookBack, lookAgain, putT, remAl, insT, bit, wanted_no, ev_tm, ev_vl, sv_setD, setD_none, qev_mov, opt_some, qev_load1, qev_nilC, nilC_ptr, qev_fld, fld0, fldN, qev_idxArr, idxA2_ptr, qev_callv, callA_ok ok44, qev_extract, nth0, nth1, s0, s1, l0, l2, l5, l6, bg, R1, hz,
      show Nat.testBit 262143 3 = true from by decide, show Nat.testBit 262143 7 = true from by decide, show Nat.testBit 262143 12 = true from by decide, show Nat.testBit 262143 17 = true from by decide]
  have d2 := runDrawn_of (acts := acts) (lds := lds) (by simp [rcut_5, skipIds, isAlloc, kindOf]) e2
  obtain ⟨env3, e3, u0, u1, u6, u8⟩ : ∃ env', runOps Try.prog rcut_6 env2 h2 = some (env', h2) ∧ sv env' 0 = .ptr p 0 0 ∧ sv env' 1 = int64 (n : Nat) ∧ sv env' 6 = .ptr q 0 0 ∧ sv env' 8 = int64 ((0 : Nat) : Int) := by
    simp [rcut_6, runOps, wanted_no, wanted_sv, ev_tm, ev_vl, sv_setD, sv_set, setD_none, qev_mov, qev_bin, qev_un, qev_lenI, qev_pick, qev_load1, qev_idxSl, idx2_sl, idxA2_ptr, opt_some, bin_add, bin_sub, bin_mul, bin_lss, bin_leq, bin_gtr, bin_geq, bin_eql, bin_neq, un_not, un_neg, qev_callv, qev_new1, qev_store1, qev_nilC, nilC_ptr, qev_fld, fld0, fldN, qev_extract, nth0, nth1, nth2, qev_eqPtr, sameP_nil, notIf, t0, t1, t6]
  have A2' : RkAt κ2 1 h2 q (d.cut 0) V2 [] := A2
  obtain ⟨env4, κ4, h4, V4, ws4, L, A4, old4, o4, f6⟩ := rcut_loop a m hl hn n 0 env3 κ2 h2 V2 [] (by omega) A2' (fun id q => g2 id q) o2 u0 u1 u6 u8
  obtain ⟨env5, e5, f4, f5⟩ : ∃ env', runS Try.prog true (.seq (.region rcut_13) .ret) [] env4 h4 = some (.ret, [], env', h4) ∧ sv env' 4 = .ptr q 0 0 ∧ sv env' 5 = int64 0 := by
    simp [rcut_13, runS, runR, Rs.seq, Rs.block, runOps, wanted_no, wanted_sv, ev_tm, ev_vl, sv_setD, sv_set, setD_none, qev_mov, qev_bin, qev_un, qev_lenI, qev_pick, qev_load1, qev_idxSl, idx2_sl, idxA2_ptr, opt_some, bin_add, bin_sub, bin_mul, bin_lss, bin_leq, bin_gtr, bin_geq, bin_eql, bin_neq, un_not, un_neg, qev_callv, qev_new1, qev_store1, qev_nilC, nilC_ptr, qev_fld, fld0, fldN, qev_extract, nth0, nth1, nth2, qev_eqPtr, sameP_nil, notIf, f6]
  refine ⟨fun id => if id.num < h.next.num then κ0 id else c' + (κ4 id - 1), h4, V4, ws4, q, AmFn.dos rcut_code (by simp) (Dos.run (M := []) [] (by simp) e1 (DosL.more (M := []) (M1 := []) (Dos.drawn hsound d2) (DosL.ret (Dos.seq (M := []) (M1 := []) (Dos.seq (M := []) (M1 := []) (Dos.region e3) (Dos.block (i := 0) (o := .exit 0) (Dos.loop L))) (Dos.runRet [] (by simp) e5))))) (vs := [sv env5 4, sv env5 5]) rfl (by rw [f4, f5]; rfl), fun id q => if_pos q, o4, ?_, hq0⟩
  refine A4.rekind fun id k e hk hid => ?_
  have : ¬ id.num < h.next.num := fun q => by
    have := old4 id q
    omega
  show (if id.num < h.next.num then κ0 id else c' + (κ4 id - 1)) = c' + k
  rw [if_neg this, e]
  omega

theorem rcut_no (a : RkAt κ c h p d V ws) {n : Int} (hn : n < 0 ∨ (d.ws.length : Int) < n) : AmFn Try.prog 77 [.ptr p 0 0, int64 n] h (.tup [.nilPtr, int64 2]) h := by
  have l7 := a.l7
  have lw := a.vw.hd.sl.lenI (P := Try.prog) h
  obtain ⟨env1, e1, f4, f5⟩ : ∃ env', runS Try.prog true rcut_fu.body [] (setArgs .e 0 [.ptr p 0 0, int64 n]) h = some (.ret, [], env', h) ∧ sv env' 4 = .nilPtr ∧ sv env' 5 = int64 2 := by
    unfold rcut_fu
    by_cases h0 : n < 0
    · simp [rcut_0, rcut_1, rcut_3, rcut_4, runS, runR, Rs.seq, Rs.block, sv_args, runOps, wanted_no, wanted_sv, ev_tm, ev_vl, sv_setD, sv_set, setD_none, qev_mov, qev_bin, qev_un, qev_lenI, qev_pick, qev_load1, qev_idxSl, idx2_sl, idxA2_ptr, opt_some, bin_add, bin_sub, bin_mul, bin_lss, bin_leq, bin_gtr, bin_geq, bin_eql, bin_neq, un_not, un_neg, qev_callv, qev_new1, qev_store1, qev_nilC, nilC_ptr, qev_fld, fld0, fldN, qev_extract, nth0, nth1, nth2, qev_eqPtr, sameP_nil, notIf, wanted_sv, l7, lw, h0]
    · have h1 : (d.ws.length : Int) < n := by omega
      simp [rcut_0, rcut_1, rcut_3, rcut_4, runS, runR, Rs.seq, Rs.block, sv_args, runOps, wanted_no, wanted_sv, ev_tm, ev_vl, sv_setD, sv_set, setD_none, qev_mov, qev_bin, qev_un, qev_lenI, qev_pick, qev_load1, qev_idxSl, idx2_sl, idxA2_ptr, opt_some, bin_add, bin_sub, bin_mul, bin_lss, bin_leq, bin_gtr, bin_geq, bin_eql, bin_neq, un_not, un_neg, qev_callv, qev_new1, qev_store1, qev_nilC, nilC_ptr, qev_fld, fld0, fldN, qev_extract, nth0, nth1, nth2, qev_eqPtr, sameP_nil, notIf, wanted_sv, l7, lw, h0, h1]
  exact AmFn.dos rcut_code (by simp) (Dos.runRet [] (by simp) e1) (vs := [sv env1 4, sv env1 5]) rfl (by rw [f4, f5]; rfl)
end

section
variable {κ : Pos → Nat} {c : Nat} {h : Hp} {p : Pos} {d : Dk} {V : Vs} {ws : List (Wr × AV)}

/-- A copy. -/
theorem dcopy_fn (a : DkAt κ c h p d V ws) (m : Made d) (hl : d.ws.length ≤ 100000) (κ0 : Pos → Nat) (c' : Nat) :
    ∃ κ' h' V' ws' q, AmFn Try.prog 72 [.ptr p 0 0] h (.ptr q 0 0) h' ∧ Agr h κ0 κ' ∧ Only [] h h' ∧ DkAt κ' c' h' q d V' ws' ∧ h.next.num ≤ q.num := by
  have kw := writes_fn a
  obtain ⟨κ', h', V', ws', q, k, g, o, A, hq⟩ := cut_fn a m hl (Nat.le_refl _) κ0 c'
  rw [cut_all m] at A
  obtain ⟨env1, e1, f⟩ : ∃ env', runS Try.prog true dcopy_fu.body [⟨42, [.ptr p 0 0], h, int64 (d.ws.length : Nat), h⟩, ⟨40, [.ptr p 0 0, int64 (d.ws.length : Nat)], h, .tup [.ptr q 0 0, int64 0], h'⟩] (setArgs .e 0 [.ptr p 0 0]) h = some (.ret, [], env', h') ∧ sv env' 2 = .ptr q 0 0 := by
    unfold dcopy_fu
    simp [dcopy_0, dcopy_1, dcopy_2, runS, runR, Rs.seq, Rs.block, sv_args, runOps, wanted_no, wanted_sv, ev_tm, ev_vl, sv_setD, sv_set, setD_none, qev_mov, qev_bin, qev_un, qev_lenI, qev_pick, qev_load1, qev_idxSl, idx2_sl, idxA2_ptr, opt_some, bin_add, bin_sub, bin_mul, bin_lss, bin_leq, bin_gtr, bin_geq, bin_eql, bin_neq, un_not, un_neg, qev_callv, qev_new1, qev_store1, qev_nilC, nilC_ptr, qev_fld, fld0, fldN, qev_extract, nth0, nth1, nth2, qev_eqPtr, sameP_nil, notIf, callA_ok ok42, callA_ok ok40]
  refine ⟨κ', h', V', ws', q, AmFn.dos dcopy_code (by simp) (Dos.runRet _ (fun z hz => ?_) e1) (vs := [sv env1 2]) rfl f, g, o, A, hq⟩
  simp only [List.mem_cons, List.not_mem_nil, or_false] at hz
  rcases hz with e | e <;> subst e
  · exact kw
  · exact k

/-! ### A disk that is not there -/

theorem room_nil (h : Hp) (n : Int) : AmFn Try.prog 60 [.nilPtr, int64 n] h (int64 0) h := by
  obtain ⟨env1, e1, f⟩ : ∃ env', runS Try.prog true room_fu.body [⟨63, [.nilPtr], h, .bool false, h⟩] (setArgs .e 0 [.nilPtr, int64 n]) h = some (.ret, [], env', h) ∧ sv env' 4 = int64 0 := by
    unfold room_fu
    simp [room_0, room_1, room_2, runS, runR, Rs.seq, Rs.block, sv_args, runOps, wanted_no, wanted_sv, ev_tm, ev_vl, sv_setD, sv_set, setD_none, qev_mov, qev_bin, qev_un, qev_lenI, qev_pick, qev_load1, qev_idxSl, idx2_sl, idxA2_ptr, opt_some, bin_add, bin_sub, bin_mul, bin_lss, bin_leq, bin_gtr, bin_geq, bin_eql, bin_neq, un_not, un_neg, qev_callv, qev_new1, qev_store1, qev_nilC, nilC_ptr, qev_fld, fld0, fldN, qev_extract, nth0, nth1, nth2, qev_eqPtr, sameP_nil, notIf, wanted_sv, callA_ok ok63]
  exact AmFn.dos room_code (by simp) (Dos.runRet _ (by intro x hx; simp at hx; subst hx; exact there_nil h) e1) (vs := [sv env1 4]) rfl f

theorem dused_nil (h : Hp) : AmFn Try.prog 61 [.nilPtr] h (int64 0) h := by
  obtain ⟨env1, e1, f⟩ : ∃ env', runS Try.prog true dused_fu.body [⟨63, [.nilPtr], h, .bool false, h⟩] (setArgs .e 0 [.nilPtr]) h = some (.ret, [], env', h) ∧ sv env' 2 = int64 0 := by
    unfold dused_fu
    simp [dused_0, dused_1, dused_2, runS, runR, Rs.seq, Rs.block, sv_args, runOps, wanted_no, wanted_sv, ev_tm, ev_vl, sv_setD, sv_set, setD_none, qev_mov, qev_bin, qev_un, qev_lenI, qev_pick, qev_load1, qev_idxSl, idx2_sl, idxA2_ptr, opt_some, bin_add, bin_sub, bin_mul, bin_lss, bin_leq, bin_gtr, bin_geq, bin_eql, bin_neq, un_not, un_neg, qev_callv, qev_new1, qev_store1, qev_nilC, nilC_ptr, qev_fld, fld0, fldN, qev_extract, nth0, nth1, nth2, qev_eqPtr, sameP_nil, notIf, wanted_sv, callA_ok ok63]
  exact AmFn.dos dused_code (by simp) (Dos.runRet _ (by intro x hx; simp at hx; subst hx; exact there_nil h) e1) (vs := [sv env1 2]) rfl f

theorem writes_nil (h : Hp) : AmFn Try.prog 42 [.nilPtr] h (int64 0) h := by
  obtain ⟨env1, e1, f⟩ : ∃ env', runS Try.prog true writes_fu.body [⟨63, [.nilPtr], h, .bool false, h⟩] (setArgs .e 0 [.nilPtr]) h = some (.ret, [], env', h) ∧ sv env' 2 = int64 0 := by
    unfold writes_fu
    simp [writes_0, writes_1, writes_2, runS, runR, Rs.seq, Rs.block, sv_args, runOps, wanted_no, wanted_sv, ev_tm, ev_vl, sv_setD, sv_set, setD_none, qev_mov, qev_bin, qev_un, qev_lenI, qev_pick, qev_load1, qev_idxSl, idx2_sl, idxA2_ptr, opt_some, bin_add, bin_sub, bin_mul, bin_lss, bin_leq, bin_gtr, bin_geq, bin_eql, bin_neq, un_not, un_neg, qev_callv, qev_new1, qev_store1, qev_nilC, nilC_ptr, qev_fld, fld0, fldN, qev_extract, nth0, nth1, nth2, qev_eqPtr, sameP_nil, notIf, wanted_sv, callA_ok ok63]
  exact AmFn.dos writes_code (by simp) (Dos.runRet _ (by intro x hx; simp at hx; subst hx; exact there_nil h) e1) (vs := [sv env1 2]) rfl f

theorem darea_nil (h : Hp) (n : Int) : AmFn Try.prog 62 [.nilPtr, int64 n] h (.tup [.nilSl, int64 1]) h := by
  obtain ⟨env1, e1, f4, f5⟩ : ∃ env', runS Try.prog true darea_fu.body [⟨63, [.nilPtr], h, .bool false, h⟩] (setArgs .e 0 [.nilPtr, int64 n]) h = some (.ret, [], env', h) ∧ sv env' 4 = .nilSl ∧ sv env' 5 = int64 1 := by
    unfold darea_fu
    simp [darea_0, darea_1, darea_2, runS, runR, Rs.seq, Rs.block, sv_args, runOps, wanted_no, wanted_sv, ev_tm, ev_vl, sv_setD, sv_set, setD_none, qev_mov, qev_bin, qev_un, qev_lenI, qev_pick, qev_load1, qev_idxSl, idx2_sl, idxA2_ptr, opt_some, bin_add, bin_sub, bin_mul, bin_lss, bin_leq, bin_gtr, bin_geq, bin_eql, bin_neq, un_not, un_neg, qev_callv, qev_new1, qev_store1, qev_nilC, nilC_ptr, qev_fld, fld0, fldN, qev_extract, nth0, nth1, nth2, qev_eqPtr, sameP_nil, notIf, wanted_sv, callA_ok ok63]
  exact AmFn.dos darea_code (by simp) (Dos.runRet _ (by intro x hx; simp at hx; subst hx; exact there_nil h) e1) (vs := [sv env1 4, sv env1 5]) rfl (by rw [f4, f5]; rfl)

theorem dlay_nil (h : Hp) (n : Int) (v : AV) : AmFn Try.prog 36 [.nilPtr, int64 n, v] h (int64 1) h := by
  obtain ⟨env1, e1, f⟩ : ∃ env', runS Try.prog true dlay_fu.body [⟨63, [.nilPtr], h, .bool false, h⟩] (setArgs .e 0 [.nilPtr, int64 n, v]) h = some (.ret, [], env', h) ∧ sv env' 6 = int64 1 := by
    unfold dlay_fu
    simp [dlay_0, dlay_1, dlay_2, runS, runR, Rs.seq, Rs.block, sv_args, runOps, wanted_no, wanted_sv, ev_tm, ev_vl, sv_setD, sv_set, setD_none, qev_mov, qev_bin, qev_un, qev_lenI, qev_pick, qev_load1, qev_idxSl, idx2_sl, idxA2_ptr, opt_some, bin_add, bin_sub, bin_mul, bin_lss, bin_leq, bin_gtr, bin_geq, bin_eql, bin_neq, un_not, un_neg, qev_callv, qev_new1, qev_store1, qev_nilC, nilC_ptr, qev_fld, fld0, fldN, qev_extract, nth0, nth1, nth2, qev_eqPtr, sameP_nil, notIf, wanted_sv, callA_ok ok63]
  exact AmFn.dos dlay_code (by simp) (Dos.runRet _ (by intro x hx; simp at hx; subst hx; exact there_nil h) e1) (vs := [sv env1 6]) rfl f

theorem dclear_nil (h : Hp) (n : Int) : AmFn Try.prog 37 [.nilPtr, int64 n] h (int64 1) h := by
  obtain ⟨env1, e1, f⟩ : ∃ env', runS Try.prog true dclear_fu.body [⟨63, [.nilPtr], h, .bool false, h⟩] (setArgs .e 0 [.nilPtr, int64 n]) h = some (.ret, [], env', h) ∧ sv env' 4 = int64 1 := by
    unfold dclear_fu
    simp [dclear_0, dclear_1, dclear_2, runS, runR, Rs.seq, Rs.block, sv_args, runOps, wanted_no, wanted_sv, ev_tm, ev_vl, sv_setD, sv_set, setD_none, qev_mov, qev_bin, qev_un, qev_lenI, qev_pick, qev_load1, qev_idxSl, idx2_sl, idxA2_ptr, opt_some, bin_add, bin_sub, bin_mul, bin_lss, bin_leq, bin_gtr, bin_geq, bin_eql, bin_neq, un_not, un_neg, qev_callv, qev_new1, qev_store1, qev_nilC, nilC_ptr, qev_fld, fld0, fldN, qev_extract, nth0, nth1, nth2, qev_eqPtr, sameP_nil, notIf, wanted_sv, callA_ok ok63]
  exact AmFn.dos dclear_code (by simp) (Dos.runRet _ (by intro x hx; simp at hx; subst hx; exact there_nil h) e1) (vs := [sv env1 4]) rfl f

theorem dturn_nil (h : Hp) : AmFn Try.prog 38 [.nilPtr] h (int64 1) h := by
  obtain ⟨env1, e1, f⟩ : ∃ env', runS Try.prog true dturn_fu.body [⟨63, [.nilPtr], h, .bool false, h⟩] (setArgs .e 0 [.nilPtr]) h = some (.ret, [], env', h) ∧ sv env' 2 = int64 1 := by
    unfold dturn_fu
    simp [dturn_0, dturn_1, dturn_2, runS, runR, Rs.seq, Rs.block, sv_args, runOps, wanted_no, wanted_sv, ev_tm, ev_vl, sv_setD, sv_set, setD_none, qev_mov, qev_bin, qev_un, qev_lenI, qev_pick, qev_load1, qev_idxSl, idx2_sl, idxA2_ptr, opt_some, bin_add, bin_sub, bin_mul, bin_lss, bin_leq, bin_gtr, bin_geq, bin_eql, bin_neq, un_not, un_neg, qev_callv, qev_new1, qev_store1, qev_nilC, nilC_ptr, qev_fld, fld0, fldN, qev_extract, nth0, nth1, nth2, qev_eqPtr, sameP_nil, notIf, wanted_sv, callA_ok ok63]
  exact AmFn.dos dturn_code (by simp) (Dos.runRet _ (by intro x hx; simp at hx; subst hx; exact there_nil h) e1) (vs := [sv env1 2]) rfl f

theorem cut_nil (h : Hp) (n : Int) : AmFn Try.prog 40 [.nilPtr, int64 n] h (.tup [.nilPtr, int64 1]) (newB h (int64 n)) := by
  have hx : ∀ env (x : Opd), ev env x = int64 n → evalOp Try.prog (.box x) env h = .val (.ptr h.next 0 0) (newB h (int64 n)) := fun env x hx => by
    have q := qev_box Try.prog env h x (by rw [hx]; rfl)
    rw [hx] at q; exact q
  obtain ⟨env1, e1, f4, f5⟩ : ∃ env', runS Try.prog true cut_fu.body [⟨63, [.nilPtr], newB h (int64 n), .bool false, newB h (int64 n)⟩] (setArgs .e 0 [.nilPtr, int64 n]) h = some (.ret, [], env', newB h (int64 n)) ∧ sv env' 4 = .nilPtr ∧ sv env' 5 = int64 1 := by
    unfold cut_fu
    simp [cut_0, cut_1, cut_2, runS, runR, Rs.seq, Rs.block, sv_args, runOps, wanted_no, wanted_sv, ev_tm, ev_vl, sv_setD, sv_set, setD_none, qev_mov, qev_bin, qev_un, qev_lenI, qev_pick, qev_load1, qev_idxSl, idx2_sl, idxA2_ptr, opt_some, bin_add, bin_sub, bin_mul, bin_lss, bin_leq, bin_gtr, bin_geq, bin_eql, bin_neq, un_not, un_neg, qev_callv, qev_new1, qev_store1, qev_nilC, nilC_ptr, qev_fld, fld0, fldN, qev_extract, nth0, nth1, nth2, qev_eqPtr, sameP_nil, notIf, wanted_sv, callA_ok ok63, hx]
  exact AmFn.dos cut_code (by simp) (Dos.runRet _ (by intro x hx; simp at hx; subst hx; exact there_nil _) e1) (vs := [sv env1 4, sv env1 5]) rfl (by rw [f4, f5]; rfl)

theorem dcopy_nil (h : Hp) : AmFn Try.prog 72 [.nilPtr] h .nilPtr (newB h (int64 0)) := by
  obtain ⟨env1, e1, f⟩ : ∃ env', runS Try.prog true dcopy_fu.body [⟨42, [.nilPtr], h, int64 0, h⟩, ⟨40, [.nilPtr, int64 0], h, .tup [.nilPtr, int64 1], newB h (int64 0)⟩] (setArgs .e 0 [.nilPtr]) h = some (.ret, [], env', newB h (int64 0)) ∧ sv env' 2 = .nilPtr := by
    unfold dcopy_fu
    simp [dcopy_0, dcopy_1, dcopy_2, runS, runR, Rs.seq, Rs.block, sv_args, runOps, wanted_no, wanted_sv, ev_tm, ev_vl, sv_setD, sv_set, setD_none, qev_mov, qev_bin, qev_un, qev_lenI, qev_pick, qev_load1, qev_idxSl, idx2_sl, idxA2_ptr, opt_some, bin_add, bin_sub, bin_mul, bin_lss, bin_leq, bin_gtr, bin_geq, bin_eql, bin_neq, un_not, un_neg, qev_callv, qev_new1, qev_store1, qev_nilC, nilC_ptr, qev_fld, fld0, fldN, qev_extract, nth0, nth1, nth2, qev_eqPtr, sameP_nil, notIf, callA_ok ok42, callA_ok ok40]
  refine AmFn.dos dcopy_code (by simp) (Dos.runRet _ (fun z hz => ?_) e1) (vs := [sv env1 2]) rfl f
  simp only [List.mem_cons, List.not_mem_nil, or_false] at hz
  rcases hz with e | e <;> subst e
  · exact writes_nil h
  · exact cut_nil h 0

theorem same_nil (h : Hp) : AmFn Try.prog 41 [.nilPtr, .nilPtr] h (.bool true) h := by
  obtain ⟨env1, e1, f⟩ : ∃ env', runS Try.prog true same_fu.body [⟨63, [.nilPtr], h, .bool false, h⟩, ⟨63, [.nilPtr], h, .bool false, h⟩, ⟨63, [.nilPtr], h, .bool false, h⟩] (setArgs .e 0 [.nilPtr, .nilPtr]) h = some (.ret, [], env', h) ∧ sv env' 4 = .bool true := by
    unfold same_fu
    simp [same_0, same_1, same_2, runS, runR, Rs.seq, Rs.block, sv_args, runOps, wanted_no, wanted_sv, ev_tm, ev_vl, sv_setD, sv_set, setD_none, qev_mov, qev_bin, qev_un, qev_lenI, qev_pick, qev_load1, qev_idxSl, idx2_sl, idxA2_ptr, opt_some, bin_add, bin_sub, bin_mul, bin_lss, bin_leq, bin_gtr, bin_geq, bin_eql, bin_neq, un_not, un_neg, qev_callv, qev_new1, qev_store1, qev_nilC, nilC_ptr, qev_fld, fld0, fldN, qev_extract, nth0, nth1, nth2, qev_eqPtr, sameP_nil, notIf, wanted_sv, callA_ok ok63, bin_eqBb]
  exact AmFn.dos same_code (by simp) (Dos.runRet _ (by intro x hx; simp at hx; subst hx; exact there_nil h) e1) (vs := [sv env1 4]) rfl f

theorem all_nil (h : Hp) : ∃ h', AmFn Try.prog 39 [.nilPtr] h (.fn (.func 67) [] [.ptr h.next 0 0]) h' ∧ Only [] h h' := by
  have ob : Only [] h (newB h .nilSl) := newH_only _ _ _
  obtain ⟨env', e, f⟩ : ∃ env', runS Try.prog true all_fu.body [⟨63, [.nilPtr], newB h .nilSl, .bool false, newB h .nilSl⟩] (setArgs .e 0 [.nilPtr]) h = some (.ret, [], env', newB h .nilSl) ∧ sv env' 2 = .fn (.func 67) [] [.ptr h.next 0 0] := by
    unfold all_fu
    simp [all_0, all_1, all_2, all_4, runS, runR, Rs.seq, Rs.block, sv_args, runOps, wanted_no, wanted_sv, ev_tm, ev_vl, sv_setD, sv_set, setD_none, qev_mov, qev_bin, qev_un, qev_lenI, qev_pick, qev_load1, qev_idxSl, idx2_sl, idxA2_ptr, opt_some, bin_add, bin_sub, bin_mul, bin_lss, bin_leq, bin_gtr, bin_geq, bin_eql, bin_neq, un_not, un_neg, qev_callv, qev_new1, qev_store1, qev_nilC, nilC_ptr, qev_fld, fld0, fldN, qev_extract, nth0, nth1, nth2, qev_eqPtr, sameP_nil, notIf, callA_ok ok63, qev_mkFn]
  exact ⟨_, AmFn.dos all_code (by simp) (Dos.runRet _ (by intro x hx; simp at hx; subst hx; exact there_nil _) e) (vs := [sv env' 2]) rfl f, ob⟩

theorem rlay_nil (h : Hp) (n : Int) (v : AV) : AmFn Try.prog 74 [.nilPtr, int64 n, v] h (int64 1) h := by
  obtain ⟨env1, e1, f⟩ : ∃ env', runS Try.prog true rlay_fu.body [] (setArgs .e 0 [.nilPtr, int64 n, v]) h = some (.ret, [], env', h) ∧ sv env' 6 = int64 1 := by
    unfold rlay_fu
    simp [rlay_0, rlay_1, rlay_2, runS, runR, Rs.seq, Rs.block, sv_args, runOps, wanted_no, wanted_sv, ev_tm, ev_vl, sv_setD, sv_set, setD_none, qev_mov, qev_bin, qev_un, qev_lenI, qev_pick, qev_load1, qev_idxSl, idx2_sl, idxA2_ptr, opt_some, bin_add, bin_sub, bin_mul, bin_lss, bin_leq, bin_gtr, bin_geq, bin_eql, bin_neq, un_not, un_neg, qev_callv, qev_new1, qev_store1, qev_nilC, nilC_ptr, qev_fld, fld0, fldN, qev_extract, nth0, nth1, nth2, qev_eqPtr, sameP_nil, notIf, wanted_sv, sameP_nn]
  exact AmFn.dos rlay_code (by simp) (Dos.runRet [] (by simp) e1) (vs := [sv env1 6]) rfl f

theorem rclear_nil (h : Hp) (n : Int) : AmFn Try.prog 75 [.nilPtr, int64 n] h (int64 1) h := by
  obtain ⟨env1, e1, f⟩ : ∃ env', runS Try.prog true rclear_fu.body [] (setArgs .e 0 [.nilPtr, int64 n]) h = some (.ret, [], env', h) ∧ sv env' 4 = int64 1 := by
    unfold rclear_fu
    simp [rclear_0, rclear_1, rclear_2, runS, runR, Rs.seq, Rs.block, sv_args, runOps, wanted_no, wanted_sv, ev_tm, ev_vl, sv_setD, sv_set, setD_none, qev_mov, qev_bin, qev_un, qev_lenI, qev_pick, qev_load1, qev_idxSl, idx2_sl, idxA2_ptr, opt_some, bin_add, bin_sub, bin_mul, bin_lss, bin_leq, bin_gtr, bin_geq, bin_eql, bin_neq, un_not, un_neg, qev_callv, qev_new1, qev_store1, qev_nilC, nilC_ptr, qev_fld, fld0, fldN, qev_extract, nth0, nth1, nth2, qev_eqPtr, sameP_nil, notIf, wanted_sv, sameP_nn]
  exact AmFn.dos rclear_code (by simp) (Dos.runRet [] (by simp) e1) (vs := [sv env1 4]) rfl f

theorem rturn_nil (h : Hp) : AmFn Try.prog 76 [.nilPtr] h (int64 1) h := by
  obtain ⟨env1, e1, f⟩ : ∃ env', runS Try.prog true rturn_fu.body [] (setArgs .e 0 [.nilPtr]) h = some (.ret, [], env', h) ∧ sv env' 2 = int64 1 := by
    unfold rturn_fu
    simp [rturn_0, rturn_1, rturn_2, runS, runR, Rs.seq, Rs.block, sv_args, runOps, wanted_no, wanted_sv, ev_tm, ev_vl, sv_setD, sv_set, setD_none, qev_mov, qev_bin, qev_un, qev_lenI, qev_pick, qev_load1, qev_idxSl, idx2_sl, idxA2_ptr, opt_some, bin_add, bin_sub, bin_mul, bin_lss, bin_leq, bin_gtr, bin_geq, bin_eql, bin_neq, un_not, un_neg, qev_callv, qev_new1, qev_store1, qev_nilC, nilC_ptr, qev_fld, fld0, fldN, qev_extract, nth0, nth1, nth2, qev_eqPtr, sameP_nil, notIf, wanted_sv, sameP_nn]
  exact AmFn.dos rturn_code (by simp) (Dos.runRet [] (by simp) e1) (vs := [sv env1 2]) rfl f

theorem rcut_nil (h : Hp) (n : Int) : AmFn Try.prog 77 [.nilPtr, int64 n] h (.tup [.nilPtr, int64 1]) h := by
  obtain ⟨env1, e1, f4, f5⟩ : ∃ env', runS Try.prog true rcut_fu.body [] (setArgs .e 0 [.nilPtr, int64 n]) h = some (.ret, [], env', h) ∧ sv env' 4 = .nilPtr ∧ sv env' 5 = int64 1 := by
    unfold rcut_fu
    simp [rcut_0, rcut_1, rcut_2, runS, runR, Rs.seq, Rs.block, sv_args, runOps, wanted_no, wanted_sv, ev_tm, ev_vl, sv_setD, sv_set, setD_none, qev_mov, qev_bin, qev_un, qev_lenI, qev_pick, qev_load1, qev_idxSl, idx2_sl, idxA2_ptr, opt_some, bin_add, bin_sub, bin_mul, bin_lss, bin_leq, bin_gtr, bin_geq, bin_eql, bin_neq, un_not, un_neg, qev_callv, qev_new1, qev_store1, qev_nilC, nilC_ptr, qev_fld, fld0, fldN, qev_extract, nth0, nth1, nth2, qev_eqPtr, sameP_nil, notIf, wanted_sv, sameP_nn]
  exact AmFn.dos rcut_code (by simp) (Dos.runRet [] (by simp) e1) (vs := [sv env1 4, sv env1 5]) rfl (by rw [f4, f5]; rfl)
end
end Go.Proofs.Ytmifpiglcphmoaa.DPlays

namespace Go.Proofs.Ytmifpiglcphmoaa.DPlays
open Go Go.Proofs.Ytmifpiglcphmoaa.Am Go.Proofs

theorem eqAV_ptr8 (p : Pos) (g off : Nat) : eqAV 8 (.ptr p g off) (.ptr p g off) = true := by
  show (eqP p p && Nat.beq g g && Nat.beq off off) = true
  have : eqP p p = true := by unfold eqP; rw [samePos_iff]
  rw [this]; simp

/-- What stands' variables say. -/
structure SEn (env : T AV) (b3 b4 b5 b6 : Pos) : Prop where
  e3 : sv env 3 = .ptr b3 0 0
  e4 : sv env 4 = .ptr b4 0 0
  e5 : sv env 5 = .ptr b5 0 0
  e6 : sv env 6 = .ptr b6 0 0

/-- What stands' boxes hold. -/
structure SMem (h : Hp) (b3 b4 b5 b6 : Pos) (x y : AV) (leave : Int) : Prop where
  k3 : Arr h b3 [x]
  k4 : Arr h b4 [y]
  k5 : Arr h b5 [int64 leave]
  k6 : Arr h b6 [.bool false]

theorem SMem.more {h h' : Hp} {b3 b4 b5 b6 : Pos} {x y : AV} {leave : Int} (a : SMem h b3 b4 b5 b6 x y leave) (o : Only [] h h') : SMem h' b3 b4 b5 b6 x y leave := ⟨Arr.more a.k3 o, Arr.more a.k4 o, Arr.more a.k5 o, Arr.more a.k6 o⟩

section
variable {h hS : Hp} {b3 b4 b5 b6 p q : Pos} {d : Dk} {κ κ' : Pos → Nat} {c c' : Nat} {V V' : Vs} {ws ws' : List (Wr × AV)} {leave : Int} {env : T AV}

/-- An area that is none. -/
theorem area_bad (dk : DkAt κ c h p d V ws) (m : SMem h b3 b4 b5 b6 (.ptr p 0 0) (.ptr q 0 0) leave) (e : SEn env b3 b4 b5 b6) {a : Int} (e7 : sv env 7 = int64 a) (ha : -1 ≤ a ∧ a < 3) (hb : ¬ (a = 0 ∨ a = 1)) :
    ∃ env', Dos Try.prog 46 stands_14 env h .go [] env' h ∧ SEn env' b3 b4 b5 b6 ∧ sv env' 7 = int64 (a + 1) := by
  obtain ⟨e3, e4, e5, e6⟩ := e
  have l3 := m.k3.load
  have l4 := m.k4.load
  have k1 := darea_no dk hb
  have k2 := room_fn dk a
  have er : d.room a = 0 := by unfold Dk.room; rw [if_neg hb]
  rw [er] at k2
  have w1 : wrapA .i64 (a + 1) = a + 1 := wrap64 (by omega) (by omega)
  have h3 : a < 3 := ha.2
  have lnil : ∀ env x, ev env x = .nilSl → evalOp Try.prog (.lenL x) env h = .val (int64 (0 : Int)) h := fun env x hx => by rw [qev_lenI, hx]
  obtain ⟨env1, e1, f3, f4, f5, f6, f7⟩ : ∃ env', runS Try.prog true stands_14 [⟨62, [.ptr p 0 0, int64 a], h, .tup [.nilSl, int64 2], h⟩, ⟨60, [.ptr p 0 0, int64 a], h, int64 0, h⟩] env h = some (.upt [], [], env', h) ∧ sv env' 3 = .ptr b3 0 0 ∧ sv env' 4 = .ptr b4 0 0 ∧ sv env' 5 = .ptr b5 0 0 ∧ sv env' 6 = .ptr b6 0 0 ∧ sv env' 7 = int64 (a + 1) := by
    unfold stands_14
    by_cases h0 : a < 0
    · simp [stands_2, stands_3, stands_4, stands_7, stands_8, stands_13, runS, runR, Rs.seq, Rs.block, runOps, wanted_no, wanted_sv, ev_tm, ev_vl, sv_setD, sv_set, setD_none, qev_mov, qev_bin, qev_un, qev_lenI, qev_pick, qev_load1, qev_idxSl, idx2_sl, idxA2_ptr, opt_some, bin_add, bin_sub, bin_mul, bin_lss, bin_leq, bin_gtr, bin_geq, bin_eql, bin_neq, un_not, un_neg, qev_callv, qev_new1, qev_store1, qev_nilC, nilC_ptr, qev_fld, fld0, fldN, qev_extract, nth0, nth1, nth2, qev_eqPtr, sameP_nil, notIf, wanted_sv, callA_ok ok62, callA_ok ok60, e3, e4, e5, e6, e7, l3, l4, lnil, h3, h0, w1]
    · have h1 : 1 < a := by omega
      simp [stands_2, stands_3, stands_4, stands_7, stands_8, stands_13, runS, runR, Rs.seq, Rs.block, runOps, wanted_no, wanted_sv, ev_tm, ev_vl, sv_setD, sv_set, setD_none, qev_mov, qev_bin, qev_un, qev_lenI, qev_pick, qev_load1, qev_idxSl, idx2_sl, idxA2_ptr, opt_some, bin_add, bin_sub, bin_mul, bin_lss, bin_leq, bin_gtr, bin_geq, bin_eql, bin_neq, un_not, un_neg, qev_callv, qev_new1, qev_store1, qev_nilC, nilC_ptr, qev_fld, fld0, fldN, qev_extract, nth0, nth1, nth2, qev_eqPtr, sameP_nil, notIf, wanted_sv, callA_ok ok62, callA_ok ok60, e3, e4, e5, e6, e7, l3, l4, lnil, h3, h0, h1, w1]
  refine ⟨env1, Dos.runGo _ (fun z hz => ?_) e1, ⟨f3, f4, f5, f6⟩, f7⟩
  simp only [List.mem_cons, List.not_mem_nil, or_false] at hz
  rcases hz with e | e <;> subst e
  · exact k1
  · exact k2

/-- An area's bytes, and its room. -/
theorem area_look (dk : DkAt κ c h p d V ws) (rk : RkAt κ' c' h q d V' ws') (m : SMem h b3 b4 b5 b6 (.ptr p 0 0) (.ptr q 0 0) leave) (e : SEn env b3 b4 b5 b6) {a : Int} (e7 : sv env 7 = int64 a) (ha : a = 0 ∨ a = 1) {v : AV} (r : SlN h 1 v (d.area a).length (byt (d.area a))) (e8 : sv env 8 = v) (e9 : sv env 9 = int64 0) :
    ∃ env', Dos Try.prog 46 (.drawn stands_10) env h .go [] env' h ∧ SEn env' b3 b4 b5 b6 ∧ sv env' 7 = int64 a ∧ sv env' 8 = v ∧ sv env' 53 = .bool false := by
  obtain ⟨e3, e4, e5, e6⟩ := e
  have l3 := m.k3.load
  have l4 := m.k4.load
  have k2 := room_fn dk a
  have er : d.room a = d.cap - ((d.area a).length : Int) := by unfold Dk.room; rw [if_pos ha]
  rw [er] at k2
  obtain ⟨va, la, ra⟩ := rk.larea ha
  have l0 := rk.l0
  have s1 := r.str (P := Try.prog)
  have s2 := ra.str (P := Try.prog)
  have lv := r.lenI (P := Try.prog) h
  have hb : 0 ≤ a ∧ a < 2 := by omega
  have hc := dk.ok.cap
  have hle := area_le dk.ok a
  have w1 : wrapA .i64 (d.cap - ((d.area a).length : Int)) = d.cap - ((d.area a).length : Int) := wrap64 (by omega) (by omega)
  have hsound := recG_sound (P := Try.prog) (A := [⟨60, [.ptr p 0 0, int64 a], h, int64 (d.cap - ((d.area a).length : Int)), h⟩]) (by
    intro k hk
    simp only [List.mem_cons, List.not_mem_nil, or_false] at hk
    subst hk
    exact k2)
  have R1 := recG_hit (P := Try.prog) 60 [.ptr p 0 0, int64 a] h (int64 (d.cap - ((d.area a).length : Int))) h []
  have bg := k2.begins.1
  generalize recG Try.prog [⟨60, [.ptr p 0 0, int64 a], h, int64 (d.cap - ((d.area a).length : Int)), h⟩] = R at *
  have hz : ∀ hh : Hp, (⟨hh.heap, hh.next, hh.ser, hh.lim⟩ : Hp) = hh := fun _ => rfl
  obtain ⟨env', acts, lds, e, f3, f4, f5, f6, f7, f8, f53⟩ : ∃ env' acts lds, runD Try.prog R 0 stands_10 ⟨[], [], [], h.next, env, h⟩ = some ⟨acts, lds, [], h.next, env', h⟩ ∧ sv env' 3 = .ptr b3 0 0 ∧ sv env' 4 = .ptr b4 0 0 ∧ sv env' 5 = .ptr b5 0 0 ∧ sv env' 6 = .ptr b6 0 0 ∧ sv env' 7 = int64 a ∧ sv env' 8 = v ∧ sv env' 53 = .bool false := by
    unfold stands_10
    simp [runD, stepD, actO, kindOf, lookBack, lookAgain, putT, remAl, insT, bit, wanted_no, wanted_sv, ev_tm, ev_vl, sv_setD, setD_none, qev_mov, qev_bin, qev_pick, bin_sub, bin_neq, bin_neqS, opt_some, qev_load1, qev_nilC, nilC_ptr, qev_fld, fld0, fldN, qev_idxArr, idxA2_ptr, qev_callv, callA_ok ok60, eqAV_ptr8, eqAV_int8, e3, e4, e5, e6, e7, e8, e9, l3, l4, l0, la, s1, s2, lv, hb, w1, bg, R1, hz,
      show Nat.testBit 131071 4 = true from by decide, show Nat.testBit 131071 5 = true from by decide, show Nat.testBit 131071 10 = true from by decide, show Nat.testBit 131071 11 = true from by decide, show Nat.testBit 131071 15 = true from by decide]
  exact ⟨env', Dos.drawn hsound (runDrawn_of (acts := acts) (lds := lds) (by simp [stands_10, skipIds, isAlloc, kindOf]) e), ⟨f3, f4, f5, f6⟩, f7, f8, f53⟩

/-- An area. -/
theorem area_good (dk : DkAt κ c h p d V ws) (rk : RkAt κ' c' h q d V' ws') (m : SMem h b3 b4 b5 b6 (.ptr p 0 0) (.ptr q 0 0) leave) (e : SEn env b3 b4 b5 b6) {a : Int} (e7 : sv env 7 = int64 a) (ha : a = 0 ∨ a = 1) :
    ∃ env' h', Dos Try.prog 46 stands_14 env h .go [] env' h' ∧ Only [] h h' ∧ SEn env' b3 b4 b5 b6 ∧ sv env' 7 = int64 (a + 1) := by
  obtain ⟨e3, e4, e5, e6⟩ := e
  have l3 := m.k3.load
  have hc := dk.ok.cap
  have hle := area_le dk.ok a
  obtain ⟨v, h1, k1, hd, o1⟩ := darea_fn dk ha
  have l4 := (Arr.more m.k4 o1).load
  have w1 : wrapA .i64 (a + 1) = a + 1 := wrap64 (by omega) (by omega)
  have h3 : a < 3 := by omega
  have h0 : ¬ a < 0 := by omega
  have h2 : ¬ 1 < a := by omega
  obtain ⟨env1, e1, f3, f4, f5, f6, f7, f8, f9⟩ : ∃ env', runS Try.prog false stands_14 [⟨62, [.ptr p 0 0, int64 a], h, .tup [v, int64 0], h1⟩] env h = some (.upt [.code (.drawn stands_10), .code (.cond (tm 53) (.seq (.region stands_11) .ret) .skip), .code (.region stands_12), .inBlock 2, .inBlock 1, .code (.region stands_13)], [], env', h1) ∧ sv env' 3 = .ptr b3 0 0 ∧ sv env' 4 = .ptr b4 0 0 ∧ sv env' 5 = .ptr b5 0 0 ∧ sv env' 6 = .ptr b6 0 0 ∧ sv env' 7 = int64 a ∧ sv env' 8 = v ∧ sv env' 9 = int64 0 := by
    unfold stands_14
    simp [stands_2, stands_3, stands_4, stands_7, runS, runR, Rs.seq, Rs.block, runOps, wanted_no, wanted_sv, ev_tm, ev_vl, sv_setD, sv_set, setD_none, qev_mov, qev_bin, qev_un, qev_lenI, qev_pick, qev_load1, qev_idxSl, idx2_sl, idxA2_ptr, opt_some, bin_add, bin_sub, bin_mul, bin_lss, bin_leq, bin_gtr, bin_geq, bin_eql, bin_neq, un_not, un_neg, qev_callv, qev_new1, qev_store1, qev_nilC, nilC_ptr, qev_fld, fld0, fldN, qev_extract, nth0, nth1, nth2, qev_eqPtr, sameP_nil, notIf, wanted_sv, callA_ok ok62, e3, e4, e5, e6, e7, l3, l4, h3, h0, h2]
  obtain ⟨env2, d2, ⟨g3, g4, g5, g6⟩, g7, g8, g53⟩ := area_look (dk.more o1 .refl) (rk.more o1 .refl) (m.more o1) ⟨f3, f4, f5, f6⟩ f7 ha hd.sl f8 f9
  obtain ⟨h4, S4, k4, o4, hS4⟩ := over_fn hd (by omega)
  have o14 : Only [] h h4 := ((o1.mono (S' := S4) (by simp)).trans o4).mono fun id q => .inr (hd.old (hS4 id q)).1
  obtain ⟨env3, e3', i3, i4, i5, i6, i7⟩ : ∃ env', runS Try.prog true (.region stands_12) [⟨71, [v], h1, .tup [], h4⟩] env2 h1 = some (.upt [], [], env', h4) ∧ sv env' 3 = .ptr b3 0 0 ∧ sv env' 4 = .ptr b4 0 0 ∧ sv env' 5 = .ptr b5 0 0 ∧ sv env' 6 = .ptr b6 0 0 ∧ sv env' 7 = int64 a := by
    simp [stands_12, runS, runR, Rs.seq, Rs.block, runOps, wanted_no, wanted_sv, ev_tm, ev_vl, sv_setD, sv_set, setD_none, qev_mov, qev_bin, qev_un, qev_lenI, qev_pick, qev_load1, qev_idxSl, idx2_sl, idxA2_ptr, opt_some, bin_add, bin_sub, bin_mul, bin_lss, bin_leq, bin_gtr, bin_geq, bin_eql, bin_neq, un_not, un_neg, qev_callv, qev_new1, qev_store1, qev_nilC, nilC_ptr, qev_fld, fld0, fldN, qev_extract, nth0, nth1, nth2, qev_eqPtr, sameP_nil, notIf, callA_ok ok71, g3, g4, g5, g6, g7, g8]
  obtain ⟨env4, e4', j3, j4, j5, j6, j7⟩ : ∃ env', runOps Try.prog stands_13 env3 h4 = some (env', h4) ∧ sv env' 3 = .ptr b3 0 0 ∧ sv env' 4 = .ptr b4 0 0 ∧ sv env' 5 = .ptr b5 0 0 ∧ sv env' 6 = .ptr b6 0 0 ∧ sv env' 7 = int64 (a + 1) := by
    simp [stands_13, runOps, wanted_no, wanted_sv, ev_tm, ev_vl, sv_setD, sv_set, setD_none, qev_mov, qev_bin, qev_un, qev_lenI, qev_pick, qev_load1, qev_idxSl, idx2_sl, idxA2_ptr, opt_some, bin_add, bin_sub, bin_mul, bin_lss, bin_leq, bin_gtr, bin_geq, bin_eql, bin_neq, un_not, un_neg, qev_callv, qev_new1, qev_store1, qev_nilC, nilC_ptr, qev_fld, fld0, fldN, qev_extract, nth0, nth1, nth2, qev_eqPtr, sameP_nil, notIf, i3, i4, i5, i6, i7, w1]
  refine ⟨env4, h4, Dos.run (M := []) _ (by intro z hz; simp at hz; subst hz; exact k1) e1 (DosL.more (M := []) (M1 := []) d2 (DosL.more (M := []) (M1 := []) (Dos.cond (t := false) g53 .skip) (DosL.more (M := []) (M1 := []) (Dos.runGo _ (by intro z hz; simp at hz; subst hz; exact k4) e3') (DosL.inBlock (DosL.inBlock (DosL.more (M := []) (M1 := []) (Dos.region e4') .nil)))))), o14, ⟨j3, j4, j5, j6⟩, j7⟩

/-- All areas, and what is none. -/
theorem areas (dk : DkAt κ c hS p d V ws) (rk : RkAt κ' c' hS q d V' ws') (m : SMem hS b3 b4 b5 b6 (.ptr p 0 0) (.ptr q 0 0) leave) : ∀ (r : Nat) (a : Int) (env : T AV) (h : Hp), a + r = 3 → -1 ≤ a → Only [] hS h → SEn env b3 b4 b5 b6 → sv env 7 = int64 a →
    ∃ env' h', Loops Try.prog 46 stands_14 env h (.exit 0) [] env' h' ∧ Only [] hS h' ∧ SEn env' b3 b4 b5 b6
  | 0, a, env, h, ha, h1, o, e, e7 => by
    obtain ⟨e3, e4, e5, e6⟩ := e
    have h3 : ¬ a < 3 := by omega
    obtain ⟨env1, e1, f3, f4, f5, f6⟩ : ∃ env', runS Try.prog true stands_14 [] env h = some (.exit 0, [], env', h) ∧ sv env' 3 = .ptr b3 0 0 ∧ sv env' 4 = .ptr b4 0 0 ∧ sv env' 5 = .ptr b5 0 0 ∧ sv env' 6 = .ptr b6 0 0 := by
      unfold stands_14
      simp [stands_2, runS, runR, Rs.seq, Rs.block, runOps, wanted_no, wanted_sv, ev_tm, ev_vl, sv_setD, sv_set, setD_none, qev_mov, qev_bin, qev_un, qev_lenI, qev_pick, qev_load1, qev_idxSl, idx2_sl, idxA2_ptr, opt_some, bin_add, bin_sub, bin_mul, bin_lss, bin_leq, bin_gtr, bin_geq, bin_eql, bin_neq, un_not, un_neg, qev_callv, qev_new1, qev_store1, qev_nilC, nilC_ptr, qev_fld, fld0, fldN, qev_extract, nth0, nth1, nth2, qev_eqPtr, sameP_nil, notIf, e3, e4, e5, e6, e7, h3]
    exact ⟨env1, h, Loops.out (Dos.runExit [] (by simp) e1) (by simp), o, ⟨f3, f4, f5, f6⟩⟩
  | r + 1, a, env, h, ha, h1, o, e, e7 => by
    have D := dk.more o .refl
    have R := rk.more o .refl
    have M := m.more o
    obtain ⟨env1, h2, d1, o2, f, f7⟩ : ∃ env' h', Dos Try.prog 46 stands_14 env h .go [] env' h' ∧ Only [] h h' ∧ SEn env' b3 b4 b5 b6 ∧ sv env' 7 = int64 (a + 1) := by
      by_cases hb : a = 0 ∨ a = 1
      · exact area_good D R M e e7 hb
      · obtain ⟨env', d1, f, f7⟩ := area_bad D M e e7 ⟨h1, by omega⟩ hb
        exact ⟨env', h, d1, .refl _ _, f, f7⟩
    obtain ⟨env2, h3, L, o3, f3⟩ := areas dk rk m r (a + 1) env1 h2 (by omega) (by omega) (o.trans o2) f f7
    exact ⟨env2, h3, Loops.more (M := []) (M1 := []) d1 L, o3, f3⟩

/-- What is told of a disk besides. -/
theorem stands_mid (dk : DkAt κ c h p d V ws) (rk : RkAt κ' c' h q d V' ws') (m : SMem h b3 b4 b5 b6 (.ptr p 0 0) (.ptr q 0 0) leave) (e : SEn env b3 b4 b5 b6) {f : AV} (e10 : sv env 10 = f) :
    ∃ env', Dos Try.prog 46 (.seq (.drawn stands_18) (.cond (tm 133) (.seq (.region stands_19) .ret) .skip)) env h .go [] env' h ∧ SEn env' b3 b4 b5 b6 ∧ sv env' 10 = f := by
  obtain ⟨e3, e4, e5, e6⟩ := e
  have l3 := m.k3.load
  have l4 := m.k4.load
  have k1 := dused_fn dk
  have k2 := writes_fn dk
  have l1 := rk.l1
  have l7 := rk.l7
  have lw := rk.vw.hd.sl.lenI (P := Try.prog) h
  have lq : eqAV 8 V'.vw V'.vw = true := rk.vw.hd.sl.eqv 7
  have hsound := recG_sound (P := Try.prog) (A := [⟨61, [.ptr p 0 0], h, int64 d.used, h⟩, ⟨42, [.ptr p 0 0], h, int64 (d.ws.length : Nat), h⟩]) (by
    intro k hk
    simp only [List.mem_cons, List.not_mem_nil, or_false] at hk
    rcases hk with e | e <;> subst e
    · exact k1
    · exact k2)
  have R1 := recG_hit (P := Try.prog) 61 [.ptr p 0 0] h (int64 d.used) h [⟨42, [.ptr p 0 0], h, int64 (d.ws.length : Nat), h⟩]
  have R2 := recG_next (P := Try.prog) (a := ⟨61, [.ptr p 0 0], h, int64 d.used, h⟩) (recG_hit (P := Try.prog) 42 [.ptr p 0 0] h (int64 (d.ws.length : Nat)) h []) (fun q1 _ => by
    have := frOf_fn k2 k1 q1
    exact absurd this (by decide))
  have bg1 := k1.begins.1
  have bg2 := k2.begins.1
  generalize recG Try.prog [⟨61, [.ptr p 0 0], h, int64 d.used, h⟩, ⟨42, [.ptr p 0 0], h, int64 (d.ws.length : Nat), h⟩] = R at *
  have hz : ∀ hh : Hp, (⟨hh.heap, hh.next, hh.ser, hh.lim⟩ : Hp) = hh := fun _ => rfl
  obtain ⟨env', acts, lds, e, f3, f4, f5, f6, f10, f133⟩ : ∃ env' acts lds, runD Try.prog R 0 stands_18 ⟨[], [], [], h.next, env, h⟩ = some ⟨acts, lds, [], h.next, env', h⟩ ∧ sv env' 3 = .ptr b3 0 0 ∧ sv env' 4 = .ptr b4 0 0 ∧ sv env' 5 = .ptr b5 0 0 ∧ sv env' 6 = .ptr b6 0 0 ∧ sv env' 10 = f ∧ sv env' 133 = .bool false := by
    unfold stands_18
    simp [runD, stepD, actO, kindOf, lookBack, lookAgain, putT, remAl, insT, bit, wanted_no, wanted_sv, ev_tm, ev_vl, sv_setD, setD_none, qev_mov, qev_bin, qev_pick, bin_neq, opt_some, qev_load1, qev_nilC, nilC_ptr, qev_fld, fld0, fldN, qev_callv, callA_ok ok61, callA_ok ok42, eqAV_ptr8, eqAV_int8, e3, e4, e5, e6, e10, l3, l4, l1, l7, lw, lq, bg1, bg2, R1, R2, hz]
  obtain ⟨env2, e2, g3, g4, g5, g6, g10⟩ : ∃ env2, env2 = env' ∧ sv env2 3 = .ptr b3 0 0 ∧ sv env2 4 = .ptr b4 0 0 ∧ sv env2 5 = .ptr b5 0 0 ∧ sv env2 6 = .ptr b6 0 0 ∧ sv env2 10 = f := ⟨env', rfl, f3, f4, f5, f6, f10⟩
  subst e2
  exact ⟨env2, Dos.seq (M := []) (M1 := []) (Dos.drawn hsound (runDrawn_of (acts := acts) (lds := lds) (by simp [stands_18, skipIds, isAlloc, kindOf]) e)) (Dos.cond (t := false) f133 .skip), ⟨g3, g4, g5, g6⟩, g10⟩
end
end Go.Proofs.Ytmifpiglcphmoaa.DPlays

namespace Go.Proofs.Ytmifpiglcphmoaa.DPlays
open Go Go.Proofs.Ytmifpiglcphmoaa.Am Go.Proofs

/-- The variables of a round over the raw writes. -/
structure REn (env : T AV) (b3 b4 b5 b6 b11 b12 w : Pos) (i : Nat) : Prop where
  e3 : sv env 3 = .ptr b3 0 0
  e4 : sv env 4 = .ptr b4 0 0
  e5 : sv env 5 = .ptr b5 0 0
  e6 : sv env 6 = .ptr b6 0 0
  e11 : sv env 11 = .ptr b11 0 0
  e12 : sv env 12 = .ptr b12 0 0
  e13 : sv env 13 = int64 (i : Nat)
  e14 : sv env 14 = .ptr w 0 0

section
variable {h hS : Hp} {b3 b4 b5 b6 b11 b12 w p q : Pos} {d : Dk} {κ κ' : Pos → Nat} {c c' : Nat} {V V' : Vs} {ws ws' : List (Wr × AV)} {leave t : Int} {env : T AV} {i : Nat}

/-- A raw write of the document's disk. -/
theorem RkAt.raw (rk : RkAt κ' c' h q d V' ws') (hi : i < d.ws.length) : ∃ id g dv, V'.vw = .sl id g 0 d.ws.length d.ws.length false 3 ∧ (∀ env y, ev env y = .ptr id g (i * 3) → evalOp Try.prog (.loadN 3 y) env h = .val (.agg [int64 (d.ws[i]).kind, int64 (d.ws[i]).area, dv]) h) ∧ SlN h 1 dv (d.ws[i]).data.length (byt (d.ws[i]).data) := by
  have hwl : ws'.length = d.ws.length := by rw [← rk.eq, List.length_map]
  have hiw : i < ws'.length := by omega
  have ewi : ws'[i].1 = d.ws[i] := by
    have : (ws'.map Prod.fst)[i]? = d.ws[i]? := by rw [rk.eq]
    rw [List.getElem?_map, List.getElem?_eq_getElem hiw, List.getElem?_eq_getElem hi] at this
    exact Option.some.inj this
  obtain ⟨id, g, cc, e1, e2, e3⟩ := rk.vw.hd.record (i := i) hi
  rw [recs_get ws' hiw] at e3
  refine ⟨id, g, ws'[i].2, e1, fun env y hy => ?_, ?_⟩
  · rw [qev_loadN Try.prog hy e2, e3]
    unfold rec1
    rw [ewi]
  · have := (rk.dat _ (List.getElem_mem hiw)).sl
    rw [ewi] at this
    exact this

/-- What was told is the document's. -/
theorem raw_told (rk : RkAt κ' c' h q d V' ws') (m : SMem h b3 b4 b5 b6 (.ptr p 0 0) (.ptr q 0 0) leave) (e : REn env b3 b4 b5 b6 b11 b12 w i) (hi : i < d.ws.length) (hl : d.ws.length ≤ 100000) (k12 : Arr h b12 [int64 (i : Nat)]) {dv : AV} {n : Nat} (kw : Arr h w [int64 (d.ws[i]).kind, int64 (d.ws[i]).area, dv]) (r : SlN h 1 dv n (byt (d.ws[i]).data)) :
    ∃ env' h', Dos Try.prog 46 (.seq (.drawn stands_27) (.cond (tm 164) (.seq (.region stands_28) .ret) .skip)) env h .go [] env' h' ∧ Only [] h h' ∧ REn env' b3 b4 b5 b6 b11 b12 w i := by
  obtain ⟨e3, e4, e5, e6, e11, e12, e13, e14⟩ := e
  have l4 := m.k4.load
  have l12 := k12.load
  have l7 := rk.l7
  have lw := rk.vw.hd.sl.lenI (P := Try.prog) h
  obtain ⟨id, g, dv', ev, ld, r'⟩ := rk.raw hi
  rw [ev] at l7 lw
  have ldw := kw.whole Try.prog (n := 3) rfl
  obtain ⟨h2, k2, o2⟩ := samew_fn (h := h) (k := (d.ws[i]).kind) (a := (d.ws[i]).area) r r'
  have hq : ¬ (d.ws.length : Int) ≤ (i : Int) := by omega
  generalize d.ws[i] = x at *
  have hsound := recG_sound (P := Try.prog) (A := [⟨73, [.agg [int64 x.kind, int64 x.area, dv], .agg [int64 x.kind, int64 x.area, dv']], h, .bool true, h2⟩]) (by
    intro k hk
    simp only [List.mem_cons, List.not_mem_nil, or_false] at hk
    subst hk
    exact k2)
  have R1 := recG_hit (P := Try.prog) 73 [.agg [int64 x.kind, int64 x.area, dv], .agg [int64 x.kind, int64 x.area, dv']] h (.bool true) h2 []
  have bg := k2.begins.1
  generalize recG Try.prog [⟨73, [.agg [int64 x.kind, int64 x.area, dv], .agg [int64 x.kind, int64 x.area, dv']], h, .bool true, h2⟩] = R at *
  have hz : ∀ hh : Hp, (⟨hh.heap, hh.next, hh.ser, hh.lim⟩ : Hp) = hh := fun _ => rfl
  obtain ⟨env', acts, lds, e, f3, f4, f5, f6, f11, f12, f13, f14, f164⟩ : ∃ env' acts lds, runD Try.prog R 0 stands_27 ⟨[], [], [], h.next, env, h⟩ = some ⟨acts, lds, [], h.next, env', h2⟩ ∧ sv env' 3 = .ptr b3 0 0 ∧ sv env' 4 = .ptr b4 0 0 ∧ sv env' 5 = .ptr b5 0 0 ∧ sv env' 6 = .ptr b6 0 0 ∧ sv env' 11 = .ptr b11 0 0 ∧ sv env' 12 = .ptr b12 0 0 ∧ sv env' 13 = int64 (i : Nat) ∧ sv env' 14 = .ptr w 0 0 ∧ sv env' 164 = .bool false := by
    unfold stands_27
    simp [runD, stepD, actO, kindOf, lookBack, lookAgain, putT, remAl, insT, bit, wanted_no, wanted_sv, ev_tm, ev_vl, sv_setD, setD_none, qev_mov, qev_bin, qev_un, un_not, qev_pick, bin_neq, bin_geq, opt_some, qev_load1, qev_nilC, nilC_ptr, qev_fld, fld0, fldN, qev_idxSl, idx2_sl, qev_callv, callA_ok ok73, e3, e4, e5, e6, e11, e12, e13, e14, l4, l12, l7, lw, ld, ldw, hq, hi, bg, R1, hz,
      show Nat.testBit 2097151 1 = true from by decide, show Nat.testBit 2097151 4 = true from by decide, show Nat.testBit 2097151 9 = true from by decide, show Nat.testBit 2097151 13 = true from by decide, show Nat.testBit 2097151 14 = true from by decide, show Nat.testBit 2097151 17 = true from by decide, show Nat.testBit 2097151 18 = true from by decide, show Nat.testBit 2097151 20 = true from by decide]
  exact ⟨env', h2, Dos.seq (M := []) (M1 := []) (Dos.drawn hsound (runDrawn_of (acts := acts) (lds := lds) (by simp [stands_27, skipIds, isAlloc, kindOf]) e)) (Dos.cond (t := false) f164 .skip), o2, ⟨f3, f4, f5, f6, f11, f12, f13, f14⟩⟩

/-- What Write told is the document's. -/
theorem raw_wrote {w2 : Pos} (rk : RkAt κ' c' h q d V' ws') (m : SMem h b3 b4 b5 b6 (.ptr p 0 0) (.ptr q 0 0) leave) (e : REn env b3 b4 b5 b6 b11 b12 w i) (e15 : sv env 15 = .ptr w2 0 0) (e16 : sv env 16 = int64 0) (hi : i < d.ws.length) (hl : d.ws.length ≤ 100000) (k12 : Arr h b12 [int64 (i : Nat)]) {dv : AV} {n : Nat} (kw : Arr h w2 [int64 (d.ws[i]).kind, int64 (d.ws[i]).area, dv]) (r : SlN h 1 dv n (byt (d.ws[i]).data)) :
    ∃ env' h', Dos Try.prog 46 (.seq (.drawn stands_31) (.cond (tm 187) (.seq (.region stands_32) .ret) .skip)) env h .go [] env' h' ∧ Only [] h h' ∧ REn env' b3 b4 b5 b6 b11 b12 w i := by
  obtain ⟨e3, e4, e5, e6, e11, e12, e13, e14⟩ := e
  have l4 := m.k4.load
  have l12 := k12.load
  have l7 := rk.l7
  obtain ⟨id, g, dv', ev, ld, r'⟩ := rk.raw hi
  rw [ev] at l7
  have ldw := kw.whole Try.prog (n := 3) rfl
  obtain ⟨h2, k2, o2⟩ := samew_fn (h := h) (k := (d.ws[i]).kind) (a := (d.ws[i]).area) r r'
  generalize d.ws[i] = x at *
  have hsound := recG_sound (P := Try.prog) (A := [⟨73, [.agg [int64 x.kind, int64 x.area, dv], .agg [int64 x.kind, int64 x.area, dv']], h, .bool true, h2⟩]) (by
    intro k hk
    simp only [List.mem_cons, List.not_mem_nil, or_false] at hk
    subst hk
    exact k2)
  have R1 := recG_hit (P := Try.prog) 73 [.agg [int64 x.kind, int64 x.area, dv], .agg [int64 x.kind, int64 x.area, dv']] h (.bool true) h2 []
  have bg := k2.begins.1
  generalize recG Try.prog [⟨73, [.agg [int64 x.kind, int64 x.area, dv], .agg [int64 x.kind, int64 x.area, dv']], h, .bool true, h2⟩] = R at *
  have hz : ∀ hh : Hp, (⟨hh.heap, hh.next, hh.ser, hh.lim⟩ : Hp) = hh := fun _ => rfl
  obtain ⟨env', acts, lds, e, f3, f4, f5, f6, f11, f12, f13, f14, f164⟩ : ∃ env' acts lds, runD Try.prog R 0 stands_31 ⟨[], [], [], h.next, env, h⟩ = some ⟨acts, lds, [], h.next, env', h2⟩ ∧ sv env' 3 = .ptr b3 0 0 ∧ sv env' 4 = .ptr b4 0 0 ∧ sv env' 5 = .ptr b5 0 0 ∧ sv env' 6 = .ptr b6 0 0 ∧ sv env' 11 = .ptr b11 0 0 ∧ sv env' 12 = .ptr b12 0 0 ∧ sv env' 13 = int64 (i : Nat) ∧ sv env' 14 = .ptr w 0 0 ∧ sv env' 187 = .bool false := by
    unfold stands_31
    simp [runD, stepD, actO, kindOf, lookBack, lookAgain, putT, remAl, insT, bit, wanted_no, wanted_sv, ev_tm, ev_vl, sv_setD, setD_none, qev_mov, qev_bin, qev_un, un_not, qev_pick, bin_neq, opt_some, qev_load1, qev_nilC, nilC_ptr, qev_fld, fld0, fldN, qev_idxSl, idx2_sl, qev_callv, callA_ok ok73, e3, e4, e5, e6, e11, e12, e13, e14, e15, e16, l4, l12, l7, ld, ldw, hi, bg, R1, hz,
      show Nat.testBit 2047 3 = true from by decide, show Nat.testBit 2047 4 = true from by decide, show Nat.testBit 2047 7 = true from by decide, show Nat.testBit 2047 8 = true from by decide, show Nat.testBit 2047 10 = true from by decide]
  exact ⟨env', h2, Dos.seq (M := []) (M1 := []) (Dos.drawn hsound (runDrawn_of (acts := acts) (lds := lds) (by simp [stands_31, skipIds, isAlloc, kindOf]) e)) (Dos.cond (t := false) f164 .skip), o2, ⟨f3, f4, f5, f6, f11, f12, f13, f14⟩⟩
end
end Go.Proofs.Ytmifpiglcphmoaa.DPlays

namespace Go.Proofs.Ytmifpiglcphmoaa.DPlays
open Go Go.Proofs.Ytmifpiglcphmoaa.Am Go.Proofs

section
variable {h hS : Hp} {b3 b4 b5 b6 b11 b12 w p q : Pos} {d : Dk} {κ κ' : Pos → Nat} {c c' : Nat} {V V' : Vs} {ws ws' : List (Wr × AV)} {leave t : Int} {env : T AV} {i : Nat}

/-- Behind this round the first going over is left. -/
def stops (t leave : Int) (i : Nat) : Prop := t = 0 ∧ ((i + 1 : Nat) : Int) = leave

instance (t leave : Int) (i : Nat) : Decidable (stops t leave i) := by unfold stops; infer_instance

/-- A round over the raw writes. -/
theorem raw_body (dk : DkAt κ c hS p d V ws) (rk : RkAt κ' c' hS q d V' ws') (md : Made d) (hl : d.ws.length ≤ 100000) (m : SMem hS b3 b4 b5 b6 (.ptr p 0 0) (.ptr q 0 0) leave) (o : Only [] hS h) (e : REn env b3 b4 b5 b6 b11 b12 w i) (hi : i < d.ws.length) (k11 : Arr h b11 [int64 t]) (k12 : Arr h b12 [int64 (i : Nat)])
    {dv : AV} (kw : Arr h w [int64 (d.ws[i]).kind, int64 (d.ws[i]).area, dv]) (hd : Held 0 h 1 dv (d.ws[i]).data.length (byt (d.ws[i]).data)) (hdv : ∀ id, InN 1 dv id → hS.next.num ≤ id.num ∧ id ≠ b11 ∧ id ≠ b12) (hb : hS.next.num ≤ b12.num ∧ b11 ≠ b12) :
    ∃ env' h' S', Dos Try.prog 46 stands_35 env h (if stops t leave i then .exit 5 else .go) [] env' h' ∧ Only [] hS h' ∧ Arr h' b11 [int64 t] ∧ Arr h' b12 [int64 (i + 1 : Nat)] ∧ Only S' h h' ∧ ∀ id ∈ S', InN 1 dv id ∨ id = b12 := by
  have hsz : (d.ws[i]).data.length ≤ 1048576 := md.size _ (List.getElem_mem hi)
  have hwl : ws.length = d.ws.length := by rw [← dk.eq, List.length_map]
  have hiw : i < ws.length := by omega
  have ewi : ws[i].1 = d.ws[i] := by
    have : (ws.map Prod.fst)[i]? = d.ws[i]? := by rw [dk.eq]
    rw [List.getElem?_map, List.getElem?_eq_getElem hiw, List.getElem?_eq_getElem hi] at this
    exact Option.some.inj this
  -- what was told
  obtain ⟨env1, h1, d1, o1, f⟩ := raw_told (rk.more o .refl) (m.more o) e hi hl k12 kw hd.sl
  -- it is written over
  have kw1 := Arr.more kw o1
  have lw2 : read1 h1 w 0 2 = some dv := kw1.one (i := 2) (by simp)
  obtain ⟨h2, S2, k2, o2, hS2⟩ := over_fn (hd.more o1) (by omega)
  have oS2 : Only [] hS h2 := (((o.trans o1).mono (S' := S2) (by simp)).trans o2).mono fun id q => .inr (hdv id (hS2 id q)).1
  have k11' := (Arr.more k11 o1).only o2 fun q => (hdv _ (hS2 _ q)).2.1 rfl
  have k12' := (Arr.more k12 o1).only o2 fun q => (hdv _ (hS2 _ q)).2.2 rfl
  obtain ⟨env2, e2, ⟨g3, g4, g5, g6, g11, g12, g13, g14⟩⟩ : ∃ env', runS Try.prog true (.region stands_29) [⟨71, [dv], h1, .tup [], h2⟩] env1 h1 = some (.upt [], [], env', h2) ∧ REn env' b3 b4 b5 b6 b11 b12 w i := by
    obtain ⟨f3, f4, f5, f6, f11, f12, f13, f14⟩ := f
    obtain ⟨env', r, g3, g4, g5, g6, g11, g12, g13, g14⟩ : ∃ env', runS Try.prog true (.region stands_29) [⟨71, [dv], h1, .tup [], h2⟩] env1 h1 = some (.upt [], [], env', h2) ∧ sv env' 3 = .ptr b3 0 0 ∧ sv env' 4 = .ptr b4 0 0 ∧ sv env' 5 = .ptr b5 0 0 ∧ sv env' 6 = .ptr b6 0 0 ∧ sv env' 11 = .ptr b11 0 0 ∧ sv env' 12 = .ptr b12 0 0 ∧ sv env' 13 = int64 (i : Nat) ∧ sv env' 14 = .ptr w 0 0 := by
      simp [stands_29, runS, runR, Rs.seq, Rs.block, runOps, wanted_no, wanted_sv, ev_tm, ev_vl, sv_setD, sv_set, setD_none, qev_mov, qev_bin, qev_un, qev_lenI, qev_pick, qev_load1, qev_idxSl, idx2_sl, idxA2_ptr, opt_some, bin_add, bin_sub, bin_mul, bin_lss, bin_leq, bin_gtr, bin_geq, bin_eql, bin_neq, un_not, un_neg, qev_callv, qev_new1, qev_store1, qev_nilC, nilC_ptr, qev_fld, fld0, fldN, qev_extract, nth0, nth1, nth2, qev_eqPtr, sameP_nil, notIf, callA_ok ok71, f3, f4, f5, f6, f11, f12, f13, f14, lw2]
    exact ⟨env', r, ⟨g3, g4, g5, g6, g11, g12, g13, g14⟩⟩
  -- Write
  have M2 := m.more oS2
  have l3 := M2.k3.load
  have l12 := k12'.load
  obtain ⟨v', h3, k3, r3, o3⟩ := dwrite_fn (dk.more oS2 .refl) hiw hl (by rw [ewi]; exact hsz)
  rw [ewi] at k3 r3
  have o4 : Only [] h3 (newH h3 fun s => .cells s (Cells.ofL [int64 0, int64 0, .nilSl]) 0 0 0 0 false false) := newH_only _ _ _
  have b4' := newH_arr h3 [int64 0, int64 0, .nilSl]
  have nw := fun env => qev_newL Try.prog env h3 [int64 0, int64 0, .nilSl]
  obtain ⟨h5, st5, b5', o5, n5⟩ := storeN_arr Try.prog b4' (xs := [int64 (d.ws[i]).kind, int64 (d.ws[i]).area, v']) rfl (by simp) (fun x hx => by
    simp only [List.mem_cons, List.not_mem_nil, or_false] at hx
    rcases hx with e | e | e <;> subst e
    · rfl
    · rfl
    · exact r3.atom.1)
  simp only [List.length_cons, List.length_nil] at st5
  have o35 : Only [] h3 h5 := ((o4.mono (S' := [h3.next]) (by simp)).trans o5).mono fun id hid => .inr (by simp only [List.mem_singleton] at hid; subst hid; exact Nat.le_refl _)
  obtain ⟨env3, e3', i3, i4, i5, i6, i11, i12, i13, i14, i15, i16⟩ : ∃ env', runS Try.prog true (.region stands_30) [⟨48, [.ptr p 0 0, int64 (i : Nat)], h2, .tup [.agg [int64 (d.ws[i]).kind, int64 (d.ws[i]).area, v'], int64 0], h3⟩] env2 h2 = some (.upt [], [], env', h5) ∧ sv env' 3 = .ptr b3 0 0 ∧ sv env' 4 = .ptr b4 0 0 ∧ sv env' 5 = .ptr b5 0 0 ∧ sv env' 6 = .ptr b6 0 0 ∧ sv env' 11 = .ptr b11 0 0 ∧ sv env' 12 = .ptr b12 0 0 ∧ sv env' 13 = int64 (i : Nat) ∧ sv env' 14 = .ptr w 0 0 ∧ sv env' 15 = .ptr h3.next 0 0 ∧ sv env' 16 = int64 0 := by
    simp [stands_30, runS, runR, Rs.seq, Rs.block, runOps, wanted_no, wanted_sv, ev_tm, ev_vl, sv_setD, sv_set, setD_none, qev_mov, qev_bin, qev_un, qev_lenI, qev_pick, qev_load1, qev_idxSl, idx2_sl, idxA2_ptr, opt_some, bin_add, bin_sub, bin_mul, bin_lss, bin_leq, bin_gtr, bin_geq, bin_eql, bin_neq, un_not, un_neg, qev_callv, qev_new1, qev_store1, qev_nilC, nilC_ptr, qev_fld, fld0, fldN, qev_extract, nth0, nth1, nth2, qev_eqPtr, sameP_nil, notIf, callA_ok ok48, g3, g4, g5, g6, g11, g12, g13, g14, l3, l12, nw, st5]
  have o25 : Only [] h2 h5 := o3.trans o35
  have oS5 := oS2.trans o25
  have k12'' := Arr.more k12' o25
  obtain ⟨env4, h6, d6, o6, ⟨j3, j4, j5, j6, j11, j12, j13, j14⟩⟩ := raw_wrote (rk.more oS5 .refl) (m.more oS5) ⟨i3, i4, i5, i6, i11, i12, i13, i14⟩ i15 i16 hi hl k12'' b5' (r3.more o35)
  have oS6 := oS5.trans o6
  have k12c := Arr.more k12'' o6
  have k11c := Arr.more (Arr.more k11' o25) o6
  have l12c := k12c.load
  have w1 : wrapA .i64 ((i : Int) + 1) = ((i + 1 : Nat) : Int) := by rw [wrap64 (by omega) (by omega)]; omega
  have pu := storeR_arr k12c (i := 0) (by simp) (int64 (i + 1 : Nat)) rfl rfl
  have k12d : Arr (putA h6 b12 0 (int64 (i + 1 : Nat))) b12 [int64 (i + 1 : Nat)] := putA_arr k12c (i := 0) (by simp) (int64 (i + 1 : Nat))
  have o7 := putA_only h6 b12 0 (int64 (i + 1 : Nat))
  have k11d := k11c.only o7 (by simpa using hb.2)
  have oS7 : Only [] hS (putA h6 b12 0 (int64 (i + 1 : Nat))) := ((oS6.mono (S' := [b12]) (by simp)).trans o7).mono fun id hid => .inr (by simp at hid; subst hid; exact hb.1)
  have oA : Only (S2 ++ [b12]) h (putA h6 b12 0 (int64 (i + 1 : Nat))) := (((o1.mono (S' := S2 ++ [b12]) (by simp)).trans (o2.mono fun id q => .inl (by simp [q]))).trans ((o25.trans o6).mono (by simp))).trans (o7.mono fun id q => .inl (by simp at q; simp [q]))
  have hSA : ∀ id ∈ S2 ++ [b12], InN 1 dv id ∨ id = b12 := fun id q => by
    rcases List.mem_append.1 q with q | q
    · exact .inl (hS2 id q)
    · exact .inr (by simpa using q)
  have M7 := m.more oS7
  generalize putA h6 b12 0 (int64 (i + 1 : Nat)) = h7 at *
  have l11 := k11d.load
  have l12d := k12d.load
  have l5 := M7.k5.load
  have pu' : storeR (.ptr b12 0 0) (int64 ((i : Int) + 1)) h6 = .val .undef h7 := by
    have := pu
    simpa using this
  obtain ⟨env5, e5, n5', n11, n12⟩ : ∃ env', runOps Try.prog stands_33 env4 h6 = some (env', h7) ∧ sv env' 5 = .ptr b5 0 0 ∧ sv env' 11 = .ptr b11 0 0 ∧ sv env' 12 = .ptr b12 0 0 := by
    simp [stands_33, runOps, wanted_no, wanted_sv, ev_tm, ev_vl, sv_setD, sv_set, setD_none, qev_mov, qev_bin, qev_un, qev_lenI, qev_pick, qev_load1, qev_idxSl, idx2_sl, idxA2_ptr, opt_some, bin_add, bin_sub, bin_mul, bin_lss, bin_leq, bin_gtr, bin_geq, bin_eql, bin_neq, un_not, un_neg, qev_callv, qev_new1, qev_store1, qev_nilC, nilC_ptr, qev_fld, fld0, fldN, qev_extract, nth0, nth1, nth2, qev_eqPtr, sameP_nil, notIf, j5, j11, j12, l12c, w1, pu']
  obtain ⟨env6, e6, q196⟩ : ∃ env', runOps Try.prog stands_34 env5 h7 = some (env', h7) ∧ sv env' 196 = .bool (decide (stops t leave i)) := by
    by_cases h0 : t = 0
    · subst h0
      have es : decide (stops 0 leave i) = decide ((i : Int) + 1 = leave) := by
        unfold stops
        simp
      rw [es]
      simp [stands_34, runOps, wanted_no, wanted_sv, ev_tm, ev_vl, sv_setD, sv_set, setD_none, qev_mov, qev_bin, qev_un, qev_lenI, qev_pick, qev_load1, qev_idxSl, idx2_sl, idxA2_ptr, opt_some, bin_add, bin_sub, bin_mul, bin_lss, bin_leq, bin_gtr, bin_geq, bin_eql, bin_neq, un_not, un_neg, qev_callv, qev_new1, qev_store1, qev_nilC, nilC_ptr, qev_fld, fld0, fldN, qev_extract, nth0, nth1, nth2, qev_eqPtr, sameP_nil, notIf, wanted_sv, n5', n11, n12, l11, l12d, l5]
    · have es : decide (stops t leave i) = false := by
        unfold stops
        simp [h0]
      rw [es]
      simp [stands_34, runOps, wanted_no, wanted_sv, ev_tm, ev_vl, sv_setD, sv_set, setD_none, qev_mov, qev_bin, qev_un, qev_lenI, qev_pick, qev_load1, qev_idxSl, idx2_sl, idxA2_ptr, opt_some, bin_add, bin_sub, bin_mul, bin_lss, bin_leq, bin_gtr, bin_geq, bin_eql, bin_neq, un_not, un_neg, qev_callv, qev_new1, qev_store1, qev_nilC, nilC_ptr, qev_fld, fld0, fldN, qev_extract, nth0, nth1, nth2, qev_eqPtr, sameP_nil, notIf, wanted_sv, n5', n11, n12, l11, l12d, l5, h0]
  refine ⟨env6, h7, S2 ++ [b12], ?_, oS7, k11d, k12d, oA, hSA⟩
  have tail : Dos Try.prog 46 (.cond (tm 196) (.exit 5) .skip) env6 h7 (if stops t leave i then .exit 5 else .go) [] env6 h7 := by
    by_cases hs : stops t leave i
    · rw [if_pos hs]
      rw [decide_eq_true hs] at q196
      exact Dos.cond (t := true) q196 .exit
    · rw [if_neg hs]
      rw [decide_eq_false hs] at q196
      exact Dos.cond (t := false) q196 .skip
  have k2w : ∀ z ∈ [(⟨71, [dv], h1, .tup [], h2⟩ : KC)], AmFn Try.prog z.f z.args z.h z.v z.h' := by intro z hz; simp at hz; subst hz; exact k2
  have k3w : ∀ z ∈ [(⟨48, [.ptr p 0 0, int64 (i : Nat)], h2, .tup [.agg [int64 (d.ws[i]).kind, int64 (d.ws[i]).area, v'], int64 0], h3⟩ : KC)], AmFn Try.prog z.f z.args z.h z.v z.h' := by intro z hz; simp only [List.mem_singleton] at hz; subst hz; exact k3
  have body := Dos.seq (M := []) (M1 := []) d1 (Dos.seq (M := []) (M1 := []) (Dos.runGo _ k2w e2) (Dos.seq (M := []) (M1 := []) (Dos.runGo _ k3w e3') (Dos.seq (M := []) (M1 := []) d6 (Dos.seq (M := []) (M1 := []) (Dos.region e5) (Dos.seq (M := []) (M1 := []) (Dos.region e6) tail)))))
  have := Dos.block (i := 6) body
  unfold stands_35
  by_cases hs : stops t leave i
  · rw [if_pos hs] at this ⊢
    exact this
  · rw [if_neg hs] at this ⊢
    exact this
end
end Go.Proofs.Ytmifpiglcphmoaa.DPlays
