import Derived.Test.YtmifpiglcphmoaaCutsC
/- THE WALK'S PARTS, part D: what the functions of the law compute, over the abstract machine that stands beside this text. No condition. -/
set_option linter.unusedSimpArgs false
set_option linter.unusedVariables false
namespace Go.Proofs.Ytmifpiglcphmoaa.Cuts
open Go Go.Proofs.Ytmifpiglcphmoaa.Am Go.Proofs

/-- What the going over of the raw writes knows. -/
structure Lp (hd h : Hp) (pa b13 b15 : Pos) (d : Dk) (κ : Pos → Nat) (V : Vs) (ws : List (Wr × AV)) (i : Nat) : Prop where
  ag : DkAt κ 1 h pa (d.cut i) V ws
  k13 : Arr h b13 [.ptr pa 0 0]
  k15 : Arr h b15 [int64 i]
  o : Only [] hd h

/-- Its variables. -/
structure EnL (env : T AV) (b6 b8 b9 b13 b15 : Pos) (w : Pos) : Prop where
  e6 : sv env 6 = .ptr b6 0 0
  e8 : sv env 8 = .ptr b8 0 0
  e9 : sv env 9 = .ptr b9 0 0
  e13 : sv env 13 = .ptr b13 0 0
  e15 : sv env 15 = .ptr b15 0 0
  e17 : sv env 17 = .ptr w 0 0

section
variable {hd h : Hp} {pa p b6 b8 b9 b13 b15 w : Pos} {d : Dk} {κ κ0 : Pos → Nat} {V V0 : Vs} {ws ws0 : List (Wr × AV)} {i : Nat} {n : Int} {env : T AV}

theorem Lp.more {h' : Hp} (a : Lp hd h pa b13 b15 d κ V ws i) (o : Only [] h h') : Lp hd h' pa b13 b15 d κ V ws i := ⟨a.ag.more o .refl, Arr.more a.k13 o, Arr.more a.k15 o, a.o.trans o⟩

/-- The cut is what has been made again. -/
theorem loop_check (dk : DkAt κ0 1 hd p d V0 ws0) (m : Made d) (hl : d.ws.length ≤ 60) (k6 : Arr hd b6 [int64 n]) (k9 : Arr hd b9 [.ptr p 0 0]) (a : Lp hd h pa b13 b15 d κ V ws i) (e : EnL env b6 b8 b9 b13 b15 w) (hi : i < d.ws.length) :
    ∃ env' h', Dos Try.prog 6 (.seq (.region lcuts_23) (.cond (tm 113) (.seq (.region lcuts_24) (.seq (.drawn lcuts_25) (.cond (tm 133) (.seq (.region lcuts_26) .ret) .skip))) .skip)) env h .go [] env' h' ∧ Only [] h h' ∧ EnL env' b6 b8 b9 b13 b15 w := by
  obtain ⟨e6, e8, e9, e13, e15, e17⟩ := e
  have l15 := a.k15.load
  have l6 := (Arr.more k6 a.o).load
  have l9 := (Arr.more k9 a.o).load
  obtain ⟨env1, d1, f6, f8, f9, f13, f15, f17, f113⟩ : ∃ env', runOps Try.prog lcuts_23 env h = some (env', h) ∧ sv env' 6 = .ptr b6 0 0 ∧ sv env' 8 = .ptr b8 0 0 ∧ sv env' 9 = .ptr b9 0 0 ∧ sv env' 13 = .ptr b13 0 0 ∧ sv env' 15 = .ptr b15 0 0 ∧ sv env' 17 = .ptr w 0 0 ∧ sv env' 113 = .bool (decide ((i : Int) = n)) := by
    simp [lcuts_23, runOps, wanted_no, wanted_sv, ev_tm, ev_vl, sv_setD, sv_set, setD_none, qev_mov, qev_bin, qev_un, qev_lenI, qev_pick, qev_load1, qev_idxSl, idx2_sl, idxA2_ptr, opt_some, bin_add, bin_sub, bin_mul, bin_lss, bin_leq, bin_gtr, bin_geq, bin_eql, bin_neq, un_not, un_neg, qev_callv, qev_new1, qev_store1, qev_nilC, nilC_ptr, qev_fld, fldA_ptr, qev_extract, nth0, nth1, nth2, qev_eqPtr, sameP_nil, notIf, e6, e8, e9, e13, e15, e17, l15, l6]
  by_cases hin : (i : Int) = n
  · rw [decide_eq_true hin] at f113
    subst hin
    have D := dk.more a.o .refl
    obtain ⟨κc, h2, Vc, wc, pc, kc, _, o2, C, _⟩ := cut_fn D m (by omega) (n := i) (by omega) (fun _ => 0) 1
    have a2 := a.more o2
    obtain ⟨env2, d2, g6, g8, g9, g13, g15, g17, g18, g19⟩ : ∃ env', runS Try.prog true (.region lcuts_24) [⟨40, [.ptr p 0 0, int64 i], h, .tup [.ptr pc 0 0, int64 0], h2⟩] env1 h = some (.upt [], [], env', h2) ∧ sv env' 6 = .ptr b6 0 0 ∧ sv env' 8 = .ptr b8 0 0 ∧ sv env' 9 = .ptr b9 0 0 ∧ sv env' 13 = .ptr b13 0 0 ∧ sv env' 15 = .ptr b15 0 0 ∧ sv env' 17 = .ptr w 0 0 ∧ sv env' 18 = .ptr pc 0 0 ∧ sv env' 19 = int64 0 := by
      simp [lcuts_24, runS, runR, Rs.seq, Rs.block, runOps, wanted_no, wanted_sv, ev_tm, ev_vl, sv_setD, sv_set, setD_none, qev_mov, qev_bin, qev_un, qev_lenI, qev_pick, qev_load1, qev_idxSl, idx2_sl, idxA2_ptr, opt_some, bin_add, bin_sub, bin_mul, bin_lss, bin_leq, bin_gtr, bin_geq, bin_eql, bin_neq, un_not, un_neg, qev_callv, qev_new1, qev_store1, qev_nilC, nilC_ptr, qev_fld, fldA_ptr, qev_extract, nth0, nth1, nth2, qev_eqPtr, sameP_nil, notIf, callA_ok ok40, f6, f8, f9, f13, f15, f17, l9, l6]
    have ks := same_yes C a2.ag rfl rfl rfl rfl
    have kw := writes_fn C
    rw [(cut_fix d i).2.2.2.2, List.length_take, Nat.min_eq_left (by omega)] at kw
    have hsound := recG_sound (P := Try.prog) (A := [⟨41, [.ptr pc 0 0, .ptr pa 0 0], h2, .bool true, h2⟩, ⟨42, [.ptr pc 0 0], h2, int64 i, h2⟩]) (by
      intro z hz
      simp only [List.mem_cons, List.not_mem_nil, or_false] at hz
      rcases hz with q | q <;> subst q
      · exact ks
      · exact kw)
    have R1 := recG_hit (P := Try.prog) 41 [.ptr pc 0 0, .ptr pa 0 0] h2 (.bool true) h2 [⟨42, [.ptr pc 0 0], h2, int64 i, h2⟩]
    have R2 := recG_next (P := Try.prog) (a := ⟨41, [.ptr pc 0 0, .ptr pa 0 0], h2, .bool true, h2⟩) (recG_hit (P := Try.prog) 42 [.ptr pc 0 0] h2 (int64 i) h2 []) (fun q _ => absurd (frOf_fn kw ks q) (by decide))
    have bg1 := ks.begins.1
    have bg2 := kw.begins.1
    generalize recG Try.prog [⟨41, [.ptr pc 0 0, .ptr pa 0 0], h2, .bool true, h2⟩, ⟨42, [.ptr pc 0 0], h2, int64 i, h2⟩] = R at *
    have m13 := a2.k13.load
    have m6 := (Arr.more k6 a2.o).load
    have hz : ∀ hh : Hp, (⟨hh.heap, hh.next, hh.ser, hh.lim⟩ : Hp) = hh := fun _ => rfl
    obtain ⟨env3, acts, lds, d3, j6, j8, j9, j13, j15, j17, j133⟩ : ∃ env' acts lds, runD Try.prog R 0 lcuts_25 ⟨[], [], [], h2.next, env2, h2⟩ = some ⟨acts, lds, [], h2.next, env', h2⟩ ∧ sv env' 6 = .ptr b6 0 0 ∧ sv env' 8 = .ptr b8 0 0 ∧ sv env' 9 = .ptr b9 0 0 ∧ sv env' 13 = .ptr b13 0 0 ∧ sv env' 15 = .ptr b15 0 0 ∧ sv env' 17 = .ptr w 0 0 ∧ sv env' 133 = .bool false := by
      simp [lcuts_25, runD, stepD, actO, kindOf, lookBack, lookAgain, putT, remAl, insT, bit, eqAV_int8, wanted_no, wanted_sv, ev_tm, ev_vl, sv_setD, setD_none, qev_mov, qev_bin, bin_neq, qev_un, un_not, qev_pick, opt_some, qev_load1, qev_callv, callA_ok ok41, callA_ok ok42, g6, g8, g9, g13, g15, g17, g18, g19, m13, m6, bg1, bg2, R1, R2, hz, show Nat.testBit 1023 4 = true from by decide]
    have dd := runDrawn_of (acts := acts) (lds := lds) (by simp [lcuts_25, skipIds, isAlloc, kindOf]) d3
    refine ⟨env3, h2, ?_, o2, ⟨j6, j8, j9, j13, j15, j17⟩⟩
    exact Dos.seq (M := []) (M1 := []) (Dos.region d1) (Dos.cond (t := true) f113 (Dos.seq (M := []) (M1 := []) (Dos.runGo _ (by intro z hz; simp at hz; subst hz; exact kc) d2) (Dos.seq (M := []) (M1 := []) (Dos.drawn hsound dd) (Dos.cond (t := false) j133 .skip))))
  · rw [decide_eq_false hin] at f113
    exact ⟨env1, h, Dos.seq (M := []) (M1 := []) (Dos.region d1) (Dos.cond (t := false) f113 .skip), .refl _ _, ⟨f6, f8, f9, f13, f15, f17⟩⟩

theorem wr_eq (w : Wr) {k a : Int} {b : List UInt8} (h1 : w.kind = k) (h2 : w.area = a) (h3 : w.data = b) : w = ⟨k, a, b⟩ := by cases w; simp_all

/-- The raw write is made again. -/
theorem loop_again (hl : d.ws.length ≤ 60) (a : Lp hd h pa b13 b15 d κ V ws i) (e : EnL env b6 b8 b9 b13 b15 w) (hi : i < d.ws.length) (hw : (d.ws[i]).Ok (d.cut i)) {dv : AV} (kw : Arr h w [int64 (d.ws[i]).kind, int64 (d.ws[i]).area, dv]) (r : SlN h 1 dv (d.ws[i]).data.length (byt (d.ws[i]).data)) :
    ∃ env' κ' h' V' ws', Dos Try.prog 6 (.seq (.region lcuts_27) (.block 5 (.seq (.region lcuts_28) (.cond (tm 136) (.region lcuts_29) (.seq (.region lcuts_30) (.cond (tm 144) (.region lcuts_31) (.seq (.region lcuts_32) (.cond (tm 150) (.region lcuts_33) .skip)))))))) env h .go [] env' h' ∧
      Agr h κ κ' ∧ Chg κ (Wk 1) h h' ∧ DkAt κ' 1 h' pa (d.cut (i + 1)) V' ws' ∧ sv env' 15 = .ptr b15 0 0 := by
  obtain ⟨e6, e8, e9, e13, e15, e17⟩ := e
  have hlen : (d.cut i).ws.length ≤ 100000 := by rw [(cut_fix d i).2.2.2.2, List.length_take]; omega
  rw [cut_succ hi]
  have l0 : read1 h w 0 0 = some (int64 (d.ws[i]).kind) := kw.one (i := 0) (by simp)
  have l1 : read1 h w 0 1 = some (int64 (d.ws[i]).area) := kw.one (i := 1) (by simp)
  have l2 : read1 h w 0 2 = some dv := kw.one (i := 2) (by simp)
  have l13 := a.k13.load
  generalize d.ws[i] = u at *
  have hok := a.ag.ok
  rcases hw.kind with k | k | k
  · have hroom := hw.room k
    have hE : (d.cut i).layE u.area u.data = 0 := by unfold Dk.layE; rw [if_pos hw.area, if_neg (by omega)]
    have hD : (d.cut i).layD u.area u.data = (d.cut i).put u := by
      unfold Dk.layD
      rw [if_pos hE, ← wr_eq u k rfl rfl]
    obtain ⟨κ', h', V', ws', kc, g, c, dk⟩ := dlay_fn a.ag u.area r hlen
    rw [hE] at kc
    rw [hD] at dk
    obtain ⟨env', e2, f15⟩ : ∃ env', runS Try.prog true (.seq (.region lcuts_27) (.block 5 (.seq (.region lcuts_28) (.cond (tm 136) (.region lcuts_29) (.seq (.region lcuts_30) (.cond (tm 144) (.region lcuts_31) (.seq (.region lcuts_32) (.cond (tm 150) (.region lcuts_33) .skip)))))))) [⟨36, [.ptr pa 0 0, int64 u.area, dv], h, int64 0, h'⟩] env h = some (.upt [], [], env', h') ∧ sv env' 15 = .ptr b15 0 0 := by
      simp [lcuts_27, lcuts_28, lcuts_29, runS, runR, Rs.seq, Rs.block, runOps, wanted_no, wanted_sv, ev_tm, ev_vl, sv_setD, sv_set, setD_none, qev_mov, qev_bin, qev_un, qev_lenI, qev_pick, qev_load1, qev_idxSl, idx2_sl, idxA2_ptr, opt_some, bin_add, bin_sub, bin_mul, bin_lss, bin_leq, bin_gtr, bin_geq, bin_eql, bin_neq, un_not, un_neg, qev_callv, qev_new1, qev_store1, qev_nilC, nilC_ptr, qev_fld, fldA_ptr, qev_extract, nth0, nth1, nth2, qev_eqPtr, sameP_nil, notIf, callA_ok ok36, e6, e8, e9, e13, e15, e17, l0, l1, l2, l13, k]
    exact ⟨env', κ', h', V', ws', Dos.runGo _ (by intro z hz; simp at hz; subst hz; exact kc) e2, g, c, dk, f15⟩
  · have hE : (d.cut i).clearE u.area = 0 := by unfold Dk.clearE; rw [if_pos hw.area]
    have hD : (d.cut i).clearD u.area = (d.cut i).put u := by
      unfold Dk.clearD
      rw [if_pos hE, ← wr_eq u k rfl (hw.norm.1 k)]
    obtain ⟨κ', h', V', ws', kc, g, c, dk⟩ := dclear_fn a.ag u.area hlen
    rw [hE] at kc
    rw [hD] at dk
    obtain ⟨env', e2, f15⟩ : ∃ env', runS Try.prog true (.seq (.region lcuts_27) (.block 5 (.seq (.region lcuts_28) (.cond (tm 136) (.region lcuts_29) (.seq (.region lcuts_30) (.cond (tm 144) (.region lcuts_31) (.seq (.region lcuts_32) (.cond (tm 150) (.region lcuts_33) .skip)))))))) [⟨37, [.ptr pa 0 0, int64 u.area], h, int64 0, h'⟩] env h = some (.upt [], [], env', h') ∧ sv env' 15 = .ptr b15 0 0 := by
      simp [lcuts_27, lcuts_28, lcuts_30, lcuts_31, runS, runR, Rs.seq, Rs.block, runOps, wanted_no, wanted_sv, ev_tm, ev_vl, sv_setD, sv_set, setD_none, qev_mov, qev_bin, qev_un, qev_lenI, qev_pick, qev_load1, qev_idxSl, idx2_sl, idxA2_ptr, opt_some, bin_add, bin_sub, bin_mul, bin_lss, bin_leq, bin_gtr, bin_geq, bin_eql, bin_neq, un_not, un_neg, qev_callv, qev_new1, qev_store1, qev_nilC, nilC_ptr, qev_fld, fldA_ptr, qev_extract, nth0, nth1, nth2, qev_eqPtr, sameP_nil, notIf, callA_ok ok37, e6, e8, e9, e13, e15, e17, l0, l1, l2, l13, k]
    exact ⟨env', κ', h', V', ws', Dos.runGo _ (by intro z hz; simp at hz; subst hz; exact kc) e2, g, c, dk, f15⟩
  · have hD : (d.cut i).turnD = (d.cut i).put u := by
      unfold Dk.turnD
      rw [← wr_eq u k (hw.norm.2 k).1 (hw.norm.2 k).2]
    obtain ⟨κ', h', V', ws', kc, g, c, dk⟩ := dturn_fn a.ag hlen
    rw [hD] at dk
    obtain ⟨env', e2, f15⟩ : ∃ env', runS Try.prog true (.seq (.region lcuts_27) (.block 5 (.seq (.region lcuts_28) (.cond (tm 136) (.region lcuts_29) (.seq (.region lcuts_30) (.cond (tm 144) (.region lcuts_31) (.seq (.region lcuts_32) (.cond (tm 150) (.region lcuts_33) .skip)))))))) [⟨38, [.ptr pa 0 0], h, int64 0, h'⟩] env h = some (.upt [], [], env', h') ∧ sv env' 15 = .ptr b15 0 0 := by
      simp [lcuts_27, lcuts_28, lcuts_30, lcuts_32, lcuts_33, runS, runR, Rs.seq, Rs.block, runOps, wanted_no, wanted_sv, ev_tm, ev_vl, sv_setD, sv_set, setD_none, qev_mov, qev_bin, qev_un, qev_lenI, qev_pick, qev_load1, qev_idxSl, idx2_sl, idxA2_ptr, opt_some, bin_add, bin_sub, bin_mul, bin_lss, bin_leq, bin_gtr, bin_geq, bin_eql, bin_neq, un_not, un_neg, qev_callv, qev_new1, qev_store1, qev_nilC, nilC_ptr, qev_fld, fldA_ptr, qev_extract, nth0, nth1, nth2, qev_eqPtr, sameP_nil, notIf, callA_ok ok38, e6, e8, e9, e13, e15, e17, l0, l1, l2, l13, k]
    exact ⟨env', κ', h', V', ws', Dos.runGo _ (by intro z hz; simp at hz; subst hz; exact kc) e2, g, c, dk, f15⟩
end
end Go.Proofs.Ytmifpiglcphmoaa.Cuts

namespace Go.Proofs.Ytmifpiglcphmoaa.Cuts
open Go Go.Proofs.Ytmifpiglcphmoaa.Am Go.Proofs

section
variable {hd h : Hp} {pa p b6 b8 b9 b13 b15 w : Pos} {d : Dk} {κ κ0 : Pos → Nat} {V V0 : Vs} {ws ws0 : List (Wr × AV)} {i : Nat} {n : Int} {env : T AV}

/-- A round of the going over. -/
theorem loop_body (dk : DkAt κ0 1 hd p d V0 ws0) (m : Made d) (hl : d.ws.length ≤ 60) (k6 : Arr hd b6 [int64 n]) (k9 : Arr hd b9 [.ptr p 0 0]) (a : Lp hd h pa b13 b15 d κ V ws i) (q13 : κ b13 = 9) (q15 : κ b15 = 9) (hn : hd.next.num ≤ b15.num ∧ b13 ≠ b15) (hold : ∀ id, id.num < hd.next.num → κ id = 0)
    (e : EnL env b6 b8 b9 b13 b15 w) (hi : i < d.ws.length) {dv : AV} (kw : Arr h w [int64 (d.ws[i]).kind, int64 (d.ws[i]).area, dv]) (r : SlN h 1 dv (d.ws[i]).data.length (byt (d.ws[i]).data)) :
    ∃ env' κ' h' V' ws' S, Dos Try.prog 6 lcuts_35 env h .go [] env' h' ∧ Lp hd h' pa b13 b15 d κ' V' ws' (i + 1) ∧ Agr h κ κ' ∧ Only S h h' ∧ ∀ id ∈ S, id.num < h.next.num → Wk 1 (κ id) ∨ id = b15 := by
  obtain ⟨env1, h1, d1, o1, e1⟩ := loop_check dk m hl k6 k9 a e hi
  have a1 := a.more o1
  obtain ⟨env2, κ2, h2, V2, ws2, d2, g2, ⟨S, o2, hS⟩, D2, f15⟩ := loop_again hl a1 e1 hi (m.hist.each i _ (List.getElem?_eq_getElem hi)) (Arr.more kw o1) (r.more o1)
  have w9 : ¬ Wk 1 9 := by unfold Wk; omega
  have c2 : Chg κ (Wk 1) h1 h2 := ⟨S, o2, hS⟩
  have c13 := (⟨a1.k13, q13⟩ : KArr κ 9 h1 b13 _).chg c2 g2 w9
  have c15 := (⟨a1.k15, q15⟩ : KArr κ 9 h1 b15 _).chg c2 g2 w9
  have l15 := c15.arr.load
  have st := storeR_arr c15.arr (i := 0) (by simp) (int64 ((i + 1 : Nat) : Int)) rfl rfl
  obtain ⟨c15', ch⟩ := c15.put (i := 0) (by simp) (int64 ((i + 1 : Nat) : Int))
  have w1 : wrapA .i64 ((i : Int) + 1) = ((i + 1 : Nat) : Int) := (wrap64 (by omega) (by omega)).trans (by omega)
  obtain ⟨env3, e3⟩ : ∃ env', runS Try.prog true (.region lcuts_34) [] env2 h2 = some (.upt [], [], env', putA h2 b15 0 (int64 ((i + 1 : Nat) : Int))) := by
    simp only [Int.natCast_add, Int.cast_ofNat_Int] at st w1 ⊢
    simp [lcuts_34, runS, runR, Rs.seq, Rs.block, runOps, wanted_no, wanted_sv, ev_tm, ev_vl, sv_setD, sv_set, setD_none, qev_mov, qev_bin, qev_un, qev_lenI, qev_pick, qev_load1, qev_idxSl, idx2_sl, idxA2_ptr, opt_some, bin_add, bin_sub, bin_mul, bin_lss, bin_leq, bin_gtr, bin_geq, bin_eql, bin_neq, un_not, un_neg, qev_callv, qev_new1, qev_store1, qev_nilC, nilC_ptr, qev_fld, fldA_ptr, qev_extract, nth0, nth1, nth2, qev_eqPtr, sameP_nil, notIf, f15, l15, w1, st]
  have n1 := o1.next
  have o3 := putA_only h2 b15 0 (int64 ((i + 1 : Nat) : Int))
  refine ⟨env3, κ2, _, V2, ws2, S ++ [b15], ?_, ⟨D2.chg ch .refl (by omega), (c13.arr.only o3 (by simpa using hn.2)), c15'.arr, ?_⟩, fun id q => g2 id (by omega), ?_, fun id hid hlt => ?_⟩
  · exact Dos.block (i := 4) (o := .go) (Dos.seq (M := []) (M1 := []) d1 (Dos.seq (M := []) (M1 := []) d2 (Dos.runGo [] (by simp) e3)))
  · have n0 := a.o.next
    refine (((a1.o.mono (S' := S ++ [b15]) (by simp)).trans (o2.mono fun id q => .inl (by simp [q]))).trans (o3.mono fun id q => .inl (by simp at q; simp [q]))).mono fun id q => .inr ?_
    rcases List.mem_append.1 q with q | q
    · rcases Nat.lt_or_ge id.num hd.next.num with c | c
      · have := hS id q (by omega)
        rw [hold id c] at this
        exact absurd this (by unfold Wk; omega)
      · exact c
    · simp only [List.mem_singleton] at q
      subst q
      exact hn.1
  · exact ((o1.mono (S' := S ++ [b15]) (by simp)).trans (o2.mono fun id q => .inl (by simp [q]))).trans (o3.mono fun id q => .inl (by simp at q; simp [q]))
  · rcases List.mem_append.1 hid with q | q
    · exact .inl (hS id q (by omega))
    · exact .inr (by simpa using q)

/-- All is gone over, and the disk is made again. -/
theorem loop_all (dk : DkAt κ0 1 hd p d V0 ws0) (m : Made d) (hl : d.ws.length ≤ 60) (k6 : Arr hd b6 [int64 n]) (k9 : Arr hd b9 [.ptr p 0 0]) {q : Pos} {v' : AV} {h7 : Hp} (b7 : Box h7 q v') (hv : Held hd.next.num h7 3 v' d.ws.length (recs ws0)) (hq : hd.next.num ≤ q.num) (o7 : Only [] hd h7)
    {κ8 : Pos → Nat} {V8 : Vs} (ag : DkAt κ8 1 h pa d.base V8 []) (kz : ∀ id, id.num < h7.next.num → κ8 id = 0) (o8 : Only [] h7 h) (k13 : Arr h b13 [.ptr pa 0 0]) (k15 : Arr h b15 [int64 ((0 : Nat) : Int)]) (q13 : κ8 b13 = 9) (q15 : κ8 b15 = 9) (hn : h7.next.num ≤ b15.num ∧ b13 ≠ b15)
    (e6 : sv env 6 = .ptr b6 0 0) (e8 : sv env 8 = .ptr b8 0 0) (e9 : sv env 9 = .ptr b9 0 0) (e13 : sv env 13 = .ptr b13 0 0) (e15 : sv env 15 = .ptr b15 0 0) (e108 : sv env 108 = .fn (.func 67) [] [.ptr q 0 0]) :
    ∃ κ' h' V' ws', Dos Try.prog 6 (.rangeFunc (tm 108) [(Pos.ofNat 109), (Pos.ofNat 110)] lcuts_22 lcuts_35) env h .go [.mark h.next] env h' ∧ Lp hd h' pa b13 b15 d κ' V' ws' d.ws.length ∧ (∃ s, T.get h.next h'.heap = some (.dfr s)) ∧ h.next.num < h'.next.num ∧ κ' h.next ≠ 0 ∧ (∀ id, id.num < h.next.num → κ' id = κ8 id) ∧ κ' h.next = 10 := by
  have hwl : ws0.length = d.ws.length := by rw [← dk.eq, List.length_map]
  have n7 := o7.next
  have n8 := o8.next
  have old13 := k13.old
  have old15 := k15.old
  have oh := o7.trans o8
  have dold : ∀ x ∈ ws0, ∀ id, InN 1 x.2 id → id.num < hd.next.num := fun x hx id q => ((dk.dat x hx).k id q).2
  rw [← hwl] at hv
  have goer := yall_goes (by omega) (b7.only o8 (by simp)) ((hv.weak (Nat.zero_le _)).more o8) (fun x hx => ((dk.dat x hx).sl.more oh)) (fun x hx id q => by have := dold x hx id q; omega) (fun x hx => m.size x.1 (by rw [← dk.eq]; exact List.mem_map_of_mem hx))
  have hM : ∀ id, heldA q v' ws0 id → id.num < h7.next.num := fun id c => by
    rcases c with (c | c) | ⟨x, hx, c⟩
    · subst c; exact b7.old
    · exact (hv.old c).2
    · have := dold x hx id c; omega
  obtain ⟨S, hS⟩ := stretch h7.next.num h.next.num
  have hS2 : ∀ id ∈ S, ¬ heldA q v' ws0 id ∧ id.num < h.next.num := fun id hid => by
    have hid := (hS id).1 hid
    exact ⟨fun c => by have := hM id c; omega, hid.2⟩
  obtain ⟨B, hB, over⟩ := Dos.overA (F := 6) (env := env) (h := h) (f := tm 108) (params := [Pos.ofNat 109, Pos.ofNat 110]) (assign := lcuts_22) (body := lcuts_35) goer (fun id c => by have := hM id c; omega) ok67 e108 hS2 (K := ws0.length) (Nat.le_refl _) (j := .ret) (o := .ret) (.inl ⟨rfl, rfl⟩)
  have g9 := newK'_agr κ8 h 10
  have k10 : ∀ id, h.next.num ≤ id.num → newK' κ8 h 10 id = 10 := fun id q => newK'_new κ8 10 q
  have ag := ag.more (.refl [] _) g9
  have kz : ∀ id, id.num < h7.next.num → newK' κ8 h 10 id = 0 := fun id q => (g9 id (by omega)).trans (kz id q)
  have q13 := (g9 b13 old13).trans q13
  have q15 := (g9 b15 old15).trans q15
  generalize newK' κ8 h 10 = κ9 at *
  have hwin : ∀ id, id.num < B → Wk 1 (κ9 id) ∨ id = b15 → id ∈ S := fun id hid c => by
    rw [hS]
    rcases c with c | c
    · rcases Nat.lt_or_ge id.num h7.next.num with e | e
      · rw [kz id e] at c; exact absurd c (by unfold Wk; omega)
      · rcases Nat.lt_or_ge id.num h.next.num with e2 | e2
        · exact ⟨e, e2⟩
        · rw [k10 id e2] at c; exact absurd c (by unfold Wk; omega)
    · subst c; exact ⟨hn.1, old15⟩
  have clos : ∀ {κ2 : Pos → Nat} {V2 : Vs} {ws2 : List (Wr × AV)} {i : Nat} {h1 h2 : Hp} {S' : List Pos}, Lp hd h1 pa b13 b15 d κ2 V2 ws2 i → (∀ id, id.num < B → κ2 id = κ9 id) → Only S' h1 h2 → (∀ id ∈ S', h.next.num ≤ id.num ∧ id.num < B) → Lp hd h2 pa b13 b15 d κ2 V2 ws2 i := fun {κ2 V2 ws2 i h1 h2 S'} a2 k2 oq hS' =>
    ⟨a2.ag.chg (K := fun j => j = 10) ⟨S', oq, fun id hid _ => by have := hS' id hid; rw [k2 id (by omega)]; exact k10 id (by omega)⟩ .refl (by omega), a2.k13.only oq fun c => by have := hS' _ c; omega, a2.k15.only oq fun c => by have := hS' _ c; omega,
      ((a2.o.mono (S' := S') (by simp)).trans oq).mono fun id hid => .inr (by have := hS' id hid; omega)⟩
  obtain ⟨h3, d3, ⟨κ3, V3, ws3, a3, k3⟩, o3, hs3, n3⟩ := over
    (fun i h1 => ∃ κ2 V2 ws2, Lp hd h1 pa b13 b15 d κ2 V2 ws2 i ∧ ∀ id, id.num < B → κ2 id = κ9 id)
    (fun h1 => ∃ κ2 V2 ws2, Lp hd h1 pa b13 b15 d κ2 V2 ws2 d.ws.length ∧ ∀ id, id.num < B → κ2 id = κ9 id)
    (fun i env5 T h1 => ∃ κ2 V2 ws2 w dv, ∃ hi : i < d.ws.length, Lp hd h1 pa b13 b15 d κ2 V2 ws2 i ∧ (∀ id, id.num < B → κ2 id = κ9 id) ∧ Arr h1 w [int64 (d.ws[i]).kind, int64 (d.ws[i]).area, dv] ∧ B ≤ w.num ∧
      SlN h1 1 dv (d.ws[i]).data.length (byt (d.ws[i]).data) ∧ (∀ id, InN 1 dv id → B ≤ id.num) ∧ EnL env5 b6 b8 b9 b13 b15 w)
    (fun i h1 h2 S' ⟨κ2, V2, ws2, a2, k2⟩ oq hS' => ⟨κ2, V2, ws2, clos a2 k2 oq hS', k2⟩)
    (fun h1 h2 S' ⟨κ2, V2, ws2, a2, k2⟩ oq hS' => ⟨κ2, V2, ws2, clos a2 k2 oq hS', k2⟩)
    (fun i env5 T h1 h2 id ⟨κ2, V2, ws2, w, dv, hi, a2, k2, kw, hw, r, hr, ee⟩ oq hid1 hid2 _ => ⟨κ2, V2, ws2, w, dv, hi, clos a2 k2 oq (fun z hz => by simp at hz; subst hz; omega), k2, kw.only oq (by simp only [List.mem_singleton]; exact num_ne (by omega)), hw,
      r.only oq (fun z hz c => by simp at c; subst c; have := hr _ hz; omega), hr, ee⟩)
    (fun i hO h1 ys Tl hiK hi ⟨κ2, V2, ws2, a2, k2⟩ hBO oO ⟨hi', dv, ey, hdv, eT⟩ hT => by
      subst ey
      have hid : i < d.ws.length := by omega
      have ewi : ws0[i].1 = d.ws[i] := by
        have : (ws0.map Prod.fst)[i]? = d.ws[i]? := by rw [dk.eq]
        rw [List.getElem?_map, List.getElem?_eq_getElem hi, List.getElem?_eq_getElem hid] at this
        exact Option.some.inj this
      rw [ewi] at hdv ⊢
      have oX : Only [] h1 (newH h1 fun s => .cells s (Cells.ofL [int64 0, int64 0, .nilSl]) 0 0 0 0 false false) := newH_only _ _ _
      have bX := newH_arr h1 [int64 0, int64 0, .nilSl]
      have nw := qev_newL Try.prog
      obtain ⟨h2, st, bw, oY, nY⟩ := storeN_arr Try.prog bX (xs := [int64 (d.ws[i]).kind, int64 (d.ws[i]).area, dv]) rfl (by simp) (fun x hx => by
        simp only [List.mem_cons, List.not_mem_nil, or_false] at hx
        rcases hx with e | e | e <;> subst e
        · rfl
        · rfl
        · exact hdv.sl.atom.1)
      simp only [List.length_cons, List.length_nil] at st
      have oZ : Only [] h1 h2 := ((oX.mono (S' := [h1.next]) (by simp)).trans oY).mono fun id hid => .inr (by simp only [List.mem_singleton] at hid; subst hid; exact Nat.le_refl _)
      have nO := oO.next
      obtain ⟨env5, e5, x6, x8, x9, x13, x15, x17⟩ : ∃ env5, runS Try.prog true lcuts_22 [] (Am.T.set (Pos.ofNat 110) (some (.agg [int64 (d.ws[i]).kind, int64 (d.ws[i]).area, dv])) (Am.T.set (Pos.ofNat 109) (some (int64 i)) env)) h1 = some (.upt [], [], env5, h2) ∧ sv env5 6 = .ptr b6 0 0 ∧ sv env5 8 = .ptr b8 0 0 ∧ sv env5 9 = .ptr b9 0 0 ∧ sv env5 13 = .ptr b13 0 0 ∧ sv env5 15 = .ptr b15 0 0 ∧ sv env5 17 = .ptr h1.next 0 0 := by
        unfold lcuts_22
        simp [lcuts_21, runS, runR, Rs.seq, Rs.block, runOps, wanted_no, wanted_sv, ev_tm, ev_vl, sv_setD, sv_set, setD_none, qev_mov, qev_bin, qev_un, qev_lenI, qev_pick, qev_load1, qev_idxSl, idx2_sl, idxA2_ptr, opt_some, bin_add, bin_sub, bin_mul, bin_lss, bin_leq, bin_gtr, bin_geq, bin_eql, bin_neq, un_not, un_neg, qev_callv, qev_new1, qev_store1, qev_nilC, nilC_ptr, qev_fld, fldA_ptr, qev_extract, nth0, nth1, nth2, qev_eqPtr, sameP_nil, notIf, e6, e8, e9, e13, e15, nw, st]
      refine ⟨_, env5, h2, by simp [setParams, Am.T.setK_eq], Dos.runGo [] (by simp) e5, oZ, κ2, V2, ws2, h1.next, dv, hid, a2.more (oO.trans oZ), k2, bw, by omega, (hdv.more oZ).sl, fun id q => ?_, ⟨x6, x8, x9, x13, x15, x17⟩⟩
      have := (hT id (eT ▸ idsN_in q)).1
      omega)
    (fun i env5 T h1 hiK ⟨κ2, V2, ws2, w, dv, hi, a2, k2, kw, hw, r, hr, ee⟩ hB1 _ => by
      obtain ⟨env6, κ3, h2, V3, ws3, S3, d3, a3, g3, o3, hS3⟩ := loop_body dk m hl k6 k9 a2 (by rw [k2 _ (by omega)]; exact q13) (by rw [k2 _ (by omega)]; exact q15) ⟨by omega, hn.2⟩ (fun id c => by rw [k2 id (by omega)]; exact kz id (by omega)) ee hi kw r
      refine ⟨env6, h2, S3, d3, ⟨κ3, V3, ws3, a3, fun id c => (g3 id (by omega)).trans (k2 id c)⟩, o3, fun id hid => ?_⟩
      rcases Nat.lt_or_ge id.num B with c | c
      · have := hS3 id hid (by omega)
        rw [k2 id c] at this
        exact .inl (hwin id c this)
      · exact .inr c)
    (fun _ h1 jq => by simp only [hwl] at jq; exact jq)
    (fun hK => absurd hK (Nat.lt_irrefl _))
    ⟨κ9, V8, [], ⟨by exact ag, k13, k15, oh⟩, fun id _ => rfl⟩
  rw [if_pos rfl] at d3
  have e10 : κ3 h.next = 10 := by rw [k3 _ (by omega)]; exact k10 _ (Nat.le_refl _)
  exact ⟨κ3, h3, V3, ws3, d3, a3, hs3, by omega, by omega, fun id c => (k3 id (by omega)).trans (g9 id c), e10⟩
end
end Go.Proofs.Ytmifpiglcphmoaa.Cuts

namespace Go.Proofs.Ytmifpiglcphmoaa.Cuts
open Go Go.Proofs.Ytmifpiglcphmoaa.Am Go.Proofs

theorem eqAV_ptr8 (p : Pos) (g off : Nat) : eqAV 8 (.ptr p g off) (.ptr p g off) = true := by
  unfold eqAV
  simp only [eqP_iff.2 (rfl : p = p), beq_iff.2 (rfl : g = g), beq_iff.2 (rfl : off = off), Bool.and_self]

theorem bin_eqB (x y : Bool) : binA .eql .bool false (.bool x) (.bool y) = some (.bool (x == y)) := by cases x <;> cases y <;> rfl

/-- The last variables. -/
structure EnF (env : T AV) (m : Int) (b6 b8 b9 b13 b15 : Pos) : Prop where
  e3 : sv env 3 = int64 m
  e6 : sv env 6 = .ptr b6 0 0
  e8 : sv env 8 = .ptr b8 0 0
  e9 : sv env 9 = .ptr b9 0 0
  e13 : sv env 13 = .ptr b13 0 0
  e15 : sv env 15 = .ptr b15 0 0

section
variable {hd h : Hp} {pa p b6 b8 b9 b13 b15 : Pos} {d : Dk} {κ κ0 : Pos → Nat} {V V0 : Vs} {ws ws0 : List (Wr × AV)} {n m : Int} {env : T AV}

/-- The whole disk, cut. -/
theorem tail_whole (dk : DkAt κ0 1 hd p d V0 ws0) (md : Made d) (hl : d.ws.length ≤ 60) (k9 : Arr hd b9 [.ptr p 0 0]) (o : Only [] hd h) (e : EnF env m b6 b8 b9 b13 b15) :
    ∃ env' h' κ' V' ws' pw, Dos Try.prog 6 (.drawn lcuts_36) env h .go [] env' h' ∧ Only [] h h' ∧ DkAt κ' 1 h' pw d V' ws' ∧ EnF env' m b6 b8 b9 b13 b15 ∧ sv env' 20 = .ptr pw 0 0 ∧ sv env' 21 = int64 0 := by
  obtain ⟨e3, e6, e8, e9, e13, e15⟩ := e
  have D := dk.more o .refl
  have l9 := (Arr.more k9 o).load
  have kw := writes_fn D
  obtain ⟨κc, h2, Vc, wc, pw, kc, _, o2, C, _⟩ := cut_fn D md (by omega) (n := d.ws.length) (Nat.le_refl _) (fun _ => 0) 1
  rw [cut_all md] at C
  have l9' := (Arr.more k9 (o.trans o2)).load
  have hsound := recG_sound (P := Try.prog) (A := [⟨42, [.ptr p 0 0], h, int64 (d.ws.length : Nat), h⟩, ⟨40, [.ptr p 0 0, int64 (d.ws.length : Nat)], h, .tup [.ptr pw 0 0, int64 0], h2⟩]) (by
    intro z hz
    simp only [List.mem_cons, List.not_mem_nil, or_false] at hz
    rcases hz with q | q <;> subst q
    · exact kw
    · exact kc)
  have R1 := recG_hit (P := Try.prog) 42 [.ptr p 0 0] h (int64 (d.ws.length : Nat)) h [⟨40, [.ptr p 0 0, int64 (d.ws.length : Nat)], h, .tup [.ptr pw 0 0, int64 0], h2⟩]
  have R2 := recG_next (P := Try.prog) (a := ⟨42, [.ptr p 0 0], h, int64 (d.ws.length : Nat), h⟩) (recG_hit (P := Try.prog) 40 [.ptr p 0 0, int64 (d.ws.length : Nat)] h (.tup [.ptr pw 0 0, int64 0]) h2 []) (fun q _ => absurd (frOf_fn kc kw q) (by decide))
  have bg1 := kw.begins.1
  have bg2 := kc.begins.1
  generalize recG Try.prog [⟨42, [.ptr p 0 0], h, int64 (d.ws.length : Nat), h⟩, ⟨40, [.ptr p 0 0, int64 (d.ws.length : Nat)], h, .tup [.ptr pw 0 0, int64 0], h2⟩] = R at *
  have hz : ∀ hh : Hp, (⟨hh.heap, hh.next, hh.ser, hh.lim⟩ : Hp) = hh := fun _ => rfl
  obtain ⟨env', acts, lds, d2, f3, f6, f8, f9, f13, f15, f20, f21⟩ : ∃ env' acts lds, runD Try.prog R 0 lcuts_36 ⟨[], [], [], h.next, env, h⟩ = some ⟨acts, lds, [], h.next, env', h2⟩ ∧ sv env' 3 = int64 m ∧ sv env' 6 = .ptr b6 0 0 ∧ sv env' 8 = .ptr b8 0 0 ∧ sv env' 9 = .ptr b9 0 0 ∧ sv env' 13 = .ptr b13 0 0 ∧ sv env' 15 = .ptr b15 0 0 ∧ sv env' 20 = .ptr pw 0 0 ∧ sv env' 21 = int64 0 := by
    simp [lcuts_36, runD, stepD, actO, kindOf, lookBack, lookAgain, putT, remAl, insT, bit, eqAV_ptr8, wanted_no, ev_tm, ev_vl, sv_setD, setD_none, qev_mov, opt_some, qev_load1, qev_callv, callA_ok ok42, callA_ok ok40, qev_extract, nth0, nth1, e3, e6, e8, e9, e13, e15, l9, l9', bg1, bg2, R1, R2, hz]
  exact ⟨env', h2, κc, Vc, wc, pw, Dos.drawn hsound (runDrawn_of (acts := acts) (lds := lds) (by simp [lcuts_36, skipIds, isAlloc, kindOf]) d2), o2, C, ⟨f3, f6, f8, f9, f13, f15⟩, f20, f21⟩

/-- They are all the same. -/
theorem tail_same (dk : DkAt κ0 1 hd p d V0 ws0) (k9 : Arr hd b9 [.ptr p 0 0]) (o : Only [] hd h) (A : DkAt κ 1 h pa d V ws) {κw : Pos → Nat} {Vw : Vs} {ww : List (Wr × AV)} {pw : Pos} (W : DkAt κw 1 h pw d Vw ww) (k13 : Arr h b13 [.ptr pa 0 0]) (k15 : Arr h b15 [int64 (d.ws.length : Nat)])
    (e : EnF env m b6 b8 b9 b13 b15) (e20 : sv env 20 = .ptr pw 0 0) (e21 : sv env 21 = int64 0) :
    ∃ env', Dos Try.prog 6 (.seq (.drawn lcuts_37) (.cond (tm 182) (.seq (.region lcuts_38) .ret) .skip)) env h .go [] env' h ∧ EnF env' m b6 b8 b9 b13 b15 := by
  obtain ⟨e3, e6, e8, e9, e13, e15⟩ := e
  have D := dk.more o .refl
  have l9 := (Arr.more k9 o).load
  have l13 := k13.load
  have l15 := k15.load
  have kw := writes_fn D
  have s1 := same_yes A D rfl rfl rfl rfl
  have s2 := same_yes W D rfl rfl rfl rfl
  have hsound := recG_sound (P := Try.prog) (A := [⟨41, [.ptr pa 0 0, .ptr p 0 0], h, .bool true, h⟩, ⟨41, [.ptr pw 0 0, .ptr p 0 0], h, .bool true, h⟩, ⟨42, [.ptr p 0 0], h, int64 (d.ws.length : Nat), h⟩]) (by
    intro z hz
    simp only [List.mem_cons, List.not_mem_nil, or_false] at hz
    rcases hz with q | q | q <;> subst q
    · exact s1
    · exact s2
    · exact kw)
  have R1 := recG_hit (P := Try.prog) 41 [.ptr pa 0 0, .ptr p 0 0] h (.bool true) h [⟨41, [.ptr pw 0 0, .ptr p 0 0], h, .bool true, h⟩, ⟨42, [.ptr p 0 0], h, int64 (d.ws.length : Nat), h⟩]
  have R2 := recG_next (P := Try.prog) (a := ⟨41, [.ptr pa 0 0, .ptr p 0 0], h, .bool true, h⟩) (recG_hit (P := Try.prog) 41 [.ptr pw 0 0, .ptr p 0 0] h (.bool true) h [⟨42, [.ptr p 0 0], h, int64 (d.ws.length : Nat), h⟩]) (fun _ _ => rfl)
  have R3 := recG_next (P := Try.prog) (a := ⟨41, [.ptr pa 0 0, .ptr p 0 0], h, .bool true, h⟩) (recG_next (P := Try.prog) (a := ⟨41, [.ptr pw 0 0, .ptr p 0 0], h, .bool true, h⟩) (recG_hit (P := Try.prog) 42 [.ptr p 0 0] h (int64 (d.ws.length : Nat)) h []) (fun q _ => absurd (frOf_fn kw s2 q) (by decide))) (fun q _ => absurd (frOf_fn kw s1 q) (by decide))
  have bg1 := s1.begins.1
  have bg2 := s2.begins.1
  have bg3 := kw.begins.1
  generalize recG Try.prog [⟨41, [.ptr pa 0 0, .ptr p 0 0], h, .bool true, h⟩, ⟨41, [.ptr pw 0 0, .ptr p 0 0], h, .bool true, h⟩, ⟨42, [.ptr p 0 0], h, int64 (d.ws.length : Nat), h⟩] = R at *
  have hz : ∀ hh : Hp, (⟨hh.heap, hh.next, hh.ser, hh.lim⟩ : Hp) = hh := fun _ => rfl
  obtain ⟨env', acts, lds, d2, f3, f6, f8, f9, f13, f15, f182⟩ : ∃ env' acts lds, runE Try.prog R 0 lcuts_37 ⟨[], [], [], h.next, env, h⟩ = some ⟨acts, lds, [], h.next, env', h⟩ ∧ sv env' 3 = int64 m ∧ sv env' 6 = .ptr b6 0 0 ∧ sv env' 8 = .ptr b8 0 0 ∧ sv env' 9 = .ptr b9 0 0 ∧ sv env' 13 = .ptr b13 0 0 ∧ sv env' 15 = .ptr b15 0 0 ∧ sv env' 182 = .bool false := by
    simp [lcuts_37, runE, stepE, stepD, actO, kindOf, lookBack, lookAgain, putT, remAl, insT, bit, eqAV_ptr8, eqAV_int8, wanted_no, wanted_sv, ev_tm, ev_vl, sv_setD, setD_none, qev_mov, qev_bin, bin_neq, qev_un, un_not, qev_pick, opt_some, qev_load1, qev_callv, callA_ok ok42, callA_ok ok41, e3, e6, e8, e9, e13, e15, e20, e21, l9, l13, l15, bg1, bg2, bg3, R1, R2, R3, hz,
      show Nat.testBit 31 3 = true from by decide, show Nat.testBit 31 4 = true from by decide, show Nat.testBit 511 5 = true from by decide, show Nat.testBit 2047 3 = true from by decide, show Nat.testBit 2047 4 = true from by decide, show Nat.testBit 2047 10 = true from by decide, show Nat.testBit 32767 5 = true from by decide, show Nat.testBit 32767 11 = true from by decide,
      show Nat.testBit 98303 3 = true from by decide, show Nat.testBit 98303 4 = true from by decide, show Nat.testBit 98303 10 = true from by decide, show Nat.testBit 98303 16 = true from by decide, show Nat.testBit 98303 15 = false from by decide]
  have hsk : skipIds lcuts_37 h.next = h.next := by simp [lcuts_37, skipIds, isAlloc, kindOf]
  have dd : runDrawn Try.prog R lcuts_37 env h = some (env', h) := by
    refine runDrawn_ofE (rid := h.next) (acts := acts) (lds := lds) ?_
    rw [hsk]
    exact d2
  exact ⟨env', Dos.seq (M := []) (M1 := []) (Dos.drawn hsound dd) (Dos.cond (t := false) f182 .skip), ⟨f3, f6, f8, f9, f13, f15⟩⟩

/-- The end: what is answered is put down. -/
theorem tail_end (dk : DkAt κ0 1 hd p d V0 ws0) (k6 : Arr hd b6 [int64 n]) (k8 : Arr hd b8 [.bool false]) (k9 : Arr hd b9 [.ptr p 0 0]) (o : Only [] hd h) (e : EnF env m b6 b8 b9 b13 b15) {f : Int} (e21 : sv env 21 = int64 f) (hf : f = 0 ↔ 0 ≤ n ∧ n ≤ (d.ws.length : Int)) :
    ∃ env', Dos Try.prog 6 (.drawn lcuts_45) env h .go [] env' (putA h b8 0 (.bool true)) ∧ sv env' 8 = .ptr b8 0 0 := by
  obtain ⟨e3, e6, e8, e9, e13, e15⟩ := e
  have D := dk.more o .refl
  have l6 := (Arr.more k6 o).load
  have l9 := (Arr.more k9 o).load
  have kw := writes_fn D
  have kk := known_fn h
  have st := storeR_arr (Arr.more k8 o) (i := 0) (by simp) (.bool true) rfl rfl
  have hsound := recG_sound (P := Try.prog) (A := [⟨42, [.ptr p 0 0], h, int64 (d.ws.length : Nat), h⟩, ⟨35, [], h, .bool true, h⟩]) (by
    intro z hz
    simp only [List.mem_cons, List.not_mem_nil, or_false] at hz
    rcases hz with q | q <;> subst q
    · exact kw
    · exact kk)
  have R1 := recG_hit (P := Try.prog) 42 [.ptr p 0 0] h (int64 (d.ws.length : Nat)) h [⟨35, [], h, .bool true, h⟩]
  have R2 := recG_next (P := Try.prog) (a := ⟨42, [.ptr p 0 0], h, int64 (d.ws.length : Nat), h⟩) (recG_hit (P := Try.prog) 35 [] h (.bool true) h []) (fun q _ => absurd (frOf_fn kk kw q) (by decide))
  have bg1 := kw.begins.1
  have bg2 := kk.begins.1
  generalize recG Try.prog [⟨42, [.ptr p 0 0], h, int64 (d.ws.length : Nat), h⟩, ⟨35, [], h, .bool true, h⟩] = R at *
  have hz : ∀ hh : Hp, (⟨hh.heap, hh.next, hh.ser, hh.lim⟩ : Hp) = hh := fun _ => rfl
  have hsk : skipIds lcuts_45 h.next = h.next := by simp [lcuts_45, skipIds, isAlloc, kindOf]
  obtain ⟨env', acts, lds, d2, f8⟩ : ∃ env' acts lds, runE Try.prog R 0 lcuts_45 ⟨[], [], [], h.next, env, h⟩ = some ⟨acts, lds, [], h.next, env', putA h b8 0 (.bool true)⟩ ∧ sv env' 8 = .ptr b8 0 0 := by
    by_cases h0 : 0 ≤ n
    · have hfe : (decide (f = 0) == decide (n ≤ (d.ws.length : Int))) = true := by
        by_cases q : f = 0
        · have := hf.1 q; simp [q, this.2]
        · have : ¬ n ≤ (d.ws.length : Int) := fun c => q (hf.2 ⟨h0, c⟩)
          simp [q, this]
      simp [lcuts_45, runE, stepE, stepD, actO, kindOf, lookBack, lookAgain, putT, remAl, insT, bit, eqAV_ptr8, eqAV_int8, wanted_no, wanted_sv, ev_tm, ev_vl, sv_setD, setD_none, qev_mov, qev_bin, bin_eql, bin_geq, bin_leq, qev_pick, opt_some, qev_load1, qev_callv, callA_ok ok42, callA_ok ok35, qev_store1, bin_eqB, e3, e6, e8, e9, e13, e15, e21, l6, l9, bg1, bg2, R1, R2, hz, h0, hfe, st,
        show Nat.testBit 92 2 = true from by decide, show Nat.testBit 92 5 = false from by decide, show Nat.testBit 92 6 = true from by decide, show Nat.testBit 4095 2 = true from by decide, show Nat.testBit 4095 5 = true from by decide, show Nat.testBit 4095 6 = true from by decide, show Nat.testBit 16383 2 = true from by decide, show Nat.testBit 16383 5 = true from by decide, show Nat.testBit 16383 6 = true from by decide]
    · have hfe : ¬ f = 0 := fun q => h0 (hf.1 q).1
      simp [lcuts_45, runE, stepE, stepD, actO, kindOf, lookBack, lookAgain, putT, remAl, insT, bit, eqAV_ptr8, eqAV_int8, wanted_no, wanted_sv, ev_tm, ev_vl, sv_setD, setD_none, qev_mov, qev_bin, bin_eql, bin_geq, bin_leq, qev_pick, opt_some, qev_load1, qev_callv, callA_ok ok42, callA_ok ok35, qev_store1, bin_eqB, e3, e6, e8, e9, e13, e15, e21, l6, l9, bg1, bg2, R1, R2, hz, h0, hfe, st,
        show Nat.testBit 4095 2 = true from by decide, show Nat.testBit 16383 2 = true from by decide]
  have dd : runDrawn Try.prog R lcuts_45 env h = some (env', putA h b8 0 (.bool true)) := by
    refine runDrawn_ofE (rid := h.next) (acts := acts) (lds := lds) ?_
    rw [hsk]
    exact d2
  exact ⟨env', Dos.drawn hsound dd, f8⟩
end
end Go.Proofs.Ytmifpiglcphmoaa.Cuts

namespace Go.Proofs.Ytmifpiglcphmoaa.Cuts
open Go Go.Proofs.Ytmifpiglcphmoaa.Am Go.Proofs

section
variable {hd h : Hp} {pa p b6 b8 b9 b13 b15 : Pos} {d : Dk} {κ κ0 : Pos → Nat} {V V0 : Vs} {ws ws0 : List (Wr × AV)} {n m : Int} {env : T AV}

/-- A cut of a cut. -/
theorem tail_cuts (dk : DkAt κ0 1 hd p d V0 ws0) (md : Made d) (hl : d.ws.length ≤ 60) (k6 : Arr hd b6 [int64 n]) (k9 : Arr hd b9 [.ptr p 0 0]) (o : Only [] hd h) (e : EnF env m b6 b8 b9 b13 b15) :
    ∃ env1 h1 env' h' f, Dos Try.prog 6 (.region lcuts_39) env h .go [] env1 h1 ∧ Dos Try.prog 6 (.seq (.region lcuts_40) (.cond (tm 199) (.seq (.region lcuts_41) (.seq (.region lcuts_42) (.seq (.region lcuts_43) (.cond (tm 223) (.seq (.region lcuts_44) .ret) .skip)))) .skip)) env1 h1 .go [] env' h' ∧
      Only [] h h' ∧ EnF env' m b6 b8 b9 b13 b15 ∧ sv env' 21 = int64 f ∧ (f = 0 ↔ 0 ≤ n ∧ n ≤ (d.ws.length : Int)) := by
  obtain ⟨e3, e6, e8, e9, e13, e15⟩ := e
  have D := dk.more o .refl
  have l6 := (Arr.more k6 o).load
  have l9 := (Arr.more k9 o).load
  by_cases hn : 0 ≤ n ∧ n ≤ (d.ws.length : Int)
  · obtain ⟨n', rfl⟩ : ∃ n' : Nat, n = n' := ⟨n.toNat, by omega⟩
    have hn' : n' ≤ d.ws.length := by omega
    obtain ⟨κc, h2, Vc, wc, pc, kc, _, o2, C, _⟩ := cut_fn D md (by omega) hn' (fun _ => 0) 1
    have m6 := (Arr.more k6 (o.trans o2)).load
    have m9 := (Arr.more k9 (o.trans o2)).load
    obtain ⟨env1, d1, f3, f6, f8, f9, f13, f15, f21, f22⟩ : ∃ env', runS Try.prog true (.region lcuts_39) [⟨40, [.ptr p 0 0, int64 n'], h, .tup [.ptr pc 0 0, int64 0], h2⟩] env h = some (.upt [], [], env', h2) ∧ sv env' 3 = int64 m ∧ sv env' 6 = .ptr b6 0 0 ∧ sv env' 8 = .ptr b8 0 0 ∧ sv env' 9 = .ptr b9 0 0 ∧ sv env' 13 = .ptr b13 0 0 ∧ sv env' 15 = .ptr b15 0 0 ∧ sv env' 21 = int64 0 ∧ sv env' 22 = .ptr pc 0 0 := by
      simp [lcuts_39, runS, runR, Rs.seq, Rs.block, runOps, wanted_no, wanted_sv, ev_tm, ev_vl, sv_setD, sv_set, setD_none, qev_mov, qev_bin, qev_un, qev_lenI, qev_pick, qev_load1, qev_idxSl, idx2_sl, idxA2_ptr, opt_some, bin_add, bin_sub, bin_mul, bin_lss, bin_leq, bin_gtr, bin_geq, bin_eql, bin_neq, un_not, un_neg, qev_callv, qev_new1, qev_store1, qev_nilC, nilC_ptr, qev_fld, fldA_ptr, qev_extract, nth0, nth1, nth2, qev_eqPtr, sameP_nil, notIf, callA_ok ok40, e3, e6, e8, e9, e13, e15, l6, l9]
    have dA := Dos.runGo (F := 6) _ (by intro z hz; simp at hz; subst hz; exact kc) d1
    by_cases hm : 0 ≤ m ∧ m ≤ (n' : Int)
    · obtain ⟨m', rfl⟩ : ∃ m' : Nat, m = m' := ⟨m.toNat, by omega⟩
      have hm' : m' ≤ n' := by omega
      have hlc : (d.cut n').ws.length = n' := by rw [(cut_fix d n').2.2.2.2, List.length_take]; omega
      obtain ⟨κa, h3, Va, wa, qa, ka, _, o3, A, _⟩ := cut_fn C (md.cut hn') (by omega) (n := m') (by omega) (fun _ => 0) 1
      rw [cut_cut hm'] at A
      obtain ⟨κb, h4, Vb, wb, qb, kb, _, o4, Bk, _⟩ := cut_fn (D.more (o2.trans o3) .refl) md (by omega) (n := m') (by omega) (fun _ => 0) 1
      have ks := same_yes (A.more o4 .refl) Bk rfl rfl rfl rfl
      have l9' := (Arr.more k9 ((o.trans o2).trans o3)).load
      have h0m : (0 : Int) ≤ m' := by omega
      obtain ⟨env2, d2, g3, g6, g8, g9, g13, g15, g21⟩ : ∃ env', runS Try.prog true (.seq (.region lcuts_40) (.cond (tm 199) (.seq (.region lcuts_41) (.seq (.region lcuts_42) (.seq (.region lcuts_43) (.cond (tm 223) (.seq (.region lcuts_44) .ret) .skip)))) .skip)) [⟨40, [.ptr pc 0 0, int64 m'], h2, .tup [.ptr qa 0 0, int64 0], h3⟩, ⟨40, [.ptr p 0 0, int64 m'], h3, .tup [.ptr qb 0 0, int64 0], h4⟩, ⟨41, [.ptr qa 0 0, .ptr qb 0 0], h4, .bool true, h4⟩] env1 h2 = some (.upt [], [], env', h4) ∧
          sv env' 3 = int64 m' ∧ sv env' 6 = .ptr b6 0 0 ∧ sv env' 8 = .ptr b8 0 0 ∧ sv env' 9 = .ptr b9 0 0 ∧ sv env' 13 = .ptr b13 0 0 ∧ sv env' 15 = .ptr b15 0 0 ∧ sv env' 21 = int64 0 := by
        simp [lcuts_40, lcuts_41, lcuts_42, lcuts_43, runS, runR, Rs.seq, Rs.block, runOps, wanted_no, wanted_sv, ev_tm, ev_vl, sv_setD, sv_set, setD_none, qev_mov, qev_bin, qev_un, qev_lenI, qev_pick, qev_load1, qev_idxSl, idx2_sl, idxA2_ptr, opt_some, bin_add, bin_sub, bin_mul, bin_lss, bin_leq, bin_gtr, bin_geq, bin_eql, bin_neq, un_not, un_neg, qev_callv, qev_new1, qev_store1, qev_nilC, nilC_ptr, qev_fld, fldA_ptr, qev_extract, nth0, nth1, nth2, qev_eqPtr, sameP_nil, notIf, wanted_sv, callA_ok ok40, callA_ok ok41, f3, f6, f8, f9, f13, f15, f21, f22, m6, m9, l9', h0m, hm']
      refine ⟨env1, h2, env2, h4, 0, dA, Dos.runGo _ (fun z hz => ?_) d2, (o2.trans o3).trans o4, ⟨g3, g6, g8, g9, g13, g15⟩, g21, ⟨fun _ => hn, fun _ => rfl⟩⟩
      simp only [List.mem_cons, List.not_mem_nil, or_false] at hz
      rcases hz with q | q | q <;> subst q
      · exact ka
      · exact kb
      · exact ks
    · obtain ⟨env2, d2, g3, g6, g8, g9, g13, g15, g21⟩ : ∃ env', runS Try.prog true (.seq (.region lcuts_40) (.cond (tm 199) (.seq (.region lcuts_41) (.seq (.region lcuts_42) (.seq (.region lcuts_43) (.cond (tm 223) (.seq (.region lcuts_44) .ret) .skip)))) .skip)) [] env1 h2 = some (.upt [], [], env', h2) ∧
          sv env' 3 = int64 m ∧ sv env' 6 = .ptr b6 0 0 ∧ sv env' 8 = .ptr b8 0 0 ∧ sv env' 9 = .ptr b9 0 0 ∧ sv env' 13 = .ptr b13 0 0 ∧ sv env' 15 = .ptr b15 0 0 ∧ sv env' 21 = int64 0 := by
        by_cases h0 : 0 ≤ m
        · have h1 : ¬ m ≤ (n' : Int) := fun c => hm ⟨h0, c⟩
          simp [lcuts_40, runS, runR, Rs.seq, Rs.block, runOps, wanted_no, wanted_sv, ev_tm, ev_vl, sv_setD, sv_set, setD_none, qev_mov, qev_bin, qev_un, qev_lenI, qev_pick, qev_load1, qev_idxSl, idx2_sl, idxA2_ptr, opt_some, bin_add, bin_sub, bin_mul, bin_lss, bin_leq, bin_gtr, bin_geq, bin_eql, bin_neq, un_not, un_neg, qev_callv, qev_new1, qev_store1, qev_nilC, nilC_ptr, qev_fld, fldA_ptr, qev_extract, nth0, nth1, nth2, qev_eqPtr, sameP_nil, notIf, wanted_sv, f3, f6, f8, f9, f13, f15, f21, f22, m6, h0, h1]
        · simp [lcuts_40, runS, runR, Rs.seq, Rs.block, runOps, wanted_no, wanted_sv, ev_tm, ev_vl, sv_setD, sv_set, setD_none, qev_mov, qev_bin, qev_un, qev_lenI, qev_pick, qev_load1, qev_idxSl, idx2_sl, idxA2_ptr, opt_some, bin_add, bin_sub, bin_mul, bin_lss, bin_leq, bin_gtr, bin_geq, bin_eql, bin_neq, un_not, un_neg, qev_callv, qev_new1, qev_store1, qev_nilC, nilC_ptr, qev_fld, fldA_ptr, qev_extract, nth0, nth1, nth2, qev_eqPtr, sameP_nil, notIf, wanted_sv, f3, f6, f8, f9, f13, f15, f21, f22, m6, h0]
      exact ⟨env1, h2, env2, h2, 0, dA, Dos.runGo [] (by simp) d2, o2, ⟨g3, g6, g8, g9, g13, g15⟩, g21, ⟨fun _ => hn, fun _ => rfl⟩⟩
  · obtain ⟨h2, kc, o2⟩ := cut_no D (n := n) (by omega)
    obtain ⟨env1, d1, f3, f6, f8, f9, f13, f15, f21, f22⟩ : ∃ env', runS Try.prog true (.region lcuts_39) [⟨40, [.ptr p 0 0, int64 n], h, .tup [.nilPtr, int64 2], h2⟩] env h = some (.upt [], [], env', h2) ∧ sv env' 3 = int64 m ∧ sv env' 6 = .ptr b6 0 0 ∧ sv env' 8 = .ptr b8 0 0 ∧ sv env' 9 = .ptr b9 0 0 ∧ sv env' 13 = .ptr b13 0 0 ∧ sv env' 15 = .ptr b15 0 0 ∧ sv env' 21 = int64 2 ∧ sv env' 22 = .nilPtr := by
      simp [lcuts_39, runS, runR, Rs.seq, Rs.block, runOps, wanted_no, wanted_sv, ev_tm, ev_vl, sv_setD, sv_set, setD_none, qev_mov, qev_bin, qev_un, qev_lenI, qev_pick, qev_load1, qev_idxSl, idx2_sl, idxA2_ptr, opt_some, bin_add, bin_sub, bin_mul, bin_lss, bin_leq, bin_gtr, bin_geq, bin_eql, bin_neq, un_not, un_neg, qev_callv, qev_new1, qev_store1, qev_nilC, nilC_ptr, qev_fld, fldA_ptr, qev_extract, nth0, nth1, nth2, qev_eqPtr, sameP_nil, notIf, callA_ok ok40, e3, e6, e8, e9, e13, e15, l6, l9]
    obtain ⟨env2, d2, g3, g6, g8, g9, g13, g15, g21⟩ : ∃ env', runS Try.prog true (.seq (.region lcuts_40) (.cond (tm 199) (.seq (.region lcuts_41) (.seq (.region lcuts_42) (.seq (.region lcuts_43) (.cond (tm 223) (.seq (.region lcuts_44) .ret) .skip)))) .skip)) [] env1 h2 = some (.upt [], [], env', h2) ∧
        sv env' 3 = int64 m ∧ sv env' 6 = .ptr b6 0 0 ∧ sv env' 8 = .ptr b8 0 0 ∧ sv env' 9 = .ptr b9 0 0 ∧ sv env' 13 = .ptr b13 0 0 ∧ sv env' 15 = .ptr b15 0 0 ∧ sv env' 21 = int64 2 := by
      simp [lcuts_40, runS, runR, Rs.seq, Rs.block, runOps, wanted_no, wanted_sv, ev_tm, ev_vl, sv_setD, sv_set, setD_none, qev_mov, qev_bin, qev_un, qev_lenI, qev_pick, qev_load1, qev_idxSl, idx2_sl, idxA2_ptr, opt_some, bin_add, bin_sub, bin_mul, bin_lss, bin_leq, bin_gtr, bin_geq, bin_eql, bin_neq, un_not, un_neg, qev_callv, qev_new1, qev_store1, qev_nilC, nilC_ptr, qev_fld, fldA_ptr, qev_extract, nth0, nth1, nth2, qev_eqPtr, sameP_nil, notIf, wanted_sv, f3, f6, f8, f9, f13, f15, f21, f22]
    exact ⟨env1, h2, env2, h2, 2, Dos.runGo _ (by intro z hz; simp at hz; subst hz; exact kc) d1, Dos.runGo [] (by simp) d2, o2, ⟨g3, g6, g8, g9, g13, g15⟩, g21, ⟨fun c => (by cases c), fun c => absurd c hn⟩⟩
end
end Go.Proofs.Ytmifpiglcphmoaa.Cuts

namespace Go.Proofs.Ytmifpiglcphmoaa.Cuts
open Go Go.Proofs.Ytmifpiglcphmoaa.Am Go.Proofs
attribute [local irreducible] Tree

section
variable {h0 : Hp} {cap used n m : Int} {va vb vs : AV} {b1 b2 : List UInt8}

/-- The law's own boxes. -/
theorem cuts_boxes (h0 : Hp) (cap used n : Int) (va vb : AV) : ∃ h3, (∀ (vs : AV) (m : Int), ∃ env', runOps Try.prog lcuts_0 (setArgs .e 0 [.agg [int64 cap, int64 used, va, vb], vs, int64 n, int64 m]) h0 = some (env', h3) ∧ sv env' 1 = vs ∧ sv env' 3 = int64 m ∧ sv env' 4 = .ptr h0.next 0 0 ∧ (∃ b6 b8, sv env' 6 = .ptr b6 0 0 ∧ sv env' 8 = .ptr b8 0 0 ∧ Arr h3 b6 [int64 n] ∧ Arr h3 b8 [.bool false])) ∧
    Only [] h0 h3 ∧ Arr h3 h0.next [int64 cap, int64 used, va, vb] ∧ h0.next.num < h3.next.num := by
  obtain ⟨h1, bx, o1, n1, c1⟩ := boxed (fun _ => 0) 0 h0 [int64 cap, int64 used, va, vb]
  have o2 : Only [] h1 (newB h1 (int64 n)) := newH_only _ _ _
  have n2 : (newB h1 (int64 n)).next.num = h1.next.num + 1 := newH_next _ _
  have bb2 := (newB_box h1 (int64 n)).arr
  have x2 : ∀ env (x : Opd), ev env x = int64 n → evalOp Try.prog (.box x) env h1 = .val (.ptr h1.next 0 0) (newB h1 (int64 n)) := fun env x hx => by
    have q := qev_box Try.prog env h1 x (by rw [hx]; rfl)
    rw [hx] at q; exact q
  have o3 : Only [] (newB h1 (int64 n)) (newB (newB h1 (int64 n)) (.bool false)) := newH_only _ _ _
  have n3 : (newB (newB h1 (int64 n)) (.bool false)).next.num = (newB h1 (int64 n)).next.num + 1 := newH_next _ _
  have bb3 := (newB_box (newB h1 (int64 n)) (.bool false)).arr
  refine ⟨newB (newB h1 (int64 n)) (.bool false), fun vs m => ?_, (o1.trans o2).trans o3, Arr.more c1.arr (o2.trans o3), by omega⟩
  obtain ⟨env', e, f1, f3, f4, f6, f8⟩ : ∃ env', runOps Try.prog lcuts_0 (setArgs .e 0 [.agg [int64 cap, int64 used, va, vb], vs, int64 n, int64 m]) h0 = some (env', newB (newB h1 (int64 n)) (.bool false)) ∧ sv env' 1 = vs ∧ sv env' 3 = int64 m ∧ sv env' 4 = .ptr h0.next 0 0 ∧ sv env' 6 = .ptr h1.next 0 0 ∧ sv env' 8 = .ptr (newB h1 (int64 n)).next 0 0 := by
    simp [lcuts_0, runOps, wanted_no, ev_tm, ev_vl, sv_setD, sv_args, bx, x2, qev_new1]
  exact ⟨env', e, f1, f3, f4, _, _, f6, f8, Arr.more bb2 o3, bb3⟩

/-- DiskCuts, where there is no such disk. -/
theorem lcuts_none (tr : Tree Try.prog h0 (0 + 3 + 1) 58 [vs]) (ra : SlN h0 1 va b1.length (byt b1)) (rb : SlN h0 1 vb b2.length (byt b2)) (he : ofE cap used b1 b2 ≠ 0) : ∃ h', AmFn Try.prog 6 [.agg [int64 cap, int64 used, va, vb], vs, int64 n, int64 m] h0 (.bool true) h' := by
  obtain ⟨h3, run, o3, b4, _⟩ := cuts_boxes h0 cap used n va vb
  obtain ⟨env1, e1, f1, f3, f4, b6, b8, f6, f8, k6, k8⟩ := run vs m
  have ko := of_no (ra.more o3) (rb.more o3) he
  have l0 : read1 h3 h0.next 0 0 = some (int64 cap) := b4.one (i := 0) (by simp)
  have l1 : read1 h3 h0.next 0 1 = some (int64 used) := b4.one (i := 1) (by simp)
  have l2 : read1 h3 h0.next 0 2 = some va := b4.one (i := 2) (by simp)
  have l3 : read1 h3 h0.next 0 3 = some vb := b4.one (i := 3) (by simp)
  have o4 : Only [] h3 (newB h3 .nilPtr) := newH_only _ _ _
  have b9 := newB_box h3 .nilPtr
  have st := storeR_box b9 .nilPtr rfl rfl
  have o5 := putB_only (newB h3 .nilPtr) h3.next .nilPtr
  have b9' := putB_box b9 .nilPtr
  have k8' : Arr (putB (newB h3 .nilPtr) h3.next .nilPtr) b8 [.bool false] := (Arr.more k8 o4).only o5 (by simp only [List.mem_singleton]; exact fun c => by have := k8.old; rw [c] at this; omega)
  have old8 := k8.old
  generalize putB (newB h3 .nilPtr) h3.next .nilPtr = h5 at *
  have l9 := b9'.load
  have st8 := storeR_arr k8' (i := 0) (by simp) (.bool true) rfl rfl
  have kk := known_fn h5
  have k8f : Arr (putA h5 b8 0 (.bool true)) b8 [.bool true] := putA_arr k8' (i := 0) (by simp) (.bool true)
  obtain ⟨env2, e2, g1, g8, g9, g10⟩ : ∃ env', runS Try.prog true (.region lcuts_1) [⟨34, [int64 cap, int64 used, va, vb], h3, .tup [.nilPtr, int64 (ofE cap used b1 b2)], h3⟩] env1 h3 = some (.upt [], [], env', h5) ∧ sv env' 1 = vs ∧ sv env' 8 = .ptr b8 0 0 ∧ sv env' 9 = .ptr h3.next 0 0 ∧ sv env' 10 = int64 (ofE cap used b1 b2) := by
    simp [lcuts_1, runS, runR, Rs.seq, Rs.block, runOps, wanted_no, wanted_sv, ev_tm, ev_vl, sv_setD, sv_set, setD_none, qev_mov, qev_bin, qev_un, qev_lenI, qev_pick, qev_load1, qev_idxSl, idx2_sl, idxA2_ptr, opt_some, bin_add, bin_sub, bin_mul, bin_lss, bin_leq, bin_gtr, bin_geq, bin_eql, bin_neq, un_not, un_neg, qev_callv, qev_new1, qev_store1, qev_nilC, nilC_ptr, qev_fld, fldA_ptr, qev_extract, nth0, nth1, nth2, qev_eqPtr, sameP_nil, notIf, callA_ok ok34, f1, f3, f4, f6, f8, l0, l1, l2, l3, st]
  obtain ⟨env3, e3, j8⟩ : ∃ env', runS Try.prog true (.seq (.region lcuts_2) (.cond (tm 45) (.seq (.region lcuts_3) .ret) .skip)) [⟨35, [], h5, .bool true, h5⟩] env2 h5 = some (.ret, [], env', putA h5 b8 0 (.bool true)) ∧ sv env' 8 = .ptr b8 0 0 := by
    simp [lcuts_2, lcuts_3, runS, runR, Rs.seq, Rs.block, runOps, wanted_no, wanted_sv, ev_tm, ev_vl, sv_setD, sv_set, setD_none, qev_mov, qev_bin, qev_un, qev_lenI, qev_pick, qev_load1, qev_idxSl, idx2_sl, idxA2_ptr, opt_some, bin_add, bin_sub, bin_mul, bin_lss, bin_leq, bin_gtr, bin_geq, bin_eql, bin_neq, un_not, un_neg, qev_callv, qev_new1, qev_store1, qev_nilC, nilC_ptr, qev_fld, fldA_ptr, qev_extract, nth0, nth1, nth2, qev_eqPtr, sameP_nil, notIf, wanted_sv, callA_ok ok35, bin_eqB, sameP_nn, g1, g8, g9, g10, l9, st8, he]
  refine ⟨remMs (putA h5 b8 0 (.bool true)) [], AmFn.dosM (rs := []) (vs := [.bool true]) lcuts_code (by simp) (Dos.seq (M := []) (M1 := []) (Dos.region e1) (Dos.seq (M := []) (M1 := []) (Dos.runGo _ (by intro x hx; simp at hx; subst hx; exact ko) e2) (Dos.left (Dos.runRet _ (by intro x hx; simp at hx; subst hx; exact kk) e3) (by simp)))) (by simp) (by simp) ?_ rfl⟩
  have : result1 env3 (remMs (putA h5 b8 0 (.bool true)) []) (.cell1 (Pos.ofNat 8)) = some (.bool true) := by
    show (match ev env3 (.tmp (Pos.ofNat 8)) with | .ptr id g off => read1 _ id g off | _ => none) = _
    rw [ev_tm, j8]
    exact k8f.load
  show mapO (result1 env3 _) [.cell1 (Pos.ofNat 8)] = _
  simp [mapO, this]

/-- The disk that the law plays with. -/
theorem cuts_begin (vs : AV) (m : Int) (ra : SlN h0 1 va b1.length (byt b1)) (rb : SlN h0 1 vb b2.length (byt b2)) (he : ofE cap used b1 b2 = 0) :
    ∃ env1 h1 env2 h2 b4 b6 b8 b9 κ V p, runOps Try.prog lcuts_0 (setArgs .e 0 [.agg [int64 cap, int64 used, va, vb], vs, int64 n, int64 m]) h0 = some (env1, h1) ∧ Dos Try.prog 6 (.region lcuts_1) env1 h1 .go [] env2 h2 ∧
      At h0 [int64 cap, int64 used, va, vb] n b4 b6 b8 b9 κ h2 p (ofD cap used b1 b2) V [] ∧ En env2 vs m b4 b6 b8 b9 := by
  obtain ⟨h3, run, o3, b4, n3⟩ := cuts_boxes h0 cap used n va vb
  obtain ⟨env1, e1, f1, f3, f4, b6, b8, f6, f8, k6, k8⟩ := run vs m
  obtain ⟨κ1, h4, V, p, ko, g4, o4, A4, hp⟩ := of_yes (fun _ => 0) 1 (ra.more o3) (rb.more o3) he
  have l0 : read1 h3 h0.next 0 0 = some (int64 cap) := b4.one (i := 0) (by simp)
  have l1 : read1 h3 h0.next 0 1 = some (int64 used) := b4.one (i := 1) (by simp)
  have l2 : read1 h3 h0.next 0 2 = some va := b4.one (i := 2) (by simp)
  have l3 : read1 h3 h0.next 0 3 = some vb := b4.one (i := 3) (by simp)
  have o5 : Only [] h4 (newB h4 .nilPtr) := newH_only _ _ _
  have b9 := newB_box h4 .nilPtr
  have st := storeR_box b9 (.ptr p 0 0) rfl rfl
  have o6 := putB_only (newB h4 .nilPtr) h4.next (.ptr p 0 0)
  have b9' := putB_box b9 (.ptr p 0 0)
  generalize putB (newB h4 .nilPtr) h4.next (.ptr p 0 0) = h6 at *
  have o46 : Only [] h4 h6 := ((o5.mono (S' := [h4.next]) (by simp)).trans o6).mono fun id hid => .inr (by simp only [List.mem_singleton] at hid; subst hid; exact Nat.le_refl _)
  have g6 := newK'_agr κ1 h4 9
  have n4 := o4.next
  have old6 := k6.old
  have old8 := k8.old
  have old4 := b4.old
  obtain ⟨env2, e2, q1, q3, q4, q6, q8, q9, q10⟩ : ∃ env', runS Try.prog true (.region lcuts_1) [⟨34, [int64 cap, int64 used, va, vb], h3, .tup [.ptr p 0 0, int64 0], h4⟩] env1 h3 = some (.upt [], [], env', h6) ∧ sv env' 1 = vs ∧ sv env' 3 = int64 m ∧ sv env' 4 = .ptr h0.next 0 0 ∧ sv env' 6 = .ptr b6 0 0 ∧ sv env' 8 = .ptr b8 0 0 ∧ sv env' 9 = .ptr h4.next 0 0 ∧ sv env' 10 = int64 0 := by
    simp [lcuts_1, runS, runR, Rs.seq, Rs.block, runOps, wanted_no, wanted_sv, ev_tm, ev_vl, sv_setD, sv_set, setD_none, qev_mov, qev_bin, qev_un, qev_lenI, qev_pick, qev_load1, qev_idxSl, idx2_sl, idxA2_ptr, opt_some, bin_add, bin_sub, bin_mul, bin_lss, bin_leq, bin_gtr, bin_geq, bin_eql, bin_neq, un_not, un_neg, qev_callv, qev_new1, qev_store1, qev_nilC, nilC_ptr, qev_fld, fldA_ptr, qev_extract, nth0, nth1, nth2, qev_eqPtr, sameP_nil, notIf, callA_ok ok34, f1, f3, f4, f6, f8, l0, l1, l2, l3, st]
  refine ⟨env1, h3, env2, h6, h0.next, b6, b8, h4.next, newK' κ1 h4 9, V, p, e1, Dos.runGo _ (by intro x hx; simp at hx; subst hx; exact ko) e2, ⟨A4.more o46 g6, .of he, ⟨Arr.more b4 (o4.trans o46), ?_⟩, ⟨Arr.more k6 (o4.trans o46), ?_⟩, ⟨Arr.more k8 (o4.trans o46), ?_⟩, ⟨b9'.arr, newK'_new κ1 9 (Nat.le_refl _)⟩, fun id q => ?_, (o3.trans o4).trans o46⟩, ⟨q1, q3, q4, q6, q8, q9, q10⟩⟩
  · exact (g6 _ (by omega)).trans (g4 _ (by omega))
  · exact (g6 _ (by omega)).trans (g4 _ (by omega))
  · exact (g6 _ (by omega)).trans (g4 _ (by omega))
  · have := o3.next
    exact (g6 _ (by omega)).trans (g4 _ (by omega))

/-- DiskCuts, where there are too many steps. -/
theorem lcuts_many (tr : Tree Try.prog h0 (0 + 3 + 1) 58 [vs]) (ra : SlN h0 1 va b1.length (byt b1)) (rb : SlN h0 1 vb b2.length (byt b2)) (he : ofE cap used b1 b2 = 0) (hl : 60 < lenOf vs) : ∃ h', AmFn Try.prog 6 [.agg [int64 cap, int64 used, va, vb], vs, int64 n, int64 m] h0 (.bool true) h' := by
  obtain ⟨env1, h1, env2, h5, b4, b6, b8, b9, κ, V, p, e1, d2, a, ⟨g1, g3, g4, g6, g8, g9, g10⟩⟩ := cuts_begin (n := n) vs m ra rb he
  have l9 := a.k9.arr.load
  have st8 := storeR_arr a.k8.arr (i := 0) (by simp) (.bool true) rfl rfl
  have kk := known_fn h5
  have k8f : Arr (putA h5 b8 0 (.bool true)) b8 [.bool true] := putA_arr a.k8.arr (i := 0) (by simp) (.bool true)
  have hlen := steps_len tr h5
  have hl' : (60 : Int) < lenOf vs := by omega
  obtain ⟨env3, e3, j8⟩ : ∃ env', runS Try.prog true (.seq (.region lcuts_2) (.cond (tm 45) (.seq (.region lcuts_3) .ret) .skip)) [⟨35, [], h5, .bool true, h5⟩] env2 h5 = some (.ret, [], env', putA h5 b8 0 (.bool true)) ∧ sv env' 8 = .ptr b8 0 0 := by
    simp [lcuts_2, lcuts_3, runS, runR, Rs.seq, Rs.block, runOps, wanted_no, wanted_sv, ev_tm, ev_vl, sv_setD, sv_set, setD_none, qev_mov, qev_bin, qev_un, qev_lenI, qev_pick, qev_load1, qev_idxSl, idx2_sl, idxA2_ptr, opt_some, bin_add, bin_sub, bin_mul, bin_lss, bin_leq, bin_gtr, bin_geq, bin_eql, bin_neq, un_not, un_neg, qev_callv, qev_new1, qev_store1, qev_nilC, nilC_ptr, qev_fld, fldA_ptr, qev_extract, nth0, nth1, nth2, qev_eqPtr, sameP_nil, notIf, wanted_sv, callA_ok ok35, bin_eqB, hlen, hl', g1, g3, g4, g6, g8, g9, g10, l9, st8]
  refine ⟨remMs (putA h5 b8 0 (.bool true)) [], AmFn.dosM (rs := []) (vs := [.bool true]) lcuts_code (by simp) (Dos.seq (M := []) (M1 := []) (Dos.region e1) (Dos.seq (M := []) (M1 := []) d2 (Dos.left (Dos.runRet _ (by intro x hx; simp at hx; subst hx; exact kk) e3) (by simp)))) (by simp) (by simp) ?_ rfl⟩
  have : result1 env3 (remMs (putA h5 b8 0 (.bool true)) []) (.cell1 (Pos.ofNat 8)) = some (.bool true) := by
    show (match ev env3 (.tmp (Pos.ofNat 8)) with | .ptr id g off => read1 _ id g off | _ => none) = _
    rw [ev_tm, j8]
    exact k8f.load
  show mapO (result1 env3 _) [.cell1 (Pos.ofNat 8)] = _
  simp [mapO, this]
end
end Go.Proofs.Ytmifpiglcphmoaa.Cuts

namespace Go.Proofs.Ytmifpiglcphmoaa.Cuts
open Go Go.Proofs.Ytmifpiglcphmoaa.Am Go.Proofs
attribute [local irreducible] Tree

section
variable {h0 : Hp} {cap used n m : Int} {va vb vs : AV} {b1 b2 : List UInt8}

/-- The disk that is to be made again. -/
theorem cuts_again {hd : Hp} {κ : Pos → Nat} {p : Pos} {d : Dk} {V : Vs} {ws : List (Wr × AV)} {b4 b6 b8 b9 : Pos} {env : T AV} (a : At h0 [int64 cap, int64 used, va, vb] n b4 b6 b8 b9 κ hd p d V ws) (hb : d.base = ofD cap used b1 b2) (hl : d.ws.length ≤ 60) (ra : SlN h0 1 va b1.length (byt b1)) (rb : SlN h0 1 vb b2.length (byt b2)) (he : ofE cap used b1 b2 = 0) (e : En env vs m b4 b6 b8 b9) :
    ∃ env1 h7 env2 env3 h h9 env4 v' κ8 V8 pa b13 b15, Dos Try.prog 6 (.region lcuts_15) env hd .go [] env1 h7 ∧ Dos Try.prog 6 (.seq (.region lcuts_16) (.cond (tm 95) (.seq (.region lcuts_17) .ret) .skip)) env1 h7 .go [] env2 h7 ∧ Dos Try.prog 6 (.region lcuts_18) env2 h7 .go [] env3 h9 ∧ Dos Try.prog 6 (.region lcuts_19) env3 h9 .go [] env4 h ∧
      Box h7 hd.next v' ∧ Held hd.next.num h7 3 v' d.ws.length (recs ws) ∧ Only [] hd h7 ∧ DkAt κ8 1 h pa d.base V8 [] ∧ (∀ id, id.num < h7.next.num → κ8 id = 0) ∧ Only [] h7 h ∧ Arr h b13 [.ptr pa 0 0] ∧ Arr h b15 [int64 ((0 : Nat) : Int)] ∧ κ8 b13 = 9 ∧ κ8 b15 = 9 ∧ (h7.next.num ≤ b15.num ∧ b13 ≠ b15) ∧ EnF env4 m b6 b8 b9 b13 b15 ∧ sv env4 12 = .fn (.func 67) [] [.ptr hd.next 0 0] := by
  obtain ⟨e1, e3, e4, e6, e8, e9, e10⟩ := e
  have l9 := a.k9.arr.load
  obtain ⟨v', h7, ka, b7, hv, o7, _⟩ := all_fn a.dk (by omega)
  obtain ⟨env1, d1, f3, f4, f6, f8, f9, f12⟩ : ∃ env', runS Try.prog true (.region lcuts_15) [⟨39, [.ptr p 0 0], hd, .fn (.func 67) [] [.ptr hd.next 0 0], h7⟩] env hd = some (.upt [], [], env', h7) ∧ sv env' 3 = int64 m ∧ sv env' 4 = .ptr b4 0 0 ∧ sv env' 6 = .ptr b6 0 0 ∧ sv env' 8 = .ptr b8 0 0 ∧ sv env' 9 = .ptr b9 0 0 ∧ sv env' 12 = .fn (.func 67) [] [.ptr hd.next 0 0] := by
    simp [lcuts_15, runS, runR, Rs.seq, Rs.block, runOps, wanted_no, wanted_sv, ev_tm, ev_vl, sv_setD, sv_set, setD_none, qev_mov, qev_bin, qev_un, qev_lenI, qev_pick, qev_load1, qev_idxSl, idx2_sl, idxA2_ptr, opt_some, bin_add, bin_sub, bin_mul, bin_lss, bin_leq, bin_gtr, bin_geq, bin_eql, bin_neq, un_not, un_neg, qev_callv, qev_new1, qev_store1, qev_nilC, nilC_ptr, qev_fld, fldA_ptr, qev_extract, nth0, nth1, nth2, qev_eqPtr, sameP_nil, notIf, callA_ok ok39, e3, e4, e6, e8, e9, l9]
  have fnE : ∀ (x : AV), binA .eql .fn true (.fn (.func 67) [] [x]) .nilFn = some (.bool false) := fun _ => rfl
  obtain ⟨env2, d2, g3, g4, g6, g8, g9, g12⟩ : ∃ env', runS Try.prog true (.seq (.region lcuts_16) (.cond (tm 95) (.seq (.region lcuts_17) .ret) .skip)) [] env1 h7 = some (.upt [], [], env', h7) ∧ sv env' 3 = int64 m ∧ sv env' 4 = .ptr b4 0 0 ∧ sv env' 6 = .ptr b6 0 0 ∧ sv env' 8 = .ptr b8 0 0 ∧ sv env' 9 = .ptr b9 0 0 ∧ sv env' 12 = .fn (.func 67) [] [.ptr hd.next 0 0] := by
    simp [lcuts_16, runS, runR, Rs.seq, Rs.block, runOps, wanted_no, wanted_sv, ev_tm, ev_vl, sv_setD, sv_set, setD_none, qev_mov, qev_bin, qev_un, qev_lenI, qev_pick, qev_load1, qev_idxSl, idx2_sl, idxA2_ptr, opt_some, bin_add, bin_sub, bin_mul, bin_lss, bin_leq, bin_gtr, bin_geq, bin_eql, bin_neq, un_not, un_neg, qev_callv, qev_new1, qev_store1, qev_nilC, nilC_ptr, qev_fld, fldA_ptr, qev_extract, nth0, nth1, nth2, qev_eqPtr, sameP_nil, notIf, fnE, f3, f4, f6, f8, f9, f12]
  have o07 := a.start.trans o7
  obtain ⟨κ1, h8, V8, pa, ko, g4', o8, A8, hp⟩ := of_yes (fun _ => 0) 1 (ra.more o07) (rb.more o07) he
  have k4 := Arr.more a.k4.arr o7
  have l0 : read1 h7 b4 0 0 = some (int64 cap) := k4.one (i := 0) (by simp)
  have l1 : read1 h7 b4 0 1 = some (int64 used) := k4.one (i := 1) (by simp)
  have l2 : read1 h7 b4 0 2 = some va := k4.one (i := 2) (by simp)
  have l3 : read1 h7 b4 0 3 = some vb := k4.one (i := 3) (by simp)
  have o5 : Only [] h8 (newB h8 .nilPtr) := newH_only _ _ _
  have n5 : (newB h8 .nilPtr).next.num = h8.next.num + 1 := newH_next _ _
  have c9 := newB_box h8 .nilPtr
  have st := storeR_box c9 (.ptr pa 0 0) rfl rfl
  have o6 := putB_only (newB h8 .nilPtr) h8.next (.ptr pa 0 0)
  have c13 := putB_box c9 (.ptr pa 0 0)
  have n6 : (putB (newB h8 .nilPtr) h8.next (.ptr pa 0 0)).next = (newB h8 .nilPtr).next := rfl
  obtain ⟨env3, d3, j3, j6, j8, j9, j12, j13⟩ : ∃ env', runS Try.prog true (.region lcuts_18) [⟨34, [int64 cap, int64 used, va, vb], h7, .tup [.ptr pa 0 0, int64 0], h8⟩] env2 h7 = some (.upt [], [], env', putB (newB h8 .nilPtr) h8.next (.ptr pa 0 0)) ∧ sv env' 3 = int64 m ∧ sv env' 6 = .ptr b6 0 0 ∧ sv env' 8 = .ptr b8 0 0 ∧ sv env' 9 = .ptr b9 0 0 ∧ sv env' 12 = .fn (.func 67) [] [.ptr hd.next 0 0] ∧ sv env' 13 = .ptr h8.next 0 0 := by
    simp [lcuts_18, runS, runR, Rs.seq, Rs.block, runOps, wanted_no, wanted_sv, ev_tm, ev_vl, sv_setD, sv_set, setD_none, qev_mov, qev_bin, qev_un, qev_lenI, qev_pick, qev_load1, qev_idxSl, idx2_sl, idxA2_ptr, opt_some, bin_add, bin_sub, bin_mul, bin_lss, bin_leq, bin_gtr, bin_geq, bin_eql, bin_neq, un_not, un_neg, qev_callv, qev_new1, qev_store1, qev_nilC, nilC_ptr, qev_fld, fldA_ptr, qev_extract, nth0, nth1, nth2, qev_eqPtr, sameP_nil, notIf, callA_ok ok34, g3, g4, g6, g8, g9, g12, l0, l1, l2, l3, st]
  generalize putB (newB h8 .nilPtr) h8.next (.ptr pa 0 0) = h9 at *
  have o89 : Only [] h8 h9 := ((o5.mono (S' := [h8.next]) (by simp)).trans o6).mono fun id hid => .inr (by simp only [List.mem_singleton] at hid; subst hid; exact Nat.le_refl _)
  have n9 : h9.next.num = h8.next.num + 1 := by rw [n6]; exact n5
  have o10 : Only [] h9 (newB h9 (int64 0)) := newH_only _ _ _
  have c15 := newB_box h9 (int64 0)
  have st2 := storeR_box c15 (int64 0) rfl rfl
  have o11 := putB_only (newB h9 (int64 0)) h9.next (int64 0)
  have c15' := putB_box c15 (int64 0)
  obtain ⟨env4, d4, q3, q6, q8, q9, q12, q13, q15⟩ : ∃ env', runS Try.prog true (.region lcuts_19) [] env3 h9 = some (.upt [], [], env', putB (newB h9 (int64 0)) h9.next (int64 0)) ∧ sv env' 3 = int64 m ∧ sv env' 6 = .ptr b6 0 0 ∧ sv env' 8 = .ptr b8 0 0 ∧ sv env' 9 = .ptr b9 0 0 ∧ sv env' 12 = .fn (.func 67) [] [.ptr hd.next 0 0] ∧ sv env' 13 = .ptr h8.next 0 0 ∧ sv env' 15 = .ptr h9.next 0 0 := by
    simp [lcuts_19, runS, runR, Rs.seq, Rs.block, runOps, wanted_no, wanted_sv, ev_tm, ev_vl, sv_setD, sv_set, setD_none, qev_mov, qev_bin, qev_un, qev_lenI, qev_pick, qev_load1, qev_idxSl, idx2_sl, idxA2_ptr, opt_some, bin_add, bin_sub, bin_mul, bin_lss, bin_leq, bin_gtr, bin_geq, bin_eql, bin_neq, un_not, un_neg, qev_callv, qev_new1, qev_store1, qev_nilC, nilC_ptr, qev_fld, fldA_ptr, qev_extract, nth0, nth1, nth2, qev_eqPtr, sameP_nil, notIf, j3, j6, j8, j9, j12, j13, st2]
  generalize putB (newB h9 (int64 0)) h9.next (int64 0) = h10 at *
  have o9A : Only [] h9 h10 := ((o10.mono (S' := [h9.next]) (by simp)).trans o11).mono fun id hid => .inr (by simp only [List.mem_singleton] at hid; subst hid; exact Nat.le_refl _)
  have g6' := newK'_agr κ1 h8 9
  have n8 := o8.next
  refine ⟨env1, h7, env2, env3, h10, h9, env4, v', newK' κ1 h8 9, V8, pa, h8.next, h9.next, Dos.runGo _ (by intro x hx; simp at hx; subst hx; exact ka) d1, Dos.runGo [] (by simp) d2, Dos.runGo _ (by intro x hx; simp at hx; subst hx; exact ko) d3, Dos.runGo [] (by simp) d4, b7, hv, o7, ?_, fun id q => (g6' id (by omega)).trans (g4' id q), (o8.trans o89).trans o9A, Arr.more c13.arr o9A, c15'.arr, newK'_new κ1 9 (Nat.le_refl _), newK'_new κ1 9 (by omega), ⟨by omega, num_ne (by omega)⟩, ⟨q3, q6, q8, q9, q13, q15⟩, q12⟩
  rw [hb]
  exact (A8.more o89 g6').more o9A .refl

/-- DiskCuts, with a disk and not too many steps. -/
theorem lcuts_main (tr : Tree Try.prog h0 (0 + 3 + 1) 58 [vs]) (ra : SlN h0 1 va b1.length (byt b1)) (rb : SlN h0 1 vb b2.length (byt b2)) (he : ofE cap used b1 b2 = 0) (hl : lenOf vs ≤ 60) : ∃ h', AmFn Try.prog 6 [.agg [int64 cap, int64 used, va, vb], vs, int64 n, int64 m] h0 (.bool true) h' := by
  obtain ⟨env1, h1, env2, h2, b4, b6, b8, b9, κ, V, p, r0, d1, a, e⟩ := cuts_begin (n := n) vs m ra rb he
  obtain ⟨g1, g3, g4, g6, g8, g9, g10⟩ := e
  have hlen := steps_len tr h2
  have hl' : ¬ (60 : Int) < lenOf vs := by omega
  obtain ⟨env3, d2, f1, f3, f4, f6, f8, f9, f10⟩ : ∃ env', runS Try.prog true (.seq (.region lcuts_2) (.cond (tm 45) (.seq (.region lcuts_3) .ret) .skip)) [] env2 h2 = some (.upt [], [], env', h2) ∧ sv env' 1 = vs ∧ sv env' 3 = int64 m ∧ sv env' 4 = .ptr b4 0 0 ∧ sv env' 6 = .ptr b6 0 0 ∧ sv env' 8 = .ptr b8 0 0 ∧ sv env' 9 = .ptr b9 0 0 ∧ sv env' 10 = int64 0 := by
    simp [lcuts_2, runS, runR, Rs.seq, Rs.block, runOps, wanted_no, wanted_sv, ev_tm, ev_vl, sv_setD, sv_set, setD_none, qev_mov, qev_bin, qev_un, qev_lenI, qev_pick, qev_load1, qev_idxSl, idx2_sl, idxA2_ptr, opt_some, bin_add, bin_sub, bin_mul, bin_lss, bin_leq, bin_gtr, bin_geq, bin_eql, bin_neq, un_not, un_neg, qev_callv, qev_new1, qev_store1, qev_nilC, nilC_ptr, qev_fld, fldA_ptr, qev_extract, nth0, nth1, nth2, qev_eqPtr, sameP_nil, notIf, wanted_sv, hlen, hl', g1, g3, g4, g6, g8, g9, g10]
  obtain ⟨env4, d3, q1, q3, q4, q6, q8, q9, q10, q11⟩ : ∃ env', runOps Try.prog lcuts_4 env3 h2 = some (env', h2) ∧ sv env' 1 = vs ∧ sv env' 3 = int64 m ∧ sv env' 4 = .ptr b4 0 0 ∧ sv env' 6 = .ptr b6 0 0 ∧ sv env' 8 = .ptr b8 0 0 ∧ sv env' 9 = .ptr b9 0 0 ∧ sv env' 10 = int64 0 ∧ sv env' 11 = int64 ((0 : Nat) : Int) := by
    simp [lcuts_4, runOps, wanted_no, wanted_sv, ev_tm, ev_vl, sv_setD, sv_set, setD_none, qev_mov, qev_bin, qev_un, qev_lenI, qev_pick, qev_load1, qev_idxSl, idx2_sl, idxA2_ptr, opt_some, bin_add, bin_sub, bin_mul, bin_lss, bin_leq, bin_gtr, bin_geq, bin_eql, bin_neq, un_not, un_neg, qev_callv, qev_new1, qev_store1, qev_nilC, nilC_ptr, qev_fld, fldA_ptr, qev_extract, nth0, nth1, nth2, qev_eqPtr, sameP_nil, notIf, f1, f3, f4, f6, f8, f9, f10]
  obtain ⟨env5, κd, hd, d, Vd, wsd, L, ad, hbase, hd60, e5⟩ := all_steps tr hl (lenOf vs) 0 env4 κ h2 _ V [] (by omega) a ⟨q1, q3, q4, q6, q8, q9, q10⟩ q11 (by simp [ofD])
  have hbase : d.base = ofD cap used b1 b2 := hbase
  obtain ⟨env6, h7, env7, env8, h10, h9, env9, v', κ8, V8, pa, b13, b15, d4, d5, d6, d7, b7, hv, o7, ag, kz, o8, k13, k15, k13', k15', hn, e9, e12⟩ := cuts_again ad hbase hd60 ra rb he e5
  obtain ⟨u3, u6, u8, u9, u13, u15⟩ := e9
  obtain ⟨env10, d8, x3, x6, x8, x9, x13, x15, x108⟩ : ∃ env', runOps Try.prog lcuts_20 env9 h10 = some (env', h10) ∧ sv env' 3 = int64 m ∧ sv env' 6 = .ptr b6 0 0 ∧ sv env' 8 = .ptr b8 0 0 ∧ sv env' 9 = .ptr b9 0 0 ∧ sv env' 13 = .ptr b13 0 0 ∧ sv env' 15 = .ptr b15 0 0 ∧ sv env' 108 = .fn (.func 67) [] [.ptr hd.next 0 0] := by
    simp [lcuts_20, runOps, wanted_no, wanted_sv, ev_tm, ev_vl, sv_setD, sv_set, setD_none, qev_mov, qev_bin, qev_un, qev_lenI, qev_pick, qev_load1, qev_idxSl, idx2_sl, idxA2_ptr, opt_some, bin_add, bin_sub, bin_mul, bin_lss, bin_leq, bin_gtr, bin_geq, bin_eql, bin_neq, un_not, un_neg, qev_callv, qev_new1, qev_store1, qev_nilC, nilC_ptr, qev_fld, fldA_ptr, qev_extract, nth0, nth1, nth2, qev_eqPtr, sameP_nil, notIf, u3, u6, u8, u9, u13, u15, e12]
  have n7 := o7.next
  have n8 := o8.next
  obtain ⟨κ9, h11, V9, ws9, d9, lp, ⟨s, hs⟩, n11, _, _, _⟩ := loop_all ad.dk ad.made hd60 ad.k6.arr ad.k9.arr b7 hv (Nat.le_refl _) o7 ag kz o8 k13 k15 k13' k15' hn x6 x8 x9 x13 x15 x108
  have A := lp.ag
  rw [cut_all ad.made] at A
  obtain ⟨env12, h12, κw, Vw, ww, pw, d10, o12, W, e12', w20, w21⟩ := tail_whole ad.dk ad.made hd60 ad.k9.arr lp.o ⟨x3, x6, x8, x9, x13, x15⟩
  obtain ⟨env13, d11, e13⟩ := tail_same ad.dk ad.k9.arr (lp.o.trans o12) (A.more o12 .refl) W (Arr.more lp.k13 o12) (Arr.more lp.k15 o12) e12' w20 w21
  obtain ⟨env14, h14, env15, h15, f, d12, d13, o15, e15, w21', hf⟩ := tail_cuts ad.dk ad.made hd60 ad.k6.arr ad.k9.arr (lp.o.trans o12) e13
  obtain ⟨env16, d14, y8⟩ := tail_end ad.dk ad.k6.arr ad.k8.arr ad.k9.arr ((lp.o.trans o12).trans o15) e15 w21' hf
  have b8hd := ad.k8.arr.old
  have k8f : Arr (putA h15 b8 0 (.bool true)) b8 [.bool true] := putA_arr (Arr.more ad.k8.arr ((lp.o.trans o12).trans o15)) (i := 0) (by simp) (.bool true)
  have oF := putA_only h15 b8 0 (.bool true)
  have n12 := o12.next
  have n15 := o15.next
  have or := remMs_only [h10.next] (putA h15 b8 0 (.bool true))
  have hne : b8 ≠ h10.next := num_ne (by omega)
  have k8g := k8f.only or (by simpa using hne)
  have body : Dos Try.prog 6 lcuts_fu.body (setArgs .e 0 [.agg [int64 cap, int64 used, va, vb], vs, int64 n, int64 m]) h0 .ret [.mark h10.next] env16 (putA h15 b8 0 (.bool true)) := by
    unfold lcuts_fu
    refine Dos.seq (M := [.mark h10.next]) (M1 := []) (Dos.region r0) (Dos.seq (M := [.mark h10.next]) (M1 := []) d1 (Dos.seq (M := [.mark h10.next]) (M1 := []) (Dos.runGo [] (by simp) d2) (Dos.seq (M := [.mark h10.next]) (M1 := []) (Dos.seq (M := []) (M1 := []) (Dos.region d3) (Dos.block (i := 0) (o := .exit 0) (Dos.loop L))) (Dos.seq (M := [.mark h10.next]) (M1 := []) d4 (Dos.seq (M := [.mark h10.next]) (M1 := []) d5 (Dos.seq (M := [.mark h10.next]) (M1 := []) d6 (Dos.seq (M := [.mark h10.next]) (M1 := []) d7 ?_)))))))
    exact Dos.seq (M := []) (M1 := [.mark h10.next]) (Dos.seq (M := [.mark h10.next]) (M1 := []) (Dos.region d8) (Dos.block (i := 3) (o := .go) d9)) (Dos.seq (M := []) (M1 := []) d10 (Dos.seq (M := []) (M1 := []) d11 (Dos.seq (M := []) (M1 := []) d12 (Dos.seq (M := []) (M1 := []) d13 (Dos.seq (M := []) (M1 := []) d14 Dos.ret)))))
  refine ⟨remMs (putA h15 b8 0 (.bool true)) [h10.next], AmFn.dosM (rs := [h10.next]) (vs := [.bool true]) lcuts_code (by simp) body (fun x hx => ?_) (by simp) ?_ rfl⟩
  · simp only [List.mem_singleton] at hx
    subst hx
    refine ⟨s, ?_⟩
    rw [oF.same _ (by omega) (by simpa using hne.symm), o15.same _ (by omega) (by simp), o12.same _ (by omega) (by simp)]
    exact hs
  · have : result1 env16 (remMs (putA h15 b8 0 (.bool true)) [h10.next]) (.cell1 (Pos.ofNat 8)) = some (.bool true) := by
      show (match ev env16 (.tmp (Pos.ofNat 8)) with | .ptr id g off => read1 _ id g off | _ => none) = _
      rw [ev_tm, y8]
      exact k8g.load
    show mapO (result1 env16 _) [.cell1 (Pos.ofNat 8)] = _
    simp [mapO, this]

/-- DiskCuts. -/
theorem lcuts_fn {l : List AV} (ts : Tree Try.prog h0 (0 + 3) 57 l) (tr : Tree Try.prog h0 (0 + 3 + 1) 58 [vs]) (n m : Int) : ∃ h', AmFn Try.prog 6 [.agg l, vs, int64 n, int64 m] h0 (.bool true) h' := by
  obtain ⟨cap, used, va, vb, b1, b2, e, ra, _, rb, _⟩ := start_at ts
  subst e
  by_cases he : ofE cap used b1 b2 = 0
  · rcases Nat.lt_or_ge 60 (lenOf vs) with q | q
    · exact lcuts_many tr ra rb he q
    · exact lcuts_main tr ra rb he q
  · exact lcuts_none tr ra rb he
end
end Go.Proofs.Ytmifpiglcphmoaa.Cuts
