import Derived.Test.YtmifpiglcphmoaaDPlaysF
/- THE WALK'S PARTS, part G: what the functions of the law compute, over the abstract machine that stands beside this text. No condition. -/
set_option linter.unusedSimpArgs false
set_option linter.unusedVariables false
namespace Go.Proofs.Ytmifpiglcphmoaa.DPlays
open Go Go.Proofs.Ytmifpiglcphmoaa.Am Go.Proofs

section
variable {h h7 hS : Hp} {b3 b4 b5 b6 b11 b12 p q q7 : Pos} {d : Dk} {κ κ' : Pos → Nat} {c c' : Nat} {V V' : Vs} {ws ws' : List (Wr × AV)} {leave t : Int} {env : T AV} {v' : AV}

/-- How many rounds come to their end. -/
def rounds (t leave : Int) (n : Nat) : Nat := if t = 0 ∧ 1 ≤ leave ∧ leave ≤ (n : Int) then leave.toNat - 1 else n

/-- What has been counted behind them. -/
def counted (t leave : Int) (n : Nat) : Nat := if t = 0 ∧ 1 ≤ leave ∧ leave ≤ (n : Int) then leave.toNat else n

theorem rounds_le (t leave : Int) (n : Nat) : rounds t leave n ≤ n := by unfold rounds; split <;> omega
theorem rounds_no {t leave : Int} {n i : Nat} (hi : i < rounds t leave n) : ¬ stops t leave i := by
  unfold rounds at hi
  unfold stops
  split at hi <;> omega
theorem rounds_yes {t leave : Int} {n : Nat} (h : rounds t leave n < n) : stops t leave (rounds t leave n) ∧ rounds t leave n + 1 = counted t leave n := by
  unfold rounds at h ⊢
  unfold stops counted
  split at h
  · rename_i q
    rw [if_pos q, if_pos q]
    omega
  · omega
theorem rounds_all {t leave : Int} {n : Nat} (h : rounds t leave n = n) : counted t leave n = n := by
  unfold rounds at h
  unfold counted
  split at h
  · rename_i q; rw [if_pos q]; omega
  · rename_i q; rw [if_neg q]

/-- The raw writes are gone over. -/
theorem raw_over (dk : DkAt κ c hS p d V ws) (rk : RkAt κ' c' hS q d V' ws') (md : Made d) (hl : d.ws.length ≤ 100000) (m : SMem hS b3 b4 b5 b6 (.ptr p 0 0) (.ptr q 0 0) leave) (o7 : Only [] hS h7) (b7 : Box h7 q7 v') (hv : Held hS.next.num h7 3 v' d.ws.length (recs ws)) (hq7 : hS.next.num ≤ q7.num) (o : Only [] h7 h)
    (e : SEn env b3 b4 b5 b6) (e11 : sv env 11 = .ptr b11 0 0) (e12 : sv env 12 = .ptr b12 0 0) (e138 : sv env 138 = .fn (.func 67) [] [.ptr q7 0 0]) (k11 : Arr h b11 [int64 t]) (k12 : Arr h b12 [int64 ((0 : Nat) : Int)]) (hb : h7.next.num ≤ b12.num ∧ b11 ≠ b12) :
    ∃ h', Dos Try.prog 46 (.rangeFunc (tm 138) [(Pos.ofNat 139), (Pos.ofNat 140)] stands_26 stands_35) env h (if rounds t leave d.ws.length = d.ws.length then .go else .exit 5) [.mark h.next] env h' ∧ Only [] hS h' ∧ Only [b12] h h' ∧ Arr h' b11 [int64 t] ∧ Arr h' b12 [int64 (counted t leave d.ws.length : Nat)] ∧ (∃ s, T.get h.next h'.heap = some (.dfr s)) ∧ h.next.num + 2 ≤ h'.next.num := by
  have hwl : ws.length = d.ws.length := by rw [← dk.eq, List.length_map]
  have n7 := o7.next
  have n8 := o.next
  have oh := o7.trans o
  have old11 := k11.old
  have old12 := k12.old
  have dold : ∀ x ∈ ws, ∀ id, InN 1 x.2 id → id.num < hS.next.num := fun x hx id q => ((dk.dat x hx).k id q).2
  rw [← hwl] at hv
  have goer := yall_goes (by omega) (b7.only o (by simp)) ((hv.weak (Nat.zero_le _)).more o) (fun x hx => ((dk.dat x hx).sl.more oh)) (fun x hx id q => by have := dold x hx id q; omega) (fun x hx => md.size x.1 (by rw [← dk.eq]; exact List.mem_map_of_mem hx))
  have hM : ∀ id, heldA q7 v' ws id → id.num < h7.next.num := fun id c => by
    rcases c with (c | c) | ⟨x, hx, c⟩
    · subst c; exact b7.old
    · exact (hv.old c).2
    · have := dold x hx id c; omega
  have hS2 : ∀ id ∈ [b12], ¬ heldA q7 v' ws id ∧ id.num < h.next.num := fun id hid => by
    simp only [List.mem_singleton] at hid
    subst hid
    exact ⟨fun c => by have := hM _ c; omega, old12⟩
  have hK := rounds_le t leave d.ws.length
  obtain ⟨B, hB, over⟩ := Dos.overA (F := 46) (env := env) (h := h) (f := tm 138) (params := [Pos.ofNat 139, Pos.ofNat 140]) (assign := stands_26) (body := stands_35) goer (fun id c => by have := hM id c; omega) ok67 e138 hS2 (K := rounds t leave d.ws.length) (by omega) (j := .exit 5) (o := .exit 5) (.inr ⟨5, rfl, rfl⟩)
  have clos : ∀ {h1 h2 : Hp} {S' : List Pos} {z : Int}, Arr h1 b11 [int64 t] ∧ Arr h1 b12 [int64 z] ∧ Only [] hS h1 → Only S' h1 h2 → (∀ id ∈ S', h.next.num ≤ id.num ∧ id.num < B) → Arr h2 b11 [int64 t] ∧ Arr h2 b12 [int64 z] ∧ Only [] hS h2 := fun {h1 h2 S' z} a oq hS' =>
    ⟨a.1.only oq fun c => by have := hS' _ c; omega, a.2.1.only oq fun c => by have := hS' _ c; omega, ((a.2.2.mono (S' := S') (by simp)).trans oq).mono fun id hid => .inr (by have := hS' id hid; omega)⟩
  have round : ∀ (i : Nat) (env5 : T AV) (h1 : Hp) (w : Pos) (dv : AV) (hi : i < d.ws.length), REn env5 b3 b4 b5 b6 b11 b12 w i → Arr h1 b11 [int64 t] ∧ Arr h1 b12 [int64 (i : Nat)] ∧ Only [] hS h1 → Arr h1 w [int64 (d.ws[i]).kind, int64 (d.ws[i]).area, dv] → Held 0 h1 1 dv (d.ws[i]).data.length (byt (d.ws[i]).data) → (∀ id, InN 1 dv id → B ≤ id.num) →
      ∃ env6 h2 S', Dos Try.prog 46 stands_35 env5 h1 (if stops t leave i then .exit 5 else .go) [] env6 h2 ∧ (Arr h2 b11 [int64 t] ∧ Arr h2 b12 [int64 (i + 1 : Nat)] ∧ Only [] hS h2) ∧ Only S' h1 h2 ∧ ∀ id ∈ S', id ∈ [b12] ∨ B ≤ id.num := fun i env5 h1 w dv hi ee ⟨q11, q12, qo⟩ kw hd hdB => by
    obtain ⟨env6, h2, S', d2, x1, x2, x3, x4, x5⟩ := raw_body dk rk md hl m qo ee hi q11 q12 kw hd (fun id q => by have := hdB id q; exact ⟨by omega, num_ne (by omega), num_ne (by omega)⟩) ⟨by omega, hb.2⟩
    exact ⟨env6, h2, S', d2, ⟨x2, x3, x1⟩, x4, fun id q => (x5 id q).elim (fun q => .inr (hdB id q)) fun q => .inl (by simp [q])⟩
  obtain ⟨h3, d3, ⟨a11, a12, ao⟩, o3, hs3, n3⟩ := over
    (fun i h1 => Arr h1 b11 [int64 t] ∧ Arr h1 b12 [int64 (i : Nat)] ∧ Only [] hS h1)
    (fun h1 => Arr h1 b11 [int64 t] ∧ Arr h1 b12 [int64 (counted t leave d.ws.length : Nat)] ∧ Only [] hS h1)
    (fun i env5 T h1 => ∃ w dv, ∃ hi : i < d.ws.length, REn env5 b3 b4 b5 b6 b11 b12 w i ∧ (Arr h1 b11 [int64 t] ∧ Arr h1 b12 [int64 (i : Nat)] ∧ Only [] hS h1) ∧ Arr h1 w [int64 (d.ws[i]).kind, int64 (d.ws[i]).area, dv] ∧ B ≤ w.num ∧ Held 0 h1 1 dv (d.ws[i]).data.length (byt (d.ws[i]).data) ∧ ∀ id, InN 1 dv id → B ≤ id.num)
    (fun i h1 h2 S' a oq hS' => clos a oq hS')
    (fun h1 h2 S' a oq hS' => clos a oq hS')
    (fun i env5 T h1 h2 id ⟨w, dv, hi, ee, a, kw, hw, hd, hdB⟩ oq hid1 hid2 _ => ⟨w, dv, hi, ee, clos a oq (fun z hz => by simp at hz; subst hz; omega), kw.only oq (by simp only [List.mem_singleton]; exact num_ne (by omega)), hw, hd.only oq (fun z hz c => by simp at c; subst c; have := hdB _ hz; omega), hdB⟩)
    (fun i hO h1 ys Tl hiK hi a hBO oO ⟨hi', dv, ey, hdv, eT⟩ hT => by
      subst ey
      have hid : i < d.ws.length := by omega
      have ewi : ws[i].1 = d.ws[i] := by
        have : (ws.map Prod.fst)[i]? = d.ws[i]? := by rw [dk.eq]
        rw [List.getElem?_map, List.getElem?_eq_getElem hi, List.getElem?_eq_getElem hid] at this
        exact Option.some.inj this
      rw [ewi] at hdv ⊢
      obtain ⟨e3, e4, e5, e6⟩ := e
      have oX : Only [] h1 (newH h1 fun s => .cells s (Cells.ofL [int64 0, int64 0, .nilSl]) 0 0 0 0 false false) := newH_only _ _ _
      have bX := newH_arr h1 [int64 0, int64 0, .nilSl]
      have nw := fun env => qev_newL Try.prog env h1 [int64 0, int64 0, .nilSl]
      obtain ⟨h2, st, bw, oY, nY⟩ := storeN_arr Try.prog bX (xs := [int64 (d.ws[i]).kind, int64 (d.ws[i]).area, dv]) rfl (by simp) (fun x hx => by
        simp only [List.mem_cons, List.not_mem_nil, or_false] at hx
        rcases hx with e | e | e <;> subst e
        · rfl
        · rfl
        · exact hdv.sl.atom.1)
      simp only [List.length_cons, List.length_nil] at st
      have oZ : Only [] h1 h2 := ((oX.mono (S' := [h1.next]) (by simp)).trans oY).mono fun id hid => .inr (by simp only [List.mem_singleton] at hid; subst hid; exact Nat.le_refl _)
      have nO := oO.next
      obtain ⟨env5, e5', x3, x4, x5, x6, x11, x12, x13, x14⟩ : ∃ env5, runS Try.prog true stands_26 [] (Am.T.set (Pos.ofNat 140) (some (.agg [int64 (d.ws[i]).kind, int64 (d.ws[i]).area, dv])) (Am.T.set (Pos.ofNat 139) (some (int64 i)) env)) h1 = some (.upt [], [], env5, h2) ∧ sv env5 3 = .ptr b3 0 0 ∧ sv env5 4 = .ptr b4 0 0 ∧ sv env5 5 = .ptr b5 0 0 ∧ sv env5 6 = .ptr b6 0 0 ∧ sv env5 11 = .ptr b11 0 0 ∧ sv env5 12 = .ptr b12 0 0 ∧ sv env5 13 = int64 (i : Nat) ∧ sv env5 14 = .ptr h1.next 0 0 := by
        unfold stands_26
        simp [stands_24, stands_25, runS, runR, Rs.seq, Rs.block, runOps, wanted_no, wanted_sv, ev_tm, ev_vl, sv_setD, sv_set, setD_none, qev_mov, qev_bin, qev_un, qev_lenI, qev_pick, qev_load1, qev_idxSl, idx2_sl, idxA2_ptr, opt_some, bin_add, bin_sub, bin_mul, bin_lss, bin_leq, bin_gtr, bin_geq, bin_eql, bin_neq, un_not, un_neg, qev_callv, qev_new1, qev_store1, qev_nilC, nilC_ptr, qev_fld, fld0, fldN, qev_extract, nth0, nth1, nth2, qev_eqPtr, sameP_nil, notIf, e3, e4, e5, e6, e11, e12, nw, st]
      refine ⟨_, env5, h2, by simp [setParams, Am.T.setK_eq], Dos.runGo [] (by simp) e5', oZ, h1.next, dv, hid, ⟨x3, x4, x5, x6, x11, x12, x13, x14⟩, ⟨Arr.more a.1 (oO.trans oZ), Arr.more a.2.1 (oO.trans oZ), a.2.2.trans (oO.trans oZ)⟩, bw, by omega, hdv.more oZ, fun id q => ?_⟩
      have := (hT id (eT ▸ idsN_in q)).1
      omega)
    (fun i env5 T h1 hiK ⟨w, dv, hi, ee, a, kw, hw, hd, hdB⟩ hB1 _ => by
      obtain ⟨env6, h2, S', d2, x1, x2, x3⟩ := round i env5 h1 w dv hi ee a kw hd hdB
      rw [if_neg (rounds_no hiK)] at d2
      exact ⟨env6, h2, S', d2, x1, x2, x3⟩)
    (fun hK' h1 a => by
      have e1 : rounds t leave d.ws.length = d.ws.length := by omega
      rw [rounds_all e1]
      rw [e1] at a
      exact a)
    (fun hK' env5 T h1 ⟨w, dv, hi, ee, a, kw, hw, hd, hdB⟩ hB1 _ => by
      obtain ⟨q1, q2⟩ := rounds_yes (by omega : rounds t leave d.ws.length < d.ws.length)
      obtain ⟨env6, h2, S', d2, x1, x2, x3⟩ := round _ env5 h1 w dv hi ee a kw hd hdB
      rw [if_pos q1] at d2
      rw [q2] at x1
      exact ⟨env6, h2, S', d2, x1, x2, x3⟩)
    ⟨k11, k12, oh⟩
  rw [hwl] at d3
  exact ⟨h3, d3, ao, o3, a11, a12, hs3, n3⟩
end
end Go.Proofs.Ytmifpiglcphmoaa.DPlays

namespace Go.Proofs.Ytmifpiglcphmoaa.DPlays
open Go Go.Proofs.Ytmifpiglcphmoaa.Am Go.Proofs

section
variable {h h7 hS : Hp} {b3 b4 b5 b6 b11 b12 p q q7 : Pos} {d : Dk} {κ κ' : Pos → Nat} {c c' : Nat} {V V' : Vs} {ws ws' : List (Wr × AV)} {leave t : Int} {env : T AV} {v' : AV}

/-- What was counted is right. -/
theorem turn_count (rk : RkAt κ' c' h q d V' ws') (m : SMem h b3 b4 b5 b6 (.ptr p 0 0) (.ptr q 0 0) leave) (e : SEn env b3 b4 b5 b6) {f : AV} (e10 : sv env 10 = f) (e11 : sv env 11 = .ptr b11 0 0) (e12 : sv env 12 = .ptr b12 0 0) (k11 : Arr h b11 [int64 t]) (k12 : Arr h b12 [int64 (counted t leave d.ws.length : Nat)]) :
    ∃ env', Dos Try.prog 46 (.seq (.drawn stands_36) (.cond (tm 212) (.seq (.region stands_37) .ret) .skip)) env h .go [] env' h ∧ SEn env' b3 b4 b5 b6 ∧ sv env' 10 = f ∧ sv env' 11 = .ptr b11 0 0 := by
  obtain ⟨e3, e4, e5, e6⟩ := e
  have l4 := m.k4.load
  have l5 := m.k5.load
  have l7 := rk.l7
  have lw := rk.vw.hd.sl.lenI (P := Try.prog) h
  have l11 := k11.load
  have l12 := k12.load
  have main : ∃ env' acts lds, runD Try.prog noRec 0 stands_36 ⟨[], [], [], h.next, env, h⟩ = some ⟨acts, lds, [], h.next, env', h⟩ ∧ sv env' 3 = .ptr b3 0 0 ∧ sv env' 4 = .ptr b4 0 0 ∧ sv env' 5 = .ptr b5 0 0 ∧ sv env' 6 = .ptr b6 0 0 ∧ sv env' 10 = f ∧ sv env' 11 = .ptr b11 0 0 ∧ sv env' 212 = .bool false := by
    unfold stands_36
    by_cases hc : t = 0 ∧ 1 ≤ leave ∧ leave ≤ (d.ws.length : Int)
    · obtain ⟨h0, h1, h2⟩ := hc
      subst h0
      obtain ⟨n, rfl⟩ : ∃ n : Nat, leave = (n : Int) := ⟨leave.toNat, by omega⟩
      have hcn : counted 0 (n : Int) d.ws.length = n := by unfold counted; rw [if_pos ⟨rfl, h1, h2⟩]; omega
      rw [hcn] at l12
      by_cases hn : n = d.ws.length
      · simp [runD, stepD, actO, kindOf, lookBack, lookAgain, putT, remAl, insT, bit, wanted_no, wanted_sv, ev_tm, ev_vl, sv_setD, setD_none, qev_mov, qev_bin, qev_pick, bin_neq, bin_eql, opt_some, qev_load1, qev_nilC, nilC_ptr, qev_fld, fld0, fldN, e3, e4, e5, e6, e10, e11, e12, l4, l5, l7, lw, l11, l12, hn, AV.undef]
      · have hn' : ¬ (n : Int) = (d.ws.length : Int) := by omega
        simp [runD, stepD, actO, kindOf, lookBack, lookAgain, putT, remAl, insT, bit, wanted_no, wanted_sv, ev_tm, ev_vl, sv_setD, setD_none, qev_mov, qev_bin, qev_pick, bin_neq, bin_eql, opt_some, qev_load1, qev_nilC, nilC_ptr, qev_fld, fld0, fldN, e3, e4, e5, e6, e10, e11, e12, l4, l5, l7, lw, l11, l12, hn, hn', AV.undef]
    · have hcn : counted t leave d.ws.length = d.ws.length := by unfold counted; rw [if_neg hc]
      rw [hcn] at l12
      simp [runD, stepD, actO, kindOf, lookBack, lookAgain, putT, remAl, insT, bit, wanted_no, wanted_sv, ev_tm, ev_vl, sv_setD, setD_none, qev_mov, qev_bin, qev_pick, bin_neq, bin_eql, opt_some, qev_load1, qev_nilC, nilC_ptr, qev_fld, fld0, fldN, e3, e4, e5, e6, e10, e11, e12, l4, l5, l7, lw, l11, l12, AV.undef]
  obtain ⟨env', acts, lds, e, f3, f4, f5, f6, f10, f11, f212⟩ := main
  exact ⟨env', Dos.seq (M := []) (M1 := []) (Dos.drawn (noRec_sound _) (runDrawn_of (acts := acts) (lds := lds) (by simp [stands_36, skipIds, isAlloc, kindOf]) e)) (Dos.cond (t := false) f212 .skip), ⟨f3, f4, f5, f6⟩, f10, f11⟩

/-- A turn over the raw writes. -/
theorem turn_round (dk : DkAt κ c hS p d V ws) (rk : RkAt κ' c' hS q d V' ws') (md : Made d) (hl : d.ws.length ≤ 100000) (m : SMem hS b3 b4 b5 b6 (.ptr p 0 0) (.ptr q 0 0) leave) (o7 : Only [] hS h7) (b7 : Box h7 q7 v') (hv : Held hS.next.num h7 3 v' d.ws.length (recs ws)) (hq7 : hS.next.num ≤ q7.num) (o : Only [] h7 h)
    (e : SEn env b3 b4 b5 b6) (e10 : sv env 10 = .fn (.func 67) [] [.ptr q7 0 0]) (e11 : sv env 11 = .ptr b11 0 0) (k11 : Arr h b11 [int64 t]) (ht : 0 ≤ t ∧ t < 2) :
    ∃ env' h' r b', Dos Try.prog 46 stands_41 env h .go [.mark r] env' h' ∧ Only [] h h' ∧ SEn env' b3 b4 b5 b6 ∧ sv env' 10 = .fn (.func 67) [] [.ptr q7 0 0] ∧ sv env' 11 = .ptr b' 0 0 ∧ Arr h' b' [int64 (t + 1)] ∧ (∃ s, T.get r h'.heap = some (.dfr s)) ∧ h.next.num ≤ r.num ∧ r.num < h'.next.num := by
  obtain ⟨e3, e4, e5, e6⟩ := e
  have l11 := k11.load
  have n7 := o.next
  have c12 := newB_box h (int64 0)
  have st12 := storeR_box c12 (int64 0) rfl rfl
  have o1 : Only [] h (newB h (int64 0)) := newH_only _ _ _
  have n1 : (newB h (int64 0)).next.num = h.next.num + 1 := newH_next _ _
  have k12 : Arr (putB (newB h (int64 0)) h.next (int64 0)) h.next [int64 ((0 : Nat) : Int)] := (putB_box c12 (int64 0)).arr
  have o2 := putB_only (newB h (int64 0)) h.next (int64 0)
  have n2 : (putB (newB h (int64 0)) h.next (int64 0)).next = (newB h (int64 0)).next := rfl
  obtain ⟨env1, r1, f3, f4, f5, f6, f10, f11, f12⟩ : ∃ env', runS Try.prog true (.seq (.region stands_21) (.cond (tm 135) .skip (.exit 3))) [] env h = some (.upt [], [], env', h) ∧ sv env' 3 = .ptr b3 0 0 ∧ sv env' 4 = .ptr b4 0 0 ∧ sv env' 5 = .ptr b5 0 0 ∧ sv env' 6 = .ptr b6 0 0 ∧ sv env' 10 = .fn (.func 67) [] [.ptr q7 0 0] ∧ sv env' 11 = .ptr b11 0 0 ∧ True := by
    simp [stands_21, runS, runR, Rs.seq, Rs.block, runOps, wanted_no, wanted_sv, ev_tm, ev_vl, sv_setD, sv_set, setD_none, qev_mov, qev_bin, qev_un, qev_lenI, qev_pick, qev_load1, qev_idxSl, idx2_sl, idxA2_ptr, opt_some, bin_add, bin_sub, bin_mul, bin_lss, bin_leq, bin_gtr, bin_geq, bin_eql, bin_neq, un_not, un_neg, qev_callv, qev_new1, qev_store1, qev_nilC, nilC_ptr, qev_fld, fld0, fldN, qev_extract, nth0, nth1, nth2, qev_eqPtr, sameP_nil, notIf, e3, e4, e5, e6, e10, e11, l11, ht]
  obtain ⟨env2, r2, g3, g4, g5, g6, g10, g11, g12⟩ : ∃ env', runOps Try.prog stands_22 env1 h = some (env', putB (newB h (int64 0)) h.next (int64 0)) ∧ sv env' 3 = .ptr b3 0 0 ∧ sv env' 4 = .ptr b4 0 0 ∧ sv env' 5 = .ptr b5 0 0 ∧ sv env' 6 = .ptr b6 0 0 ∧ sv env' 10 = .fn (.func 67) [] [.ptr q7 0 0] ∧ sv env' 11 = .ptr b11 0 0 ∧ sv env' 12 = .ptr h.next 0 0 := by
    simp [stands_22, runOps, wanted_no, wanted_sv, ev_tm, ev_vl, sv_setD, sv_set, setD_none, qev_mov, qev_bin, qev_un, qev_lenI, qev_pick, qev_load1, qev_idxSl, idx2_sl, idxA2_ptr, opt_some, bin_add, bin_sub, bin_mul, bin_lss, bin_leq, bin_gtr, bin_geq, bin_eql, bin_neq, un_not, un_neg, qev_callv, qev_new1, qev_store1, qev_nilC, nilC_ptr, qev_fld, fld0, fldN, qev_extract, nth0, nth1, nth2, qev_eqPtr, sameP_nil, notIf, f3, f4, f5, f6, f10, f11, st12]
  generalize putB (newB h (int64 0)) h.next (int64 0) = h2 at *
  have o12 : Only [] h h2 := ((o1.mono (S' := [h.next]) (by simp)).trans o2).mono fun id hid => .inr (by simp only [List.mem_singleton] at hid; subst hid; exact Nat.le_refl _)
  have n2' : h2.next.num = h.next.num + 1 := by rw [n2, n1]
  have k11a := Arr.more k11 o12
  have old11 := k11.old
  obtain ⟨env3, r3, i3, i4, i5, i6, i10, i11, i12, i138⟩ : ∃ env', runOps Try.prog stands_23 env2 h2 = some (env', h2) ∧ sv env' 3 = .ptr b3 0 0 ∧ sv env' 4 = .ptr b4 0 0 ∧ sv env' 5 = .ptr b5 0 0 ∧ sv env' 6 = .ptr b6 0 0 ∧ sv env' 10 = .fn (.func 67) [] [.ptr q7 0 0] ∧ sv env' 11 = .ptr b11 0 0 ∧ sv env' 12 = .ptr h.next 0 0 ∧ sv env' 138 = .fn (.func 67) [] [.ptr q7 0 0] := by
    simp [stands_23, runOps, wanted_no, wanted_sv, ev_tm, ev_vl, sv_setD, sv_set, setD_none, qev_mov, qev_bin, qev_un, qev_lenI, qev_pick, qev_load1, qev_idxSl, idx2_sl, idxA2_ptr, opt_some, bin_add, bin_sub, bin_mul, bin_lss, bin_leq, bin_gtr, bin_geq, bin_eql, bin_neq, un_not, un_neg, qev_callv, qev_new1, qev_store1, qev_nilC, nilC_ptr, qev_fld, fld0, fldN, qev_extract, nth0, nth1, nth2, qev_eqPtr, sameP_nil, notIf, g3, g4, g5, g6, g10, g11, g12]
  obtain ⟨h3, d3, oS3, o3, a11, a12, ⟨s, hs⟩, n3⟩ := raw_over dk rk md hl m o7 b7 hv hq7 (o.trans o12) ⟨i3, i4, i5, i6⟩ i11 i12 i138 k11a k12 ⟨by omega, num_ne (by omega)⟩
  have d3' : Dos Try.prog 46 (.block 5 (.rangeFunc (tm 138) [(Pos.ofNat 139), (Pos.ofNat 140)] stands_26 stands_35)) env3 h2 .go [.mark h2.next] env3 h3 := by
    have := Dos.block (i := 5) d3
    by_cases hr : rounds t leave d.ws.length = d.ws.length
    · rw [if_pos hr] at this; exact this
    · rw [if_neg hr] at this; exact this
  have oh3 : Only [] h h3 := ((o12.mono (S' := [h.next]) (by simp)).trans o3).mono fun id hid => .inr (by simp only [List.mem_singleton] at hid; subst hid; exact Nat.le_refl _)
  obtain ⟨env4, d4, ⟨j3, j4, j5, j6⟩, j10, j11⟩ := turn_count (rk.more oS3 .refl) (m.more oS3) ⟨i3, i4, i5, i6⟩ i10 i11 i12 a11 a12
  have l11' := a11.load
  have c13 := newB_box h3 (int64 0)
  have st13 := storeR_box c13 (int64 t) rfl rfl
  have c13' := putB_box c13 (int64 t)
  have l13 := c13'.load
  have st14 := storeR_box c13' (int64 (t + 1)) rfl rfl
  have c14 := putB_box c13' (int64 (t + 1))
  have w1 : wrapA .i64 (t + 1) = t + 1 := wrap64 (by omega) (by omega)
  have ob1 : Only [] h3 (newB h3 (int64 0)) := newH_only _ _ _
  have ob2 := putB_only (newB h3 (int64 0)) h3.next (int64 t)
  have ob3 := putB_only (putB (newB h3 (int64 0)) h3.next (int64 t)) h3.next (int64 (t + 1))
  have oB : Only [] h3 (putB (putB (newB h3 (int64 0)) h3.next (int64 t)) h3.next (int64 (t + 1))) := (((ob1.mono (S' := [h3.next]) (by simp)).trans ob2).trans ob3).mono fun id hid => .inr (by simp only [List.mem_singleton] at hid; subst hid; exact Nat.le_refl _)
  obtain ⟨env5, r5, x3, x4, x5, x6, x10, x11⟩ : ∃ env', runS Try.prog true (.seq (.seq (.region stands_38) (.region stands_39)) (.region stands_40)) [] env4 h3 = some (.upt [], [], env', putB (putB (newB h3 (int64 0)) h3.next (int64 t)) h3.next (int64 (t + 1))) ∧ sv env' 3 = .ptr b3 0 0 ∧ sv env' 4 = .ptr b4 0 0 ∧ sv env' 5 = .ptr b5 0 0 ∧ sv env' 6 = .ptr b6 0 0 ∧ sv env' 10 = .fn (.func 67) [] [.ptr q7 0 0] ∧ sv env' 11 = .ptr h3.next 0 0 := by
    simp [stands_38, stands_39, stands_40, runS, runR, Rs.seq, Rs.block, runOps, wanted_no, wanted_sv, ev_tm, ev_vl, sv_setD, sv_set, setD_none, qev_mov, qev_bin, qev_un, qev_lenI, qev_pick, qev_load1, qev_idxSl, idx2_sl, idxA2_ptr, opt_some, bin_add, bin_sub, bin_mul, bin_lss, bin_leq, bin_gtr, bin_geq, bin_eql, bin_neq, un_not, un_neg, qev_callv, qev_new1, qev_store1, qev_nilC, nilC_ptr, qev_fld, fld0, fldN, qev_extract, nth0, nth1, nth2, qev_eqPtr, sameP_nil, notIf, j3, j4, j5, j6, j10, j11, l11', st13, l13, st14, w1]
  generalize putB (putB (newB h3 (int64 0)) h3.next (int64 t)) h3.next (int64 (t + 1)) = h5 at *
  have n5 := oB.next
  refine ⟨env5, h5, h2.next, h3.next, ?_, oh3.trans oB, ⟨x3, x4, x5, x6⟩, x10, x11, c14.arr, ⟨s, by rw [oB.same _ (by omega) (by simp)]; exact hs⟩, by omega, by omega⟩
  unfold stands_41
  exact Dos.seq (M := [.mark h2.next]) (M1 := []) (Dos.runGo [] (by simp) r1) (Dos.seq (M := []) (M1 := [.mark h2.next]) (Dos.block (i := 4) (o := .go) (Dos.seq (M := [.mark h2.next]) (M1 := []) (Dos.region r2) (Dos.seq (M := []) (M1 := [.mark h2.next]) (Dos.seq (M := [.mark h2.next]) (M1 := []) (Dos.region r3) d3') d4))) (Dos.runGo [] (by simp) r5))
end
end Go.Proofs.Ytmifpiglcphmoaa.DPlays

namespace Go.Proofs.Ytmifpiglcphmoaa.DPlays
open Go Go.Proofs.Ytmifpiglcphmoaa.Am Go.Proofs

/-- stands' boxes. -/
theorem stands_boxes (h : Hp) {x y : AV} (hx : x.cells = [x]) (hy : y.cells = [y]) (leave : Int) : ∃ b3 b4 b5 b6 env hS, runOps Try.prog stands_0 (setArgs .e 0 [x, y, int64 leave]) h = some (env, hS) ∧ SEn env b3 b4 b5 b6 ∧ SMem hS b3 b4 b5 b6 x y leave ∧ Only [] h hS ∧ h.next.num ≤ b6.num := by
  have o1 : Only [] h (newB h x) := newH_only _ _ _
  have n1 : (newB h x).next.num = h.next.num + 1 := newH_next _ _
  have b1 := (newB_box h x).arr
  have x1 : ∀ env (z : Opd), ev env z = x → evalOp Try.prog (.box z) env h = .val (.ptr h.next 0 0) (newB h x) := fun env z hz => by
    have q := qev_box Try.prog env h z (by rw [hz]; exact hx)
    rw [hz] at q; exact q
  generalize newB h x = h1 at *
  have o2 : Only [] h1 (newB h1 y) := newH_only _ _ _
  have n2 : (newB h1 y).next.num = h1.next.num + 1 := newH_next _ _
  have b2 := (newB_box h1 y).arr
  have x2 : ∀ env (z : Opd), ev env z = y → evalOp Try.prog (.box z) env h1 = .val (.ptr h1.next 0 0) (newB h1 y) := fun env z hz => by
    have q := qev_box Try.prog env h1 z (by rw [hz]; exact hy)
    rw [hz] at q; exact q
  generalize newB h1 y = h2 at *
  have o3 : Only [] h2 (newB h2 (int64 leave)) := newH_only _ _ _
  have n3 : (newB h2 (int64 leave)).next.num = h2.next.num + 1 := newH_next _ _
  have b3 := (newB_box h2 (int64 leave)).arr
  have x3 : ∀ env (z : Opd), ev env z = int64 leave → evalOp Try.prog (.box z) env h2 = .val (.ptr h2.next 0 0) (newB h2 (int64 leave)) := fun env z hz => by
    have q := qev_box Try.prog env h2 z (by rw [hz]; rfl)
    rw [hz] at q; exact q
  generalize newB h2 (int64 leave) = h3 at *
  have o4 : Only [] h3 (newB h3 (.bool false)) := newH_only _ _ _
  have b4 := (newB_box h3 (.bool false)).arr
  obtain ⟨env, e, f3, f4, f5, f6⟩ : ∃ env, runOps Try.prog stands_0 (setArgs .e 0 [x, y, int64 leave]) h = some (env, newB h3 (.bool false)) ∧ sv env 3 = .ptr h.next 0 0 ∧ sv env 4 = .ptr h1.next 0 0 ∧ sv env 5 = .ptr h2.next 0 0 ∧ sv env 6 = .ptr h3.next 0 0 := by
    simp [stands_0, sv_args, runOps, wanted_no, wanted_sv, ev_tm, ev_vl, sv_setD, sv_set, setD_none, qev_mov, qev_bin, qev_un, qev_lenI, qev_pick, qev_load1, qev_idxSl, idx2_sl, idxA2_ptr, opt_some, bin_add, bin_sub, bin_mul, bin_lss, bin_leq, bin_gtr, bin_geq, bin_eql, bin_neq, un_not, un_neg, qev_callv, qev_new1, qev_store1, qev_nilC, nilC_ptr, qev_fld, fld0, fldN, qev_extract, nth0, nth1, nth2, qev_eqPtr, sameP_nil, notIf, x1, x2, x3]
  exact ⟨h.next, h1.next, h2.next, h3.next, env, _, e, ⟨f3, f4, f5, f6⟩, ⟨Arr.more b1 ((o2.trans o3).trans o4), Arr.more b2 (o3.trans o4), Arr.more b3 o4, b4⟩, ((o1.trans o2).trans o3).trans o4, by omega⟩

section
variable {h : Hp} {p q : Pos} {d : Dk} {κ κ' : Pos → Nat} {c c' : Nat} {V V' : Vs} {ws ws' : List (Wr × AV)}

/-- A disk stands as the document's does. -/
theorem stands_fn (dk : DkAt κ c h p d V ws) (rk : RkAt κ' c' h q d V' ws') (md : Made d) (hl : d.ws.length ≤ 100000) (leave : Int) : ∃ h', AmFn Try.prog 46 [.ptr p 0 0, .ptr q 0 0, int64 leave] h (.bool true) h' ∧ Only [] h h' := by
  obtain ⟨b3, b4, b5, b6, env1, hS, r0, e1, m, oS, hb6⟩ := stands_boxes h (x := .ptr p 0 0) (y := .ptr q 0 0) rfl rfl leave
  have dkS := dk.more oS .refl
  have rkS := rk.more oS .refl
  have oldb6 := m.k6.old
  obtain ⟨e3, e4, e5, e6⟩ := e1
  obtain ⟨env2, r1, f3, f4, f5, f6, f7⟩ : ∃ env', runOps Try.prog stands_1 env1 hS = some (env', hS) ∧ sv env' 3 = .ptr b3 0 0 ∧ sv env' 4 = .ptr b4 0 0 ∧ sv env' 5 = .ptr b5 0 0 ∧ sv env' 6 = .ptr b6 0 0 ∧ sv env' 7 = int64 (-1) := by
    simp [stands_1, runOps, wanted_no, wanted_sv, ev_tm, ev_vl, sv_setD, sv_set, setD_none, qev_mov, qev_bin, qev_un, qev_lenI, qev_pick, qev_load1, qev_idxSl, idx2_sl, idxA2_ptr, opt_some, bin_add, bin_sub, bin_mul, bin_lss, bin_leq, bin_gtr, bin_geq, bin_eql, bin_neq, un_not, un_neg, qev_callv, qev_new1, qev_store1, qev_nilC, nilC_ptr, qev_fld, fld0, fldN, qev_extract, nth0, nth1, nth2, qev_eqPtr, sameP_nil, notIf, e3, e4, e5, e6]
  obtain ⟨env3, hA, L1, oA, ⟨g3, g4, g5, g6⟩⟩ := areas dkS rkS m 4 (-1) env2 hS (by omega) (by omega) (.refl _ _) ⟨f3, f4, f5, f6⟩ f7
  have dkA := dkS.more oA .refl
  obtain ⟨v', h7, k7, b7, hv, o7, _⟩ := all_fn dkA hl
  have l3 := (m.more oA).k3.load
  have n7 := oA.next
  obtain ⟨env4, r4, i3, i4, i5, i6, i10⟩ : ∃ env', runS Try.prog true (.region stands_15) [⟨39, [.ptr p 0 0], hA, .fn (.func 67) [] [.ptr hA.next 0 0], h7⟩] env3 hA = some (.upt [], [], env', h7) ∧ sv env' 3 = .ptr b3 0 0 ∧ sv env' 4 = .ptr b4 0 0 ∧ sv env' 5 = .ptr b5 0 0 ∧ sv env' 6 = .ptr b6 0 0 ∧ sv env' 10 = .fn (.func 67) [] [.ptr hA.next 0 0] := by
    simp [stands_15, runS, runR, Rs.seq, Rs.block, runOps, wanted_no, wanted_sv, ev_tm, ev_vl, sv_setD, sv_set, setD_none, qev_mov, qev_bin, qev_un, qev_lenI, qev_pick, qev_load1, qev_idxSl, idx2_sl, idxA2_ptr, opt_some, bin_add, bin_sub, bin_mul, bin_lss, bin_leq, bin_gtr, bin_geq, bin_eql, bin_neq, un_not, un_neg, qev_callv, qev_new1, qev_store1, qev_nilC, nilC_ptr, qev_fld, fld0, fldN, qev_extract, nth0, nth1, nth2, qev_eqPtr, sameP_nil, notIf, callA_ok ok39, g3, g4, g5, g6, l3]
  have oS7 := oA.trans o7
  have M7 := m.more oS7
  have l4 := M7.k4.load
  have fnE : ∀ (x : AV), binA .eql .fn true (.fn (.func 67) [] [x]) .nilFn = some (.bool false) := fun _ => rfl
  obtain ⟨env5, r5, j3, j4, j5, j6, j10⟩ : ∃ env', runS Try.prog true (.seq (.region stands_16) (.cond (tm 99) (.seq (.region stands_17) .ret) .skip)) [] env4 h7 = some (.upt [], [], env', h7) ∧ sv env' 3 = .ptr b3 0 0 ∧ sv env' 4 = .ptr b4 0 0 ∧ sv env' 5 = .ptr b5 0 0 ∧ sv env' 6 = .ptr b6 0 0 ∧ sv env' 10 = .fn (.func 67) [] [.ptr hA.next 0 0] := by
    simp [stands_16, runS, runR, Rs.seq, Rs.block, runOps, wanted_no, wanted_sv, ev_tm, ev_vl, sv_setD, sv_set, setD_none, qev_mov, qev_bin, qev_un, qev_lenI, qev_pick, qev_load1, qev_idxSl, idx2_sl, idxA2_ptr, opt_some, bin_add, bin_sub, bin_mul, bin_lss, bin_leq, bin_gtr, bin_geq, bin_eql, bin_neq, un_not, un_neg, qev_callv, qev_new1, qev_store1, qev_nilC, nilC_ptr, qev_fld, fld0, fldN, qev_extract, nth0, nth1, nth2, qev_eqPtr, sameP_nil, notIf, wanted_sv, i3, i4, i5, i6, i10, l4, fnE]
  obtain ⟨env6, d6, ⟨k3, k4, k5, k6⟩, k10⟩ := stands_mid (dkS.more oS7 .refl) (rkS.more oS7 .refl) M7 ⟨j3, j4, j5, j6⟩ j10
  have c11 := newB_box h7 (int64 0)
  have st11 := storeR_box c11 (int64 0) rfl rfl
  have o8a : Only [] h7 (newB h7 (int64 0)) := newH_only _ _ _
  have o8b := putB_only (newB h7 (int64 0)) h7.next (int64 0)
  have k11 := (putB_box c11 (int64 0)).arr
  have o8 : Only [] h7 (putB (newB h7 (int64 0)) h7.next (int64 0)) := ((o8a.mono (S' := [h7.next]) (by simp)).trans o8b).mono fun id hid => .inr (by simp only [List.mem_singleton] at hid; subst hid; exact Nat.le_refl _)
  obtain ⟨env7, r7, u3, u4, u5, u6, u10, u11⟩ : ∃ env', runOps Try.prog stands_20 env6 h7 = some (env', putB (newB h7 (int64 0)) h7.next (int64 0)) ∧ sv env' 3 = .ptr b3 0 0 ∧ sv env' 4 = .ptr b4 0 0 ∧ sv env' 5 = .ptr b5 0 0 ∧ sv env' 6 = .ptr b6 0 0 ∧ sv env' 10 = .fn (.func 67) [] [.ptr hA.next 0 0] ∧ sv env' 11 = .ptr h7.next 0 0 := by
    simp [stands_20, runOps, wanted_no, wanted_sv, ev_tm, ev_vl, sv_setD, sv_set, setD_none, qev_mov, qev_bin, qev_un, qev_lenI, qev_pick, qev_load1, qev_idxSl, idx2_sl, idxA2_ptr, opt_some, bin_add, bin_sub, bin_mul, bin_lss, bin_leq, bin_gtr, bin_geq, bin_eql, bin_neq, un_not, un_neg, qev_callv, qev_new1, qev_store1, qev_nilC, nilC_ptr, qev_fld, fld0, fldN, qev_extract, nth0, nth1, nth2, qev_eqPtr, sameP_nil, notIf, k3, k4, k5, k6, k10, st11]
  generalize putB (newB h7 (int64 0)) h7.next (int64 0) = h8 at *
  have hv' := hv.weak n7
  obtain ⟨env9, h9, r1', c1, d9, o9, e9, e9', e9'', k9, ⟨s1, hs1⟩, q1, q1'⟩ := turn_round dkS rkS md hl m oS7 b7 hv' n7 o8 ⟨u3, u4, u5, u6⟩ u10 u11 k11 (by omega)
  obtain ⟨env10, h10, r2', c2, d10, o10, e10, e10', e10'', k10', ⟨s2, hs2⟩, q2, q2'⟩ := turn_round dkS rkS md hl m oS7 b7 hv' n7 (o8.trans o9) e9 e9' e9'' k9 (by omega)
  have hs1' : T.get r1' h10.heap = some (.dfr s1) := by rw [o10.same _ q1' (by simp)]; exact hs1
  have l2 := k10'.load
  obtain ⟨w3, w4, w5, w6⟩ := e10
  obtain ⟨env11, r11, x6⟩ : ∃ env', runS Try.prog true stands_41 [] env10 h10 = some (.exit 3, [], env', h10) ∧ sv env' 6 = .ptr b6 0 0 := by
    unfold stands_41
    simp [stands_21, runS, runR, Rs.seq, Rs.block, runOps, wanted_no, wanted_sv, ev_tm, ev_vl, sv_setD, sv_set, setD_none, qev_mov, qev_bin, qev_un, qev_lenI, qev_pick, qev_load1, qev_idxSl, idx2_sl, idxA2_ptr, opt_some, bin_add, bin_sub, bin_mul, bin_lss, bin_leq, bin_gtr, bin_geq, bin_eql, bin_neq, un_not, un_neg, qev_callv, qev_new1, qev_store1, qev_nilC, nilC_ptr, qev_fld, fld0, fldN, qev_extract, nth0, nth1, nth2, qev_eqPtr, sameP_nil, notIf, e10'', l2, w6]
  have oEnd : Only [] hS h10 := ((oS7.trans o8).trans o9).trans o10
  have k6e := (m.more oEnd).k6
  have pu := storeR_arr k6e (i := 0) (by simp) (.bool true) rfl rfl
  have k6f : Arr (putA h10 b6 0 (.bool true)) b6 [.bool true] := putA_arr k6e (i := 0) (by simp) (.bool true)
  have o11 := putA_only h10 b6 0 (.bool true)
  obtain ⟨env12, r12, y6⟩ : ∃ env', runOps Try.prog stands_42 env11 h10 = some (env', putA h10 b6 0 (.bool true)) ∧ sv env' 6 = .ptr b6 0 0 := by
    simp [stands_42, runOps, wanted_no, wanted_sv, ev_tm, ev_vl, sv_setD, sv_set, setD_none, qev_mov, qev_bin, qev_un, qev_lenI, qev_pick, qev_load1, qev_idxSl, idx2_sl, idxA2_ptr, opt_some, bin_add, bin_sub, bin_mul, bin_lss, bin_leq, bin_gtr, bin_geq, bin_eql, bin_neq, un_not, un_neg, qev_callv, qev_new1, qev_store1, qev_nilC, nilC_ptr, qev_fld, fld0, fldN, qev_extract, nth0, nth1, nth2, qev_eqPtr, sameP_nil, notIf, x6, pu]
  have n8 := o8.next
  have n7' := o7.next
  have n9 := o9.next
  have hb1 : b6 ≠ r1' := num_ne (by omega)
  have hb2 : b6 ≠ r2' := num_ne (by omega)
  have h12 : r1' ≠ r2' := num_ne (by omega)
  have L := Loops.more (M := [.mark r2']) (M1 := [.mark r1']) d9 (Loops.more (M := []) (M1 := [.mark r2']) d10 (Loops.out (M := []) (Dos.runExit [] (by simp) r11) (by simp)))
  have body : Dos Try.prog 46 stands_fu.body (setArgs .e 0 [.ptr p 0 0, .ptr q 0 0, int64 leave]) h .ret ([r2', r1'].map AD.mark) env12 (putA h10 b6 0 (.bool true)) := by
    unfold stands_fu
    refine Dos.seq (M := [.mark r2', .mark r1']) (M1 := []) (Dos.region r0) (Dos.seq (M := [.mark r2', .mark r1']) (M1 := []) (Dos.seq (M := []) (M1 := []) (Dos.region r1) (Dos.block (i := 0) (o := .exit 0) (Dos.loop L1))) (Dos.seq (M := [.mark r2', .mark r1']) (M1 := []) (Dos.runGo _ (by intro z hz; simp at hz; subst hz; exact k7) r4) (Dos.seq (M := [.mark r2', .mark r1']) (M1 := []) (Dos.runGo [] (by simp) r5) (Dos.seq (M := [.mark r2', .mark r1']) (M1 := []) d6 ?_))))
    exact Dos.seq (M := []) (M1 := [.mark r2', .mark r1']) (Dos.seq (M := [.mark r2', .mark r1']) (M1 := []) (Dos.region r7) (Dos.block (i := 3) (o := .exit 3) (Dos.loop L))) (Dos.seq (M := []) (M1 := []) (Dos.region r12) Dos.ret)
  have or := remMs_only [r2', r1'] (putA h10 b6 0 (.bool true))
  have k6g := k6f.only or (by simp [hb1, hb2])
  refine ⟨remMs (putA h10 b6 0 (.bool true)) [r2', r1'], AmFn.dosM (rs := [r2', r1']) (vs := [.bool true]) stands_code (by simp) body (fun x hx => ?_) (by simpa using fun c => h12 c.symm) ?_ rfl, ?_⟩
  · simp only [List.mem_cons, List.not_mem_nil, or_false] at hx
    rcases hx with e | e <;> subst e
    · exact ⟨s2, by rw [o11.same _ q2' (by simpa using hb2.symm)]; exact hs2⟩
    · exact ⟨s1, by rw [o11.same _ (by have := o10.next; omega) (by simpa using hb1.symm)]; exact hs1'⟩
  · have : result1 env12 (remMs (putA h10 b6 0 (.bool true)) [r2', r1']) (.cell1 (Pos.ofNat 6)) = some (.bool true) := by
      show (match ev env12 (.tmp (Pos.ofNat 6)) with | .ptr id g off => read1 _ id g off | _ => none) = _
      rw [ev_tm, y6]
      exact k6g.load
    show mapO (result1 env12 _) [.cell1 (Pos.ofNat 6)] = _
    simp [mapO, this]
  · refine ((((oS.trans oEnd).mono (S' := [b6, r2', r1']) (by simp)).trans (o11.mono (S' := [b6, r2', r1']) (fun id hid => .inl (by simp at hid; simp [hid])))).trans (or.mono (S' := [b6, r2', r1']) (fun id hid => .inl (List.mem_cons_of_mem _ hid)))).mono fun id hid => .inr ?_
    have nS := oS.next
    simp only [List.mem_cons, List.not_mem_nil, or_false] at hid
    rcases hid with e | e | e <;> subst e <;> omega
end
end Go.Proofs.Ytmifpiglcphmoaa.DPlays

namespace Go.Proofs.Ytmifpiglcphmoaa.DPlays
open Go Go.Proofs.Ytmifpiglcphmoaa.Am Go.Proofs

section
variable {h hS : Hp} {b3 b4 b5 b6 : Pos} {leave : Int} {env : T AV}

/-- All areas of a disk that is not there. -/
theorem areas_nil (m : SMem hS b3 b4 b5 b6 .nilPtr .nilPtr leave) : ∀ (r : Nat) (a : Int) (env : T AV), a + r = 3 → -1 ≤ a → SEn env b3 b4 b5 b6 → sv env 7 = int64 a →
    ∃ env', Loops Try.prog 46 stands_14 env hS (.exit 0) [] env' hS ∧ SEn env' b3 b4 b5 b6
  | 0, a, env, ha, h1, e, e7 => by
    obtain ⟨e3, e4, e5, e6⟩ := e
    have h3 : ¬ a < 3 := by omega
    obtain ⟨env1, e1, f3, f4, f5, f6⟩ : ∃ env', runS Try.prog true stands_14 [] env hS = some (.exit 0, [], env', hS) ∧ sv env' 3 = .ptr b3 0 0 ∧ sv env' 4 = .ptr b4 0 0 ∧ sv env' 5 = .ptr b5 0 0 ∧ sv env' 6 = .ptr b6 0 0 := by
      unfold stands_14
      simp [stands_2, runS, runR, Rs.seq, Rs.block, runOps, wanted_no, wanted_sv, ev_tm, ev_vl, sv_setD, sv_set, setD_none, qev_mov, qev_bin, qev_un, qev_lenI, qev_pick, qev_load1, qev_idxSl, idx2_sl, idxA2_ptr, opt_some, bin_add, bin_sub, bin_mul, bin_lss, bin_leq, bin_gtr, bin_geq, bin_eql, bin_neq, un_not, un_neg, qev_callv, qev_new1, qev_store1, qev_nilC, nilC_ptr, qev_fld, fld0, fldN, qev_extract, nth0, nth1, nth2, qev_eqPtr, sameP_nil, notIf, e3, e4, e5, e6, e7, h3]
    exact ⟨env1, Loops.out (Dos.runExit [] (by simp) e1) (by simp), ⟨f3, f4, f5, f6⟩⟩
  | r + 1, a, env, ha, h1, e, e7 => by
    obtain ⟨e3, e4, e5, e6⟩ := e
    have l3 := m.k3.load
    have l4 := m.k4.load
    have w1 : wrapA .i64 (a + 1) = a + 1 := wrap64 (by omega) (by omega)
    have h3 : a < 3 := by omega
    have lnil : ∀ env x, ev env x = .nilSl → evalOp Try.prog (.lenL x) env hS = .val (int64 (0 : Int)) hS := fun env x hx => by rw [qev_lenI, hx]
    obtain ⟨env1, e1, f3, f4, f5, f6, f7⟩ : ∃ env', runS Try.prog true stands_14 [⟨62, [.nilPtr, int64 a], hS, .tup [.nilSl, int64 1], hS⟩, ⟨60, [.nilPtr, int64 a], hS, int64 0, hS⟩] env hS = some (.upt [], [], env', hS) ∧ sv env' 3 = .ptr b3 0 0 ∧ sv env' 4 = .ptr b4 0 0 ∧ sv env' 5 = .ptr b5 0 0 ∧ sv env' 6 = .ptr b6 0 0 ∧ sv env' 7 = int64 (a + 1) := by
      unfold stands_14
      simp [stands_2, stands_3, stands_4, stands_5, stands_13, runS, runR, Rs.seq, Rs.block, runOps, wanted_no, wanted_sv, ev_tm, ev_vl, sv_setD, sv_set, setD_none, qev_mov, qev_bin, qev_un, qev_lenI, qev_pick, qev_load1, qev_idxSl, idx2_sl, idxA2_ptr, opt_some, bin_add, bin_sub, bin_mul, bin_lss, bin_leq, bin_gtr, bin_geq, bin_eql, bin_neq, un_not, un_neg, qev_callv, qev_new1, qev_store1, qev_nilC, nilC_ptr, qev_fld, fld0, fldN, qev_extract, nth0, nth1, nth2, qev_eqPtr, sameP_nil, notIf, wanted_sv, callA_ok ok62, callA_ok ok60, e3, e4, e5, e6, e7, l3, l4, lnil, h3, w1, sameP_nn]
    obtain ⟨env2, L, f⟩ := areas_nil m r (a + 1) env1 (by omega) (by omega) ⟨f3, f4, f5, f6⟩ f7
    refine ⟨env2, Loops.more (M := []) (M1 := []) (Dos.runGo _ (fun z hz => ?_) e1) L, f⟩
    simp only [List.mem_cons, List.not_mem_nil, or_false] at hz
    rcases hz with e | e <;> subst e
    · exact darea_nil hS a
    · exact room_nil hS a

/-- A disk that is not there stands so. -/
theorem stands_nil (h : Hp) (leave : Int) : ∃ h', AmFn Try.prog 46 [.nilPtr, .nilPtr, int64 leave] h (.bool true) h' ∧ Only [] h h' := by
  obtain ⟨b3, b4, b5, b6, env1, hS, r0, e1, m, oS, hb6⟩ := stands_boxes h (x := .nilPtr) (y := .nilPtr) rfl rfl leave
  obtain ⟨e3, e4, e5, e6⟩ := e1
  obtain ⟨env2, r1, f3, f4, f5, f6, f7⟩ : ∃ env', runOps Try.prog stands_1 env1 hS = some (env', hS) ∧ sv env' 3 = .ptr b3 0 0 ∧ sv env' 4 = .ptr b4 0 0 ∧ sv env' 5 = .ptr b5 0 0 ∧ sv env' 6 = .ptr b6 0 0 ∧ sv env' 7 = int64 (-1) := by
    simp [stands_1, runOps, wanted_no, wanted_sv, ev_tm, ev_vl, sv_setD, sv_set, setD_none, qev_mov, qev_bin, qev_un, qev_lenI, qev_pick, qev_load1, qev_idxSl, idx2_sl, idxA2_ptr, opt_some, bin_add, bin_sub, bin_mul, bin_lss, bin_leq, bin_gtr, bin_geq, bin_eql, bin_neq, un_not, un_neg, qev_callv, qev_new1, qev_store1, qev_nilC, nilC_ptr, qev_fld, fld0, fldN, qev_extract, nth0, nth1, nth2, qev_eqPtr, sameP_nil, notIf, e3, e4, e5, e6]
  obtain ⟨env3, L1, ⟨g3, g4, g5, g6⟩⟩ := areas_nil m 4 (-1) env2 (by omega) (by omega) ⟨f3, f4, f5, f6⟩ f7
  obtain ⟨h7, k7, o7⟩ := all_nil hS
  have l3 := m.k3.load
  obtain ⟨env4, r4, i3, i4, i5, i6, i10⟩ : ∃ env', runS Try.prog true (.region stands_15) [⟨39, [.nilPtr], hS, .fn (.func 67) [] [.ptr hS.next 0 0], h7⟩] env3 hS = some (.upt [], [], env', h7) ∧ sv env' 3 = .ptr b3 0 0 ∧ sv env' 4 = .ptr b4 0 0 ∧ sv env' 5 = .ptr b5 0 0 ∧ sv env' 6 = .ptr b6 0 0 ∧ sv env' 10 = .fn (.func 67) [] [.ptr hS.next 0 0] := by
    simp [stands_15, runS, runR, Rs.seq, Rs.block, runOps, wanted_no, wanted_sv, ev_tm, ev_vl, sv_setD, sv_set, setD_none, qev_mov, qev_bin, qev_un, qev_lenI, qev_pick, qev_load1, qev_idxSl, idx2_sl, idxA2_ptr, opt_some, bin_add, bin_sub, bin_mul, bin_lss, bin_leq, bin_gtr, bin_geq, bin_eql, bin_neq, un_not, un_neg, qev_callv, qev_new1, qev_store1, qev_nilC, nilC_ptr, qev_fld, fld0, fldN, qev_extract, nth0, nth1, nth2, qev_eqPtr, sameP_nil, notIf, callA_ok ok39, g3, g4, g5, g6, l3]
  have M7 := m.more o7
  have l4 := M7.k4.load
  have l3' := M7.k3.load
  have fnE : ∀ (x : AV), binA .eql .fn true (.fn (.func 67) [] [x]) .nilFn = some (.bool false) := fun _ => rfl
  have fnN : ∀ (x : AV), binA .neq .fn true (.fn (.func 67) [] [x]) .nilFn = some (.bool true) := fun _ => rfl
  have o8 : Only [] h7 (newB h7 (int64 0)) := newH_only _ _ _
  have k6e := Arr.more M7.k6 o8
  have pu := storeR_arr k6e (i := 0) (by simp) (.bool true) rfl rfl
  have k6f : Arr (putA (newB h7 (int64 0)) b6 0 (.bool true)) b6 [.bool true] := putA_arr k6e (i := 0) (by simp) (.bool true)
  have o11 := putA_only (newB h7 (int64 0)) b6 0 (.bool true)
  obtain ⟨env5, r5, y6⟩ : ∃ env', runS Try.prog true (.seq (.region stands_16) (.cond (tm 99) (.seq (.region stands_17) .ret) .skip)) [⟨61, [.nilPtr], h7, int64 0, h7⟩, ⟨42, [.nilPtr], h7, int64 0, h7⟩, ⟨72, [.nilPtr], h7, .nilPtr, newB h7 (int64 0)⟩] env4 h7 = some (.ret, [], env', putA (newB h7 (int64 0)) b6 0 (.bool true)) ∧ sv env' 6 = .ptr b6 0 0 := by
    simp [stands_16, stands_17, runS, runR, Rs.seq, Rs.block, runOps, wanted_no, wanted_sv, ev_tm, ev_vl, sv_setD, sv_set, setD_none, qev_mov, qev_bin, qev_un, qev_lenI, qev_pick, qev_load1, qev_idxSl, idx2_sl, idxA2_ptr, opt_some, bin_add, bin_sub, bin_mul, bin_lss, bin_leq, bin_gtr, bin_geq, bin_eql, bin_neq, un_not, un_neg, qev_callv, qev_new1, qev_store1, qev_nilC, nilC_ptr, qev_fld, fld0, fldN, qev_extract, nth0, nth1, nth2, qev_eqPtr, sameP_nil, notIf, wanted_sv, callA_ok ok61, callA_ok ok42, callA_ok ok72, i3, i4, i5, i6, i10, l3', l4, fnE, fnN, sameP_nn, pu]
  refine ⟨_, AmFn.dos stands_code (by simp) (Dos.seq (M := []) (M1 := []) (Dos.region r0) (Dos.seq (M := []) (M1 := []) (Dos.seq (M := []) (M1 := []) (Dos.region r1) (Dos.block (i := 0) (o := .exit 0) (Dos.loop L1))) (Dos.seq (M := []) (M1 := []) (Dos.runGo _ (by intro z hz; simp at hz; subst hz; exact k7) r4) (Dos.left (Dos.runRet _ (fun z hz => ?_) r5) (by simp))))) (vs := [.bool true]) ?_ rfl, ?_⟩
  · simp only [List.mem_cons, List.not_mem_nil, or_false] at hz
    rcases hz with e | e | e <;> subst e
    · exact dused_nil h7
    · exact writes_nil h7
    · exact dcopy_nil h7
  · have : result1 env5 (putA (newB h7 (int64 0)) b6 0 (.bool true)) (.cell1 (Pos.ofNat 6)) = some (.bool true) := by
      show (match ev env5 (.tmp (Pos.ofNat 6)) with | .ptr id g off => read1 _ id g off | _ => none) = _
      rw [ev_tm, y6]
      exact k6f.load
    show mapO (result1 env5 _) [.cell1 (Pos.ofNat 6)] = _
    simp [mapO, this]
  · refine ((((oS.trans o7).trans o8).mono (S' := [b6]) (by simp)).trans o11).mono fun id hid => .inr ?_
    simp only [List.mem_singleton] at hid
    subst hid
    exact hb6
end

end Go.Proofs.Ytmifpiglcphmoaa.DPlays
