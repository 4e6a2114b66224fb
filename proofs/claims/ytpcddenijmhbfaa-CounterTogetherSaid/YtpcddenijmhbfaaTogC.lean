import Derived.KernelRfl
import Derived.Test.YtpcddenijmhbfaaTogB
/- THE WALK'S PARTS, part C: what the functions of the law compute, over the abstract machine that stands beside this text. No condition. -/
set_option linter.unusedSimpArgs false
set_option linter.unusedVariables false
namespace Go.Proofs.Ytpcddenijmhbfaa.Tog
open Go Go.Proofs.Ytpcddenijmhbfaa.Am Go.Proofs

theorem Only.weak {S : List Pos} {h h' : Hp} (a : Only S h h') {N : Nat} (hN : ∀ id ∈ S, N ≤ id.num) {h0 : Hp} (hb : Only [] h0 h) (hn : h0.next.num ≤ N) : Only [] h0 h' :=
  ((hb.mono (S' := S) (by simp)).trans a).mono fun id hid => .inr (Nat.le_trans hn (hN id hid))

/-- A round of Sum's loop. -/
theorem sum_round {h : Hp} {l p3 : Pos} {envS : T AV} {y : AV} (hne : p3 ≠ l) (h3 : sv envS 3 = .ptr p3 0 0) (a : LoopAt h l .ready 7 envS [Pos.ofNat 8, Pos.ofNat 9] sum_4 sum_6) (b : Box h p3 y) (i x : Int) :
    ∃ h', RoundFn Try.prog l [int64 i, int64 x] h (.bool true) h' ∧ LoopAt h' l .ready 7 envS [Pos.ofNat 8, Pos.ofNat 9] sum_4 sum_6 ∧ Box h' p3 (int64 x) ∧ Only [p3, l] h h' := by
  have nl : l ∉ [p3] := by simp only [List.mem_singleton]; exact fun e => hne e.symm
  have np : p3 ∉ [l] := by simp only [List.mem_singleton]; exact hne
  have a1 := a.put .busy
  have o1 := putL_only h l .busy
  have b1 := b.only o1 np
  have o2 := putB_only (putL h l .busy) p3 (int64 x)
  have b2 := putB_box b1 (int64 x)
  have a2 := a1.only o2 nl
  have o3 := putL_only (putB (putL h l .busy) p3 (int64 x)) l .ready
  refine ⟨putL (putB (putL h l .busy) p3 (int64 x)) l .ready, ?_, a2.put .ready, b2.only o3 np, ?_⟩
  · refine RoundFn.intro (env0 := T.set (Pos.ofNat 9) (some (int64 x)) (T.set (Pos.ofNat 8) (some (int64 i)) envS)) a (by simp [setParams, T.setK_eq]) fun callers => ?_
    obtain ⟨env1, e1, c5, c3⟩ : ∃ env, runOps Try.prog sum_3 (T.set (Pos.ofNat 9) (some (int64 x)) (T.set (Pos.ofNat 8) (some (int64 i)) envS)) h = some (env, h) ∧ sv env 5 = int64 x ∧ sv env 3 = .ptr p3 0 0 := by
      simp [sum_3, runOps, wanted_no, wanted_sv, ev_tm, ev_vl, sv_setD, sv_set, setD_none, qev_mov, qev_bin, qev_un, qev_lenI, qev_pick, qev_load1, qev_idxSl, idx2_sl, idxA2_ptr, opt_some, bin_add, bin_sub, bin_mul, bin_lss, bin_leq, bin_gtr, bin_geq, bin_eql, bin_neq, un_not, un_neg, qev_callv, qev_new1, qev_store1, h3]
    obtain ⟨env2, e2⟩ : ∃ env, runOps Try.prog sum_5 env1 (putL h l .busy) = some (env, putB (putL h l .busy) p3 (int64 x)) := by
      have s := storeR_box b1 (int64 x) rfl rfl
      simp [sum_5, runOps, wanted_no, wanted_sv, ev_tm, ev_vl, sv_setD, sv_set, setD_none, qev_mov, qev_bin, qev_un, qev_lenI, qev_pick, qev_load1, qev_idxSl, idx2_sl, idxA2_ptr, opt_some, bin_add, bin_sub, bin_mul, bin_lss, bin_leq, bin_gtr, bin_geq, bin_eql, bin_neq, un_not, un_neg, qev_callv, qev_new1, qev_store1, c5, c3, s]
    exact ⟨env1, h, env2, _, leads_region e1, a, leads_block.trans <| (leads_region e2).trans leads_inBlock, a2, rfl⟩
  · exact ((o1.mono fun id hid => .inl (by simp at hid; simp [hid])).trans (o2.mono fun id hid => .inl (by simp at hid; simp [hid]))).trans (o3.mono fun id hid => .inl (by simp at hid; simp [hid]))

theorem sum_fn {xs : List Int} {h : Hp} {v : AV} (hs : SlR h v (xs.map int64)) (hlen : xs.length ≤ 1073741824) : ∃ h', AmFn Try.prog 7 [v] h (int64 (sumS 0 xs)) h' ∧ Only [] h h' := by
  obtain ⟨env0, e0, a0⟩ : ∃ env, runOps Try.prog sum_0 (setArgs .e 0 [v]) h = some (env, h) ∧ sv env 0 = v := by
    simp [sum_0, sv_args, runOps, wanted_no, wanted_sv, ev_tm, ev_vl, sv_setD, sv_set, setD_none, qev_mov, qev_bin, qev_un, qev_lenI, qev_pick, qev_load1, qev_idxSl, idx2_sl, idxA2_ptr, opt_some, bin_add, bin_sub, bin_mul, bin_lss, bin_leq, bin_gtr, bin_geq, bin_eql, bin_neq, un_not, un_neg, qev_callv, qev_new1, qev_store1]
  have hb0 := newB_box h (int64 0)
  have st := storeR_box hb0 (int64 0) rfl rfl
  have hn0 : (newB h (int64 0)).next.num = h.next.num + 1 := newH_next h _
  have ob : Only [] h (newB h (int64 0)) := newH_only _ h _
  have ob1 := putB_only (newB h (int64 0)) h.next (int64 0)
  have hb1 := putB_box hb0 (int64 0)
  obtain ⟨env1, e1, b0, b3⟩ : ∃ env, runOps Try.prog sum_1 env0 h = some (env, putB (newB h (int64 0)) h.next (int64 0)) ∧ sv env 0 = v ∧ sv env 3 = .ptr h.next 0 0 := by
    simp [sum_1, runOps, wanted_no, wanted_sv, ev_tm, ev_vl, sv_setD, sv_set, setD_none, qev_mov, qev_bin, qev_un, qev_lenI, qev_pick, qev_load1, qev_idxSl, idx2_sl, idxA2_ptr, opt_some, bin_add, bin_sub, bin_mul, bin_lss, bin_leq, bin_gtr, bin_geq, bin_eql, bin_neq, un_not, un_neg, qev_callv, qev_new1, qev_store1, st, a0]
  have o1 : Only [] h (putB (newB h (int64 0)) h.next (int64 0)) := Only.weak ob1 (N := h.next.num) (by simp) ob (Nat.le_refl _)
  have hn1 : (putB (newB h (int64 0)) h.next (int64 0)).next.num = h.next.num + 1 := hn0
  generalize hh1 : putB (newB h (int64 0)) h.next (int64 0) = h1 at *
  have hs1 := hs.more o1.more
  obtain ⟨p0, p5, v', h2, hf, c0, c5, cs, o2, q0, q5, qv⟩ := steps_fn hs1 hlen 0
  obtain ⟨env2, e2, d6, d3⟩ : ∃ env, runOps Try.prog (sum_2.take 1) env1 h1 = some (env, h1) ∧ sv env 6 = v ∧ sv env 3 = .ptr h.next 0 0 := by
    simp [sum_2, runOps, wanted_no, wanted_sv, ev_tm, ev_vl, sv_setD, sv_set, setD_none, qev_mov, qev_bin, qev_un, qev_lenI, qev_pick, qev_load1, qev_idxSl, idx2_sl, idxA2_ptr, opt_some, bin_add, bin_sub, bin_mul, bin_lss, bin_leq, bin_gtr, bin_geq, bin_eql, bin_neq, un_not, un_neg, qev_callv, qev_new1, qev_store1, b0, b3]
  -- the going over
  generalize hes : setD env2 (some (Pos.ofNat 7)) (.fn (.func 19) [] [.ptr p0 0 0, .ptr p5 0 0]) = envS
  have s3 : sv envS 3 = .ptr h.next 0 0 := by rw [← hes]; simp [sv_setD, d3]
  have s7 : sv envS 7 = .fn (.func 19) [] [.ptr p0 0 0, .ptr p5 0 0] := by rw [← hes]; simp [sv_setD]
  have od : Only [] h2 (dfrH h2) := newH_only _ _ _
  have nd : (dfrH h2).next.num = h2.next.num + 1 := newH_next _ _
  have ol : Only [] (dfrH h2) (loopH (dfrH h2) 7 envS [Pos.ofNat 8, Pos.ofNat 9] sum_4 sum_6 h2.next) := newH_only _ _ _
  have nl : (loopH (dfrH h2) 7 envS [Pos.ofNat 8, Pos.ofNat 9] sum_4 sum_6 h2.next).next.num = (dfrH h2).next.num + 1 := newH_next _ _
  have gd : T.get h2.next (dfrH h2).heap = some (.dfr h2.ser) := newH_get _ _
  have gl : LoopAt (loopH (dfrH h2) 7 envS [Pos.ofNat 8, Pos.ofNat 9] sum_4 sum_6 h2.next) (dfrH h2).next .ready 7 envS [Pos.ofNat 8, Pos.ofNat 9] sum_4 sum_6 := ⟨by omega, _, _, newH_get _ _⟩
  have gd' : T.get h2.next (loopH (dfrH h2) 7 envS [Pos.ofNat 8, Pos.ofNat 9] sum_4 sum_6 h2.next).heap = some (.dfr h2.ser) := (ol.same _ (by omega) (by simp)).trans gd
  generalize hhl : loopH (dfrH h2) 7 envS [Pos.ofNat 8, Pos.ofNat 9] sum_4 sum_6 h2.next = hl at *
  have odl : Only [] h2 hl := od.trans ol
  have n12 := o2.next
  have p3ne : h.next ≠ (dfrH h2).next := fun e => by have := congrArg Pos.num e; omega
  have b3l : Box hl h.next (int64 0) := (hb1.only o2 (by simp)).only odl (by simp)
  obtain ⟨h3, hg, ⟨j1, j2⟩, o3⟩ := stepsA_fn (xs := xs) (by omega) 0 (l := (dfrH h2).next) (p0 := p0) (p5 := p5) (v := v') (S := [h.next, (dfrH h2).next]) (h := hl)
    (J := fun i h1 => LoopAt h1 (dfrH h2).next .ready 7 envS [Pos.ofNat 8, Pos.ofNat 9] sum_4 sum_6 ∧ Box h1 h.next (int64 (sumS 0 (xs.take i))))
    (c0.only odl (by simp)) (c5.only odl (by simp)) (cs.more odl.more)
    (fun id hid => by
      simp only [List.mem_cons, List.not_mem_nil, or_false] at hid
      rcases hid with hid | hid <;> subst hid <;> omega)
    (fun id g off n cap ex e => by
      obtain ⟨z1, z2⟩ := qv _ _ _ _ _ _ e
      refine ⟨by omega, ?_⟩
      simp only [List.mem_cons, List.not_mem_nil, or_false, not_or]
      exact ⟨fun c => by rw [c] at z1; omega, fun c => by rw [c] at z2; omega⟩)
    (fun i h1 h2' S' jq oq hS => ⟨jq.1.only oq fun c => by have := hS _ c; omega, jq.2.only oq fun c => by have := hS _ c; omega⟩)
    (fun i hi h1 jq hq => by
      obtain ⟨h', r1, r2, r3, r4⟩ := sum_round p3ne s3 jq.1 jq.2 (i : Int) (sumS 0 (xs.take (i + 1)))
      exact ⟨h', r1, ⟨r2, r3⟩, r4⟩)
    ⟨gl, b3l⟩
  rw [List.take_length] at j2
  have o4 := putL_only h3 (dfrH h2).next .exhausted
  have b4 : Box (putL h3 (dfrH h2).next .exhausted) h.next (int64 (sumS 0 xs)) := j2.only o4 (by simpa using p3ne)
  have g3 : T.get h2.next h3.heap = some (.dfr h2.ser) := by
    rw [o3.same _ (by omega) (by
      simp only [List.mem_cons, List.not_mem_nil, or_false, not_or]
      exact ⟨fun c => by have := congrArg Pos.num c; omega, fun c => by have := congrArg Pos.num c; omega⟩)]
    exact gd'
  have n3 := o3.next
  have g4 : T.get h2.next (putL h3 (dfrH h2).next .exhausted).heap = some (.dfr h2.ser) := by
    rw [o4.same _ (by omega) (by
      simp only [List.mem_singleton]
      exact fun c => by have := congrArg Pos.num c; omega)]
    exact g3
  obtain ⟨env3, e3, f2⟩ : ∃ env, runOps Try.prog sum_7 envS (putL h3 (dfrH h2).next .exhausted) = some (env, putL h3 (dfrH h2).next .exhausted) ∧ sv env 2 = int64 (sumS 0 xs) := by
    simp [sum_7, runOps, wanted_no, wanted_sv, ev_tm, ev_vl, sv_setD, sv_set, setD_none, qev_mov, qev_bin, qev_un, qev_lenI, qev_pick, qev_load1, qev_idxSl, idx2_sl, idxA2_ptr, opt_some, bin_add, bin_sub, bin_mul, bin_lss, bin_leq, bin_gtr, bin_geq, bin_eql, bin_neq, un_not, un_neg, qev_callv, qev_new1, qev_store1, s3, b4.load]
  have o5 := remH_only (putL h3 (dfrH h2).next .exhausted) h2.next
  refine ⟨remH (putL h3 (dfrH h2).next .exhausted) h2.next, AmFn.ends sum_code (by simp [sum_fu]) fun callers => ?_, ?_⟩
  · have hrange := leads_range (P := Try.prog) (cx := cxF 7 callers) rfl (env := envS) (h := h2) (k := [.inBlock 0, .code (.seq (.region sum_7) .ret)]) (f := tm 7) (params := [Pos.ofNat 8, Pos.ofNat 9]) (assign := sum_4) (body := sum_6) ok19
      (show ev envS (tm 7) = _ from s7) (v := .tup []) (h3 := h3) (by rw [show (cxF 7 callers).fn = 7 from rfl, hhl]; exact hg) j1
    have tail : Leads Try.prog (sOf (cxF 7 callers) (.code (.rangeFunc (tm 7) [Pos.ofNat 8, Pos.ofNat 9] sum_4 sum_6) :: [.inBlock 0, .code (.seq (.region sum_7) .ret)]) (setD env2 (some (Pos.ofNat 7)) (.fn (.func 19) [] [.ptr p0 0 0, .ptr p5 0 0])) h2)
        (sOf ⟨noRec, 7, [.mark h2.next], false, none, callers⟩ [.code .ret] env3 (putL h3 (dfrH h2).next .exhausted)) := by
      rw [hes]
      exact hrange.trans <| leads_inBlock.trans <| leads_seq.trans <| leads_region e3
    exact Leads.ends (leads_seq.trans <| (leads_region e0).trans <| leads_seq.trans <| (leads_region e1).trans <| leads_seq.trans <| leads_seq.trans <| leads_enter.trans <| (leads_ops (l := sum_2.take 1) e2).trans <|
      (leads_call rfl rfl (f := 15) (args := [int64 0, v]) (by simp [runOps, wanted_no, wanted_sv, ev_tm, ev_vl, sv_setD, sv_set, setD_none, qev_mov, qev_bin, qev_un, qev_lenI, qev_pick, qev_load1, qev_idxSl, idx2_sl, idxA2_ptr, opt_some, bin_add, bin_sub, bin_mul, bin_lss, bin_leq, bin_gtr, bin_geq, bin_eql, bin_neq, un_not, un_neg, qev_callv, qev_new1, qev_store1, callA_ok ok15, d6]) hf).trans <| leads_opsNil.trans <| leads_block.trans tail) (ends_retM sum_code ⟨_, g4⟩ (vs := [sv env3 2]) rfl f2)
  · have oo : Only [h.next, (dfrH h2).next, h2.next] hl (remH (putL h3 (dfrH h2).next .exhausted) h2.next) :=
      ((o3.mono fun id hid => .inl (by simp only [List.mem_cons, List.not_mem_nil, or_false] at hid ⊢; rcases hid with q | q <;> simp [q])).trans (o4.mono fun id hid => .inl (by simp at hid; simp [hid]))).trans (o5.mono fun id hid => .inl (by simp at hid; simp [hid]))
    refine Only.weak oo (N := h.next.num) (fun id hid => ?_) ((o1.trans o2).trans odl) (Nat.le_refl _)
    simp only [List.mem_cons, List.not_mem_nil, or_false] at hid
    rcases hid with q | q | q <;> subst q <;> omega
end Go.Proofs.Ytpcddenijmhbfaa.Tog

namespace Go.Proofs.Ytpcddenijmhbfaa.Tog
open Go Go.Proofs.Ytpcddenijmhbfaa.Am Go.Proofs

theorem three_fn (h : Hp) (base a b : Int) : AmFn Try.prog 14 [int64 base, int64 a, int64 b] h (int64 (wrapA .i64 (a + wrapA .i64 (b - base)))) h := by
  obtain ⟨env0, e0, a0, a1, a2⟩ : ∃ env, runOps Try.prog three_0 (setArgs .e 0 [int64 base, int64 a, int64 b]) h = some (env, h) ∧ sv env 0 = int64 base ∧ sv env 1 = int64 a ∧ sv env 2 = int64 b := by
    simp [three_0, sv_args, runOps, wanted_no, wanted_sv, ev_tm, ev_vl, sv_setD, sv_set, setD_none, qev_mov, qev_bin, qev_un, qev_lenI, qev_pick, qev_load1, qev_idxSl, idx2_sl, idxA2_ptr, opt_some, bin_add, bin_sub, bin_mul, bin_lss, bin_leq, bin_gtr, bin_geq, bin_eql, bin_neq, un_not, un_neg, qev_callv, qev_new1, qev_store1]
  obtain ⟨env1, e1, b7, b8, b9⟩ : ∃ env, runOps Try.prog (three_1.take 3) env0 h = some (env, h) ∧ sv env 7 = int64 a ∧ sv env 8 = int64 base ∧ sv env 9 = int64 b := by
    simp [three_1, runOps, wanted_no, wanted_sv, ev_tm, ev_vl, sv_setD, sv_set, setD_none, qev_mov, qev_bin, qev_un, qev_lenI, qev_pick, qev_load1, qev_idxSl, idx2_sl, idxA2_ptr, opt_some, bin_add, bin_sub, bin_mul, bin_lss, bin_leq, bin_gtr, bin_geq, bin_eql, bin_neq, un_not, un_neg, qev_callv, qev_new1, qev_store1, a0, a1, a2]
  obtain ⟨env2, e2, c6⟩ : ∃ env, runOps Try.prog (three_1.drop 4) (setD env1 (some (Pos.ofNat 10)) (int64 (wrapA .i64 (b - base)))) h = some (env, h) ∧ sv env 6 = int64 (wrapA .i64 (a + wrapA .i64 (b - base))) := by
    simp [three_1, runOps, wanted_no, wanted_sv, ev_tm, ev_vl, sv_setD, sv_set, setD_none, qev_mov, qev_bin, qev_un, qev_lenI, qev_pick, qev_load1, qev_idxSl, idx2_sl, idxA2_ptr, opt_some, bin_add, bin_sub, bin_mul, bin_lss, bin_leq, bin_gtr, bin_geq, bin_eql, bin_neq, un_not, un_neg, qev_callv, qev_new1, qev_store1, b7]
  refine AmFn.ends three_code (by simp [three_fu]) fun callers => ?_
  exact Leads.ends (leads_seq.trans <| (leads_region e0).trans <| leads_seq.trans <| leads_enter.trans <| (leads_ops (l := three_1.take 3) e1).trans <|
    (leads_call rfl rfl (f := 13) (args := [int64 base, int64 b]) (by simp [runOps, wanted_no, wanted_sv, ev_tm, ev_vl, sv_setD, sv_set, setD_none, qev_mov, qev_bin, qev_un, qev_lenI, qev_pick, qev_load1, qev_idxSl, idx2_sl, idxA2_ptr, opt_some, bin_add, bin_sub, bin_mul, bin_lss, bin_leq, bin_gtr, bin_geq, bin_eql, bin_neq, un_not, un_neg, qev_callv, qev_new1, qev_store1, callA_ok ok13, b8, b9]) (delta_fn h base b)).trans <| (leads_ops (l := three_1.drop 4) (rest := []) e2).trans leads_opsNil) (ends_ret1 three_code c6)

/-- A part of a number that is split. -/
noncomputable def partS (n : Int) (p : Int) (i : Int) : Int :=
  if i < n.tmod p then wrapA .i64 (wrapA .i64 (n.tdiv p) + 1) else if i < wrapA .i64 (0 - n.tmod p) then wrapA .i64 (wrapA .i64 (n.tdiv p) - 1) else wrapA .i64 (n.tdiv p)

noncomputable def partsS (n : Int) (p : Nat) : List Int := (List.range p).map fun (i : Nat) => partS n p i

theorem split_loop (n : Int) (p : Nat) (hp : 1 ≤ p) (hp2 : p ≤ 64) {id : Pos} : ∀ (m i : Nat) (env : T AV) (h : Hp) (l : List AV), i + m = p → l.length = p → (∀ j, j < i → l[j]? = some (int64 (partS n p j))) → Arr h id l →
    sv env 0 = int64 n → sv env 5 = int64 p → sv env 6 = .sl id 0 0 p p true 1 → sv env 19 = int64 p → sv env 20 = int64 i →
    ∃ env' h', (∀ (cx : Cx) (k : List Am.Item), Leads Try.prog (sOf cx (.code split_15 :: .inLoop split_15 :: .inBlock 0 :: k) env h) (sOf cx k env' h')) ∧ sv env' 6 = .sl id 0 0 p p true 1 ∧ Arr h' id ((partsS n p).map int64) ∧ Only [id] h h' := by
  have hp0 : (p : Int) ≠ 0 := by omega
  intro m
  induction m with
  | zero =>
    intro i env h l hi hl hj ha h0 h5 h6 h19 h20
    obtain ⟨env1, e1, f21, f6⟩ : ∃ env1, runOps Try.prog split_6 env h = some (env1, h) ∧ sv env1 21 = .bool false ∧ sv env1 6 = .sl id 0 0 p p true 1 := by
      simp [split_6, runOps, wanted_no, wanted_sv, ev_tm, ev_vl, sv_setD, sv_set, setD_none, qev_mov, qev_bin, qev_un, qev_lenI, qev_pick, qev_load1, qev_idxSl, idx2_sl, idxA2_ptr, opt_some, bin_add, bin_sub, bin_mul, bin_lss, bin_leq, bin_gtr, bin_geq, bin_eql, bin_neq, un_not, un_neg, qev_callv, qev_new1, qev_store1, h19, h20, h6]
      omega
    refine ⟨env1, h, fun cx k => leads_seq.trans <| (leads_region e1).trans <| leads_seq.trans <| (leads_cond (t := false) f21).trans <| leads_exit rfl, f6, ?_, Only.refl _ _⟩
    have : l = (partsS n p).map int64 := by
      apply List.ext_getElem?
      intro j
      by_cases hjp : j < p
      · rw [hj j (by omega)]
        simp [partsS, hjp]
      · rw [List.getElem?_eq_none (by omega), List.getElem?_eq_none (by simp [partsS]; omega)]
    rw [← this]; exact ha
  | succ m ih =>
    intro i env h l hi hl hj ha h0 h5 h6 h19 h20
    have hil : i < l.length := by omega
    obtain ⟨env1, e1, f21, f0, f5, f6, f19, f20⟩ : ∃ env1, runOps Try.prog split_6 env h = some (env1, h) ∧ sv env1 21 = .bool true ∧ sv env1 0 = int64 n ∧ sv env1 5 = int64 p ∧ sv env1 6 = .sl id 0 0 p p true 1 ∧ sv env1 19 = int64 p ∧ sv env1 20 = int64 i := by
      simp [split_6, runOps, wanted_no, wanted_sv, ev_tm, ev_vl, sv_setD, sv_set, setD_none, qev_mov, qev_bin, qev_un, qev_lenI, qev_pick, qev_load1, qev_idxSl, idx2_sl, idxA2_ptr, opt_some, bin_add, bin_sub, bin_mul, bin_lss, bin_leq, bin_gtr, bin_geq, bin_eql, bin_neq, un_not, un_neg, qev_callv, qev_new1, qev_store1, h0, h5, h6, h19, h20]
      omega
    obtain ⟨env2, e2, g7, g0, g5, g6, g19, g20⟩ : ∃ env2, runOps Try.prog split_7 env1 h = some (env2, h) ∧ sv env2 7 = int64 i ∧ sv env2 0 = int64 n ∧ sv env2 5 = int64 p ∧ sv env2 6 = .sl id 0 0 p p true 1 ∧ sv env2 19 = int64 p ∧ sv env2 20 = int64 i := by
      simp [split_7, runOps, wanted_no, wanted_sv, ev_tm, ev_vl, sv_setD, sv_set, setD_none, qev_mov, qev_bin, qev_un, qev_lenI, qev_pick, qev_load1, qev_idxSl, idx2_sl, idxA2_ptr, opt_some, bin_add, bin_sub, bin_mul, bin_lss, bin_leq, bin_gtr, bin_geq, bin_eql, bin_neq, un_not, un_neg, qev_callv, qev_new1, qev_store1, f0, f5, f6, f19, f20]
    have hip : i < p := by omega
    have s1 := storeR_arr ha hil (int64 (wrapA .i64 (n.tdiv p))) rfl rfl
    have a1 := putA_arr ha hil (int64 (wrapA .i64 (n.tdiv p)))
    have o1 := putA_only h id i (int64 (wrapA .i64 (n.tdiv p)))
    have hq := bin_quo .other false .i64 n (p : Int) hp0
    have hr := bin_rem .other false .i64 n (p : Int) hp0
    obtain ⟨env3, e3, k7, k0, k5, k6, k19, k20⟩ : ∃ env3, runOps Try.prog split_8 env2 h = some (env3, putA h id i (int64 (wrapA .i64 (n.tdiv p)))) ∧ sv env3 7 = int64 i ∧ sv env3 0 = int64 n ∧ sv env3 5 = int64 p ∧ sv env3 6 = .sl id 0 0 p p true 1 ∧ sv env3 19 = int64 p ∧ sv env3 20 = int64 i := by
      simp [split_8, runOps, wanted_no, wanted_sv, ev_tm, ev_vl, sv_setD, sv_set, setD_none, qev_mov, qev_bin, qev_un, qev_lenI, qev_pick, qev_load1, qev_idxSl, idx2_sl, idxA2_ptr, opt_some, bin_add, bin_sub, bin_mul, bin_lss, bin_leq, bin_gtr, bin_geq, bin_eql, bin_neq, un_not, un_neg, qev_callv, qev_new1, qev_store1, g7, g0, g5, g6, g19, g20, hq, hip, s1]
    obtain ⟨env4, e4, m8, m7, m0, m5, m6, m19, m20⟩ : ∃ env4, runOps Try.prog split_9 env3 (putA h id i (int64 (wrapA .i64 (n.tdiv p)))) = some (env4, putA h id i (int64 (wrapA .i64 (n.tdiv p)))) ∧ sv env4 8 = int64 (n.tmod p) ∧ sv env4 7 = int64 i ∧ sv env4 0 = int64 n ∧ sv env4 5 = int64 p ∧ sv env4 6 = .sl id 0 0 p p true 1 ∧ sv env4 19 = int64 p ∧ sv env4 20 = int64 i := by
      simp [split_9, runOps, wanted_no, wanted_sv, ev_tm, ev_vl, sv_setD, sv_set, setD_none, qev_mov, qev_bin, qev_un, qev_lenI, qev_pick, qev_load1, qev_idxSl, idx2_sl, idxA2_ptr, opt_some, bin_add, bin_sub, bin_mul, bin_lss, bin_leq, bin_gtr, bin_geq, bin_eql, bin_neq, un_not, un_neg, qev_callv, qev_new1, qev_store1, k7, k0, k5, k6, k19, k20, hr]
    generalize hh1 : putA h id i (int64 (wrapA .i64 (n.tdiv p))) = h1 at *
    obtain ⟨env5, e5, n32, n8, n7, n0, n5, n6, n19, n20⟩ : ∃ env5, runOps Try.prog split_10 env4 h1 = some (env5, h1) ∧ sv env5 32 = .bool (decide ((i : Int) < n.tmod p)) ∧ sv env5 8 = int64 (n.tmod p) ∧ sv env5 7 = int64 i ∧ sv env5 0 = int64 n ∧ sv env5 5 = int64 p ∧ sv env5 6 = .sl id 0 0 p p true 1 ∧ sv env5 19 = int64 p ∧ sv env5 20 = int64 i := by
      simp [split_10, runOps, wanted_no, wanted_sv, ev_tm, ev_vl, sv_setD, sv_set, setD_none, qev_mov, qev_bin, qev_un, qev_lenI, qev_pick, qev_load1, qev_idxSl, idx2_sl, idxA2_ptr, opt_some, bin_add, bin_sub, bin_mul, bin_lss, bin_leq, bin_gtr, bin_geq, bin_eql, bin_neq, un_not, un_neg, qev_callv, qev_new1, qev_store1, m8, m7, m0, m5, m6, m19, m20]
    have hl1 : (l.set i (int64 (wrapA .i64 (n.tdiv p)))).length = p := by simp [hl]
    have one1 : read1 h1 id 0 i = some (int64 (wrapA .i64 (n.tdiv p))) := by
      have := a1.one (i := i) (by simpa using hil)
      simpa using this
    -- the switch: what lies at i behind it
    obtain ⟨env6, h2, L6, r7, r0, r5, r6, r19, r20, a2, o2⟩ : ∃ env6 h2, (∀ (cx : Cx) (k : List Am.Item), Leads Try.prog (sOf cx (.code (.cond (tm 32) (.region split_11) (.seq (.region split_12) (.cond (tm 42) (.region split_13) .skip))) :: .inBlock 2 :: .inBlock 1 :: .code (.region split_14) :: .inLoop split_15 :: .inBlock 0 :: k) env5 h1)
        (sOf cx (.inBlock 2 :: .inBlock 1 :: .code (.region split_14) :: .inLoop split_15 :: .inBlock 0 :: k) env6 h2)) ∧ sv env6 7 = int64 i ∧ sv env6 0 = int64 n ∧ sv env6 5 = int64 p ∧ sv env6 6 = .sl id 0 0 p p true 1 ∧ sv env6 19 = int64 p ∧ sv env6 20 = int64 i ∧
        Arr h2 id (l.set i (int64 (partS n p i))) ∧ Only [id] h1 h2 := by
      by_cases c1 : (i : Int) < n.tmod p
      · have s2 := storeR_arr a1 (by simpa using hil) (i := i) (int64 (wrapA .i64 (wrapA .i64 (n.tdiv p) + 1))) rfl rfl
        have a2 := putA_arr a1 (by simpa using hil) (i := i) (int64 (wrapA .i64 (wrapA .i64 (n.tdiv p) + 1)))
        obtain ⟨env6, e6, r⟩ : ∃ env6, runOps Try.prog split_11 env5 h1 = some (env6, putA h1 id i (int64 (wrapA .i64 (wrapA .i64 (n.tdiv p) + 1)))) ∧ sv env6 7 = int64 i ∧ sv env6 0 = int64 n ∧ sv env6 5 = int64 p ∧ sv env6 6 = .sl id 0 0 p p true 1 ∧ sv env6 19 = int64 p ∧ sv env6 20 = int64 i := by
          simp [split_11, runOps, wanted_no, wanted_sv, ev_tm, ev_vl, sv_setD, sv_set, setD_none, qev_mov, qev_bin, qev_un, qev_lenI, qev_pick, qev_load1, qev_idxSl, idx2_sl, idxA2_ptr, opt_some, bin_add, bin_sub, bin_mul, bin_lss, bin_leq, bin_gtr, bin_geq, bin_eql, bin_neq, un_not, un_neg, qev_callv, qev_new1, qev_store1, n7, n0, n5, n6, n19, n20, hip, one1, s2]
        refine ⟨env6, _, fun cx k => (leads_cond (t := true) (by rw [show ev env5 (tm 32) = sv env5 32 from rfl, n32, decide_eq_true c1])).trans (leads_region e6), r.1, r.2.1, r.2.2.1, r.2.2.2.1, r.2.2.2.2.1, r.2.2.2.2.2, ?_, putA_only _ _ _ _⟩
        rw [List.set_set] at a2
        unfold partS
        rw [if_pos c1]; exact a2
      · obtain ⟨env6, e6, q42, r⟩ : ∃ env6, runOps Try.prog split_12 env5 h1 = some (env6, h1) ∧ sv env6 42 = .bool (decide ((i : Int) < wrapA .i64 (0 - n.tmod p))) ∧ sv env6 7 = int64 i ∧ sv env6 0 = int64 n ∧ sv env6 5 = int64 p ∧ sv env6 6 = .sl id 0 0 p p true 1 ∧ sv env6 19 = int64 p ∧ sv env6 20 = int64 i := by
          simp [split_12, runOps, wanted_no, wanted_sv, ev_tm, ev_vl, sv_setD, sv_set, setD_none, qev_mov, qev_bin, qev_un, qev_lenI, qev_pick, qev_load1, qev_idxSl, idx2_sl, idxA2_ptr, opt_some, bin_add, bin_sub, bin_mul, bin_lss, bin_leq, bin_gtr, bin_geq, bin_eql, bin_neq, un_not, un_neg, qev_callv, qev_new1, qev_store1, n7, n8, n0, n5, n6, n19, n20]
        have L0 := fun (cx : Cx) (k : List Am.Item) => leads_cond (P := Try.prog) (cx := cx) (h := h1) (k := .inBlock 2 :: .inBlock 1 :: .code (.region split_14) :: .inLoop split_15 :: .inBlock 0 :: k) (a := .region split_11) (b := .seq (.region split_12) (.cond (tm 42) (.region split_13) .skip)) (t := false)
          (show ev env5 (tm 32) = .bool false by rw [show ev env5 (tm 32) = sv env5 32 from rfl, n32, decide_eq_false c1])
        by_cases c2 : (i : Int) < wrapA .i64 (0 - n.tmod p)
        · have s2 := storeR_arr a1 (by simpa using hil) (i := i) (int64 (wrapA .i64 (wrapA .i64 (n.tdiv p) - 1))) rfl rfl
          have a2 := putA_arr a1 (by simpa using hil) (i := i) (int64 (wrapA .i64 (wrapA .i64 (n.tdiv p) - 1)))
          obtain ⟨env7, e7, r'⟩ : ∃ env7, runOps Try.prog split_13 env6 h1 = some (env7, putA h1 id i (int64 (wrapA .i64 (wrapA .i64 (n.tdiv p) - 1)))) ∧ sv env7 7 = int64 i ∧ sv env7 0 = int64 n ∧ sv env7 5 = int64 p ∧ sv env7 6 = .sl id 0 0 p p true 1 ∧ sv env7 19 = int64 p ∧ sv env7 20 = int64 i := by
            simp [split_13, runOps, wanted_no, wanted_sv, ev_tm, ev_vl, sv_setD, sv_set, setD_none, qev_mov, qev_bin, qev_un, qev_lenI, qev_pick, qev_load1, qev_idxSl, idx2_sl, idxA2_ptr, opt_some, bin_add, bin_sub, bin_mul, bin_lss, bin_leq, bin_gtr, bin_geq, bin_eql, bin_neq, un_not, un_neg, qev_callv, qev_new1, qev_store1, r, hip, one1, s2]
          refine ⟨env7, _, fun cx k => (L0 cx k).trans <| leads_seq.trans <| (leads_region e6).trans <| (leads_cond (t := true) (by rw [show ev env6 (tm 42) = sv env6 42 from rfl, q42, decide_eq_true c2])).trans (leads_region e7), r'.1, r'.2.1, r'.2.2.1, r'.2.2.2.1, r'.2.2.2.2.1, r'.2.2.2.2.2, ?_, putA_only _ _ _ _⟩
          rw [List.set_set] at a2
          unfold partS
          rw [if_neg c1, if_pos c2]; exact a2
        · refine ⟨env6, h1, fun cx k => (L0 cx k).trans <| leads_seq.trans <| (leads_region e6).trans <| (leads_cond (t := false) (by rw [show ev env6 (tm 42) = sv env6 42 from rfl, q42, decide_eq_false c2])).trans leads_skip, r.1, r.2.1, r.2.2.1, r.2.2.2.1, r.2.2.2.2.1, r.2.2.2.2.2, ?_, Only.refl _ _⟩
          unfold partS
          rw [if_neg c1, if_neg c2]; exact a1
    obtain ⟨env7, e7, t0, t5, t6, t19, t20⟩ : ∃ env7, runOps Try.prog split_14 env6 h2 = some (env7, h2) ∧ sv env7 0 = int64 n ∧ sv env7 5 = int64 p ∧ sv env7 6 = .sl id 0 0 p p true 1 ∧ sv env7 19 = int64 p ∧ sv env7 20 = int64 ((i + 1 : Nat) : Int) := by
      have : wrapA .i64 ((i : Int) + 1) = (i : Int) + 1 := wrap64 (by omega) (by omega)
      simp [split_14, runOps, wanted_no, wanted_sv, ev_tm, ev_vl, sv_setD, sv_set, setD_none, qev_mov, qev_bin, qev_un, qev_lenI, qev_pick, qev_load1, qev_idxSl, idx2_sl, idxA2_ptr, opt_some, bin_add, bin_sub, bin_mul, bin_lss, bin_leq, bin_gtr, bin_geq, bin_eql, bin_neq, un_not, un_neg, qev_callv, qev_new1, qev_store1, r0, r5, r6, r19, r20, this]
    obtain ⟨env', h', L, z6, za, zo⟩ := ih (i + 1) env7 h2 (l.set i (int64 (partS n p i))) (by omega) (by simp [hl]) (fun j hji => by
      by_cases e : j = i
      · subst e
        rw [List.getElem?_set_self hil]
      · rw [List.getElem?_set_ne (fun c => e c.symm)]
        exact hj j (by omega)) a2 t0 t5 t6 t19 t20
    refine ⟨env', h', fun cx k => ?_, z6, za, (o1.trans o2).trans zo⟩
    exact leads_seq.trans <| (leads_region e1).trans <| leads_seq.trans <| (leads_cond (t := true) f21).trans <| leads_skip.trans <| leads_seq.trans <| leads_block.trans <| leads_seq.trans <| (leads_region e2).trans <| leads_seq.trans <| (leads_region e3).trans <| leads_seq.trans <|
      (leads_region e4).trans <| leads_block.trans <| leads_seq.trans <| (leads_region e5).trans <| (L6 cx k).trans <| leads_inBlock.trans <| leads_inBlock.trans <| (leads_region e7).trans <| leads_inLoop.trans (L cx k)
end Go.Proofs.Ytpcddenijmhbfaa.Tog

namespace Go.Proofs.Ytpcddenijmhbfaa.Tog
open Go Go.Proofs.Ytpcddenijmhbfaa.Am Go.Proofs

noncomputable def splitL (n parts : Int) : List Int := if parts < 1 ∨ 64 < parts then [] else partsS n parts.toNat

theorem split_fn (h : Hp) (n parts : Int) : ∃ v' h', AmFn Try.prog 16 [int64 n, int64 parts] h v' h' ∧ SlR h' v' ((splitL n parts).map int64) ∧ Only [] h h' := by
  obtain ⟨env0, e0, a0, a1⟩ : ∃ env, runOps Try.prog split_0 (setArgs .e 0 [int64 n, int64 parts]) h = some (env, h) ∧ sv env 0 = int64 n ∧ sv env 1 = int64 parts := by
    simp [split_0, sv_args, runOps, wanted_no, wanted_sv, ev_tm, ev_vl, sv_setD, sv_set, setD_none, qev_mov, qev_bin, qev_un, qev_lenI, qev_pick, qev_load1, qev_idxSl, idx2_sl, idxA2_ptr, opt_some, bin_add, bin_sub, bin_mul, bin_lss, bin_leq, bin_gtr, bin_geq, bin_eql, bin_neq, un_not, un_neg, qev_callv, qev_new1, qev_store1]
  obtain ⟨env1, e1, b14, b0, b1⟩ : ∃ env, runOps Try.prog split_1 env0 h = some (env, h) ∧ sv env 14 = .bool (decide (parts < 1 ∨ 64 < parts)) ∧ sv env 0 = int64 n ∧ sv env 1 = int64 parts := by
    by_cases c : parts < 1
    · simp [split_1, runOps, wanted_no, wanted_sv, ev_tm, ev_vl, sv_setD, sv_set, setD_none, qev_mov, qev_bin, qev_un, qev_lenI, qev_pick, qev_load1, qev_idxSl, idx2_sl, idxA2_ptr, opt_some, bin_add, bin_sub, bin_mul, bin_lss, bin_leq, bin_gtr, bin_geq, bin_eql, bin_neq, un_not, un_neg, qev_callv, qev_new1, qev_store1, a0, a1, c]
    · simp [split_1, runOps, wanted_no, wanted_sv, ev_tm, ev_vl, sv_setD, sv_set, setD_none, qev_mov, qev_bin, qev_un, qev_lenI, qev_pick, qev_load1, qev_idxSl, idx2_sl, idxA2_ptr, opt_some, bin_add, bin_sub, bin_mul, bin_lss, bin_leq, bin_gtr, bin_geq, bin_eql, bin_neq, un_not, un_neg, qev_callv, qev_new1, qev_store1, a0, a1, c]
  by_cases c : parts < 1 ∨ 64 < parts
  · obtain ⟨env2, e2, c4⟩ : ∃ env, runOps Try.prog split_2 env1 h = some (env, h) ∧ sv env 4 = .nilSl := by
      simp [split_2, runOps, wanted_no, wanted_sv, ev_tm, ev_vl, sv_setD, sv_set, setD_none, qev_mov, qev_bin, qev_un, qev_lenI, qev_pick, qev_load1, qev_idxSl, idx2_sl, idxA2_ptr, opt_some, bin_add, bin_sub, bin_mul, bin_lss, bin_leq, bin_gtr, bin_geq, bin_eql, bin_neq, un_not, un_neg, qev_callv, qev_new1, qev_store1]
    refine ⟨.nilSl, h, AmFn.ends split_code (by simp [split_fu]) fun callers => ?_, ?_, Only.refl _ _⟩
    · exact Leads.ends (leads_seq.trans <| (leads_region e0).trans <| leads_seq.trans <| leads_seq.trans <| (leads_region e1).trans <| (leads_cond (t := true) (by rw [show ev env1 (tm 14) = sv env1 14 from rfl, b14, decide_eq_true c])).trans <| leads_seq.trans <| leads_region e2) (ends_ret1 split_code c4)
    · unfold splitL
      rw [if_pos c]; exact .nil
  · obtain ⟨p, hp⟩ : ∃ p : Nat, parts = p := ⟨parts.toNat, by omega⟩
    subst hp
    have hp1 : 1 ≤ p := by omega
    have hp2 : p ≤ 64 := by omega
    obtain ⟨env2, e2, c0, c1, c5⟩ : ∃ env, runOps Try.prog split_3 env1 h = some (env, h) ∧ sv env 0 = int64 n ∧ sv env 1 = int64 p ∧ sv env 5 = int64 p := by
      simp [split_3, runOps, wanted_no, wanted_sv, ev_tm, ev_vl, sv_setD, sv_set, setD_none, qev_mov, qev_bin, qev_un, qev_lenI, qev_pick, qev_load1, qev_idxSl, idx2_sl, idxA2_ptr, opt_some, bin_add, bin_sub, bin_mul, bin_lss, bin_leq, bin_gtr, bin_geq, bin_eql, bin_neq, un_not, un_neg, qev_callv, qev_new1, qev_store1, b0, b1]
    obtain ⟨h1, mk, ar, o1, n1⟩ := mkSl_arr Try.prog (env := setD env2 (some (Pos.ofNat 16)) (int64 p)) (h := h) (x := tm 16) (y := tm 16) (p := p) (bytes := 8) (z := int64 0) (by simp [ev_tm, sv_setD]) (by simp [ev_tm, sv_setD]) (by omega) (by omega)
    obtain ⟨env3, e3, d0, d5, d6⟩ : ∃ env, runOps Try.prog split_4 env2 h = some (env, h1) ∧ sv env 0 = int64 n ∧ sv env 5 = int64 p ∧ sv env 6 = .sl h.next 0 0 p p true 1 := by
      simp [split_4, runOps, wanted_no, wanted_sv, ev_tm, ev_vl, sv_setD, sv_set, setD_none, qev_mov, qev_bin, qev_un, qev_lenI, qev_pick, qev_load1, qev_idxSl, idx2_sl, idxA2_ptr, opt_some, bin_add, bin_sub, bin_mul, bin_lss, bin_leq, bin_gtr, bin_geq, bin_eql, bin_neq, un_not, un_neg, qev_callv, qev_new1, qev_store1, c0, c1, c5, mk]
    obtain ⟨env4, e4, f0, f5, f6, f19, f20⟩ : ∃ env, runOps Try.prog split_5 env3 h1 = some (env, h1) ∧ sv env 0 = int64 n ∧ sv env 5 = int64 p ∧ sv env 6 = .sl h.next 0 0 p p true 1 ∧ sv env 19 = int64 p ∧ sv env 20 = int64 ((0 : Nat) : Int) := by
      simp [split_5, runOps, wanted_no, wanted_sv, ev_tm, ev_vl, sv_setD, sv_set, setD_none, qev_mov, qev_bin, qev_un, qev_lenI, qev_pick, qev_load1, qev_idxSl, idx2_sl, idxA2_ptr, opt_some, bin_add, bin_sub, bin_mul, bin_lss, bin_leq, bin_gtr, bin_geq, bin_eql, bin_neq, un_not, un_neg, qev_callv, qev_new1, qev_store1, d0, d5, d6]
    obtain ⟨env5, h2, L, g6, ga, go⟩ := split_loop n p hp1 hp2 (id := h.next) p 0 env4 h1 _ (by omega) (by simp) (fun j hj => by omega) ar f0 f5 f6 f19 f20
    obtain ⟨env6, e6, k4⟩ : ∃ env, runOps Try.prog split_16 env5 h2 = some (env, h2) ∧ sv env 4 = .sl h.next 0 0 p p true 1 := by
      simp [split_16, runOps, wanted_no, wanted_sv, ev_tm, ev_vl, sv_setD, sv_set, setD_none, qev_mov, qev_bin, qev_un, qev_lenI, qev_pick, qev_load1, qev_idxSl, idx2_sl, idxA2_ptr, opt_some, bin_add, bin_sub, bin_mul, bin_lss, bin_leq, bin_gtr, bin_geq, bin_eql, bin_neq, un_not, un_neg, qev_callv, qev_new1, qev_store1, g6]
    refine ⟨_, h2, AmFn.ends split_code (by simp [split_fu]) fun callers => Leads.ends (leads_seq.trans <| (leads_region e0).trans <| leads_seq.trans <| leads_seq.trans <| (leads_region e1).trans <| (leads_cond (t := false) (by rw [show ev env1 (tm 14) = sv env1 14 from rfl, b14, decide_eq_false c])).trans <|
      leads_skip.trans <| leads_seq.trans <| (leads_region e2).trans <| leads_seq.trans <| (leads_region e3).trans <| leads_seq.trans <| leads_seq.trans <| (leads_region e4).trans <| leads_block.trans <| leads_loop.trans <| (L (cxF 16 callers) _).trans <| leads_seq.trans <| leads_region e6) (ends_ret1 split_code k4), ?_, Only.weak go (N := h.next.num) (by simp) o1 (Nat.le_refl _)⟩
    unfold splitL
    rw [if_neg c]
    exact .mk (by simp [partsS]) ga.row
end Go.Proofs.Ytpcddenijmhbfaa.Tog

namespace Go.Proofs.Ytpcddenijmhbfaa.Tog
open Go Go.Proofs.Ytpcddenijmhbfaa.Am Go.Proofs

/-! (some estuary/estuarylaw10.known) -/

noncomputable def known_0 : List O := [
    ⟨(some (Pos.ofNat 0)), none, .mov (vl (.bool false)), true, 0⟩]

noncomputable def known_1 : List O := [
    ⟨(some (Pos.ofNat 1)), none, .call (.value (vl (.fn (.func 12) [] []))) [(vl (int64 (9223372036854775807))), (vl (int64 (1)))], true, 0⟩,
    ⟨(some (Pos.ofNat 2)), none, .bin .eql .other true (tm 1) (vl (int64 (-9223372036854775808))), true, 0⟩,
    ⟨(some (Pos.ofNat 3)), none, .mov (tm 2), true, 0⟩,
    ⟨(some (Pos.ofNat 4)), (some ((Pos.ofNat 3), true)), .call (.value (vl (.fn (.func 7) [] []))) [(vl .nilSl)], true, 0⟩,
    ⟨(some (Pos.ofNat 5)), (some ((Pos.ofNat 3), true)), .bin .eql .other true (tm 4) (vl (int64 (0))), true, 0⟩,
    ⟨(some (Pos.ofNat 6)), none, .pick (tm 3) (tm 5) (vl (.bool false)), true, 0⟩,
    ⟨(some (Pos.ofNat 7)), none, .mov (tm 6), true, 0⟩,
    ⟨(some (Pos.ofNat 8)), (some ((Pos.ofNat 7), true)), .call (.value (vl (.fn (.func 13) [] []))) [(vl (int64 (5))), (vl (int64 (3)))], true, 0⟩,
    ⟨(some (Pos.ofNat 9)), (some ((Pos.ofNat 7), true)), .bin .eql .other true (tm 8) (vl (int64 (-2))), true, 0⟩,
    ⟨(some (Pos.ofNat 10)), none, .pick (tm 7) (tm 9) (vl (.bool false)), true, 0⟩,
    ⟨(some (Pos.ofNat 11)), none, .mov (tm 10), true, 0⟩,
    ⟨(some (Pos.ofNat 12)), (some ((Pos.ofNat 11), true)), .call (.value (vl (.fn (.func 14) [] []))) [(vl (int64 (10))), (vl (int64 (13))), (vl (int64 (9)))], true, 0⟩,
    ⟨(some (Pos.ofNat 13)), (some ((Pos.ofNat 11), true)), .bin .eql .other true (tm 12) (vl (int64 (12))), true, 0⟩,
    ⟨(some (Pos.ofNat 14)), none, .pick (tm 11) (tm 13) (vl (.bool false)), true, 0⟩,
    ⟨(some (Pos.ofNat 15)), none, .mov (tm 14), true, 0⟩,
    ⟨(some (Pos.ofNat 16)), (some ((Pos.ofNat 15), true)), .buildSl 3 1 [(int64 (0))] [(0, 1, (vl (int64 (13)))), (1, 1, (vl (int64 (9)))), (2, 1, (vl (int64 (10))))], true, 0⟩,
    ⟨(some (Pos.ofNat 17)), (some ((Pos.ofNat 15), true)), .call (.value (vl (.fn (.func 8) [] []))) [(vl (int64 (10))), (tm 16)], true, 0⟩,
    ⟨(some (Pos.ofNat 18)), (some ((Pos.ofNat 15), true)), .bin .eql .other true (tm 17) (vl (int64 (12))), true, 0⟩,
    ⟨(some (Pos.ofNat 19)), none, .pick (tm 15) (tm 18) (vl (.bool false)), true, 0⟩,
    ⟨(some (Pos.ofNat 20)), none, .mov (tm 19), true, 0⟩,
    ⟨(some (Pos.ofNat 21)), (some ((Pos.ofNat 20), true)), .call (.value (vl (.fn (.func 16) [] []))) [(vl (int64 (-7))), (vl (int64 (3)))], true, 0⟩,
    ⟨(some (Pos.ofNat 22)), (some ((Pos.ofNat 20), true)), .buildSl 3 1 [(int64 (0))] [(0, 1, (vl (int64 (-3)))), (1, 1, (vl (int64 (-2)))), (2, 1, (vl (int64 (-2))))], true, 0⟩,
    ⟨(some (Pos.ofNat 23)), (some ((Pos.ofNat 20), true)), .call (.value (vl (.fn (.func 9) [] []))) [(tm 21), (tm 22)], true, 0⟩,
    ⟨(some (Pos.ofNat 24)), none, .pick (tm 20) (tm 23) (vl (.bool false)), true, 0⟩,
    ⟨(some (Pos.ofNat 25)), none, .mov (tm 24), true, 0⟩,
    ⟨(some (Pos.ofNat 26)), (some ((Pos.ofNat 25), true)), .call (.value (vl (.fn (.func 16) [] []))) [(vl (int64 (1))), (vl (int64 (0)))], true, 0⟩,
    ⟨(some (Pos.ofNat 27)), (some ((Pos.ofNat 25), true)), .lenL (tm 26), true, 0⟩,
    ⟨(some (Pos.ofNat 28)), (some ((Pos.ofNat 25), true)), .bin .eql .other true (tm 27) (vl (int64 (0))), true, 0⟩,
    ⟨(some (Pos.ofNat 29)), none, .pick (tm 25) (tm 28) (vl (.bool false)), true, 0⟩,
    ⟨(some (Pos.ofNat 0)), none, .mov (tm 29), true, 0⟩]

noncomputable def known_fu : Fu := ⟨[.tmp (Pos.ofNat 0)], 30, (.seq (.region known_0) (.seq (.region known_1) .ret))⟩

theorem known_code : compFn Try.prog 6 = some known_fu := by kernel_rfl

theorem ok7 : okCall Try.prog 7 = true := by kernel_rfl
theorem ok8 : okCall Try.prog 8 = true := by kernel_rfl
theorem ok9 : okCall Try.prog 9 = true := by kernel_rfl
theorem ok10 : okCall Try.prog 10 = true := by kernel_rfl
theorem ok11 : okCall Try.prog 11 = true := by kernel_rfl
theorem ok14 : okCall Try.prog 14 = true := by kernel_rfl
theorem ok16 : okCall Try.prog 16 = true := by kernel_rfl

/-- A list of three, made. -/
theorem build3 (P : Program) {env : T AV} {h : Hp} (a b c : Int) : ∃ h', evalOp P (.buildSl 3 1 [int64 0] [(0, 1, vl (int64 a)), (1, 1, vl (int64 b)), (2, 1, vl (int64 c))]) env h = .val (.sl h.next 0 0 3 3 true 1) h' ∧ SlR h' (.sl h.next 0 0 3 3 true 1) ([a, b, c].map int64) ∧ Only [] h h' := by
  refine ⟨newH h fun s => .cells s (Cells.ofL [int64 a, int64 b, int64 c]) 0 0 0 0 false false, ?_, ?_, newH_only _ _ _⟩
  · show (bif Nat.blt 0 1 then newCells h (Cells.ofL [int64 a, int64 b, int64 c]) fun id h => Res.val (.sl id 0 0 3 3 true 1) h else .fail "buildSl") = _
    rw [show Nat.blt 0 1 = true from rfl, cond_true]
    unfold newCells
    rw [newK_newH]
  · have q := newH_row (h := h) (c := Cells.ofL [int64 a, int64 b, int64 c]) (Cells.ofL_spec _).1 (ser := fun s => s) (fz := false)
    rw [(Cells.ofL_spec _).2.1] at q
    exact .mk rfl q

theorem known_fn (h : Hp) : ∃ h', AmFn Try.prog 6 [] h (.bool true) h' ∧ Only [] h h' := by
  obtain ⟨h1, s1, o1⟩ := sum_fn (xs := []) (h := h) (v := .nilSl) .nil (by simp)
  obtain ⟨h2, m2, r2, o2⟩ := build3 Try.prog (env := .e) (h := h1) 13 9 10
  have many := many_fn r2 (by decide) 10
  obtain ⟨v3, h3, f3, r3, o3⟩ := split_fn h2 (-7) 3
  obtain ⟨h4, m4, r4, o4⟩ := build3 Try.prog (env := .e) (h := h3) (-3) (-2) (-2)
  have same := same_fn (r3.more o4.more) r4 (by decide)
  obtain ⟨v5, h5, f5, r5, o5⟩ := split_fn h4 1 0
  have e1 : wrapA .i64 (9223372036854775807 + 1) = -9223372036854775808 := by decide +kernel
  have e2 : wrapA .i64 (3 - 5) = -2 := by decide +kernel
  have e3 : wrapA .i64 (13 + wrapA .i64 (9 - 10)) = 12 := by decide +kernel
  have e4 : manyS 10 10 [13, 9, 10] = 12 := by decide +kernel
  have e5 : decide (splitL (-7) 3 = [-3, -2, -2]) = true := by decide +kernel
  have e6 : splitL 1 0 = [] := by decide +kernel
  have k1 := add_fn h 9223372036854775807 1
  rw [e1] at k1
  have k3 := delta_fn h1 5 3
  rw [e2] at k3
  have k4 := three_fn h1 10 13 9
  rw [e3] at k4
  rw [e4] at many
  rw [e5] at same
  obtain ⟨env0, q0⟩ : ∃ env, runOps Try.prog known_0 (setArgs .e 0 []) h = some (env, h) := by
    simp [known_0, runOps, wanted_no, wanted_sv, ev_tm, ev_vl, sv_setD, sv_set, setD_none, qev_mov, qev_bin, qev_un, qev_lenI, qev_pick, qev_load1, qev_idxSl, idx2_sl, idxA2_ptr, opt_some, bin_add, bin_sub, bin_mul, bin_lss, bin_leq, bin_gtr, bin_geq, bin_eql, bin_neq, un_not, un_neg, qev_callv, qev_new1, qev_store1]
  have m2' : ∀ env, evalOp Try.prog (.buildSl 3 1 [int64 0] [(0, 1, vl (int64 13)), (1, 1, vl (int64 9)), (2, 1, vl (int64 10))]) env h1 = .val (.sl h1.next 0 0 3 3 true 1) h2 := fun _ => m2
  have m4' : ∀ env, evalOp Try.prog (.buildSl 3 1 [int64 0] [(0, 1, vl (int64 (-3))), (1, 1, vl (int64 (-2))), (2, 1, vl (int64 (-2)))]) env h3 = .val (.sl h3.next 0 0 3 3 true 1) h4 := fun _ => m4
  have hl5 : ∀ env x, ev env x = v5 → evalOp Try.prog (.lenL x) env h5 = .val (int64 0) h5 := fun env x hx => by
    have := r5.len Try.prog env x hx
    rw [e6] at this
    exact this
  have hv5 : v5 = .nilSl ∨ ∃ id g off cap ex, v5 = .sl id g off 0 cap ex 1 := by
    rw [e6] at r5
    generalize hL : ([] : List Int).map int64 = L at r5
    cases r5 with
    | nil => exact .inl rfl
    | mk hn r =>
      subst hL
      simp at hn
      subst hn
      exact .inr ⟨_, _, _, _, _, rfl⟩
  have hs : sumS 0 [] = 0 := rfl
  rw [hs] at s1
  obtain ⟨env1, q1, q2⟩ : ∃ env, runC Try.prog [⟨12, [int64 9223372036854775807, int64 1], h, int64 (-9223372036854775808), h⟩, ⟨7, [.nilSl], h, int64 0, h1⟩, ⟨13, [int64 5, int64 3], h1, int64 (-2), h1⟩, ⟨14, [int64 10, int64 13, int64 9], h1, int64 12, h1⟩,
      ⟨8, [int64 10, .sl h1.next 0 0 3 3 true 1], h2, int64 12, h2⟩, ⟨16, [int64 (-7), int64 3], h2, v3, h3⟩, ⟨9, [v3, .sl h3.next 0 0 3 3 true 1], h4, .bool true, h4⟩, ⟨16, [int64 1, int64 0], h4, v5, h5⟩] known_1 env0 h = some (env, h5) ∧ sv env 0 = .bool true := by
    rcases hv5 with q | ⟨id, g, off, cap, ex, q⟩ <;> subst q <;> simp [known_1, runC, runOps, wanted_no, wanted_sv, ev_tm, ev_vl, sv_setD, sv_set, setD_none, qev_mov, qev_bin, qev_un, qev_lenI, qev_pick, qev_load1, qev_idxSl, idx2_sl, idxA2_ptr, opt_some, bin_add, bin_sub, bin_mul, bin_lss, bin_leq, bin_gtr, bin_geq, bin_eql, bin_neq, un_not, un_neg, qev_callv, qev_new1, qev_store1, callA_ok ok12, callA_ok ok7, callA_ok ok13, callA_ok ok14, callA_ok ok8, callA_ok ok16, callA_ok ok9, m2', m4']
  refine ⟨h5, AmFn.ends known_code (by simp [known_fu]) fun callers => Leads.ends (leads_seq.trans <| (leads_region q0).trans <| leads_seq.trans <| leads_regionC _ ?_ q1) (ends_ret1 known_code q2), o1.trans (o2.trans (o3.trans (o4.trans o5)))⟩
  intro a ha
  simp only [List.mem_cons, List.not_mem_nil, or_false] at ha
  rcases ha with e | e | e | e | e | e | e | e <;> subst e
  · exact k1
  · exact s1
  · exact k3
  · exact k4
  · exact many
  · exact f3
  · exact same
  · exact f5
end Go.Proofs.Ytpcddenijmhbfaa.Tog
