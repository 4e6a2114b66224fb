import Derived.Test.YtjhgembcdndmkaaDoorStB
/- THE WALK'S PARTS, part C: what the functions of the law compute, over the abstract machine that stands beside this text. No condition. -/
set_option linter.unusedSimpArgs false
set_option linter.unusedVariables false
namespace Go.Proofs.YtjhgembcdndmkaaDoor.St
open Go Go.Proofs.YtjhgembcdndmkaaDoor.Am Go.Proofs

theorem rputb_fn (r : Nat) (s : List UInt8) (hr : r < 9223372036854775808) (hs : s.length ≤ 9000) (h : Hp) : ∃ v h', AmFn Tryd.prog 24 [.agg [int64 r, strOf s]] h v h' ∧ Mine h.next.num h' v (formB r s) ∧ Only [] h h' := by
  obtain ⟨h1, bx, A, o1, n1⟩ := boxed Tryd.prog [int64 r, strOf s] h
  have osk := skipH_only h1
  have nsk := skipH_next h1
  have hsk : skipH h1 = ⟨h1.heap, h1.next.succ, h1.ser, h1.lim⟩ := rfl
  generalize hR : skipH h1 = hr0 at *
  have A2 := A.only osk (by simp)
  obtain ⟨v2, h2, k2, m2, o2⟩ := rnumber_fn r (by omega) hr0
  have A3 := A2.only o2 (by simp)
  have nx2 := o2.next
  have l0 := A2.one (i := 0) (by simp)
  have l1 := A2.one (i := 1) (by simp)
  have l1' := A3.one (i := 1) (by simp)
  simp only [List.getElem_cons_zero, List.getElem_cons_succ] at l0 l1 l1'
  have r3 := layH_byt (h := h2) (id := h1.next) (by omega) s
  have o3 := layH_only h2 h1.next (bytB' s)
  have e3 := lay_eq h2 h1.next (bytB' s)
  have n3 : (layH h2 h1.next (bytB' s)).next.num = h2.next.num := rfl
  generalize hh3 : layH h2 h1.next (bytB' s) = h3 at *
  obtain ⟨v4, h4, k4, m4, o4⟩ := rbytes_fn (h := h3) (by omega) r3
  have nx4 := o4.next
  have m2' := (m2.only o3 (fun j q c => by simp at c; subst c; have := m2.old q; omega)).more o4
  have hl1 := numB_length_le r (by omega)
  have hl2 := bytB_length_le (b := s) (by omega)
  obtain ⟨v5, h5, S, p1, p2, p3, p4, p5⟩ := m2'.push Tryd.prog (bytes := 0) m4.sl (by omega) (by omega) (by omega)
  obtain ⟨R, hS, hR', hbg⟩ := rec_of (P := Tryd.prog) [⟨37, [u64v r], hr0, v2, h2⟩, ⟨40, [.sl h1.next 0 0 s.length s.length false 1], h3, v4, h4⟩] (by
    intro a ha
    simp only [List.mem_cons, List.not_mem_nil, or_false] at ha
    exact ha.elim (fun e => by subst e; exact k2) (fun e => by subst e; exact k4)) (by simp)
  have R1 := hR' _ (List.mem_cons_self ..)
  have R2 := hR' _ (List.mem_cons_of_mem _ (List.mem_cons_self ..))
  have b1 := hbg _ (List.mem_cons_self ..)
  have b2 := hbg _ (List.mem_cons_of_mem _ (List.mem_cons_self ..))
  simp only at R1 R2 b1 b2
  have ar : ∀ env ser lim x, ev env x = strOf s → evalOp Tryd.prog (.strBytes x) env ⟨.e, h1.next, ser, lim⟩ = .val (.sl h1.next 0 0 s.length s.length false 1) ⟨T.set h1.next (some (bytB' s)) .e, h1.next.succ, Nat.succ ser, lim⟩ := fun env ser lim x hx => strBytes_resv Tryd.prog hx (by omega)
  have rm : (r : Int) % 18446744073709551616 = r := by omega
  obtain ⟨env1, e1, s1⟩ : ∃ env', runS Tryd.prog false rputb_fu.body [] (setArgs .e 0 [.agg [int64 r, strOf s]]) h = some (.upt [.code (.drawn rputb_1), .code .ret], [], env', h1) ∧ sv env' 1 = .ptr h.next 0 0 := by
    simp [rputb_fu, rputb_0, runS, runR, Rs.seq, Rs.block, sv_args, runOps, wanted_no, wanted_sv, ev_tm, ev_vl, sv_setD, sv_set, setD_none, qev_mov, qev_bin, qev_un, qev_lenI, qev_lenS, qev_pick, qev_load1, qev_idxSl, idx2_sl, idxA2_ptr, opt_some, bin_add, bin_sub, bin_mul, bin_lss, bin_leq, bin_gtr, bin_geq, bin_eql, bin_neq, un_not, un_neg, qev_callv, qev_new1, qev_store1, qev_nilC, nilC_ptr, qev_fld, fld0, fldN, qev_extract, nth0, nth1, nth2, qev_eqPtr, sameP_nil, notIf, bx]
  obtain ⟨env2, acts, lds, e2, z⟩ : ∃ env' acts lds, runE Tryd.prog R 0 rputb_1 ⟨[], [], [], h1.next, env1, hr0⟩ = some ⟨acts, lds, [], h1.next.succ, env', h5⟩ ∧ sv env' 2 = v5 := by
    simp [rputb_1, runE, stepE, stepD, kindOf, lookBack, lookAgain, actO, insT, putT, remAl, bit, runOps, wanted_no, wanted_sv, ev_tm, ev_vl, sv_setD, sv_set, setD_none, qev_mov, qev_bin, qev_un, qev_lenI, qev_lenS, qev_pick, qev_load1, qev_idxSl, idx2_sl, idxA2_ptr, opt_some, bin_add, bin_sub, bin_mul, bin_lss, bin_leq, bin_gtr, bin_geq, bin_eql, bin_neq, un_not, un_neg, qev_callv, qev_new1, qev_store1, qev_nilC, nilC_ptr, qev_fld, fld0, fldN, qev_extract, nth0, nth1, nth2, qev_eqPtr, sameP_nil, notIf, T.get_set, s1, l0, l1, l1', eqAV_str, qev_conv, wrapU, rm, callA_ok ok_rnumber, callA_ok ok_rbytes, b1, b2, R1, R2, ar, e3, p1, hz, show Nat.testBit 127 6 = true from by decide]
  have d2 := runDrawn_ofE (P := Tryd.prog) (rec := R) (l := rputb_1) (env := env1) (h := h1) (rid := h1.next.succ) (acts := acts) (lds := lds) (by rw [show skipIds rputb_1 h1.next = h1.next.succ from by simp [rputb_1, skipIds, isAlloc, kindOf], ← hsk]; exact e2)
  refine ⟨v5, h5, AmFn.dos rputb_code (by simp) (Dos.run (M := []) [] (by simp) e1 (DosL.more (M := []) (M1 := []) (Dos.drawn hS d2) (.ret (Dos.runRet [] (by simp) (show runS Tryd.prog true .ret [] env2 h5 = some (.ret, [], env2, h5) from rfl))))) (vs := [sv env2 2]) rfl z, p2.weak (by omega), ?_⟩
  have oa := ((o1.trans osk).trans o2).mono (S' := h1.next :: S) (by simp)
  have ob := (o3.mono (S' := h1.next :: S) (by simp)).trans (o4.mono (S' := h1.next :: S) (by simp))
  exact ((oa.trans ob).trans (p3.mono fun id q => .inl (by simp [q]))).mono fun id q => .inr (by
    rcases List.mem_cons.1 q with q | q
    · subst q; omega
    · have := (m2.old (p4 id q)).1; omega)

theorem rputn_fn (r : Nat) (s : List UInt8) (n : Nat) (hr : r < 9223372036854775808) (hs : s.length ≤ 9000) (hn : n < 9223372036854775808) (h : Hp) : ∃ v h', AmFn Tryd.prog 22 [.agg [int64 r, strOf s, int64 n]] h v h' ∧ Mine h.next.num h' v (pnameB r s n) ∧ Only [] h h' := by
  obtain ⟨h1, bx, A, o1, n1⟩ := boxed Tryd.prog [int64 r, strOf s, int64 n] h
  obtain ⟨v2, h2, k2, m2, o2⟩ := rputb_fn r s hr hs h1
  have A2 := A.only o2 (by simp)
  obtain ⟨v4, h4, k4, m4, o4⟩ := rnumber_fn n (by omega) h2
  have nx2 := o2.next
  have nx4 := o4.next
  have hl1 := formB_length_le (r := r) (s := s) (by omega) (by omega)
  have hl2 := numB_length_le n (by omega)
  obtain ⟨v5, h5, S, p1, p2, p3, p4, p5⟩ := (m2.more o4).push Tryd.prog (bytes := 0) m4.sl (by omega) (by omega) (by omega)
  have lB := A.part2 Tryd.prog (i := 0) (n := 2) (by simp)
  have l2 := A.one (i := 2) (by simp)
  have l2' := A2.one (i := 2) (by simp)
  simp only [List.getElem_cons_zero, List.getElem_cons_succ, List.drop_zero, List.take_succ_cons, List.take_zero] at lB l2 l2'
  obtain ⟨R, hS, hR', hbg⟩ := rec_of (P := Tryd.prog) [⟨24, [.agg [int64 r, strOf s]], h1, v2, h2⟩, ⟨37, [u64v n], h2, v4, h4⟩] (by
    intro a ha
    simp only [List.mem_cons, List.not_mem_nil, or_false] at ha
    exact ha.elim (fun e => by subst e; exact k2) (fun e => by subst e; exact k4)) (by simp)
  have R1 := hR' _ (List.mem_cons_self ..)
  have R2 := hR' _ (List.mem_cons_of_mem _ (List.mem_cons_self ..))
  have b1 := hbg _ (List.mem_cons_self ..)
  have b2 := hbg _ (List.mem_cons_of_mem _ (List.mem_cons_self ..))
  simp only at R1 R2 b1 b2
  have nm : (n : Int) % 18446744073709551616 = n := by omega
  obtain ⟨env1, e1, s1⟩ : ∃ env', runS Tryd.prog false rputn_fu.body [] (setArgs .e 0 [.agg [int64 r, strOf s, int64 n]]) h = some (.upt [.code (.drawn rputn_1), .code .ret], [], env', h1) ∧ sv env' 1 = .ptr h.next 0 0 := by
    simp [rputn_fu, rputn_0, runS, runR, Rs.seq, Rs.block, sv_args, runOps, wanted_no, wanted_sv, ev_tm, ev_vl, sv_setD, sv_set, setD_none, qev_mov, qev_bin, qev_un, qev_lenI, qev_lenS, qev_pick, qev_load1, qev_idxSl, idx2_sl, idxA2_ptr, opt_some, bin_add, bin_sub, bin_mul, bin_lss, bin_leq, bin_gtr, bin_geq, bin_eql, bin_neq, un_not, un_neg, qev_callv, qev_new1, qev_store1, qev_nilC, nilC_ptr, qev_fld, fld0, fldN, qev_extract, nth0, nth1, nth2, qev_eqPtr, sameP_nil, notIf, bx]
  obtain ⟨env2, acts, lds, e2, z⟩ : ∃ env' acts lds, runE Tryd.prog R 0 rputn_1 ⟨[], [], [], h1.next, env1, h1⟩ = some ⟨acts, lds, [], h1.next, env', h5⟩ ∧ sv env' 2 = v5 := by
    simp [rputn_1, runE, stepE, stepD, kindOf, lookBack, lookAgain, actO, insT, putT, remAl, bit, runOps, wanted_no, wanted_sv, ev_tm, ev_vl, sv_setD, sv_set, setD_none, qev_mov, qev_bin, qev_un, qev_lenI, qev_lenS, qev_pick, qev_load1, qev_idxSl, idx2_sl, idxA2_ptr, opt_some, bin_add, bin_sub, bin_mul, bin_lss, bin_leq, bin_gtr, bin_geq, bin_eql, bin_neq, un_not, un_neg, qev_callv, qev_new1, qev_store1, qev_nilC, nilC_ptr, qev_fld, fld0, fldN, qev_extract, nth0, nth1, nth2, qev_eqPtr, sameP_nil, notIf, T.get_set, s1, lB, l2, l2', eqAV_int8, qev_conv, wrapU, nm, callA_ok ok_rnumber, callA_ok ok_rputb, b1, b2, R1, R2, p1, hz]
  have d2 := runDrawn_ofE (P := Tryd.prog) (rec := R) (l := rputn_1) (env := env1) (h := h1) (rid := h1.next) (acts := acts) (lds := lds) (by rw [show skipIds rputn_1 h1.next = h1.next from by simp [rputn_1, skipIds, isAlloc, kindOf]]; exact e2)
  refine ⟨v5, h5, AmFn.dos rputn_code (by simp) (Dos.run (M := []) [] (by simp) e1 (DosL.more (M := []) (M1 := []) (Dos.drawn hS d2) (.ret (Dos.runRet [] (by simp) (show runS Tryd.prog true .ret [] env2 h5 = some (.ret, [], env2, h5) from rfl))))) (vs := [sv env2 2]) rfl z, p2.weak (by omega), ?_⟩
  exact ((((o1.trans o2).trans o4).mono (S' := S) (by simp)).trans p3).mono fun id q => .inr (by have := (m2.old (p4 id q)).1; omega)

theorem rput_fn (g r : Nat) (s : List UInt8) (n i : Nat) (hg : g < 9223372036854775808) (hr : r < 9223372036854775808) (hs : s.length ≤ 9000) (hn : n < 9223372036854775808) (hi : i < 9223372036854775808) (h : Hp) : ∃ v h', AmFn Tryd.prog 18 [.agg [int64 g, int64 r, strOf s, int64 n, int64 i]] h v h' ∧ Mine h.next.num h' v (pstampB g r s n i) ∧ Only [] h h' := by
  obtain ⟨h1, bx, A, o1, n1⟩ := boxed Tryd.prog [int64 g, int64 r, strOf s, int64 n, int64 i] h
  obtain ⟨v2, h2, k2, m2, o2⟩ := rnumber_fn g (by omega) h1
  have A2 := A.only o2 (by simp)
  obtain ⟨v4, h4, k4, m4, o4⟩ := rputn_fn r s n hr hs hn h2
  have A4 := A2.only o4 (by simp)
  have nx2 := o2.next
  have nx4 := o4.next
  have hl1 := pnameB_length_le (r := r) (s := s) (n := n) (by omega) (by omega) (by omega)
  have hl2 := numB_length_le g (by omega)
  have hl3 := numB_length_le i (by omega)
  obtain ⟨v5, h5, S, p1, p2, p3, p4, p5⟩ := (m2.more o4).push Tryd.prog (bytes := 0) m4.sl (by omega) (by omega) (by omega)
  have hSn : ∀ id ∈ S, h1.next.num ≤ id.num := fun id q => (m2.old (p4 id q)).1
  have nx5 := p3.next
  have A5 := A4.only p3 (fun c => by have := hSn _ c; omega)
  obtain ⟨v6, h6, k6, m6, o6⟩ := rnumber_fn i (by omega) h5
  have nx6 := o6.next
  obtain ⟨v7, h7, S7, t1, t2, t3, t4, t5⟩ := (p2.more o6).push Tryd.prog (bytes := 0) m6.sl (by rw [List.length_append]; omega) (by omega) (by omega)
  have lN := A.part2 Tryd.prog (i := 1) (n := 3) (by simp)
  have lN' := A2.part2 Tryd.prog (i := 1) (n := 3) (by simp)
  have l0 := A.one (i := 0) (by simp)
  have l4 := A5.one (i := 4) (by simp)
  simp only [List.getElem_cons_zero, List.getElem_cons_succ, List.drop_succ_cons, List.drop_zero, List.take_succ_cons, List.take_zero] at lN lN' l0 l4
  obtain ⟨R, hS, hR', hbg⟩ := rec_of (P := Tryd.prog) [⟨37, [u64v g], h1, v2, h2⟩, ⟨22, [.agg [int64 r, strOf s, int64 n]], h2, v4, h4⟩] (by
    intro a ha
    simp only [List.mem_cons, List.not_mem_nil, or_false] at ha
    exact ha.elim (fun e => by subst e; exact k2) (fun e => by subst e; exact k4)) (by simp)
  have R1 := hR' _ (List.mem_cons_self ..)
  have R2 := hR' _ (List.mem_cons_of_mem _ (List.mem_cons_self ..))
  have b1 := hbg _ (List.mem_cons_self ..)
  have b2 := hbg _ (List.mem_cons_of_mem _ (List.mem_cons_self ..))
  simp only at R1 R2 b1 b2
  have gm : (g : Int) % 18446744073709551616 = g := by omega
  have im : (i : Int) % 18446744073709551616 = i := by omega
  have eA : ∀ a b c : AV, eqAV 7 a a = true → eqAV 7 b b = true → eqAV 7 c c = true → eqAV 8 (.agg [a, b, c]) (.agg [a, b, c]) = true := fun a b c ha hb hc => eqAV_agg 7 (fun x hx => by
    simp only [List.mem_cons, List.not_mem_nil, or_false] at hx
    rcases hx with e | e | e <;> subst e <;> assumption)
  have eN : eqAV 8 (.agg [int64 r, strOf s, int64 n]) (.agg [int64 r, strOf s, int64 n]) = true := eA _ _ _ (eqAV_int 6 _ _) (by show (Nat.beq s.length s.length && Nat.beq (pack s) (pack s)) = true; simp) (eqAV_int 6 _ _)
  obtain ⟨env1, e1, s1⟩ : ∃ env', runS Tryd.prog false rput_fu.body [] (setArgs .e 0 [.agg [int64 g, int64 r, strOf s, int64 n, int64 i]]) h = some (.upt [.code (.drawn rput_1), .code (.seq (.region rput_2) .ret)], [], env', h1) ∧ sv env' 1 = .ptr h.next 0 0 := by
    simp [rput_fu, rput_0, runS, runR, Rs.seq, Rs.block, sv_args, runOps, wanted_no, wanted_sv, ev_tm, ev_vl, sv_setD, sv_set, setD_none, qev_mov, qev_bin, qev_un, qev_lenI, qev_lenS, qev_pick, qev_load1, qev_idxSl, idx2_sl, idxA2_ptr, opt_some, bin_add, bin_sub, bin_mul, bin_lss, bin_leq, bin_gtr, bin_geq, bin_eql, bin_neq, un_not, un_neg, qev_callv, qev_new1, qev_store1, qev_nilC, nilC_ptr, qev_fld, fld0, fldN, qev_extract, nth0, nth1, nth2, qev_eqPtr, sameP_nil, notIf, bx]
  obtain ⟨env2, acts, lds, e2, z, z1⟩ : ∃ env' acts lds, runE Tryd.prog R 0 rput_1 ⟨[], [], [], h1.next, env1, h1⟩ = some ⟨acts, lds, [], h1.next, env', h5⟩ ∧ sv env' 3 = v5 ∧ sv env' 1 = .ptr h.next 0 0 := by
    simp [rput_1, runE, stepE, stepD, kindOf, lookBack, lookAgain, actO, insT, putT, remAl, bit, runOps, wanted_no, wanted_sv, ev_tm, ev_vl, sv_setD, sv_set, setD_none, qev_mov, qev_bin, qev_un, qev_lenI, qev_lenS, qev_pick, qev_load1, qev_idxSl, idx2_sl, idxA2_ptr, opt_some, bin_add, bin_sub, bin_mul, bin_lss, bin_leq, bin_gtr, bin_geq, bin_eql, bin_neq, un_not, un_neg, qev_callv, qev_new1, qev_store1, qev_nilC, nilC_ptr, qev_fld, fld0, fldN, qev_extract, nth0, nth1, nth2, qev_eqPtr, sameP_nil, notIf, T.get_set, s1, lN, lN', l0, eqAV_int8, eN, qev_conv, wrapU, gm, callA_ok ok_rnumber, callA_ok ok_rputn, b1, b2, R1, R2, p1, hz, show ∀ a b, Nat.div a b = a / b from fun _ _ => rfl, show ∀ a b, Nat.mod a b = a % b from fun _ _ => rfl, show Nat.beq 0 1 = false from rfl, show Nat.beq 1 1 = true from rfl]
  have d2 := runDrawn_ofE (P := Tryd.prog) (rec := R) (l := rput_1) (env := env1) (h := h1) (rid := h1.next) (acts := acts) (lds := lds) (by rw [show skipIds rput_1 h1.next = h1.next from by simp [rput_1, skipIds, isAlloc, kindOf]]; exact e2)
  obtain ⟨env3, e3, z3⟩ : ∃ env', runS Tryd.prog true (.seq (.region rput_2) .ret) [⟨37, [u64v i], h5, v6, h6⟩] env2 h5 = some (.ret, [], env', h7) ∧ sv env' 2 = v7 := by
    simp [rput_2, runS, runR, Rs.seq, Rs.block, runOps, wanted_no, wanted_sv, ev_tm, ev_vl, sv_setD, sv_set, setD_none, qev_mov, qev_bin, qev_un, qev_lenI, qev_lenS, qev_pick, qev_load1, qev_idxSl, idx2_sl, idxA2_ptr, opt_some, bin_add, bin_sub, bin_mul, bin_lss, bin_leq, bin_gtr, bin_geq, bin_eql, bin_neq, un_not, un_neg, qev_callv, qev_new1, qev_store1, qev_nilC, nilC_ptr, qev_fld, fld0, fldN, qev_extract, nth0, nth1, nth2, qev_eqPtr, sameP_nil, notIf, z, z1, l4, qev_conv, wrapU, im, callA_ok ok_rnumber, t1]
  refine ⟨v7, h7, AmFn.dos rput_code (by simp) (Dos.run (M := []) [] (by simp) e1 (DosL.more (M := []) (M1 := []) (Dos.drawn hS d2) (.ret (Dos.runRet _ (fun x hx => by simp at hx; subst hx; exact .fn k6) e3)))) (vs := [sv env3 2]) rfl z3, ?_, ?_⟩
  · have e : (numB g ++ pnameB r s n) ++ numB i = pstampB g r s n i := by simp [pstampB]
    rw [e] at t2
    exact t2.weak (by omega)
  · have oa := ((o1.trans o2).trans o4).mono (S' := S ++ S7) (by simp)
    have ob := p3.mono (S' := S ++ S7) (fun id q => .inl (by simp [q]))
    have oc := (o6.mono (S' := S ++ S7) (by simp)).trans (t3.mono fun id q => .inl (by simp [q]))
    exact ((oa.trans ob).trans oc).mono fun id q => .inr (by
      rcases List.mem_append.1 q with q | q
      · have := hSn id q; omega
      · have := (p2.old (t4 id q)).1; omega)
end Go.Proofs.YtjhgembcdndmkaaDoor.St

namespace Go.Proofs.YtjhgembcdndmkaaDoor.St
open Go Go.Proofs.YtjhgembcdndmkaaDoor.Am Go.Proofs

theorem dots2 (x y : List UInt8) : dots [x, y] = (x ++ [46]) ++ y := by unfold dots; simp [Lib.join, List.intercalate]
theorem dots3 (x y z : List UInt8) : dots [x, y, z] = (((x ++ [46]) ++ y) ++ [46]) ++ z := by unfold dots; simp [Lib.join, List.intercalate]

theorem bin_add46 (kd : EK) (no : Bool) (a : List UInt8) (h : a.length ≤ 900000) : binA .add kd no (strOf a) (.str 1 46) = some (strOf (a ++ [46])) := by
  rw [show AV.str 1 46 = strOf [46] from rfl]
  exact bin_addS kd no a [46] (by simp; omega)

theorem textbB_length_le {r : Nat} {s : List UInt8} (hr : r < 18446744073709551616) : (textbB r s).length ≤ s.length + 21 := by
  have := itoa_length_le r hr
  rw [textbB, dots_length_le]; omega
theorem textnB_length_le {r : Nat} {s : List UInt8} {n : Nat} (hr : r < 18446744073709551616) (hn : n < 18446744073709551616) : (textnB r s n).length ≤ s.length + 42 := by
  have := itoa_length_le n hn
  have := textbB_length_le (r := r) (s := s) hr
  rw [textnB, dots_length_le]; omega

section
variable {t0 : Nat}

theorem rdigits_fn {h : Hp} (t : HasTab t0 h) (n : Int) (h0 : -9223372036854775808 ≤ n) (h1 : n ≤ 9223372036854775807) : AmFn Tryd.prog 38 [int64 n] h (strOf (Lib.itoa n)) h := by
  have k := fmt_kit t n h0 h1
  obtain ⟨env1, e1, z⟩ : ∃ env', runS Tryd.prog true rdigits_fu.body [⟨48, [int64 n, int64 10], h, strOf (Lib.itoa n), h⟩] (setArgs .e 0 [int64 n]) h = some (.ret, [], env', h) ∧ sv env' 2 = strOf (Lib.itoa n) := by
    simp [rdigits_fu, rdigits_0, rdigits_1, runS, runR, Rs.seq, Rs.block, sv_args, runOps, wanted_no, wanted_sv, ev_tm, ev_vl, sv_setD, sv_set, setD_none, qev_mov, qev_bin, qev_un, qev_lenI, qev_lenS, qev_pick, qev_load1, qev_idxSl, idx2_sl, idxA2_ptr, opt_some, bin_add, bin_sub, bin_mul, bin_lss, bin_leq, bin_gtr, bin_geq, bin_eql, bin_neq, un_not, un_neg, qev_callv, qev_new1, qev_store1, qev_nilC, nilC_ptr, qev_fld, fld0, fldN, qev_extract, nth0, nth1, nth2, qev_eqPtr, sameP_nil, notIf, callA_ok ok_fmt]
  exact AmFn.dos rdigits_code (by simp) (Dos.runRet _ (fun x hx => by simp at hx; subst hx; exact .kit k rfl) e1) (vs := [sv env1 2]) rfl z

theorem rtextb_fn {h : Hp} (t : HasTab t0 h) (r : Nat) (s : List UInt8) (hr : r < 9223372036854775808) (hs : s.length ≤ 9000) : ∃ h', AmFn Tryd.prog 25 [.agg [int64 r, strOf s]] h (strOf (textbB r s)) h' ∧ Only [] h h' := by
  obtain ⟨h1, bx, A, o1, n1⟩ := boxed Tryd.prog [int64 r, strOf s] h
  have k2 := rdigits_fn (t.more o1) (r : Int) (by omega) (by omega)
  have il := itoa_length_le r (by omega)
  have l0 := A.one (i := 0) (by simp)
  have l1 := A.one (i := 1) (by simp)
  simp only [List.getElem_cons_zero, List.getElem_cons_succ] at l0 l1
  obtain ⟨R, hS, hR', hbg⟩ := rec_of (P := Tryd.prog) [⟨38, [int64 r], h1, strOf (Lib.itoa r), h1⟩] (by
    intro a ha
    simp only [List.mem_cons, List.not_mem_nil, or_false] at ha
    subst ha
    exact k2) (by simp)
  have R1 := hR' _ (List.mem_cons_self ..)
  have b1 := hbg _ (List.mem_cons_self ..)
  simp only at R1 b1
  have c1 := fun kd no => bin_add46 kd no (Lib.itoa r) (by omega)
  have c2 := fun kd no => bin_addS kd no (Lib.itoa r ++ [46]) s (by simp; omega)
  obtain ⟨env1, e1, s1⟩ : ∃ env', runS Tryd.prog false rtextb_fu.body [] (setArgs .e 0 [.agg [int64 r, strOf s]]) h = some (.upt [.code (.drawn rtextb_1), .code .ret], [], env', h1) ∧ sv env' 1 = .ptr h.next 0 0 := by
    simp [rtextb_fu, rtextb_0, runS, runR, Rs.seq, Rs.block, sv_args, runOps, wanted_no, wanted_sv, ev_tm, ev_vl, sv_setD, sv_set, setD_none, qev_mov, qev_bin, qev_un, qev_lenI, qev_lenS, qev_pick, qev_load1, qev_idxSl, idx2_sl, idxA2_ptr, opt_some, bin_add, bin_sub, bin_mul, bin_lss, bin_leq, bin_gtr, bin_geq, bin_eql, bin_neq, un_not, un_neg, qev_callv, qev_new1, qev_store1, qev_nilC, nilC_ptr, qev_fld, fld0, fldN, qev_extract, nth0, nth1, nth2, qev_eqPtr, sameP_nil, notIf, bx]
  obtain ⟨env2, acts, lds, e2, z⟩ : ∃ env' acts lds, runE Tryd.prog R 0 rtextb_1 ⟨[], [], [], h1.next, env1, h1⟩ = some ⟨acts, lds, [], h1.next, env', h1⟩ ∧ sv env' 2 = strOf (textbB r s) := by
    rw [textbB, dots2]
    simp [rtextb_1, runE, stepE, stepD, kindOf, lookBack, lookAgain, actO, insT, putT, remAl, bit, runOps, wanted_no, wanted_sv, ev_tm, ev_vl, sv_setD, sv_set, setD_none, qev_mov, qev_bin, qev_un, qev_lenI, qev_lenS, qev_pick, qev_load1, qev_idxSl, idx2_sl, idxA2_ptr, opt_some, bin_add, bin_sub, bin_mul, bin_lss, bin_leq, bin_gtr, bin_geq, bin_eql, bin_neq, un_not, un_neg, qev_callv, qev_new1, qev_store1, qev_nilC, nilC_ptr, qev_fld, fld0, fldN, qev_extract, nth0, nth1, nth2, qev_eqPtr, sameP_nil, notIf, T.get_set, s1, l0, l1, eqAV_str, callA_ok ok_rdigits, b1, R1, c1, c2, hz]
  have d2 := runDrawn_ofE (P := Tryd.prog) (rec := R) (l := rtextb_1) (env := env1) (h := h1) (rid := h1.next) (acts := acts) (lds := lds) (by rw [show skipIds rtextb_1 h1.next = h1.next from by simp [rtextb_1, skipIds, isAlloc, kindOf]]; exact e2)
  exact ⟨h1, AmFn.dos rtextb_code (by simp) (Dos.run (M := []) [] (by simp) e1 (DosL.more (M := []) (M1 := []) (Dos.drawn hS d2) (.ret (Dos.runRet [] (by simp) (show runS Tryd.prog true .ret [] env2 h1 = some (.ret, [], env2, h1) from rfl))))) (vs := [sv env2 2]) rfl z, o1⟩

theorem rtextn_fn {h : Hp} (t : HasTab t0 h) (r : Nat) (s : List UInt8) (n : Nat) (hr : r < 9223372036854775808) (hs : s.length ≤ 9000) (hn : n < 9223372036854775808) : ∃ h', AmFn Tryd.prog 23 [.agg [int64 r, strOf s, int64 n]] h (strOf (textnB r s n)) h' ∧ Only [] h h' ∧ h.next.num < h'.next.num := by
  obtain ⟨h1, bx, A, o1, n1⟩ := boxed Tryd.prog [int64 r, strOf s, int64 n] h
  obtain ⟨h2, k2, o2⟩ := rtextb_fn (t.more o1) r s hr hs
  have A2 := A.only o2 (by simp)
  have k3 := rdigits_fn (t.more (o1.trans o2)) (n : Int) (by omega) (by omega)
  have il := itoa_length_le n (by omega)
  have tl := textbB_length_le (r := r) (s := s) (by omega)
  have lB := A.part2 Tryd.prog (i := 0) (n := 2) (by simp)
  have l2 := A.one (i := 2) (by simp)
  have l2' := A2.one (i := 2) (by simp)
  simp only [List.getElem_cons_zero, List.getElem_cons_succ, List.drop_zero, List.take_succ_cons, List.take_zero] at lB l2 l2'
  obtain ⟨R, hS, hR', hbg⟩ := rec_of (P := Tryd.prog) [⟨25, [.agg [int64 r, strOf s]], h1, strOf (textbB r s), h2⟩, ⟨38, [int64 n], h2, strOf (Lib.itoa n), h2⟩] (by
    intro a ha
    simp only [List.mem_cons, List.not_mem_nil, or_false] at ha
    exact ha.elim (fun e => by subst e; exact k2) (fun e => by subst e; exact k3)) (by simp)
  have R1 := hR' _ (List.mem_cons_self ..)
  have R2 := hR' _ (List.mem_cons_of_mem _ (List.mem_cons_self ..))
  have b1 := hbg _ (List.mem_cons_self ..)
  have b2 := hbg _ (List.mem_cons_of_mem _ (List.mem_cons_self ..))
  simp only at R1 R2 b1 b2
  have c1 := fun kd no => bin_add46 kd no (textbB r s) (by omega)
  have c2 := fun kd no => bin_addS kd no (textbB r s ++ [46]) (Lib.itoa n) (by simp; omega)
  obtain ⟨env1, e1, s1⟩ : ∃ env', runS Tryd.prog false rtextn_fu.body [] (setArgs .e 0 [.agg [int64 r, strOf s, int64 n]]) h = some (.upt [.code (.drawn rtextn_1), .code .ret], [], env', h1) ∧ sv env' 1 = .ptr h.next 0 0 := by
    simp [rtextn_fu, rtextn_0, runS, runR, Rs.seq, Rs.block, sv_args, runOps, wanted_no, wanted_sv, ev_tm, ev_vl, sv_setD, sv_set, setD_none, qev_mov, qev_bin, qev_un, qev_lenI, qev_lenS, qev_pick, qev_load1, qev_idxSl, idx2_sl, idxA2_ptr, opt_some, bin_add, bin_sub, bin_mul, bin_lss, bin_leq, bin_gtr, bin_geq, bin_eql, bin_neq, un_not, un_neg, qev_callv, qev_new1, qev_store1, qev_nilC, nilC_ptr, qev_fld, fld0, fldN, qev_extract, nth0, nth1, nth2, qev_eqPtr, sameP_nil, notIf, bx]
  obtain ⟨env2, acts, lds, e2, z⟩ : ∃ env' acts lds, runE Tryd.prog R 0 rtextn_1 ⟨[], [], [], h1.next, env1, h1⟩ = some ⟨acts, lds, [], h1.next, env', h2⟩ ∧ sv env' 2 = strOf (textnB r s n) := by
    rw [textnB, dots2]
    simp [rtextn_1, runE, stepE, stepD, kindOf, lookBack, lookAgain, actO, insT, putT, remAl, bit, runOps, wanted_no, wanted_sv, ev_tm, ev_vl, sv_setD, sv_set, setD_none, qev_mov, qev_bin, qev_un, qev_lenI, qev_lenS, qev_pick, qev_load1, qev_idxSl, idx2_sl, idxA2_ptr, opt_some, bin_add, bin_sub, bin_mul, bin_lss, bin_leq, bin_gtr, bin_geq, bin_eql, bin_neq, un_not, un_neg, qev_callv, qev_new1, qev_store1, qev_nilC, nilC_ptr, qev_fld, fld0, fldN, qev_extract, nth0, nth1, nth2, qev_eqPtr, sameP_nil, notIf, T.get_set, s1, lB, l2, l2', eqAV_int8, callA_ok ok_rtextb, callA_ok ok_rdigits, b1, b2, R1, R2, c1, c2, hz, show ∀ a b, Nat.div a b = a / b from fun _ _ => rfl, show ∀ a b, Nat.mod a b = a % b from fun _ _ => rfl, show Nat.beq 0 1 = false from rfl, show Nat.beq 1 1 = true from rfl]
  have d2 := runDrawn_ofE (P := Tryd.prog) (rec := R) (l := rtextn_1) (env := env1) (h := h1) (rid := h1.next) (acts := acts) (lds := lds) (by rw [show skipIds rtextn_1 h1.next = h1.next from by simp [rtextn_1, skipIds, isAlloc, kindOf]]; exact e2)
  exact ⟨h2, AmFn.dos rtextn_code (by simp) (Dos.run (M := []) [] (by simp) e1 (DosL.more (M := []) (M1 := []) (Dos.drawn hS d2) (.ret (Dos.runRet [] (by simp) (show runS Tryd.prog true .ret [] env2 h2 = some (.ret, [], env2, h2) from rfl))))) (vs := [sv env2 2]) rfl z, o1.trans o2, by have := o2.next; omega⟩

theorem rtext_fn {h : Hp} (t : HasTab t0 h) (g r : Nat) (s : List UInt8) (n i : Nat) (hg : g < 9223372036854775808) (hr : r < 9223372036854775808) (hs : s.length ≤ 9000) (hn : n < 9223372036854775808) (hi : i < 9223372036854775808) : ∃ h', AmFn Tryd.prog 19 [.agg [int64 g, int64 r, strOf s, int64 n, int64 i]] h (strOf (textB g r s n i)) h' ∧ Only [] h h' := by
  obtain ⟨h1, bx, A, o1, n1⟩ := boxed Tryd.prog [int64 g, int64 r, strOf s, int64 n, int64 i] h
  have k2 := rdigits_fn (t.more o1) (g : Int) (by omega) (by omega)
  obtain ⟨h2, k3, o2, t2⟩ := rtextn_fn (t.more o1) r s n hr hs hn
  have A2 := A.only o2 (by simp)
  have k4 := rdigits_fn (t.more (o1.trans o2)) (i : Int) (by omega) (by omega)
  have il := itoa_length_le g (by omega)
  have il2 := itoa_length_le i (by omega)
  have tl := textnB_length_le (r := r) (s := s) (n := n) (by omega) (by omega)
  have lN := A.part2 Tryd.prog (i := 1) (n := 3) (by simp)
  have l0 := A.one (i := 0) (by simp)
  have l4 := A.one (i := 4) (by simp)
  have l4' := A2.one (i := 4) (by simp)
  simp only [List.getElem_cons_zero, List.getElem_cons_succ, List.drop_succ_cons, List.drop_zero, List.take_succ_cons, List.take_zero] at lN l0 l4 l4'
  have eN : eqAV 8 (.agg [int64 r, strOf s, int64 n]) (.agg [int64 r, strOf s, int64 n]) = true := eqAV_agg 7 (fun x hx => by
    simp only [List.mem_cons, List.not_mem_nil, or_false] at hx
    rcases hx with e | e | e <;> subst e
    · exact eqAV_int 6 _ _
    · show (Nat.beq s.length s.length && Nat.beq (pack s) (pack s)) = true; simp
    · exact eqAV_int 6 _ _)
  obtain ⟨R, hS, hR', hbg⟩ := rec_of (P := Tryd.prog) [⟨38, [int64 g], h1, strOf (Lib.itoa g), h1⟩, ⟨23, [.agg [int64 r, strOf s, int64 n]], h1, strOf (textnB r s n), h2⟩, ⟨38, [int64 i], h2, strOf (Lib.itoa i), h2⟩] (by
    intro a ha
    simp only [List.mem_cons, List.not_mem_nil, or_false] at ha
    rcases ha with e | e | e <;> subst e
    · exact k2
    · exact k3
    · exact k4) (by
    have : h1.next ≠ h2.next := fun c => by rw [c] at t2; omega
    simp [this])
  have R1 := hR' _ (List.mem_cons_self ..)
  have R2 := hR' _ (List.mem_cons_of_mem _ (List.mem_cons_self ..))
  have R3 := hR' _ (List.mem_cons_of_mem _ (List.mem_cons_of_mem _ (List.mem_cons_self ..)))
  have b1 := hbg _ (List.mem_cons_self ..)
  have b2 := hbg _ (List.mem_cons_of_mem _ (List.mem_cons_self ..))
  have b3 := hbg _ (List.mem_cons_of_mem _ (List.mem_cons_of_mem _ (List.mem_cons_self ..)))
  simp only at R1 R2 R3 b1 b2 b3
  have c1 := fun kd no => bin_add46 kd no (Lib.itoa g) (by omega)
  have c2 := fun kd no => bin_addS kd no (Lib.itoa g ++ [46]) (textnB r s n) (by simp; omega)
  have c3 := fun kd no => bin_add46 kd no ((Lib.itoa g ++ [46]) ++ textnB r s n) (by simp; omega)
  have c4 := fun kd no => bin_addS kd no (((Lib.itoa g ++ [46]) ++ textnB r s n) ++ [46]) (Lib.itoa i) (by simp; omega)
  have eT : textB g r s n i = (((Lib.itoa g ++ [46]) ++ textnB r s n) ++ [46]) ++ Lib.itoa i := by rw [textB, dots3]
  rw [eT]
  generalize (((Lib.itoa g ++ [46]) ++ textnB r s n) ++ [46]) ++ Lib.itoa i = x4 at *
  generalize ((Lib.itoa g ++ [46]) ++ textnB r s n) ++ [46] = x3 at *
  generalize (Lib.itoa g ++ [46]) ++ textnB r s n = x2 at *
  generalize Lib.itoa g ++ [46] = x1 at *
  obtain ⟨env1, e1, s1⟩ : ∃ env', runS Tryd.prog false rtext_fu.body [] (setArgs .e 0 [.agg [int64 g, int64 r, strOf s, int64 n, int64 i]]) h = some (.upt [.code (.drawn rtext_1), .code .ret], [], env', h1) ∧ sv env' 1 = .ptr h.next 0 0 := by
    simp [rtext_fu, rtext_0, runS, runR, Rs.seq, Rs.block, sv_args, runOps, wanted_no, wanted_sv, ev_tm, ev_vl, sv_setD, sv_set, setD_none, qev_mov, qev_bin, qev_un, qev_lenI, qev_lenS, qev_pick, qev_load1, qev_idxSl, idx2_sl, idxA2_ptr, opt_some, bin_add, bin_sub, bin_mul, bin_lss, bin_leq, bin_gtr, bin_geq, bin_eql, bin_neq, un_not, un_neg, qev_callv, qev_new1, qev_store1, qev_nilC, nilC_ptr, qev_fld, fld0, fldN, qev_extract, nth0, nth1, nth2, qev_eqPtr, sameP_nil, notIf, bx]
  obtain ⟨env2, acts, lds, e2, z⟩ : ∃ env' acts lds, runE Tryd.prog R 0 rtext_1 ⟨[], [], [], h1.next, env1, h1⟩ = some ⟨acts, lds, [], h1.next, env', h2⟩ ∧ sv env' 2 = strOf x4 := by
    simp [rtext_1, runE, stepE, stepD, kindOf, lookBack, lookAgain, actO, insT, putT, remAl, bit, runOps, wanted_no, wanted_sv, ev_tm, ev_vl, sv_setD, sv_set, setD_none, qev_mov, qev_bin, qev_un, qev_lenI, qev_lenS, qev_pick, qev_load1, qev_idxSl, idx2_sl, idxA2_ptr, opt_some, bin_add, bin_sub, bin_mul, bin_lss, bin_leq, bin_gtr, bin_geq, bin_eql, bin_neq, un_not, un_neg, qev_callv, qev_new1, qev_store1, qev_nilC, nilC_ptr, qev_fld, fld0, fldN, qev_extract, nth0, nth1, nth2, qev_eqPtr, sameP_nil, notIf, T.get_set, s1, lN, l0, l4, l4', eqAV_int8, eN, callA_ok ok_rtextn, callA_ok ok_rdigits, b1, b2, b3, R1, R2, R3, c1, c2, c3, c4, hz, show ∀ a b, Nat.div a b = a / b from fun _ _ => rfl, show ∀ a b, Nat.mod a b = a % b from fun _ _ => rfl, show Nat.beq 0 1 = false from rfl, show Nat.beq 1 1 = true from rfl]
  have d2 := runDrawn_ofE (P := Tryd.prog) (rec := R) (l := rtext_1) (env := env1) (h := h1) (rid := h1.next) (acts := acts) (lds := lds) (by rw [show skipIds rtext_1 h1.next = h1.next from by simp [rtext_1, skipIds, isAlloc, kindOf]]; exact e2)
  exact ⟨h2, AmFn.dos rtext_code (by simp) (Dos.run (M := []) [] (by simp) e1 (DosL.more (M := []) (M1 := []) (Dos.drawn hS d2) (.ret (Dos.runRet [] (by simp) (show runS Tryd.prog true .ret [] env2 h2 = some (.ret, [], env2, h2) from rfl))))) (vs := [sv env2 2]) rfl z, o1.trans o2⟩
end
end Go.Proofs.YtjhgembcdndmkaaDoor.St

namespace Go.Proofs.YtjhgembcdndmkaaDoor.St
open Go Go.Proofs.YtjhgembcdndmkaaDoor.Am Go.Proofs

theorem reight_loop {N n : Nat} (hn : n < 9223372036854775808) : ∀ (m k : Nat) (env : T AV) (h : Hp) (v : AV), k + m = 8 → sv env 0 = int64 n → sv env 3 = v → sv env 4 = int64 (56 - 8 * (k : Int)) → Byts N h v ((eightB n).take k) → N ≤ h.next.num →
    ∃ env' h' v', Loops Tryd.prog 39 reight_6 env h (.exit 0) [] env' h' ∧ sv env' 3 = v' ∧ Byts N h' v' (eightB n) ∧ N ≤ h'.next.num ∧ ∃ S, Only S h h' ∧ ∀ id ∈ S, N ≤ id.num := by
  intro m
  induction m with
  | zero =>
    intro k env h v hk s0 s3 s4 o hN
    have : k = 8 := by omega
    subst this
    have s4 : sv env 4 = int64 (-8) := s4
    obtain ⟨env1, e1, f3⟩ : ∃ env', runS Tryd.prog true reight_6 [] env h = some (.exit 0, [], env', h) ∧ sv env' 3 = v := by
      unfold reight_6
      simp [reight_3, runS, runR, Rs.seq, Rs.block, runOps, wanted_no, wanted_sv, ev_tm, ev_vl, sv_setD, sv_set, setD_none, qev_mov, qev_bin, qev_un, qev_lenI, qev_lenS, qev_pick, qev_load1, qev_idxSl, idx2_sl, idxA2_ptr, opt_some, bin_add, bin_sub, bin_mul, bin_lss, bin_leq, bin_gtr, bin_geq, bin_eql, bin_neq, un_not, un_neg, qev_callv, qev_new1, qev_store1, qev_nilC, nilC_ptr, qev_fld, fld0, fldN, qev_extract, nth0, nth1, nth2, qev_eqPtr, sameP_nil, notIf, s0, s3, s4]
    rw [List.take_of_length_le (by rw [eightB_length]; omega)] at o
    exact ⟨env1, h, v, .out (Dos.runExit [] (by simp) e1) (by simp), f3, o, hN, [], .refl _ _, by simp⟩
  | succ m ih =>
    intro k env h v hk s0 s3 s4 o hN
    have hk8 : k < 8 := by omega
    obtain ⟨sh, hsh⟩ : ∃ sh : Nat, sh = 56 - 8 * k := ⟨_, rfl⟩
    have s4 : sv env 4 = int64 (sh : Int) := by rw [s4]; congr 1; omega
    have h0 : (0 : Int) ≤ (sh : Int) := by omega
    have w1 : wrapA .u64 (sh : Int) = (sh : Int) := wrapU64 (by omega) (by omega)
    obtain ⟨z, hz⟩ : ∃ z : Int, z = 56 - 8 * ((k + 1 : Nat) : Int) := ⟨_, rfl⟩
    have w2 : wrapA .i64 ((sh : Int) - 8) = z := by rw [wrap64 (by omega) (by omega)]; omega
    obtain ⟨q, hq⟩ : ∃ q : Nat, q = n / 2 ^ sh := ⟨_, rfl⟩
    have sp : ∀ kd no, binA .shr kd no (int64 n) (.int .u64 (sh : Int)) = some (int64 q) := fun kd no => by rw [hq]; exact bin_shrN (k := .i64) (k' := .u64) n sh (by show sh ≤ 64; omega)
    obtain ⟨h1, b1, r1, o1, n1⟩ := oneB Tryd.prog h (UInt8.ofNat q) (.int .u8 0)
    have hb : (UInt8.ofNat q).toNat = q % 256 := by simp
    rw [hb] at b1
    have b1 : ∀ env x, ev env x = .int .u8 ((q : Int) % 256) → evalOp Tryd.prog (.buildSl 1 1 [.int .u8 0] [(0, 1, x)]) env h = .val (.sl h.next 0 0 1 1 true 1) h1 := fun env x hx => b1 env x (by rw [hx]; rfl)
    have hlen := eightB_length n
    have htk : ((eightB n).take k).length ≤ 8 := by rw [List.length_take]; omega
    obtain ⟨v2, h2, S, p1, p2, p3, p4⟩ := (o.more o1).push Tryd.prog (bytes := 0) r1 (by simp; omega) (by omega) (by omega)
    have e2 : (eightB n).take k ++ [UInt8.ofNat q] = (eightB n).take (k + 1) := by
      rw [List.take_succ_eq_append_getElem (by omega)]
      congr 2
      simp [eightB, hq, hsh]
    rw [e2] at p2
    obtain ⟨env1, e1, f0, f3, f4⟩ : ∃ env', runS Tryd.prog true reight_6 [] env h = some (.upt [], [], env', h2) ∧ sv env' 0 = int64 n ∧ sv env' 3 = v2 ∧ sv env' 4 = int64 z := by
      unfold reight_6
      simp [reight_3, reight_4, reight_5, runS, runR, Rs.seq, Rs.block, runOps, wanted_no, wanted_sv, ev_tm, ev_vl, sv_setD, sv_set, setD_none, qev_mov, qev_bin, qev_un, qev_lenI, qev_lenS, qev_pick, qev_load1, qev_idxSl, idx2_sl, idxA2_ptr, opt_some, bin_add, bin_sub, bin_mul, bin_lss, bin_leq, bin_gtr, bin_geq, bin_eql, bin_neq, un_not, un_neg, qev_callv, qev_new1, qev_store1, qev_nilC, nilC_ptr, qev_fld, fld0, fldN, qev_extract, nth0, nth1, nth2, qev_eqPtr, sameP_nil, notIf, s0, s3, s4, h0, qev_conv, w1, w2, sp, wrap8, b1, p1]
    rw [hz] at f4
    obtain ⟨env', h', v', L, q3, oo, hN', S2, o2, hS2⟩ := ih (k + 1) env1 h2 v2 (by omega) f0 f3 f4 p2 (by have := o1.next; have := p3.next; omega)
    refine ⟨env', h', v', .more (M := []) (M1 := []) (Dos.runGo [] (by simp) e1) L, q3, oo, hN', S ++ S2, ?_, fun id hid => ?_⟩
    · exact ((o1.mono (S' := S ++ S2) (by simp)).trans (p3.mono fun id q => .inl (by simp [q]))).trans (o2.mono fun id q => .inl (by simp [q]))
    · rcases List.mem_append.1 hid with q | q
      · exact (o.old (p4 id q)).1
      · exact hS2 id q

theorem reight_fn (n : Nat) (hn : n < 9223372036854775808) (h : Hp) : ∃ v h', AmFn Tryd.prog 39 [int64 n] h v h' ∧ Byts h.next.num h' v (eightB n) ∧ Only [] h h' := by
  obtain ⟨env1, e1, f0, f3, f4⟩ : ∃ env', runS Tryd.prog true reight_fu.body [] (setArgs .e 0 [int64 n]) h = some (.upt [.code (.loop reight_6), .inBlock 0, .code (.seq (.region reight_7) .ret)], [], env', h) ∧ sv env' 0 = int64 n ∧ sv env' 3 = .nilSl ∧ sv env' 4 = int64 (56 - 8 * ((0 : Nat) : Int)) := by
    simp [reight_fu, reight_0, reight_1, reight_2, runS, runR, Rs.seq, Rs.block, sv_args, runOps, wanted_no, wanted_sv, ev_tm, ev_vl, sv_setD, sv_set, setD_none, qev_mov, qev_bin, qev_un, qev_lenI, qev_lenS, qev_pick, qev_load1, qev_idxSl, idx2_sl, idxA2_ptr, opt_some, bin_add, bin_sub, bin_mul, bin_lss, bin_leq, bin_gtr, bin_geq, bin_eql, bin_neq, un_not, un_neg, qev_callv, qev_new1, qev_store1, qev_nilC, nilC_ptr, qev_fld, fld0, fldN, qev_extract, nth0, nth1, nth2, qev_eqPtr, sameP_nil, notIf]
  obtain ⟨env2, h2, v2, L, q3, m2, hN, S, o2, hS⟩ := reight_loop hn 8 0 env1 h _ (by omega) f0 f3 f4 (Byts.nil h.next.num h) (Nat.le_refl _)
  obtain ⟨env3, e3, z⟩ : ∃ env', runS Tryd.prog true (.seq (.region reight_7) .ret) [] env2 h2 = some (.ret, [], env', h2) ∧ sv env' 2 = v2 := by
    simp [reight_7, runS, runR, Rs.seq, Rs.block, runOps, wanted_no, wanted_sv, ev_tm, ev_vl, sv_setD, sv_set, setD_none, qev_mov, qev_bin, qev_un, qev_lenI, qev_lenS, qev_pick, qev_load1, qev_idxSl, idx2_sl, idxA2_ptr, opt_some, bin_add, bin_sub, bin_mul, bin_lss, bin_leq, bin_gtr, bin_geq, bin_eql, bin_neq, un_not, un_neg, qev_callv, qev_new1, qev_store1, qev_nilC, nilC_ptr, qev_fld, fld0, fldN, qev_extract, nth0, nth1, nth2, qev_eqPtr, sameP_nil, notIf, q3]
  exact ⟨v2, h2, AmFn.dos reight_code (by simp) (Dos.run (M := []) [] (by simp) e1 (.leave (M := []) (M1 := []) (i := 0) (Dos.loop L) rfl (.ret (Dos.runRet [] (by simp) e3)))) (vs := [sv env3 2]) rfl z, m2, o2.mono fun id q => .inr (hS id q)⟩

theorem rkey_fn (g r : Nat) (s : List UInt8) (n i : Nat) (hg : g < 9223372036854775808) (hr : r < 256) (hs : s.length ≤ 9000) (h0 : s ≠ []) (hn : n < 9223372036854775808) (hi : i < 256) (h : Hp) : ∃ h', AmFn Tryd.prog 20 [.agg [int64 g, int64 r, strOf s, int64 n, int64 i]] h (strOf (keyB g r s n i)) h' ∧ Only [] h h' := by
  obtain ⟨h1, bx, A, o1, n1⟩ := boxed Tryd.prog [int64 g, int64 r, strOf s, int64 n, int64 i] h
  have osk := skipH_only h1
  have nsk := skipH_next h1
  have hsk : skipH h1 = ⟨h1.heap, h1.next.succ, h1.ser, h1.lim⟩ := rfl
  generalize hR : skipH h1 = hr0 at *
  have A2 := A.only osk (by simp)
  obtain ⟨v2, h2, k2, m2, o2⟩ := reight_fn g hg hr0
  have A3 := A2.only o2 (by simp)
  have nx2 := o2.next
  -- the block of one byte
  have r3 := one_lay (h := h2) (id := h1.next) (by omega) r hr
  have o3 := layH_only h2 h1.next (.cells 0 (Cells.ofL [.int .u8 (r : Int)]) 0 0 0 0 false false)
  have e3 := lay_eq h2 h1.next (.cells 0 (Cells.ofL [.int .u8 (r : Int)]) 0 0 0 0 false false)
  have n3 : (layH h2 h1.next (.cells 0 (Cells.ofL [.int .u8 (r : Int)]) 0 0 0 0 false false)).next.num = h2.next.num := rfl
  generalize hh3 : layH h2 h1.next (.cells 0 (Cells.ofL [.int .u8 (r : Int)]) 0 0 0 0 false false) = h3 at *
  have m3 := m2.only o3 (fun j q c => by simp at c; subst c; have := m2.old q; omega)
  have A4 := A3.only o3 (by simp; intro c; have := congrArg Pos.num c; omega)
  have hl8 := eightB_length g
  have hl8' := eightB_length n
  obtain ⟨v4, h4, S4, p1, p2, p3, p4⟩ := m3.push Tryd.prog (bytes := 0) r3 (by simp; omega) (by omega) (by omega)
  have hS4 : ∀ id ∈ S4, hr0.next.num ≤ id.num := fun id q => (m3.old (p4 id q)).1
  have nx4 := p3.next
  have A5 := A4.only p3 (fun c => by have := hS4 _ c; omega)
  obtain ⟨v5, h5, S5, q1, q2, q3, q4⟩ := p2.pushS Tryd.prog (b := s) (bytes := 0) (by simp) h0 (by simp; omega) (by omega)
  have hS5 : ∀ id ∈ S5, hr0.next.num ≤ id.num := fun id q => (p2.old (q4 id q)).1
  have nx5 := q3.next
  have A6 := A5.only q3 (fun c => by have := hS5 _ c; omega)
  obtain ⟨h6, b6, r6, o6, n6⟩ := oneB Tryd.prog h5 (UInt8.ofNat 0) (.int .u8 0)
  have b6 : ∀ env, evalOp Tryd.prog (.buildSl 1 1 [.int .u8 0] [(0, 1, (vl (.int .u8 0)))]) env h5 = .val (.sl h5.next 0 0 1 1 true 1) h6 := fun env => b6 env (vl (.int .u8 0)) rfl
  have nx6 := o6.next
  obtain ⟨v7, h7, S7, t1, t2, t3, t4⟩ := (q2.more o6).push Tryd.prog (bytes := 0) r6 (by simp; omega) (by omega) (by omega)
  have hS7 : ∀ id ∈ S7, hr0.next.num ≤ id.num := fun id q => (q2.old (t4 id q)).1
  have nx7 := t3.next
  have A7 := (A6.only o6 (by simp)).only t3 (fun c => by have := hS7 _ c; omega)
  obtain ⟨v8, h8, k8, m8, o8⟩ := reight_fn n hn h7
  have nx8 := o8.next
  have A8 := A7.only o8 (by simp)
  obtain ⟨v9, h9, S9, u1, u2, u3, u4⟩ := (t2.more o8).push Tryd.prog (bytes := 0) m8.sl (by simp; omega) (by omega) (by omega)
  have hS9 : ∀ id ∈ S9, hr0.next.num ≤ id.num := fun id q => (t2.old (u4 id q)).1
  have nx9 := u3.next
  have A9 := A8.only u3 (fun c => by have := hS9 _ c; omega)
  obtain ⟨h10, b10, r10, o10, n10⟩ := oneB Tryd.prog h9 (UInt8.ofNat i) (.int .u8 0)
  rw [toNat8 hi] at b10
  have nx10 := o10.next
  obtain ⟨v11, h11, S11, x1, x2, x3, x4⟩ := (u2.more o10).push Tryd.prog (bytes := 0) r10 (by simp; omega) (by omega) (by omega)
  have hS11 : ∀ id ∈ S11, hr0.next.num ≤ id.num := fun id q => (u2.old (x4 id q)).1
  have eK : eightB g ++ [UInt8.ofNat r] ++ s ++ [UInt8.ofNat 0] ++ eightB n ++ [UInt8.ofNat i] = keyB g r s n i := by simp [keyB, keyL]
  rw [eK] at x2
  have rS := x2.sl.str (P := Tryd.prog)
  have l0 := A2.one (i := 0) (by simp)
  have l1 := A2.one (i := 1) (by simp)
  have l1' := A3.one (i := 1) (by simp)
  have l2 := A5.one (i := 2) (by simp)
  have l3 := A7.one (i := 3) (by simp)
  have l4 := A9.one (i := 4) (by simp)
  simp only [List.getElem_cons_zero, List.getElem_cons_succ] at l0 l1 l1' l2 l3 l4
  obtain ⟨R, hS, hR', hbg⟩ := rec_of (P := Tryd.prog) [⟨39, [int64 g], hr0, v2, h2⟩] (by
    intro a ha
    simp only [List.mem_cons, List.not_mem_nil, or_false] at ha
    subst ha
    exact k2) (by simp)
  have R1 := hR' _ (List.mem_cons_self ..)
  have b1 := hbg _ (List.mem_cons_self ..)
  simp only at R1 b1
  have rm : (r : Int) % 256 = r := by omega
  have im : (i : Int) % 256 = i := by omega
  have xa : ∀ env ser lim x, ev env x = .int .u8 (r : Int) → evalOp Tryd.prog (.buildSl 1 1 [.int .u8 0] [(0, 1, x)]) env ⟨.e, h1.next, ser, lim⟩ = .val (.sl h1.next 0 0 1 1 true 1) ⟨T.set h1.next (some (.cells 0 (Cells.ofL [.int .u8 (r : Int)]) 0 0 0 0 false false)) .e, h1.next.succ, Nat.succ ser, lim⟩ := fun env ser lim x hx =>
    buildN_resv Tryd.prog (by simp [fillA, replA, hx, AV.cells]; rfl)
  obtain ⟨env1, e1, s1⟩ : ∃ env', runS Tryd.prog false rkey_fu.body [] (setArgs .e 0 [.agg [int64 g, int64 r, strOf s, int64 n, int64 i]]) h = some (.upt [.code (.drawn rkey_1), .code (.seq (.region rkey_2) (.seq (.region rkey_3) (.seq (.region rkey_4) (.seq (.region rkey_5) .ret))))], [], env', h1) ∧ sv env' 1 = .ptr h.next 0 0 := by
    simp [rkey_fu, rkey_0, runS, runR, Rs.seq, Rs.block, sv_args, runOps, wanted_no, wanted_sv, ev_tm, ev_vl, sv_setD, sv_set, setD_none, qev_mov, qev_bin, qev_un, qev_lenI, qev_lenS, qev_pick, qev_load1, qev_idxSl, idx2_sl, idxA2_ptr, opt_some, bin_add, bin_sub, bin_mul, bin_lss, bin_leq, bin_gtr, bin_geq, bin_eql, bin_neq, un_not, un_neg, qev_callv, qev_new1, qev_store1, qev_nilC, nilC_ptr, qev_fld, fld0, fldN, qev_extract, nth0, nth1, nth2, qev_eqPtr, sameP_nil, notIf, bx]
  obtain ⟨env2, acts, lds, e2, z3, z1⟩ : ∃ env' acts lds, runE Tryd.prog R 0 rkey_1 ⟨[], [], [], h1.next, env1, hr0⟩ = some ⟨acts, lds, [], h1.next.succ, env', h4⟩ ∧ sv env' 3 = v4 ∧ sv env' 1 = .ptr h.next 0 0 := by
    simp [rkey_1, runE, stepE, stepD, kindOf, lookBack, lookAgain, actO, insT, putT, remAl, bit, runOps, wanted_no, wanted_sv, ev_tm, ev_vl, sv_setD, sv_set, setD_none, qev_mov, qev_bin, qev_un, qev_lenI, qev_lenS, qev_pick, qev_load1, qev_idxSl, idx2_sl, idxA2_ptr, opt_some, bin_add, bin_sub, bin_mul, bin_lss, bin_leq, bin_gtr, bin_geq, bin_eql, bin_neq, un_not, un_neg, qev_callv, qev_new1, qev_store1, qev_nilC, nilC_ptr, qev_fld, fld0, fldN, qev_extract, nth0, nth1, nth2, qev_eqPtr, sameP_nil, notIf, T.get_set, s1, l0, l1, l1', eqAV_int8, qev_conv, wrap8, rm, callA_ok ok_reight, b1, R1, xa, e3, p1, hz, show ∀ a b, Nat.div a b = a / b from fun _ _ => rfl, show ∀ a b, Nat.mod a b = a % b from fun _ _ => rfl, show Nat.beq 0 1 = false from rfl, show Nat.beq 1 1 = true from rfl, show Nat.testBit 511 8 = true from by decide]
  have d2 := runDrawn_ofE (P := Tryd.prog) (rec := R) (l := rkey_1) (env := env1) (h := h1) (rid := h1.next.succ) (acts := acts) (lds := lds) (by rw [show skipIds rkey_1 h1.next = h1.next.succ from by simp [rkey_1, skipIds, isAlloc, kindOf], ← hsk]; exact e2)
  obtain ⟨env3, e3', z⟩ : ∃ env', runS Tryd.prog true (.seq (.region rkey_2) (.seq (.region rkey_3) (.seq (.region rkey_4) (.seq (.region rkey_5) .ret)))) [⟨39, [int64 n], h7, v8, h8⟩] env2 h4 = some (.ret, [], env', h11) ∧ sv env' 2 = strOf (keyB g r s n i) := by
    simp [rkey_2, rkey_3, rkey_4, rkey_5, runS, runR, Rs.seq, Rs.block, runOps, wanted_no, wanted_sv, ev_tm, ev_vl, sv_setD, sv_set, setD_none, qev_mov, qev_bin, qev_un, qev_lenI, qev_lenS, qev_pick, qev_load1, qev_idxSl, idx2_sl, idxA2_ptr, opt_some, bin_add, bin_sub, bin_mul, bin_lss, bin_leq, bin_gtr, bin_geq, bin_eql, bin_neq, un_not, un_neg, qev_callv, qev_new1, qev_store1, qev_nilC, nilC_ptr, qev_fld, fld0, fldN, qev_extract, nth0, nth1, nth2, qev_eqPtr, sameP_nil, notIf, z3, z1, l2, l3, l4, q1, b6, t1, u1, callA_ok ok_reight, qev_conv, wrap8, im, b10, x1, rS]
  refine ⟨h11, AmFn.dos rkey_code (by simp) (Dos.run (M := []) [] (by simp) e1 (DosL.more (M := []) (M1 := []) (Dos.drawn hS d2) (.ret (Dos.runRet _ (fun x hx => by simp at hx; subst hx; exact .fn k8) e3')))) (vs := [sv env3 2]) rfl z, ?_⟩
  have hx := o1.next
  have oa := ((o1.trans osk).trans o2).mono (S' := h1.next :: (S4 ++ S5 ++ S7 ++ S9 ++ S11)) (by simp)
  have ob := o3.mono (S' := h1.next :: (S4 ++ S5 ++ S7 ++ S9 ++ S11)) (by simp)
  have oc := p3.mono (S' := h1.next :: (S4 ++ S5 ++ S7 ++ S9 ++ S11)) (fun j q => .inl (by simp [q]))
  have od := q3.mono (S' := h1.next :: (S4 ++ S5 ++ S7 ++ S9 ++ S11)) (fun j q => .inl (by simp [q]))
  have oe := o6.mono (S' := h1.next :: (S4 ++ S5 ++ S7 ++ S9 ++ S11)) (by simp)
  have of := t3.mono (S' := h1.next :: (S4 ++ S5 ++ S7 ++ S9 ++ S11)) (fun j q => .inl (by simp [q]))
  have og := o8.mono (S' := h1.next :: (S4 ++ S5 ++ S7 ++ S9 ++ S11)) (by simp)
  have oh := u3.mono (S' := h1.next :: (S4 ++ S5 ++ S7 ++ S9 ++ S11)) (fun j q => .inl (by simp [q]))
  have oi := o10.mono (S' := h1.next :: (S4 ++ S5 ++ S7 ++ S9 ++ S11)) (by simp)
  have oj := x3.mono (S' := h1.next :: (S4 ++ S5 ++ S7 ++ S9 ++ S11)) (fun j q => .inl (by simp [q]))
  exact (((((((((oa.trans ob).trans oc).trans od).trans oe).trans of).trans og).trans oh).trans oi).trans oj).mono fun j q => .inr (by
    rcases List.mem_cons.1 q with q | q
    · subst q; exact hx
    · simp only [List.mem_append] at q
      rcases q with (((q | q) | q) | q) | q
      · have := hS4 j q; omega
      · have := hS5 j q; omega
      · have := hS7 j q; omega
      · have := hS9 j q; omega
      · have := hS11 j q; omega)
end Go.Proofs.YtjhgembcdndmkaaDoor.St

namespace Go.Proofs.YtjhgembcdndmkaaDoor.St
open Go Go.Proofs.YtjhgembcdndmkaaDoor.Am Go.Proofs

theorem new_resv (P : Program) (env : T AV) (id : Pos) (ser lim : Nat) (l : List AV) : evalOp P (.new l) env ⟨.e, id, ser, lim⟩ = .val (.ptr id 0 0) ⟨T.set id (some (.cells 0 (Cells.ofL l) 0 0 0 0 false false)) .e, id.succ, Nat.succ ser, lim⟩ := by
  rw [qev_newL]; rfl

theorem eqAV_two (r : Int) (s : List UInt8) : eqAV 8 (.agg [int64 r, strOf s]) (.agg [int64 r, strOf s]) = true := eqAV_agg 7 (fun x hx => by
  simp only [List.mem_cons, List.not_mem_nil, or_false] at hx
  rcases hx with e | e <;> subst e
  · exact eqAV_int 6 _ _
  · show (Nat.beq s.length s.length && Nat.beq (pack s) (pack s)) = true; simp)
theorem eqAV_three (r : Int) (s : List UInt8) (n : Int) : eqAV 8 (.agg [int64 r, strOf s, int64 n]) (.agg [int64 r, strOf s, int64 n]) = true := eqAV_agg 7 (fun x hx => by
  simp only [List.mem_cons, List.not_mem_nil, or_false] at hx
  rcases hx with e | e | e <;> subst e
  · exact eqAV_int 6 _ _
  · show (Nat.beq s.length s.length && Nat.beq (pack s) (pack s)) = true; simp
  · exact eqAV_int 6 _ _)
theorem eqAV_five (g r : Int) (s : List UInt8) (n i : Int) : eqAV 8 (.agg [int64 g, int64 r, strOf s, int64 n, int64 i]) (.agg [int64 g, int64 r, strOf s, int64 n, int64 i]) = true := eqAV_agg 7 (fun x hx => by
  simp only [List.mem_cons, List.not_mem_nil, or_false] at hx
  rcases hx with e | e | e | e | e <;> subst e
  · exact eqAV_int 6 _ _
  · exact eqAV_int 6 _ _
  · show (Nat.beq s.length s.length && Nat.beq (pack s) (pack s)) = true; simp
  · exact eqAV_int 6 _ _
  · exact eqAV_int 6 _ _)

/-- The law's variables. -/
structure Rws (t0 : Nat) (g r : Int) (s : List UInt8) (n i : Int) (p a b : Pos) (h : Hp) : Prop where
  A : Arr h p [int64 g, int64 r, strOf s, int64 n, int64 i]
  B : Arr h a [int64 r, strOf s, int64 n]
  C : Arr h b [int64 r, strOf s]
  T : HasTab t0 h

theorem Rws.more {t0 : Nat} {g r : Int} {s : List UInt8} {n i : Int} {p a b : Pos} {h h' : Hp} (R : Rws t0 g r s n i p a b h) (o : Only [] h h') : Rws t0 g r s n i p a b h' :=
  ⟨R.A.only o (by simp), R.B.only o (by simp), R.C.only o (by simp), R.T.more o⟩

section
variable {t0 : Nat} {g r : Int} {s : List UInt8} {n i : Int} {p a b : Pos} {h : Hp}
theorem Rws.l5 (R : Rws t0 g r s n i p a b h) : ∀ env x, ev env x = .ptr p 0 0 → evalOp Tryd.prog (.loadN 5 x) env h = .val (.agg [int64 g, int64 r, strOf s, int64 n, int64 i]) h := by
  have w := R.A.part2 Tryd.prog (i := 0) (n := 5) (by simp)
  simpa only [List.drop_zero, List.take_succ_cons, List.take_zero] using w
theorem Rws.l3 (R : Rws t0 g r s n i p a b h) : ∀ env x, ev env x = .ptr a 0 0 → evalOp Tryd.prog (.loadN 3 x) env h = .val (.agg [int64 r, strOf s, int64 n]) h := by
  have w := R.B.part2 Tryd.prog (i := 0) (n := 3) (by simp)
  simpa only [List.drop_zero, List.take_succ_cons, List.take_zero] using w
theorem Rws.l2 (R : Rws t0 g r s n i p a b h) : ∀ env x, ev env x = .ptr b 0 0 → evalOp Tryd.prog (.loadN 2 x) env h = .val (.agg [int64 r, strOf s]) h := by
  have w := R.C.part2 Tryd.prog (i := 0) (n := 2) (by simp)
  simpa only [List.drop_zero, List.take_succ_cons, List.take_zero] using w
end

theorem writes_start {t0 : Nat} {h : Hp} (t : HasTab t0 h) (g r : Int) (s : List UInt8) (n i : Int) :
    ∃ p a b env1 h1 env' h', Dos Tryd.prog 3 (.region writes_0) (setArgs .e 0 [.agg [int64 g, int64 r, strOf s, int64 n, int64 i]]) h .go [] env1 h1 ∧ Dos Tryd.prog 3 (.drawn writes_1) env1 h1 .go [] env' h' ∧ sv env' 1 = .ptr p 0 0 ∧ sv env' 3 = .ptr a 0 0 ∧ sv env' 4 = .ptr b 0 0 ∧ Rws t0 g r s n i p a b h' ∧ Only [] h h' := by
  obtain ⟨h1, bx, A, o1, n1⟩ := boxed Tryd.prog [int64 g, int64 r, strOf s, int64 n, int64 i] h
  have hk2 : ∃ hr0, hr0 = skipH (skipH h1) ∧ Only [] h1 hr0 ∧ hr0.next.num = h1.next.num + 2 := ⟨_, rfl, (skipH_only _).trans (skipH_only _), by simp only [skipH_next]⟩
  obtain ⟨hr0, hsk, osk, nsk⟩ := hk2
  have hsk : hr0 = ⟨h1.heap, h1.next.succ.succ, h1.ser, h1.lim⟩ := hsk
  obtain ⟨a, ha⟩ : ∃ x, x = h1.next := ⟨_, rfl⟩
  obtain ⟨b, hb⟩ : ∃ x, x = h1.next.succ := ⟨_, rfl⟩
  have na : a.num = h1.next.num := by rw [ha]
  have nb : b.num = h1.next.num + 1 := by rw [hb, Pos.num_succ]
  have sA : a.succ = b := by rw [ha, hb]
  have sB : b.succ = h1.next.succ.succ := by rw [hb]
  have ne1 : ∀ x y : Pos, x.num ≠ y.num → x ≠ y := fun x y q c => q (by rw [c])
  have A2 := A.only osk (by simp)
  obtain ⟨H1, e1'⟩ : ∃ x, x = layH hr0 b (.cells 0 (Cells.ofL [int64 0, .str 0 0]) 0 0 0 0 false false) := ⟨_, rfl⟩
  obtain ⟨H2, e2'⟩ : ∃ x, x = layH H1 a (.cells 0 (Cells.ofL [int64 0, .str 0 0, int64 0]) 0 0 0 0 false false) := ⟨_, rfl⟩
  have el : (⟨T.set a (some (.cells 0 (Cells.ofL [int64 0, .str 0 0, int64 0]) 0 0 0 0 false false)) (T.set b (some (.cells 0 (Cells.ofL [int64 0, .str 0 0]) 0 0 0 0 false false)) hr0.heap), hr0.next, hr0.ser, hr0.lim⟩ : Hp) = H2 := by rw [e2', e1']; rfl
  have N1 : H1.next = hr0.next := by rw [e1']; rfl
  have N2 : H2.next = hr0.next := by rw [e2', ← N1]; rfl
  have O1 : Only [b] hr0 H1 := by rw [e1']; exact layH_only _ _ _
  have O2 : Only [a] H1 H2 := by rw [e2']; exact layH_only _ _ _
  have rb : Arr H2 b [int64 0, .str 0 0] := by
    have q := layH_arr (h := hr0) (id := b) (by omega) 0 [int64 0, .str 0 0]
    rw [← e1'] at q
    exact q.only O2 (by simp; exact ne1 _ _ (by omega))
  have ra : Arr H2 a [int64 0, .str 0 0, int64 0] := by
    have q := layH_arr (h := H1) (id := a) (by rw [N1]; omega) 0 [int64 0, .str 0 0, int64 0]
    rwa [← e2'] at q
  obtain ⟨h3, st3, B3, o3, n3⟩ := storeN_arr Tryd.prog ra (xs := [int64 r, strOf s, int64 n]) rfl (by simp) (by simp [AV.atom]; rfl)
  have C3 := rb.only o3 (by simp; exact ne1 _ _ (by omega))
  obtain ⟨h4, st4, C4, o4, n4⟩ := storeN_arr Tryd.prog C3 (xs := [int64 r, strOf s]) rfl (by simp) (by simp [AV.atom]; rfl)
  have B4 := B3.only o4 (by simp; exact ne1 _ _ (by omega))
  simp only [List.length_cons, List.length_nil] at st3 st4
  have oAll : Only [a, b] hr0 h4 := ((O1.mono (by simp)).trans (O2.mono (by simp))).trans ((o3.mono (by simp)).trans (o4.mono (by simp)))
  have A4 := A2.only oAll (by simp; exact ⟨ne1 _ _ (by omega), ne1 _ _ (by omega)⟩)
  have A3' := (A2.only O1 (by simp; exact ne1 _ _ (by omega))).only O2 (by simp; exact ne1 _ _ (by omega))
  have A3'' := A3'.only o3 (by simp; exact ne1 _ _ (by omega))
  have lN := A2.part2 Tryd.prog (i := 1) (n := 3) (by simp)
  have lB := A2.part2 Tryd.prog (i := 1) (n := 2) (by simp)
  have lB' := A3''.part2 Tryd.prog (i := 1) (n := 2) (by simp)
  simp only [List.drop_succ_cons, List.drop_zero, List.take_succ_cons, List.take_zero] at lN lB lB'
  obtain ⟨env1, e1, s1⟩ : ∃ env', runS Tryd.prog true (.region writes_0) [] (setArgs .e 0 [.agg [int64 g, int64 r, strOf s, int64 n, int64 i]]) h = some (.upt [], [], env', h1) ∧ sv env' 1 = .ptr h.next 0 0 := by
    simp [writes_0, runS, runR, Rs.seq, Rs.block, sv_args, runOps, wanted_no, wanted_sv, ev_tm, ev_vl, sv_setD, sv_set, setD_none, qev_mov, qev_bin, qev_un, qev_lenI, qev_lenS, qev_pick, qev_load1, qev_idxSl, idx2_sl, idxA2_ptr, opt_some, bin_add, bin_sub, bin_mul, bin_lss, bin_leq, bin_gtr, bin_geq, bin_eql, bin_neq, un_not, un_neg, qev_callv, qev_new1, qev_store1, qev_nilC, nilC_ptr, qev_fld, fld0, fldN, qev_extract, nth0, nth1, nth2, qev_eqPtr, sameP_nil, notIf, bx]
  have nw := new_resv Tryd.prog
  obtain ⟨env2, acts, lds, e2, z1, z3, z4⟩ : ∃ env' acts lds, runE Tryd.prog noRec 0 writes_1 ⟨[], [], [], a, env1, hr0⟩ = some ⟨acts, lds, [], b.succ, env', h4⟩ ∧ sv env' 1 = .ptr h.next 0 0 ∧ sv env' 3 = .ptr a 0 0 ∧ sv env' 4 = .ptr b 0 0 := by
    simp [writes_1, runE, stepE, stepD, kindOf, lookBack, lookAgain, actO, insT, putT, remAl, bit, runOps, wanted_no, wanted_sv, ev_tm, ev_vl, sv_setD, sv_set, setD_none, qev_mov, qev_bin, qev_un, qev_lenI, qev_lenS, qev_pick, qev_load1, qev_idxSl, idx2_sl, idxA2_ptr, opt_some, bin_add, bin_sub, bin_mul, bin_lss, bin_leq, bin_gtr, bin_geq, bin_eql, bin_neq, un_not, un_neg, qev_callv, qev_new1, qev_store1, qev_nilC, nilC_ptr, qev_fld, fld0, fldN, qev_extract, nth0, nth1, nth2, qev_eqPtr, sameP_nil, notIf, T.get_set, s1, lN, lB, lB', eqAV_two, eqAV_three, nw, sA, el, st3, st4, hz, show ∀ a b, Nat.div a b = a / b from fun _ _ => rfl, show ∀ a b, Nat.mod a b = a % b from fun _ _ => rfl, show Nat.beq 0 1 = false from rfl, show Nat.beq 1 1 = true from rfl, show Nat.testBit 99 5 = true from by decide, show Nat.testBit 99 6 = true from by decide]
  have d2 := runDrawn_ofE (P := Tryd.prog) (rec := noRec) (l := writes_1) (env := env1) (h := h1) (rid := b.succ) (acts := acts) (lds := lds) (by rw [show skipIds writes_1 h1.next = h1.next.succ.succ from by simp [writes_1, skipIds, isAlloc, kindOf], ← hsk, ← ha]; exact e2)
  have oF : Only [] h h4 := (((o1.trans osk).mono (S' := [a, b]) (by simp)).trans oAll).mono fun j q => .inr (by simp at q; have := o1.next; rcases q with q | q <;> subst q <;> omega)
  exact ⟨h.next, a, b, env1, h1, env2, h4, Dos.runGo [] (by simp) e1, Dos.drawn (noRec_sound _) d2, z1, z3, z4, ⟨A4, B4, C4, t.more oF⟩, oF⟩
end Go.Proofs.YtjhgembcdndmkaaDoor.St

/- The law's regions, in parts. -/
namespace Go.Proofs.YtjhgembcdndmkaaDoor.St
open Go Go.Proofs.YtjhgembcdndmkaaDoor.Am Go.Proofs

noncomputable def writes_16a : List O := [
    ⟨(some (Pos.ofNat 114)), none, .mov (tm 5), true, 0⟩,
    ⟨(some (Pos.ofNat 115)), none, .lenL (tm 114), true, 0⟩,
    ⟨(some (Pos.ofNat 116)), none, .bin .neq .other true (tm 115) (vl (int64 (0))), true, 0⟩,
    ⟨(some (Pos.ofNat 117)), none, .mov (tm 116), true, 0⟩]

noncomputable def writes_16b : List O := [
    ⟨(some (Pos.ofNat 118)), (some ((Pos.ofNat 117), false)), .mov (tm 11), true, 0⟩,
    ⟨(some (Pos.ofNat 119)), (some ((Pos.ofNat 117), false)), .bin .neq .other true (tm 118) (vl (.str 0 0)), true, 0⟩,
    ⟨(some (Pos.ofNat 120)), none, .pick (tm 117) (vl (.bool true)) (tm 119), true, 0⟩,
    ⟨(some (Pos.ofNat 121)), none, .mov (tm 120), true, 0⟩]

noncomputable def writes_16c : List O := [
    ⟨(some (Pos.ofNat 122)), (some ((Pos.ofNat 121), false)), .mov (tm 17), true, 0⟩,
    ⟨(some (Pos.ofNat 123)), (some ((Pos.ofNat 121), false)), .bin .neq .other true (tm 122) (vl (.str 0 0)), true, 0⟩,
    ⟨(some (Pos.ofNat 124)), none, .pick (tm 121) (vl (.bool true)) (tm 123), true, 0⟩,
    ⟨(some (Pos.ofNat 125)), none, .mov (tm 124), true, 0⟩]

noncomputable def writes_16d : List O := [
    ⟨(some (Pos.ofNat 126)), (some ((Pos.ofNat 125), false)), .mov (tm 6), true, 0⟩,
    ⟨(some (Pos.ofNat 127)), (some ((Pos.ofNat 125), false)), .call (.value (vl (.fn (.func 21) [] []))) [(tm 126)], true, 0⟩,
    ⟨(some (Pos.ofNat 128)), (some ((Pos.ofNat 125), false)), .bin .neq .other true (tm 127) (vl (int64 (2))), true, 0⟩,
    ⟨(some (Pos.ofNat 129)), none, .pick (tm 125) (vl (.bool true)) (tm 128), true, 0⟩,
    ⟨(some (Pos.ofNat 130)), none, .mov (tm 129), true, 0⟩]

noncomputable def writes_16e : List O := [
    ⟨(some (Pos.ofNat 131)), (some ((Pos.ofNat 130), false)), .mov (tm 12), true, 0⟩,
    ⟨(some (Pos.ofNat 132)), (some ((Pos.ofNat 130), false)), .call (.value (vl (.fn (.func 21) [] []))) [(tm 131)], true, 0⟩,
    ⟨(some (Pos.ofNat 133)), (some ((Pos.ofNat 130), false)), .bin .neq .other true (tm 132) (vl (int64 (2))), true, 0⟩,
    ⟨(some (Pos.ofNat 134)), none, .pick (tm 130) (vl (.bool true)) (tm 133), true, 0⟩,
    ⟨(some (Pos.ofNat 135)), none, .mov (tm 134), true, 0⟩]

noncomputable def writes_16f : List O := [
    ⟨(some (Pos.ofNat 136)), (some ((Pos.ofNat 135), false)), .mov (tm 18), true, 0⟩,
    ⟨(some (Pos.ofNat 137)), (some ((Pos.ofNat 135), false)), .call (.value (vl (.fn (.func 21) [] []))) [(tm 136)], true, 0⟩,
    ⟨(some (Pos.ofNat 138)), (some ((Pos.ofNat 135), false)), .bin .neq .other true (tm 137) (vl (int64 (2))), true, 0⟩,
    ⟨(some (Pos.ofNat 139)), none, .pick (tm 135) (vl (.bool true)) (tm 138), true, 0⟩]

theorem writes_16_eq : writes_16 = writes_16a ++ (writes_16b ++ (writes_16c ++ (writes_16d ++ (writes_16e ++ (writes_16f))))) := rfl

noncomputable def writes_21a : List O := [
    ⟨(some (Pos.ofNat 162)), none, .mov (tm 7), true, 0⟩,
    ⟨(some (Pos.ofNat 163)), none, .lenL (tm 162), true, 0⟩,
    ⟨(some (Pos.ofNat 164)), none, .bin .neq .other true (tm 163) (vl (int64 (0))), true, 0⟩,
    ⟨(some (Pos.ofNat 165)), none, .mov (tm 164), true, 0⟩]

noncomputable def writes_21b : List O := [
    ⟨(some (Pos.ofNat 166)), (some ((Pos.ofNat 165), false)), .mov (tm 13), true, 0⟩,
    ⟨(some (Pos.ofNat 167)), (some ((Pos.ofNat 165), false)), .bin .neq .other true (tm 166) (vl (.str 0 0)), true, 0⟩,
    ⟨(some (Pos.ofNat 168)), none, .pick (tm 165) (vl (.bool true)) (tm 167), true, 0⟩,
    ⟨(some (Pos.ofNat 169)), none, .mov (tm 168), true, 0⟩]

noncomputable def writes_21c : List O := [
    ⟨(some (Pos.ofNat 170)), (some ((Pos.ofNat 169), false)), .mov (tm 8), true, 0⟩,
    ⟨(some (Pos.ofNat 171)), (some ((Pos.ofNat 169), false)), .call (.value (vl (.fn (.func 21) [] []))) [(tm 170)], true, 0⟩,
    ⟨(some (Pos.ofNat 172)), (some ((Pos.ofNat 169), false)), .bin .neq .other true (tm 171) (vl (int64 (2))), true, 0⟩,
    ⟨(some (Pos.ofNat 173)), none, .pick (tm 169) (vl (.bool true)) (tm 172), true, 0⟩,
    ⟨(some (Pos.ofNat 174)), none, .mov (tm 173), true, 0⟩]

noncomputable def writes_21d : List O := [
    ⟨(some (Pos.ofNat 175)), (some ((Pos.ofNat 174), false)), .mov (tm 14), true, 0⟩,
    ⟨(some (Pos.ofNat 176)), (some ((Pos.ofNat 174), false)), .call (.value (vl (.fn (.func 21) [] []))) [(tm 175)], true, 0⟩,
    ⟨(some (Pos.ofNat 177)), (some ((Pos.ofNat 174), false)), .bin .neq .other true (tm 176) (vl (int64 (2))), true, 0⟩,
    ⟨(some (Pos.ofNat 178)), none, .pick (tm 174) (vl (.bool true)) (tm 177), true, 0⟩]

theorem writes_21_eq : writes_21 = writes_21a ++ (writes_21b ++ (writes_21c ++ (writes_21d))) := rfl

noncomputable def writes_25a : List O := [
    ⟨(some (Pos.ofNat 204)), none, .mov (tm 9), true, 0⟩,
    ⟨(some (Pos.ofNat 205)), none, .lenL (tm 204), true, 0⟩,
    ⟨(some (Pos.ofNat 206)), none, .bin .eql .other true (tm 205) (vl (int64 (0))), true, 0⟩,
    ⟨(some (Pos.ofNat 207)), none, .mov (tm 206), true, 0⟩]

noncomputable def writes_25b : List O := [
    ⟨(some (Pos.ofNat 208)), (some ((Pos.ofNat 207), true)), .mov (tm 15), true, 0⟩,
    ⟨(some (Pos.ofNat 209)), (some ((Pos.ofNat 207), true)), .bin .eql .other true (tm 208) (vl (.str 0 0)), true, 0⟩,
    ⟨(some (Pos.ofNat 210)), none, .pick (tm 207) (tm 209) (vl (.bool false)), true, 0⟩,
    ⟨(some (Pos.ofNat 211)), none, .mov (tm 210), true, 0⟩]

noncomputable def writes_25c : List O := [
    ⟨(some (Pos.ofNat 212)), (some ((Pos.ofNat 211), true)), .mov (tm 10), true, 0⟩,
    ⟨(some (Pos.ofNat 213)), (some ((Pos.ofNat 211), true)), .call (.value (vl (.fn (.func 21) [] []))) [(tm 212)], true, 0⟩,
    ⟨(some (Pos.ofNat 214)), (some ((Pos.ofNat 211), true)), .bin .eql .other true (tm 213) (vl (int64 (2))), true, 0⟩,
    ⟨(some (Pos.ofNat 215)), none, .pick (tm 211) (tm 214) (vl (.bool false)), true, 0⟩,
    ⟨(some (Pos.ofNat 216)), none, .mov (tm 215), true, 0⟩]

noncomputable def writes_25d : List O := [
    ⟨(some (Pos.ofNat 217)), (some ((Pos.ofNat 216), true)), .mov (tm 16), true, 0⟩,
    ⟨(some (Pos.ofNat 218)), (some ((Pos.ofNat 216), true)), .call (.value (vl (.fn (.func 21) [] []))) [(tm 217)], true, 0⟩,
    ⟨(some (Pos.ofNat 219)), (some ((Pos.ofNat 216), true)), .bin .eql .other true (tm 218) (vl (int64 (2))), true, 0⟩,
    ⟨(some (Pos.ofNat 220)), none, .pick (tm 216) (tm 219) (vl (.bool false)), true, 0⟩,
    ⟨(some (Pos.ofNat 221)), none, .mov (tm 220), true, 0⟩]

noncomputable def writes_25e : List O := [
    ⟨(some (Pos.ofNat 222)), (some ((Pos.ofNat 221), true)), .call (.value (vl (.fn (.func 4) [] []))) [], true, 0⟩,
    ⟨(some (Pos.ofNat 223)), none, .pick (tm 221) (tm 222) (vl (.bool false)), true, 0⟩,
    ⟨(some (Pos.ofNat 2)), none, .mov (tm 223), true, 0⟩]

theorem writes_25_eq : writes_25 = writes_25a ++ (writes_25b ++ (writes_25c ++ (writes_25d ++ (writes_25e)))) := rfl

noncomputable def writes_14a : List O := [
    ⟨(some (Pos.ofNat 85)), none, .mov (tm 5), true, 0⟩,
    ⟨(some (Pos.ofNat 86)), none, .bytesStr (tm 85), true, 1⟩,
    ⟨(some (Pos.ofNat 87)), none, .loadN 5 (tm 1), true, 0⟩,
    ⟨(some (Pos.ofNat 88)), none, .call (.value (vl (.fn (.func 18) [] []))) [(tm 87)], true, 4⟩,
    ⟨(some (Pos.ofNat 89)), none, .bytesStr (tm 88), true, 12⟩,
    ⟨(some (Pos.ofNat 90)), none, .bin .neq .other false (tm 86) (tm 89), true, 31⟩,
    ⟨(some (Pos.ofNat 91)), none, .mov (tm 90), true, 63⟩]

noncomputable def writes_14b : List O := [
    ⟨(some (Pos.ofNat 92)), (some ((Pos.ofNat 91), false)), .mov (tm 11), true, 127⟩,
    ⟨(some (Pos.ofNat 93)), (some ((Pos.ofNat 91), false)), .loadN 5 (tm 1), true, 127⟩,
    ⟨(some (Pos.ofNat 94)), (some ((Pos.ofNat 91), false)), .call (.value (vl (.fn (.func 19) [] []))) [(tm 93)], true, 383⟩,
    ⟨(some (Pos.ofNat 95)), (some ((Pos.ofNat 91), false)), .bin .neq .other false (tm 92) (tm 94), true, 1023⟩,
    ⟨(some (Pos.ofNat 96)), none, .pick (tm 91) (vl (.bool true)) (tm 95), true, 2047⟩,
    ⟨(some (Pos.ofNat 97)), none, .mov (tm 96), true, 4095⟩]

noncomputable def writes_14c : List O := [
    ⟨(some (Pos.ofNat 98)), (some ((Pos.ofNat 97), false)), .mov (tm 17), true, 8191⟩,
    ⟨(some (Pos.ofNat 99)), (some ((Pos.ofNat 97), false)), .loadN 5 (tm 1), true, 8191⟩,
    ⟨(some (Pos.ofNat 100)), (some ((Pos.ofNat 97), false)), .call (.value (vl (.fn (.func 20) [] []))) [(tm 99)], true, 24575⟩,
    ⟨(some (Pos.ofNat 101)), (some ((Pos.ofNat 97), false)), .bin .neq .other false (tm 98) (tm 100), true, 65535⟩,
    ⟨(some (Pos.ofNat 102)), none, .pick (tm 97) (vl (.bool true)) (tm 101), true, 131071⟩,
    ⟨(some (Pos.ofNat 103)), none, .mov (tm 102), true, 262143⟩]

noncomputable def writes_14d : List O := [
    ⟨(some (Pos.ofNat 104)), (some ((Pos.ofNat 103), false)), .mov (tm 6), true, 524287⟩,
    ⟨(some (Pos.ofNat 105)), (some ((Pos.ofNat 103), false)), .call (.value (vl (.fn (.func 21) [] []))) [(tm 104)], true, 1048575⟩,
    ⟨(some (Pos.ofNat 106)), (some ((Pos.ofNat 103), false)), .mov (tm 12), true, 524287⟩,
    ⟨(some (Pos.ofNat 107)), (some ((Pos.ofNat 103), false)), .call (.value (vl (.fn (.func 21) [] []))) [(tm 106)], true, 4194303⟩,
    ⟨(some (Pos.ofNat 108)), (some ((Pos.ofNat 103), false)), .bin .add .other false (tm 105) (tm 107), true, 8388607⟩,
    ⟨(some (Pos.ofNat 109)), (some ((Pos.ofNat 103), false)), .mov (tm 18), true, 524287⟩,
    ⟨(some (Pos.ofNat 110)), (some ((Pos.ofNat 103), false)), .call (.value (vl (.fn (.func 21) [] []))) [(tm 109)], true, 25165823⟩,
    ⟨(some (Pos.ofNat 111)), (some ((Pos.ofNat 103), false)), .bin .add .other false (tm 108) (tm 110), true, 67108863⟩,
    ⟨(some (Pos.ofNat 112)), (some ((Pos.ofNat 103), false)), .bin .neq .other true (tm 111) (vl (int64 (0))), true, 134217727⟩,
    ⟨(some (Pos.ofNat 113)), none, .pick (tm 103) (vl (.bool true)) (tm 112), true, 268435455⟩]

theorem writes_14_eq : writes_14 = writes_14a ++ (writes_14b ++ (writes_14c ++ (writes_14d))) := rfl

noncomputable def writes_19a : List O := [
    ⟨(some (Pos.ofNat 142)), none, .mov (tm 7), true, 0⟩,
    ⟨(some (Pos.ofNat 143)), none, .bytesStr (tm 142), true, 1⟩,
    ⟨(some (Pos.ofNat 144)), none, .loadN 3 (tm 3), true, 0⟩,
    ⟨(some (Pos.ofNat 145)), none, .call (.value (vl (.fn (.func 22) [] []))) [(tm 144)], true, 4⟩,
    ⟨(some (Pos.ofNat 146)), none, .bytesStr (tm 145), true, 12⟩,
    ⟨(some (Pos.ofNat 147)), none, .bin .neq .other false (tm 143) (tm 146), true, 31⟩,
    ⟨(some (Pos.ofNat 148)), none, .mov (tm 147), true, 63⟩]

noncomputable def writes_19b : List O := [
    ⟨(some (Pos.ofNat 149)), (some ((Pos.ofNat 148), false)), .mov (tm 13), true, 127⟩,
    ⟨(some (Pos.ofNat 150)), (some ((Pos.ofNat 148), false)), .loadN 3 (tm 3), true, 127⟩,
    ⟨(some (Pos.ofNat 151)), (some ((Pos.ofNat 148), false)), .call (.value (vl (.fn (.func 23) [] []))) [(tm 150)], true, 383⟩,
    ⟨(some (Pos.ofNat 152)), (some ((Pos.ofNat 148), false)), .bin .neq .other false (tm 149) (tm 151), true, 1023⟩,
    ⟨(some (Pos.ofNat 153)), none, .pick (tm 148) (vl (.bool true)) (tm 152), true, 2047⟩,
    ⟨(some (Pos.ofNat 154)), none, .mov (tm 153), true, 4095⟩]

noncomputable def writes_19c : List O := [
    ⟨(some (Pos.ofNat 155)), (some ((Pos.ofNat 154), false)), .mov (tm 8), true, 8191⟩,
    ⟨(some (Pos.ofNat 156)), (some ((Pos.ofNat 154), false)), .call (.value (vl (.fn (.func 21) [] []))) [(tm 155)], true, 16383⟩,
    ⟨(some (Pos.ofNat 157)), (some ((Pos.ofNat 154), false)), .mov (tm 14), true, 8191⟩,
    ⟨(some (Pos.ofNat 158)), (some ((Pos.ofNat 154), false)), .call (.value (vl (.fn (.func 21) [] []))) [(tm 157)], true, 65535⟩,
    ⟨(some (Pos.ofNat 159)), (some ((Pos.ofNat 154), false)), .bin .add .other false (tm 156) (tm 158), true, 131071⟩,
    ⟨(some (Pos.ofNat 160)), (some ((Pos.ofNat 154), false)), .bin .neq .other true (tm 159) (vl (int64 (0))), true, 262143⟩,
    ⟨(some (Pos.ofNat 161)), none, .pick (tm 154) (vl (.bool true)) (tm 160), true, 524287⟩]

theorem writes_19_eq : writes_19 = writes_19a ++ (writes_19b ++ (writes_19c)) := rfl

noncomputable def writes_24a : List O := [
    ⟨(some (Pos.ofNat 181)), none, .mov (tm 9), true, 0⟩,
    ⟨(some (Pos.ofNat 182)), none, .bytesStr (tm 181), true, 1⟩,
    ⟨(some (Pos.ofNat 183)), none, .loadN 2 (tm 4), true, 0⟩,
    ⟨(some (Pos.ofNat 184)), none, .call (.value (vl (.fn (.func 24) [] []))) [(tm 183)], true, 4⟩,
    ⟨(some (Pos.ofNat 185)), none, .bytesStr (tm 184), true, 12⟩,
    ⟨(some (Pos.ofNat 186)), none, .bin .eql .other false (tm 182) (tm 185), true, 31⟩,
    ⟨(some (Pos.ofNat 187)), none, .mov (tm 186), true, 63⟩]

noncomputable def writes_24b : List O := [
    ⟨(some (Pos.ofNat 188)), (some ((Pos.ofNat 187), true)), .mov (tm 15), true, 127⟩,
    ⟨(some (Pos.ofNat 189)), (some ((Pos.ofNat 187), true)), .loadN 2 (tm 4), true, 127⟩,
    ⟨(some (Pos.ofNat 190)), (some ((Pos.ofNat 187), true)), .call (.value (vl (.fn (.func 25) [] []))) [(tm 189)], true, 383⟩,
    ⟨(some (Pos.ofNat 191)), (some ((Pos.ofNat 187), true)), .bin .eql .other false (tm 188) (tm 190), true, 1023⟩,
    ⟨(some (Pos.ofNat 192)), none, .pick (tm 187) (tm 191) (vl (.bool false)), true, 2047⟩,
    ⟨(some (Pos.ofNat 193)), none, .mov (tm 192), true, 4095⟩]

noncomputable def writes_24c : List O := [
    ⟨(some (Pos.ofNat 194)), (some ((Pos.ofNat 193), true)), .mov (tm 10), true, 8191⟩,
    ⟨(some (Pos.ofNat 195)), (some ((Pos.ofNat 193), true)), .call (.value (vl (.fn (.func 21) [] []))) [(tm 194)], true, 16383⟩,
    ⟨(some (Pos.ofNat 196)), (some ((Pos.ofNat 193), true)), .mov (tm 16), true, 8191⟩,
    ⟨(some (Pos.ofNat 197)), (some ((Pos.ofNat 193), true)), .call (.value (vl (.fn (.func 21) [] []))) [(tm 196)], true, 65535⟩,
    ⟨(some (Pos.ofNat 198)), (some ((Pos.ofNat 193), true)), .bin .add .other false (tm 195) (tm 197), true, 131071⟩,
    ⟨(some (Pos.ofNat 199)), (some ((Pos.ofNat 193), true)), .bin .eql .other true (tm 198) (vl (int64 (0))), true, 262143⟩,
    ⟨(some (Pos.ofNat 200)), none, .pick (tm 193) (tm 199) (vl (.bool false)), true, 524287⟩,
    ⟨(some (Pos.ofNat 201)), none, .mov (tm 200), true, 1048575⟩]

noncomputable def writes_24d : List O := [
    ⟨(some (Pos.ofNat 202)), (some ((Pos.ofNat 201), true)), .call (.value (vl (.fn (.func 4) [] []))) [], true, 2097151⟩,
    ⟨(some (Pos.ofNat 203)), none, .pick (tm 201) (tm 202) (vl (.bool false)), true, 4194303⟩,
    ⟨(some (Pos.ofNat 2)), none, .mov (tm 203), true, 8388607⟩]

theorem writes_24_eq : writes_24 = writes_24a ++ (writes_24b ++ (writes_24c ++ (writes_24d))) := rfl

noncomputable def writes_11a : List O := [
    ⟨(some (Pos.ofNat 64)), none, .loadN 5 (tm 1), true, 0⟩,
    ⟨(some (Pos.ofNat 65)), none, .call (.value (vl (.fn (.func 12) [] []))) [(tm 64)], true, 1⟩,
    ⟨(some (Pos.ofNat 66)), none, .loadN 5 (tm 1), true, 0⟩,
    ⟨(some (Pos.ofNat 67)), none, .call (.value (vl (.fn (.func 13) [] []))) [(tm 66)], true, 7⟩,
    ⟨(some (Pos.ofNat 68)), none, .bin .neq .bool false (tm 65) (tm 67), true, 15⟩,
    ⟨(some (Pos.ofNat 69)), none, .mov (tm 68), true, 31⟩]

noncomputable def writes_11b : List O := [
    ⟨(some (Pos.ofNat 70)), (some ((Pos.ofNat 69), false)), .loadN 3 (tm 3), true, 63⟩,
    ⟨(some (Pos.ofNat 71)), (some ((Pos.ofNat 69), false)), .call (.value (vl (.fn (.func 14) [] []))) [(tm 70)], true, 127⟩,
    ⟨(some (Pos.ofNat 72)), (some ((Pos.ofNat 69), false)), .loadN 3 (tm 3), true, 63⟩,
    ⟨(some (Pos.ofNat 73)), (some ((Pos.ofNat 69), false)), .call (.value (vl (.fn (.func 15) [] []))) [(tm 72)], true, 511⟩,
    ⟨(some (Pos.ofNat 74)), (some ((Pos.ofNat 69), false)), .bin .neq .bool false (tm 71) (tm 73), true, 1023⟩,
    ⟨(some (Pos.ofNat 75)), none, .pick (tm 69) (vl (.bool true)) (tm 74), true, 2047⟩,
    ⟨(some (Pos.ofNat 76)), none, .mov (tm 75), true, 4095⟩]

noncomputable def writes_11c : List O := [
    ⟨(some (Pos.ofNat 77)), (some ((Pos.ofNat 76), false)), .loadN 2 (tm 4), true, 8191⟩,
    ⟨(some (Pos.ofNat 78)), (some ((Pos.ofNat 76), false)), .call (.value (vl (.fn (.func 16) [] []))) [(tm 77)], true, 16383⟩,
    ⟨(some (Pos.ofNat 79)), (some ((Pos.ofNat 76), false)), .loadN 2 (tm 4), true, 8191⟩,
    ⟨(some (Pos.ofNat 80)), (some ((Pos.ofNat 76), false)), .call (.value (vl (.fn (.func 17) [] []))) [(tm 79)], true, 65535⟩,
    ⟨(some (Pos.ofNat 81)), (some ((Pos.ofNat 76), false)), .bin .neq .bool false (tm 78) (tm 80), true, 131071⟩,
    ⟨(some (Pos.ofNat 82)), none, .pick (tm 76) (vl (.bool true)) (tm 81), true, 262143⟩]

theorem writes_11_eq : writes_11 = writes_11a ++ (writes_11b ++ (writes_11c)) := rfl

end Go.Proofs.YtjhgembcdndmkaaDoor.St

namespace Go.Proofs.YtjhgembcdndmkaaDoor.St
open Go Go.Proofs.YtjhgembcdndmkaaDoor.Am Go.Proofs

/-- The named variables stay. -/
def Keep (env env' : T AV) : Prop := sv env' 1 = sv env 1 ∧ sv env' 3 = sv env 3 ∧ sv env' 4 = sv env 4 ∧ sv env' 5 = sv env 5 ∧ sv env' 6 = sv env 6 ∧ sv env' 7 = sv env 7 ∧ sv env' 8 = sv env 8 ∧ sv env' 9 = sv env 9 ∧ sv env' 10 = sv env 10 ∧ sv env' 11 = sv env 11 ∧ sv env' 12 = sv env 12 ∧ sv env' 13 = sv env 13 ∧ sv env' 14 = sv env 14 ∧ sv env' 15 = sv env 15 ∧ sv env' 16 = sv env 16 ∧ sv env' 17 = sv env 17 ∧ sv env' 18 = sv env 18

theorem eql0 (kd : EK) (no : Bool) : binA .eql kd no (.str 0 0) (.str 0 0) = some (.bool true) := by
  have q := bin_eqlS kd no [] []
  simpa [strOf_nil] using q
theorem neq0 (kd : EK) (no : Bool) : binA .neq kd no (.str 0 0) (.str 0 0) = some (.bool false) := by
  have q := bin_neqS kd no [] []
  simpa [strOf_nil] using q

section
variable {A : List KC} {env : T AV} {h : Hp}

theorem w25a {v : AV} (s9 : sv env 9 = v) (ll : ∀ env x, ev env x = v → evalOp Tryd.prog (.lenL x) env h = .val (int64 0) h) : ∃ env', runR Tryd.prog A writes_25a env h = some (A, env', h) ∧ sv env' 207 = .bool true ∧ Keep env env' := by
  simp [writes_25a, runR, runOps, wanted_no, wanted_sv, ev_tm, ev_vl, sv_setD, sv_set, setD_none, qev_mov, qev_bin, qev_un, qev_lenI, qev_lenS, qev_pick, qev_load1, qev_idxSl, idx2_sl, idxA2_ptr, opt_some, bin_add, bin_sub, bin_mul, bin_lss, bin_leq, bin_gtr, bin_geq, bin_eql, bin_neq, un_not, un_neg, qev_callv, qev_new1, qev_store1, qev_nilC, nilC_ptr, qev_fld, fld0, fldN, qev_extract, nth0, nth1, nth2, qev_eqPtr, sameP_nil, notIf, s9, ll, Keep]
theorem w25b (s15 : sv env 15 = .str 0 0) (q : sv env 207 = .bool true) : ∃ env', runR Tryd.prog A writes_25b env h = some (A, env', h) ∧ sv env' 211 = .bool true ∧ Keep env env' := by
  simp [writes_25b, runR, runOps, wanted_no, wanted_sv, ev_tm, ev_vl, sv_setD, sv_set, setD_none, qev_mov, qev_bin, qev_un, qev_lenI, qev_lenS, qev_pick, qev_load1, qev_idxSl, idx2_sl, idxA2_ptr, opt_some, bin_add, bin_sub, bin_mul, bin_lss, bin_leq, bin_gtr, bin_geq, bin_eql, bin_neq, un_not, un_neg, qev_callv, qev_new1, qev_store1, qev_nilC, nilC_ptr, qev_fld, fld0, fldN, qev_extract, nth0, nth1, nth2, qev_eqPtr, sameP_nil, notIf, s15, q, eql0, Keep]
theorem w25c (s10 : sv env 10 = int64 2) (q : sv env 211 = .bool true) : ∃ env', runR Tryd.prog (⟨21, [int64 2], h, int64 2, h⟩ :: A) writes_25c env h = some (A, env', h) ∧ sv env' 216 = .bool true ∧ Keep env env' := by
  simp [writes_25c, runR, runOps, wanted_no, wanted_sv, ev_tm, ev_vl, sv_setD, sv_set, setD_none, qev_mov, qev_bin, qev_un, qev_lenI, qev_lenS, qev_pick, qev_load1, qev_idxSl, idx2_sl, idxA2_ptr, opt_some, bin_add, bin_sub, bin_mul, bin_lss, bin_leq, bin_gtr, bin_geq, bin_eql, bin_neq, un_not, un_neg, qev_callv, qev_new1, qev_store1, qev_nilC, nilC_ptr, qev_fld, fld0, fldN, qev_extract, nth0, nth1, nth2, qev_eqPtr, sameP_nil, notIf, s10, q, callA_ok ok_num, Keep]
theorem w25d (s16 : sv env 16 = int64 2) (q : sv env 216 = .bool true) : ∃ env', runR Tryd.prog (⟨21, [int64 2], h, int64 2, h⟩ :: A) writes_25d env h = some (A, env', h) ∧ sv env' 221 = .bool true ∧ Keep env env' := by
  simp [writes_25d, runR, runOps, wanted_no, wanted_sv, ev_tm, ev_vl, sv_setD, sv_set, setD_none, qev_mov, qev_bin, qev_un, qev_lenI, qev_lenS, qev_pick, qev_load1, qev_idxSl, idx2_sl, idxA2_ptr, opt_some, bin_add, bin_sub, bin_mul, bin_lss, bin_leq, bin_gtr, bin_geq, bin_eql, bin_neq, un_not, un_neg, qev_callv, qev_new1, qev_store1, qev_nilC, nilC_ptr, qev_fld, fld0, fldN, qev_extract, nth0, nth1, nth2, qev_eqPtr, sameP_nil, notIf, s16, q, callA_ok ok_num, Keep]
theorem w25e (q : sv env 221 = .bool true) : ∃ env', runR Tryd.prog (⟨4, [], h, .bool true, h⟩ :: A) writes_25e env h = some (A, env', h) ∧ sv env' 2 = .bool true := by
  simp [writes_25e, runR, runOps, wanted_no, wanted_sv, ev_tm, ev_vl, sv_setD, sv_set, setD_none, qev_mov, qev_bin, qev_un, qev_lenI, qev_lenS, qev_pick, qev_load1, qev_idxSl, idx2_sl, idxA2_ptr, opt_some, bin_add, bin_sub, bin_mul, bin_lss, bin_leq, bin_gtr, bin_geq, bin_eql, bin_neq, un_not, un_neg, qev_callv, qev_new1, qev_store1, qev_nilC, nilC_ptr, qev_fld, fld0, fldN, qev_extract, nth0, nth1, nth2, qev_eqPtr, sameP_nil, notIf, q, callA_ok ok_known]

theorem w21a {v : AV} (s7 : sv env 7 = v) (ll : ∀ env x, ev env x = v → evalOp Tryd.prog (.lenL x) env h = .val (int64 0) h) : ∃ env', runR Tryd.prog A writes_21a env h = some (A, env', h) ∧ sv env' 165 = .bool false ∧ Keep env env' := by
  simp [writes_21a, runR, runOps, wanted_no, wanted_sv, ev_tm, ev_vl, sv_setD, sv_set, setD_none, qev_mov, qev_bin, qev_un, qev_lenI, qev_lenS, qev_pick, qev_load1, qev_idxSl, idx2_sl, idxA2_ptr, opt_some, bin_add, bin_sub, bin_mul, bin_lss, bin_leq, bin_gtr, bin_geq, bin_eql, bin_neq, un_not, un_neg, qev_callv, qev_new1, qev_store1, qev_nilC, nilC_ptr, qev_fld, fld0, fldN, qev_extract, nth0, nth1, nth2, qev_eqPtr, sameP_nil, notIf, s7, ll, Keep]
theorem w21b (s13 : sv env 13 = .str 0 0) (q : sv env 165 = .bool false) : ∃ env', runR Tryd.prog A writes_21b env h = some (A, env', h) ∧ sv env' 169 = .bool false ∧ Keep env env' := by
  simp [writes_21b, runR, runOps, wanted_no, wanted_sv, ev_tm, ev_vl, sv_setD, sv_set, setD_none, qev_mov, qev_bin, qev_un, qev_lenI, qev_lenS, qev_pick, qev_load1, qev_idxSl, idx2_sl, idxA2_ptr, opt_some, bin_add, bin_sub, bin_mul, bin_lss, bin_leq, bin_gtr, bin_geq, bin_eql, bin_neq, un_not, un_neg, qev_callv, qev_new1, qev_store1, qev_nilC, nilC_ptr, qev_fld, fld0, fldN, qev_extract, nth0, nth1, nth2, qev_eqPtr, sameP_nil, notIf, s13, q, neq0, Keep]
theorem w21c (s8 : sv env 8 = int64 2) (q : sv env 169 = .bool false) : ∃ env', runR Tryd.prog (⟨21, [int64 2], h, int64 2, h⟩ :: A) writes_21c env h = some (A, env', h) ∧ sv env' 174 = .bool false ∧ Keep env env' := by
  simp [writes_21c, runR, runOps, wanted_no, wanted_sv, ev_tm, ev_vl, sv_setD, sv_set, setD_none, qev_mov, qev_bin, qev_un, qev_lenI, qev_lenS, qev_pick, qev_load1, qev_idxSl, idx2_sl, idxA2_ptr, opt_some, bin_add, bin_sub, bin_mul, bin_lss, bin_leq, bin_gtr, bin_geq, bin_eql, bin_neq, un_not, un_neg, qev_callv, qev_new1, qev_store1, qev_nilC, nilC_ptr, qev_fld, fld0, fldN, qev_extract, nth0, nth1, nth2, qev_eqPtr, sameP_nil, notIf, s8, q, callA_ok ok_num, Keep]
theorem w21d (s14 : sv env 14 = int64 2) (q : sv env 174 = .bool false) : ∃ env', runR Tryd.prog (⟨21, [int64 2], h, int64 2, h⟩ :: A) writes_21d env h = some (A, env', h) ∧ sv env' 178 = .bool false ∧ Keep env env' := by
  simp [writes_21d, runR, runOps, wanted_no, wanted_sv, ev_tm, ev_vl, sv_setD, sv_set, setD_none, qev_mov, qev_bin, qev_un, qev_lenI, qev_lenS, qev_pick, qev_load1, qev_idxSl, idx2_sl, idxA2_ptr, opt_some, bin_add, bin_sub, bin_mul, bin_lss, bin_leq, bin_gtr, bin_geq, bin_eql, bin_neq, un_not, un_neg, qev_callv, qev_new1, qev_store1, qev_nilC, nilC_ptr, qev_fld, fld0, fldN, qev_extract, nth0, nth1, nth2, qev_eqPtr, sameP_nil, notIf, s14, q, callA_ok ok_num, Keep]

theorem w16a {v : AV} (s5 : sv env 5 = v) (ll : ∀ env x, ev env x = v → evalOp Tryd.prog (.lenL x) env h = .val (int64 0) h) : ∃ env', runR Tryd.prog A writes_16a env h = some (A, env', h) ∧ sv env' 117 = .bool false ∧ Keep env env' := by
  simp [writes_16a, runR, runOps, wanted_no, wanted_sv, ev_tm, ev_vl, sv_setD, sv_set, setD_none, qev_mov, qev_bin, qev_un, qev_lenI, qev_lenS, qev_pick, qev_load1, qev_idxSl, idx2_sl, idxA2_ptr, opt_some, bin_add, bin_sub, bin_mul, bin_lss, bin_leq, bin_gtr, bin_geq, bin_eql, bin_neq, un_not, un_neg, qev_callv, qev_new1, qev_store1, qev_nilC, nilC_ptr, qev_fld, fld0, fldN, qev_extract, nth0, nth1, nth2, qev_eqPtr, sameP_nil, notIf, s5, ll, Keep]
theorem w16b (s11 : sv env 11 = .str 0 0) (q : sv env 117 = .bool false) : ∃ env', runR Tryd.prog A writes_16b env h = some (A, env', h) ∧ sv env' 121 = .bool false ∧ Keep env env' := by
  simp [writes_16b, runR, runOps, wanted_no, wanted_sv, ev_tm, ev_vl, sv_setD, sv_set, setD_none, qev_mov, qev_bin, qev_un, qev_lenI, qev_lenS, qev_pick, qev_load1, qev_idxSl, idx2_sl, idxA2_ptr, opt_some, bin_add, bin_sub, bin_mul, bin_lss, bin_leq, bin_gtr, bin_geq, bin_eql, bin_neq, un_not, un_neg, qev_callv, qev_new1, qev_store1, qev_nilC, nilC_ptr, qev_fld, fld0, fldN, qev_extract, nth0, nth1, nth2, qev_eqPtr, sameP_nil, notIf, s11, q, neq0, Keep]
theorem w16c (s17 : sv env 17 = .str 0 0) (q : sv env 121 = .bool false) : ∃ env', runR Tryd.prog A writes_16c env h = some (A, env', h) ∧ sv env' 125 = .bool false ∧ Keep env env' := by
  simp [writes_16c, runR, runOps, wanted_no, wanted_sv, ev_tm, ev_vl, sv_setD, sv_set, setD_none, qev_mov, qev_bin, qev_un, qev_lenI, qev_lenS, qev_pick, qev_load1, qev_idxSl, idx2_sl, idxA2_ptr, opt_some, bin_add, bin_sub, bin_mul, bin_lss, bin_leq, bin_gtr, bin_geq, bin_eql, bin_neq, un_not, un_neg, qev_callv, qev_new1, qev_store1, qev_nilC, nilC_ptr, qev_fld, fld0, fldN, qev_extract, nth0, nth1, nth2, qev_eqPtr, sameP_nil, notIf, s17, q, neq0, Keep]
theorem w16d (s6 : sv env 6 = int64 2) (q : sv env 125 = .bool false) : ∃ env', runR Tryd.prog (⟨21, [int64 2], h, int64 2, h⟩ :: A) writes_16d env h = some (A, env', h) ∧ sv env' 130 = .bool false ∧ Keep env env' := by
  simp [writes_16d, runR, runOps, wanted_no, wanted_sv, ev_tm, ev_vl, sv_setD, sv_set, setD_none, qev_mov, qev_bin, qev_un, qev_lenI, qev_lenS, qev_pick, qev_load1, qev_idxSl, idx2_sl, idxA2_ptr, opt_some, bin_add, bin_sub, bin_mul, bin_lss, bin_leq, bin_gtr, bin_geq, bin_eql, bin_neq, un_not, un_neg, qev_callv, qev_new1, qev_store1, qev_nilC, nilC_ptr, qev_fld, fld0, fldN, qev_extract, nth0, nth1, nth2, qev_eqPtr, sameP_nil, notIf, s6, q, callA_ok ok_num, Keep]
theorem w16e (s12 : sv env 12 = int64 2) (q : sv env 130 = .bool false) : ∃ env', runR Tryd.prog (⟨21, [int64 2], h, int64 2, h⟩ :: A) writes_16e env h = some (A, env', h) ∧ sv env' 135 = .bool false ∧ Keep env env' := by
  simp [writes_16e, runR, runOps, wanted_no, wanted_sv, ev_tm, ev_vl, sv_setD, sv_set, setD_none, qev_mov, qev_bin, qev_un, qev_lenI, qev_lenS, qev_pick, qev_load1, qev_idxSl, idx2_sl, idxA2_ptr, opt_some, bin_add, bin_sub, bin_mul, bin_lss, bin_leq, bin_gtr, bin_geq, bin_eql, bin_neq, un_not, un_neg, qev_callv, qev_new1, qev_store1, qev_nilC, nilC_ptr, qev_fld, fld0, fldN, qev_extract, nth0, nth1, nth2, qev_eqPtr, sameP_nil, notIf, s12, q, callA_ok ok_num, Keep]
theorem w16f (s18 : sv env 18 = int64 2) (q : sv env 135 = .bool false) : ∃ env', runR Tryd.prog (⟨21, [int64 2], h, int64 2, h⟩ :: A) writes_16f env h = some (A, env', h) ∧ sv env' 139 = .bool false ∧ Keep env env' := by
  simp [writes_16f, runR, runOps, wanted_no, wanted_sv, ev_tm, ev_vl, sv_setD, sv_set, setD_none, qev_mov, qev_bin, qev_un, qev_lenI, qev_lenS, qev_pick, qev_load1, qev_idxSl, idx2_sl, idxA2_ptr, opt_some, bin_add, bin_sub, bin_mul, bin_lss, bin_leq, bin_gtr, bin_geq, bin_eql, bin_neq, un_not, un_neg, qev_callv, qev_new1, qev_store1, qev_nilC, nilC_ptr, qev_fld, fld0, fldN, qev_extract, nth0, nth1, nth2, qev_eqPtr, sameP_nil, notIf, s18, q, callA_ok ok_num, Keep]
end

/-! ### Drawn -/

theorem again_of {P : Program} {h : Hp} {m : Nat} : ∀ {l : List Ld}, (∀ d ∈ l, bit m d.i = true) → lookAgain P h m l = true
  | [], _ => rfl
  | d :: l, q => by
    unfold lookAgain
    rw [q d (by simp), Bool.true_or, Bool.true_and]
    exact again_of fun x hx => q x (List.mem_cons_of_mem _ hx)
theorem back_of {P : Program} {op : AOp} {env : T AV} {v : AV} {m : Nat} : ∀ {l : List Actor}, (∀ a ∈ l, bit m a.i = true) → lookBack P op env v m l = true
  | [], _ => rfl
  | a :: l, q => by
    unfold lookBack
    rw [q a (by simp), Bool.true_or, Bool.true_and]
    exact back_of fun x hx => q x (List.mem_cons_of_mem _ hx)

/-- All from places below n. -/
def ActB (n : Nat) (l : List Actor) : Prop := ∀ a ∈ l, a.i < n
def LdB (n : Nat) (l : List Ld) : Prop := ∀ d ∈ l, d.i < n

theorem bit_low {m n i : Nat} (h : ∀ i, i < n → bit m i = true) (hi : i < n) : bit m i = true := h i hi

end Go.Proofs.YtjhgembcdndmkaaDoor.St

namespace Go.Proofs.YtjhgembcdndmkaaDoor.St
open Go Go.Proofs.YtjhgembcdndmkaaDoor.Am Go.Proofs

theorem neqBool (b : Bool) : binA .neq .bool false (.bool b) (.bool b) = some (.bool false) := by cases b <;> rfl

section
variable {R : St → Out} {rid : Pos} {env : T AV} {h h1 h2 : Hp} {acts : List Actor} {lds : List Ld} {a p b : Pos} {g r : Int} {s : List UInt8} {n i : Int}

theorem w24a {v v' : AV} {F : List UInt8} (sp : sv env 4 = .ptr b 0 0) (sx : sv env 9 = v)
    (bS : ∀ env x, ev env x = v → evalOp Tryd.prog (.bytesStr x) env h = .val (strOf F) h) (bS1 : ∀ env x, ev env x = v → evalOp Tryd.prog (.bytesStr x) env h1 = .val (strOf F) h1) (bS2 : ∀ env x, ev env x = v' → evalOp Tryd.prog (.bytesStr x) env h1 = .val (strOf F) h1)
    (l : ∀ env x, ev env x = .ptr b 0 0 → evalOp Tryd.prog (.loadN 2 x) env h = .val (.agg [int64 r, strOf s]) h) (b1 : beginFn Tryd.prog 24 [.agg [int64 r, strOf s]] = some (frOf Tryd.prog 24 [.agg [int64 r, strOf s]])) (R1 : R ⟨frOf Tryd.prog 24 [.agg [int64 r, strOf s]], [], h⟩ = .done (v') h1) :
    ∃ env' acts lds, runE Tryd.prog R 0 writes_24a ⟨[], [], [], rid, env, h⟩ = some ⟨acts, lds, [], rid, env', h1⟩ ∧ sv env' 187 = .bool true ∧ Keep env env' ∧ ActB 7 acts ∧ LdB 7 lds := by
  simp [writes_24a, runE, stepE, stepD, kindOf, lookBack, lookAgain, actO, insT, putT, remAl, bit, runOps, wanted_no, wanted_sv, ev_tm, ev_vl, sv_setD, sv_set, setD_none, qev_mov, qev_bin, qev_un, qev_lenI, qev_lenS, qev_pick, qev_load1, qev_idxSl, idx2_sl, idxA2_ptr, opt_some, bin_add, bin_sub, bin_mul, bin_lss, bin_leq, bin_gtr, bin_geq, bin_eql, bin_neq, un_not, un_neg, qev_callv, qev_new1, qev_store1, qev_nilC, nilC_ptr, qev_fld, fld0, fldN, qev_extract, nth0, nth1, nth2, qev_eqPtr, sameP_nil, notIf, sp, sx, bS, bS1, bS2, l, b1, R1, hz, eqAV_str, bin_eqlS, bin_neqS, callA_ok ok_rputb, Keep, ActB, LdB, show ∀ a b, Nat.div a b = a / b from fun _ _ => rfl, show ∀ a b, Nat.mod a b = a % b from fun _ _ => rfl, show Nat.beq 0 1 = false from rfl, show Nat.beq 1 1 = true from rfl]
  refine ⟨_, _, _, ⟨rfl, rfl, rfl⟩, ?_⟩
  simp [sv_setD, sp, sx]

theorem w24b {F : List UInt8} (sp : sv env 4 = .ptr b 0 0) (sx : sv env 15 = strOf F) (q : sv env 187 = .bool true) (hA : ActB 7 acts) (hL : LdB 7 lds)
    (l : ∀ env x, ev env x = .ptr b 0 0 → evalOp Tryd.prog (.loadN 2 x) env h = .val (.agg [int64 r, strOf s]) h) (b1 : beginFn Tryd.prog 25 [.agg [int64 r, strOf s]] = some (frOf Tryd.prog 25 [.agg [int64 r, strOf s]])) (R1 : R ⟨frOf Tryd.prog 25 [.agg [int64 r, strOf s]], [], h⟩ = .done (strOf F) h1) :
    ∃ env' acts' lds', runE Tryd.prog R 7 writes_24b ⟨acts, lds, [], rid, env, h⟩ = some ⟨acts', lds', [], rid, env', h1⟩ ∧ sv env' 193 = .bool true ∧ Keep env env' ∧ ActB 13 acts' ∧ LdB 13 lds' := by
  have lb127 : ∀ op env v, lookBack Tryd.prog op env v 127 acts = true := fun op env v => back_of fun x hx => bit_low (n := 7) (by decide) (hA x hx)
  have la383 : ∀ hh, lookAgain Tryd.prog hh 383 lds = true := fun hh => again_of fun x hx => bit_low (n := 7) (by decide) (hL x hx)
  have hA' : ∀ a ∈ acts, a.i < 13 := fun x hx => Nat.lt_of_lt_of_le (hA x hx) (by decide)
  have hL' : ∀ a ∈ lds, a.i < 13 := fun x hx => Nat.lt_of_lt_of_le (hL x hx) (by decide)
  simp [writes_24b, runE, stepE, stepD, kindOf, lookBack, lookAgain, actO, insT, putT, remAl, bit, runOps, wanted_no, wanted_sv, ev_tm, ev_vl, sv_setD, sv_set, setD_none, qev_mov, qev_bin, qev_un, qev_lenI, qev_lenS, qev_pick, qev_load1, qev_idxSl, idx2_sl, idxA2_ptr, opt_some, bin_add, bin_sub, bin_mul, bin_lss, bin_leq, bin_gtr, bin_geq, bin_eql, bin_neq, un_not, un_neg, qev_callv, qev_new1, qev_store1, qev_nilC, nilC_ptr, qev_fld, fld0, fldN, qev_extract, nth0, nth1, nth2, qev_eqPtr, sameP_nil, notIf, sp, sx, q, l, b1, R1, lb127, la383, hz, bin_eqlS, bin_neqS, callA_ok ok_rtextb, Keep, ActB, LdB, show ∀ a b, Nat.div a b = a / b from fun _ _ => rfl, show ∀ a b, Nat.mod a b = a % b from fun _ _ => rfl, show Nat.beq 0 1 = false from rfl, show Nat.beq 1 1 = true from rfl]
  refine ⟨_, _, _, ⟨rfl, rfl, rfl⟩, ?_⟩
  simp [sv_setD, sp, sx]
  exact ⟨hA', hL'⟩

theorem w24c (s10 : sv env 10 = int64 0) (s16 : sv env 16 = int64 0) (q : sv env 193 = .bool true) (hA : ActB 13 acts) (hL : LdB 13 lds)
    (b1 : beginFn Tryd.prog 21 [int64 0] = some (frOf Tryd.prog 21 [int64 0])) (R1 : R ⟨frOf Tryd.prog 21 [int64 0], [], h⟩ = .done (int64 0) h) :
    ∃ env' acts' lds', runE Tryd.prog R 13 writes_24c ⟨acts, lds, [], rid, env, h⟩ = some ⟨acts', lds', [], rid, env', h⟩ ∧ sv env' 201 = .bool true ∧ Keep env env' ∧ ActB 21 acts' ∧ LdB 21 lds' := by
  have la16383 : ∀ hh, lookAgain Tryd.prog hh 16383 lds = true := fun hh => again_of fun x hx => bit_low (n := 13) (by decide) (hL x hx)
  have la65535 : ∀ hh, lookAgain Tryd.prog hh 65535 lds = true := fun hh => again_of fun x hx => bit_low (n := 13) (by decide) (hL x hx)
  have hA' : ∀ a ∈ acts, a.i < 21 := fun x hx => Nat.lt_of_lt_of_le (hA x hx) (by decide)
  have hL' : ∀ a ∈ lds, a.i < 21 := fun x hx => Nat.lt_of_lt_of_le (hL x hx) (by decide)
  simp [writes_24c, runE, stepE, stepD, kindOf, lookBack, lookAgain, actO, insT, putT, remAl, bit, runOps, wanted_no, wanted_sv, ev_tm, ev_vl, sv_setD, sv_set, setD_none, qev_mov, qev_bin, qev_un, qev_lenI, qev_lenS, qev_pick, qev_load1, qev_idxSl, idx2_sl, idxA2_ptr, opt_some, bin_add, bin_sub, bin_mul, bin_lss, bin_leq, bin_gtr, bin_geq, bin_eql, bin_neq, un_not, un_neg, qev_callv, qev_new1, qev_store1, qev_nilC, nilC_ptr, qev_fld, fld0, fldN, qev_extract, nth0, nth1, nth2, qev_eqPtr, sameP_nil, notIf, s10, s16, q, b1, R1, la16383, la65535, hz, callA_ok ok_num, Keep, ActB, LdB, show wrapA .i64 0 = 0 from rfl, show ∀ a b, Nat.div a b = a / b from fun _ _ => rfl, show ∀ a b, Nat.mod a b = a % b from fun _ _ => rfl, show Nat.beq 0 1 = false from rfl, show Nat.beq 1 1 = true from rfl]
  refine ⟨_, _, _, ⟨rfl, rfl, rfl⟩, ?_⟩
  simp [sv_setD, s10, s16]
  exact ⟨hA', hL'⟩

theorem w24d (q : sv env 201 = .bool true) (hL : LdB 21 lds)
    (b1 : beginFn Tryd.prog 4 [] = some (frOf Tryd.prog 4 [])) (R1 : R ⟨frOf Tryd.prog 4 [], [], h⟩ = .done (.bool true) h) :
    ∃ env' acts' lds', runE Tryd.prog R 21 writes_24d ⟨acts, lds, [], rid, env, h⟩ = some ⟨acts', lds', [], rid, env', h⟩ ∧ sv env' 2 = .bool true := by
  have la : ∀ hh, lookAgain Tryd.prog hh 2097151 lds = true := fun hh => again_of fun x hx => bit_low (n := 21) (by decide) (hL x hx)
  simp [writes_24d, runE, stepE, stepD, kindOf, lookBack, lookAgain, actO, insT, putT, remAl, bit, runOps, wanted_no, wanted_sv, ev_tm, ev_vl, sv_setD, sv_set, setD_none, qev_mov, qev_bin, qev_un, qev_lenI, qev_lenS, qev_pick, qev_load1, qev_idxSl, idx2_sl, idxA2_ptr, opt_some, bin_add, bin_sub, bin_mul, bin_lss, bin_leq, bin_gtr, bin_geq, bin_eql, bin_neq, un_not, un_neg, qev_callv, qev_new1, qev_store1, qev_nilC, nilC_ptr, qev_fld, fld0, fldN, qev_extract, nth0, nth1, nth2, qev_eqPtr, sameP_nil, notIf, q, b1, R1, la, hz, callA_ok ok_known, show ∀ a b, Nat.div a b = a / b from fun _ _ => rfl, show ∀ a b, Nat.mod a b = a % b from fun _ _ => rfl, show Nat.beq 0 1 = false from rfl, show Nat.beq 1 1 = true from rfl]

theorem w19a {v v' : AV} {F : List UInt8} (sp : sv env 3 = .ptr a 0 0) (sx : sv env 7 = v)
    (bS : ∀ env x, ev env x = v → evalOp Tryd.prog (.bytesStr x) env h = .val (strOf F) h) (bS1 : ∀ env x, ev env x = v → evalOp Tryd.prog (.bytesStr x) env h1 = .val (strOf F) h1) (bS2 : ∀ env x, ev env x = v' → evalOp Tryd.prog (.bytesStr x) env h1 = .val (strOf F) h1)
    (l : ∀ env x, ev env x = .ptr a 0 0 → evalOp Tryd.prog (.loadN 3 x) env h = .val (.agg [int64 r, strOf s, int64 n]) h) (b1 : beginFn Tryd.prog 22 [.agg [int64 r, strOf s, int64 n]] = some (frOf Tryd.prog 22 [.agg [int64 r, strOf s, int64 n]])) (R1 : R ⟨frOf Tryd.prog 22 [.agg [int64 r, strOf s, int64 n]], [], h⟩ = .done (v') h1) :
    ∃ env' acts lds, runE Tryd.prog R 0 writes_19a ⟨[], [], [], rid, env, h⟩ = some ⟨acts, lds, [], rid, env', h1⟩ ∧ sv env' 148 = .bool false ∧ Keep env env' ∧ ActB 7 acts ∧ LdB 7 lds := by
  simp [writes_19a, runE, stepE, stepD, kindOf, lookBack, lookAgain, actO, insT, putT, remAl, bit, runOps, wanted_no, wanted_sv, ev_tm, ev_vl, sv_setD, sv_set, setD_none, qev_mov, qev_bin, qev_un, qev_lenI, qev_lenS, qev_pick, qev_load1, qev_idxSl, idx2_sl, idxA2_ptr, opt_some, bin_add, bin_sub, bin_mul, bin_lss, bin_leq, bin_gtr, bin_geq, bin_eql, bin_neq, un_not, un_neg, qev_callv, qev_new1, qev_store1, qev_nilC, nilC_ptr, qev_fld, fld0, fldN, qev_extract, nth0, nth1, nth2, qev_eqPtr, sameP_nil, notIf, sp, sx, bS, bS1, bS2, l, b1, R1, hz, eqAV_str, bin_eqlS, bin_neqS, callA_ok ok_rputn, Keep, ActB, LdB, show ∀ a b, Nat.div a b = a / b from fun _ _ => rfl, show ∀ a b, Nat.mod a b = a % b from fun _ _ => rfl, show Nat.beq 0 1 = false from rfl, show Nat.beq 1 1 = true from rfl]
  refine ⟨_, _, _, ⟨rfl, rfl, rfl⟩, ?_⟩
  simp [sv_setD, sp, sx]

theorem w19b {F : List UInt8} (sp : sv env 3 = .ptr a 0 0) (sx : sv env 13 = strOf F) (q : sv env 148 = .bool false) (hA : ActB 7 acts) (hL : LdB 7 lds)
    (l : ∀ env x, ev env x = .ptr a 0 0 → evalOp Tryd.prog (.loadN 3 x) env h = .val (.agg [int64 r, strOf s, int64 n]) h) (b1 : beginFn Tryd.prog 23 [.agg [int64 r, strOf s, int64 n]] = some (frOf Tryd.prog 23 [.agg [int64 r, strOf s, int64 n]])) (R1 : R ⟨frOf Tryd.prog 23 [.agg [int64 r, strOf s, int64 n]], [], h⟩ = .done (strOf F) h1) :
    ∃ env' acts' lds', runE Tryd.prog R 7 writes_19b ⟨acts, lds, [], rid, env, h⟩ = some ⟨acts', lds', [], rid, env', h1⟩ ∧ sv env' 154 = .bool false ∧ Keep env env' ∧ ActB 13 acts' ∧ LdB 13 lds' := by
  have lb127 : ∀ op env v, lookBack Tryd.prog op env v 127 acts = true := fun op env v => back_of fun x hx => bit_low (n := 7) (by decide) (hA x hx)
  have la383 : ∀ hh, lookAgain Tryd.prog hh 383 lds = true := fun hh => again_of fun x hx => bit_low (n := 7) (by decide) (hL x hx)
  have hA' : ∀ a ∈ acts, a.i < 13 := fun x hx => Nat.lt_of_lt_of_le (hA x hx) (by decide)
  have hL' : ∀ a ∈ lds, a.i < 13 := fun x hx => Nat.lt_of_lt_of_le (hL x hx) (by decide)
  simp [writes_19b, runE, stepE, stepD, kindOf, lookBack, lookAgain, actO, insT, putT, remAl, bit, runOps, wanted_no, wanted_sv, ev_tm, ev_vl, sv_setD, sv_set, setD_none, qev_mov, qev_bin, qev_un, qev_lenI, qev_lenS, qev_pick, qev_load1, qev_idxSl, idx2_sl, idxA2_ptr, opt_some, bin_add, bin_sub, bin_mul, bin_lss, bin_leq, bin_gtr, bin_geq, bin_eql, bin_neq, un_not, un_neg, qev_callv, qev_new1, qev_store1, qev_nilC, nilC_ptr, qev_fld, fld0, fldN, qev_extract, nth0, nth1, nth2, qev_eqPtr, sameP_nil, notIf, sp, sx, q, l, b1, R1, lb127, la383, hz, bin_eqlS, bin_neqS, callA_ok ok_rtextn, Keep, ActB, LdB, show ∀ a b, Nat.div a b = a / b from fun _ _ => rfl, show ∀ a b, Nat.mod a b = a % b from fun _ _ => rfl, show Nat.beq 0 1 = false from rfl, show Nat.beq 1 1 = true from rfl]
  refine ⟨_, _, _, ⟨rfl, rfl, rfl⟩, ?_⟩
  simp [sv_setD, sp, sx]
  exact ⟨hA', hL'⟩

theorem w19c (s8 : sv env 8 = int64 0) (s14 : sv env 14 = int64 0) (q : sv env 154 = .bool false) (hA : ActB 13 acts) (hL : LdB 13 lds)
    (b1 : beginFn Tryd.prog 21 [int64 0] = some (frOf Tryd.prog 21 [int64 0])) (R1 : R ⟨frOf Tryd.prog 21 [int64 0], [], h⟩ = .done (int64 0) h) :
    ∃ env' acts' lds', runE Tryd.prog R 13 writes_19c ⟨acts, lds, [], rid, env, h⟩ = some ⟨acts', lds', [], rid, env', h⟩ ∧ sv env' 161 = .bool false ∧ Keep env env' ∧ ActB 20 acts' ∧ LdB 20 lds' := by
  have la16383 : ∀ hh, lookAgain Tryd.prog hh 16383 lds = true := fun hh => again_of fun x hx => bit_low (n := 13) (by decide) (hL x hx)
  have la65535 : ∀ hh, lookAgain Tryd.prog hh 65535 lds = true := fun hh => again_of fun x hx => bit_low (n := 13) (by decide) (hL x hx)
  have hA' : ∀ a ∈ acts, a.i < 20 := fun x hx => Nat.lt_of_lt_of_le (hA x hx) (by decide)
  have hL' : ∀ a ∈ lds, a.i < 20 := fun x hx => Nat.lt_of_lt_of_le (hL x hx) (by decide)
  simp [writes_19c, runE, stepE, stepD, kindOf, lookBack, lookAgain, actO, insT, putT, remAl, bit, runOps, wanted_no, wanted_sv, ev_tm, ev_vl, sv_setD, sv_set, setD_none, qev_mov, qev_bin, qev_un, qev_lenI, qev_lenS, qev_pick, qev_load1, qev_idxSl, idx2_sl, idxA2_ptr, opt_some, bin_add, bin_sub, bin_mul, bin_lss, bin_leq, bin_gtr, bin_geq, bin_eql, bin_neq, un_not, un_neg, qev_callv, qev_new1, qev_store1, qev_nilC, nilC_ptr, qev_fld, fld0, fldN, qev_extract, nth0, nth1, nth2, qev_eqPtr, sameP_nil, notIf, s8, s14, q, b1, R1, la16383, la65535, hz, callA_ok ok_num, Keep, ActB, LdB, show wrapA .i64 0 = 0 from rfl, show ∀ a b, Nat.div a b = a / b from fun _ _ => rfl, show ∀ a b, Nat.mod a b = a % b from fun _ _ => rfl, show Nat.beq 0 1 = false from rfl, show Nat.beq 1 1 = true from rfl]
  refine ⟨_, _, _, ⟨rfl, rfl, rfl⟩, ?_⟩
  simp [sv_setD, s8, s14]
  exact ⟨hA', hL'⟩

theorem w14a {v v' : AV} {F : List UInt8} (sp : sv env 1 = .ptr p 0 0) (sx : sv env 5 = v)
    (bS : ∀ env x, ev env x = v → evalOp Tryd.prog (.bytesStr x) env h = .val (strOf F) h) (bS1 : ∀ env x, ev env x = v → evalOp Tryd.prog (.bytesStr x) env h1 = .val (strOf F) h1) (bS2 : ∀ env x, ev env x = v' → evalOp Tryd.prog (.bytesStr x) env h1 = .val (strOf F) h1)
    (l : ∀ env x, ev env x = .ptr p 0 0 → evalOp Tryd.prog (.loadN 5 x) env h = .val (.agg [int64 g, int64 r, strOf s, int64 n, int64 i]) h) (b1 : beginFn Tryd.prog 18 [.agg [int64 g, int64 r, strOf s, int64 n, int64 i]] = some (frOf Tryd.prog 18 [.agg [int64 g, int64 r, strOf s, int64 n, int64 i]])) (R1 : R ⟨frOf Tryd.prog 18 [.agg [int64 g, int64 r, strOf s, int64 n, int64 i]], [], h⟩ = .done (v') h1) :
    ∃ env' acts lds, runE Tryd.prog R 0 writes_14a ⟨[], [], [], rid, env, h⟩ = some ⟨acts, lds, [], rid, env', h1⟩ ∧ sv env' 91 = .bool false ∧ Keep env env' ∧ ActB 7 acts ∧ LdB 7 lds := by
  simp [writes_14a, runE, stepE, stepD, kindOf, lookBack, lookAgain, actO, insT, putT, remAl, bit, runOps, wanted_no, wanted_sv, ev_tm, ev_vl, sv_setD, sv_set, setD_none, qev_mov, qev_bin, qev_un, qev_lenI, qev_lenS, qev_pick, qev_load1, qev_idxSl, idx2_sl, idxA2_ptr, opt_some, bin_add, bin_sub, bin_mul, bin_lss, bin_leq, bin_gtr, bin_geq, bin_eql, bin_neq, un_not, un_neg, qev_callv, qev_new1, qev_store1, qev_nilC, nilC_ptr, qev_fld, fld0, fldN, qev_extract, nth0, nth1, nth2, qev_eqPtr, sameP_nil, notIf, sp, sx, bS, bS1, bS2, l, b1, R1, hz, eqAV_str, bin_eqlS, bin_neqS, callA_ok ok_rput, Keep, ActB, LdB, show ∀ a b, Nat.div a b = a / b from fun _ _ => rfl, show ∀ a b, Nat.mod a b = a % b from fun _ _ => rfl, show Nat.beq 0 1 = false from rfl, show Nat.beq 1 1 = true from rfl]
  refine ⟨_, _, _, ⟨rfl, rfl, rfl⟩, ?_⟩
  simp [sv_setD, sp, sx]

theorem w14b {F : List UInt8} (sp : sv env 1 = .ptr p 0 0) (sx : sv env 11 = strOf F) (q : sv env 91 = .bool false) (hA : ActB 7 acts) (hL : LdB 7 lds)
    (l : ∀ env x, ev env x = .ptr p 0 0 → evalOp Tryd.prog (.loadN 5 x) env h = .val (.agg [int64 g, int64 r, strOf s, int64 n, int64 i]) h) (b1 : beginFn Tryd.prog 19 [.agg [int64 g, int64 r, strOf s, int64 n, int64 i]] = some (frOf Tryd.prog 19 [.agg [int64 g, int64 r, strOf s, int64 n, int64 i]])) (R1 : R ⟨frOf Tryd.prog 19 [.agg [int64 g, int64 r, strOf s, int64 n, int64 i]], [], h⟩ = .done (strOf F) h1) :
    ∃ env' acts' lds', runE Tryd.prog R 7 writes_14b ⟨acts, lds, [], rid, env, h⟩ = some ⟨acts', lds', [], rid, env', h1⟩ ∧ sv env' 97 = .bool false ∧ Keep env env' ∧ ActB 13 acts' ∧ LdB 13 lds' := by
  have lb127 : ∀ op env v, lookBack Tryd.prog op env v 127 acts = true := fun op env v => back_of fun x hx => bit_low (n := 7) (by decide) (hA x hx)
  have la383 : ∀ hh, lookAgain Tryd.prog hh 383 lds = true := fun hh => again_of fun x hx => bit_low (n := 7) (by decide) (hL x hx)
  have hA' : ∀ a ∈ acts, a.i < 13 := fun x hx => Nat.lt_of_lt_of_le (hA x hx) (by decide)
  have hL' : ∀ a ∈ lds, a.i < 13 := fun x hx => Nat.lt_of_lt_of_le (hL x hx) (by decide)
  simp [writes_14b, runE, stepE, stepD, kindOf, lookBack, lookAgain, actO, insT, putT, remAl, bit, runOps, wanted_no, wanted_sv, ev_tm, ev_vl, sv_setD, sv_set, setD_none, qev_mov, qev_bin, qev_un, qev_lenI, qev_lenS, qev_pick, qev_load1, qev_idxSl, idx2_sl, idxA2_ptr, opt_some, bin_add, bin_sub, bin_mul, bin_lss, bin_leq, bin_gtr, bin_geq, bin_eql, bin_neq, un_not, un_neg, qev_callv, qev_new1, qev_store1, qev_nilC, nilC_ptr, qev_fld, fld0, fldN, qev_extract, nth0, nth1, nth2, qev_eqPtr, sameP_nil, notIf, sp, sx, q, l, b1, R1, lb127, la383, hz, bin_eqlS, bin_neqS, callA_ok ok_rtext, Keep, ActB, LdB, show ∀ a b, Nat.div a b = a / b from fun _ _ => rfl, show ∀ a b, Nat.mod a b = a % b from fun _ _ => rfl, show Nat.beq 0 1 = false from rfl, show Nat.beq 1 1 = true from rfl]
  refine ⟨_, _, _, ⟨rfl, rfl, rfl⟩, ?_⟩
  simp [sv_setD, sp, sx]
  exact ⟨hA', hL'⟩

theorem w14c {F : List UInt8} (sp : sv env 1 = .ptr p 0 0) (sx : sv env 17 = strOf F) (q : sv env 97 = .bool false) (hA : ActB 13 acts) (hL : LdB 13 lds)
    (l : ∀ env x, ev env x = .ptr p 0 0 → evalOp Tryd.prog (.loadN 5 x) env h = .val (.agg [int64 g, int64 r, strOf s, int64 n, int64 i]) h) (b1 : beginFn Tryd.prog 20 [.agg [int64 g, int64 r, strOf s, int64 n, int64 i]] = some (frOf Tryd.prog 20 [.agg [int64 g, int64 r, strOf s, int64 n, int64 i]])) (R1 : R ⟨frOf Tryd.prog 20 [.agg [int64 g, int64 r, strOf s, int64 n, int64 i]], [], h⟩ = .done (strOf F) h1) :
    ∃ env' acts' lds', runE Tryd.prog R 13 writes_14c ⟨acts, lds, [], rid, env, h⟩ = some ⟨acts', lds', [], rid, env', h1⟩ ∧ sv env' 103 = .bool false ∧ Keep env env' ∧ ActB 19 acts' ∧ LdB 19 lds' := by
  have lb8191 : ∀ op env v, lookBack Tryd.prog op env v 8191 acts = true := fun op env v => back_of fun x hx => bit_low (n := 13) (by decide) (hA x hx)
  have la24575 : ∀ hh, lookAgain Tryd.prog hh 24575 lds = true := fun hh => again_of fun x hx => bit_low (n := 13) (by decide) (hL x hx)
  have hA' : ∀ a ∈ acts, a.i < 19 := fun x hx => Nat.lt_of_lt_of_le (hA x hx) (by decide)
  have hL' : ∀ a ∈ lds, a.i < 19 := fun x hx => Nat.lt_of_lt_of_le (hL x hx) (by decide)
  simp [writes_14c, runE, stepE, stepD, kindOf, lookBack, lookAgain, actO, insT, putT, remAl, bit, runOps, wanted_no, wanted_sv, ev_tm, ev_vl, sv_setD, sv_set, setD_none, qev_mov, qev_bin, qev_un, qev_lenI, qev_lenS, qev_pick, qev_load1, qev_idxSl, idx2_sl, idxA2_ptr, opt_some, bin_add, bin_sub, bin_mul, bin_lss, bin_leq, bin_gtr, bin_geq, bin_eql, bin_neq, un_not, un_neg, qev_callv, qev_new1, qev_store1, qev_nilC, nilC_ptr, qev_fld, fld0, fldN, qev_extract, nth0, nth1, nth2, qev_eqPtr, sameP_nil, notIf, sp, sx, q, l, b1, R1, lb8191, la24575, hz, bin_eqlS, bin_neqS, callA_ok ok_rkey, Keep, ActB, LdB, show ∀ a b, Nat.div a b = a / b from fun _ _ => rfl, show ∀ a b, Nat.mod a b = a % b from fun _ _ => rfl, show Nat.beq 0 1 = false from rfl, show Nat.beq 1 1 = true from rfl]
  refine ⟨_, _, _, ⟨rfl, rfl, rfl⟩, ?_⟩
  simp [sv_setD, sp, sx]
  exact ⟨hA', hL'⟩

theorem w14d (s6 : sv env 6 = int64 0) (s12 : sv env 12 = int64 0) (s18 : sv env 18 = int64 0) (q : sv env 103 = .bool false) (hA : ActB 19 acts) (hL : LdB 19 lds)
    (b1 : beginFn Tryd.prog 21 [int64 0] = some (frOf Tryd.prog 21 [int64 0])) (R1 : R ⟨frOf Tryd.prog 21 [int64 0], [], h⟩ = .done (int64 0) h) :
    ∃ env' acts' lds', runE Tryd.prog R 19 writes_14d ⟨acts, lds, [], rid, env, h⟩ = some ⟨acts', lds', [], rid, env', h⟩ ∧ sv env' 113 = .bool false ∧ Keep env env' ∧ ActB 29 acts' ∧ LdB 29 lds' := by
  have la1048575 : ∀ hh, lookAgain Tryd.prog hh 1048575 lds = true := fun hh => again_of fun x hx => bit_low (n := 19) (by decide) (hL x hx)
  have la4194303 : ∀ hh, lookAgain Tryd.prog hh 4194303 lds = true := fun hh => again_of fun x hx => bit_low (n := 19) (by decide) (hL x hx)
  have la25165823 : ∀ hh, lookAgain Tryd.prog hh 25165823 lds = true := fun hh => again_of fun x hx => bit_low (n := 19) (by decide) (hL x hx)
  have hA' : ∀ a ∈ acts, a.i < 29 := fun x hx => Nat.lt_of_lt_of_le (hA x hx) (by decide)
  have hL' : ∀ a ∈ lds, a.i < 29 := fun x hx => Nat.lt_of_lt_of_le (hL x hx) (by decide)
  simp [writes_14d, runE, stepE, stepD, kindOf, lookBack, lookAgain, actO, insT, putT, remAl, bit, runOps, wanted_no, wanted_sv, ev_tm, ev_vl, sv_setD, sv_set, setD_none, qev_mov, qev_bin, qev_un, qev_lenI, qev_lenS, qev_pick, qev_load1, qev_idxSl, idx2_sl, idxA2_ptr, opt_some, bin_add, bin_sub, bin_mul, bin_lss, bin_leq, bin_gtr, bin_geq, bin_eql, bin_neq, un_not, un_neg, qev_callv, qev_new1, qev_store1, qev_nilC, nilC_ptr, qev_fld, fld0, fldN, qev_extract, nth0, nth1, nth2, qev_eqPtr, sameP_nil, notIf, s6, s12, s18, q, b1, R1, la1048575, la4194303, la25165823, hz, callA_ok ok_num, Keep, ActB, LdB, show wrapA .i64 0 = 0 from rfl, show ∀ a b, Nat.div a b = a / b from fun _ _ => rfl, show ∀ a b, Nat.mod a b = a % b from fun _ _ => rfl, show Nat.beq 0 1 = false from rfl, show Nat.beq 1 1 = true from rfl]
  refine ⟨_, _, _, ⟨rfl, rfl, rfl⟩, ?_⟩
  simp [sv_setD, s6, s12, s18]
  exact ⟨hA', hL'⟩

theorem w11a {c : Bool} (sp : sv env 1 = .ptr p 0 0)
    (l : ∀ env x, ev env x = .ptr p 0 0 → evalOp Tryd.prog (.loadN 5 x) env h = .val (.agg [int64 g, int64 r, strOf s, int64 n, int64 i]) h) (l' : ∀ env x, ev env x = .ptr p 0 0 → evalOp Tryd.prog (.loadN 5 x) env h1 = .val (.agg [int64 g, int64 r, strOf s, int64 n, int64 i]) h1) (b1 : beginFn Tryd.prog 12 [.agg [int64 g, int64 r, strOf s, int64 n, int64 i]] = some (frOf Tryd.prog 12 [.agg [int64 g, int64 r, strOf s, int64 n, int64 i]])) (R1 : R ⟨frOf Tryd.prog 12 [.agg [int64 g, int64 r, strOf s, int64 n, int64 i]], [], h⟩ = .done (.bool c) h1) (b2 : beginFn Tryd.prog 13 [.agg [int64 g, int64 r, strOf s, int64 n, int64 i]] = some (frOf Tryd.prog 13 [.agg [int64 g, int64 r, strOf s, int64 n, int64 i]])) (R2 : R ⟨frOf Tryd.prog 13 [.agg [int64 g, int64 r, strOf s, int64 n, int64 i]], [], h1⟩ = .done (.bool c) h2) :
    ∃ env' acts' lds', runE Tryd.prog R 0 writes_11a ⟨[], [], [], rid, env, h⟩ = some ⟨acts', lds', [], rid, env', h2⟩ ∧ sv env' 69 = .bool false ∧ Keep env env' ∧ ActB 6 acts' ∧ LdB 6 lds' := by
  simp [writes_11a, runE, stepE, stepD, kindOf, lookBack, lookAgain, actO, insT, putT, remAl, bit, runOps, wanted_no, wanted_sv, ev_tm, ev_vl, sv_setD, sv_set, setD_none, qev_mov, qev_bin, qev_un, qev_lenI, qev_lenS, qev_pick, qev_load1, qev_idxSl, idx2_sl, idxA2_ptr, opt_some, bin_add, bin_sub, bin_mul, bin_lss, bin_leq, bin_gtr, bin_geq, bin_eql, bin_neq, un_not, un_neg, qev_callv, qev_new1, qev_store1, qev_nilC, nilC_ptr, qev_fld, fld0, fldN, qev_extract, nth0, nth1, nth2, qev_eqPtr, sameP_nil, notIf, sp, l, l', b1, b2, R1, R2, hz, eqAV_five, neqBool, callA_ok ok_stamp, callA_ok ok_rstamp, Keep, ActB, LdB, show ∀ a b, Nat.div a b = a / b from fun _ _ => rfl, show ∀ a b, Nat.mod a b = a % b from fun _ _ => rfl, show Nat.beq 0 1 = false from rfl, show Nat.beq 1 1 = true from rfl]
  refine ⟨_, _, _, ⟨rfl, rfl, rfl⟩, ?_⟩
  simp [sv_setD, sp]

theorem w11b {c : Bool} (sp : sv env 3 = .ptr a 0 0) (q : sv env 69 = .bool false) (hA : ActB 6 acts) (hL : LdB 6 lds)
    (l : ∀ env x, ev env x = .ptr a 0 0 → evalOp Tryd.prog (.loadN 3 x) env h = .val (.agg [int64 r, strOf s, int64 n]) h) (l' : ∀ env x, ev env x = .ptr a 0 0 → evalOp Tryd.prog (.loadN 3 x) env h1 = .val (.agg [int64 r, strOf s, int64 n]) h1) (b1 : beginFn Tryd.prog 14 [.agg [int64 r, strOf s, int64 n]] = some (frOf Tryd.prog 14 [.agg [int64 r, strOf s, int64 n]])) (R1 : R ⟨frOf Tryd.prog 14 [.agg [int64 r, strOf s, int64 n]], [], h⟩ = .done (.bool c) h1) (b2 : beginFn Tryd.prog 15 [.agg [int64 r, strOf s, int64 n]] = some (frOf Tryd.prog 15 [.agg [int64 r, strOf s, int64 n]])) (R2 : R ⟨frOf Tryd.prog 15 [.agg [int64 r, strOf s, int64 n]], [], h1⟩ = .done (.bool c) h2) :
    ∃ env' acts' lds', runE Tryd.prog R 6 writes_11b ⟨acts, lds, [], rid, env, h⟩ = some ⟨acts', lds', [], rid, env', h2⟩ ∧ sv env' 76 = .bool false ∧ Keep env env' ∧ ActB 13 acts' ∧ LdB 13 lds' := by
  have lb63 : ∀ op env v, lookBack Tryd.prog op env v 63 acts = true := fun op env v => back_of fun x hx => bit_low (n := 6) (by decide) (hA x hx)
  have la127 : ∀ hh, lookAgain Tryd.prog hh 127 lds = true := fun hh => again_of fun x hx => bit_low (n := 6) (by decide) (hL x hx)
  have la511 : ∀ hh, lookAgain Tryd.prog hh 511 lds = true := fun hh => again_of fun x hx => bit_low (n := 6) (by decide) (hL x hx)
  have hA' : ∀ a ∈ acts, a.i < 13 := fun x hx => Nat.lt_of_lt_of_le (hA x hx) (by decide)
  have hL' : ∀ a ∈ lds, a.i < 13 := fun x hx => Nat.lt_of_lt_of_le (hL x hx) (by decide)
  simp [writes_11b, runE, stepE, stepD, kindOf, lookBack, lookAgain, actO, insT, putT, remAl, bit, runOps, wanted_no, wanted_sv, ev_tm, ev_vl, sv_setD, sv_set, setD_none, qev_mov, qev_bin, qev_un, qev_lenI, qev_lenS, qev_pick, qev_load1, qev_idxSl, idx2_sl, idxA2_ptr, opt_some, bin_add, bin_sub, bin_mul, bin_lss, bin_leq, bin_gtr, bin_geq, bin_eql, bin_neq, un_not, un_neg, qev_callv, qev_new1, qev_store1, qev_nilC, nilC_ptr, qev_fld, fld0, fldN, qev_extract, nth0, nth1, nth2, qev_eqPtr, sameP_nil, notIf, sp, q, l, l', b1, b2, R1, R2, lb63, la127, la511, hz, eqAV_three, neqBool, callA_ok ok_name, callA_ok ok_rname, Keep, ActB, LdB, show ∀ a b, Nat.div a b = a / b from fun _ _ => rfl, show ∀ a b, Nat.mod a b = a % b from fun _ _ => rfl, show Nat.beq 0 1 = false from rfl, show Nat.beq 1 1 = true from rfl]
  refine ⟨_, _, _, ⟨rfl, rfl, rfl⟩, ?_⟩
  simp [sv_setD, sp]
  exact ⟨hA', hL'⟩

theorem w11c {c : Bool} (sp : sv env 4 = .ptr b 0 0) (q : sv env 76 = .bool false) (hA : ActB 13 acts) (hL : LdB 13 lds)
    (l : ∀ env x, ev env x = .ptr b 0 0 → evalOp Tryd.prog (.loadN 2 x) env h = .val (.agg [int64 r, strOf s]) h) (l' : ∀ env x, ev env x = .ptr b 0 0 → evalOp Tryd.prog (.loadN 2 x) env h1 = .val (.agg [int64 r, strOf s]) h1) (b1 : beginFn Tryd.prog 16 [.agg [int64 r, strOf s]] = some (frOf Tryd.prog 16 [.agg [int64 r, strOf s]])) (R1 : R ⟨frOf Tryd.prog 16 [.agg [int64 r, strOf s]], [], h⟩ = .done (.bool c) h1) (b2 : beginFn Tryd.prog 17 [.agg [int64 r, strOf s]] = some (frOf Tryd.prog 17 [.agg [int64 r, strOf s]])) (R2 : R ⟨frOf Tryd.prog 17 [.agg [int64 r, strOf s]], [], h1⟩ = .done (.bool c) h2) :
    ∃ env' acts' lds', runE Tryd.prog R 13 writes_11c ⟨acts, lds, [], rid, env, h⟩ = some ⟨acts', lds', [], rid, env', h2⟩ ∧ sv env' 82 = .bool false ∧ Keep env env' ∧ ActB 19 acts' ∧ LdB 19 lds' := by
  have lb8191 : ∀ op env v, lookBack Tryd.prog op env v 8191 acts = true := fun op env v => back_of fun x hx => bit_low (n := 13) (by decide) (hA x hx)
  have la16383 : ∀ hh, lookAgain Tryd.prog hh 16383 lds = true := fun hh => again_of fun x hx => bit_low (n := 13) (by decide) (hL x hx)
  have la65535 : ∀ hh, lookAgain Tryd.prog hh 65535 lds = true := fun hh => again_of fun x hx => bit_low (n := 13) (by decide) (hL x hx)
  have hA' : ∀ a ∈ acts, a.i < 19 := fun x hx => Nat.lt_of_lt_of_le (hA x hx) (by decide)
  have hL' : ∀ a ∈ lds, a.i < 19 := fun x hx => Nat.lt_of_lt_of_le (hL x hx) (by decide)
  simp [writes_11c, runE, stepE, stepD, kindOf, lookBack, lookAgain, actO, insT, putT, remAl, bit, runOps, wanted_no, wanted_sv, ev_tm, ev_vl, sv_setD, sv_set, setD_none, qev_mov, qev_bin, qev_un, qev_lenI, qev_lenS, qev_pick, qev_load1, qev_idxSl, idx2_sl, idxA2_ptr, opt_some, bin_add, bin_sub, bin_mul, bin_lss, bin_leq, bin_gtr, bin_geq, bin_eql, bin_neq, un_not, un_neg, qev_callv, qev_new1, qev_store1, qev_nilC, nilC_ptr, qev_fld, fld0, fldN, qev_extract, nth0, nth1, nth2, qev_eqPtr, sameP_nil, notIf, sp, q, l, l', b1, b2, R1, R2, lb8191, la16383, la65535, hz, eqAV_two, neqBool, callA_ok ok_branch, callA_ok ok_rbranch, Keep, ActB, LdB, show ∀ a b, Nat.div a b = a / b from fun _ _ => rfl, show ∀ a b, Nat.mod a b = a % b from fun _ _ => rfl, show Nat.beq 0 1 = false from rfl, show Nat.beq 1 1 = true from rfl]
  refine ⟨_, _, _, ⟨rfl, rfl, rfl⟩, ?_⟩
  simp [sv_setD, sp]
  exact ⟨hA', hL'⟩

end
end Go.Proofs.YtjhgembcdndmkaaDoor.St
