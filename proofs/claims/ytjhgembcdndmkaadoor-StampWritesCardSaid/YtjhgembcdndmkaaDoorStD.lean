import Derived.Lib.LaidTab
import Derived.Test.YtjhgembcdndmkaaDoorStC
/- THE WALK'S PARTS, part D: what the functions of the law compute, over the abstract machine that stands beside this text. No condition. -/
set_option linter.unusedSimpArgs false
set_option linter.unusedVariables false
namespace Go.Proofs.YtjhgembcdndmkaaDoor.St
open Go Go.Proofs.YtjhgembcdndmkaaDoor.Am Go.Proofs

noncomputable def t6 : C := .seq (.seq (.region writes_23) (.cond (tm 180) (.seq (.drawn writes_24) .ret) .skip)) (.seq (.region writes_25) .ret)
noncomputable def t5 : C := .seq (.seq (.region writes_18) (.cond (tm 141) (.seq (.drawn writes_19) (.cond (tm 161) (.seq (.region writes_20) .ret) .skip)) (.seq (.region writes_21) (.cond (tm 178) (.seq (.region writes_22) .ret) .skip)))) t6
noncomputable def t4 : C := .seq (.seq (.region writes_13) (.cond (tm 84) (.seq (.drawn writes_14) (.cond (tm 113) (.seq (.region writes_15) .ret) .skip)) (.seq (.region writes_16) (.cond (tm 139) (.seq (.region writes_17) .ret) .skip)))) t5
noncomputable def t3 : C := .seq (.seq (.drawn writes_11) (.cond (tm 82) (.seq (.region writes_12) .ret) .skip)) t4
noncomputable def t2 : C := .seq (.region writes_4) (.seq (.region writes_5) (.seq (.region writes_6) (.seq (.region writes_7) (.seq (.region writes_8) (.seq (.region writes_9) (.seq (.region writes_10) t3))))))
noncomputable def t1 : C := .seq (.seq (.region writes_2) (.cond (tm 27) (.seq (.region writes_3) .ret) .skip)) t2
theorem writes_body : writes_fu.body = .seq (.region writes_0) (.seq (.drawn writes_1) t1) := rfl

/-- What is known between the law's questions. -/
structure Sit (t0 : Nat) (g r : Int) (s : List UInt8) (n i : Int) (p a b : Pos) (N : Nat) (env : T AV) (h : Hp) : Prop where
  R : Rws t0 g r s n i p a b h
  s1 : sv env 1 = .ptr p 0 0
  s3 : sv env 3 = .ptr a 0 0
  s4 : sv env 4 = .ptr b 0 0
  x : Mine N h (sv env 5) (orNil (stampB g r s n i) (pstampB g.toNat r.toNat s n.toNat i.toNat))
  e6 : sv env 6 = int64 (errB (stampB g r s n i))
  y : Mine N h (sv env 7) (orNil (nameB r s n) (pnameB r.toNat s n.toNat))
  e8 : sv env 8 = int64 (errB (nameB r s n))
  z : Mine N h (sv env 9) (orNil (branchB r s) (formB r.toNat s))
  e10 : sv env 10 = int64 (errB (branchB r s))
  t11 : sv env 11 = strOf (orNil (stampB g r s n i) (textB g.toNat r.toNat s n.toNat i.toNat))
  e12 : sv env 12 = int64 (errB (stampB g r s n i))
  t13 : sv env 13 = strOf (orNil (nameB r s n) (textnB r.toNat s n.toNat))
  e14 : sv env 14 = int64 (errB (nameB r s n))
  t15 : sv env 15 = strOf (orNil (branchB r s) (textbB r.toNat s))
  e16 : sv env 16 = int64 (errB (branchB r s))
  k17 : sv env 17 = strOf (orNil (stampB g r s n i) (keyB g.toNat r.toNat s n.toNat i.toNat))
  e18 : sv env 18 = int64 (errB (stampB g r s n i))

theorem Keep.refl (env : T AV) : Keep env env := ⟨rfl, rfl, rfl, rfl, rfl, rfl, rfl, rfl, rfl, rfl, rfl, rfl, rfl, rfl, rfl, rfl, rfl⟩
theorem Keep.trans {a b c : T AV} (h : Keep a b) (k : Keep b c) : Keep a c := by
  obtain ⟨k1, k3, k4, k5, k6, k7, k8, k9, k10, k11, k12, k13, k14, k15, k16, k17, k18⟩ := h
  obtain ⟨h1, h3, h4, h5, h6, h7, h8, h9, h10, h11, h12, h13, h14, h15, h16, h17, h18⟩ := k
  exact ⟨h1.trans k1, h3.trans k3, h4.trans k4, h5.trans k5, h6.trans k6, h7.trans k7, h8.trans k8, h9.trans k9, h10.trans k10, h11.trans k11, h12.trans k12, h13.trans k13, h14.trans k14, h15.trans k15, h16.trans k16, h17.trans k17, h18.trans k18⟩

theorem Dos_regionR {F : FuncId} {A : List KC} {l : List O} {env env' : T AV} {h h' : Hp} (hA : ∀ a ∈ A, CallR Tryd.prog a) (e : runR Tryd.prog A l env h = some ([], env', h')) : Dos Tryd.prog F (.region l) env h .go [] env' h' :=
  Dos.runGo (dr := true) A hA (by unfold runS; rw [e])

theorem Dos_seqRet {F : FuncId} {c d : C} {env env' : T AV} {h h' : Hp} {M : List AD} (q : Dos Tryd.prog F c env h .ret M env' h') : Dos Tryd.prog F (.seq c d) env h .ret M env' h' := fun cx k hr => by
  obtain ⟨k', q⟩ := q cx (.code d :: k) hr
  exact ⟨k', leads_seq.trans q⟩

theorem Dos_drawnE {F : FuncId} {R : St → Out} (hS : Sound Tryd.prog R) {l : List O} {env env' : T AV} {h h' : Hp} {acts : List Actor} {lds : List Ld} (hk : skipIds l h.next = h.next) (e : runE Tryd.prog R 0 l ⟨[], [], [], h.next, env, h⟩ = some ⟨acts, lds, [], h.next, env', h'⟩) : Dos Tryd.prog F (.drawn l) env h .go [] env' h' :=
  Dos.drawn hS (runDrawn_ofE (rid := h.next) (acts := acts) (lds := lds) (by rw [hk]; exact e))

section
variable {t0 : Nat} {g r : Int} {s : List UInt8} {n i : Int} {p a b : Pos} {N : Nat} {env env' : T AV} {h h' : Hp}

theorem Sit.keep (S : Sit t0 g r s n i p a b N env h) (k : Keep env env') (o : Only [] h h') : Sit t0 g r s n i p a b N env' h' := by
  obtain ⟨k1, k3, k4, k5, k6, k7, k8, k9, k10, k11, k12, k13, k14, k15, k16, k17, k18⟩ := k
  exact ⟨S.R.more o, k1.trans S.s1, k3.trans S.s3, k4.trans S.s4, by rw [k5]; exact S.x.more o, k6.trans S.e6, by rw [k7]; exact S.y.more o, k8.trans S.e8, by rw [k9]; exact S.z.more o, k10.trans S.e10, k11.trans S.t11, k12.trans S.e12, k13.trans S.t13, k14.trans S.e14, k15.trans S.t15, k16.trans S.e16, k17.trans S.k17, k18.trans S.e18⟩

theorem num_fn (z : Int) (h : Hp) : AmFn Tryd.prog 21 [int64 z] h (int64 z) h := by
  obtain ⟨env1, e1, q⟩ : ∃ env', runS Tryd.prog true num_fu.body [] (setArgs .e 0 [int64 z]) h = some (.ret, [], env', h) ∧ sv env' 2 = int64 z := by
    simp [num_fu, num_0, num_1, runS, runR, Rs.seq, Rs.block, sv_args, runOps, wanted_no, wanted_sv, ev_tm, ev_vl, sv_setD, sv_set, setD_none, qev_mov, qev_bin, qev_un, qev_lenI, qev_lenS, qev_pick, qev_load1, qev_idxSl, idx2_sl, idxA2_ptr, opt_some, bin_add, bin_sub, bin_mul, bin_lss, bin_leq, bin_gtr, bin_geq, bin_eql, bin_neq, un_not, un_neg, qev_callv, qev_new1, qev_store1, qev_nilC, nilC_ptr, qev_fld, fld0, fldN, qev_extract, nth0, nth1, nth2, qev_eqPtr, sameP_nil, notIf]
  exact AmFn.dos num_code (by simp) (Dos.runRet _ (by simp) e1) (vs := [sv env1 2]) rfl q

theorem two_of {P : KC → Prop} {a b : KC} (h1 : P a) (h2 : P b) : ∀ x ∈ [a, b], P x := fun x hx => by
  simp only [List.mem_cons, List.not_mem_nil, or_false] at hx
  exact hx.elim (fun e => by subst e; exact h1) (fun e => by subst e; exact h2)

theorem branch_part (hs : s.length ≤ 9000) (hk : ∀ h, AmFn Tryd.prog 4 [] h (.bool true) h) (S : Sit t0 g r s n i p a b N env h) : ∃ env' h', Dos Tryd.prog 3 t6 env h .ret [] env' h' ∧ sv env' 2 = .bool true := by
  obtain ⟨h1, k1, o1⟩ := rbranch_fn r s hs h
  have l2 := S.R.l2
  have s4 := S.s4
  obtain ⟨env1, e1, q180, K1⟩ : ∃ env', runR Tryd.prog [⟨17, [.agg [int64 r, strOf s]], h, .bool (branchB r s), h1⟩] writes_23 env h = some ([], env', h1) ∧ sv env' 180 = .bool (branchB r s) ∧ Keep env env' := by
    simp [writes_23, runR, runOps, wanted_no, wanted_sv, ev_tm, ev_vl, sv_setD, sv_set, setD_none, qev_mov, qev_bin, qev_un, qev_lenI, qev_lenS, qev_pick, qev_load1, qev_idxSl, idx2_sl, idxA2_ptr, opt_some, bin_add, bin_sub, bin_mul, bin_lss, bin_leq, bin_gtr, bin_geq, bin_eql, bin_neq, un_not, un_neg, qev_callv, qev_new1, qev_store1, qev_nilC, nilC_ptr, qev_fld, fld0, fldN, qev_extract, nth0, nth1, nth2, qev_eqPtr, sameP_nil, notIf, s4, l2, callA_ok ok_rbranch, Keep]
  have d1 : Dos Tryd.prog 3 (.region writes_23) env h .go [] env1 h1 := Dos_regionR (fun x hx => by simp at hx; subst hx; exact .fn k1) e1
  have S1 := S.keep K1 o1
  clear K1 e1 k1 S l2 s4
  cases hb : branchB r s
  · rw [hb] at q180
    have z := S1.z
    have e10 := S1.e10
    have t15 := S1.t15
    have e16 := S1.e16
    rw [hb] at z e10 t15 e16
    have ll := z.sl.lenI (P := Tryd.prog) h1
    have kn := num_fn 2 h1
    have kk := hk h1
    obtain ⟨env2, f2, q2, K2⟩ := w25a (A := [⟨21, [int64 2], h1, int64 2, h1⟩, ⟨21, [int64 2], h1, int64 2, h1⟩, ⟨4, [], h1, .bool true, h1⟩]) rfl ll
    obtain ⟨env3, f3, q3, K3⟩ := w25b (A := [⟨21, [int64 2], h1, int64 2, h1⟩, ⟨21, [int64 2], h1, int64 2, h1⟩, ⟨4, [], h1, .bool true, h1⟩]) (env := env2) (h := h1) ((show sv env2 15 = sv env1 15 by obtain ⟨_, _, _, _, _, _, _, _, _, _, _, _, _, k, _, _, _⟩ := K2; exact k).trans t15) q2
    have K23 := K2.trans K3
    obtain ⟨env4, f4, q4, K4⟩ := w25c (A := [⟨21, [int64 2], h1, int64 2, h1⟩, ⟨4, [], h1, .bool true, h1⟩]) (env := env3) (h := h1) ((show sv env3 10 = sv env1 10 by obtain ⟨_, _, _, _, _, _, _, _, k, _, _, _, _, _, _, _, _⟩ := K23; exact k).trans e10) q3
    have K24 := K23.trans K4
    obtain ⟨env5, f5, q5, K5⟩ := w25d (A := [⟨4, [], h1, .bool true, h1⟩]) (env := env4) (h := h1) ((show sv env4 16 = sv env1 16 by obtain ⟨_, _, _, _, _, _, _, _, _, _, _, _, _, _, k, _, _⟩ := K24; exact k).trans e16) q4
    obtain ⟨env6, f6, q6⟩ := w25e (A := []) (env := env5) (h := h1) q5
    have e : runR Tryd.prog [⟨21, [int64 2], h1, int64 2, h1⟩, ⟨21, [int64 2], h1, int64 2, h1⟩, ⟨4, [], h1, .bool true, h1⟩] writes_25 env1 h1 = some ([], env6, h1) := by
      rw [writes_25_eq, runR_app f2, runR_app f3, runR_app f4, runR_app f5]; exact f6
    have d2 : Dos Tryd.prog 3 (.region writes_25) env1 h1 .go [] env6 h1 := Dos_regionR (fun x hx => by
      simp only [List.mem_cons, List.not_mem_nil, or_false] at hx
      rcases hx with e | e | e <;> subst e
      · exact .fn kn
      · exact .fn kn
      · exact .fn kk) e
    exact ⟨env6, h1, Dos.seq (M := []) (M1 := []) (Dos.seq (M := []) (M1 := []) d1 (Dos.cond (t := false) (by rw [ev_tm]; exact q180) (by simpa using Dos.skip))) (Dos.seq (M := []) (M1 := []) d2 Dos.ret), q6⟩
  · rw [hb] at q180
    obtain ⟨q0, q8, ql⟩ := branchB_le hb
    obtain ⟨r, rfl⟩ := Int.eq_ofNat_of_zero_le q0
    have z := S1.z
    have e10 := S1.e10
    have t15 := S1.t15
    have e16 := S1.e16
    rw [hb] at z e10 t15 e16
    obtain ⟨v2, h2, k2, m2, o2⟩ := rputb_fn r s (by omega) hs h1
    have S2 := S1.keep (Keep.refl _) o2
    obtain ⟨h3, k3, o3⟩ := rtextb_fn S2.R.T r s (by omega) hs
    have kn := num_fn 0 h3
    have kk := hk h3
    obtain ⟨R, hS, hR', hbg⟩ := rec_of (P := Tryd.prog) [⟨24, [.agg [int64 r, strOf s]], h1, v2, h2⟩, ⟨25, [.agg [int64 r, strOf s]], h2, strOf (textbB r s), h3⟩, ⟨21, [int64 0], h3, int64 0, h3⟩, ⟨4, [], h3, .bool true, h3⟩] (by
      intro a ha
      simp only [List.mem_cons, List.not_mem_nil, or_false] at ha
      rcases ha with e | e | e | e <;> subst e
      · exact k2
      · exact k3
      · exact kn
      · exact kk) (by simp)
    have R1 := hR' _ (List.mem_cons_self ..)
    have R2 := hR' _ (List.mem_cons_of_mem _ (List.mem_cons_self ..))
    have R3 := hR' _ (List.mem_cons_of_mem _ (List.mem_cons_of_mem _ (List.mem_cons_self ..)))
    have R4 := hR' _ (List.mem_cons_of_mem _ (List.mem_cons_of_mem _ (List.mem_cons_of_mem _ (List.mem_cons_self ..))))
    have b1 := hbg _ (List.mem_cons_self ..)
    have b2 := hbg _ (List.mem_cons_of_mem _ (List.mem_cons_self ..))
    have b3 := hbg _ (List.mem_cons_of_mem _ (List.mem_cons_of_mem _ (List.mem_cons_self ..)))
    have b4 := hbg _ (List.mem_cons_of_mem _ (List.mem_cons_of_mem _ (List.mem_cons_of_mem _ (List.mem_cons_self ..))))
    simp only at R1 R2 R3 R4 b1 b2 b3 b4
    obtain ⟨env2, acts2, lds2, f2, q2, K2, A2, L2⟩ := w24a (R := R) (rid := h1.next) (F := formB r s) S1.s4 rfl z.sl.str (z.more o2).sl.str m2.sl.str S1.R.l2 b1 R1
    have S2' := S1.keep K2 o2
    have t15' := S2'.t15
    rw [hb] at t15'
    obtain ⟨env3, acts3, lds3, f3, q3, K3, A3, L3⟩ := w24b (rid := h1.next) (F := textbB r s) S2'.s4 t15' q2 A2 L2 S2'.R.l2 b2 R2
    have S3 := S2'.keep K3 o3
    have e10' := S3.e10
    have e16' := S3.e16
    rw [hb] at e10' e16'
    obtain ⟨env4, acts4, lds4, f4, q4, K4, A4, L4⟩ := w24c (rid := h1.next) e10' e16' q3 A3 L3 b3 R3
    obtain ⟨env5, acts5, lds5, f5, q5⟩ := w24d (rid := h1.next) (acts := acts4) q4 L4 b4 R4
    have e : runE Tryd.prog R 0 writes_24 ⟨[], [], [], h1.next, env1, h1⟩ = some ⟨acts5, lds5, [], h1.next, env5, h3⟩ := by
      rw [writes_24_eq]
      exact (runE_app f2).trans ((runE_app f3).trans ((runE_app f4).trans f5))
    have d2 : Dos Tryd.prog 3 (.drawn writes_24) env1 h1 .go [] env5 h3 := Dos_drawnE hS (by simp [writes_24, skipIds, isAlloc, kindOf]) e
    exact ⟨env5, h3, Dos_seqRet (Dos.seq (M := []) (M1 := []) d1 (Dos.cond (t := true) (by rw [ev_tm]; exact q180) (by simpa using Dos.seq (M := []) (M1 := []) d2 Dos.ret))), q5⟩
end
end Go.Proofs.YtjhgembcdndmkaaDoor.St

namespace Go.Proofs.YtjhgembcdndmkaaDoor.St
open Go Go.Proofs.YtjhgembcdndmkaaDoor.Am Go.Proofs

theorem Keep.s6 {a b : T AV} (k : Keep a b) : sv b 6 = sv a 6 := by obtain ⟨_, _, _, _, k, _⟩ := k; exact k
theorem Keep.s8 {a b : T AV} (k : Keep a b) : sv b 8 = sv a 8 := by obtain ⟨_, _, _, _, _, _, k, _⟩ := k; exact k
theorem Keep.s11 {a b : T AV} (k : Keep a b) : sv b 11 = sv a 11 := by obtain ⟨_, _, _, _, _, _, _, _, _, k, _⟩ := k; exact k
theorem Keep.s12 {a b : T AV} (k : Keep a b) : sv b 12 = sv a 12 := by obtain ⟨_, _, _, _, _, _, _, _, _, _, k, _⟩ := k; exact k
theorem Keep.s13 {a b : T AV} (k : Keep a b) : sv b 13 = sv a 13 := by obtain ⟨_, _, _, _, _, _, _, _, _, _, _, k, _⟩ := k; exact k
theorem Keep.s14 {a b : T AV} (k : Keep a b) : sv b 14 = sv a 14 := by obtain ⟨_, _, _, _, _, _, _, _, _, _, _, _, k, _⟩ := k; exact k
theorem Keep.s17 {a b : T AV} (k : Keep a b) : sv b 17 = sv a 17 := by obtain ⟨_, _, _, _, _, _, _, _, _, _, _, _, _, _, _, k, _⟩ := k; exact k
theorem Keep.s18 {a b : T AV} (k : Keep a b) : sv b 18 = sv a 18 := by obtain ⟨_, _, _, _, _, _, _, _, _, _, _, _, _, _, _, _, k⟩ := k; exact k

theorem branchB_ne {r : Int} {s : List UInt8} (h : branchB r s = true) : s ≠ [] := by
  intro c
  subst c
  unfold branchB labelB at h
  simp at h

section
variable {t0 : Nat} {g r : Int} {s : List UInt8} {n i : Int} {p a b : Pos} {N : Nat} {env env' : T AV} {h h' : Hp}

theorem name_part (hs : s.length ≤ 9000) (hk : ∀ h, AmFn Tryd.prog 4 [] h (.bool true) h) (S : Sit t0 g r s n i p a b N env h) : ∃ env' h', Dos Tryd.prog 3 t5 env h .ret [] env' h' ∧ sv env' 2 = .bool true := by
  obtain ⟨h1, k1, o1⟩ := rname_fn r s n hs h
  have l3 := S.R.l3
  have s3 := S.s3
  obtain ⟨env1, e1, q141, K1⟩ : ∃ env', runR Tryd.prog [⟨15, [.agg [int64 r, strOf s, int64 n]], h, .bool (nameB r s n), h1⟩] writes_18 env h = some ([], env', h1) ∧ sv env' 141 = .bool (nameB r s n) ∧ Keep env env' := by
    simp [writes_18, runR, runOps, wanted_no, wanted_sv, ev_tm, ev_vl, sv_setD, sv_set, setD_none, qev_mov, qev_bin, qev_un, qev_lenI, qev_lenS, qev_pick, qev_load1, qev_idxSl, idx2_sl, idxA2_ptr, opt_some, bin_add, bin_sub, bin_mul, bin_lss, bin_leq, bin_gtr, bin_geq, bin_eql, bin_neq, un_not, un_neg, qev_callv, qev_new1, qev_store1, qev_nilC, nilC_ptr, qev_fld, fld0, fldN, qev_extract, nth0, nth1, nth2, qev_eqPtr, sameP_nil, notIf, s3, l3, callA_ok ok_rname, Keep]
  have d1 : Dos Tryd.prog 3 (.region writes_18) env h .go [] env1 h1 := Dos_regionR (fun x hx => by simp at hx; subst hx; exact .fn k1) e1
  have S1 := S.keep K1 o1
  clear K1 e1 k1 S l3 s3
  cases hb : nameB r s n
  · rw [hb] at q141
    have z := S1.y
    have e8 := S1.e8
    have t13 := S1.t13
    have e14 := S1.e14
    rw [hb] at z e8 t13 e14
    have ll := z.sl.lenI (P := Tryd.prog) h1
    have kn := num_fn 2 h1
    obtain ⟨env2, f2, q2, K2⟩ := w21a (A := [⟨21, [int64 2], h1, int64 2, h1⟩, ⟨21, [int64 2], h1, int64 2, h1⟩]) rfl ll
    obtain ⟨env3, f3, q3, K3⟩ := w21b (A := [⟨21, [int64 2], h1, int64 2, h1⟩, ⟨21, [int64 2], h1, int64 2, h1⟩]) (env := env2) (h := h1) (K2.s13.trans t13) q2
    have K23 := K2.trans K3
    obtain ⟨env4, f4, q4, K4⟩ := w21c (A := [⟨21, [int64 2], h1, int64 2, h1⟩]) (env := env3) (h := h1) (K23.s8.trans e8) q3
    have K24 := K23.trans K4
    obtain ⟨env5, f5, q5, K5⟩ := w21d (A := []) (env := env4) (h := h1) (K24.s14.trans e14) q4
    have K25 := K24.trans K5
    have e : runR Tryd.prog [⟨21, [int64 2], h1, int64 2, h1⟩, ⟨21, [int64 2], h1, int64 2, h1⟩] writes_21 env1 h1 = some ([], env5, h1) := by
      rw [writes_21_eq, runR_app f2, runR_app f3, runR_app f4]; exact f5
    have d2 : Dos Tryd.prog 3 (.region writes_21) env1 h1 .go [] env5 h1 := Dos_regionR (fun x hx => by
      simp only [List.mem_cons, List.not_mem_nil, or_false] at hx
      rcases hx with e | e <;> subst e <;> exact .fn kn) e
    obtain ⟨env6, h6, d6, q6⟩ := branch_part hs hk (S1.keep K25 (.refl _ _))
    exact ⟨env6, h6, Dos.seq (M := []) (M1 := []) (Dos.seq (M := []) (M1 := []) d1 (Dos.cond (t := false) (by rw [ev_tm]; exact q141) (by simpa using Dos.seq (M := []) (M1 := []) d2 (Dos.cond (t := false) (by rw [ev_tm]; exact q5) (by simpa using Dos.skip))))) d6, q6⟩
  · rw [hb] at q141
    obtain ⟨qb, qn1, qn2⟩ := nameB_le hb
    obtain ⟨q0, q8, ql⟩ := branchB_le qb
    obtain ⟨r, rfl⟩ := Int.eq_ofNat_of_zero_le q0
    obtain ⟨n, rfl⟩ := Int.eq_ofNat_of_zero_le (show (0 : Int) ≤ n by omega)
    have z := S1.y
    rw [hb] at z
    obtain ⟨v2, h2, k2, m2, o2⟩ := rputn_fn r s n (by omega) hs (by omega) h1
    have S2 := S1.keep (Keep.refl _) o2
    obtain ⟨h3, k3, o3, _⟩ := rtextn_fn S2.R.T r s n (by omega) hs (by omega)
    have kn := num_fn 0 h3
    obtain ⟨R, hS, hR', hbg⟩ := rec_of (P := Tryd.prog) [⟨22, [.agg [int64 r, strOf s, int64 n]], h1, v2, h2⟩, ⟨23, [.agg [int64 r, strOf s, int64 n]], h2, strOf (textnB r s n), h3⟩, ⟨21, [int64 0], h3, int64 0, h3⟩] (by
      intro a ha
      simp only [List.mem_cons, List.not_mem_nil, or_false] at ha
      rcases ha with e | e | e <;> subst e
      · exact k2
      · exact k3
      · exact kn) (by simp)
    have R1 := hR' _ (List.mem_cons_self ..)
    have R2 := hR' _ (List.mem_cons_of_mem _ (List.mem_cons_self ..))
    have R3 := hR' _ (List.mem_cons_of_mem _ (List.mem_cons_of_mem _ (List.mem_cons_self ..)))
    have b1 := hbg _ (List.mem_cons_self ..)
    have b2 := hbg _ (List.mem_cons_of_mem _ (List.mem_cons_self ..))
    have b3 := hbg _ (List.mem_cons_of_mem _ (List.mem_cons_of_mem _ (List.mem_cons_self ..)))
    simp only at R1 R2 R3 b1 b2 b3
    obtain ⟨env2, acts2, lds2, f2, q2, K2, A2, L2⟩ := w19a (R := R) (rid := h1.next) (F := pnameB r s n) S1.s3 rfl z.sl.str (z.more o2).sl.str m2.sl.str S1.R.l3 b1 R1
    have S2' := S1.keep K2 o2
    have t13' := S2'.t13
    rw [hb] at t13'
    obtain ⟨env3, acts3, lds3, f3, q3, K3, A3, L3⟩ := w19b (rid := h1.next) (F := textnB r s n) S2'.s3 t13' q2 A2 L2 S2'.R.l3 b2 R2
    have S3 := S2'.keep K3 o3
    have e8' := S3.e8
    have e14' := S3.e14
    rw [hb] at e8' e14'
    obtain ⟨env4, acts4, lds4, f4, q4, K4, A4, L4⟩ := w19c (rid := h1.next) e8' e14' q3 A3 L3 b3 R3
    have e : runE Tryd.prog R 0 writes_19 ⟨[], [], [], h1.next, env1, h1⟩ = some ⟨acts4, lds4, [], h1.next, env4, h3⟩ := by
      rw [writes_19_eq]
      exact (runE_app f2).trans ((runE_app f3).trans f4)
    have d2 : Dos Tryd.prog 3 (.drawn writes_19) env1 h1 .go [] env4 h3 := Dos_drawnE hS (by simp [writes_19, skipIds, isAlloc, kindOf]) e
    obtain ⟨env6, h6, d6, q6⟩ := branch_part hs hk (S3.keep K4 (.refl _ _))
    exact ⟨env6, h6, Dos.seq (M := []) (M1 := []) (Dos.seq (M := []) (M1 := []) d1 (Dos.cond (t := true) (by rw [ev_tm]; exact q141) (by simpa using Dos.seq (M := []) (M1 := []) d2 (Dos.cond (t := false) (by rw [ev_tm]; exact q4) (by simpa using Dos.skip))))) d6, q6⟩

theorem stamp_part (hs : s.length ≤ 9000) (hk : ∀ h, AmFn Tryd.prog 4 [] h (.bool true) h) (S : Sit t0 g r s n i p a b N env h) : ∃ env' h', Dos Tryd.prog 3 t4 env h .ret [] env' h' ∧ sv env' 2 = .bool true := by
  obtain ⟨h1, k1, o1⟩ := rstamp_fn g r s n i hs h
  have l5 := S.R.l5
  have s1 := S.s1
  obtain ⟨env1, e1, q84, K1⟩ : ∃ env', runR Tryd.prog [⟨13, [.agg [int64 g, int64 r, strOf s, int64 n, int64 i]], h, .bool (stampB g r s n i), h1⟩] writes_13 env h = some ([], env', h1) ∧ sv env' 84 = .bool (stampB g r s n i) ∧ Keep env env' := by
    simp [writes_13, runR, runOps, wanted_no, wanted_sv, ev_tm, ev_vl, sv_setD, sv_set, setD_none, qev_mov, qev_bin, qev_un, qev_lenI, qev_lenS, qev_pick, qev_load1, qev_idxSl, idx2_sl, idxA2_ptr, opt_some, bin_add, bin_sub, bin_mul, bin_lss, bin_leq, bin_gtr, bin_geq, bin_eql, bin_neq, un_not, un_neg, qev_callv, qev_new1, qev_store1, qev_nilC, nilC_ptr, qev_fld, fld0, fldN, qev_extract, nth0, nth1, nth2, qev_eqPtr, sameP_nil, notIf, s1, l5, callA_ok ok_rstamp, Keep]
  have d1 : Dos Tryd.prog 3 (.region writes_13) env h .go [] env1 h1 := Dos_regionR (fun x hx => by simp at hx; subst hx; exact .fn k1) e1
  have S1 := S.keep K1 o1
  clear K1 e1 k1 S l5 s1
  cases hb : stampB g r s n i
  · rw [hb] at q84
    have z := S1.x
    have e6 := S1.e6
    have t11 := S1.t11
    have e12 := S1.e12
    have k17 := S1.k17
    have e18 := S1.e18
    rw [hb] at z e6 t11 e12 k17 e18
    have ll := z.sl.lenI (P := Tryd.prog) h1
    have kn := num_fn 2 h1
    obtain ⟨env2, f2, q2, K2⟩ := w16a (A := [⟨21, [int64 2], h1, int64 2, h1⟩, ⟨21, [int64 2], h1, int64 2, h1⟩, ⟨21, [int64 2], h1, int64 2, h1⟩]) rfl ll
    obtain ⟨env3, f3, q3, K3⟩ := w16b (A := [⟨21, [int64 2], h1, int64 2, h1⟩, ⟨21, [int64 2], h1, int64 2, h1⟩, ⟨21, [int64 2], h1, int64 2, h1⟩]) (env := env2) (h := h1) (K2.s11.trans t11) q2
    have K23 := K2.trans K3
    obtain ⟨env4, f4, q4, K4⟩ := w16c (A := [⟨21, [int64 2], h1, int64 2, h1⟩, ⟨21, [int64 2], h1, int64 2, h1⟩, ⟨21, [int64 2], h1, int64 2, h1⟩]) (env := env3) (h := h1) (K23.s17.trans k17) q3
    have K24 := K23.trans K4
    obtain ⟨env5, f5, q5, K5⟩ := w16d (A := [⟨21, [int64 2], h1, int64 2, h1⟩, ⟨21, [int64 2], h1, int64 2, h1⟩]) (env := env4) (h := h1) (K24.s6.trans e6) q4
    have K25 := K24.trans K5
    obtain ⟨env6, f6, q6, K6⟩ := w16e (A := [⟨21, [int64 2], h1, int64 2, h1⟩]) (env := env5) (h := h1) (K25.s12.trans e12) q5
    have K26 := K25.trans K6
    obtain ⟨env7, f7, q7, K7⟩ := w16f (A := []) (env := env6) (h := h1) (K26.s18.trans e18) q6
    have K27 := K26.trans K7
    have e : runR Tryd.prog [⟨21, [int64 2], h1, int64 2, h1⟩, ⟨21, [int64 2], h1, int64 2, h1⟩, ⟨21, [int64 2], h1, int64 2, h1⟩] writes_16 env1 h1 = some ([], env7, h1) := by
      rw [writes_16_eq, runR_app f2, runR_app f3, runR_app f4, runR_app f5, runR_app f6]; exact f7
    have d2 : Dos Tryd.prog 3 (.region writes_16) env1 h1 .go [] env7 h1 := Dos_regionR (fun x hx => by
      simp only [List.mem_cons, List.not_mem_nil, or_false] at hx
      rcases hx with e | e | e <;> subst e <;> exact .fn kn) e
    obtain ⟨env8, h8, d8, q8⟩ := name_part hs hk (S1.keep K27 (.refl _ _))
    exact ⟨env8, h8, Dos.seq (M := []) (M1 := []) (Dos.seq (M := []) (M1 := []) d1 (Dos.cond (t := false) (by rw [ev_tm]; exact q84) (by simpa using Dos.seq (M := []) (M1 := []) d2 (Dos.cond (t := false) (by rw [ev_tm]; exact q7) (by simpa using Dos.skip))))) d8, q8⟩
  · rw [hb] at q84
    obtain ⟨g1, g2, qn, i1, i2⟩ := stampB_le hb
    obtain ⟨qb, qn1, qn2⟩ := nameB_le qn
    obtain ⟨q0, q8, ql⟩ := branchB_le qb
    have hne := branchB_ne qb
    obtain ⟨g, rfl⟩ := Int.eq_ofNat_of_zero_le (show (0 : Int) ≤ g by omega)
    obtain ⟨r, rfl⟩ := Int.eq_ofNat_of_zero_le q0
    obtain ⟨n, rfl⟩ := Int.eq_ofNat_of_zero_le (show (0 : Int) ≤ n by omega)
    obtain ⟨i, rfl⟩ := Int.eq_ofNat_of_zero_le i1
    have z := S1.x
    rw [hb] at z
    obtain ⟨v2, h2, k2, m2, o2⟩ := rput_fn g r s n i (by omega) (by omega) hs (by omega) (by omega) h1
    have S2 := S1.keep (Keep.refl _) o2
    obtain ⟨h3, k3, o3⟩ := rtext_fn S2.R.T g r s n i (by omega) (by omega) hs (by omega) (by omega)
    obtain ⟨h4, k4, o4⟩ := rkey_fn g r s n i (by omega) (by omega) hs hne (by omega) (by omega) h3
    have kn := num_fn 0 h4
    obtain ⟨R, hS, hR', hbg⟩ := rec_of (P := Tryd.prog) [⟨18, [.agg [int64 g, int64 r, strOf s, int64 n, int64 i]], h1, v2, h2⟩, ⟨19, [.agg [int64 g, int64 r, strOf s, int64 n, int64 i]], h2, strOf (textB g r s n i), h3⟩, ⟨20, [.agg [int64 g, int64 r, strOf s, int64 n, int64 i]], h3, strOf (keyB g r s n i), h4⟩, ⟨21, [int64 0], h4, int64 0, h4⟩] (by
      intro a ha
      simp only [List.mem_cons, List.not_mem_nil, or_false] at ha
      rcases ha with e | e | e | e <;> subst e
      · exact k2
      · exact k3
      · exact k4
      · exact kn) (by simp)
    have R1 := hR' _ (List.mem_cons_self ..)
    have R2 := hR' _ (List.mem_cons_of_mem _ (List.mem_cons_self ..))
    have R3 := hR' _ (List.mem_cons_of_mem _ (List.mem_cons_of_mem _ (List.mem_cons_self ..)))
    have R4 := hR' _ (List.mem_cons_of_mem _ (List.mem_cons_of_mem _ (List.mem_cons_of_mem _ (List.mem_cons_self ..))))
    have b1 := hbg _ (List.mem_cons_self ..)
    have b2 := hbg _ (List.mem_cons_of_mem _ (List.mem_cons_self ..))
    have b3 := hbg _ (List.mem_cons_of_mem _ (List.mem_cons_of_mem _ (List.mem_cons_self ..)))
    have b4 := hbg _ (List.mem_cons_of_mem _ (List.mem_cons_of_mem _ (List.mem_cons_of_mem _ (List.mem_cons_self ..))))
    simp only at R1 R2 R3 R4 b1 b2 b3 b4
    obtain ⟨env2, acts2, lds2, f2, q2, K2, A2, L2⟩ := w14a (R := R) (rid := h1.next) (F := pstampB g r s n i) S1.s1 rfl z.sl.str (z.more o2).sl.str m2.sl.str S1.R.l5 b1 R1
    have S2' := S1.keep K2 o2
    have t11' := S2'.t11
    rw [hb] at t11'
    obtain ⟨env3, acts3, lds3, f3, q3, K3, A3, L3⟩ := w14b (rid := h1.next) (F := textB g r s n i) S2'.s1 t11' q2 A2 L2 S2'.R.l5 b2 R2
    have S3 := S2'.keep K3 o3
    have k17' := S3.k17
    rw [hb] at k17'
    obtain ⟨env4, acts4, lds4, f4, q4, K4, A4, L4⟩ := w14c (rid := h1.next) (F := keyB g r s n i) S3.s1 k17' q3 A3 L3 S3.R.l5 b3 R3
    have S4 := S3.keep K4 o4
    have e6' := S4.e6
    have e12' := S4.e12
    have e18' := S4.e18
    rw [hb] at e6' e12' e18'
    obtain ⟨env5, acts5, lds5, f5, q5, K5, A5, L5⟩ := w14d (rid := h1.next) e6' e12' e18' q4 A4 L4 b4 R4
    have e : runE Tryd.prog R 0 writes_14 ⟨[], [], [], h1.next, env1, h1⟩ = some ⟨acts5, lds5, [], h1.next, env5, h4⟩ := by
      rw [writes_14_eq]
      exact (runE_app f2).trans ((runE_app f3).trans ((runE_app f4).trans f5))
    have d2 : Dos Tryd.prog 3 (.drawn writes_14) env1 h1 .go [] env5 h4 := Dos_drawnE hS (by simp [writes_14, skipIds, isAlloc, kindOf]) e
    obtain ⟨env8, h8, d8, q8⟩ := name_part hs hk (S4.keep K5 (.refl _ _))
    exact ⟨env8, h8, Dos.seq (M := []) (M1 := []) (Dos.seq (M := []) (M1 := []) d1 (Dos.cond (t := true) (by rw [ev_tm]; exact q84) (by simpa using Dos.seq (M := []) (M1 := []) d2 (Dos.cond (t := false) (by rw [ev_tm]; exact q5) (by simpa using Dos.skip))))) d8, q8⟩
end
end Go.Proofs.YtjhgembcdndmkaaDoor.St

namespace Go.Proofs.YtjhgembcdndmkaaDoor.St
open Go Go.Proofs.YtjhgembcdndmkaaDoor.Am Go.Proofs

/-- All named variables but two stay. -/
def But (x y : Nat) (env env' : T AV) : Prop := ∀ k, k ≤ 18 → k ≠ x → k ≠ y → sv env' k = sv env k

section
variable {env : T AV} {h h' : Hp} {a p b : Pos} {g r : Int} {s : List UInt8} {n i : Int} {v e : AV}

theorem w4 (sp : sv env 1 = .ptr p 0 0) (l : ∀ env x, ev env x = .ptr p 0 0 → evalOp Tryd.prog (.loadN 5 x) env h = .val (.agg [int64 g, int64 r, strOf s, int64 n, int64 i]) h) :
    ∃ env', runR Tryd.prog [⟨5, [.agg [int64 g, int64 r, strOf s, int64 n, int64 i]], h, .tup [v, e], h'⟩] writes_4 env h = some ([], env', h') ∧ sv env' 5 = v ∧ sv env' 6 = e ∧ But 5 6 env env' := by
  simp [writes_4, runR, runOps, wanted_no, wanted_sv, ev_tm, ev_vl, sv_setD, sv_set, setD_none, qev_mov, qev_bin, qev_un, qev_lenI, qev_lenS, qev_pick, qev_load1, qev_idxSl, idx2_sl, idxA2_ptr, opt_some, bin_add, bin_sub, bin_mul, bin_lss, bin_leq, bin_gtr, bin_geq, bin_eql, bin_neq, un_not, un_neg, qev_callv, qev_new1, qev_store1, qev_nilC, nilC_ptr, qev_fld, fld0, fldN, qev_extract, nth0, nth1, nth2, qev_eqPtr, sameP_nil, notIf, sp, l, callA_ok ok_put]
  intro k hk h1 h2
  simp only [sv_setD]
  repeat rw [if_neg (by omega)]

theorem w5 (sp : sv env 3 = .ptr a 0 0) (l : ∀ env x, ev env x = .ptr a 0 0 → evalOp Tryd.prog (.loadN 3 x) env h = .val (.agg [int64 r, strOf s, int64 n]) h) :
    ∃ env', runR Tryd.prog [⟨6, [.agg [int64 r, strOf s, int64 n]], h, .tup [v, e], h'⟩] writes_5 env h = some ([], env', h') ∧ sv env' 7 = v ∧ sv env' 8 = e ∧ But 7 8 env env' := by
  simp [writes_5, runR, runOps, wanted_no, wanted_sv, ev_tm, ev_vl, sv_setD, sv_set, setD_none, qev_mov, qev_bin, qev_un, qev_lenI, qev_lenS, qev_pick, qev_load1, qev_idxSl, idx2_sl, idxA2_ptr, opt_some, bin_add, bin_sub, bin_mul, bin_lss, bin_leq, bin_gtr, bin_geq, bin_eql, bin_neq, un_not, un_neg, qev_callv, qev_new1, qev_store1, qev_nilC, nilC_ptr, qev_fld, fld0, fldN, qev_extract, nth0, nth1, nth2, qev_eqPtr, sameP_nil, notIf, sp, l, callA_ok ok_putn]
  intro k hk h1 h2
  simp only [sv_setD]
  repeat rw [if_neg (by omega)]

theorem w6 (sp : sv env 4 = .ptr b 0 0) (l : ∀ env x, ev env x = .ptr b 0 0 → evalOp Tryd.prog (.loadN 2 x) env h = .val (.agg [int64 r, strOf s]) h) :
    ∃ env', runR Tryd.prog [⟨7, [.agg [int64 r, strOf s]], h, .tup [v, e], h'⟩] writes_6 env h = some ([], env', h') ∧ sv env' 9 = v ∧ sv env' 10 = e ∧ But 9 10 env env' := by
  simp [writes_6, runR, runOps, wanted_no, wanted_sv, ev_tm, ev_vl, sv_setD, sv_set, setD_none, qev_mov, qev_bin, qev_un, qev_lenI, qev_lenS, qev_pick, qev_load1, qev_idxSl, idx2_sl, idxA2_ptr, opt_some, bin_add, bin_sub, bin_mul, bin_lss, bin_leq, bin_gtr, bin_geq, bin_eql, bin_neq, un_not, un_neg, qev_callv, qev_new1, qev_store1, qev_nilC, nilC_ptr, qev_fld, fld0, fldN, qev_extract, nth0, nth1, nth2, qev_eqPtr, sameP_nil, notIf, sp, l, callA_ok ok_putb]
  intro k hk h1 h2
  simp only [sv_setD]
  repeat rw [if_neg (by omega)]

theorem w7 (sp : sv env 1 = .ptr p 0 0) (l : ∀ env x, ev env x = .ptr p 0 0 → evalOp Tryd.prog (.loadN 5 x) env h = .val (.agg [int64 g, int64 r, strOf s, int64 n, int64 i]) h) :
    ∃ env', runR Tryd.prog [⟨8, [.agg [int64 g, int64 r, strOf s, int64 n, int64 i]], h, .tup [v, e], h'⟩] writes_7 env h = some ([], env', h') ∧ sv env' 11 = v ∧ sv env' 12 = e ∧ But 11 12 env env' := by
  simp [writes_7, runR, runOps, wanted_no, wanted_sv, ev_tm, ev_vl, sv_setD, sv_set, setD_none, qev_mov, qev_bin, qev_un, qev_lenI, qev_lenS, qev_pick, qev_load1, qev_idxSl, idx2_sl, idxA2_ptr, opt_some, bin_add, bin_sub, bin_mul, bin_lss, bin_leq, bin_gtr, bin_geq, bin_eql, bin_neq, un_not, un_neg, qev_callv, qev_new1, qev_store1, qev_nilC, nilC_ptr, qev_fld, fld0, fldN, qev_extract, nth0, nth1, nth2, qev_eqPtr, sameP_nil, notIf, sp, l, callA_ok ok_texts]
  intro k hk h1 h2
  simp only [sv_setD]
  repeat rw [if_neg (by omega)]

theorem w8 (sp : sv env 3 = .ptr a 0 0) (l : ∀ env x, ev env x = .ptr a 0 0 → evalOp Tryd.prog (.loadN 3 x) env h = .val (.agg [int64 r, strOf s, int64 n]) h) :
    ∃ env', runR Tryd.prog [⟨9, [.agg [int64 r, strOf s, int64 n]], h, .tup [v, e], h'⟩] writes_8 env h = some ([], env', h') ∧ sv env' 13 = v ∧ sv env' 14 = e ∧ But 13 14 env env' := by
  simp [writes_8, runR, runOps, wanted_no, wanted_sv, ev_tm, ev_vl, sv_setD, sv_set, setD_none, qev_mov, qev_bin, qev_un, qev_lenI, qev_lenS, qev_pick, qev_load1, qev_idxSl, idx2_sl, idxA2_ptr, opt_some, bin_add, bin_sub, bin_mul, bin_lss, bin_leq, bin_gtr, bin_geq, bin_eql, bin_neq, un_not, un_neg, qev_callv, qev_new1, qev_store1, qev_nilC, nilC_ptr, qev_fld, fld0, fldN, qev_extract, nth0, nth1, nth2, qev_eqPtr, sameP_nil, notIf, sp, l, callA_ok ok_textn]
  intro k hk h1 h2
  simp only [sv_setD]
  repeat rw [if_neg (by omega)]

theorem w9 (sp : sv env 4 = .ptr b 0 0) (l : ∀ env x, ev env x = .ptr b 0 0 → evalOp Tryd.prog (.loadN 2 x) env h = .val (.agg [int64 r, strOf s]) h) :
    ∃ env', runR Tryd.prog [⟨10, [.agg [int64 r, strOf s]], h, .tup [v, e], h'⟩] writes_9 env h = some ([], env', h') ∧ sv env' 15 = v ∧ sv env' 16 = e ∧ But 15 16 env env' := by
  simp [writes_9, runR, runOps, wanted_no, wanted_sv, ev_tm, ev_vl, sv_setD, sv_set, setD_none, qev_mov, qev_bin, qev_un, qev_lenI, qev_lenS, qev_pick, qev_load1, qev_idxSl, idx2_sl, idxA2_ptr, opt_some, bin_add, bin_sub, bin_mul, bin_lss, bin_leq, bin_gtr, bin_geq, bin_eql, bin_neq, un_not, un_neg, qev_callv, qev_new1, qev_store1, qev_nilC, nilC_ptr, qev_fld, fld0, fldN, qev_extract, nth0, nth1, nth2, qev_eqPtr, sameP_nil, notIf, sp, l, callA_ok ok_textb]
  intro k hk h1 h2
  simp only [sv_setD]
  repeat rw [if_neg (by omega)]

theorem w10 (sp : sv env 1 = .ptr p 0 0) (l : ∀ env x, ev env x = .ptr p 0 0 → evalOp Tryd.prog (.loadN 5 x) env h = .val (.agg [int64 g, int64 r, strOf s, int64 n, int64 i]) h) :
    ∃ env', runR Tryd.prog [⟨11, [.agg [int64 g, int64 r, strOf s, int64 n, int64 i]], h, .tup [v, e], h'⟩] writes_10 env h = some ([], env', h') ∧ sv env' 17 = v ∧ sv env' 18 = e ∧ But 17 18 env env' := by
  simp [writes_10, runR, runOps, wanted_no, wanted_sv, ev_tm, ev_vl, sv_setD, sv_set, setD_none, qev_mov, qev_bin, qev_un, qev_lenI, qev_lenS, qev_pick, qev_load1, qev_idxSl, idx2_sl, idxA2_ptr, opt_some, bin_add, bin_sub, bin_mul, bin_lss, bin_leq, bin_gtr, bin_geq, bin_eql, bin_neq, un_not, un_neg, qev_callv, qev_new1, qev_store1, qev_nilC, nilC_ptr, qev_fld, fld0, fldN, qev_extract, nth0, nth1, nth2, qev_eqPtr, sameP_nil, notIf, sp, l, callA_ok ok_key]
  intro k hk h1 h2
  simp only [sv_setD]
  repeat rw [if_neg (by omega)]

end
end Go.Proofs.YtjhgembcdndmkaaDoor.St

namespace Go.Proofs.YtjhgembcdndmkaaDoor.St
open Go Go.Proofs.YtjhgembcdndmkaaDoor.Am Go.Proofs
section
variable {t0 : Nat} {g r : Int} {s : List UInt8} {n i : Int} {p a b : Pos} {N : Nat} {env env' : T AV} {h h' : Hp}

theorem cmp_part (hs : s.length ≤ 9000) (hk : ∀ h, AmFn Tryd.prog 4 [] h (.bool true) h) (S : Sit t0 g r s n i p a b N env h) : ∃ env' h', Dos Tryd.prog 3 t3 env h .ret [] env' h' ∧ sv env' 2 = .bool true := by
  obtain ⟨h1, k1, o1⟩ := stamp_fn g r s n i hs h
  obtain ⟨h2, k2, o2⟩ := rstamp_fn g r s n i hs h1
  obtain ⟨h3, k3, o3⟩ := name_fn r s n hs h2
  obtain ⟨h4, k4, o4⟩ := rname_fn r s n hs h3
  obtain ⟨h5, k5, o5⟩ := branch_fn r s hs h4
  obtain ⟨h6, k6, o6⟩ := rbranch_fn r s hs h5
  obtain ⟨R, hS, hR', hbg⟩ := rec_of (P := Tryd.prog) [⟨12, [.agg [int64 g, int64 r, strOf s, int64 n, int64 i]], h, .bool (stampB g r s n i), h1⟩, ⟨13, [.agg [int64 g, int64 r, strOf s, int64 n, int64 i]], h1, .bool (stampB g r s n i), h2⟩, ⟨14, [.agg [int64 r, strOf s, int64 n]], h2, .bool (nameB r s n), h3⟩, ⟨15, [.agg [int64 r, strOf s, int64 n]], h3, .bool (nameB r s n), h4⟩, ⟨16, [.agg [int64 r, strOf s]], h4, .bool (branchB r s), h5⟩, ⟨17, [.agg [int64 r, strOf s]], h5, .bool (branchB r s), h6⟩] (by
    intro a ha
    simp only [List.mem_cons, List.not_mem_nil, or_false] at ha
    rcases ha with e | e | e | e | e | e <;> subst e
    · exact k1
    · exact k2
    · exact k3
    · exact k4
    · exact k5
    · exact k6) (by simp)
  have m2 : ∀ {x y : KC} {l : List KC}, y ∈ l → y ∈ x :: l := fun h => List.mem_cons_of_mem _ h
  have R1 := hR' _ (List.mem_cons_self ..)
  have R2 := hR' _ (m2 (y := ⟨_, _, _, _, _⟩) (List.mem_cons_self ..))
  have R3 := hR' _ (List.mem_cons_of_mem _ (List.mem_cons_of_mem _ (List.mem_cons_self ..)))
  have R4 := hR' _ (List.mem_cons_of_mem _ (List.mem_cons_of_mem _ (List.mem_cons_of_mem _ (List.mem_cons_self ..))))
  have R5 := hR' _ (List.mem_cons_of_mem _ (List.mem_cons_of_mem _ (List.mem_cons_of_mem _ (List.mem_cons_of_mem _ (List.mem_cons_self ..)))))
  have R6 := hR' _ (List.mem_cons_of_mem _ (List.mem_cons_of_mem _ (List.mem_cons_of_mem _ (List.mem_cons_of_mem _ (List.mem_cons_of_mem _ (List.mem_cons_self ..))))))
  simp only at R1 R2 R3 R4 R5 R6
  have b1 := k1.begins.1
  have b2 := k2.begins.1
  have b3 := k3.begins.1
  have b4 := k4.begins.1
  have b5 := k5.begins.1
  have b6 := k6.begins.1
  have Ra := S.R.more o1
  have Rb := Ra.more o2
  have Rc := Rb.more o3
  have Rd := Rc.more o4
  have Re := Rd.more o5
  obtain ⟨env2, acts2, lds2, f2, q2, K2, A2, L2⟩ := w11a (R := R) (rid := h.next) S.s1 S.R.l5 Ra.l5 b1 R1 b2 R2
  have S2 := S.keep K2 (o1.trans o2)
  obtain ⟨env3, acts3, lds3, f3, q3, K3, A3, L3⟩ := w11b (rid := h.next) S2.s3 q2 A2 L2 Rb.l3 Rc.l3 b3 R3 b4 R4
  have S3 := S2.keep K3 (o3.trans o4)
  obtain ⟨env4, acts4, lds4, f4, q4, K4, A4, L4⟩ := w11c (rid := h.next) S3.s4 q3 A3 L3 Rd.l2 Re.l2 b5 R5 b6 R6
  have S4 := S3.keep K4 (o5.trans o6)
  have e : runE Tryd.prog R 0 writes_11 ⟨[], [], [], h.next, env, h⟩ = some ⟨acts4, lds4, [], h.next, env4, h6⟩ := by
    rw [writes_11_eq]
    exact (runE_app f2).trans ((runE_app f3).trans f4)
  have d2 : Dos Tryd.prog 3 (.drawn writes_11) env h .go [] env4 h6 := Dos_drawnE hS (by simp [writes_11, skipIds, isAlloc, kindOf]) e
  obtain ⟨env8, h8, d8, q8⟩ := stamp_part hs hk S4
  exact ⟨env8, h8, Dos.seq (M := []) (M1 := []) (Dos.seq (M := []) (M1 := []) d2 (Dos.cond (t := false) (by rw [ev_tm]; exact q4) (by simpa using Dos.skip))) d8, q8⟩

theorem calls_part (hs : s.length ≤ 9000) (hk : ∀ h, AmFn Tryd.prog 4 [] h (.bool true) h) (R : Rws t0 g r s n i p a b h) (s1 : sv env 1 = .ptr p 0 0) (s3 : sv env 3 = .ptr a 0 0) (s4 : sv env 4 = .ptr b 0 0) : ∃ env' h', Dos Tryd.prog 3 t2 env h .ret [] env' h' ∧ sv env' 2 = .bool true := by
  obtain ⟨v1, h1, k1, m1, o1⟩ := put_fn g r s n i hs h
  obtain ⟨env1, f1, x1, y1, B1⟩ := w4 (h' := h1) (v := v1) (e := int64 (errB (stampB g r s n i))) s1 R.l5
  have d1 : Dos Tryd.prog 3 (.region writes_4) env h .go [] env1 h1 := Dos_regionR (fun x hx => by simp only [List.mem_cons, List.not_mem_nil, or_false] at hx; subst hx; exact .fn k1) f1
  have R1 := R.more o1
  have s11 := (B1 1 (by omega) (by omega) (by omega)).trans s1
  have s31 := (B1 3 (by omega) (by omega) (by omega)).trans s3
  have s41 := (B1 4 (by omega) (by omega) (by omega)).trans s4
  obtain ⟨v2, h2, k2, m2, o2⟩ := putn_fn r s n hs h1
  obtain ⟨env2, f2, x2, y2, B2⟩ := w5 (h' := h2) (v := v2) (e := int64 (errB (nameB r s n))) s31 R1.l3
  have d2 : Dos Tryd.prog 3 (.region writes_5) env1 h1 .go [] env2 h2 := Dos_regionR (fun x hx => by simp only [List.mem_cons, List.not_mem_nil, or_false] at hx; subst hx; exact .fn k2) f2
  have R2 := R1.more o2
  have s12 := (B2 1 (by omega) (by omega) (by omega)).trans s11
  have s32 := (B2 3 (by omega) (by omega) (by omega)).trans s31
  have s42 := (B2 4 (by omega) (by omega) (by omega)).trans s41
  obtain ⟨v3, h3, k3, m3, o3⟩ := putb_fn r s hs h2
  obtain ⟨env3, f3, x3, y3, B3⟩ := w6 (h' := h3) (v := v3) (e := int64 (errB (branchB r s))) s42 R2.l2
  have d3 : Dos Tryd.prog 3 (.region writes_6) env2 h2 .go [] env3 h3 := Dos_regionR (fun x hx => by simp only [List.mem_cons, List.not_mem_nil, or_false] at hx; subst hx; exact .fn k3) f3
  have R3 := R2.more o3
  have s13 := (B3 1 (by omega) (by omega) (by omega)).trans s12
  have s33 := (B3 3 (by omega) (by omega) (by omega)).trans s32
  have s43 := (B3 4 (by omega) (by omega) (by omega)).trans s42
  obtain ⟨h4, k4, o4⟩ := texts_fn R3.T g r s n i hs
  obtain ⟨env4, f4, x4, y4, B4⟩ := w7 (h' := h4) (v := strOf (orNil (stampB g r s n i) (textB g.toNat r.toNat s n.toNat i.toNat))) (e := int64 (errB (stampB g r s n i))) s13 R3.l5
  have d4 : Dos Tryd.prog 3 (.region writes_7) env3 h3 .go [] env4 h4 := Dos_regionR (fun x hx => by simp only [List.mem_cons, List.not_mem_nil, or_false] at hx; subst hx; exact .fn k4) f4
  have R4 := R3.more o4
  have s14 := (B4 1 (by omega) (by omega) (by omega)).trans s13
  have s34 := (B4 3 (by omega) (by omega) (by omega)).trans s33
  have s44 := (B4 4 (by omega) (by omega) (by omega)).trans s43
  obtain ⟨h5, k5, o5⟩ := textn_fn R4.T r s n hs
  obtain ⟨env5, f5, x5, y5, B5⟩ := w8 (h' := h5) (v := strOf (orNil (nameB r s n) (textnB r.toNat s n.toNat))) (e := int64 (errB (nameB r s n))) s34 R4.l3
  have d5 : Dos Tryd.prog 3 (.region writes_8) env4 h4 .go [] env5 h5 := Dos_regionR (fun x hx => by simp only [List.mem_cons, List.not_mem_nil, or_false] at hx; subst hx; exact .fn k5) f5
  have R5 := R4.more o5
  have s15 := (B5 1 (by omega) (by omega) (by omega)).trans s14
  have s35 := (B5 3 (by omega) (by omega) (by omega)).trans s34
  have s45 := (B5 4 (by omega) (by omega) (by omega)).trans s44
  obtain ⟨h6, k6, o6⟩ := textb_fn R5.T r s hs
  obtain ⟨env6, f6, x6, y6, B6⟩ := w9 (h' := h6) (v := strOf (orNil (branchB r s) (textbB r.toNat s))) (e := int64 (errB (branchB r s))) s45 R5.l2
  have d6 : Dos Tryd.prog 3 (.region writes_9) env5 h5 .go [] env6 h6 := Dos_regionR (fun x hx => by simp only [List.mem_cons, List.not_mem_nil, or_false] at hx; subst hx; exact .fn k6) f6
  have R6 := R5.more o6
  have s16 := (B6 1 (by omega) (by omega) (by omega)).trans s15
  have s36 := (B6 3 (by omega) (by omega) (by omega)).trans s35
  have s46 := (B6 4 (by omega) (by omega) (by omega)).trans s45
  obtain ⟨h7, k7, o7⟩ := key_fn g r s n i hs h6
  obtain ⟨env7, f7, x7, y7, B7⟩ := w10 (h' := h7) (v := strOf (orNil (stampB g r s n i) (keyB g.toNat r.toNat s n.toNat i.toNat))) (e := int64 (errB (stampB g r s n i))) s16 R6.l5
  have d7 : Dos Tryd.prog 3 (.region writes_10) env6 h6 .go [] env7 h7 := Dos_regionR (fun x hx => by simp only [List.mem_cons, List.not_mem_nil, or_false] at hx; subst hx; exact .fn k7) f7
  have R7 := R6.more o7
  have s17 := (B7 1 (by omega) (by omega) (by omega)).trans s16
  have s37 := (B7 3 (by omega) (by omega) (by omega)).trans s36
  have s47 := (B7 4 (by omega) (by omega) (by omega)).trans s46
  have c67 := fun k (h : k ≤ 16) => B7 k (by omega) (by omega) (by omega)
  have c57 := fun k (h : k ≤ 14) => (c67 k (by omega)).trans (B6 k (by omega) (by omega) (by omega))
  have c47 := fun k (h : k ≤ 12) => (c57 k (by omega)).trans (B5 k (by omega) (by omega) (by omega))
  have c37 := fun k (h : k ≤ 10) => (c47 k (by omega)).trans (B4 k (by omega) (by omega) (by omega))
  have c27 := fun k (h : k ≤ 8) => (c37 k (by omega)).trans (B3 k (by omega) (by omega) (by omega))
  have c17 := fun k (h : k ≤ 6) => (c27 k (by omega)).trans (B2 k (by omega) (by omega) (by omega))
  have n1 := o1.next
  have n2 := o2.next
  have o37 := ((o4.trans o5).trans o6).trans o7
  have S : Sit t0 g r s n i p a b h.next.num env7 h7 := ⟨R7, s17, s37, s47,
    by rw [c17 5 (by omega), x1]; exact ((m1.more o2).more o3).more o37, (c17 6 (by omega)).trans y1,
    by rw [c27 7 (by omega), x2]; exact ((m2.more o3).more o37).weak n1, (c27 8 (by omega)).trans y2,
    by rw [c37 9 (by omega), x3]; exact (m3.more o37).weak (Nat.le_trans n1 n2), (c37 10 (by omega)).trans y3,
    (c47 11 (by omega)).trans x4, (c47 12 (by omega)).trans y4, (c57 13 (by omega)).trans x5, (c57 14 (by omega)).trans y5, (c67 15 (by omega)).trans x6, (c67 16 (by omega)).trans y6, x7, y7⟩
  obtain ⟨env8, h8, d8, q8⟩ := cmp_part hs hk S
  exact ⟨env8, h8, Dos.seq (M := []) (M1 := []) d1 (Dos.seq (M := []) (M1 := []) d2 (Dos.seq (M := []) (M1 := []) d3 (Dos.seq (M := []) (M1 := []) d4 (Dos.seq (M := []) (M1 := []) d5 (Dos.seq (M := []) (M1 := []) d6 (Dos.seq (M := []) (M1 := []) d7 d8)))))), q8⟩
end

/-- ████ What the law comes to. ████ -/
theorem writes_fn {t0 : Nat} {h : Hp} (hk : ∀ h, AmFn Tryd.prog 4 [] h (.bool true) h) (t : HasTab t0 h) (g r : Int) (s : List UInt8) (n i : Int) (hl : s.length ≤ 9223372036854775807) : ∃ h', AmFn Tryd.prog 3 [.agg [int64 g, int64 r, strOf s, int64 n, int64 i]] h (.bool true) h' := by
  obtain ⟨p, a, b, env1, h1, env2, h2, d0, d1, s1, s3, s4, R, o⟩ := writes_start t g r s n i
  have l1 := R.C.one (i := 1) (by simp)
  simp only [List.getElem_cons_zero, List.getElem_cons_succ] at l1
  obtain ⟨env3, f3, q3, z1, z3, z4⟩ : ∃ env', runR Tryd.prog [] writes_2 env2 h2 = some ([], env', h2) ∧ sv env' 27 = .bool (decide (9000 < s.length)) ∧ sv env' 1 = .ptr p 0 0 ∧ sv env' 3 = .ptr a 0 0 ∧ sv env' 4 = .ptr b 0 0 := by
    simp [writes_2, runR, runOps, wanted_no, wanted_sv, ev_tm, ev_vl, sv_setD, sv_set, setD_none, qev_mov, qev_bin, qev_un, qev_lenI, qev_lenS, qev_pick, qev_load1, qev_idxSl, idx2_sl, idxA2_ptr, opt_some, bin_add, bin_sub, bin_mul, bin_lss, bin_leq, bin_gtr, bin_geq, bin_eql, bin_neq, un_not, un_neg, qev_callv, qev_new1, qev_store1, qev_nilC, nilC_ptr, qev_fld, fld0, fldN, qev_extract, nth0, nth1, nth2, qev_eqPtr, sameP_nil, notIf, s1, s3, s4, l1, strOf]
    omega
  have d2 : Dos Tryd.prog 3 (.region writes_2) env2 h2 .go [] env3 h2 := Dos_regionR (A := []) (by simp) f3
  by_cases c : 9000 < s.length
  · have kk := hk h2
    obtain ⟨env4, f4, q4⟩ : ∃ env', runR Tryd.prog [⟨4, [], h2, .bool true, h2⟩] writes_3 env3 h2 = some ([], env', h2) ∧ sv env' 2 = .bool true := by
      simp [writes_3, runR, runOps, wanted_no, wanted_sv, ev_tm, ev_vl, sv_setD, sv_set, setD_none, qev_mov, qev_bin, qev_un, qev_lenI, qev_lenS, qev_pick, qev_load1, qev_idxSl, idx2_sl, idxA2_ptr, opt_some, bin_add, bin_sub, bin_mul, bin_lss, bin_leq, bin_gtr, bin_geq, bin_eql, bin_neq, un_not, un_neg, qev_callv, qev_new1, qev_store1, qev_nilC, nilC_ptr, qev_fld, fld0, fldN, qev_extract, nth0, nth1, nth2, qev_eqPtr, sameP_nil, notIf, callA_ok ok_known]
    have d3 : Dos Tryd.prog 3 (.region writes_3) env3 h2 .go [] env4 h2 := Dos_regionR (fun x hx => by simp only [List.mem_cons, List.not_mem_nil, or_false] at hx; subst hx; exact .fn kk) f4
    rw [decide_eq_true c] at q3
    have dB : Dos Tryd.prog 3 writes_fu.body (setArgs .e 0 [.agg [int64 g, int64 r, strOf s, int64 n, int64 i]]) h .ret [] env4 h2 := by
      rw [writes_body]
      exact Dos.seq (M := []) (M1 := []) d0 (Dos.seq (M := []) (M1 := []) d1 (Dos_seqRet (Dos.seq (M := []) (M1 := []) d2 (Dos.cond (t := true) (by rw [ev_tm]; exact q3) (by simpa using Dos.seq (M := []) (M1 := []) d3 Dos.ret)))))
    exact ⟨h2, AmFn.dos writes_code (by simp) dB (vs := [sv env4 2]) rfl q4⟩
  · rw [decide_eq_false c] at q3
    obtain ⟨env4, h4, d4, q4⟩ := calls_part (by omega) hk R z1 z3 z4
    have dB : Dos Tryd.prog 3 writes_fu.body (setArgs .e 0 [.agg [int64 g, int64 r, strOf s, int64 n, int64 i]]) h .ret [] env4 h4 := by
      rw [writes_body]
      exact Dos.seq (M := []) (M1 := []) d0 (Dos.seq (M := []) (M1 := []) d1 (Dos.seq (M := []) (M1 := []) (Dos.seq (M := []) (M1 := []) d2 (Dos.cond (t := false) (by rw [ev_tm]; exact q3) (by simpa using Dos.skip))) d4))
    exact ⟨h4, AmFn.dos writes_code (by simp) dB (vs := [sv env4 2]) rfl q4⟩
end Go.Proofs.YtjhgembcdndmkaaDoor.St

namespace Go.Proofs.YtjhgembcdndmkaaDoor.St
open Go Go.Proofs.YtjhgembcdndmkaaDoor.Am Go.Proofs
theorem known_closed : closed Tryd.prog 4 (globN Tryd.prog) = true := by kernel_rfl
theorem known_fn (h : Hp) : AmFn Tryd.prog 4 [] h (.bool true) h := closed_fn known_closed h
end Go.Proofs.YtjhgembcdndmkaaDoor.St

namespace Go.Proofs.YtjhgembcdndmkaaDoor.St
open Go Go.Proofs.YtjhgembcdndmkaaDoor.Am Go.Proofs Go.RowKit
attribute [local irreducible] Tree

theorem tree_stamp : treeB Tryd.prog (0 + 4) 27 = true := by kernel_rfl

/-- A record of a number, a record (of a record of a number and a text, and a number), and a number. -/
theorem stamp_of {P : Program} {h : Hp} {d : Nat} {tS tN tB ti tj ts : TypeId} {f0 f1 f2 n0 n1 b0 b1 : Field} {l : List AV} (hS : P.underlying tS = some (.struct #[f0, f1, f2])) (hN : P.underlying tN = some (.struct #[n0, n1])) (hB : P.underlying tB = some (.struct #[b0, b1]))
    (cS : P.cellsOf tS = 5) (cN : P.cellsOf tN = 3) (cB : P.cellsOf tB = 2) (hi : P.underlying ti = some (.int .i64)) (hj : P.underlying tj = some (.int .i64)) (hs : P.underlying ts = some .string) (ci : P.cellsOf ti = 1) (cj : P.cellsOf tj = 1) (cs : P.cellsOf ts = 1)
    (p0 : f0.type = ti ∧ f0.offset = 0) (p1 : f1.type = tN ∧ f1.offset = 1) (p2 : f2.type = tj ∧ f2.offset = 4) (q0 : n0.type = tB ∧ n0.offset = 0) (q1 : n1.type = ti ∧ n1.offset = 2) (r0 : b0.type = tj ∧ b0.offset = 0) (r1 : b1.type = ts ∧ b1.offset = 1)
    (a : Tree P h (d + 4) tS l) : ∃ g r s n i, l = [int64 g, int64 r, strOf s, int64 n, int64 i] ∧ s.length ≤ reachBytes := by
  obtain ⟨q, qf⟩ := a.of_struct (d := d + 3) hS
  rw [cS] at q
  match l, q with
  | [x0, x1, x2, x3, x4], _ =>
    have k0 := qf f0 (by simp)
    have k1 := qf f1 (by simp)
    have k2 := qf f2 (by simp)
    rw [p0.1, p0.2, ci] at k0
    rw [p1.1, p1.2, cN] at k1
    rw [p2.1, p2.2, cj] at k2
    simp only [List.drop_zero, List.drop_succ_cons, List.take_succ_cons, List.take_zero] at k0 k1 k2
    obtain ⟨g, e0, _⟩ := k0.of_int (d := d + 2) hi
    obtain ⟨i, e4, _⟩ := k2.of_int (d := d + 2) hj
    obtain ⟨_, nf⟩ := k1.of_struct (d := d + 2) hN
    have m0 := nf n0 (by simp)
    have m1 := nf n1 (by simp)
    rw [q0.1, q0.2, cB] at m0
    rw [q1.1, q1.2, ci] at m1
    simp only [List.drop_zero, List.drop_succ_cons, List.take_succ_cons, List.take_zero] at m0 m1
    obtain ⟨n, e3, _⟩ := m1.of_int (d := d + 1) hi
    obtain ⟨_, bf⟩ := m0.of_struct (d := d + 1) hB
    have o0 := bf b0 (by simp)
    have o1 := bf b1 (by simp)
    rw [r0.1, r0.2, cj] at o0
    rw [r1.1, r1.2, cs] at o1
    simp only [List.drop_zero, List.drop_succ_cons, List.take_succ_cons, List.take_zero] at o0 o1
    obtain ⟨r, e1, _⟩ := o0.of_int (d := d) hj
    obtain ⟨s, e2, hs'⟩ := o1.of_string (d := d) hs
    cases e0; cases e1; cases e2; cases e3; cases e4
    exact ⟨g, r, s, n, i, rfl, hs'⟩

/-- What a stamp is made of. -/
theorem stamp_cells {h : Hp} {l : List AV} (t : Tree Tryd.prog h (0 + 4) 27 l) : ∃ g r s n i, l = [int64 g, int64 r, strOf s, int64 n, int64 i] ∧ s.length ≤ reachBytes :=
  stamp_of (d := 0) Tryd.underlying27 Tryd.underlying25 Tryd.underlying23 (by kernel_rfl) (by kernel_rfl) (by kernel_rfl) Tryd.underlying2 Tryd.underlying3 Tryd.underlying9 (by kernel_rfl) (by kernel_rfl) (by kernel_rfl) ⟨rfl, rfl⟩ ⟨rfl, rfl⟩ ⟨rfl, rfl⟩ ⟨rfl, rfl⟩ ⟨rfl, rfl⟩ ⟨rfl, rfl⟩ ⟨rfl, rfl⟩ t

/-- The memory that the law begins with. -/
noncomputable def h0 : Hp := tabH Tryd.prog 0 (Lib.pow10Tab.map fun z => .int .u64 z)

theorem writes_walk {H : Type} {enc : TypeId × Value → H} {W : World} {c0 : Array Value} {d0 : DataW H} {p0 : List MemPlace} (hg : 0 < globN Tryd.prog) (hz : globSz 0 = 20) (hnm : Tryd.prog.globalNamed Tryd.tabName = some 0)
    (htab : Lib.TabIs Tryd.prog W Tryd.tabName .u64 Lib.pow10Tab) (hsz : globN Tryd.prog ≤ W.heap.size)
    (hd : DataW.Trod enc Tryd.prog W 0 (fun _ => true) true 27 (.agg c0) d0 p0) (hw0 : ∀ n ∈ d0.weights Tryd.prog 27, n ≤ reachBytes) :
    Calls Tryd.prog 3 #[.agg c0] W fun e w' => e = .returned (.bool true) ∧ Below W.heap.size W w' := by
  obtain ⟨el, fr, hb⟩ : ∃ el fr, W.heap[0]? = some (.cells (Lib.pow10Tab.map fun z => Value.int .u64 z).toArray el fr) := by
    unfold Lib.TabIs World.var? at htab
    rw [hnm] at htab
    simp only [Option.bind_some] at htab
    split at htab
    · rename_i cs el fr e
      cases htab
      exact ⟨el, fr, e⟩
    · cases htab
  have hR := tab_rel (P := Tryd.prog) (g := 0) (l := Lib.pow10Tab.map fun z => .int .u64 z) hsz hg hb (by rw [hz]; rfl) (fun φ => by
    generalize Lib.pow10Tab = L
    show RelL φ (L.map _) (L.map _)
    induction L with
    | nil => exact .nil
    | cons x L ih => exact .cons (.int _ _) ih)
  obtain ⟨f0, hd⟩ := hd
  obtain ⟨φ, h, l, r, z, o, e, m, s, t, _⟩ := open_treeT (0 + 4) f0 27 _ _ tree_stamp hd hw0 _ _ hR rfl tabH_ro
  obtain ⟨g, rr, ss, n, i, rfl, hl⟩ := stamp_cells t
  have hnx : (Pos.ofNat 0).num < (tabH Tryd.prog 0 (Lib.pow10Tab.map fun z => .int .u64 z)).next.num := by
    unfold tabH
    rw [Pos.num_ofNat, Pos.num_ofNat]; omega
  have ht : HasTab 0 h := ⟨hnm, hg, hz, by rw [m.same _ hnx (by simp), tabH_get, if_pos rfl], Nat.lt_of_lt_of_le hnx m.next⟩
  obtain ⟨h', hf⟩ := writes_fn known_fn ht g rr ss n i (Nat.le_trans hl (by decide))
  refine (hf.calls r z (xs := #[.agg c0]) (.cons (.agg s) .nil)).mono fun e w' ⟨φ', z, q1, q2, q3, q4⟩ => ?_
  cases q2
  exact ⟨q1, q4.below o⟩
end Go.Proofs.YtjhgembcdndmkaaDoor.St
