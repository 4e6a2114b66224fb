import Derived.Test.YtmifpiglcphmoaaPlaysB
/- THE WALK'S PARTS, part C: what the functions of the law compute, over the abstract machine that stands beside this text. No condition. -/
set_option linter.unusedSimpArgs false
set_option linter.unusedVariables false
namespace Go.Proofs.Ytmifpiglcphmoaa.Plays
open Go Go.Proofs.Ytmifpiglcphmoaa.Am Go.Proofs

/-- What a round of All is told. -/
noncomputable def told (w : List (List UInt8)) (i : Nat) : List AV := [int64 i, strOf (w.getD i [])]

theorem sall_fn {h : Hp} {v : AV} (hv : v.cells = [v]) : ∃ h', AmFn Try.prog 81 [v] h (.fn (.func 88) [] [.ptr h.next 0 0]) h' ∧ Box h' h.next v ∧ Only [] h h' ∧ h'.next.num = h.next.num + 1 := by
  have nb := newB_box h v
  obtain ⟨env1, e1, f2⟩ : ∃ env', runS Try.prog true sall_fu.body [] (setArgs .e 0 [v]) h = some (.ret, [], env', newB h v) ∧ sv env' 2 = .fn (.func 88) [] [.ptr h.next 0 0] := by
    have hx : ∀ env (x : Opd), ev env x = v → evalOp Try.prog (.box x) env h = .val (.ptr h.next 0 0) (newB h v) := fun env x hx => by
      have q := qev_box Try.prog env h x (by rw [hx]; exact hv)
      rw [hx] at q; exact q
    simp [sall_fu, sall_0, sall_1, runS, runR, Rs.seq, Rs.block, sv_args, runOps, wanted_no, ev_tm, ev_vl, sv_setD, qev_mov, qev_mkFn, hx]
  exact ⟨_, AmFn.dos sall_code (by simp) (Dos.runRet [] (by simp) e1) (vs := [sv env1 2]) rfl f2, nb, newH_only _ _ _, newH_next _ _⟩

theorem sallA_loop {w : List (List UInt8)} (hw : w.length ≤ 1000000) {l : Pos} {v : AV} {S : List Pos} {J : Nat → Hp → Prop} {Q : Hp → Prop} {K : Nat} {N : Nat} (hK : K ≤ w.length) (hv : ∀ id g off n cap ex, v = .sl id g off n cap ex 1 → id ∉ S)
    (hr : ∀ (i : Nat) (h : Hp), i < K → J i h → N ≤ h.next.num → ∃ h', RoundFn Try.prog l (told w i) h (.bool true) h' ∧ J (i + 1) h' ∧ Only S h h')
    (hq : K = w.length → ∀ h, J K h → Q h) (hstop : K < w.length → ∀ (h : Hp), J K h → N ≤ h.next.num → ∃ h', RoundFn Try.prog l (told w K) h (.bool false) h' ∧ Q h' ∧ Only S h h') :
    ∀ (m i : Nat) (env : T AV) (h : Hp), i + m = w.length → i ≤ K → N ≤ h.next.num → sv env 0 = .yield l → sv env 5 = v → sv env 6 = int64 w.length → sv env 7 = int64 i → SlR h v (w.map strOf) → J i h →
      ∃ env' h' o, Loops Try.prog 88 sallA_5 env h o [] env' h' ∧ (o = .exit 0 ∨ o = .ret) ∧ Q h' ∧ Only S h h' := by
  intro m
  induction m with
  | zero =>
    intro i env h hi hiK hN s0 s5 s6 s7 hs j
    have : i = w.length := by omega
    subst this
    have hKe : K = w.length := by omega
    obtain ⟨env1, e1⟩ : ∃ env', runS Try.prog true sallA_5 [] env h = some (.exit 0, [], env', h) := by
      simp [sallA_5, sallA_1, runS, runR, Rs.seq, Rs.block, runOps, wanted_no, wanted_sv, ev_tm, ev_vl, sv_setD, sv_set, setD_none, qev_mov, qev_bin, qev_un, qev_lenI, qev_pick, qev_load1, qev_idxSl, idx2_sl, idxA2_ptr, opt_some, bin_add, bin_sub, bin_mul, bin_lss, bin_leq, bin_gtr, bin_geq, bin_eql, bin_neq, un_not, un_neg, qev_callv, qev_new1, qev_store1, qev_nilC, nilC_ptr, qev_fld, fldA_ptr, qev_extract, nth0, nth1, nth2, qev_eqPtr, sameP_nil, notIf, s6, s7]
    exact ⟨env1, h, .exit 0, .out (Dos.runExit [] (by simp) e1) (by simp), .inl rfl, hq hKe h (hKe ▸ j), .refl _ _⟩
  | succ m ih =>
    intro i env h hi hiK hN s0 s5 s6 s7 hs j
    have hil : i < w.length := by omega
    obtain ⟨id, g, off, cap, ex, hv', row⟩ := hs.sl_or (x := strOf w[i]) (List.mem_map.2 ⟨w[i], List.getElem_mem hil, rfl⟩)
    have hone := row.one i (by simpa using hil)
    simp [List.getElem?_eq_getElem hil] at hone
    have hv' : v = .sl id g off w.length cap ex 1 := by simpa using hv'
    have ht : told w i = [int64 i, strOf w[i]] := by
      unfold told
      rw [List.getD_eq_getElem?_getD, List.getElem?_eq_getElem hil]; rfl
    obtain ⟨env1, e1, f8, f0, f5, f6, f7⟩ : ∃ env1, runOps Try.prog sallA_1 env h = some (env1, h) ∧ sv env1 8 = .bool true ∧ sv env1 0 = .yield l ∧ sv env1 5 = v ∧ sv env1 6 = int64 w.length ∧ sv env1 7 = int64 i := by
      simp [sallA_1, runOps, wanted_no, wanted_sv, ev_tm, ev_vl, sv_setD, sv_set, setD_none, qev_mov, qev_bin, qev_un, qev_lenI, qev_pick, qev_load1, qev_idxSl, idx2_sl, idxA2_ptr, opt_some, bin_add, bin_sub, bin_mul, bin_lss, bin_leq, bin_gtr, bin_geq, bin_eql, bin_neq, un_not, un_neg, qev_callv, qev_new1, qev_store1, qev_nilC, nilC_ptr, qev_fld, fldA_ptr, qev_extract, nth0, nth1, nth2, qev_eqPtr, sameP_nil, notIf, s0, s5, s6, s7, hil]
    obtain ⟨env2, e2, k3, k4, k0, k5, k6, k7⟩ : ∃ env2, runOps Try.prog sallA_2 env1 h = some (env2, h) ∧ sv env2 3 = int64 i ∧ sv env2 4 = strOf w[i] ∧ sv env2 0 = .yield l ∧ sv env2 5 = v ∧ sv env2 6 = int64 w.length ∧ sv env2 7 = int64 i := by
      rw [hv'] at f5 ⊢
      simp [sallA_2, runOps, wanted_no, wanted_sv, ev_tm, ev_vl, sv_setD, sv_set, setD_none, qev_mov, qev_bin, qev_un, qev_lenI, qev_pick, qev_load1, qev_idxSl, idx2_sl, idxA2_ptr, opt_some, bin_add, bin_sub, bin_mul, bin_lss, bin_leq, bin_gtr, bin_geq, bin_eql, bin_neq, un_not, un_neg, qev_callv, qev_new1, qev_store1, qev_nilC, nilC_ptr, qev_fld, fldA_ptr, qev_extract, nth0, nth1, nth2, qev_eqPtr, sameP_nil, notIf, f0, f5, f6, f7, hil, hone]
    obtain ⟨env3, e3, m12, m13, m14, m0, m5, m6, m7⟩ : ∃ env3, runOps Try.prog (sallA_3.take 3) env2 h = some (env3, h) ∧ sv env3 12 = .yield l ∧ sv env3 13 = int64 i ∧ sv env3 14 = strOf w[i] ∧ sv env3 0 = .yield l ∧ sv env3 5 = v ∧ sv env3 6 = int64 w.length ∧ sv env3 7 = int64 i := by
      simp [sallA_3, runOps, wanted_no, wanted_sv, ev_tm, ev_vl, sv_setD, sv_set, setD_none, qev_mov, qev_bin, qev_un, qev_lenI, qev_pick, qev_load1, qev_idxSl, idx2_sl, idxA2_ptr, opt_some, bin_add, bin_sub, bin_mul, bin_lss, bin_leq, bin_gtr, bin_geq, bin_eql, bin_neq, un_not, un_neg, qev_callv, qev_new1, qev_store1, qev_nilC, nilC_ptr, qev_fld, fldA_ptr, qev_extract, nth0, nth1, nth2, qev_eqPtr, sameP_nil, notIf, k3, k4, k0, k5, k6, k7]
    have w1 : wrapA .i64 ((i : Int) + 1) = (i : Int) + 1 := wrap64 (by omega) (by omega)
    have hask : ∀ b h2, RoundFn Try.prog l (told w i) h (.bool b) h2 → ∃ env4, Dos Try.prog 88 (.region sallA_3) env2 h .go [] env4 h2 ∧ sv env4 16 = .bool (!b) ∧ sv env4 0 = .yield l ∧ sv env4 5 = v ∧ sv env4 6 = int64 w.length ∧ sv env4 7 = int64 i := by
      intro b h2 hround
      obtain ⟨env4, e4, p16, p0, p5, p6, p7⟩ : ∃ env4, runOps Try.prog (sallA_3.drop 4) (setD env3 (some (Pos.ofNat 15)) (.bool b)) h2 = some (env4, h2) ∧ sv env4 16 = .bool (!b) ∧ sv env4 0 = .yield l ∧ sv env4 5 = v ∧ sv env4 6 = int64 w.length ∧ sv env4 7 = int64 i := by
        simp [sallA_3, runOps, wanted_no, wanted_sv, ev_tm, ev_vl, sv_setD, sv_set, setD_none, qev_mov, qev_bin, qev_un, qev_lenI, qev_pick, qev_load1, qev_idxSl, idx2_sl, idxA2_ptr, opt_some, bin_add, bin_sub, bin_mul, bin_lss, bin_leq, bin_gtr, bin_geq, bin_eql, bin_neq, un_not, un_neg, qev_callv, qev_new1, qev_store1, qev_nilC, nilC_ptr, qev_fld, fldA_ptr, qev_extract, nth0, nth1, nth2, qev_eqPtr, sameP_nil, notIf, m0, m5, m6, m7]
      exact ⟨env4, Dos.regionY (l1 := sallA_3.take 3) (y := ⟨(some (Pos.ofNat 15)), none, .call (.value (tm 12)) [(tm 13), (tm 14)], true, 0⟩) (l2 := sallA_3.drop 4) (l := l) (args := told w i) e3 rfl rfl (by rw [ht]; simp [qev_callv, ev_tm, m12, m13, m14]) hround e4, p16, p0, p5, p6, p7⟩
    by_cases hK' : i < K
    · obtain ⟨h2, hround, j2, o2⟩ := hr i h hK' j hN
      obtain ⟨env4, d3, p16, p0, p5, p6, p7⟩ := hask true h2 hround
      obtain ⟨env5, e5, q0, q5, q6, q7⟩ : ∃ env5, runOps Try.prog sallA_4 env4 h2 = some (env5, h2) ∧ sv env5 0 = .yield l ∧ sv env5 5 = v ∧ sv env5 6 = int64 w.length ∧ sv env5 7 = int64 ((i + 1 : Nat) : Int) := by
        simp [sallA_4, runOps, wanted_no, wanted_sv, ev_tm, ev_vl, sv_setD, sv_set, setD_none, qev_mov, qev_bin, qev_un, qev_lenI, qev_pick, qev_load1, qev_idxSl, idx2_sl, idxA2_ptr, opt_some, bin_add, bin_sub, bin_mul, bin_lss, bin_leq, bin_gtr, bin_geq, bin_eql, bin_neq, un_not, un_neg, qev_callv, qev_new1, qev_store1, qev_nilC, nilC_ptr, qev_fld, fldA_ptr, qev_extract, nth0, nth1, nth2, qev_eqPtr, sameP_nil, notIf, p0, p5, p6, p7, w1]
      have n2 := o2.next
      obtain ⟨env', h', o, L, ho, hQ, oo⟩ := ih (i + 1) env5 h2 (by omega) (by omega) (by omega) q0 q5 q6 q7 (hs.only o2 hv) j2
      refine ⟨env', h', o, .more (M := []) (M1 := []) ?_ L, ho, hQ, o2.trans oo⟩
      exact Dos.seq (M := []) (M1 := []) (Dos.region e1) (Dos.seq (M := []) (M1 := []) (Dos.cond (t := true) f8 .skip) (Dos.seq (M := []) (M1 := []) (Dos.block (i := 1) (o := .go) (Dos.seq (M := []) (M1 := []) (Dos.region e2) (Dos.seq (M := []) (M1 := []) d3 (Dos.cond (t := false) p16 .skip)))) (Dos.region e5)))
    · have : i = K := by omega
      subst this
      obtain ⟨h2, hround, j2, o2⟩ := hstop hil h j hN
      obtain ⟨env4, d3, p16, p0, p5, p6, p7⟩ := hask false h2 hround
      refine ⟨env4, h2, .ret, .out ?_ (by simp), .inr rfl, j2, o2⟩
      exact Dos.seq (M := []) (M1 := []) (Dos.region e1) (Dos.seq (M := []) (M1 := []) (Dos.cond (t := true) f8 .skip) (Dos.left (Dos.block (i := 1) (o := .ret) (Dos.seq (M := []) (M1 := []) (Dos.region e2) (Dos.seq (M := []) (M1 := []) d3 (Dos.cond (t := true) p16 .ret)))) (by simp [Sg.blk])))

/-- The memory that a going over reads. -/
def held (q : Pos) (v : AV) (id : Pos) : Prop := id = q ∨ ∃ g off n cap ex, v = .sl id g off n cap ex 1

/-- What slices.All answers goes over the row. -/
theorem sallA_goes {w : List (List UInt8)} (hw : w.length ≤ 1000000) {h : Hp} {q : Pos} {v : AV} (b : Box h q v) (hs : SlR h v (w.map strOf)) :
    GoesOver Try.prog 88 [.ptr q 0 0] w.length (told w) (held q v) h := by
  intro l S J Q K h0 hK ho hS hJ hQ hr hfin hstop j0
  have b0 := (b.only ho (by simp)).load
  have hs0 := hs.more ho.more
  have hl : ∀ env x, ev env x = v → evalOp Try.prog (.lenL x) env h0 = .val (int64 w.length) h0 := SlR.lenI hs0
  obtain ⟨env1, e1, f0, f5, f6, f7⟩ : ∃ env', runS Try.prog true sallA_fu.body [] (setArgs .e 0 [.yield l, .ptr q 0 0]) h0 = some (.upt [.code (.loop sallA_5), .inBlock 0], [], env', h0) ∧ sv env' 0 = .yield l ∧ sv env' 5 = v ∧ sv env' 6 = int64 w.length ∧ sv env' 7 = int64 ((0 : Nat) : Int) := by
    simp [sallA_fu, sallA_0, runS, runR, Rs.seq, Rs.block, sv_args, runOps, wanted_no, ev_tm, ev_vl, sv_setD, qev_mov, qev_load1, opt_some, b0, hl]
  obtain ⟨env', h', o, L, hor, hQ', o'⟩ := sallA_loop hw (l := l) (v := v) (S := S) (J := J) (Q := Q) (K := K) (N := h0.next.num) hK (fun id g off n cap ex e c => (hS _ c).1 (.inr ⟨g, off, n, cap, ex, e⟩)) hr hfin hstop w.length 0 env1 h0 (by omega) (by omega) (Nat.le_refl _) f0 f5 f6 f7 hs0 j0
  refine ⟨h', ?_, hQ', o'⟩
  rcases hor with e | e
  · subst e
    exact AmFn.dos0 sallA_code (by simp) (o := .go) (fun _ => .inl rfl) (by simp) (Dos.run (M := []) [] (by simp) e1 (.leave (M := []) (M1 := []) (i := 0) (Dos.loop L) rfl .nil))
  · subst e
    exact AmFn.dos0 sallA_code (by simp) (o := .ret) (fun _ => .inr rfl) (by simp) (Dos.run (M := []) [] (by simp) e1 (.ret (Dos.loop L)))

/-- The yield that All's function holds. -/
theorem allA_body {h : Hp} {qy : Pos} {l : Pos} {args : List AV} {b : Bool} {h2 : Hp} (by_ : Box h qy (.yield l)) {x y : AV} (ha : args = [x, y]) (hr : RoundFn Try.prog l args h (.bool b) h2) {env : T AV} (s2 : sv env 2 = .ptr qy 0 0) (s3 : sv env 3 = x) (s4 : sv env 4 = y) :
    ∃ env', Dos Try.prog 80 allA_6 env h (if b then .go else .ret) [] env' h2 := by
  subst ha
  have l2 := by_.load
  obtain ⟨env3, e3, m9, m10, m11⟩ : ∃ env3, runOps Try.prog (allA_5.take 3) env h = some (env3, h) ∧ sv env3 9 = .yield l ∧ sv env3 10 = x ∧ sv env3 11 = y := by
    simp [allA_5, runOps, wanted_no, wanted_sv, ev_tm, ev_vl, sv_setD, sv_set, setD_none, qev_mov, qev_bin, qev_un, qev_lenI, qev_pick, qev_load1, qev_idxSl, idx2_sl, idxA2_ptr, opt_some, bin_add, bin_sub, bin_mul, bin_lss, bin_leq, bin_gtr, bin_geq, bin_eql, bin_neq, un_not, un_neg, qev_callv, qev_new1, qev_store1, qev_nilC, nilC_ptr, qev_fld, fldA_ptr, qev_extract, nth0, nth1, nth2, qev_eqPtr, sameP_nil, notIf, s2, s3, s4, l2]
  obtain ⟨env4, e4, p13⟩ : ∃ env4, runOps Try.prog (allA_5.drop 4) (setD env3 (some (Pos.ofNat 12)) (.bool b)) h2 = some (env4, h2) ∧ sv env4 13 = .bool (!b) := by
    simp [allA_5, runOps, wanted_no, wanted_sv, ev_tm, ev_vl, sv_setD, sv_set, setD_none, qev_mov, qev_bin, qev_un, qev_lenI, qev_pick, qev_load1, qev_idxSl, idx2_sl, idxA2_ptr, opt_some, bin_add, bin_sub, bin_mul, bin_lss, bin_leq, bin_gtr, bin_geq, bin_eql, bin_neq, un_not, un_neg, qev_callv, qev_new1, qev_store1, qev_nilC, nilC_ptr, qev_fld, fldA_ptr, qev_extract, nth0, nth1, nth2, qev_eqPtr, sameP_nil, notIf]
  have d := Dos.regionY (F := 80) (l1 := allA_5.take 3) (y := ⟨(some (Pos.ofNat 12)), none, .call (.value (tm 9)) [(tm 10), (tm 11)], true, 0⟩) (l2 := allA_5.drop 4) (l := l) (args := [x, y]) e3 rfl rfl (by simp [qev_callv, ev_tm, m9, m10, m11]) hr e4
  cases b with
  | true => exact ⟨env4, Dos.block (i := 1) (o := .go) (Dos.seq (M := []) (M1 := []) d (Dos.cond (t := false) p13 .skip))⟩
  | false => exact ⟨env4, Dos.block (i := 1) (o := .ret) (Dos.seq (M := []) (M1 := []) d (Dos.cond (t := true) p13 .ret))⟩

/-- What All answers goes over the row. -/
theorem allA_goes {w : List (List UInt8)} (hw : w.length ≤ 1000000) {h : Hp} {q : Pos} {v : AV} (b : Box h q v) (hs : SlR h v (w.map strOf)) (hv : ∀ id g off n cap ex, v = .sl id g off n cap ex 1 → id.num < h.next.num) :
    GoesOver Try.prog 80 [.ptr q 0 0] w.length (told w) (held q v) h := by
  intro l S J Q K h0 hK ho hS hJ hQ hr hfin hstop j0
  have nh := ho.next
  have ob : Only [] h0 (newB h0 (.yield l)) := newH_only _ _ _
  have nb : (newB h0 (.yield l)).next.num = h0.next.num + 1 := newH_next _ _
  have bb := newB_box h0 (.yield l)
  have b1 := (b.only (ho.trans ob) (by simp)).load
  have hs1 := hs.more (ho.trans ob).more
  obtain ⟨h2, k2, b2, o2, n2⟩ := sall_fn (h := newB h0 (.yield l)) hs1.atom.2
  obtain ⟨env1, e1, f2, f6⟩ : ∃ env', runS Try.prog true allA_fu.body [⟨81, [v], newB h0 (.yield l), .fn (.func 88) [] [.ptr (newB h0 (.yield l)).next 0 0], h2⟩] (setArgs .e 0 [.yield l, .ptr q 0 0]) h0 = some (.upt [.code (.rangeFunc (tm 6) [Pos.ofNat 7, Pos.ofNat 8] allA_4 allA_6), .inBlock 0], [], env', h2) ∧
      sv env' 2 = .ptr h0.next 0 0 ∧ sv env' 6 = .fn (.func 88) [] [.ptr (newB h0 (.yield l)).next 0 0] := by
    have hx : ∀ env (x : Opd), ev env x = .yield l → evalOp Try.prog (.box x) env h0 = .val (.ptr h0.next 0 0) (newB h0 (.yield l)) := fun env x hx => by
      have q := qev_box Try.prog env h0 x (by rw [hx]; rfl)
      rw [hx] at q; exact q
    simp [allA_fu, allA_0, allA_1, runS, runR, Rs.seq, Rs.block, sv_args, runOps, wanted_no, ev_tm, ev_vl, sv_setD, qev_mov, qev_load1, opt_some, qev_callv, callA_ok ok81, hx, b1]
  generalize hqb : (newB h0 (.yield l)).next = qb at *
  have bb2 := bb.only o2 (by simp)
  have o02 := ob.trans o2
  have goer := sallA_goes hw b2 (hs1.more o2.more)
  have hqn : qb.num = h0.next.num + 1 := nb
  have kq := b2.old
  have hM : ∀ id, held qb v id → id.num < h2.next.num := fun id c => by
    rcases c with c | ⟨g, off, n, cap, ex, e⟩
    · subst c; exact kq
    · have := hv _ _ _ _ _ _ e; have := o02.next; omega
  have hS2 : ∀ id ∈ S, ¬ held qb v id ∧ id.num < h2.next.num := fun id hid => by
    obtain ⟨q1, q2⟩ := hS id hid
    refine ⟨fun c => ?_, by have := o02.next; omega⟩
    rcases c with c | c
    · subst c; omega
    · exact q1 (.inr c)
  have n02 := o02.next
  have qS : h0.next ∉ S := fun c => by have := (hS _ c).2; omega
  have hass : ∀ i h1, i < w.length → ∃ env0, setParams env1 [Pos.ofNat 7, Pos.ofNat 8] (told w i) = some env0 ∧ Dos Try.prog 80 allA_4 env0 h1 .go [] (setD (setD (T.set (Pos.ofNat 8) (some (strOf (w.getD i []))) (T.set (Pos.ofNat 7) (some (int64 i)) env1)) (some (Pos.ofNat 3)) (int64 i)) (some (Pos.ofNat 4)) (strOf (w.getD i []))) h1 := fun i h1 _ => by
    refine ⟨_, by simp [told, setParams, T.setK_eq]; rfl, Dos.runGo [] (by simp) (dr := true) (A1 := []) ?_⟩
    simp [allA_4, allA_2, allA_3, runS, runR, runOps, wanted_no, wanted_sv, ev_tm, ev_vl, sv_setD, sv_set, setD_none, qev_mov, qev_bin, qev_un, qev_lenI, qev_pick, qev_load1, qev_idxSl, idx2_sl, idxA2_ptr, opt_some, bin_add, bin_sub, bin_mul, bin_lss, bin_leq, bin_gtr, bin_geq, bin_eql, bin_neq, un_not, un_neg, qev_callv, qev_new1, qev_store1, qev_nilC, nilC_ptr, qev_fld, fldA_ptr, qev_extract, nth0, nth1, nth2, qev_eqPtr, sameP_nil, notIf]
  obtain ⟨h3, d, hQ3, o3, ⟨s, hs3⟩, n3⟩ := Dos.over (F := 80) (env := env1) (h := h2) (f := tm 6) (params := [Pos.ofNat 7, Pos.ofNat 8]) (assign := allA_4) (body := allA_6) goer hM ok88 f6 hass hS2 hK (j := .ret) (o := .ret) (.inl ⟨rfl, rfl⟩)
    (fun i h1 => J i h1 ∧ Box h1 h0.next (.yield l)) Q
    (fun i h1 h4 S' jq oq hS' => ⟨hJ i h1 h4 S' jq.1 oq fun id hid => by have := hS' id hid; omega, jq.2.only oq fun c => by have := hS' _ c; omega⟩)
    (fun h1 h4 S' jq oq hS' => hQ h1 h4 S' jq oq fun id hid => by have := hS' id hid; omega)
    (fun i h1 hi jq hn => by
      obtain ⟨h4, r, j4, o4⟩ := hr i h1 hi jq.1 (by omega)
      obtain ⟨env2, d⟩ := allA_body jq.2 (args := told w i) rfl r (env := setD (setD (T.set (Pos.ofNat 8) (some (strOf (w.getD i []))) (T.set (Pos.ofNat 7) (some (int64 i)) env1)) (some (Pos.ofNat 3)) (int64 i)) (some (Pos.ofNat 4)) (strOf (w.getD i []))) (by simp [sv_setD, sv_set, f2]) (by simp [sv_setD, sv_set]) (by simp [sv_setD, sv_set])
      exact ⟨env2, h4, d, ⟨j4, jq.2.only o4 qS⟩, o4⟩)
    (fun e h1 jq => hfin e h1 jq.1)
    (fun hi h1 jq hn => by
      obtain ⟨h4, r, j4, o4⟩ := hstop hi h1 jq.1 (by omega)
      obtain ⟨env2, d⟩ := allA_body jq.2 (args := told w K) rfl r (env := setD (setD (T.set (Pos.ofNat 8) (some (strOf (w.getD K []))) (T.set (Pos.ofNat 7) (some (int64 K)) env1)) (some (Pos.ofNat 3)) (int64 K)) (some (Pos.ofNat 4)) (strOf (w.getD K []))) (by simp [sv_setD, sv_set, f2]) (by simp [sv_setD, sv_set]) (by simp [sv_setD, sv_set])
      exact ⟨env2, h4, d, j4, o4⟩)
    ⟨hJ 0 h0 h2 [] j0 o02 (by simp), bb2⟩
  have or := remMs_only [h2.next] h3
  refine ⟨remMs h3 [h2.next], ?_, hQ _ _ _ hQ3 or (by simp; omega), ((o02.mono (S' := h2.next :: S) (by simp)).trans ((o3.mono fun id hid => .inl (by simp [hid])).trans (or.mono fun id hid => .inl (by simp at hid; simp [hid])))).mono fun id hid => ?_⟩
  · by_cases e : K = w.length
    · rw [if_pos e] at d
      exact AmFn.dosE (rs := [h2.next]) (.inl rfl) allA_code (by simp) (Dos.run _ (by intro x hx; simp at hx; subst hx; exact k2) e1 (.more (M := []) d (.inBlock .nil))) (by intro r hr; simp at hr; subst hr; exact ⟨s, hs3⟩) (by simp) (vs := []) rfl rfl
    · rw [if_neg e] at d
      exact AmFn.dosE (rs := [h2.next]) (.inr rfl) allA_code (by simp) (Dos.run _ (by intro x hx; simp at hx; subst hx; exact k2) e1 (.ret d)) (by intro r hr; simp at hr; subst hr; exact ⟨s, hs3⟩) (by simp) (vs := []) rfl rfl
  · rcases List.mem_cons.1 hid with q | q
    · exact .inr (by rw [q]; omega)
    · exact .inl q
end Go.Proofs.Ytmifpiglcphmoaa.Plays

namespace Go.Proofs.Ytmifpiglcphmoaa.Plays
open Go Go.Proofs.Ytmifpiglcphmoaa.Am Go.Proofs

/-- What stays through the turns of a going over. -/
structure GLaw (N : Nat) (h : Hp) (p4 p5 p6 : Pos) (leave : Int) (v : AV) (w : List (List UInt8)) : Prop where
  b4 : Box h p4 v
  b5 : Box h p5 (int64 leave)
  b6 : Box h p6 (.bool false)
  s : SlR h v (w.map strOf)
  l4 : p4.num < N
  l5 : p5.num < N
  l6 : p6.num < N
  lv : ∀ id g off n cap ex, v = .sl id g off n cap ex 1 → id.num < N

theorem GLaw.only {N : Nat} {h h' : Hp} {p4 p5 p6 : Pos} {leave : Int} {v : AV} {w : List (List UInt8)} {S : List Pos} (a : GLaw N h p4 p5 p6 leave v w) (m : Only S h h') (hS : ∀ id ∈ S, N ≤ id.num) : GLaw N h' p4 p5 p6 leave v w :=
  ⟨a.b4.only m fun c => by have := hS _ c; have := a.l4; omega, a.b5.only m fun c => by have := hS _ c; have := a.l5; omega,
    a.b6.only m fun c => by have := hS _ c; have := a.l6; omega, a.s.only m fun id g off n cap ex e c => by have := hS _ c; have := a.lv _ _ _ _ _ _ e; omega, a.l4, a.l5, a.l6, a.lv⟩

theorem GLaw.mono {N N' : Nat} {h : Hp} {p4 p5 p6 : Pos} {leave : Int} {v : AV} {w : List (List UInt8)} (a : GLaw N h p4 p5 p6 leave v w) (hN : N ≤ N') : GLaw N' h p4 p5 p6 leave v w :=
  ⟨a.b4, a.b5, a.b6, a.s, Nat.lt_of_lt_of_le a.l4 hN, Nat.lt_of_lt_of_le a.l5 hN, Nat.lt_of_lt_of_le a.l6 hN, fun id g off m cap ex e => Nat.lt_of_lt_of_le (a.lv id g off m cap ex e) hN⟩

/-- A round's body. -/
theorem goes_body {N : Nat} {h : Hp} {p4 p5 p6 p8 p9 : Pos} {leave t : Int} {v : AV} {w : List (List UInt8)} (a : GLaw N h p4 p5 p6 leave v w) (hw : w.length ≤ 65536) {i : Nat} (hi : i < w.length) (b8 : Box h p8 (int64 t)) (b9 : Box h p9 (int64 i))
    (k9 : N ≤ p9.num) (d1 : p8 ≠ p9) {env : T AV} (s4 : sv env 4 = .ptr p4 0 0) (s5 : sv env 5 = .ptr p5 0 0) (s8 : sv env 8 = .ptr p8 0 0) (s9 : sv env 9 = .ptr p9 0 0) (s10 : sv env 10 = int64 i) (s11 : sv env 11 = strOf w[i]) :
    ∃ env', Dos Try.prog 25 goes_15 env h (if t = 0 ∧ (i : Int) + 1 = leave then .exit 2 else .go) [] env' (putB h p9 (int64 ((i + 1 : Nat) : Int))) := by
  have l4 := a.b4.load
  have l9 := b9.load
  have hl : ∀ env x, ev env x = v → evalOp Try.prog (.lenL x) env h = .val (int64 w.length) h := SlR.lenI a.s
  obtain ⟨id, g, off, cap, ex, hv, row⟩ := a.s.sl_or (x := strOf w[i]) (List.mem_map.2 ⟨w[i], List.getElem_mem hi, rfl⟩)
  have hone := row.one i (by simpa using hi)
  simp [List.getElem?_eq_getElem hi] at hone
  have hv' : v = .sl id g off w.length cap ex 1 := by simpa using hv
  have hge : ¬ ((w.length : Int) ≤ i) := by omega
  have w1 : wrapA .i64 ((i : Int) + 1) = (i : Int) + 1 := wrap64 (by omega) (by omega)
  have o2 := putB_only h p9 (int64 ((i + 1 : Nat) : Int))
  have b9' := putB_box b9 (int64 ((i + 1 : Nat) : Int))
  have b8' := b8.only o2 (by simpa using d1)
  have a2 := a.only o2 (by simpa using k9)
  have st := storeR_box b9 (int64 ((i + 1 : Nat) : Int)) rfl rfl
  have l8 := b8'.load
  have l9' := b9'.load
  have l5 := a2.b5.load
  have hix : ∀ env (h : Hp) (x y : Opd), ev env x = v → ev env y = int64 i → evalOp Try.prog (.idxAddrSl 1 x y) env h = .val (.ptr id g (off + i)) h := fun env h x y hx hy => by
    rw [qev_idxSl, hx, hy, hv', idx2_sl]
    simp [hi]
  obtain ⟨env1, e1, f5, f8, f9⟩ : ∃ env', runS Try.prog true (.seq (.region goes_11) (.cond (tm 39) (.seq (.region goes_12) .ret) .skip)) [] env h = some (.upt [], [], env', h) ∧ sv env' 5 = .ptr p5 0 0 ∧ sv env' 8 = .ptr p8 0 0 ∧ sv env' 9 = .ptr p9 0 0 := by
    simp [goes_11, runS, runR, Rs.seq, Rs.block, runOps, wanted_no, wanted_sv, ev_tm, ev_vl, sv_setD, setD_none, qev_mov, qev_bin, qev_pick, qev_load1, opt_some, bin_geq, bin_neq, bin_neqS, s4, s5, s8, s9, s10, s11, l4, l9, hl, hge, hix, hone, hi]
  rw [show ((i + 1 : Nat) : Int) = (i : Int) + 1 by omega] at st l8 l9' l5 ⊢
  by_cases hb : t = 0 ∧ (i : Int) + 1 = leave
  · have hb' := hb
    obtain ⟨hb1, hb2⟩ := hb'
    subst hb1 hb2
    obtain ⟨env2, e2⟩ : ∃ env', runS Try.prog true (.seq (.region goes_13) (.seq (.region goes_14) (.cond (tm 48) (.exit 2) .skip))) [] env1 h = some (.exit 2, [], env', putB h p9 (int64 ((i : Int) + 1))) := by
      simp [goes_13, goes_14, runS, runR, Rs.seq, Rs.block, runOps, wanted_no, wanted_sv, ev_tm, ev_vl, sv_setD, sv_set, setD_none, qev_mov, qev_bin, qev_un, qev_lenI, qev_pick, qev_load1, qev_idxSl, idx2_sl, idxA2_ptr, opt_some, bin_add, bin_sub, bin_mul, bin_lss, bin_leq, bin_gtr, bin_geq, bin_eql, bin_neq, un_not, un_neg, qev_callv, qev_new1, qev_store1, qev_nilC, nilC_ptr, qev_fld, fldA_ptr, qev_extract, nth0, nth1, nth2, qev_eqPtr, sameP_nil, notIf, f5, f8, f9, l8, l9, l9', l5, w1, st]
    refine ⟨env2, ?_⟩
    rw [if_pos hb]
    exact Dos.block (i := 3) (o := .exit 2) (Dos.seq (M := []) (M1 := []) (Dos.runGo [] (by simp) e1) (Dos.runExit [] (by simp) e2))
  · obtain ⟨env2, e2⟩ : ∃ env', runS Try.prog true (.seq (.region goes_13) (.seq (.region goes_14) (.cond (tm 48) (.exit 2) .skip))) [] env1 h = some (.upt [], [], env', putB h p9 (int64 ((i : Int) + 1))) := by
      by_cases ht : t = 0
      · have hne : ¬ ((i : Int) + 1 = leave) := fun c => hb ⟨ht, c⟩
        subst ht
        simp [goes_13, goes_14, runS, runR, Rs.seq, Rs.block, runOps, wanted_no, wanted_sv, ev_tm, ev_vl, sv_setD, sv_set, setD_none, qev_mov, qev_bin, qev_un, qev_lenI, qev_pick, qev_load1, qev_idxSl, idx2_sl, idxA2_ptr, opt_some, bin_add, bin_sub, bin_mul, bin_lss, bin_leq, bin_gtr, bin_geq, bin_eql, bin_neq, un_not, un_neg, qev_callv, qev_new1, qev_store1, qev_nilC, nilC_ptr, qev_fld, fldA_ptr, qev_extract, nth0, nth1, nth2, qev_eqPtr, sameP_nil, notIf, f5, f8, f9, l8, l9, l9', l5, w1, st, hne]
      · simp [goes_13, goes_14, runS, runR, Rs.seq, Rs.block, runOps, wanted_no, wanted_sv, ev_tm, ev_vl, sv_setD, sv_set, setD_none, qev_mov, qev_bin, qev_un, qev_lenI, qev_pick, qev_load1, qev_idxSl, idx2_sl, idxA2_ptr, opt_some, bin_add, bin_sub, bin_mul, bin_lss, bin_leq, bin_gtr, bin_geq, bin_eql, bin_neq, un_not, un_neg, qev_callv, qev_new1, qev_store1, qev_nilC, nilC_ptr, qev_fld, fldA_ptr, qev_extract, nth0, nth1, nth2, qev_eqPtr, sameP_nil, notIf, f5, f8, f9, l8, l9, l9', l5, w1, st, ht]
    refine ⟨env2, ?_⟩
    rw [if_neg hb]
    exact Dos.block (i := 3) (o := .go) (Dos.seq (M := []) (M1 := []) (Dos.runGo [] (by simp) e1) (Dos.runGo [] (by simp) e2))

/-- One turn. -/
theorem goes_turn {h : Hp} {p4 p5 p6 p8 q : Pos} {leave t : Int} {v vc : AV} {w : List (List UInt8)} (a : GLaw h.next.num h p4 p5 p6 leave v w) (hw : w.length ≤ 65536) (b8 : Box h p8 (int64 t)) (ht : t = 0 ∨ t = 1)
    (bq : Box h q vc) (sq : SlR h vc (w.map strOf)) (vq : ∀ id g off n cap ex, vc = .sl id g off n cap ex 1 → id.num < h.next.num) {env : T AV}
    (s4 : sv env 4 = .ptr p4 0 0) (s5 : sv env 5 = .ptr p5 0 0) (s6 : sv env 6 = .ptr p6 0 0) (s7 : sv env 7 = .fn (.func 80) [] [.ptr q 0 0]) (s8 : sv env 8 = .ptr p8 0 0) :
    ∃ (env' : T AV) (h' : Hp) (p r : Pos), Dos Try.prog 25 goes_21 env h .go [.mark r] env' h' ∧ Only [] h h' ∧ Box h' p (int64 (t + 1)) ∧ h.next.num ≤ r.num ∧ r.num < h'.next.num ∧ (∃ s, T.get r h'.heap = some (.dfr s)) ∧
      sv env' 4 = .ptr p4 0 0 ∧ sv env' 5 = .ptr p5 0 0 ∧ sv env' 6 = .ptr p6 0 0 ∧ sv env' 7 = .fn (.func 80) [] [.ptr q 0 0] ∧ sv env' 8 = .ptr p 0 0 := by
  have ob : Only [] h (newB h (int64 0)) := newH_only _ _ _
  have nb : (newB h (int64 0)).next.num = h.next.num + 1 := newH_next _ _
  have hb := newB_box h (int64 0)
  have st := storeR_box hb (int64 0) rfl rfl
  have ob1 := putB_only (newB h (int64 0)) h.next (int64 0)
  have hb1 := putB_box hb (int64 0)
  have l8 := b8.load
  have hlt : t < 2 := by omega
  obtain ⟨env1, e1, f4, f5, f6, f7, f8, f9, f20⟩ : ∃ env', runS Try.prog true goes_21 [] env h = some (.upt [.code (.rangeFunc (tm 20) [Pos.ofNat 21, Pos.ofNat 22] goes_10 goes_15), .inBlock 2, .code (.seq (.region goes_16) (.cond (tm 71) (.seq (.region goes_17) .ret) .skip)), .inBlock 1, .code (.seq (.seq (.region goes_18) (.region goes_19)) (.region goes_20))], [], env', putB (newB h (int64 0)) h.next (int64 0)) ∧
      sv env' 4 = .ptr p4 0 0 ∧ sv env' 5 = .ptr p5 0 0 ∧ sv env' 6 = .ptr p6 0 0 ∧ sv env' 7 = .fn (.func 80) [] [.ptr q 0 0] ∧ sv env' 8 = .ptr p8 0 0 ∧ sv env' 9 = .ptr h.next 0 0 ∧ sv env' 20 = .fn (.func 80) [] [.ptr q 0 0] := by
    simp [goes_21, goes_5, goes_6, goes_7, runS, runR, Rs.seq, Rs.block, runOps, wanted_no, wanted_sv, ev_tm, ev_vl, sv_setD, sv_set, setD_none, qev_mov, qev_bin, qev_un, qev_lenI, qev_pick, qev_load1, qev_idxSl, idx2_sl, idxA2_ptr, opt_some, bin_add, bin_sub, bin_mul, bin_lss, bin_leq, bin_gtr, bin_geq, bin_eql, bin_neq, un_not, un_neg, qev_callv, qev_new1, qev_store1, qev_nilC, nilC_ptr, qev_fld, fldA_ptr, qev_extract, nth0, nth1, nth2, qev_eqPtr, sameP_nil, notIf, s4, s5, s6, s7, s8, l8, hlt, st]
  have o1 : Only [] h (putB (newB h (int64 0)) h.next (int64 0)) := Only.weak ob1 (N := h.next.num) (by simp) ob (Nat.le_refl _)
  have n1 : (putB (newB h (int64 0)) h.next (int64 0)).next.num = h.next.num + 1 := nb
  generalize putB (newB h (int64 0)) h.next (int64 0) = h1 at *
  have a1 : GLaw h.next.num h1 p4 p5 p6 leave v w := a.only o1 (by simp)
  have b8' := b8.only o1 (by simp)
  have k8 := b8.old
  have kq := bq.old
  have d89 : p8 ≠ h.next := num_ne (by omega)
  have goer := allA_goes (by omega) (bq.only o1 (by simp)) (sq.more o1.more) (fun id g off n cap ex e => by have := vq _ _ _ _ _ _ e; omega)
  have hM : ∀ id, held q vc id → id.num < h.next.num := fun id c => by
    rcases c with c | ⟨g, off, n, cap, ex, e⟩
    · subst c; exact kq
    · exact vq _ _ _ _ _ _ e
  have hass : ∀ i h2, i < w.length → ∃ env0, setParams env1 [Pos.ofNat 21, Pos.ofNat 22] (told w i) = some env0 ∧ Dos Try.prog 25 goes_10 env0 h2 .go [] (setD (setD (T.set (Pos.ofNat 22) (some (strOf (w.getD i []))) (T.set (Pos.ofNat 21) (some (int64 i)) env1)) (some (Pos.ofNat 10)) (int64 i)) (some (Pos.ofNat 11)) (strOf (w.getD i []))) h2 := fun i h2 _ => by
    refine ⟨_, by simp [told, setParams, T.setK_eq]; rfl, Dos.runGo [] (by simp) (dr := true) (A1 := []) ?_⟩
    simp [goes_10, goes_8, goes_9, runS, runR, runOps, wanted_no, wanted_sv, ev_tm, ev_vl, sv_setD, sv_set, setD_none, qev_mov, qev_bin, qev_un, qev_lenI, qev_pick, qev_load1, qev_idxSl, idx2_sl, idxA2_ptr, opt_some, bin_add, bin_sub, bin_mul, bin_lss, bin_leq, bin_gtr, bin_geq, bin_eql, bin_neq, un_not, un_neg, qev_callv, qev_new1, qev_store1, qev_nilC, nilC_ptr, qev_fld, fldA_ptr, qev_extract, nth0, nth1, nth2, qev_eqPtr, sameP_nil, notIf]
  -- where the turn is left
  obtain ⟨K, hK, hKlast, hKstop⟩ : ∃ K : Nat, K ≤ w.length ∧ (∀ i : Nat, i < K → ¬ (t = 0 ∧ (i : Int) + 1 = leave)) ∧ (K < w.length → t = 0 ∧ (K : Int) + 1 = leave) := by
    by_cases hb : t = 0 ∧ 1 ≤ leave ∧ leave ≤ w.length
    · refine ⟨(leave - 1).toNat, by omega, fun i hi => by omega, fun _ => by omega⟩
    · exact ⟨w.length, Nat.le_refl _, fun i hi => by omega, fun c => absurd c (Nat.lt_irrefl _)⟩
  obtain ⟨h2, d, ⟨k, hk, d9, d8⟩, o2, ⟨s, hs⟩, hnx⟩ := Dos.over (F := 25) (env := env1) (h := h1) (f := tm 20) (params := [Pos.ofNat 21, Pos.ofNat 22]) (assign := goes_10) (body := goes_15) goer (fun id c => by have := hM id c; omega) ok80 f20 hass (S := [h.next])
    (fun id hid => by simp only [List.mem_singleton] at hid; subst hid; exact ⟨fun c => by have := hM _ c; omega, by omega⟩) hK (j := .exit 2) (o := .exit 2) (.inr ⟨2, rfl, rfl⟩)
    (fun i h3 => Box h3 h.next (int64 i) ∧ Box h3 p8 (int64 t) ∧ GLaw h.next.num h3 p4 p5 p6 leave v w)
    (fun h3 => ∃ k : Nat, (if K = w.length then k = w.length else t = 0 ∧ (k : Int) = leave) ∧ Box h3 h.next (int64 k) ∧ Box h3 p8 (int64 t))
    (fun i h3 h4 S' jq oq hS' => ⟨jq.1.only oq fun c => by have := hS' _ c; omega, jq.2.1.only oq fun c => by have := hS' _ c; omega, jq.2.2.only oq fun id hid => by have := hS' id hid; omega⟩)
    (fun h3 h4 S' jq oq hS' => by
      obtain ⟨k, hk, q1, q2⟩ := jq
      exact ⟨k, hk, q1.only oq fun c => by have := hS' _ c; omega, q2.only oq fun c => by have := hS' _ c; omega⟩)
    (fun i h3 hi jq hn => by
      have hil : i < w.length := by omega
      obtain ⟨env2, d⟩ := goes_body jq.2.2 hw hil jq.2.1 jq.1 (Nat.le_refl _) d89 (env := setD (setD (T.set (Pos.ofNat 22) (some (strOf (w.getD i []))) (T.set (Pos.ofNat 21) (some (int64 i)) env1)) (some (Pos.ofNat 10)) (int64 i)) (some (Pos.ofNat 11)) (strOf (w.getD i [])))
        (by simp [sv_setD, sv_set, f4]) (by simp [sv_setD, sv_set, f5]) (by simp [sv_setD, sv_set, f8]) (by simp [sv_setD, sv_set, f9]) (by simp [sv_setD, sv_set]) (by simp [sv_setD, sv_set, List.getD_eq_getElem?_getD, List.getElem?_eq_getElem hil])
      rw [if_neg (hKlast i hi)] at d
      have o := putB_only h3 h.next (int64 ((i + 1 : Nat) : Int))
      exact ⟨env2, _, d, ⟨putB_box jq.1 _, jq.2.1.only o (by simpa using d89), jq.2.2.only o (by simp)⟩, o⟩)
    (fun e h3 jq => ⟨K, by rw [if_pos e]; exact e, jq.1, jq.2.1⟩)
    (fun hi h3 jq hn => by
      obtain ⟨env2, d⟩ := goes_body jq.2.2 hw hi jq.2.1 jq.1 (Nat.le_refl _) d89 (env := setD (setD (T.set (Pos.ofNat 22) (some (strOf (w.getD K []))) (T.set (Pos.ofNat 21) (some (int64 K)) env1)) (some (Pos.ofNat 10)) (int64 K)) (some (Pos.ofNat 11)) (strOf (w.getD K [])))
        (by simp [sv_setD, sv_set, f4]) (by simp [sv_setD, sv_set, f5]) (by simp [sv_setD, sv_set, f8]) (by simp [sv_setD, sv_set, f9]) (by simp [sv_setD, sv_set]) (by simp [sv_setD, sv_set, List.getD_eq_getElem?_getD, List.getElem?_eq_getElem hi])
      rw [if_pos (hKstop hi)] at d
      have o := putB_only h3 h.next (int64 ((K + 1 : Nat) : Int))
      exact ⟨env2, _, d, ⟨K + 1, by rw [if_neg (by omega)]; have := hKstop hi; exact ⟨this.1, by omega⟩, putB_box jq.1 _, jq.2.1.only o (by simpa using d89)⟩, o⟩)
    ⟨hb1, b8', a1⟩
  have n2 := o2.next
  have a2 : GLaw h.next.num h2 p4 p5 p6 leave v w := a1.only o2 (by simp)
  have m8 := d8.load
  have m9 := d9.load
  have m4 := a2.b4.load
  have m5 := a2.b5.load
  have hl : ∀ env x, ev env x = v → evalOp Try.prog (.lenL x) env h2 = .val (int64 w.length) h2 := SlR.lenI a2.s
  -- what the turn came to
  obtain ⟨env3, e3, g4, g5, g6, g7, g8⟩ : ∃ env', runS Try.prog true (.seq (.region goes_16) (.cond (tm 71) (.seq (.region goes_17) .ret) .skip)) [] env1 h2 = some (.upt [], [], env', h2) ∧
      sv env' 4 = .ptr p4 0 0 ∧ sv env' 5 = .ptr p5 0 0 ∧ sv env' 6 = .ptr p6 0 0 ∧ sv env' 7 = .fn (.func 80) [] [.ptr q 0 0] ∧ sv env' 8 = .ptr p8 0 0 := by
    by_cases hkw : K = w.length
    · rw [if_pos hkw] at hk
      subst hk
      rcases ht with ht | ht <;> subst ht <;>
        simp [goes_16, runS, runR, runOps, wanted_no, wanted_sv, ev_tm, ev_vl, sv_setD, qev_mov, qev_bin, opt_some, bin_eql, bin_neq, qev_pick, qev_load1, hl, f4, f5, f6, f7, f8, f9, m8, m9, m4, m5]
    · rw [if_neg hkw] at hk
      obtain ⟨ht0, hkl⟩ := hk
      subst ht0
      subst hkl
      by_cases hkl : (k : Int) = w.length <;>
        simp [goes_16, runS, runR, runOps, wanted_no, wanted_sv, ev_tm, ev_vl, sv_setD, qev_mov, qev_bin, opt_some, bin_eql, bin_neq, qev_pick, qev_load1, hl, f4, f5, f6, f7, f8, f9, m8, m9, m4, m5, hkl]
  -- the next turn's number
  have on : Only [] h2 (newB h2 (int64 0)) := newH_only _ _ _
  have nn : (newB h2 (int64 0)).next.num = h2.next.num + 1 := newH_next _ _
  have bn := newB_box h2 (int64 0)
  have st1 := storeR_box bn (int64 t) rfl rfl
  have on1 := putB_only (newB h2 (int64 0)) h2.next (int64 t)
  have bn1 := putB_box bn (int64 t)
  have st2 := storeR_box bn1 (int64 (t + 1)) rfl rfl
  have on2 := putB_only (putB (newB h2 (int64 0)) h2.next (int64 t)) h2.next (int64 (t + 1))
  have bn2 := putB_box bn1 (int64 (t + 1))
  have w1 : wrapA .i64 (t + 1) = t + 1 := wrap64 (by omega) (by omega)
  have ln1 := bn1.load
  obtain ⟨env4, e4, q4, q5', q6, q7, q8⟩ : ∃ env', runS Try.prog true (.seq (.seq (.region goes_18) (.region goes_19)) (.region goes_20)) [] env3 h2 = some (.upt [], [], env', putB (putB (newB h2 (int64 0)) h2.next (int64 t)) h2.next (int64 (t + 1))) ∧
      sv env' 4 = .ptr p4 0 0 ∧ sv env' 5 = .ptr p5 0 0 ∧ sv env' 6 = .ptr p6 0 0 ∧ sv env' 7 = .fn (.func 80) [] [.ptr q 0 0] ∧ sv env' 8 = .ptr h2.next 0 0 := by
    simp [goes_18, goes_19, goes_20, runS, runR, Rs.seq, Rs.block, runOps, wanted_no, wanted_sv, ev_tm, ev_vl, sv_setD, sv_set, setD_none, qev_mov, qev_bin, qev_un, qev_lenI, qev_pick, qev_load1, qev_idxSl, idx2_sl, idxA2_ptr, opt_some, bin_add, bin_sub, bin_mul, bin_lss, bin_leq, bin_gtr, bin_geq, bin_eql, bin_neq, un_not, un_neg, qev_callv, qev_new1, qev_store1, qev_nilC, nilC_ptr, qev_fld, fldA_ptr, qev_extract, nth0, nth1, nth2, qev_eqPtr, sameP_nil, notIf, g4, g5, g6, g7, g8, m8, st1, ln1, w1, st2]
  have oN : Only [h2.next] h2 (putB (putB (newB h2 (int64 0)) h2.next (int64 t)) h2.next (int64 (t + 1))) := ((on.mono (by simp)).trans on1).trans on2
  refine ⟨env4, _, h2.next, h1.next, ?_, ?_, bn2, by omega, Nat.lt_of_lt_of_le ?_ oN.next, ⟨s, ?_⟩, q4, q5', q6, q7, q8⟩
  · have tail : DosL Try.prog 25 [.code (.seq (.region goes_16) (.cond (tm 71) (.seq (.region goes_17) .ret) .skip)), .inBlock 1, .code (.seq (.seq (.region goes_18) (.region goes_19)) (.region goes_20))] env1 h2 .go [] env4 (putB (putB (newB h2 (int64 0)) h2.next (int64 t)) h2.next (int64 (t + 1))) :=
      .more (M := []) (M1 := []) (Dos.runGo [] (by simp) e3) (.inBlock (.more (M := []) (M1 := []) (Dos.runGo [] (by simp) e4) .nil))
    by_cases hkw : K = w.length
    · rw [if_pos hkw] at d
      exact Dos.run [] (by simp) e1 (.more (M := []) d (.inBlock tail))
    · rw [if_neg hkw] at d
      exact Dos.run [] (by simp) e1 (.leave (M := []) d rfl tail)
  · refine ((o1.mono (S' := [h.next, h2.next]) (by simp)).trans ((o2.mono fun id hid => .inl (by simp at hid; simp [hid])).trans (oN.mono fun id hid => .inl (by simp at hid; simp [hid])))).mono fun id hid => .inr ?_
    simp only [List.mem_cons, List.not_mem_nil, or_false] at hid
    rcases hid with q | q <;> subst q <;> omega
  · omega
  · rw [oN.same _ (by omega) (by simp only [List.mem_singleton]; exact num_ne (by omega))]
    exact hs

/-- goes: the row is told as it stands, twice. -/
theorem goes_fn {N : Nat} {h : Hp} {p : Pos} {v vl : AV} {w : List (List UInt8)} {sent : Int} (a : NetAt N h p v w sent) (hw : w.length ≤ 65536) (hs : SlR h vl (w.map strOf)) (hv : ∀ id g off n cap ex, vl = .sl id g off n cap ex 1 → id.num < h.next.num) (leave : Int) :
    ∃ h', AmFn Try.prog 25 [.ptr p 0 0, vl, int64 leave] h (.bool true) h' ∧ Only [] h h' := by
  have hvc := hs.atom.2
  have hbx : ∀ env x h, ev env x = vl → evalOp Try.prog (.box x) env h = .val (.ptr h.next 0 0) (newB h vl) := fun env x h e => by
    rw [qev_box Try.prog env h x (by rw [e]; exact hvc), e]
  have hbi : ∀ env x h z, ev env x = int64 z → evalOp Try.prog (.box x) env h = .val (.ptr h.next 0 0) (newB h (int64 z)) := fun env x h z e => by
    rw [qev_box Try.prog env h x (by rw [e]; rfl), e]
  -- the three variables in memory
  obtain ⟨p4, p5, p6, h0, law, o0, g6, henv⟩ : ∃ p4 p5 p6 h0, GLaw h0.next.num h0 p4 p5 p6 leave vl w ∧ Only [] h h0 ∧ h.next.num ≤ p6.num ∧
      ∀ A, ∃ env, runR Try.prog A goes_0 (setArgs .e 0 [.ptr p 0 0, vl, int64 leave]) h = some (A, env, h0) ∧ sv env 0 = .ptr p 0 0 ∧ sv env 4 = .ptr p4 0 0 ∧ sv env 5 = .ptr p5 0 0 ∧ sv env 6 = .ptr p6 0 0 := by
    have ob : Only [] h (newB h vl) := newH_only _ _ _
    have bb := newB_box h vl
    have nb : (newB h vl).next.num = h.next.num + 1 := newH_next _ _
    have oc : Only [] (newB h vl) (newB (newB h vl) (int64 leave)) := newH_only _ _ _
    have bc := newB_box (newB h vl) (int64 leave)
    have nc : (newB (newB h vl) (int64 leave)).next.num = (newB h vl).next.num + 1 := newH_next _ _
    have od : Only [] (newB (newB h vl) (int64 leave)) (newB (newB (newB h vl) (int64 leave)) (.bool false)) := newH_only _ _ _
    have bd := newB_box (newB (newB h vl) (int64 leave)) (.bool false)
    have nd : (newB (newB (newB h vl) (int64 leave)) (.bool false)).next.num = (newB (newB h vl) (int64 leave)).next.num + 1 := newH_next _ _
    refine ⟨h.next, (newB h vl).next, (newB (newB h vl) (int64 leave)).next, newB (newB (newB h vl) (int64 leave)) (.bool false), ⟨?_, ?_, bd, ?_, by omega, by omega, by omega, ?_⟩, (ob.trans oc).trans od, by omega, fun A => ?_⟩
    · exact (bb.only oc (by simp)).only od (by simp)
    · exact bc.only od (by simp)
    · exact hs.more ((ob.trans oc).trans od).more
    · intro id g off m cap ex e; have := hv _ _ _ _ _ _ e; omega
    · simp [goes_0, runR, sv_args, wanted_no, ev_tm, sv_setD, qev_new1, hbx, hbi]
  have a0 := a.more o0
  obtain ⟨q, vc, h1, ka, bq, sq, o1, kq, vq⟩ := all_fn a0 hw
  have law1 : GLaw h0.next.num h1 p4 p5 p6 leave vl w := law.only o1 (by simp)
  have n0 := o0.next
  have n1 := o1.next
  have hl6 := law.l6
  -- the turns
  have ob : Only [] h1 (newB h1 (int64 0)) := newH_only _ _ _
  have nb : (newB h1 (int64 0)).next.num = h1.next.num + 1 := newH_next _ _
  have bb := newB_box h1 (int64 0)
  have st0 := storeR_box bb (int64 0) rfl rfl
  have ob1 := putB_only (newB h1 (int64 0)) h1.next (int64 0)
  have bb1 := putB_box bb (int64 0)
  obtain ⟨env0, e0, f0, f4, f5, f6⟩ := henv [⟨54, [.ptr p 0 0], h0, .fn (.func 80) [] [.ptr q 0 0], h1⟩]
  obtain ⟨env1, e1, g4, g5, g6', g7, g8⟩ : ∃ env', runS Try.prog true goes_fu.body [⟨54, [.ptr p 0 0], h0, .fn (.func 80) [] [.ptr q 0 0], h1⟩] (setArgs .e 0 [.ptr p 0 0, vl, int64 leave]) h =
      some (.upt [.code (.loop goes_21), .inBlock 0, .code (.seq (.region goes_22) .ret)], [], env', putB (newB h1 (int64 0)) h1.next (int64 0)) ∧
      sv env' 4 = .ptr p4 0 0 ∧ sv env' 5 = .ptr p5 0 0 ∧ sv env' 6 = .ptr p6 0 0 ∧ sv env' 7 = .fn (.func 80) [] [.ptr q 0 0] ∧ sv env' 8 = .ptr h1.next 0 0 := by
    simp [goes_fu, runS, e0]
    simp [goes_1, goes_2, goes_4, runS, runR, Rs.seq, Rs.block, runOps, wanted_no, wanted_sv, ev_tm, ev_vl, sv_setD, sv_set, setD_none, qev_mov, qev_bin, qev_un, qev_lenI, qev_pick, qev_load1, qev_idxSl, idx2_sl, idxA2_ptr, opt_some, bin_add, bin_sub, bin_mul, bin_lss, bin_leq, bin_gtr, bin_geq, bin_eql, bin_neq, un_not, un_neg, qev_callv, qev_new1, qev_store1, qev_nilC, nilC_ptr, qev_fld, fldA_ptr, qev_extract, nth0, nth1, nth2, qev_eqPtr, sameP_nil, notIf, f0, f4, f5, f6, callA_ok ok54, show ∀ (a : Fn) b c, binA .eql .fn true (.fn a b c) .nilFn = some (.bool false) from fun _ _ _ => rfl, st0]
  have o2 : Only [] h1 (putB (newB h1 (int64 0)) h1.next (int64 0)) := Only.weak ob1 (N := h1.next.num) (by simp) ob (Nat.le_refl _)
  generalize putB (newB h1 (int64 0)) h1.next (int64 0) = h2 at *
  have n2 := o2.next
  have law2 := law1.only o2 (by simp)
  have vq1 : ∀ id g off n cap ex, vc = .sl id g off n cap ex 1 → id.num < h1.next.num := fun id g off n cap ex e => (vq _ _ _ _ _ _ e).2
  obtain ⟨env7, h7, p8, r1, d7, o7, b8, x1, x2, ⟨s1, y1⟩, a4, a5, a6, a7, a8⟩ := goes_turn (law2.mono (by omega)) hw bb1 (.inl rfl) (bq.only o2 (by simp)) (sq.more o2.more) (fun id g off n cap ex e => by have := vq1 _ _ _ _ _ _ e; omega) g4 g5 g6' g7 g8
  have n7 := o7.next
  have law7 := law2.only o7 (by simp)
  obtain ⟨env8, h8, p8', r2, d8, o8, b8', x3, x4, ⟨s2, y2⟩, z4, z5, z6, z7, z8⟩ := goes_turn (law7.mono (by omega)) hw b8 (.inr rfl) ((bq.only o2 (by simp)).only o7 (by simp)) ((sq.more o2.more).more o7.more) (fun id g off n cap ex e => by have := vq1 _ _ _ _ _ _ e; omega) a4 a5 a6 a7 a8
  have n8 := o8.next
  have law8 := law7.only o8 (by simp)
  have l8 := b8'.load
  obtain ⟨env9, e9, j6⟩ : ∃ env', runS Try.prog true goes_21 [] env8 h8 = some (.exit 0, [], env', h8) ∧ sv env' 6 = .ptr p6 0 0 := by
    simp [goes_21, goes_5, runS, runR, Rs.seq, Rs.block, runOps, wanted_no, wanted_sv, ev_tm, ev_vl, sv_setD, sv_set, setD_none, qev_mov, qev_bin, qev_un, qev_lenI, qev_pick, qev_load1, qev_idxSl, idx2_sl, idxA2_ptr, opt_some, bin_add, bin_sub, bin_mul, bin_lss, bin_leq, bin_gtr, bin_geq, bin_eql, bin_neq, un_not, un_neg, qev_callv, qev_new1, qev_store1, qev_nilC, nilC_ptr, qev_fld, fldA_ptr, qev_extract, nth0, nth1, nth2, qev_eqPtr, sameP_nil, notIf, z4, z5, z6, z7, z8, l8]
  have b69 := law8.b6
  have st := storeR_box b69 (.bool true) rfl rfl
  obtain ⟨env10, e10, v6⟩ : ∃ env', runS Try.prog true (.seq (.region goes_22) .ret) [] env9 h8 = some (.ret, [], env', putB h8 p6 (.bool true)) ∧ sv env' 6 = .ptr p6 0 0 := by
    simp [goes_22, runS, runR, Rs.seq, Rs.block, runOps, wanted_no, wanted_sv, ev_tm, ev_vl, sv_setD, sv_set, setD_none, qev_mov, qev_bin, qev_un, qev_lenI, qev_pick, qev_load1, qev_idxSl, idx2_sl, idxA2_ptr, opt_some, bin_add, bin_sub, bin_mul, bin_lss, bin_leq, bin_gtr, bin_geq, bin_eql, bin_neq, un_not, un_neg, qev_callv, qev_new1, qev_store1, qev_nilC, nilC_ptr, qev_fld, fldA_ptr, qev_extract, nth0, nth1, nth2, qev_eqPtr, sameP_nil, notIf, j6, st]
  have b10x := putB_box b69 (.bool true)
  have oP := putB_only h8 p6 (.bool true)
  have body : Dos Try.prog 25 goes_fu.body (setArgs .e 0 [.ptr p 0 0, vl, int64 leave]) h .ret [.mark r2, .mark r1] env10 (putB h8 p6 (.bool true)) :=
    Dos.run (M := [.mark r2, .mark r1]) _ (by intro x hx; simp at hx; subst hx; exact ka) e1 (.leave (M := []) (M1 := [.mark r2, .mark r1]) (i := 0) (Dos.loop (Loops.more (M := [.mark r2]) (M1 := [.mark r1]) d7 (Loops.more (M := []) (M1 := [.mark r2]) d8 (.out (Dos.runExit [] (by simp) e9) (by simp))))) rfl
      (.ret (Dos.runRet [] (by simp) e10)))
  have oR := remMs_only [r2, r1] (putB h8 p6 (.bool true))
  have bF := b10x.only oR (by simp only [List.mem_cons, List.not_mem_nil, or_false, not_or]; exact ⟨num_ne (by omega), num_ne (by omega)⟩)
  refine ⟨_, AmFn.dosM (rs := [r2, r1]) (vs := [.bool true]) goes_code (by simp) body (fun r hr => ?_) ?_ ?_ rfl, ?_⟩
  · simp only [List.mem_cons, List.not_mem_nil, or_false] at hr
    rcases hr with q | q
    · subst q
      refine ⟨s2, ?_⟩
      rw [oP.same _ (by omega) (by simp only [List.mem_singleton]; exact num_ne (by omega))]
      exact y2
    · subst q
      refine ⟨s1, ?_⟩
      rw [oP.same _ (by omega) (by simp only [List.mem_singleton]; exact num_ne (by omega)), o8.same _ (by omega) (by simp)]
      exact y1
  · simp only [List.nodup_cons, List.mem_cons, List.not_mem_nil, or_false, not_false_eq_true, List.nodup_nil, and_true]
    exact num_ne (by omega)
  · have : result1 env10 (remMs (putB h8 p6 (.bool true)) [r2, r1]) (.cell1 (Pos.ofNat 6)) = some (.bool true) := by
      show (match ev env10 (.tmp (Pos.ofNat 6)) with | .ptr id g off => read1 _ id g off | _ => none) = _
      rw [ev_tm, v6]
      exact bF.load
    show mapO (result1 env10 _) [.cell1 (Pos.ofNat 6)] = _
    simp [mapO, this]
  · have all : Only [p6, r1, r2] h0 (remMs (putB h8 p6 (.bool true)) [r2, r1]) := by
      refine (((((o1.trans o2).trans o7).trans o8).mono (by simp)).trans (oP.mono fun id hid => .inl (by simp at hid; simp [hid]))).trans (oR.mono fun id hid => .inl ?_)
      simp only [List.mem_cons, List.not_mem_nil, or_false] at hid
      rcases hid with q | q <;> simp [q]
    refine Only.weak all (N := h.next.num) (fun id hid => ?_) o0 (Nat.le_refl _)
    simp only [List.mem_cons, List.not_mem_nil, or_false] at hid
    rcases hid with q | q | q
    · subst q; exact g6
    · subst q; omega
    · subst q; omega
end Go.Proofs.Ytmifpiglcphmoaa.Plays

namespace Go.Proofs.Ytmifpiglcphmoaa.Plays
open Go Go.Proofs.Ytmifpiglcphmoaa.Am Go.Proofs

noncomputable def sw_A1 : C := (.seq (.region plays_12) (.seq (.region plays_13) (.seq (.region plays_14) (.seq (.seq (.region plays_15) (.cond (tm 63) (.seq (.seq (.region plays_16) (.cond (tm 65) (.seq (.region plays_17) .ret) .skip)) (.exit 2)) .skip)) (.seq (.seq (.region plays_18) (.block 3 (.loop plays_22))) (.seq (.region plays_23) (.seq (.region plays_24) (.seq (.region plays_25) (.cond (tm 85) (.seq (.region plays_26) .ret) .skip)))))))))
noncomputable def sw_A2 : C := (.seq (.region plays_30) (.seq (.seq (.region plays_31) (.cond (tm 92) (.region plays_32) (.seq (.region plays_33) (.cond (tm 102) (.region plays_34) (.region plays_35))))) (.seq (.seq (.region plays_36) (.cond (tm 115) (.seq (.seq (.region plays_37) (.cond (tm 121) (.seq (.region plays_38) .ret) .skip)) (.exit 2)) .skip)) (.seq (.seq (.region plays_39) (.cond (tm 137) (.seq (.region plays_40) .ret) .skip)) (.seq (.region plays_41) (.cond (tm 140) (.drawn plays_42) .skip))))))
noncomputable def sw_A3 : C := (.seq (.region plays_44) (.seq (.seq (.region plays_45) (.cond (tm 174) (.seq (.region plays_46) .ret) .skip)) (.seq (.region plays_47) (.cond (tm 176) (.seq (.region plays_48) (.region plays_49)) .skip))))
noncomputable def sw_A5 : C := (.seq (.region plays_51) (.seq (.region plays_52) (.seq (.seq (.region plays_53) (.block 5 (.loop plays_58))) (.seq (.seq (.region plays_59) (.cond (tm 219) (.seq (.region plays_60) .ret) .skip)) (.region plays_61)))))
noncomputable def sw_A7 : C := (.seq (.region plays_63) (.cond (tm 228) (.seq (.region plays_64) .ret) .skip))
noncomputable def sw_A8 : C := (.seq (.region plays_66) (.seq (.seq (.region plays_67) (.cond (tm 258) (.seq (.region plays_68) .ret) .skip)) (.region plays_69)))
noncomputable def sw_S2 : C := (.seq (.region plays_27) (.cond (tm 86) .skip (.seq (.region plays_28) (.cond (tm 86) .skip (.region plays_29)))))
noncomputable def sw_R8 : C := (.seq (.region plays_65) (.cond (tm 229) sw_A8 .skip))
noncomputable def sw_R7 : C := (.seq (.region plays_62) (.cond (tm 221) sw_A7 sw_R8))
noncomputable def sw_R5 : C := (.seq (.region plays_50) (.cond (tm 187) sw_A5 sw_R7))
noncomputable def sw_R3 : C := (.seq (.region plays_43) (.cond (tm 152) sw_A3 sw_R5))
noncomputable def sw_R2 : C := (.seq sw_S2 (.cond (tm 86) sw_A2 sw_R3))
noncomputable def sw_R1 : C := (.seq (.region plays_11) (.cond (tm 48) sw_A1 sw_R2))
noncomputable def sw_T : C := (.seq (.region plays_70) (.cond (tm 271) (.seq (.region plays_71) .ret) .skip))
theorem plays_73_eq : plays_73 = (.seq (.seq (.region plays_7) (.cond (tm 29) .skip (.exit 0))) (.seq (.block 1 (.seq (.region plays_8) (.seq (.region plays_9) (.seq (.seq (.region plays_10) (.block 2 sw_R1)) sw_T)))) (.region plays_72))) := rfl

/-- A slice that lies in a block. -/
def In (v : AV) (id : Pos) : Prop := ∃ g off n cap ex, v = .sl id g off n cap ex 1

/-- The law's state: the net and the plain list, apart from one another. -/
structure At (N : Nat) (h0 h : Hp) (p : Pos) (v vl : AV) (w : List (List UInt8)) (sent : Int) : Prop where
  net : NetAt N h p v w sent
  own : Own N h vl (w.map strOf)
  apart : ∀ id, In v id → ¬ In vl id
  nevp : ¬ In vl p
  start : Only [] h0 h
  nN : N = h0.next.num
  hw : w.length ≤ 65536

/-- The law's variables. -/
structure En (env : T AV) (vs : AV) (p : Pos) (vl : AV) (sent i : Int) : Prop where
  e0 : sv env 0 = vs
  e3 : sv env 3 = .ptr p 0 0
  e4 : sv env 4 = vl
  e5 : sv env 5 = int64 sent
  e6 : sv env 6 = int64 i

/-- A step, as the round has laid it. -/
structure Stp (N : Nat) (h : Hp) (ps p : Pos) (v vl vt : AV) (kind n : Int) (things : List (List UInt8)) : Prop where
  b : Arr h ps [int64 kind, int64 n, vt]
  t : SlR h vt (things.map strOf)
  old : (∃ id g off, vt = .sl id g off 0 0 true 1 ∧ things = []) ∨ ∀ id, In vt id → id.num < N
  psp : ps ≠ p
  psv : ¬ In v ps
  psl : ¬ In vl ps
  psN : N ≤ ps.num
  sz : okSize things.length 16 = true

theorem NetAt.oldv {N : Nat} {h : Hp} {p : Pos} {v : AV} {w : List (List UInt8)} {sent : Int} (a : NetAt N h p v w sent) {id : Pos} (q : In v id) : N ≤ id.num ∧ id.num < h.next.num := by
  obtain ⟨g, off, n, cap, ex, q⟩ := q
  exact a.way.old _ _ _ _ _ _ q

theorem NetAt.nev {N : Nat} {h : Hp} {p : Pos} {v : AV} {w : List (List UInt8)} {sent : Int} (a : NetAt N h p v w sent) : ¬ In v p := fun ⟨g, off, n, cap, ex, q⟩ => a.ne _ _ _ _ _ q

theorem own_old {N : Nat} {h : Hp} {v : AV} {l : List AV} (a : Own N h v l) {id : Pos} (q : In v id) : N ≤ id.num ∧ id.num < h.next.num := by
  obtain ⟨g, off, n, cap, ex, q⟩ := q
  exact a.old _ _ _ _ _ _ q

theorem own_only {N : Nat} {h h' : Hp} {v : AV} {l : List AV} {S : List Pos} (o : Own N h v l) (m : Only S h h') (hS : ∀ id, In v id → id ∉ S) : Own N h' v l := o.only m fun id g e => hS id ⟨_, _, _, _, _, e⟩

theorem NetAt.onlyV {N : Nat} {h h' : Hp} {p : Pos} {v : AV} {w : List (List UInt8)} {sent : Int} {S : List Pos} (a : NetAt N h p v w sent) (m : Only S h h') (hp : p ∉ S) (hv : ∀ id, In v id → id ∉ S) : NetAt N h' p v w sent := a.only m hp fun id g off n cap ex e => hv id ⟨_, _, _, _, _, e⟩

section
variable {N : Nat} {h0 h : Hp} {p : Pos} {v vl : AV} {w : List (List UInt8)} {sent : Int}

theorem At.more {h' : Hp} (a : At N h0 h p v vl w sent) (m : Only [] h h') : At N h0 h' p v vl w sent := ⟨a.net.more m, a.own.more m, a.apart, a.nevp, a.start.trans m, a.nN, a.hw⟩

theorem At.hN (a : At N h0 h p v vl w sent) : N ≤ h.next.num := by rw [a.nN]; exact a.start.next

theorem Only.weakN {S : List Pos} {h0 h h' : Hp} {N : Nat} (a : Only S h h') (hS : ∀ id ∈ S, N ≤ id.num) (hb : Only [] h0 h) (hn : N = h0.next.num) : Only [] h0 h' := Only.weak a hS hb (by omega)

theorem Stp.only {ps : Pos} {vt : AV} {kind n : Int} {things : List (List UInt8)} {h' : Hp} {S : List Pos} (s : Stp N h ps p v vl vt kind n things) (m : Only S h h') (hS : ∀ id ∈ S, N ≤ id.num ∧ id ≠ ps) {v' vl' : AV} (h1 : ¬ In v' ps) (h2 : ¬ In vl' ps) : Stp N h' ps p v' vl' vt kind n things :=
  ⟨s.b.only m fun c => (hS _ c).2 rfl, by
    rcases s.old with ⟨id, g, off, q1, q2⟩ | q
    · subst q1 q2; exact .emp
    · exact s.t.only m fun id g off k cap ex e c => by
        have := q id ⟨_, _, _, _, _, e⟩
        have := (hS _ c).1
        omega, s.old, s.psp, h1, h2, s.psN, s.sz⟩

theorem Stp.l0 {ps : Pos} {vt : AV} {kind n : Int} {things : List (List UInt8)} (s : Stp N h ps p v vl vt kind n things) : read1 h ps 0 0 = some (int64 kind) := s.b.one (i := 0) (by simp)
theorem Stp.l1 {ps : Pos} {vt : AV} {kind n : Int} {things : List (List UInt8)} (s : Stp N h ps p v vl vt kind n things) : read1 h ps 0 1 = some (int64 n) := s.b.one (i := 1) (by simp)
theorem Stp.l2 {ps : Pos} {vt : AV} {kind n : Int} {things : List (List UInt8)} (s : Stp N h ps p v vl vt kind n things) : read1 h ps 0 2 = some vt := s.b.one (i := 2) (by simp)

/-- What a case comes to. -/
def Outc (N : Nat) (h0 : Hp) (p : Pos) (vs : AV) (i sent : Int) (c : C) (env : T AV) (h : Hp) : Prop :=
  ∃ j env' h' v' vl' w' sent', Dos Try.prog 4 c env h j [] env' h' ∧ (j = .go ∨ j = .exit 2) ∧ At N h0 h' p v' vl' w' sent' ∧ En env' vs p vl' sent' i ∧ sent ≤ sent' ∧ sent' ≤ sent + 65536

/-- The same is sent to the net and put behind the plain list. -/
theorem At.grow (a : At N h0 h p v vl w sent) {h1 : Hp} {v1 : AV} {l : List (List UInt8)} {sent1 : Int} {S : List Pos} (net : NetAt N h1 p v1 (w ++ l) sent1) (o1 : Only S h h1) (hS : ∀ id ∈ S, id = p ∨ In v id)
    (hv1 : ∀ id, In v1 id → In v id ∨ h.next.num ≤ id.num) (hl : w.length + l.length ≤ 65536) {h2 : Hp} {S2 : List Pos} (o2 : Only S2 h1 h2) (hS2 : ∀ id ∈ S2, N ≤ id.num ∧ id ≠ p ∧ ¬ In v1 id ∧ ¬ In vl id) {v2 : AV} (h2r : SlR h2 v2 (l.map strOf)) :
    ∃ vl' h3 S3, (∀ env s x, ev env s = vl → ev env x = v2 → evalOp Try.prog (.append 1 16 s x) env h2 = .val vl' h3) ∧ At N h0 h3 p v1 vl' (w ++ l) sent1 ∧ Only S3 h2 h3 ∧ (∀ id ∈ S3, N ≤ id.num ∧ In vl id) ∧ (∀ id, In vl' id → In vl id ∨ h2.next.num ≤ id.num) := by
  have hN := a.hN
  have n1 := o1.next
  have n2 := o2.next
  have ow1 := own_only a.own o1 fun id q c => by
    rcases hS id c with e | e
    · subst e; exact a.nevp q
    · exact a.apart _ e q
  have ow2 := own_only ow1 o2 fun id q c => (hS2 id c).2.2.2 q
  have net2 := net.onlyV o2 (fun c => (hS2 _ c).2.1 rfl) fun id q c => (hS2 _ c).2.2.1 q
  have pold := a.net.st.old
  obtain ⟨vl', h3, S3, ap, ow3, o3, hS3, hv3⟩ := ow2.push Try.prog (bytes := 16) h2r (strOf_atom _) (by simp; have := a.hw; omega) (by omega) (by omega)
  have hS3' : ∀ id ∈ S3, N ≤ id.num ∧ In vl id := fun id hid => ⟨(hS3 id hid).1, (hS3 id hid).2⟩
  have hv3' : ∀ id, In vl' id → In vl id ∨ h2.next.num ≤ id.num := fun id ⟨g, off, n, cap, ex, e⟩ => hv3 id g off n cap ex e
  have ap1 : ∀ id, In v1 id → ¬ In vl id := fun id q c => by
    rcases hv1 id q with e | e
    · exact a.apart _ e c
    · have := (own_old a.own c).2; omega
  refine ⟨vl', h3, S3, ap, ⟨net2.onlyV o3 (fun c => a.nevp (hS3' _ c).2) fun id q c => ap1 id q (hS3' _ c).2, by rw [List.map_append]; exact ow3, fun id q c => ?_, fun c => ?_, ?_, a.nN, by simpa using hl⟩, o3, hS3', hv3'⟩
  · rcases hv3' id c with e | e
    · exact ap1 id q e
    · have := (net.oldv q).2; omega
  · rcases hv3' _ c with e | e
    · exact a.nevp e
    · omega
  · have s1 := Only.weakN o1 (fun id c => by
      rcases hS id c with e | e
      · subst e; exact a.net.pN
      · exact (a.net.oldv e).1) a.start a.nN
    have s2 := Only.weakN o2 (fun id c => (hS2 id c).1) s1 a.nN
    exact Only.weakN o3 (fun id c => (hS3' id c).1) s2 a.nN

/-- The net alone is changed, as the plain list is not. -/
theorem At.same (a : At N h0 h p v vl w sent) {h1 : Hp} {v1 : AV} (net : NetAt N h1 p v1 w sent) (o1 : Only [p] h h1) (hv1 : ∀ id, In v1 id → h.next.num ≤ id.num) : At N h0 h1 p v1 vl w sent :=
  ⟨net, own_only a.own o1 fun id q c => by simp only [List.mem_singleton] at c; subst c; exact a.nevp q, fun id q c => by have := hv1 _ q; have := (own_old a.own c).2; omega, a.nevp, Only.weakN o1 (fun id c => by simp only [List.mem_singleton] at c; subst c; exact a.net.pN) a.start a.nN, a.nN, a.hw⟩

variable {env : T AV} {vs vt : AV} {ps : Pos} {i n : Int} {things : List (List UInt8)}

/-- All. -/
theorem case7 {kind : Int} (a : At N h0 h p v vl w sent) (e : En env vs p vl sent i) (s : Stp N h ps p v vl vt kind n things) (e7 : sv env 7 = .ptr ps 0 0) : Outc N h0 p vs i sent sw_A7 env h := by
  obtain ⟨e0, e3, e4, e5, e6⟩ := e
  obtain ⟨h1, k, o⟩ := goes_fn a.net a.hw a.own.sl (fun id g off m cap ex q => (a.own.old _ _ _ _ _ _ q).2) n
  have l1 := s.l1
  obtain ⟨env', e, f0, f3, f4, f5, f6⟩ : ∃ env', runS Try.prog true sw_A7 [⟨25, [.ptr p 0 0, vl, int64 n], h, .bool true, h1⟩] env h = some (.upt [], [], env', h1) ∧ sv env' 0 = vs ∧ sv env' 3 = .ptr p 0 0 ∧ sv env' 4 = vl ∧ sv env' 5 = int64 sent ∧ sv env' 6 = int64 i := by
    unfold sw_A7
    simp [plays_63, runS, runR, Rs.seq, Rs.block, runOps, wanted_no, wanted_sv, ev_tm, ev_vl, sv_setD, sv_set, setD_none, qev_mov, qev_bin, qev_un, qev_lenI, qev_pick, qev_load1, qev_idxSl, idx2_sl, idxA2_ptr, opt_some, bin_add, bin_sub, bin_mul, bin_lss, bin_leq, bin_gtr, bin_geq, bin_eql, bin_neq, un_not, un_neg, qev_callv, qev_new1, qev_store1, qev_nilC, nilC_ptr, qev_fld, fldA_ptr, qev_extract, nth0, nth1, nth2, qev_eqPtr, sameP_nil, notIf, callA_ok ok25, e0, e3, e4, e5, e6, e7, l1]
  exact ⟨.go, env', h1, v, vl, w, sent, Dos.runGo _ (by intro x hx; simp at hx; subst hx; exact k) e, .inl rfl, a.more o, ⟨f0, f3, f4, f5, f6⟩, by omega, by omega⟩
end
end Go.Proofs.Ytmifpiglcphmoaa.Plays

namespace Go.Proofs.Ytmifpiglcphmoaa.Plays
open Go Go.Proofs.Ytmifpiglcphmoaa.Am Go.Proofs

section
variable {N : Nat} {h0 h : Hp} {p : Pos} {v vl : AV} {w : List (List UInt8)} {sent : Int} {env : T AV} {vs vt : AV} {ps : Pos} {i n kind : Int} {things : List (List UInt8)}

/-- Twin. -/
theorem case3 (a : At N h0 h p v vl w sent) (e : En env vs p vl sent i) (s : Stp N h ps p v vl vt kind n things) (e7 : sv env 7 = .ptr ps 0 0) (e8 : sv env 8 = .bool (decide (0 ≤ n ∧ n < (w.length : Int)))) (hs : 0 ≤ sent ∧ sent < 1000000000) : Outc N h0 p vs i sent sw_A3 env h := by
  obtain ⟨e0, e3, e4, e5, e6⟩ := e
  have l1 := s.l1
  have hl := SlR.lenI a.own.sl
  have hw := a.hw
  have nb : ∀ x y : Bool, binA .neq .bool false (.bool x) (.bool y) = some (.bool (x != y)) := fun x y => by cases x <;> cases y <;> rfl
  by_cases ht : 0 ≤ n ∧ n < (w.length : Int)
  · rw [decide_eq_true ht] at e8
    obtain ⟨m, rfl⟩ : ∃ m : Nat, n = m := ⟨n.toNat, by omega⟩
    have hm : m < w.length := by omega
    by_cases hr : w.length < 65536
    · obtain ⟨v1, h1, S, k, net, o, hS, hv1⟩ := twin_fn a.net hm hr hs a.hN
      obtain ⟨h2, b1, b2, b3, b4⟩ := build1' Try.prog h1 (.str 0 0) (strOf w[m]) rfl
      have hS' : ∀ id ∈ S, id = p ∨ In v id := hS
      have hSN : ∀ id ∈ S, N ≤ id.num ∧ id ≠ ps := fun id c => by
        rcases hS' id c with q | q
        · subst q; exact ⟨a.net.pN, s.psp.symm⟩
        · exact ⟨(a.net.oldv q).1, fun d => s.psv (d ▸ q)⟩
      have l11 : read1 h1 ps 0 1 = some (int64 m) := (s.b.only o fun c => (hSN _ c).2 rfl).one (i := 1) (by simp)
      have ol1 := own_only a.own o fun id q c => by
        rcases hS' id c with d | d
        · subst d; exact a.nevp q
        · exact a.apart _ d q
      obtain ⟨id, g, off, cap, ex, hv', row⟩ := ol1.sl.sl_or (x := strOf w[m]) (List.mem_map.2 ⟨w[m], List.getElem_mem hm, rfl⟩)
      have hone := row.one m (by simpa using hm)
      simp [List.getElem?_eq_getElem hm] at hone
      obtain ⟨vl', h3, S3, ap, a3, _, _, _⟩ := a.grow net o hS' (fun id ⟨g, off, n, cap, ex, q⟩ => hv1 id g off n cap ex q) (by simp; omega) b3 (by simp) b2
      have hl1 := SlR.lenI ol1.sl
      have w1 : wrapA .i64 (sent + 1) = sent + 1 := wrap64 (by omega) (by omega)
      have hge : ¬ (65536 ≤ (w.length : Int)) := by omega
      obtain ⟨env', e, f0, f3, f4, f5, f6⟩ : ∃ env', runS Try.prog true sw_A3 [⟨22, [.ptr p 0 0, int64 m], h, int64 0, h1⟩] env h = some (.upt [], [], env', h3) ∧ sv env' 0 = vs ∧ sv env' 3 = .ptr p 0 0 ∧ sv env' 4 = vl' ∧ sv env' 5 = int64 (sent + 1) ∧ sv env' 6 = int64 i := by
        have hv2 : vl = .sl id g off w.length cap ex 1 := by simpa using hv'
        rw [hv2] at e4 ap hl1
        unfold sw_A3
        simp [plays_44, plays_45, plays_47, plays_48, plays_49, runS, runR, Rs.seq, Rs.block, runOps, wanted_no, wanted_sv, ev_tm, ev_vl, sv_setD, sv_set, setD_none, qev_mov, qev_bin, qev_un, qev_pick, qev_load1, qev_idxSl, idx2_sl, opt_some, bin_add, bin_geq, bin_eql, bin_neq, un_not, qev_callv, qev_nilC, nilC_ptr, qev_fld, fldA_ptr, callA_ok ok22, e0, e3, e4, e5, e6, e7, e8, l1, l11, hl1, hge, nb, hm, hone, b1, ap, w1]
      exact ⟨.go, env', h3, v1, vl', w ++ [w[m]], sent + 1, Dos.runGo _ (by intro x hx; simp at hx; subst hx; exact k) e, .inl rfl, a3, ⟨f0, f3, f4, f5, f6⟩, by omega, by omega⟩
    · have hw' : w.length = 65536 := by omega
      obtain ⟨h1, k, o⟩ := twin_full a.net hm hw'
      have hl1 := SlR.lenI (a.own.more o).sl
      obtain ⟨env', e, f0, f3, f4, f5, f6⟩ : ∃ env', runS Try.prog true sw_A3 [⟨22, [.ptr p 0 0, int64 m], h, int64 8, h1⟩] env h = some (.upt [], [], env', h1) ∧ sv env' 0 = vs ∧ sv env' 3 = .ptr p 0 0 ∧ sv env' 4 = vl ∧ sv env' 5 = int64 sent ∧ sv env' 6 = int64 i := by
        unfold sw_A3
        simp [plays_44, plays_45, plays_47, plays_48, plays_49, runS, runR, Rs.seq, Rs.block, runOps, wanted_no, wanted_sv, ev_tm, ev_vl, sv_setD, sv_set, setD_none, qev_mov, qev_bin, qev_un, qev_pick, qev_load1, qev_idxSl, idx2_sl, opt_some, bin_add, bin_geq, bin_eql, bin_neq, un_not, qev_callv, qev_nilC, nilC_ptr, qev_fld, fldA_ptr, callA_ok ok22, e0, e3, e4, e5, e6, e7, e8, l1, hl1, hw', nb]
      exact ⟨.go, env', h1, v, vl, w, sent, Dos.runGo _ (by intro x hx; simp at hx; subst hx; exact k) e, .inl rfl, a.more o, ⟨f0, f3, f4, f5, f6⟩, by omega, by omega⟩
  · rw [decide_eq_false ht] at e8
    have k := twin_none a.net (i := n) (by omega)
    obtain ⟨env', e, f0, f3, f4, f5, f6⟩ : ∃ env', runS Try.prog true sw_A3 [⟨22, [.ptr p 0 0, int64 n], h, int64 350, h⟩] env h = some (.upt [], [], env', h) ∧ sv env' 0 = vs ∧ sv env' 3 = .ptr p 0 0 ∧ sv env' 4 = vl ∧ sv env' 5 = int64 sent ∧ sv env' 6 = int64 i := by
      unfold sw_A3
      simp [plays_44, plays_45, plays_47, plays_48, plays_49, runS, runR, Rs.seq, Rs.block, runOps, wanted_no, wanted_sv, ev_tm, ev_vl, sv_setD, sv_set, setD_none, qev_mov, qev_bin, qev_un, qev_pick, qev_load1, qev_idxSl, idx2_sl, opt_some, bin_add, bin_geq, bin_eql, bin_neq, un_not, qev_callv, qev_nilC, nilC_ptr, qev_fld, fldA_ptr, callA_ok ok22, e0, e3, e4, e5, e6, e7, e8, l1, nb]
    exact ⟨.go, env', h, v, vl, w, sent, Dos.runGo _ (by intro x hx; simp at hx; subst hx; exact k) e, .inl rfl, a, ⟨f0, f3, f4, f5, f6⟩, by omega, by omega⟩
end
end Go.Proofs.Ytmifpiglcphmoaa.Plays
