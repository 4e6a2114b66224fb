import Derived.Test.YtpcddenijmhbfaaTogD
/- THE WALK'S PARTS, part E: what the functions of the law compute, over the abstract machine that stands beside this text. No condition. -/
set_option linter.unusedSimpArgs false
set_option linter.unusedVariables false
namespace Go.Proofs.Ytpcddenijmhbfaa.Tog
open Go Go.Proofs.Ytpcddenijmhbfaa.Am Go.Proofs

/-! ### The document's Split -/

/-- A list of one's own, that grows. -/
def Own (N : Nat) (h : Hp) (v : AV) (l : List AV) : Prop :=
  (l = [] ∧ v = .nilSl) ∨ ∃ id g, N ≤ id.num ∧ v = .sl id g 0 l.length l.length false 1 ∧ Gro h id g l

theorem Own.sl {N : Nat} {h : Hp} {v : AV} {l : List AV} (o : Own N h v l) : SlR h v l := by
  rcases o with ⟨q1, q2⟩ | ⟨id, g, _, q2, q3⟩
  · subst q1 q2; exact .nil
  · subst q2; exact .mk rfl q3.row

theorem Own.only {N : Nat} {h h' : Hp} {v : AV} {l : List AV} {S : List Pos} (o : Own N h v l) (m : Only S h h') (hS : ∀ id g, v = .sl id g 0 l.length l.length false 1 → id ∉ S) : Own N h' v l :=
  o.imp id fun ⟨id, g, q0, q2, q3⟩ => ⟨id, g, q0, q2, q3.only m (hS id g q2)⟩

theorem build1' (P : Program) (h : Hp) (a : Int) : ∃ h', (∀ env x, ev env x = int64 a → evalOp P (.buildSl 1 1 [int64 0] [(0, 1, x)]) env h = .val (.sl h.next 0 0 1 1 true 1) h') ∧ SlR h' (.sl h.next 0 0 1 1 true 1) [int64 a] ∧ Only [] h h' := by
  refine ⟨newH h fun s => .cells s (Cells.ofL [int64 a]) 0 0 0 0 false false, fun env x hx => ?_, ?_, newH_only _ _ _⟩
  · have e : evalOp P (.buildSl 1 1 [int64 0] [(0, 1, x)]) env h = (match fillA env (replA 1 [int64 0] []) [(0, 1, x)] with
      | some l => bif Nat.blt 0 1 then newCells h (Cells.ofL l) fun id h => .val (.sl id 0 0 1 1 true 1) h else .fail "buildSl"
      | none => .fail "buildSl") := rfl
    have f : fillA env (replA 1 [int64 0] []) [(0, 1, x)] = some [int64 a] := by simp [fillA, replA, hx, AV.cells]; rfl
    rw [e, f]
    show (bif Nat.blt 0 1 then newCells h (Cells.ofL _) fun id h => Res.val (.sl id 0 0 1 1 true 1) h else .fail "buildSl") = _
    rw [show Nat.blt 0 1 = true from rfl, cond_true]
    unfold newCells
    rw [newK_newH]
  · have q := newH_row (h := h) (c := Cells.ofL [int64 a]) (Cells.ofL_spec _).1 (ser := fun s => s) (fz := false)
    rw [(Cells.ofL_spec _).2.1] at q
    exact .mk rfl q

theorem append_env (P : Program) {env env' : T AV} {h : Hp} {s s' x x' : Opd} {n bytes : Nat} (hs : ev env s = ev env' s') (hx : ev env x = ev env' x') : evalOp P (.append n bytes s x) env h = evalOp P (.append n bytes s' x') env' h := by
  show appendA h n bytes (ev env s) (ev env x) = appendA h n bytes (ev env' s') (ev env' x')
  rw [hs, hx]

/-- One more is appended. -/
theorem Own.push {N : Nat} {h : Hp} {v : AV} {l : List AV} (o : Own N h v l) (P : Program) {y v2 : AV} {bytes : Nat} (hv : SlR h v2 [y]) (hy : y.atom = true) (hl : l.length < 1073741824) (hb : bytes ≤ 4096) (hN : N ≤ h.next.num) :
    ∃ v' h' S, (∀ env s x, ev env s = v → ev env x = v2 → evalOp P (.append 1 bytes s x) env h = .val v' h') ∧ Own N h' v' (l ++ [y]) ∧ Only S h h' ∧ ∀ id ∈ S, N ≤ id.num := by
  rcases o with ⟨q1, q2⟩ | ⟨id, g, q0, q2, q3⟩
  · subst q1 q2
    obtain ⟨h', e, a, o, n⟩ := append_new' P (env := .e) (h := h) (s := vl .nilSl) (x := vl v2) (bytes := bytes) rfl hv (by simp) (by simp) hb (.inl rfl)
    exact ⟨_, h', [], fun env s x hs hx => (append_env P (by rw [hs]; rfl) (by rw [hx]; rfl)).trans e, .inr ⟨h.next, 0, hN, rfl, a.gro⟩, o, by simp⟩
  · subst q2
    obtain ⟨h', e, a, o, n⟩ := append_gro P (env := .e) (h := h) (s := vl (.sl id g 0 l.length l.length false 1)) (x := vl v2) (bytes := bytes) (l2 := [y]) rfl q3 rfl hv (by simp) (by simp; omega) hb (by simpa using hy)
    exact ⟨_, h', [id], fun env s x hs hx => (append_env P (by rw [hs]; rfl) (by rw [hx]; rfl)).trans e, .inr ⟨id, g + 1, q0, by simp, a⟩, o, by simpa using q0⟩

theorem partsS_take {n : Int} {p i : Nat} (hi : i < p) : (partsS n p).take (i + 1) = (partsS n p).take i ++ [partS n p i] := by
  rw [List.take_add_one]
  congr 1
  unfold partsS
  simp [hi]

theorem rsplit_part (n p i x : Int) (hp : 1 ≤ p) (hp2 : p ≤ 64) (hi : 0 ≤ i) :
    (if i < wrapA .i64 (-n.tmod p) then wrapA .i64 ((if i < n.tmod p then wrapA .i64 (wrapA .i64 (n.tdiv p) + 1) else wrapA .i64 (n.tdiv p)) - 1) else (if i < n.tmod p then wrapA .i64 (wrapA .i64 (n.tdiv p) + 1) else wrapA .i64 (n.tdiv p))) = partS n p i := by
  have b1 : n.tmod p < p := Int.tmod_lt_of_pos _ (by omega)
  have b2 : -p < n.tmod p := by
    have := Int.lt_tmod_of_pos n (show 0 < p by omega)
    omega
  have w : wrapA .i64 (-n.tmod p) = -n.tmod p := wrap64 (by omega) (by omega)
  unfold partS
  rw [Int.zero_sub, w]
  by_cases c1 : i < n.tmod p
  · rw [if_pos c1, if_neg (by omega), if_pos c1]
  · rw [if_neg c1, if_neg c1]

theorem rsplit_loop (n : Int) (p : Nat) (hp : 1 ≤ p) (hp2 : p ≤ 64) {N : Nat} : ∀ (m i : Nat) (env : T AV) (h : Hp) (v : AV), i + m = p → N ≤ h.next.num → Own N h v (((partsS n p).take i).map int64) →
    sv env 5 = int64 p → sv env 6 = int64 (wrapA .i64 (n.tdiv p)) → sv env 7 = int64 (n.tmod p) → sv env 8 = v → sv env 9 = int64 i →
    ∃ env' h' v', Loops Try.prog 17 rsplit_15 env h (.exit 0) [] env' h' ∧ sv env' 8 = v' ∧ Own N h' v' ((partsS n p).map int64) ∧ ∃ S, Only S h h' ∧ ∀ id ∈ S, N ≤ id.num := by
  intro m
  induction m with
  | zero =>
    intro i env h v hi hN ho h5 h6 h7 h8 h9
    obtain ⟨env1, e1, f8⟩ : ∃ env1, runX Try.prog rsplit_15 [] env h = some (.exit 0, [], env1, h) ∧ sv env1 8 = v := by
      have : ¬ (i : Int) < p := by omega
      simp [rsplit_15, rsplit_7, runX, runR, runOps, wanted_no, wanted_sv, ev_tm, ev_vl, sv_setD, sv_set, setD_none, qev_mov, qev_bin, qev_un, qev_lenI, qev_pick, qev_load1, qev_idxSl, idx2_sl, idxA2_ptr, opt_some, bin_add, bin_sub, bin_mul, bin_lss, bin_leq, bin_gtr, bin_geq, bin_eql, bin_neq, un_not, un_neg, qev_callv, qev_new1, qev_store1, h5, h8, h9, this]
    refine ⟨env1, h, v, .out (dosX e1) (by simp), f8, ?_, [], .refl _ _, by simp⟩
    rw [List.take_of_length_le (by simp [partsS]; omega)] at ho
    exact ho
  | succ m ih =>
    intro i env h v hi hN ho h5 h6 h7 h8 h9
    have hip : (i : Int) < p := by omega
    have w1 : wrapA .i64 ((i : Int) + 1) = (i : Int) + 1 := wrap64 (by omega) (by omega)
    obtain ⟨h1, b1, b2, b3⟩ := build1' Try.prog h (partS n p i)
    have ho1 : Own N h1 v (((partsS n p).take i).map int64) := ho.only b3 (by simp)
    obtain ⟨v2, h2, S, c1, c2, c3, c4⟩ := ho1.push Try.prog (bytes := 8) b2 rfl (by simp [partsS]; omega) (by omega) (Nat.le_trans hN b3.next)
    have key := rsplit_part n p i 0 (by omega) (by omega) (by omega)
    obtain ⟨env1, e1, f5, f6, f7, f8, f9⟩ : ∃ env1, runX Try.prog rsplit_15 [] env h = some (.go, [], env1, h2) ∧ sv env1 5 = int64 p ∧ sv env1 6 = int64 (wrapA .i64 (n.tdiv p)) ∧ sv env1 7 = int64 (n.tmod p) ∧ sv env1 8 = v2 ∧ sv env1 9 = int64 ((i + 1 : Nat) : Int) := by
      by_cases k1 : (i : Int) < n.tmod p <;> by_cases k2 : (i : Int) < wrapA .i64 (-n.tmod p) <;> simp only [k1, k2, if_true, if_false] at key <;>
        simp [rsplit_15, rsplit_7, rsplit_8, rsplit_9, rsplit_10, rsplit_11, rsplit_12, rsplit_13, rsplit_14, runX, runR, Sg.blk, runOps, wanted_no, wanted_sv, ev_tm, ev_vl, sv_setD, sv_set, setD_none, qev_mov, qev_bin, qev_un, qev_lenI, qev_pick, qev_load1, qev_idxSl, idx2_sl, idxA2_ptr, opt_some, bin_add, bin_sub, bin_mul, bin_lss, bin_leq, bin_gtr, bin_geq, bin_eql, bin_neq, un_not, un_neg, qev_callv, qev_new1, qev_store1, h5, h6, h7, h8, h9, hip, k1, k2, w1, key, b1, c1]
    rw [← List.map_singleton, ← List.map_append, ← partsS_take (by omega)] at c2
    have hN2 : N ≤ h2.next.num := Nat.le_trans hN (Nat.le_trans b3.next c3.next)
    obtain ⟨env', h', v', L, z1, z2, S', z3, z4⟩ := ih (i + 1) env1 h2 v2 (by omega) hN2 c2 f5 f6 f7 f8 f9
    refine ⟨env', h', v', .more (M := []) (M1 := []) (dosX e1) L, z1, z2, S ++ S', ((b3.mono (by simp)).trans (c3.mono fun id hid => .inl (by simp [hid]))).trans (z3.mono fun id hid => .inl (by simp [hid])), fun id hid => ?_⟩
    rcases List.mem_append.1 hid with q | q
    · exact c4 id q
    · exact z4 id q

theorem rsplit_fn (h : Hp) (n parts : Int) : ∃ v' h', AmFn Try.prog 17 [int64 n, int64 parts] h v' h' ∧ SlR h' v' ((splitL n parts).map int64) ∧ Only [] h h' := by
  by_cases c : parts < 1 ∨ 64 < parts
  · obtain ⟨env', e, f⟩ : ∃ env', runX Try.prog rsplit_fu.body [] (setArgs .e 0 [int64 n, int64 parts]) h = some (.ret, [], env', h) ∧ sv env' 4 = .nilSl := by
      rcases c with c | c
      · simp [rsplit_fu, rsplit_0, rsplit_1, rsplit_2, runX, runR, Sg.blk, sv_args, runOps, wanted_no, wanted_sv, ev_tm, ev_vl, sv_setD, sv_set, setD_none, qev_mov, qev_bin, qev_un, qev_lenI, qev_pick, qev_load1, qev_idxSl, idx2_sl, idxA2_ptr, opt_some, bin_add, bin_sub, bin_mul, bin_lss, bin_leq, bin_gtr, bin_geq, bin_eql, bin_neq, un_not, un_neg, qev_callv, qev_new1, qev_store1, c]
      · have c' : ¬ parts < 1 := by omega
        simp [rsplit_fu, rsplit_0, rsplit_1, rsplit_2, runX, runR, Sg.blk, sv_args, runOps, wanted_no, wanted_sv, ev_tm, ev_vl, sv_setD, sv_set, setD_none, qev_mov, qev_bin, qev_un, qev_lenI, qev_pick, qev_load1, qev_idxSl, idx2_sl, idxA2_ptr, opt_some, bin_add, bin_sub, bin_mul, bin_lss, bin_leq, bin_gtr, bin_geq, bin_eql, bin_neq, un_not, un_neg, qev_callv, qev_new1, qev_store1, c, c']
    refine ⟨.nilSl, h, AmFn.dos rsplit_code (by simp) (dosX e) (vs := [sv env' 4]) rfl f, ?_, .refl _ _⟩
    unfold splitL
    rw [if_pos c]; exact .nil
  · obtain ⟨p, hp⟩ : ∃ p : Nat, parts = p := ⟨parts.toNat, by omega⟩
    subst hp
    have c1 : ¬ (p : Int) < 1 := fun q => c (.inl q)
    have c2 : ¬ (64 : Int) < p := fun q => c (.inr q)
    have hq := bin_quo .other false .i64 n (p : Int) (by omega)
    have hr := bin_rem .other false .i64 n (p : Int) (by omega)
    obtain ⟨env1, e1, f5, f6, f7, f8, f9⟩ : ∃ env', runS Try.prog true rsplit_fu.body [] (setArgs .e 0 [int64 n, int64 p]) h = some (.upt [.code (.loop rsplit_15), .inBlock 0, .code (.seq (.region rsplit_16) .ret)], [], env', h) ∧
        sv env' 5 = int64 p ∧ sv env' 6 = int64 (wrapA .i64 (n.tdiv p)) ∧ sv env' 7 = int64 (n.tmod p) ∧ sv env' 8 = .nilSl ∧ sv env' 9 = int64 ((0 : Nat) : Int) := by
      simp [rsplit_fu, rsplit_0, rsplit_1, rsplit_2, rsplit_3, rsplit_4, rsplit_5, rsplit_6, runS, runR, Rs.block, Rs.seq, sv_args, runOps, wanted_no, wanted_sv, ev_tm, ev_vl, sv_setD, sv_set, setD_none, qev_mov, qev_bin, qev_un, qev_lenI, qev_pick, qev_load1, qev_idxSl, idx2_sl, idxA2_ptr, opt_some, bin_add, bin_sub, bin_mul, bin_lss, bin_leq, bin_gtr, bin_geq, bin_eql, bin_neq, un_not, un_neg, qev_callv, qev_new1, qev_store1, c1, c2, hq, hr, runDrawn, drawnGo, kindOf, skipIds, isAlloc, setDst_eq, lookBack, insAll, kD, outD]
    obtain ⟨env2, h2, v2, L, z1, z2, S, z3, z4⟩ := rsplit_loop n p (by omega) (by omega) (N := h.next.num) p 0 env1 h .nilSl (by omega) (Nat.le_refl _) (.inl ⟨by simp, rfl⟩) f5 f6 f7 f8 f9
    obtain ⟨env3, e3, g4⟩ : ∃ env', runS Try.prog true (.seq (.region rsplit_16) .ret) [] env2 h2 = some (.ret, [], env', h2) ∧ sv env' 4 = v2 := by
      simp [rsplit_16, runS, runR, runOps, wanted_no, wanted_sv, ev_tm, ev_vl, sv_setD, sv_set, setD_none, qev_mov, qev_bin, qev_un, qev_lenI, qev_pick, qev_load1, qev_idxSl, idx2_sl, idxA2_ptr, opt_some, bin_add, bin_sub, bin_mul, bin_lss, bin_leq, bin_gtr, bin_geq, bin_eql, bin_neq, un_not, un_neg, qev_callv, qev_new1, qev_store1, z1]
    refine ⟨v2, h2, AmFn.dos (env' := env3) rsplit_code (by simp) (Dos.run (M := []) [] (by simp) e1 (.leave (M := []) (M1 := []) (i := 0) (Dos.loop L) rfl (.ret (Dos.runRet [] (by simp) e3)))) (vs := [sv env3 4]) rfl g4, ?_, ?_⟩
    · unfold splitL
      rw [if_neg c]
      exact z2.sl
    · exact z3.mono fun id hid => .inr (z4 id hid)
end Go.Proofs.Ytpcddenijmhbfaa.Tog

namespace Go.Proofs.Ytpcddenijmhbfaa.Tog
open Go Go.Proofs.Ytpcddenijmhbfaa.Am Go.Proofs

/-- Going over the steps, whatever a round does, to the round that breaks off. -/
theorem stepsS_loop {xs : List Int} (hlen : xs.length < 4611686018427387904) (n0 : Int) {l at_ : Pos} {v : AV} {S : List Pos} {J : Nat → Hp → Prop} {Q : Hp → Prop} {K : Nat} (hK : K ≤ xs.length) (hat : at_ ∉ S) (hv : ∀ id g off n cap ex, v = .sl id g off n cap ex 1 → id ∉ at_ :: S)
    (hJ : ∀ i h z, J i h → J i (putB h at_ z))
    (hr : ∀ (i : Nat) (hi : i < xs.length) (h : Hp), i < K → J i h → ∃ h', RoundFn Try.prog l [int64 i, int64 (sumS n0 (xs.take (i + 1)))] h (.bool true) h' ∧ J (i + 1) h' ∧ Only S h h')
    (hq : K = xs.length → ∀ h, J K h → Q h) (hstop : ∀ (hi : K < xs.length) (h : Hp), J K h → ∃ h', RoundFn Try.prog l [int64 K, int64 (sumS n0 (xs.take (K + 1)))] h (.bool false) h' ∧ Q h' ∧ Only S h h') :
    ∀ (n i : Nat) (env : T AV) (h : Hp), i + n = xs.length → i ≤ K → sv env 0 = .yield l → sv env 5 = .fn (.func 20) [] [.ptr at_ 0 0] → sv env 10 = v → sv env 11 = int64 xs.length → sv env 12 = int64 i →
      SlR h v (xs.map int64) → Box h at_ (int64 (sumS n0 (xs.take i))) → J i h →
      ∃ h', Q h' ∧ Only (at_ :: S) h h' ∧ ∀ callers, AmEnds Try.prog callers (sOf (cxF 19 callers) (.code stepsA_7 :: .inLoop stepsA_7 :: [.inBlock 0]) env h) (.tup []) h' := by
  intro n
  induction n with
  | zero =>
    intro i env h hi hiK h0 h5 h10 h11 h12 hs hb j
    have : i = xs.length := by omega
    subst this
    refine ⟨h, hq (by omega) h (by rw [show K = xs.length by omega]; exact j), Only.refl _ _, fun callers => ?_⟩
    obtain ⟨env1, e1, f13⟩ : ∃ env1, runOps Try.prog stepsA_3 env h = some (env1, h) ∧ sv env1 13 = .bool false := by
      simp [stepsA_3, runOps, wanted_no, wanted_sv, ev_tm, ev_vl, sv_setD, sv_set, setD_none, qev_mov, qev_bin, qev_un, qev_lenI, qev_pick, qev_load1, qev_idxSl, idx2_sl, idxA2_ptr, opt_some, bin_add, bin_sub, bin_mul, bin_lss, bin_leq, bin_gtr, bin_geq, bin_eql, bin_neq, un_not, un_neg, qev_callv, qev_new1, qev_store1, h11, h12]
    exact Leads.ends (leads_seq.trans <| (leads_region e1).trans <| leads_seq.trans <| (leads_cond (t := false) f13).trans <| leads_exit rfl) (ends_nil stepsA_code (vs := []) rfl rfl)
  | succ n ih =>
    intro i env h hi hiK h0 h5 h10 h11 h12 hs hb j
    have hil : i < xs.length := by omega
    obtain ⟨id, g, off, cap, ex, hv', row⟩ := hs.sl_or (x := int64 xs[i]) (by simp)
    have hone := row.one i (by simpa using hil)
    simp [List.getElem?_eq_getElem hil] at hone
    obtain ⟨env1, e1, f13, f0, f5, f10, f11, f12⟩ : ∃ env1, runOps Try.prog stepsA_3 env h = some (env1, h) ∧ sv env1 13 = .bool true ∧ sv env1 0 = .yield l ∧ sv env1 5 = .fn (.func 20) [] [.ptr at_ 0 0] ∧ sv env1 10 = .sl id g off xs.length cap ex 1 ∧ sv env1 11 = int64 xs.length ∧ sv env1 12 = int64 i := by
      simp [stepsA_3, runOps, wanted_no, wanted_sv, ev_tm, ev_vl, sv_setD, sv_set, setD_none, qev_mov, qev_bin, qev_un, qev_lenI, qev_pick, qev_load1, qev_idxSl, idx2_sl, idxA2_ptr, opt_some, bin_add, bin_sub, bin_mul, bin_lss, bin_leq, bin_gtr, bin_geq, bin_eql, bin_neq, un_not, un_neg, qev_callv, qev_new1, qev_store1, h0, h5, h10, h11, h12, hv']
      omega
    obtain ⟨env2, e2, k6, k7, k0, k5, k10, k11, k12⟩ : ∃ env2, runOps Try.prog stepsA_4 env1 h = some (env2, h) ∧ sv env2 6 = int64 i ∧ sv env2 7 = int64 xs[i] ∧ sv env2 0 = .yield l ∧ sv env2 5 = .fn (.func 20) [] [.ptr at_ 0 0] ∧ sv env2 10 = v ∧ sv env2 11 = int64 xs.length ∧ sv env2 12 = int64 i := by
      simp [stepsA_4, runOps, wanted_no, wanted_sv, ev_tm, ev_vl, sv_setD, sv_set, setD_none, qev_mov, qev_bin, qev_un, qev_lenI, qev_pick, qev_load1, qev_idxSl, idx2_sl, idxA2_ptr, opt_some, bin_add, bin_sub, bin_mul, bin_lss, bin_leq, bin_gtr, bin_geq, bin_eql, bin_neq, un_not, un_neg, qev_callv, qev_new1, qev_store1, f0, f5, f10, f11, f12, hil, hone, hv']
    obtain ⟨env3, e3, m17, m18, m19, m20, m10, m11, m12, m0, m5⟩ : ∃ env3, runOps Try.prog (stepsA_5.take 4) env2 h = some (env3, h) ∧ sv env3 17 = .yield l ∧ sv env3 18 = int64 i ∧ sv env3 19 = .fn (.func 20) [] [.ptr at_ 0 0] ∧ sv env3 20 = int64 xs[i] ∧ sv env3 10 = v ∧ sv env3 11 = int64 xs.length ∧ sv env3 12 = int64 i ∧ sv env3 0 = .yield l ∧ sv env3 5 = .fn (.func 20) [] [.ptr at_ 0 0] := by
      simp [stepsA_5, runOps, wanted_no, wanted_sv, ev_tm, ev_vl, sv_setD, sv_set, setD_none, qev_mov, qev_bin, qev_un, qev_lenI, qev_pick, qev_load1, qev_idxSl, idx2_sl, idxA2_ptr, opt_some, bin_add, bin_sub, bin_mul, bin_lss, bin_leq, bin_gtr, bin_geq, bin_eql, bin_neq, un_not, un_neg, qev_callv, qev_new1, qev_store1, k6, k7, k0, k5, k10, k11, k12]
    have hadd := stepsB_fn hb xs[i]
    rw [← sumS_take hil] at hadd
    have hb1 := putB_box hb (int64 (sumS n0 (xs.take (i + 1))))
    have ho1 := putB_only h at_ (int64 (sumS n0 (xs.take (i + 1))))
    by_cases hK' : i < K
    · skip
      obtain ⟨h2, hround, j2, ho2⟩ := hr i hil _ hK' (hJ i h (int64 (sumS n0 (xs.take (i + 1)))) j)
      have hall : Only (at_ :: S) h h2 := (ho1.mono fun x hx => by simp at hx; subst hx; simp).trans (ho2.mono fun x hx => by simp [hx])
      obtain ⟨env4, e4, p23, p0, p5, p10, p11, p12⟩ : ∃ env4, runOps Try.prog (stepsA_5.drop 6) (setD (setD env3 (some (Pos.ofNat 21)) (int64 (sumS n0 (xs.take (i + 1))))) (some (Pos.ofNat 22)) (.bool true)) h2 = some (env4, h2) ∧ sv env4 23 = .bool false ∧ sv env4 0 = .yield l ∧ sv env4 5 = .fn (.func 20) [] [.ptr at_ 0 0] ∧ sv env4 10 = v ∧ sv env4 11 = int64 xs.length ∧ sv env4 12 = int64 i := by
        simp [stepsA_5, runOps, wanted_no, wanted_sv, ev_tm, ev_vl, sv_setD, sv_set, setD_none, qev_mov, qev_bin, qev_un, qev_lenI, qev_pick, qev_load1, qev_idxSl, idx2_sl, idxA2_ptr, opt_some, bin_add, bin_sub, bin_mul, bin_lss, bin_leq, bin_gtr, bin_geq, bin_eql, bin_neq, un_not, un_neg, qev_callv, qev_new1, qev_store1, m10, m11, m12, m0, m5]
      obtain ⟨env5, e5, q0, q5, q10, q11, q12⟩ : ∃ env5, runOps Try.prog stepsA_6 env4 h2 = some (env5, h2) ∧ sv env5 0 = .yield l ∧ sv env5 5 = .fn (.func 20) [] [.ptr at_ 0 0] ∧ sv env5 10 = v ∧ sv env5 11 = int64 xs.length ∧ sv env5 12 = int64 ((i + 1 : Nat) : Int) := by
        have : wrapA .i64 ((i : Int) + 1) = (i : Int) + 1 := wrap64 (by omega) (by omega)
        simp [stepsA_6, runOps, wanted_no, wanted_sv, ev_tm, ev_vl, sv_setD, sv_set, setD_none, qev_mov, qev_bin, qev_un, qev_lenI, qev_pick, qev_load1, qev_idxSl, idx2_sl, idxA2_ptr, opt_some, bin_add, bin_sub, bin_mul, bin_lss, bin_leq, bin_gtr, bin_geq, bin_eql, bin_neq, un_not, un_neg, qev_callv, qev_new1, qev_store1, p0, p5, p10, p11, p12, this]
      obtain ⟨h', jj, oo, ee⟩ := ih (i + 1) env5 h2 (by omega) (by omega) q0 q5 q10 q11 q12 (hs.only hall hv) (hb1.only ho2 hat) j2
      refine ⟨h', jj, hall.trans oo, fun callers => ?_⟩
      refine Leads.ends (leads_seq.trans <| (leads_region e1).trans <| leads_seq.trans <| (leads_cond (t := true) f13).trans <| leads_skip.trans <| leads_seq.trans <| leads_block.trans <| leads_seq.trans <| (leads_region e2).trans <| leads_seq.trans <| leads_enter.trans <|
        (leads_ops (l := stepsA_5.take 4) e3).trans <| (leads_call rfl rfl (f := 20) (args := [int64 xs[i], .ptr at_ 0 0]) ?_ hadd).trans <| (leads_round rfl rfl (l := l) (args := [int64 i, int64 (sumS n0 (xs.take (i + 1)))]) ?_ hround).trans <|
        (leads_ops (l := stepsA_5.drop 6) (rest := []) e4).trans <| leads_opsNil.trans <| (leads_cond (t := false) p23).trans <| leads_skip.trans <| leads_inBlock.trans <| (leads_region e5).trans leads_inLoop) (ee callers)
      · simp [runOps, wanted_no, wanted_sv, ev_tm, ev_vl, sv_setD, sv_set, setD_none, qev_mov, qev_bin, qev_un, qev_lenI, qev_pick, qev_load1, qev_idxSl, idx2_sl, idxA2_ptr, opt_some, bin_add, bin_sub, bin_mul, bin_lss, bin_leq, bin_gtr, bin_geq, bin_eql, bin_neq, un_not, un_neg, qev_callv, qev_new1, qev_store1, callA_ok ok20, m19, m20]
      · simp [runOps, wanted_no, wanted_sv, ev_tm, ev_vl, sv_setD, sv_set, setD_none, qev_mov, qev_bin, qev_un, qev_lenI, qev_pick, qev_load1, qev_idxSl, idx2_sl, idxA2_ptr, opt_some, bin_add, bin_sub, bin_mul, bin_lss, bin_leq, bin_gtr, bin_geq, bin_eql, bin_neq, un_not, un_neg, qev_callv, qev_new1, qev_store1, m17, m18]
    · have : i = K := by omega
      subst this
      obtain ⟨h2, hround, j2, ho2⟩ := hstop hil _ (hJ i h (int64 (sumS n0 (xs.take (i + 1)))) j)
      have hall : Only (at_ :: S) h h2 := (ho1.mono fun x hx => by simp at hx; subst hx; simp).trans (ho2.mono fun x hx => by simp [hx])
      obtain ⟨env4, e4, p23⟩ : ∃ env4, runOps Try.prog (stepsA_5.drop 6) (setD (setD env3 (some (Pos.ofNat 21)) (int64 (sumS n0 (xs.take (i + 1))))) (some (Pos.ofNat 22)) (.bool false)) h2 = some (env4, h2) ∧ sv env4 23 = .bool true := by
        simp [stepsA_5, runOps, wanted_no, wanted_sv, ev_tm, ev_vl, sv_setD, sv_set, setD_none, qev_mov, qev_bin, qev_un, qev_lenI, qev_pick, qev_load1, qev_idxSl, idx2_sl, idxA2_ptr, opt_some, bin_add, bin_sub, bin_mul, bin_lss, bin_leq, bin_gtr, bin_geq, bin_eql, bin_neq, un_not, un_neg, qev_callv, qev_new1, qev_store1, m10, m11, m12, m0, m5]
      refine ⟨h2, j2, hall, fun callers => ?_⟩
      refine Leads.ends (leads_seq.trans <| (leads_region e1).trans <| leads_seq.trans <| (leads_cond (t := true) f13).trans <| leads_skip.trans <| leads_seq.trans <| leads_block.trans <| leads_seq.trans <| (leads_region e2).trans <| leads_seq.trans <| leads_enter.trans <|
        (leads_ops (l := stepsA_5.take 4) e3).trans <| (leads_call rfl rfl (f := 20) (args := [int64 xs[i], .ptr at_ 0 0]) ?_ hadd).trans <| (leads_round rfl rfl (l := l) (args := [int64 i, int64 (sumS n0 (xs.take (i + 1)))]) ?_ hround).trans <|
        (leads_ops (l := stepsA_5.drop 6) (rest := []) e4).trans <| leads_opsNil.trans <| (leads_cond (t := true) p23)) (ends_ret stepsA_code (vs := []) rfl rfl)
      · simp [runOps, wanted_no, wanted_sv, ev_tm, ev_vl, sv_setD, sv_set, setD_none, qev_mov, qev_bin, qev_un, qev_lenI, qev_pick, qev_load1, qev_idxSl, idx2_sl, idxA2_ptr, opt_some, bin_add, bin_sub, bin_mul, bin_lss, bin_leq, bin_gtr, bin_geq, bin_eql, bin_neq, un_not, un_neg, qev_callv, qev_new1, qev_store1, callA_ok ok20, m19, m20]
      · simp [runOps, wanted_no, wanted_sv, ev_tm, ev_vl, sv_setD, sv_set, setD_none, qev_mov, qev_bin, qev_un, qev_lenI, qev_pick, qev_load1, qev_idxSl, idx2_sl, idxA2_ptr, opt_some, bin_add, bin_sub, bin_mul, bin_lss, bin_leq, bin_gtr, bin_geq, bin_eql, bin_neq, un_not, un_neg, qev_callv, qev_new1, qev_store1, m17, m18]

/-- Going over the steps: the function that Steps answers, whatever a round does, to the round that breaks off. -/
theorem stepsS_fn {xs : List Int} (hlen : xs.length < 4611686018427387904) (n0 : Int) {l p0 p5 : Pos} {v : AV} {S : List Pos} {J : Nat → Hp → Prop} {Q : Hp → Prop} {K : Nat} (hK : K ≤ xs.length) {h : Hp} (b0 : Box h p0 (int64 n0)) (b5 : Box h p5 v) (hs : SlR h v (xs.map int64))
    (hS : ∀ id ∈ S, id.num < h.next.num) (hv : ∀ id g off n cap ex, v = .sl id g off n cap ex 1 → id.num < h.next.num ∧ id ∉ S)
    (hJ : ∀ i h1 h2 S', J i h1 → Only S' h1 h2 → (∀ id ∈ S', h.next.num ≤ id.num) → J i h2)
    (hr : ∀ (i : Nat) (hi : i < xs.length) (h1 : Hp), i < K → J i h1 → h.next.num ≤ h1.next.num → ∃ h', RoundFn Try.prog l [int64 i, int64 (sumS n0 (xs.take (i + 1)))] h1 (.bool true) h' ∧ J (i + 1) h' ∧ Only S h1 h')
    (hq : K = xs.length → ∀ h1, J K h1 → Q h1) (hstop : ∀ (hi : K < xs.length) (h1 : Hp), J K h1 → h.next.num ≤ h1.next.num → ∃ h', RoundFn Try.prog l [int64 K, int64 (sumS n0 (xs.take (K + 1)))] h1 (.bool false) h' ∧ Q h' ∧ Only S h1 h') (j : J 0 h) :
    ∃ h', AmFn Try.prog 19 [.yield l, .ptr p0 0 0, .ptr p5 0 0] h (.tup []) h' ∧ Q h' ∧ Only S h h' := by
  have hb := newB_box h (int64 0)
  have hn := newH_next h fun s => .cells s (Cells.ofL [int64 0]) 0 0 0 0 false false
  have ho : ∀ S, Only S h (newB h (int64 0)) := fun S => newH_only S h _
  obtain ⟨env0, e0, a0, a2, a4⟩ : ∃ env, runOps Try.prog stepsA_0 (setArgs .e 0 [.yield l, .ptr p0 0 0, .ptr p5 0 0]) h = some (env, putB (newB h (int64 0)) h.next (int64 n0)) ∧ sv env 0 = .yield l ∧ sv env 2 = .ptr p5 0 0 ∧ sv env 4 = .ptr h.next 0 0 := by
    have s := storeR_box hb (int64 n0) rfl rfl
    simp [stepsA_0, sv_args, runOps, wanted_no, wanted_sv, ev_tm, ev_vl, sv_setD, sv_set, setD_none, qev_mov, qev_bin, qev_un, qev_lenI, qev_pick, qev_load1, qev_idxSl, idx2_sl, idxA2_ptr, opt_some, bin_add, bin_sub, bin_mul, bin_lss, bin_leq, bin_gtr, bin_geq, bin_eql, bin_neq, un_not, un_neg, qev_callv, qev_new1, qev_store1, b0.load, s]
  have hp := putB_only (newB h (int64 0)) h.next (int64 n0)
  have hb1 := putB_box hb (int64 n0)
  have ho1 : Only [h.next] h (putB (newB h (int64 0)) h.next (int64 n0)) := (ho _).trans hp
  obtain ⟨env1, e1, c0, c2, c5⟩ : ∃ env, runOps Try.prog stepsA_1 env0 (putB (newB h (int64 0)) h.next (int64 n0)) = some (env, putB (newB h (int64 0)) h.next (int64 n0)) ∧ sv env 0 = .yield l ∧ sv env 2 = .ptr p5 0 0 ∧ sv env 5 = .fn (.func 20) [] [.ptr h.next 0 0] := by
    simp [stepsA_1, runOps, wanted_no, wanted_sv, ev_tm, ev_vl, sv_setD, sv_set, setD_none, qev_mov, qev_bin, qev_un, qev_lenI, qev_pick, qev_load1, qev_idxSl, idx2_sl, idxA2_ptr, opt_some, bin_add, bin_sub, bin_mul, bin_lss, bin_leq, bin_gtr, bin_geq, bin_eql, bin_neq, un_not, un_neg, qev_callv, qev_new1, qev_store1, qev_mkFn, a0, a2, a4]
  have ne5 : p5 ∉ [h.next] := by
    simp only [List.mem_singleton]
    intro e; have := b5.old; rw [e] at this; omega
  have b5' := b5.only ho1 ne5
  have hs' : SlR (putB (newB h (int64 0)) h.next (int64 n0)) v (xs.map int64) := hs.only ho1 fun id g off n cap ex e => by
    simp only [List.mem_singleton]
    intro e'; have := (hv _ _ _ _ _ _ e).1; rw [e'] at this; omega
  have hl := hs'.len Try.prog (setD env1 (some (Pos.ofNat 10)) v) (tm 10) (by simp [ev_tm, sv_setD])
  obtain ⟨env2, e2, d0, d5, d10, d11, d12⟩ : ∃ env, runOps Try.prog stepsA_2 env1 (putB (newB h (int64 0)) h.next (int64 n0)) = some (env, putB (newB h (int64 0)) h.next (int64 n0)) ∧ sv env 0 = .yield l ∧ sv env 5 = .fn (.func 20) [] [.ptr h.next 0 0] ∧ sv env 10 = v ∧ sv env 11 = int64 xs.length ∧ sv env 12 = int64 ((0 : Nat) : Int) := by
    simp [stepsA_2, runOps, wanted_no, wanted_sv, ev_tm, ev_vl, sv_setD, qev_mov, qev_load1, opt_some, b5'.load, hl, c0, c2, c5]
  have nS : h.next ∉ S := fun c => by have := hS _ c; omega
  obtain ⟨h', jj, oo, ee⟩ := stepsS_loop (J := fun i h1 => J i h1 ∧ h.next.num ≤ h1.next.num) (Q := Q) (K := K) hlen n0 (l := l) hK (at_ := h.next) (v := v) (S := S) nS
    (fun id g off n cap ex e => by
      obtain ⟨q1, q2⟩ := hv _ _ _ _ _ _ e
      simp only [List.mem_cons, not_or]
      exact ⟨fun c => by rw [c] at q1; omega, q2⟩)
    (fun i h1 z jq => ⟨hJ i h1 _ [h.next] jq.1 (putB_only _ _ _) (by simp), jq.2⟩)
    (fun i hi h1 hiK jq => by
      obtain ⟨h', q1, q2, q3⟩ := hr i hi h1 hiK jq.1 jq.2
      exact ⟨h', q1, ⟨q2, Nat.le_trans jq.2 q3.next⟩, q3⟩)
    (fun e h1 jq => hq e h1 jq.1) (fun hi h1 jq => hstop hi h1 jq.1 jq.2)
    xs.length 0 env2 _ (by omega) (Nat.zero_le _) d0 d5 d10 d11 d12 hs' hb1 ⟨hJ 0 h _ [h.next] j ho1 (by simp), ho1.next⟩
  refine ⟨h', AmFn.ends stepsA_code (by simp [stepsA_fu]) fun callers => ?_, jj, ((ho1.mono fun id hid => .inl (by simp at hid; simp [hid])).trans oo).mono fun id hid => ?_⟩
  · exact Leads.ends (leads_seq.trans <| (leads_region e0).trans <| leads_seq.trans <| (leads_region e1).trans <| leads_seq.trans <| (leads_region e2).trans <| leads_block.trans leads_loop) (ee callers)
  · rcases List.mem_cons.1 hid with q | q
    · exact .inr (by rw [q]; exact Nat.le_refl _)
    · exact .inl q
end Go.Proofs.Ytpcddenijmhbfaa.Tog

namespace Go.Proofs.Ytpcddenijmhbfaa.Tog
open Go Go.Proofs.Ytpcddenijmhbfaa.Am Go.Proofs

theorem sumS_from (n : Int) {xs : List Int} : ∀ i : Nat, i ≤ xs.length → sumS n (xs.take i) % 18446744073709551616 = (n + sumS 0 (xs.take i)) % 18446744073709551616
  | 0, _ => by simp [sumS]
  | i + 1, hi => by
    have ih := sumS_from n (xs := xs) i (by omega)
    rw [sumS_take (by omega), sumS_take (by omega), mod_wrap]
    have w := mod_wrap (sumS 0 (xs.take i) + xs[i])
    omega

theorem sumS_start (n : Int) {xs : List Int} {i : Nat} (hi : i < xs.length) : wrapA .i64 (n + sumS 0 (xs.take (i + 1))) = sumS n (xs.take (i + 1)) := by
  have q := sumS_from n (xs := xs) (i + 1) (by omega)
  rw [wrap_mod q.symm, sumS_take hi]
  exact wrap_mod (mod_wrap _)

/-- What stays through the law's turns. -/
structure Law (N : Nat) (h : Hp) (p3 p4 p5 p6 : Pos) (n leave : Int) (v : AV) (xs : List Int) : Prop where
  b3 : Box h p3 (int64 n)
  b4 : Box h p4 v
  b5 : Box h p5 (int64 leave)
  b6 : Box h p6 (.bool false)
  s : ArgS h v (xs.map int64)
  l3 : p3.num < N
  l4 : p4.num < N
  l5 : p5.num < N
  l6 : p6.num < N
  lv : ∀ id g off n cap ex, v = .sl id g off n cap ex 1 → id.num < N

theorem Law.only {N : Nat} {h h' : Hp} {p3 p4 p5 p6 : Pos} {n leave : Int} {v : AV} {xs : List Int} {S : List Pos} (a : Law N h p3 p4 p5 p6 n leave v xs) (m : Only S h h') (hS : ∀ id ∈ S, N ≤ id.num) : Law N h' p3 p4 p5 p6 n leave v xs :=
  ⟨a.b3.only m fun c => by have := hS _ c; have := a.l3; omega, a.b4.only m fun c => by have := hS _ c; have := a.l4; omega, a.b5.only m fun c => by have := hS _ c; have := a.l5; omega,
    a.b6.only m fun c => by have := hS _ c; have := a.l6; omega, a.s.only m hS a.lv, a.l3, a.l4, a.l5, a.l6, a.lv⟩

/-- The question of a round. -/
theorem lsteps_ask {N : Nat} {h : Hp} {p3 p4 p5 p6 p11 : Pos} {n leave : Int} {v : AV} {xs : List Int} (a : Law N h p3 p4 p5 p6 n leave v xs) (hlen : xs.length ≤ 1000) {i : Nat} (hi : i < xs.length) (b11 : Box h p11 (int64 i)) {env : T AV} {p10 : Pos}
    (s3 : sv env 3 = .ptr p3 0 0) (s4 : sv env 4 = .ptr p4 0 0) (s5 : sv env 5 = .ptr p5 0 0) (s10 : sv env 10 = .ptr p10 0 0) (s11 : sv env 11 = .ptr p11 0 0) (s12 : sv env 12 = int64 i) (s13 : sv env 13 = int64 (sumS n (xs.take (i + 1)))) :
    ∃ rec env', Sound Try.prog rec ∧ runDrawn Try.prog rec lsteps_19 env h = some (env', h) ∧ sv env' 70 = .bool false ∧ sv env' 3 = .ptr p3 0 0 ∧ sv env' 4 = .ptr p4 0 0 ∧ sv env' 5 = .ptr p5 0 0 ∧ sv env' 10 = .ptr p10 0 0 ∧ sv env' 11 = .ptr p11 0 0 := by
  obtain ⟨w, hw, hws⟩ := a.s.front Try.prog (n := i + 1) (by omega) (by simp; omega)
  rw [← List.map_take] at hws
  have c1 := rsum_fn hws (by simp; omega)
  obtain ⟨b1, n1⟩ := c1.begins
  have hsound := recF_sound (P := Try.prog) (fr := fun k => frOf Try.prog k.f k.args) (A := [⟨10, [w], h, int64 (sumS 0 (xs.take (i + 1))), h⟩]) (by
      intro k hk
      simp only [List.mem_cons, List.not_mem_nil, or_false] at hk
      subst hk
      exact ⟨c1, b1⟩)
  have R1 : recF [⟨10, [w], h, int64 (sumS 0 (xs.take (i + 1))), h⟩] (fun k => frOf Try.prog k.f k.args) ⟨frOf Try.prog 10 [w], [], h⟩ = .done (int64 (sumS 0 (xs.take (i + 1)))) h := by
    simp [recF, n1]
  generalize (recF [⟨10, [w], h, int64 (sumS 0 (xs.take (i + 1))), h⟩] fun k => frOf Try.prog k.f k.args) = R at *
  have hl : ∀ env x, ev env x = v → evalOp Try.prog (.lenL x) env h = .val (int64 xs.length) h := fun env x hx => by simpa using a.s.sl.len Try.prog env x hx
  have r3 := a.b3.load
  have r4 := a.b4.load
  have r11 := b11.load
  have w1 : wrapA .i64 ((i : Int) + 1) = (i : Int) + 1 := wrap64 (by omega) (by omega)
  have hw' : ∀ env x y, ev env x = v → ev env y = int64 ((i : Int) + 1) → evalOp Try.prog (.sliceSl 1 x none (some y) none) env h = .val w h := fun env x y hx hy => hw env x y hx (by simpa using hy)
  have hge : ¬ ((xs.length : Int) ≤ i) := by omega
  have hss := sumS_start n hi
  obtain ⟨env', lds, e, f70, f3, f4, f5, f10, f11⟩ : ∃ env' lds, runD Try.prog R 0 lsteps_19 ⟨[], [], [], h.next, env, h⟩ = some ⟨[⟨16, h⟩], lds, [], h.next, env', h⟩ ∧ sv env' 70 = .bool false ∧ sv env' 3 = .ptr p3 0 0 ∧ sv env' 4 = .ptr p4 0 0 ∧ sv env' 5 = .ptr p5 0 0 ∧ sv env' 10 = .ptr p10 0 0 ∧ sv env' 11 = .ptr p11 0 0 := by
    simp [lsteps_19, runD, stepD, actO, kindOf, lookBack, lookAgain, putT, remAl, bit, eqAV_int8, runOps, wanted_no, wanted_sv, ev_tm, ev_vl, sv_setD, qev_mov, qev_bin, opt_some, bin_add, bin_geq, bin_neq, qev_pick, qev_load1, qev_callv, callA_ok ok10, hl, hw', b1, R1, r3, r4, r11, s3, s4, s5, s10, s11, s12, s13, w1, hge, hss]
  exact ⟨R, env', hsound, runDrawn_of (acts := [⟨16, h⟩]) (lds := lds) (by simp [lsteps_19, skipIds, isAlloc, kindOf]) e, f70, f3, f4, f5, f10, f11⟩

/-- A round: it goes on, or breaks off. -/
theorem lsteps_round {N : Nat} {h : Hp} {p3 p4 p5 p6 p10 p11 l : Pos} {n leave turn : Int} {v : AV} {xs : List Int} (a : Law N h p3 p4 p5 p6 n leave v xs) (hlen : xs.length ≤ 1000) {i : Nat} (hi : i < xs.length)
    (b10 : Box h p10 (int64 turn)) (b11 : Box h p11 (int64 i)) (k11 : N ≤ p11.num) (kl : N ≤ l.num) (d1 : p10 ≠ p11) (d2 : p10 ≠ l) (d3 : p11 ≠ l) {envS : T AV}
    (s3 : sv envS 3 = .ptr p3 0 0) (s4 : sv envS 4 = .ptr p4 0 0) (s5 : sv envS 5 = .ptr p5 0 0) (s10 : sv envS 10 = .ptr p10 0 0) (s11 : sv envS 11 = .ptr p11 0 0)
    (x : LoopAt h l .ready 4 envS [Pos.ofNat 49, Pos.ofNat 50] lsteps_18 lsteps_23) :
    ∃ h', ((turn = 0 ∧ (i : Int) + 1 = leave → RoundFn Try.prog l [int64 i, int64 (sumS n (xs.take (i + 1)))] h (.bool false) h' ∧ LoopJ h' l .done (.exit 4)) ∧
      (¬ (turn = 0 ∧ (i : Int) + 1 = leave) → RoundFn Try.prog l [int64 i, int64 (sumS n (xs.take (i + 1)))] h (.bool true) h' ∧ LoopAt h' l .ready 4 envS [Pos.ofNat 49, Pos.ofNat 50] lsteps_18 lsteps_23)) ∧
      Box h' p11 (int64 ((i + 1 : Nat) : Int)) ∧ Box h' p10 (int64 turn) ∧ Only [p11, l] h h' := by
  have o1 := putL_only h l .busy
  have a1 := a.only o1 (by simpa using kl)
  have b10' := b10.only o1 (by simpa using d2)
  have b11' := b11.only o1 (by simpa using d3)
  have x1 := x.put .busy
  obtain ⟨env1, e1, f3, f4, f5, f10, f11, f12, f13⟩ : ∃ env', runS Try.prog true lsteps_18 [] (T.set (Pos.ofNat 50) (some (int64 (sumS n (xs.take (i + 1))))) (T.set (Pos.ofNat 49) (some (int64 i)) envS)) h = some (.upt [], [], env', h) ∧
      sv env' 3 = .ptr p3 0 0 ∧ sv env' 4 = .ptr p4 0 0 ∧ sv env' 5 = .ptr p5 0 0 ∧ sv env' 10 = .ptr p10 0 0 ∧ sv env' 11 = .ptr p11 0 0 ∧ sv env' 12 = int64 i ∧ sv env' 13 = int64 (sumS n (xs.take (i + 1))) := by
    simp [lsteps_18, lsteps_16, lsteps_17, runS, runR, runOps, wanted_no, wanted_sv, ev_tm, ev_vl, sv_setD, sv_set, setD_none, qev_mov, qev_bin, qev_un, qev_lenI, qev_pick, qev_load1, qev_idxSl, idx2_sl, idxA2_ptr, opt_some, bin_add, bin_sub, bin_mul, bin_lss, bin_leq, bin_gtr, bin_geq, bin_eql, bin_neq, un_not, un_neg, qev_callv, qev_new1, qev_store1, s3, s4, s5, s10, s11]
  generalize hB : putL h l .busy = h1 at *
  obtain ⟨rec, env2, hrec, e2, g70, g3, g4, g5, g10, g11⟩ := lsteps_ask a1 hlen hi b11' (env := env1) f3 f4 f5 f10 f11 f12 f13
  have o2 := putB_only h1 p11 (int64 ((i + 1 : Nat) : Int))
  have b11'' := putB_box b11' (int64 ((i + 1 : Nat) : Int))
  have b10'' := b10'.only o2 (by simpa using d1)
  have a2 := a1.only o2 (by simpa using k11)
  have x2 := x1.only o2 (by simpa using d3.symm)
  have w1 : wrapA .i64 ((i : Int) + 1) = (i : Int) + 1 := wrap64 (by omega) (by omega)
  have st := storeR_box b11' (int64 ((i + 1 : Nat) : Int)) rfl rfl
  have l10 := b10''.load
  have l11 := b11''.load
  have l11' := b11'.load
  have l5 := a2.b5.load
  rw [show ((i + 1 : Nat) : Int) = (i : Int) + 1 by omega] at st l11 l10 l5 b11'' b10'' x2 o2
  have start : runS Try.prog false lsteps_23 [] env1 h1 = some (.upt [.code (.drawn lsteps_19), .code (.cond (tm 70) (.seq (.region lsteps_20) .ret) .skip), .code (.seq (.region lsteps_21) (.seq (.region lsteps_22) (.cond (tm 79) (.exit 4) .skip))), .inBlock 5], [], env1, h1) := by
    simp [lsteps_23, runS, Rs.seq, Rs.block]
  have mid : runS Try.prog true (.cond (tm 70) (.seq (.region lsteps_20) .ret) .skip) [] env2 h1 = some (.upt [], [], env2, h1) := by
    simp [runS, ev_tm, g70]
  have hfin : ∀ st' : LState, Only [p11, l] h (putL (putB h1 p11 (int64 ((i : Int) + 1))) l st') := fun st' =>
    ((o1.mono fun id hid => .inl (by simp at hid; simp [hid])).trans (o2.mono fun id hid => .inl (by simp at hid; simp [hid]))).trans ((putL_only _ l st').mono fun id hid => .inl (by simp at hid; simp [hid]))
  have hfinJ : Only [p11, l] h (putJ (putB h1 p11 (int64 ((i : Int) + 1))) l (.exit 4)) :=
    ((o1.mono fun id hid => .inl (by simp at hid; simp [hid])).trans (o2.mono fun id hid => .inl (by simp at hid; simp [hid]))).trans ((putJ_only _ l _).mono fun id hid => .inl (by simp at hid; simp [hid]))
  by_cases hb : turn = 0 ∧ (i : Int) + 1 = leave
  · have hb' := hb
    obtain ⟨hb1, hb2⟩ := hb'
    subst hb1
    subst hb2
    obtain ⟨env3, e3⟩ : ∃ env', runS Try.prog true (.seq (.region lsteps_21) (.seq (.region lsteps_22) (.cond (tm 79) (.exit 4) .skip))) [] env2 h1 = some (.exit 4, [], env', putB h1 p11 (int64 ((i : Int) + 1))) := by
      simp [lsteps_21, lsteps_22, runS, runR, runOps, wanted_no, wanted_sv, ev_tm, ev_vl, sv_setD, sv_set, setD_none, qev_mov, qev_bin, qev_un, qev_lenI, qev_pick, qev_load1, qev_idxSl, idx2_sl, idxA2_ptr, opt_some, bin_add, bin_sub, bin_mul, bin_lss, bin_leq, bin_gtr, bin_geq, bin_eql, bin_neq, un_not, un_neg, qev_callv, qev_new1, qev_store1, g5, g10, g11, l10, l11, l11', l5, w1, st]
    refine ⟨putJ (putB h1 p11 (int64 ((i : Int) + 1))) l (.exit 4), ⟨fun _ => ⟨?_, x2.jump _⟩, fun c => absurd hb c⟩, b11''.only (putJ_only _ l _) (by simpa using d3), b10''.only (putJ_only _ l _) (by simpa using d2), hfinJ⟩
    refine RoundFn.jumps (o := .exit 4) (.inr ⟨4, rfl, rfl⟩) x (by simp [setParams, T.setK_eq]) (Dos.runGo (F := 4) [] (by simp) e1) x (F := 4) (env2 := env3) (h2 := putB h1 p11 (int64 ((i : Int) + 1))) ?_ x2
    rw [hB]
    exact Dos.run (M := []) [] (by simp) start (.more (M := []) (M1 := []) (Dos.drawn hrec e2) (.more (M := []) (M1 := []) (Dos.runGo [] (by simp) mid) (.out (Dos.runExit [] (by simp) e3) rfl)))
  · obtain ⟨env3, e3⟩ : ∃ env', runS Try.prog true (.seq (.region lsteps_21) (.seq (.region lsteps_22) (.cond (tm 79) (.exit 4) .skip))) [] env2 h1 = some (.upt [], [], env', putB h1 p11 (int64 ((i : Int) + 1))) := by
      by_cases ht : turn = 0
      · have hne : ¬ ((i : Int) + 1 = leave) := fun c => hb ⟨ht, c⟩
        subst ht
        simp [lsteps_21, lsteps_22, runS, runR, runOps, wanted_no, wanted_sv, ev_tm, ev_vl, sv_setD, sv_set, setD_none, qev_mov, qev_bin, qev_un, qev_lenI, qev_pick, qev_load1, qev_idxSl, idx2_sl, idxA2_ptr, opt_some, bin_add, bin_sub, bin_mul, bin_lss, bin_leq, bin_gtr, bin_geq, bin_eql, bin_neq, un_not, un_neg, qev_callv, qev_new1, qev_store1, g5, g10, g11, l10, l11, l11', l5, w1, st, hne]
      · simp [lsteps_21, lsteps_22, runS, runR, runOps, wanted_no, wanted_sv, ev_tm, ev_vl, sv_setD, sv_set, setD_none, qev_mov, qev_bin, qev_un, qev_lenI, qev_pick, qev_load1, qev_idxSl, idx2_sl, idxA2_ptr, opt_some, bin_add, bin_sub, bin_mul, bin_lss, bin_leq, bin_gtr, bin_geq, bin_eql, bin_neq, un_not, un_neg, qev_callv, qev_new1, qev_store1, g5, g10, g11, l10, l11, l11', l5, w1, st, ht]
    refine ⟨putL (putB h1 p11 (int64 ((i : Int) + 1))) l .ready, ⟨fun c => absurd c hb, fun _ => ⟨?_, x2.put _⟩⟩, b11''.only (putL_only _ l _) (by simpa using d3), b10''.only (putL_only _ l _) (by simpa using d2), hfin _⟩
    refine RoundFn.dos x (by simp [setParams, T.setK_eq]) (Dos.runGo (F := 4) [] (by simp) e1) x (F := 4) (env2 := env3) (h2 := putB h1 p11 (int64 ((i : Int) + 1))) ?_ x2
    rw [hB]
    exact Dos.run (M := []) [] (by simp) start (.more (M := []) (M1 := []) (Dos.drawn hrec e2) (.more (M := []) (M1 := []) (Dos.runGo [] (by simp) mid) (.more (M := []) (M1 := []) (Dos.runGo [] (by simp) e3) (.inBlock .nil))))
end Go.Proofs.Ytpcddenijmhbfaa.Tog

namespace Go.Proofs.Ytpcddenijmhbfaa.Tog
open Go Go.Proofs.Ytpcddenijmhbfaa.Am Go.Proofs

theorem Law.mono {N N' : Nat} {h : Hp} {p3 p4 p5 p6 : Pos} {n leave : Int} {v : AV} {xs : List Int} (a : Law N h p3 p4 p5 p6 n leave v xs) (hN : N ≤ N') : Law N' h p3 p4 p5 p6 n leave v xs :=
  ⟨a.b3, a.b4, a.b5, a.b6, a.s, Nat.lt_of_lt_of_le a.l3 hN, Nat.lt_of_lt_of_le a.l4 hN, Nat.lt_of_lt_of_le a.l5 hN, Nat.lt_of_lt_of_le a.l6 hN, fun id g off m cap ex e => Nat.lt_of_lt_of_le (a.lv id g off m cap ex e) hN⟩

theorem ne_of_num {a b : Pos} (h : a.num ≠ b.num) : a ≠ b := fun e => h (by rw [e])

/-- The going over of one turn. -/
theorem lsteps_over {h : Hp} {p3 p4 p5 p6 p10 p0 q5 : Pos} {n leave turn : Int} {v v2 : AV} {xs : List Int} (a : Law h.next.num h p3 p4 p5 p6 n leave v xs) (hlen : xs.length ≤ 1000) (b10 : Box h p10 (int64 turn)) 
    (c0 : Box h p0 (int64 n)) (c5 : Box h q5 v2) (cs : SlR h v2 (xs.map int64)) (cv : ∀ id g off n cap ex, v2 = .sl id g off n cap ex 1 → id.num < h.next.num) {envS : T AV} {p11 : Pos} (b11 : Box h p11 (int64 0)) (l11 : h.next.num = p11.num + 1) (k0 : p0.num < p11.num) (k5 : q5.num < p11.num) (kv : ∀ id g off n cap ex, v2 = .sl id g off n cap ex 1 → id.num < p11.num)
    (al : Law p11.num h p3 p4 p5 p6 n leave v xs) (k10 : p10.num < p11.num)
    (s3 : sv envS 3 = .ptr p3 0 0) (s4 : sv envS 4 = .ptr p4 0 0) (s5 : sv envS 5 = .ptr p5 0 0) (s10 : sv envS 10 = .ptr p10 0 0) (s11 : sv envS 11 = .ptr p11 0 0) (s48 : sv envS 48 = .fn (.func 19) [] [.ptr p0 0 0, .ptr q5 0 0]) :
    ∃ (k : Nat) (h' : Hp) (o : Sg), Dos Try.prog 4 (.rangeFunc (tm 48) [Pos.ofNat 49, Pos.ofNat 50] lsteps_18 lsteps_23) envS h o [.mark h.next] envS h' ∧ ((o = .go ∧ k = xs.length) ∨ (o = .exit 4 ∧ turn = 0 ∧ (k : Int) = leave)) ∧
      Box h' p11 (int64 k) ∧ Box h' p10 (int64 turn) ∧ Only [p11] h h' ∧ (∃ s, T.get h.next h'.heap = some (.dfr s)) ∧ h.next.num < h'.next.num := by
  have od : Only [] h (dfrH h) := newH_only _ _ _
  have nd : (dfrH h).next.num = h.next.num + 1 := newH_next _ _
  have ol : Only [] (dfrH h) (loopH (dfrH h) 4 envS [Pos.ofNat 49, Pos.ofNat 50] lsteps_18 lsteps_23 h.next) := newH_only _ _ _
  have nl : (loopH (dfrH h) 4 envS [Pos.ofNat 49, Pos.ofNat 50] lsteps_18 lsteps_23 h.next).next.num = (dfrH h).next.num + 1 := newH_next _ _
  have gd : T.get h.next (dfrH h).heap = some (.dfr h.ser) := newH_get _ _
  have gl : LoopAt (loopH (dfrH h) 4 envS [Pos.ofNat 49, Pos.ofNat 50] lsteps_18 lsteps_23 h.next) (dfrH h).next .ready 4 envS [Pos.ofNat 49, Pos.ofNat 50] lsteps_18 lsteps_23 := ⟨by omega, _, _, newH_get _ _⟩
  have gd' : T.get h.next (loopH (dfrH h) 4 envS [Pos.ofNat 49, Pos.ofNat 50] lsteps_18 lsteps_23 h.next).heap = some (.dfr h.ser) := (ol.same _ (by omega) (by simp)).trans gd
  generalize hhl : loopH (dfrH h) 4 envS [Pos.ofNat 49, Pos.ofNat 50] lsteps_18 lsteps_23 h.next = hl at *
  have odl : Only [] h hl := od.trans ol
  have d1 : p10 ≠ p11 := ne_of_num (by omega)
  have d2 : p10 ≠ (dfrH h).next := ne_of_num (by omega)
  have d3 : p11 ≠ (dfrH h).next := ne_of_num (by omega)
  have al' : Law p11.num hl p3 p4 p5 p6 n leave v xs := al.only odl (by simp)
  have b11l := b11.only odl (by simp)
  have b10l := b10.only odl (by simp)
  -- what each round keeps
  let J : Nat → Hp → Prop := fun i h1 => LoopAt h1 (dfrH h).next .ready 4 envS [Pos.ofNat 49, Pos.ofNat 50] lsteps_18 lsteps_23 ∧ Box h1 p11 (int64 i) ∧ Box h1 p10 (int64 turn) ∧ Law p11.num h1 p3 p4 p5 p6 n leave v xs
  have hJ : ∀ i h1 h2 S', J i h1 → Only S' h1 h2 → (∀ id ∈ S', hl.next.num ≤ id.num) → J i h2 := fun i h1 h2 S' jq oq hS =>
    ⟨jq.1.only oq fun c => by have := hS _ c; omega, jq.2.1.only oq fun c => by have := hS _ c; omega, jq.2.2.1.only oq fun c => by have := hS _ c; omega, jq.2.2.2.only oq fun id hid => by have := hS id hid; omega⟩
  have hS : ∀ id ∈ [p11, (dfrH h).next], id.num < hl.next.num := fun id hid => by
    simp only [List.mem_cons, List.not_mem_nil, or_false] at hid
    rcases hid with q | q <;> subst q <;> omega
  have hvS : ∀ id g off n cap ex, v2 = .sl id g off n cap ex 1 → id.num < hl.next.num ∧ id ∉ [p11, (dfrH h).next] := fun id g off n cap ex e => by
    have := kv _ _ _ _ _ _ e
    refine ⟨by omega, ?_⟩
    simp only [List.mem_cons, List.not_mem_nil, or_false, not_or]
    exact ⟨ne_of_num (by omega), ne_of_num (by omega)⟩
  have onlyFin : ∀ h3, Only [p11, (dfrH h).next] hl h3 → ∀ st, Only [p11] h (putL h3 (dfrH h).next st) := fun h3 o3 st => by
    refine ((odl.mono (S' := [p11, (dfrH h).next]) (by simp)).trans (o3.trans ((putL_only h3 _ st).mono fun id hid => .inl (by simp at hid; simp [hid])))).mono fun id hid => ?_
    simp only [List.mem_cons, List.not_mem_nil, or_false] at hid
    rcases hid with q | q
    · exact .inl (by simp [q])
    · exact .inr (by rw [q]; omega)
  have dfrFin : ∀ h3, Only [p11, (dfrH h).next] hl h3 → ∀ st, ∃ s, T.get h.next (putL h3 (dfrH h).next st).heap = some (.dfr s) := fun h3 o3 st => by
    refine ⟨h.ser, ?_⟩
    have n3 := o3.next
    rw [(putL_only h3 (dfrH h).next st).same _ (by omega) (by simp only [List.mem_singleton]; exact ne_of_num (by omega)), o3.same _ (by omega) (by
      simp only [List.mem_cons, List.not_mem_nil, or_false, not_or]
      exact ⟨ne_of_num (by omega), ne_of_num (by omega)⟩)]
    exact gd'
  by_cases hb : turn = 0 ∧ 1 ≤ leave ∧ leave ≤ xs.length
  · obtain ⟨K, hK⟩ : ∃ K : Nat, (K : Int) + 1 = leave := ⟨(leave - 1).toNat, by omega⟩
    have hKl : K < xs.length := by omega
    obtain ⟨h3, hg, ⟨j1, j2, j3⟩, o3⟩ := stepsS_fn (xs := xs) (by omega) n (l := (dfrH h).next) (p0 := p0) (p5 := q5) (v := v2) (S := [p11, (dfrH h).next]) (K := K) (by omega) (h := hl)
      (J := J) (Q := fun h3 => LoopJ h3 (dfrH h).next .done (.exit 4) ∧ Box h3 p11 (int64 ((K + 1 : Nat) : Int)) ∧ Box h3 p10 (int64 turn))
      (c0.only odl (by simp)) (c5.only odl (by simp)) (cs.more odl.more) hS hvS hJ
      (fun i hi h1 hiK jq hq => by
        obtain ⟨h', ⟨_, r1⟩, r2, r3, r4⟩ := lsteps_round jq.2.2.2 hlen hi jq.2.2.1 jq.2.1 (Nat.le_refl _) (by omega) d1 d2 d3 s3 s4 s5 s10 s11 jq.1
        obtain ⟨q1, q2⟩ := r1 fun c => by omega
        exact ⟨h', q1, ⟨q2, r2, r3, jq.2.2.2.only r4 fun id hid => by
          simp only [List.mem_cons, List.not_mem_nil, or_false] at hid
          rcases hid with q | q <;> subst q <;> omega⟩, r4⟩)
      (fun e => by omega)
      (fun hi h1 jq hq => by
        obtain ⟨h', ⟨r1, _⟩, r2, r3, r4⟩ := lsteps_round jq.2.2.2 hlen hi jq.2.2.1 jq.2.1 (Nat.le_refl _) (by omega) d1 d2 d3 s3 s4 s5 s10 s11 jq.1
        obtain ⟨q1, q2⟩ := r1 ⟨hb.1, hK⟩
        exact ⟨h', q1, ⟨q2, r2, r3⟩, r4⟩)
      ⟨gl, b11l, b10l, al'⟩
    rw [← hhl] at hg
    have dd := Dos.rangeJ (P := Try.prog) (F := 4) (env := envS) (h := h) (f := tm 48) (params := [Pos.ofNat 49, Pos.ofNat 50]) (assign := lsteps_18) (body := lsteps_23) (.inr ⟨4, rfl⟩) ok19 s48 hg j1
    have on := putL_only h3 (dfrH h).next .exhausted
    exact ⟨K + 1, _, _, dd, .inr ⟨rfl, hb.1, by omega⟩, j2.only on (by simpa using d3), j3.only on (by simpa using d2), onlyFin h3 o3 _, dfrFin h3 o3 _, by have := o3.next; have := on.next; omega⟩
  · obtain ⟨h3, hg, ⟨j1, j2, j3, _⟩, o3⟩ := stepsS_fn (xs := xs) (by omega) n (l := (dfrH h).next) (p0 := p0) (p5 := q5) (v := v2) (S := [p11, (dfrH h).next]) (K := xs.length) (by omega) (h := hl)
      (J := J) (Q := J xs.length)
      (c0.only odl (by simp)) (c5.only odl (by simp)) (cs.more odl.more) hS hvS hJ
      (fun i hi h1 hiK jq hq => by
        obtain ⟨h', ⟨_, r1⟩, r2, r3, r4⟩ := lsteps_round jq.2.2.2 hlen hi jq.2.2.1 jq.2.1 (Nat.le_refl _) (by omega) d1 d2 d3 s3 s4 s5 s10 s11 jq.1
        obtain ⟨q1, q2⟩ := r1 fun c => hb ⟨c.1, by omega, by omega⟩
        exact ⟨h', q1, ⟨q2, r2, r3, jq.2.2.2.only r4 fun id hid => by
          simp only [List.mem_cons, List.not_mem_nil, or_false] at hid
          rcases hid with q | q <;> subst q <;> omega⟩, r4⟩)
      (fun _ h1 jq => jq)
      (fun hi => absurd hi (Nat.lt_irrefl _))
      ⟨gl, b11l, b10l, al'⟩
    rw [← hhl] at hg
    have dd := Dos.range (P := Try.prog) (F := 4) (env := envS) (h := h) (f := tm 48) (params := [Pos.ofNat 49, Pos.ofNat 50]) (assign := lsteps_18) (body := lsteps_23) ok19 s48 hg j1
    have on := putL_only h3 (dfrH h).next .exhausted
    exact ⟨xs.length, _, _, dd, .inl ⟨rfl, rfl⟩, j2.only on (by simpa using d3), j3.only on (by simpa using d2), onlyFin h3 o3 _, dfrFin h3 o3 _, by have := o3.next; have := on.next; omega⟩

/-- One turn. -/
theorem lsteps_turn {h : Hp} {p3 p4 p5 p6 p10 p0 q5 : Pos} {n leave turn : Int} {v v2 : AV} {xs : List Int} (a : Law h.next.num h p3 p4 p5 p6 n leave v xs) (hlen : xs.length ≤ 1000) (b10 : Box h p10 (int64 turn)) (ht : turn = 0 ∨ turn = 1)
    (c0 : Box h p0 (int64 n)) (c5 : Box h q5 v2) (cs : SlR h v2 (xs.map int64)) (cv : ∀ id g off n cap ex, v2 = .sl id g off n cap ex 1 → id.num < h.next.num) {env : T AV}
    (s3 : sv env 3 = .ptr p3 0 0) (s4 : sv env 4 = .ptr p4 0 0) (s5 : sv env 5 = .ptr p5 0 0) (s6 : sv env 6 = .ptr p6 0 0) (s8 : sv env 8 = .fn (.func 19) [] [.ptr p0 0 0, .ptr q5 0 0]) (s10 : sv env 10 = .ptr p10 0 0) :
    ∃ (env' : T AV) (h' : Hp) (p r : Pos), Dos Try.prog 4 lsteps_29 env h .go [.mark r] env' h' ∧ Only [] h h' ∧ Box h' p (int64 (turn + 1)) ∧ h.next.num ≤ r.num ∧ r.num < h'.next.num ∧ (∃ s, T.get r h'.heap = some (.dfr s)) ∧
      sv env' 3 = .ptr p3 0 0 ∧ sv env' 4 = .ptr p4 0 0 ∧ sv env' 5 = .ptr p5 0 0 ∧ sv env' 6 = .ptr p6 0 0 ∧ sv env' 8 = .fn (.func 19) [] [.ptr p0 0 0, .ptr q5 0 0] ∧ sv env' 10 = .ptr p 0 0 := by
  have ob : Only [] h (newB h (int64 0)) := newH_only _ _ _
  have nb : (newB h (int64 0)).next.num = h.next.num + 1 := newH_next _ _
  have hb := newB_box h (int64 0)
  have st := storeR_box hb (int64 0) rfl rfl
  have ob1 := putB_only (newB h (int64 0)) h.next (int64 0)
  have hb1 := putB_box hb (int64 0)
  have l10 := b10.load
  have hlt : turn < 2 := by omega
  obtain ⟨env1, e1, f3, f4, f5, f6, f8, f10, f11, f48⟩ : ∃ env', runS Try.prog true lsteps_29 [] env h = some (.upt [.code (.rangeFunc (tm 48) [Pos.ofNat 49, Pos.ofNat 50] lsteps_18 lsteps_23), .inBlock 4, .code (.seq (.region lsteps_24) (.cond (tm 102) (.seq (.region lsteps_25) .ret) .skip)), .inBlock 3, .code (.seq (.seq (.region lsteps_26) (.region lsteps_27)) (.region lsteps_28))], [], env', putB (newB h (int64 0)) h.next (int64 0)) ∧
      sv env' 3 = .ptr p3 0 0 ∧ sv env' 4 = .ptr p4 0 0 ∧ sv env' 5 = .ptr p5 0 0 ∧ sv env' 6 = .ptr p6 0 0 ∧ sv env' 8 = .fn (.func 19) [] [.ptr p0 0 0, .ptr q5 0 0] ∧ sv env' 10 = .ptr p10 0 0 ∧ sv env' 11 = .ptr h.next 0 0 ∧ sv env' 48 = .fn (.func 19) [] [.ptr p0 0 0, .ptr q5 0 0] := by
    simp [lsteps_29, lsteps_13, lsteps_14, lsteps_15, runS, runR, Rs.seq, Rs.block, runOps, wanted_no, wanted_sv, ev_tm, ev_vl, sv_setD, sv_set, setD_none, qev_mov, qev_bin, qev_un, qev_lenI, qev_pick, qev_load1, qev_idxSl, idx2_sl, idxA2_ptr, opt_some, bin_add, bin_sub, bin_mul, bin_lss, bin_leq, bin_gtr, bin_geq, bin_eql, bin_neq, un_not, un_neg, qev_callv, qev_new1, qev_store1, s3, s4, s5, s6, s8, s10, l10, hlt, st]
  have o1 : Only [] h (putB (newB h (int64 0)) h.next (int64 0)) := Only.weak ob1 (N := h.next.num) (by simp) ob (Nat.le_refl _)
  have n1 : (putB (newB h (int64 0)) h.next (int64 0)).next.num = h.next.num + 1 := nb
  generalize putB (newB h (int64 0)) h.next (int64 0) = h1 at *
  have a1 : Law h.next.num h1 p3 p4 p5 p6 n leave v xs := a.only o1 (by simp)
  have b10' := b10.only o1 (by simp)
  have k10 := b10.old
  obtain ⟨k, h2, o, dd, ho, d11, d10, o2, ⟨s, hs⟩, hnx⟩ := lsteps_over (a1.mono (by omega)) hlen b10' (c0.only o1 (by simp)) (c5.only o1 (by simp)) (cs.more o1.more) (fun id g off n cap ex e => by have := cv id g off n cap ex e; omega) hb1 (by omega) c0.old c5.old cv a1 k10 f3 f4 f5 f10 f11 f48
  have n2 := o2.next
  have a2 : Law h.next.num h2 p3 p4 p5 p6 n leave v xs := a1.only o2 (by simp)
  have m10 := d10.load
  have m11 := d11.load
  have m4 := a2.b4.load
  have m5 := a2.b5.load
  have hl : ∀ env x, ev env x = v → evalOp Try.prog (.lenL x) env h2 = .val (int64 xs.length) h2 := fun env x hx => by simpa using a2.s.sl.len Try.prog env x hx
  -- what the turn came to
  obtain ⟨env3, e3, g3, g4, g5, g6, g8, g10⟩ : ∃ env', runS Try.prog true (.seq (.region lsteps_24) (.cond (tm 102) (.seq (.region lsteps_25) .ret) .skip)) [] env1 h2 = some (.upt [], [], env', h2) ∧
      sv env' 3 = .ptr p3 0 0 ∧ sv env' 4 = .ptr p4 0 0 ∧ sv env' 5 = .ptr p5 0 0 ∧ sv env' 6 = .ptr p6 0 0 ∧ sv env' 8 = .fn (.func 19) [] [.ptr p0 0 0, .ptr q5 0 0] ∧ sv env' 10 = .ptr p10 0 0 := by
    rcases ho with ⟨_, hk⟩ | ⟨_, ht0, hk⟩
    · subst hk
      rcases ht with ht | ht <;> subst ht <;>
        simp [lsteps_24, runS, runR, runOps, wanted_no, wanted_sv, ev_tm, ev_vl, sv_setD, qev_mov, qev_bin, opt_some, bin_eql, bin_neq, qev_pick, qev_load1, hl, f3, f4, f5, f6, f8, f10, f11, m10, m11, m4, m5]
    · subst ht0
      subst hk
      by_cases hkl : (k : Int) = xs.length <;>
        simp [lsteps_24, runS, runR, runOps, wanted_no, wanted_sv, ev_tm, ev_vl, sv_setD, qev_mov, qev_bin, opt_some, bin_eql, bin_neq, qev_pick, qev_load1, hl, f3, f4, f5, f6, f8, f10, f11, m10, m11, m4, m5, hkl]
  -- the next turn's number
  have on : Only [] h2 (newB h2 (int64 0)) := newH_only _ _ _
  have nn : (newB h2 (int64 0)).next.num = h2.next.num + 1 := newH_next _ _
  have bn := newB_box h2 (int64 0)
  have st1 := storeR_box bn (int64 turn) rfl rfl
  have on1 := putB_only (newB h2 (int64 0)) h2.next (int64 turn)
  have bn1 := putB_box bn (int64 turn)
  have st2 := storeR_box bn1 (int64 (turn + 1)) rfl rfl
  have on2 := putB_only (putB (newB h2 (int64 0)) h2.next (int64 turn)) h2.next (int64 (turn + 1))
  have bn2 := putB_box bn1 (int64 (turn + 1))
  have w1 : wrapA .i64 (turn + 1) = turn + 1 := wrap64 (by omega) (by omega)
  have ln1 := bn1.load
  obtain ⟨env4, e4, q3, q4, q5', q6, q8, q10⟩ : ∃ env', runS Try.prog true (.seq (.seq (.region lsteps_26) (.region lsteps_27)) (.region lsteps_28)) [] env3 h2 = some (.upt [], [], env', putB (putB (newB h2 (int64 0)) h2.next (int64 turn)) h2.next (int64 (turn + 1))) ∧
      sv env' 3 = .ptr p3 0 0 ∧ sv env' 4 = .ptr p4 0 0 ∧ sv env' 5 = .ptr p5 0 0 ∧ sv env' 6 = .ptr p6 0 0 ∧ sv env' 8 = .fn (.func 19) [] [.ptr p0 0 0, .ptr q5 0 0] ∧ sv env' 10 = .ptr h2.next 0 0 := by
    simp [lsteps_26, lsteps_27, lsteps_28, runS, runR, runOps, wanted_no, wanted_sv, ev_tm, ev_vl, sv_setD, sv_set, setD_none, qev_mov, qev_bin, qev_un, qev_lenI, qev_pick, qev_load1, qev_idxSl, idx2_sl, idxA2_ptr, opt_some, bin_add, bin_sub, bin_mul, bin_lss, bin_leq, bin_gtr, bin_geq, bin_eql, bin_neq, un_not, un_neg, qev_callv, qev_new1, qev_store1, g3, g4, g5, g6, g8, g10, m10, st1, ln1, w1, st2]
  have oN : Only [h2.next] h2 (putB (putB (newB h2 (int64 0)) h2.next (int64 turn)) h2.next (int64 (turn + 1))) := ((on.mono (by simp)).trans on1).trans on2
  refine ⟨env4, _, h2.next, h1.next, ?_, ?_, bn2, by omega, Nat.lt_of_lt_of_le ?_ oN.next, ⟨s, ?_⟩, q3, q4, q5', q6, q8, q10⟩
  · have tail : DosL Try.prog 4 [.code (.seq (.region lsteps_24) (.cond (tm 102) (.seq (.region lsteps_25) .ret) .skip)), .inBlock 3, .code (.seq (.seq (.region lsteps_26) (.region lsteps_27)) (.region lsteps_28))] env1 h2 .go [] env4 (putB (putB (newB h2 (int64 0)) h2.next (int64 turn)) h2.next (int64 (turn + 1))) :=
      .more (M := []) (M1 := []) (Dos.runGo [] (by simp) e3) (.inBlock (.more (M := []) (M1 := []) (Dos.runGo [] (by simp) e4) .nil))
    rcases ho with ⟨ho, _⟩ | ⟨ho, _⟩
    · subst ho
      exact Dos.run [] (by simp) e1 (.more (M := []) dd (.inBlock tail))
    · subst ho
      exact Dos.run [] (by simp) e1 (.leave (M := []) dd rfl tail)
  · refine ((o1.mono (S' := [h.next, h2.next]) (by simp)).trans ((o2.mono fun id hid => .inl (by simp at hid; simp [hid])).trans (oN.mono fun id hid => .inl (by simp at hid; simp [hid])))).mono fun id hid => .inr ?_
    simp only [List.mem_cons, List.not_mem_nil, or_false] at hid
    rcases hid with q | q <;> subst q <;> omega
  · omega
  · rw [oN.same _ (by omega) (by simp only [List.mem_singleton]; exact ne_of_num (by omega))]
    exact hs
end Go.Proofs.Ytpcddenijmhbfaa.Tog
