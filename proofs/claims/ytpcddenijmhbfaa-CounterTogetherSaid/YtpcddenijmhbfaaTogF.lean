import Derived.Test.YtpcddenijmhbfaaRows
import Derived.WalkKit
import Derived.ProofKit
import Derived.OpenShut
import Derived.Test.YtpcddenijmhbfaaTogE
/- THE WALK'S PARTS, part F: what the functions of the law compute, over the abstract machine that stands beside this text. No condition. -/
set_option linter.unusedSimpArgs false
set_option linter.unusedVariables false
namespace Go.Proofs.Ytpcddenijmhbfaa.Tog
open Go Go.Proofs.Ytpcddenijmhbfaa.Am Go.Proofs

theorem ok15' : okCall Try.prog 15 = true := by kernel_rfl
theorem ok17 : okCall Try.prog 17 = true := by kernel_rfl

/-- The law's own list: told apart from what was handed in. -/
def OwnA (N : Nat) (h : Hp) (w : AV) (xs : List Int) : Prop :=
  (xs = [] ∧ w = .nilSl) ∨ ∃ id, N ≤ id.num ∧ w = .sl id 0 0 xs.length xs.length false 1 ∧ Arr h id (xs.map int64)

theorem OwnA.sl {N : Nat} {h : Hp} {w : AV} {xs : List Int} (o : OwnA N h w xs) : SlR h w (xs.map int64) := by
  rcases o with ⟨q1, q2⟩ | ⟨id, _, q2, q3⟩
  · subst q1 q2; exact .nil
  · subst q2; exact .mk (by simp) q3.row

theorem OwnA.only {N : Nat} {h h' : Hp} {w : AV} {xs : List Int} (o : OwnA N h w xs) (m : Only [] h h') : OwnA N h' w xs :=
  o.imp id fun ⟨id, q0, q2, q3⟩ => ⟨id, q0, q2, q3.only m (by simp)⟩

theorem append_own {xs : List Int} {v : AV} {h : Hp} (hs : SlR h v (xs.map int64)) (hlen : xs.length ≤ 1000) :
    ∃ w h', (∀ env x, ev env x = v → evalOp Try.prog (.append 1 8 (vl .nilSl) x) env h = .val w h') ∧ OwnA h.next.num h' w xs ∧ Only [] h h' := by
  by_cases hx : xs = []
  · subst hx
    refine ⟨.nilSl, h, fun env x hv => ?_, .inl ⟨rfl, rfl⟩, .refl _ _⟩
    show appendA h 1 8 .nilSl (ev env x) = _
    rw [hv]
    generalize hL : ([] : List Int).map int64 = L at hs
    cases hs with
    | nil => rfl
    | mk hn r => subst hL; simp at hn; subst hn; rfl
  · have hx' : xs.map int64 ≠ [] := by simpa using hx
    obtain ⟨h1, e1, a1, o1, n1⟩ := append_new' Try.prog (env := .e) (h := h) (s := vl .nilSl) (x := vl v) (bytes := 8) rfl hs hx' (by simp; omega) (by omega) (.inl rfl)
    simp at e1
    exact ⟨_, h1, fun env x hv => (append_env Try.prog (env := env) (env' := .e) (s := vl .nilSl) (s' := vl .nilSl) (x := x) (x' := vl v) rfl hv).trans e1, .inr ⟨h.next, Nat.le_refl _, rfl, a1⟩, o1⟩

theorem bin_fnNil (no : Bool) (f : Fn) (a b : List AV) : binA .eql .fn no (.fn f a b) .nilFn = some (.bool false) := rfl

/-- The question ahead of the turns. -/
theorem lsteps_first {N : Nat} {h : Hp} {p3 p4 p5 p6 : Pos} {n leave : Int} {v : AV} {xs : List Int} (a : Law N h p3 p4 p5 p6 n leave v xs) {env : T AV} {f : Fn} {fa fb : List AV} {w : AV}
    (s3 : sv env 3 = .ptr p3 0 0) (s4 : sv env 4 = .ptr p4 0 0) (s5 : sv env 5 = .ptr p5 0 0) (s6 : sv env 6 = .ptr p6 0 0) (s7 : sv env 7 = w) (s8 : sv env 8 = .fn f fa fb) :
    ∃ rec env' h', Sound Try.prog rec ∧ runDrawn Try.prog rec lsteps_5 env h = some (env', h') ∧ Only [] h h' ∧ sv env' 34 = .bool false ∧ sv env' 3 = .ptr p3 0 0 ∧ sv env' 4 = .ptr p4 0 0 ∧ sv env' 5 = .ptr p5 0 0 ∧ sv env' 6 = .ptr p6 0 0 ∧ sv env' 7 = w ∧ sv env' 8 = .fn f fa fb := by
  obtain ⟨v1, h1, k1, t1, o1⟩ := split_fn h n leave
  obtain ⟨v2, h2, k2, t2, o2⟩ := rsplit_fn h1 n leave
  have k3 := same_fn (t1.more o2.more) t2 (by unfold splitL; split <;> simp [partsS]; omega)
  rw [decide_eq_true (rfl : splitL n leave = splitL n leave)] at k3
  obtain ⟨b1, n1⟩ := k1.begins
  obtain ⟨b2, n2⟩ := k2.begins
  obtain ⟨b3, n3⟩ := k3.begins
  have hsound := recF_sound (P := Try.prog) (fr := fun k => frOf Try.prog k.f k.args) (A := [⟨16, [int64 n, int64 leave], h, v1, h1⟩, ⟨17, [int64 n, int64 leave], h1, v2, h2⟩, ⟨9, [v1, v2], h2, .bool true, h2⟩]) (by
      intro k hk
      simp only [List.mem_cons, List.not_mem_nil, or_false] at hk
      rcases hk with e | e | e <;> subst e
      · exact ⟨k1, b1⟩
      · exact ⟨k2, b2⟩
      · exact ⟨k3, b3⟩)
  have R1 : recF [⟨16, [int64 n, int64 leave], h, v1, h1⟩, ⟨17, [int64 n, int64 leave], h1, v2, h2⟩, ⟨9, [v1, v2], h2, .bool true, h2⟩] (fun k => frOf Try.prog k.f k.args) ⟨frOf Try.prog 16 [int64 n, int64 leave], [], h⟩ = .done v1 h1 := by
    simp [recF, n1]
  have R2 : recF [⟨16, [int64 n, int64 leave], h, v1, h1⟩, ⟨17, [int64 n, int64 leave], h1, v2, h2⟩, ⟨9, [v1, v2], h2, .bool true, h2⟩] (fun k => frOf Try.prog k.f k.args) ⟨frOf Try.prog 17 [int64 n, int64 leave], [], h1⟩ = .done v2 h2 := by
    simp [recF, n2]
  have R3 : recF [⟨16, [int64 n, int64 leave], h, v1, h1⟩, ⟨17, [int64 n, int64 leave], h1, v2, h2⟩, ⟨9, [v1, v2], h2, .bool true, h2⟩] (fun k => frOf Try.prog k.f k.args) ⟨frOf Try.prog 9 [v1, v2], [], h2⟩ = .done (.bool true) h2 := by
    simp [recF, n3]
  generalize (recF [⟨16, [int64 n, int64 leave], h, v1, h1⟩, ⟨17, [int64 n, int64 leave], h1, v2, h2⟩, ⟨9, [v1, v2], h2, .bool true, h2⟩] fun k => frOf Try.prog k.f k.args) = R at *
  have r3 := a.b3.load
  have r5 := a.b5.load
  have a1 := a.only o1 (by simp)
  have r3' := a1.b3.load
  have r5' := a1.b5.load
  have a2 := a1.only o2 (by simp)
  have r3'' := a2.b3.load
  have r5'' := a2.b5.load
  obtain ⟨env', acts, lds, e, f34, f3, f4, f5, f6, f7, f8⟩ : ∃ env' acts lds, runD Try.prog R 0 lsteps_5 ⟨[], [], [], h.next, env, h⟩ = some ⟨acts, lds, [], h.next, env', h2⟩ ∧ sv env' 34 = .bool false ∧ sv env' 3 = .ptr p3 0 0 ∧ sv env' 4 = .ptr p4 0 0 ∧ sv env' 5 = .ptr p5 0 0 ∧ sv env' 6 = .ptr p6 0 0 ∧ sv env' 7 = w ∧ sv env' 8 = .fn f fa fb := by
    simp [lsteps_5, runD, stepD, actO, kindOf, lookBack, lookAgain, putT, remAl, bit, eqAV_int8, runOps, wanted_no, wanted_sv, ev_tm, ev_vl, sv_setD, qev_mov, qev_bin, qev_un, un_not, opt_some, bin_fnNil, qev_pick, qev_load1, qev_callv, callA_ok ok16, callA_ok ok17, callA_ok ok9, b1, b2, b3, R1, R2, R3, r3, r5, r3', r5', r3'', r5'', s3, s4, s5, s6, s7, s8, insT]
  exact ⟨R, env', h2, hsound, runDrawn_of (acts := acts) (lds := lds) (by simp [lsteps_5, skipIds, isAlloc, kindOf]) e, o1.trans o2, f34, f3, f4, f5, f6, f7, f8⟩

/-- What the law keeps in its variables. -/
def Slots (env : T AV) (p3 p4 p5 p6 : Pos) (f : AV) : Prop := sv env 3 = .ptr p3 0 0 ∧ sv env 4 = .ptr p4 0 0 ∧ sv env 5 = .ptr p5 0 0 ∧ sv env 6 = .ptr p6 0 0 ∧ sv env 8 = f

/-- The law's own list is spoilt. -/
theorem lsteps_wipe {len : Nat} (hlen : len ≤ 1000) {id p3 p4 p5 p6 : Pos} {f : AV} : ∀ (m i : Nat) (env : T AV) (h : Hp) (l : List AV), i + m = len → l.length = len → Arr h id l → sv env 7 = .sl id 0 0 len len false 1 → sv env 9 = int64 i → Slots env p3 p4 p5 p6 f →
    ∃ env' h', Loops Try.prog 4 lsteps_11 env h (.exit 0) [] env' h' ∧ Slots env' p3 p4 p5 p6 f ∧ Only [id] h h' := by
  intro m
  induction m with
  | zero =>
    intro i env h l hi hl ha s7 s9 ⟨s3, s4, s5, s6, s8⟩
    have hnl : ¬ (i : Int) < len := by omega
    obtain ⟨env1, e1, f3, f4, f5, f6, f8⟩ : ∃ env', runS Try.prog true lsteps_11 [] env h = some (.exit 0, [], env', h) ∧ sv env' 3 = .ptr p3 0 0 ∧ sv env' 4 = .ptr p4 0 0 ∧ sv env' 5 = .ptr p5 0 0 ∧ sv env' 6 = .ptr p6 0 0 ∧ sv env' 8 = f := by
      simp [lsteps_11, lsteps_8, runS, runR, Rs.seq, runOps, wanted_no, wanted_sv, ev_tm, ev_vl, sv_setD, sv_set, setD_none, qev_mov, qev_bin, qev_un, qev_lenI, qev_pick, qev_load1, qev_idxSl, idx2_sl, idxA2_ptr, opt_some, bin_add, bin_sub, bin_mul, bin_lss, bin_leq, bin_gtr, bin_geq, bin_eql, bin_neq, un_not, un_neg, qev_callv, qev_new1, qev_store1, s3, s4, s5, s6, s7, s8, s9, hnl]
    exact ⟨env1, h, .out (Dos.runExit [] (by simp) e1) (by simp), ⟨f3, f4, f5, f6, f8⟩, .refl _ _⟩
  | succ m ih =>
    intro i env h l hi hl ha s7 s9 ⟨s3, s4, s5, s6, s8⟩
    have hil : (i : Int) < len := by omega
    have st := storeR_arr ha (i := i) (by omega) (int64 99) rfl rfl
    have w1 : wrapA .i64 ((i : Int) + 1) = (i : Int) + 1 := wrap64 (by omega) (by omega)
    obtain ⟨env1, e1, f3, f4, f5, f6, f8, f7, f9⟩ : ∃ env', runS Try.prog true lsteps_11 [] env h = some (.upt [], [], env', putA h id i (int64 99)) ∧ sv env' 3 = .ptr p3 0 0 ∧ sv env' 4 = .ptr p4 0 0 ∧ sv env' 5 = .ptr p5 0 0 ∧ sv env' 6 = .ptr p6 0 0 ∧ sv env' 8 = f ∧ sv env' 7 = .sl id 0 0 len len false 1 ∧ sv env' 9 = int64 ((i + 1 : Nat) : Int) := by
      simp [lsteps_11, lsteps_8, lsteps_9, lsteps_10, runS, runR, Rs.seq, Rs.block, runOps, wanted_no, wanted_sv, ev_tm, ev_vl, sv_setD, sv_set, setD_none, qev_mov, qev_bin, qev_un, qev_lenI, qev_pick, qev_load1, qev_idxSl, idx2_sl, idxA2_ptr, opt_some, bin_add, bin_sub, bin_mul, bin_lss, bin_leq, bin_gtr, bin_geq, bin_eql, bin_neq, un_not, un_neg, qev_callv, qev_new1, qev_store1, s3, s4, s5, s6, s7, s8, s9, hil, st, w1]
    obtain ⟨env', h', L, q, o⟩ := ih (i + 1) env1 (putA h id i (int64 99)) (l.set i (int64 99)) (by omega) (by simpa using hl) (putA_arr ha (by omega) (int64 99)) f7 f9 ⟨f3, f4, f5, f6, f8⟩
    exact ⟨env', h', .more (M := []) (M1 := []) (Dos.runGo [] (by simp) e1) L, q, (putA_only h id i (int64 99)).trans o⟩

theorem lsteps_wiped {N : Nat} {xs : List Int} (hlen : xs.length ≤ 1000) {h : Hp} {w : AV} (o : OwnA N h w xs) {env : T AV} {p3 p4 p5 p6 : Pos} {f : AV} (s7 : sv env 7 = w) (s9 : sv env 9 = int64 0) (hs : Slots env p3 p4 p5 p6 f) :
    ∃ env' h' S, Loops Try.prog 4 lsteps_11 env h (.exit 0) [] env' h' ∧ Slots env' p3 p4 p5 p6 f ∧ Only S h h' ∧ ∀ id ∈ S, N ≤ id.num ∧ ∃ g off n cap ex, w = .sl id g off n cap ex 1 := by
  rcases o with ⟨q1, q2⟩ | ⟨id, q0, q2, q3⟩
  · obtain ⟨s3, s4, s5, s6, s8⟩ := hs
    subst q2
    obtain ⟨env1, e1, f3, f4, f5, f6, f8⟩ : ∃ env', runS Try.prog true lsteps_11 [] env h = some (.exit 0, [], env', h) ∧ sv env' 3 = .ptr p3 0 0 ∧ sv env' 4 = .ptr p4 0 0 ∧ sv env' 5 = .ptr p5 0 0 ∧ sv env' 6 = .ptr p6 0 0 ∧ sv env' 8 = f := by
      simp [lsteps_11, lsteps_8, runS, runR, Rs.seq, runOps, wanted_no, wanted_sv, ev_tm, ev_vl, sv_setD, sv_set, setD_none, qev_mov, qev_bin, qev_un, qev_lenI, qev_pick, qev_load1, qev_idxSl, idx2_sl, idxA2_ptr, opt_some, bin_add, bin_sub, bin_mul, bin_lss, bin_leq, bin_gtr, bin_geq, bin_eql, bin_neq, un_not, un_neg, qev_callv, qev_new1, qev_store1, s3, s4, s5, s6, s7, s8, s9]
    exact ⟨env1, h, [], .out (Dos.runExit [] (by simp) e1) (by simp), ⟨f3, f4, f5, f6, f8⟩, .refl _ _, by simp⟩
  · obtain ⟨env', h', L, q, o⟩ := lsteps_wipe hlen xs.length 0 env h _ (by omega) (by simp) q3 (s7.trans q2) s9 hs
    refine ⟨env', h', [id], L, q, o, fun id' hid => ?_⟩
    simp at hid
    subst hid
    exact ⟨q0, _, _, _, _, _, q2⟩
end Go.Proofs.Ytpcddenijmhbfaa.Tog

namespace Go.Proofs.Ytpcddenijmhbfaa.Tog
open Go Go.Proofs.Ytpcddenijmhbfaa.Am Go.Proofs

/-- CounterSteps, from any heap in which v reads as xs. -/
theorem lsteps_fn {xs : List Int} {v : AV} {h : Hp} (hs : ArgS h v (xs.map int64)) (n leave : Int) : ∃ h', AmFn Try.prog 4 [int64 n, v, int64 leave] h (.bool true) h' ∧ Only [] h h' := by
  have hvc := hs.sl.atom.2
  have hbx : ∀ env x h, ev env x = v → evalOp Try.prog (.box x) env h = .val (.ptr h.next 0 0) (newB h v) := fun env x h e => by
    rw [qev_box Try.prog env h x (by rw [e]; exact hvc), e]
  -- the four variables in memory
  obtain ⟨p3, p4, p5, p6, h0, law, o0, g6, henv⟩ : ∃ p3 p4 p5 p6 h0, Law h0.next.num h0 p3 p4 p5 p6 n leave v xs ∧ Only [] h h0 ∧ h.next.num ≤ p6.num ∧
      ∀ A, ∃ env, runR Try.prog A lsteps_0 (setArgs .e 0 [int64 n, v, int64 leave]) h = some (A, env, h0) ∧ sv env 3 = .ptr p3 0 0 ∧ sv env 4 = .ptr p4 0 0 ∧ sv env 5 = .ptr p5 0 0 ∧ sv env 6 = .ptr p6 0 0 := by
    have oa : Only [] h (newB h (int64 n)) := newH_only _ _ _
    have ba := newB_box h (int64 n)
    have na : (newB h (int64 n)).next.num = h.next.num + 1 := newH_next _ _
    have ob : Only [] (newB h (int64 n)) (newB (newB h (int64 n)) v) := newH_only _ _ _
    have bb := newB_box (newB h (int64 n)) v
    have nb : (newB (newB h (int64 n)) v).next.num = (newB h (int64 n)).next.num + 1 := newH_next _ _
    have oc : Only [] (newB (newB h (int64 n)) v) (newB (newB (newB h (int64 n)) v) (int64 leave)) := newH_only _ _ _
    have bc := newB_box (newB (newB h (int64 n)) v) (int64 leave)
    have nc : (newB (newB (newB h (int64 n)) v) (int64 leave)).next.num = (newB (newB h (int64 n)) v).next.num + 1 := newH_next _ _
    have od : Only [] (newB (newB (newB h (int64 n)) v) (int64 leave)) (newB (newB (newB (newB h (int64 n)) v) (int64 leave)) (.bool false)) := newH_only _ _ _
    have bd := newB_box (newB (newB (newB h (int64 n)) v) (int64 leave)) (.bool false)
    have nd : (newB (newB (newB (newB h (int64 n)) v) (int64 leave)) (.bool false)).next.num = (newB (newB (newB h (int64 n)) v) (int64 leave)).next.num + 1 := newH_next _ _
    refine ⟨h.next, (newB h (int64 n)).next, (newB (newB h (int64 n)) v).next, (newB (newB (newB h (int64 n)) v) (int64 leave)).next, newB (newB (newB (newB h (int64 n)) v) (int64 leave)) (.bool false), ⟨?_, ?_, ?_, bd, ?_, by omega, by omega, by omega, by omega, ?_⟩, ((oa.trans ob).trans oc).trans od, by omega, fun A => ?_⟩
    · exact ((ba.only ob (by simp)).only oc (by simp)).only od (by simp)
    · exact (bb.only oc (by simp)).only od (by simp)
    · exact bc.only od (by simp)
    · exact hs.more (((oa.trans ob).trans oc).trans od)
    · exact (hs.more (((oa.trans ob).trans oc).trans od)).old
    · simp [lsteps_0, runR, sv_args, wanted_no, ev_tm, sv_setD, qev_box, qev_new1, AV.cells, hbx]
  have hl : ∀ env x, ev env x = v → evalOp Try.prog (.lenL x) env h0 = .val (int64 xs.length) h0 := fun env x hx => by simpa using law.s.sl.len Try.prog env x hx
  have r4 := law.b4.load
  have r3 := law.b3.load
  have b6 := law.b6
  by_cases hbig : (1000 : Int) < xs.length
  · obtain ⟨h1, k6, o1⟩ := known_fn h0
    obtain ⟨env0, e0, f3, f4, f5, f6⟩ := henv [⟨6, [], h0, .bool true, h1⟩]
    have b6' := b6.only o1 (by simp)
    have st := storeR_box b6' (.bool true) rfl rfl
    obtain ⟨env1, e1, q6⟩ : ∃ env', runS Try.prog true lsteps_fu.body [⟨6, [], h0, .bool true, h1⟩] (setArgs .e 0 [int64 n, v, int64 leave]) h = some (.ret, [], env', putB h1 p6 (.bool true)) ∧ sv env' 6 = .ptr p6 0 0 := by
      simp [lsteps_fu, runS, e0]
      simp [lsteps_1, lsteps_2, runS, runR, Rs.seq, runOps, wanted_no, wanted_sv, ev_tm, ev_vl, sv_setD, sv_set, setD_none, qev_mov, qev_bin, qev_un, qev_lenI, qev_pick, qev_load1, qev_idxSl, idx2_sl, idxA2_ptr, opt_some, bin_add, bin_sub, bin_mul, bin_lss, bin_leq, bin_gtr, bin_geq, bin_eql, bin_neq, un_not, un_neg, qev_callv, qev_new1, qev_store1, hl, f3, f4, f5, f6, r4, hbig, callA_ok ok6, st]
    have b7 := putB_box b6' (.bool true)
    refine ⟨_, AmFn.dos (vs := [.bool true]) lsteps_code (by simp [lsteps_fu]) (Dos.runRet _ (by intro x hx; simp at hx; subst hx; exact k6) e1) ?_ rfl, ?_⟩
    · show mapO (result1 env1 _) [.cell1 (Pos.ofNat 6)] = _
      have : result1 env1 (putB h1 p6 (.bool true)) (.cell1 (Pos.ofNat 6)) = some (.bool true) := by
        show (match ev env1 (.tmp (Pos.ofNat 6)) with | .ptr id g off => read1 _ id g off | _ => none) = _
        rw [ev_tm, q6]
        exact b7.load
      simp [mapO, this]
    · exact Only.weak (putB_only h1 p6 _) (N := h.next.num) (by simpa using g6) (o0.trans o1) (Nat.le_refl _)
  · have hlen : xs.length ≤ 1000 := by omega
    obtain ⟨w, h1, ap, ow, o1⟩ := append_own law.s.sl hlen
    obtain ⟨p0, q5, v2, h2, k15, c0, c5, cs, o2, m0, m5, mv⟩ := steps_fn ow.sl (by omega) n
    have own2 := ow.only o2
    have old1 : ∀ id g off m cap ex, w = .sl id g off m cap ex 1 → id.num < h1.next.num := fun id g off m cap ex e => by
      rcases ow with ⟨_, q⟩ | ⟨id', _, q, ar⟩
      · rw [q] at e; cases e
      · rw [q] at e; cases e; exact ar.old
    have law2 : Law h0.next.num h2 p3 p4 p5 p6 n leave v xs := (law.only o1 (by simp)).only o2 (by simp)
    obtain ⟨env0, e0, f3, f4, f5, f6⟩ := henv [⟨15, [int64 n, w], h1, .fn (.func 19) [] [.ptr p0 0 0, .ptr q5 0 0], h2⟩]
    have r3' := (law.only o1 (by simp)).b3.load
    obtain ⟨env1, e1, g3, g4, g5, g6', g7, g8⟩ : ∃ env', runS Try.prog false lsteps_fu.body [⟨15, [int64 n, w], h1, .fn (.func 19) [] [.ptr p0 0 0, .ptr q5 0 0], h2⟩] (setArgs .e 0 [int64 n, v, int64 leave]) h =
        some (.upt [.code (.drawn lsteps_5), .code (.cond (tm 34) (.seq (.region lsteps_6) .ret) .skip), .code (.seq (.seq (.region lsteps_7) (.block 0 (.loop lsteps_11))) (.seq (.seq (.region lsteps_12) (.block 2 (.loop lsteps_29))) (.seq (.region lsteps_30) .ret)))], [], env', h2) ∧
        sv env' 3 = .ptr p3 0 0 ∧ sv env' 4 = .ptr p4 0 0 ∧ sv env' 5 = .ptr p5 0 0 ∧ sv env' 6 = .ptr p6 0 0 ∧ sv env' 7 = w ∧ sv env' 8 = .fn (.func 19) [] [.ptr p0 0 0, .ptr q5 0 0] := by
      simp [lsteps_fu, runS, e0]
      simp [lsteps_1, lsteps_3, lsteps_4, runS, runR, Rs.seq, Rs.block, runOps, wanted_no, wanted_sv, ev_tm, ev_vl, sv_setD, sv_set, setD_none, qev_mov, qev_bin, qev_un, qev_lenI, qev_pick, qev_load1, qev_idxSl, idx2_sl, idxA2_ptr, opt_some, bin_add, bin_sub, bin_mul, bin_lss, bin_leq, bin_gtr, bin_geq, bin_eql, bin_neq, un_not, un_neg, qev_callv, qev_new1, qev_store1, hl, f3, f4, f5, f6, r4, r3', hbig, ap, callA_ok ok15]
    obtain ⟨rec, env2, h3, hrec, e2, o3, q34, q3, q4, q5', q6, q7, q8⟩ := lsteps_first law2 g3 g4 g5 g6' g7 g8
    have e3 : runS Try.prog true (.cond (tm 34) (.seq (.region lsteps_6) .ret) .skip) [] env2 h3 = some (.upt [], [], env2, h3) := by
      simp [runS, ev_tm, q34]
    obtain ⟨env4, e4, r7, r9, t3, t4, t5, t6, t8⟩ : ∃ env', runS Try.prog true (.seq (.seq (.region lsteps_7) (.block 0 (.loop lsteps_11))) (.seq (.seq (.region lsteps_12) (.block 2 (.loop lsteps_29))) (.seq (.region lsteps_30) .ret))) [] env2 h3 =
        some (.upt [.code (.loop lsteps_11), .inBlock 0, .code (.seq (.seq (.region lsteps_12) (.block 2 (.loop lsteps_29))) (.seq (.region lsteps_30) .ret))], [], env', h3) ∧ sv env' 7 = w ∧ sv env' 9 = int64 0 ∧
        sv env' 3 = .ptr p3 0 0 ∧ sv env' 4 = .ptr p4 0 0 ∧ sv env' 5 = .ptr p5 0 0 ∧ sv env' 6 = .ptr p6 0 0 ∧ sv env' 8 = .fn (.func 19) [] [.ptr p0 0 0, .ptr q5 0 0] := by
      simp [lsteps_7, runS, runR, Rs.seq, Rs.block, runOps, wanted_no, wanted_sv, ev_tm, ev_vl, sv_setD, sv_set, setD_none, qev_mov, qev_bin, qev_un, qev_lenI, qev_pick, qev_load1, qev_idxSl, idx2_sl, idxA2_ptr, opt_some, bin_add, bin_sub, bin_mul, bin_lss, bin_leq, bin_gtr, bin_geq, bin_eql, bin_neq, un_not, un_neg, qev_callv, qev_new1, qev_store1, q3, q4, q5', q6, q7, q8]
    obtain ⟨env5, h5, S, L5, ⟨u3, u4, u5, u6, u8⟩, o5, hS⟩ := lsteps_wiped hlen (own2.only o3) r7 r9 ⟨t3, t4, t5, t6, t8⟩
    have law5 : Law h0.next.num h5 p3 p4 p5 p6 n leave v xs := (law2.only o3 (by simp)).only o5 fun id hid => (hS id hid).1
    have hS1 : ∀ id ∈ S, id.num < h1.next.num := fun id hid => by
      obtain ⟨_, g, off, m, cap, ex, e⟩ := hS id hid
      exact old1 _ _ _ _ _ _ e
    have c0' := (c0.only o3 (by simp)).only o5 fun c => by have := hS1 _ c; omega
    have c5' := (c5.only o3 (by simp)).only o5 fun c => by have := hS1 _ c; omega
    have cs' := (cs.more o3.more).only o5 fun id g off m cap ex e c => by have := hS1 _ c; have := mv _ _ _ _ _ _ e; omega
    have n1 := o1.next
    have n2 := o2.next
    have n3 := o3.next
    have n5 := o5.next
    have n0 := o0.next
    -- the turns
    have ob : Only [] h5 (newB h5 (int64 0)) := newH_only _ _ _
    have nb : (newB h5 (int64 0)).next.num = h5.next.num + 1 := newH_next _ _
    have bb := newB_box h5 (int64 0)
    have st0 := storeR_box bb (int64 0) rfl rfl
    have ob1 := putB_only (newB h5 (int64 0)) h5.next (int64 0)
    have bb1 := putB_box bb (int64 0)
    obtain ⟨env6, e6, w3, w4, w5, w6, w8, w10⟩ : ∃ env', runS Try.prog true (.seq (.seq (.region lsteps_12) (.block 2 (.loop lsteps_29))) (.seq (.region lsteps_30) .ret)) [] env5 h5 =
        some (.upt [.code (.loop lsteps_29), .inBlock 2, .code (.seq (.region lsteps_30) .ret)], [], env', putB (newB h5 (int64 0)) h5.next (int64 0)) ∧
        sv env' 3 = .ptr p3 0 0 ∧ sv env' 4 = .ptr p4 0 0 ∧ sv env' 5 = .ptr p5 0 0 ∧ sv env' 6 = .ptr p6 0 0 ∧ sv env' 8 = .fn (.func 19) [] [.ptr p0 0 0, .ptr q5 0 0] ∧ sv env' 10 = .ptr h5.next 0 0 := by
      simp [lsteps_12, runS, runR, Rs.seq, Rs.block, runOps, wanted_no, wanted_sv, ev_tm, ev_vl, sv_setD, sv_set, setD_none, qev_mov, qev_bin, qev_un, qev_lenI, qev_pick, qev_load1, qev_idxSl, idx2_sl, idxA2_ptr, opt_some, bin_add, bin_sub, bin_mul, bin_lss, bin_leq, bin_gtr, bin_geq, bin_eql, bin_neq, un_not, un_neg, qev_callv, qev_new1, qev_store1, u3, u4, u5, u6, u8, st0]
    have o6 : Only [] h5 (putB (newB h5 (int64 0)) h5.next (int64 0)) := Only.weak ob1 (N := h5.next.num) (by simp) ob (Nat.le_refl _)
    generalize putB (newB h5 (int64 0)) h5.next (int64 0) = h6 at *
    have n6 := o6.next
    have law6 := law5.only o6 (by simp)
    have mv' : ∀ id g off m cap ex, v2 = .sl id g off m cap ex 1 → id.num < h2.next.num := fun id g off m cap ex e => (mv _ _ _ _ _ _ e).2
    obtain ⟨env7, h7, p10, r1, d7, o7, b10, x1, x2, ⟨s1, y1⟩, a3, a4, a5, a6, a8, a10⟩ := lsteps_turn (law6.mono (by omega)) hlen bb1 (.inl rfl) (c0'.only o6 (by simp)) (c5'.only o6 (by simp)) (cs'.more o6.more) (fun id g off m cap ex e => by have := mv' _ _ _ _ _ _ e; omega) w3 w4 w5 w6 w8 w10
    have n7 := o7.next
    have law7 := law6.only o7 (by simp)
    obtain ⟨env8, h8, p10', r2, d8, o8, b10', x3, x4, ⟨s2, y2⟩, z3, z4, z5, z6, z8, z10⟩ := lsteps_turn (law7.mono (by omega)) hlen b10 (.inr rfl) ((c0'.only o6 (by simp)).only o7 (by simp)) ((c5'.only o6 (by simp)).only o7 (by simp)) ((cs'.more o6.more).more o7.more) (fun id g off m cap ex e => by have := mv' _ _ _ _ _ _ e; omega) a3 a4 a5 a6 a8 a10
    have n8 := o8.next
    have law8 := law7.only o8 (by simp)
    have l10 := b10'.load
    obtain ⟨env9, e9, j6⟩ : ∃ env', runS Try.prog true lsteps_29 [] env8 h8 = some (.exit 2, [], env', h8) ∧ sv env' 6 = .ptr p6 0 0 := by
      simp [lsteps_29, lsteps_13, runS, runR, Rs.seq, Rs.block, runOps, wanted_no, wanted_sv, ev_tm, ev_vl, sv_setD, sv_set, setD_none, qev_mov, qev_bin, qev_un, qev_lenI, qev_pick, qev_load1, qev_idxSl, idx2_sl, idxA2_ptr, opt_some, bin_add, bin_sub, bin_mul, bin_lss, bin_leq, bin_gtr, bin_geq, bin_eql, bin_neq, un_not, un_neg, qev_callv, qev_new1, qev_store1, z3, z4, z5, z6, z8, z10, l10]
    -- known, and the end
    obtain ⟨h9, k6, o9⟩ := known_fn h8
    have n9 := o9.next
    have b69 := (law8.only o9 (by simp)).b6
    have st := storeR_box b69 (.bool true) rfl rfl
    obtain ⟨env10, e10, v6⟩ : ∃ env', runS Try.prog true (.seq (.region lsteps_30) .ret) [⟨6, [], h8, .bool true, h9⟩] env9 h8 = some (.ret, [], env', putB h9 p6 (.bool true)) ∧ sv env' 6 = .ptr p6 0 0 := by
      simp [lsteps_30, runS, runR, Rs.seq, Rs.block, runOps, wanted_no, wanted_sv, ev_tm, ev_vl, sv_setD, sv_set, setD_none, qev_mov, qev_bin, qev_un, qev_lenI, qev_pick, qev_load1, qev_idxSl, idx2_sl, idxA2_ptr, opt_some, bin_add, bin_sub, bin_mul, bin_lss, bin_leq, bin_gtr, bin_geq, bin_eql, bin_neq, un_not, un_neg, qev_callv, qev_new1, qev_store1, j6, callA_ok ok6, st]
    have b10x := putB_box b69 (.bool true)
    have oP := putB_only h9 p6 (.bool true)
    have hl6 := law8.l6
    have body : Dos Try.prog 4 lsteps_fu.body (setArgs .e 0 [int64 n, v, int64 leave]) h .ret [.mark r2, .mark r1] env10 (putB h9 p6 (.bool true)) :=
      Dos.run (M := [.mark r2, .mark r1]) _ (by intro x hx; simp at hx; subst hx; exact k15) e1 (.more (M := [.mark r2, .mark r1]) (M1 := []) (Dos.drawn hrec e2) (.more (M := [.mark r2, .mark r1]) (M1 := []) (Dos.runGo [] (by simp) e3) (
        DosL.dos (Dos.run (M := [.mark r2, .mark r1]) [] (by simp) e4 (.leave (M := [.mark r2, .mark r1]) (M1 := []) (i := 0) (Dos.loop L5) rfl (
          DosL.dos (Dos.run (M := [.mark r2, .mark r1]) [] (by simp) e6 (.leave (M := []) (M1 := [.mark r2, .mark r1]) (i := 2) (Dos.loop (Loops.more (M := [.mark r2]) (M1 := [.mark r1]) d7 (Loops.more (M := []) (M1 := [.mark r2]) d8 (.out (Dos.runExit [] (by simp) e9) (by simp))))) rfl
            (.ret (Dos.runRet _ (by intro x hx; simp at hx; subst hx; exact k6) e10)))))))))) 
    have oR := remMs_only [r2, r1] (putB h9 p6 (.bool true))
    have bF := b10x.only oR (by simp only [List.mem_cons, List.not_mem_nil, or_false, not_or]; exact ⟨ne_of_num (by omega), ne_of_num (by omega)⟩)
    refine ⟨_, AmFn.dosM (rs := [r2, r1]) (vs := [.bool true]) lsteps_code (by simp) body (fun r hr => ?_) ?_ ?_ rfl, ?_⟩
    · simp only [List.mem_cons, List.not_mem_nil, or_false] at hr
      rcases hr with q | q
      · subst q
        refine ⟨s2, ?_⟩
        rw [oP.same _ (by omega) (by simp only [List.mem_singleton]; exact ne_of_num (by omega)), o9.same _ (by omega) (by simp)]
        exact y2
      · subst q
        refine ⟨s1, ?_⟩
        rw [oP.same _ (by omega) (by simp only [List.mem_singleton]; exact ne_of_num (by omega)), o9.same _ (by omega) (by simp), o8.same _ (by omega) (by simp)]
        exact y1
    · simp only [List.nodup_cons, List.mem_cons, List.not_mem_nil, or_false, not_false_eq_true, List.nodup_nil, and_true]
      exact ne_of_num (by omega)
    · have : result1 env10 (remMs (putB h9 p6 (.bool true)) [r2, r1]) (.cell1 (Pos.ofNat 6)) = some (.bool true) := by
        show (match ev env10 (.tmp (Pos.ofNat 6)) with | .ptr id g off => read1 _ id g off | _ => none) = _
        rw [ev_tm, v6]
        exact bF.load
      show mapO (result1 env10 _) [.cell1 (Pos.ofNat 6)] = _
      simp [mapO, this]
    · have all : Only (p6 :: r1 :: r2 :: S) h0 (remMs (putB h9 p6 (.bool true)) [r2, r1]) := by
        refine ((((((((o1.trans o2).trans o3).mono (by simp)).trans (o5.mono fun id hid => .inl (by simp [hid]))).trans ((((o6.trans o7).trans o8).trans o9).mono (by simp))).trans (oP.mono fun id hid => .inl (by simp at hid; simp [hid]))).trans (oR.mono fun id hid => .inl ?_)))
        simp only [List.mem_cons, List.not_mem_nil, or_false] at hid
        rcases hid with q | q <;> simp [q]
      refine Only.weak all (N := h.next.num) (fun id hid => ?_) o0 (Nat.le_refl _)
      simp only [List.mem_cons] at hid
      rcases hid with q | q | q | q
      · subst q; exact g6
      · subst q; omega
      · subst q; omega
      · have := (hS id q).1; omega
end Go.Proofs.Ytpcddenijmhbfaa.Tog

namespace Go.Proofs.Ytpcddenijmhbfaa.Tog
open Go Go.Proofs.Ytpcddenijmhbfaa.Am Go.Proofs Go.ChangeShapes Go.WideShapes Go.ChangeAt Go.RowKit

/-- A slice that is there: its block. -/
theorem slice_block {P : Program} {W : World} {r : Reach} {base : Nat} {t e : TypeId} {a : Addr} {len cap : Nat} (ht : P.underlying t = some (.slice e)) (h : Value.okWide P W r base t (.slice (some a) len cap)) :
    a.spot = none ∧ ∃ C el fr, W.heap[a.block]? = some (.cells C el fr) := by
  simp only [Value.okWide, ht, Cell.okWide, Cell.ok] at h
  obtain ⟨_, _, _, hs, row, cells, hsh, _⟩ := h
  refine ⟨hs, ?_⟩
  unfold World.shape? at hsh
  split at hsh
  · rename_i q
    exact ⟨_, _, _, q⟩
  · cases hsh

theorem cells_agg_two {P : Program} {W : World} {r : Reach} {base : Nat} {t e : TypeId} {v : Value} (ht : P.underlying t = some (.array 2 e)) (h : Value.okWide P W r base t v) : ∃ cs, v = .agg cs := by
  simp only [Value.okWide, ht] at h
  obtain ⟨cs, q, _⟩ := h
  exact ⟨cs, q⟩

/-- An array of two ints. -/
theorem open_two {H : Type} {enc : TypeId × Value → H} {P : Program} {w : World} {base b0 : Nat} {sp : Nat → Bool} {held : Bool} {r : Reach} {t e : TypeId} {k : IntKind} {v : Value} {d : DataW H} {p : List MemPlace}
    (ht : P.underlying t = some (.array 2 e)) (he : P.underlying e = some (.int k)) (hc : P.cellsOf e = 1) (hct : P.cellsOf t = 2) (hval : Value.okWide P w r b0 t v) (hd : DataW.Trod enc P w base sp held t v d p) :
    ∃ x y, v = .agg #[.int k x, .int k y] := by
  obtain ⟨cs, rfl⟩ := cells_agg_two ht hval
  obtain ⟨fuel, hf⟩ := hd
  obtain ⟨xs, m, _, _, hl, hn, hx⟩ := DataW.trod_array ht hf
  rw [hct] at hl
  obtain ⟨l⟩ := cs
  have hl : l.length = 2 := by simpa [Value.cells] using hl
  match l, hl with
  | [c0, c1], _ =>
    match xs, hn with
    | [y0, y1], _ =>
      have q0 := hx 0 (by omega)
      have q1 := hx 1 (by omega)
      rw [hc] at q0 q1
      simp [Value.cells] at q0 q1
      obtain ⟨n0, e0, _⟩ := DataW.trod_int he q0
      obtain ⟨n1, e1, _⟩ := DataW.trod_int he q1
      simp at e0 e1
      subst e0; subst e1
      exact ⟨n0, n1, rfl⟩

theorem own : ownKnob Try.prog.godebug = none := by kernel_rfl
theorem laidOut : laidOutB Try.prog = true := by kernel_rfl

theorem rowH_arg {l : List AV} : ArgS (rowH l.length l) (.sl Pos.first 0 0 l.length l.length false 1) l :=
  .inr ⟨Pos.first, 0, l.length, false, l, rfl, Nat.le_refl _, ⟨by show 1 < 2; omega, 0, .lst l.length l, 0, 0, true, false, by rw [rowH_get, if_pos rfl], rfl, rfl⟩, by simp, by simp⟩

/-- CounterSteps over a slice that is there. -/
theorem lsteps_walk {W : World} {a : Addr} {len cap : Nat} {zs : List Int} (hb : ∃ C el fr, W.heap[a.block]? = some (.cells C el fr)) (hs : a.spot = none) (hl : len ≤ cap) (hz : zs.length = cap) (hc : ∀ i, i < cap → W.cell? (a.add i) = some (.int .i64 (zs.getD i 0))) (n leave : Int) :
    Calls Try.prog 4 #[.int .i64 n, .slice (some a) len cap, .int .i64 leave] W fun e w' => e = .returned (.bool true) ∧ Below W.heap.size W w' := by
  obtain ⟨C, el, fr, hb⟩ := hb
  obtain ⟨b, off, spot⟩ := a
  cases hs
  have hC : ∀ i, i < cap → C[off + i]? = some (.int .i64 (zs.getD i 0)) := fun i hi => by
    have := hc i hi
    rw [Go.WideShapes.add_plain] at this
    simpa [World.cell?, hb] using this
  have hcap : 0 < cap → off + cap ≤ C.size := fun h0 => by
    have := hC (cap - 1) (by omega)
    rcases Nat.lt_or_ge (off + (cap - 1)) C.size with q | q
    · omega
    · rw [Array.getElem?_eq_none q] at this; cases this
  have hll : ((zs.take len).map int64).length = len := by simp; omega
  have hR : HR Try.prog (rowPhi b off C.size) (rowH ((zs.take len).map int64).length ((zs.take len).map int64)) W := rowH_rel (ys := (zs.take len).map (Value.int .i64)) hb (by simp) (fun i hi => by
    have hi : i < len := by simp at hi; omega
    rw [hC i (by omega)]
    simp [List.getElem?_take_of_lt hi, List.getD_eq_getElem?_getD, List.getElem?_eq_getElem (show i < zs.length by omega)]) (fun φ => relInts φ _)
  obtain ⟨h', hf, _⟩ := lsteps_fn (rowH_arg (l := (zs.take len).map int64)) n leave
  have hsl := rowH_slice (b := b) (off := off) (cap := cap) (n := C.size) (l := (zs.take len).map int64) (by omega) hcap
  rw [hll] at hsl
  rw [hll] at hf
  have hrel : RelL (rowPhi b off C.size) [int64 n, .sl Pos.first 0 0 len len false 1, int64 leave] [.int .i64 n, .slice (some ⟨b, off, none⟩) len cap, .int .i64 leave] :=
    .cons (.int _ _) (.cons hsl (.cons (.int _ _) .nil))
  rw [hll] at hR
  refine (hf.calls hR rfl (xs := #[.int .i64 n, .slice (some ⟨b, off, none⟩) len cap, .int .i64 leave]) hrel).mono fun e w' ⟨φ', z, q1, q2, q3, q4⟩ => ?_
  cases q2
  exact ⟨q1, q4.below (rowH_ro _ _)⟩
/-- CounterSteps over the slice that is nil. -/
theorem lsteps_walk_nil (W : World) (n leave : Int) :
    Calls Try.prog 4 #[.int .i64 n, .slice none 0 0, .int .i64 leave] W fun e w' => e = .returned (.bool true) ∧ Below W.heap.size W w' := by
  have hR := start_rel (P := Try.prog) (w := W) (Nat.zero_le _)
  obtain ⟨h', hf, _⟩ := lsteps_fn (xs := []) (v := .nilSl) (h := ⟨.e, Pos.ofNat (globN Try.prog), 0, 0⟩) (.inl ⟨rfl, rfl⟩) n leave
  have hrel : RelL (phi0 Try.prog) [int64 n, .nilSl, int64 leave] [.int .i64 n, .slice none 0 0, .int .i64 leave] :=
    .cons (.int _ _) (.cons .nilSl (.cons (.int _ _) .nil))
  refine (hf.calls hR rfl (xs := #[.int .i64 n, .slice none 0 0, .int .i64 leave]) hrel).mono fun e w' ⟨φ', z, q1, q2, q3, q4⟩ => ?_
  cases q2
  refine ⟨q1, q4.below fun id ⟨b, e, _⟩ => ?_⟩
  rw [T.get_e] at e
  cases e

set_option maxRecDepth 100000 in
theorem steps_lifted (os : Os) (started : os.Started) (H : Type) (enc : TypeId × Value → H) :
    ReturnsInHanded {} Try.checked os 4 .any (Ytpcddenijmhbfaa.Rows.counterStepsSpec.pre6 enc Try.prog Try.f4 Ytpcddenijmhbfaa.Rows.counterStepsRow.domain false) (Ytpcddenijmhbfaa.Rows.counterStepsSpec.post enc Try.prog Try.f4 false true false false) := by
  refine returnsInHanded_of_change (C := Try.checked) own started (by kernel_rfl) Try.func4
    (ChangeSpec.witness6 (enc := enc) (C := Try.checked) false ⟨#[], #[.int .i64 0, .slice none 0 0, .int .i64 0], []⟩ 8 (by kernel_rfl) (by kernel_rfl) (by kernel_rfl) (by kernel_rfl)) ?_
  intro W base args ds gs before hval0 hW hcnd _
  have hval : ∀ (j : Nat) t v, Try.f4.params[j]? = some t → args[j]? = some v → Value.okWide Try.prog W .any base t v := hval0
  have hW' := hW
  obtain ⟨p, q, hA0, hV, rfl, hfz, hnd⟩ := hW
  have hA : DataW.TrodAll enc Try.prog W 0 (fun _ => true) true Try.f4.params.toList args.toList ds p := hA0
  rw [Try.params4] at hA hval
  obtain ⟨v0, v1, v2, d0, d1, d2, p0, p1, p2, rfl, rfl, rfl, h0, h1, h2⟩ := trodAll_three hA
  have h0k := h0
  have h1k := h1
  have h2k := h2
  obtain ⟨rfl, rfl⟩ := trodVars_none hV
  clear hA0 hval0
  simp only [List.append_nil] at hW'
  have hlt := hW'.lt
  -- IT IS ENOUGH TO SAY WHAT THE CALL DOES
  suffices hcall : Calls Try.prog 4 #[v0, v1, v2] W fun e w' => e = .returned (.bool true) ∧ Below W.heap.size W w' by
    refine hcall.mono fun e W' ⟨he, hg⟩ => ?_
    subst he
    refine ⟨_, rfl, Am.post_of_below (pa := p0 ++ p1 ++ p2) (pv := []) hW' (fun _ _ _ => trodAll_cons_mk (shut_bool Try.underlying4 _) trodAll_mk0) (fun sp hsp => ?_) (fun _ _ => rfl) (by simp)
      hg (ok_one (by kernel_rfl) rfl (okWide_bool_mk Try.underlying4 _))⟩
    have hs : ∀ x ∈ p0 ++ p1 ++ p2, W.sameAt W' x := fun x hx => hg.same (hlt x hx)
    rw [List.append_assoc]
    exact trodAll_mk3 (WideElems.Trod_stays laidOut (by kernel_rfl) (of_decide_eq_true (by kernel_rfl)) h0k (fun x hx => hs x (by simp [hx])) (fun x hx => hsp x (by simp [hx])))
      (WideElems.Trod_stays laidOut (by kernel_rfl) (of_decide_eq_true (by kernel_rfl)) h1k (fun x hx => hs x (by simp [hx])) (fun x hx => hsp x (by simp [hx])))
      (WideElems.Trod_stays laidOut (by kernel_rfl) (of_decide_eq_true (by kernel_rfl)) h2k (fun x hx => hs x (by simp [hx])) (fun x hx => hsp x (by simp [hx])))
  have hv1 : Value.okWide Try.prog W .any base 23 v1 := hval 1 23 _ rfl rfl
  go_open 0 n
  go_open 2 leave
  go_open 1 xs
  · obtain ⟨hs, hb⟩ := slice_block Try.underlying23 hv1
    exact lsteps_walk hb hs xs_le xs_all (fun i hi => cell_xs i (by omega)) _ _
  · exact lsteps_walk_nil W _ _

theorem steps_over : Ytpcddenijmhbfaa.Rows.counterStepsRow.holds Ytpcddenijmhbfaa.Try.pinned (OpenSpec.ofChange Ytpcddenijmhbfaa.Rows.counterStepsSpec) :=
  OpenClaim.holds_of_wide 4 Try.f4 rfl rfl rfl rfl rfl rfl rfl ⟨rfl, rfl, rfl, rfl, rfl⟩ rfl rfl rfl rfl rfl (by kernel_rfl) Try.func4 (by kernel_rfl)
    (of_decide_eq_true (by kernel_rfl)) (by unfold Func.isWrapper; first | (rw [if_pos (by decide +kernel)]; kernel_rfl) | (rw [if_neg (by decide +kernel)]; exact ⟨rfl, rfl⟩))
    (fun os started H enc _ => steps_lifted os started H enc)

theorem steps_proved : Ytpcddenijmhbfaa.Rows.CounterStepsSaid :=
  steps_over
end Go.Proofs.Ytpcddenijmhbfaa.Tog
