import Derived.Test.YtpcddenijmhbfaaTogF
/- THE WALK'S PARTS, part G: what the functions of the law compute, over the abstract machine that stands beside this text. No condition. -/
set_option linter.unusedSimpArgs false
set_option linter.unusedVariables false
namespace Go.Proofs.Ytpcddenijmhbfaa.Tog
open Go Go.Proofs.Ytpcddenijmhbfaa.Am Go.Proofs

/-! ### The law of CounterTogether -/

theorem wrap_wrap (x : Int) : wrapA .i64 (wrapA .i64 x) = wrapA .i64 x := wrap_mod (mod_wrap x)

theorem sumS_mod : ∀ (xs : List Int) (acc : Int), sumS acc xs % 18446744073709551616 = (acc + xs.sum) % 18446744073709551616
  | [], acc => by simp [sumS]
  | x :: xs, acc => by
    have ih := sumS_mod xs (wrapA .i64 (acc + x))
    have w := mod_wrap (acc + x)
    show sumS (wrapA .i64 (acc + x)) xs % _ = _
    rw [ih, List.sum_cons]
    omega

theorem sumS_wrap : ∀ (xs : List Int) (acc : Int), wrapA .i64 acc = acc → wrapA .i64 (sumS acc xs) = sumS acc xs
  | [], acc, h => h
  | x :: xs, acc, h => sumS_wrap xs (wrapA .i64 (acc + x)) (wrap_wrap _)

/-- A number that is split, put together. -/
theorem parts_count (left : Int) : ∀ k : Nat, ((List.range k).map fun i : Nat => if (i : Int) < left then (1 : Int) else if (i : Int) < -left then -1 else 0).sum = if 0 ≤ left then min (k : Int) left else - min (k : Int) (-left)
  | 0 => by
    simp
    omega
  | k + 1 => by
    rw [List.range_succ, List.map_append, List.sum_append, parts_count left k]
    simp
    split <;> split <;> omega

theorem parts_mod (n : Int) (p : Nat) (hp : 1 ≤ p) (hp2 : p ≤ 64) : (partsS n p).sum % 18446744073709551616 = n % 18446744073709551616 := by
  have b1 : n.tmod p < p := Int.tmod_lt_of_pos _ (by omega)
  have b2 : -p < n.tmod p := by
    have := Int.lt_tmod_of_pos n (show (0 : Int) < p by omega)
    omega
  have e := Int.mul_tdiv_add_tmod n p
  have w : wrapA .i64 (0 - n.tmod p) = - n.tmod p := by rw [wrap64 (by omega) (by omega)]; omega
  have key : ∀ k : Nat, ((List.range k).map fun i : Nat => partS n p i).sum % 18446744073709551616 =
      (k * n.tdiv p + ((List.range k).map fun i : Nat => if (i : Int) < n.tmod p then (1 : Int) else if (i : Int) < -n.tmod p then -1 else 0).sum) % 18446744073709551616 := by
    intro k
    induction k with
    | zero => simp
    | succ k ih =>
      rw [List.range_succ, List.map_append, List.map_append, List.sum_append, List.sum_append]
      simp only [List.map_cons, List.map_nil, List.sum_cons, List.sum_nil]
      have q : partS n p k % 18446744073709551616 = (n.tdiv p + (if (k : Int) < n.tmod p then (1 : Int) else if (k : Int) < -n.tmod p then -1 else 0)) % 18446744073709551616 := by
        unfold partS
        rw [w]
        have w1 := mod_wrap (n.tdiv p)
        have w2 := mod_wrap (wrapA .i64 (n.tdiv p) + 1)
        have w3 := mod_wrap (wrapA .i64 (n.tdiv p) - 1)
        split
        · omega
        · split <;> omega
      have e1 : ((k + 1 : Nat) : Int) * n.tdiv p = k * n.tdiv p + n.tdiv p := by rw [show ((k + 1 : Nat) : Int) = (k : Int) + 1 by omega, Int.add_mul, Int.one_mul]
      omega
  unfold partsS
  rw [key p, parts_count]
  congr 1
  split <;> omega

theorem split_sum (n : Int) (p : Nat) (hp : 1 ≤ p) (hp2 : p ≤ 64) (hn : wrapA .i64 n = n) : sumS 0 (partsS n p) = n := by
  have q := sumS_mod (partsS n p) 0
  have r := parts_mod n p hp hp2
  have t : wrapA .i64 (sumS 0 (partsS n p)) = wrapA .i64 n := wrap_mod (by omega)
  rw [sumS_wrap _ 0 (wrap64 (by omega) (by omega)), hn] at t
  exact t

/-- What the law asks, one by one. -/
theorem tog_three (base A B x y a b : Int) (hx : x % 18446744073709551616 = (base + A) % 18446744073709551616) (hy : y % 18446744073709551616 = (base + B) % 18446744073709551616)
    (ha : a % 18446744073709551616 = A % 18446744073709551616) (hb : b % 18446744073709551616 = B % 18446744073709551616) :
    wrapA .i64 (x + wrapA .i64 (y - base)) = wrapA .i64 (base + wrapA .i64 (a + b)) := by
  have w1 := mod_wrap (y - base)
  have w2 := mod_wrap (a + b)
  exact wrap_mod (by omega)

theorem tog_same (base y : Int) (hy : wrapA .i64 y = y) : wrapA .i64 (base + wrapA .i64 (y - base)) = y := by
  have w1 := mod_wrap (y - base)
  have t : wrapA .i64 (base + wrapA .i64 (y - base)) = wrapA .i64 y := wrap_mod (by omega)
  rw [hy] at t
  exact t

theorem tog_same' (base x : Int) (hx : wrapA .i64 x = x) : wrapA .i64 (x + wrapA .i64 (base - base)) = x := by
  rw [show base - base = 0 by omega, show wrapA .i64 0 = 0 from wrap64 (by omega) (by omega), Int.add_zero, hx]

theorem tog_many (base x y z : Int) (h : wrapA .i64 (x + wrapA .i64 (y - base)) = z) (hx : wrapA .i64 x = x) : manyS base base [x, y] = z := by
  show wrapA .i64 (wrapA .i64 (base + wrapA .i64 (x - base)) + wrapA .i64 (y - base)) = z
  rw [tog_same base x hx, h]
end Go.Proofs.Ytpcddenijmhbfaa.Tog

namespace Go.Proofs.Ytpcddenijmhbfaa.Tog
open Go Go.Proofs.Ytpcddenijmhbfaa.Am Go.Proofs

theorem runR_app {P : Program} : ∀ {l r : List O} {A A1 : List KC} {env env1 : T AV} {h h1 : Hp}, runR P A l env h = some (A1, env1, h1) → runR P A (l ++ r) env h = runR P A1 r env1 h1
  | [], r, A, A1, env, env1, h, h1, e => by cases e; rfl
  | o :: l, r, A, A1, env, env1, h, h1, e => by
    unfold runR at e
    show runR P A (o :: (l ++ r)) env h = _
    conv => lhs; unfold runR
    split at e
    · rename_i ho
      rw [if_pos ho]
      split at e
      · rename_i hw
        rw [if_pos hw]
        split at e
        · rename_i he
          exact runR_app e
        · rename_i f args h0 he
          split at e
          · rename_i a A'
            split at e
            · rename_i hc
              rw [if_pos hc]
              exact runR_app e
            · cases e
          · cases e
        · cases e
      · rename_i hw
        rw [if_neg hw]
        exact runR_app e
    · cases e

theorem build2' (P : Program) (h : Hp) (a b : Int) : ∃ h', (∀ env x y, ev env x = int64 a → ev env y = int64 b → evalOp P (.buildSl 2 1 [int64 0] [(0, 1, x), (1, 1, y)]) env h = .val (.sl h.next 0 0 2 2 true 1) h') ∧ SlR h' (.sl h.next 0 0 2 2 true 1) ([a, b].map int64) ∧ Only [] h h' := by
  refine ⟨newH h fun s => .cells s (Cells.ofL [int64 a, int64 b]) 0 0 0 0 false false, fun env x y hx hy => ?_, ?_, newH_only _ _ _⟩
  · have e : evalOp P (.buildSl 2 1 [int64 0] [(0, 1, x), (1, 1, y)]) env h = (match fillA env (replA 2 [int64 0] []) [(0, 1, x), (1, 1, y)] with
      | some l => bif Nat.blt 0 1 then newCells h (Cells.ofL l) fun id h => .val (.sl id 0 0 2 2 true 1) h else .fail "buildSl"
      | none => .fail "buildSl") := rfl
    have f : fillA env (replA 2 [int64 0] []) [(0, 1, x), (1, 1, y)] = some [int64 a, int64 b] := by simp [fillA, replA, hx, hy, AV.cells]; rfl
    rw [e, f]
    show (bif Nat.blt 0 1 then newCells h (Cells.ofL _) fun id h => Res.val (.sl id 0 0 2 2 true 1) h else .fail "buildSl") = _
    rw [show Nat.blt 0 1 = true from rfl, cond_true]
    unfold newCells
    rw [newK_newH]
  · have q := newH_row (h := h) (c := Cells.ofL [int64 a, int64 b]) (Cells.ofL_spec _).1 (ser := fun s => s) (fz := false)
    rw [(Cells.ofL_spec _).2.1] at q
    exact .mk rfl q

theorem whole_fn (h : Hp) (x parts : Int) : AmFn Try.prog 18 [int64 x, int64 parts] h (int64 (if 64 < parts then 0 else x)) h := by
  by_cases c : (64 : Int) < parts
  · obtain ⟨env', e, f⟩ : ∃ env', runS Try.prog true whole_fu.body [] (setArgs .e 0 [int64 x, int64 parts]) h = some (.ret, [], env', h) ∧ sv env' 4 = int64 0 := by
      simp [whole_fu, whole_0, whole_1, whole_2, runS, runR, Rs.seq, sv_args, runOps, wanted_no, wanted_sv, ev_tm, ev_vl, sv_setD, sv_set, setD_none, qev_mov, qev_bin, qev_un, qev_lenI, qev_pick, qev_load1, qev_idxSl, idx2_sl, idxA2_ptr, opt_some, bin_add, bin_sub, bin_mul, bin_lss, bin_leq, bin_gtr, bin_geq, bin_eql, bin_neq, un_not, un_neg, qev_callv, qev_new1, qev_store1, c]
    rw [if_pos c]
    exact AmFn.dos whole_code (by simp) (Dos.runRet [] (by simp) e) (vs := [sv env' 4]) rfl f
  · obtain ⟨env', e, f⟩ : ∃ env', runS Try.prog true whole_fu.body [] (setArgs .e 0 [int64 x, int64 parts]) h = some (.ret, [], env', h) ∧ sv env' 4 = int64 x := by
      simp [whole_fu, whole_0, whole_1, whole_3, runS, runR, Rs.seq, sv_args, runOps, wanted_no, wanted_sv, ev_tm, ev_vl, sv_setD, sv_set, setD_none, qev_mov, qev_bin, qev_un, qev_lenI, qev_pick, qev_load1, qev_idxSl, idx2_sl, idxA2_ptr, opt_some, bin_add, bin_sub, bin_mul, bin_lss, bin_leq, bin_gtr, bin_geq, bin_eql, bin_neq, un_not, un_neg, qev_callv, qev_new1, qev_store1, c]
    rw [if_neg c]
    exact AmFn.dos whole_code (by simp) (Dos.runRet [] (by simp) e) (vs := [sv env' 4]) rfl f

theorem ok12' : okCall Try.prog 12 = true := by kernel_rfl
theorem ok18 : okCall Try.prog 18 = true := by kernel_rfl

/-- What the law keeps. -/
def Kept (env : T AV) (base : Int) (va vb : AV) : Prop := sv env 0 = int64 base ∧ sv env 1 = va ∧ sv env 2 = vb

theorem tog_loopA {xs : List Int} {h : Hp} {va vb : AV} (hs : SlR h va (xs.map int64)) (hlen : xs.length ≤ 500) (base y : Int) : ∀ (m i : Nat) (acc : Int) (env : T AV), i + m = xs.length → Kept env base va vb →
    sv env 7 = int64 acc → sv env 8 = int64 y → sv env 9 = int64 i →
    ∃ env', Loops Try.prog 5 ltog_10 env h (.exit 0) [] env' h ∧ Kept env' base va vb ∧ sv env' 7 = int64 (sumS acc (xs.drop i)) ∧ sv env' 8 = int64 y := by
  intro m
  induction m with
  | zero =>
    intro i acc env hi ⟨s0, s1, s2⟩ s7 s8 s9
    have hl : ∀ env x, ev env x = va → evalOp Try.prog (.lenL x) env h = .val (int64 xs.length) h := fun env x hx => by simpa using hs.len Try.prog env x hx
    have hn : ¬ (i : Int) < xs.length := by omega
    obtain ⟨env1, e1, f0, f1, f2, f7, f8⟩ : ∃ env', runS Try.prog true ltog_10 [] env h = some (.exit 0, [], env', h) ∧ sv env' 0 = int64 base ∧ sv env' 1 = va ∧ sv env' 2 = vb ∧ sv env' 7 = int64 acc ∧ sv env' 8 = int64 y := by
      simp [ltog_10, ltog_7, runS, runR, Rs.seq, runOps, wanted_no, ev_tm, ev_vl, sv_setD, qev_mov, qev_bin, opt_some, bin_lss, hl, s0, s1, s2, s7, s8, s9, hn]
    refine ⟨env1, .out (Dos.runExit [] (by simp) e1) (by simp), ⟨f0, f1, f2⟩, ?_, f8⟩
    rw [f7, List.drop_eq_nil_of_le (by omega)]
    rfl
  | succ m ih =>
    intro i acc env hi ⟨s0, s1, s2⟩ s7 s8 s9
    have hil : i < xs.length := by omega
    obtain ⟨id, g, off, cap, ex, hv, row⟩ := hs.sl_or (x := int64 xs[i]) (by simp)
    have hone := row.one i (by simpa using hil)
    simp [List.getElem?_eq_getElem hil] at hone
    have w1 : wrapA .i64 ((i : Int) + 1) = (i : Int) + 1 := wrap64 (by omega) (by omega)
    have hil' : (i : Int) < xs.length := by omega
    obtain ⟨env1, e1, f0, f1, f2, f7, f8, f9⟩ : ∃ env', runS Try.prog true ltog_10 [⟨12, [int64 acc, int64 xs[i]], h, int64 (wrapA .i64 (acc + xs[i])), h⟩] env h = some (.upt [], [], env', h) ∧ sv env' 0 = int64 base ∧ sv env' 1 = va ∧ sv env' 2 = vb ∧
        sv env' 7 = int64 (wrapA .i64 (acc + xs[i])) ∧ sv env' 8 = int64 y ∧ sv env' 9 = int64 ((i + 1 : Nat) : Int) := by
      simp [ltog_10, ltog_7, ltog_8, ltog_9, runS, runR, Rs.seq, Rs.block, runOps, wanted_no, wanted_sv, ev_tm, ev_vl, sv_setD, sv_set, setD_none, qev_mov, qev_bin, qev_un, qev_lenI, qev_pick, qev_load1, qev_idxSl, idx2_sl, idxA2_ptr, opt_some, bin_add, bin_sub, bin_mul, bin_lss, bin_leq, bin_gtr, bin_geq, bin_eql, bin_neq, un_not, un_neg, qev_callv, qev_new1, qev_store1, s0, s1, s2, s7, s8, s9, hv, hil, hone, w1, callA_ok ok12']
    obtain ⟨env', L, q, q7, q8⟩ := ih (i + 1) _ env1 (by omega) ⟨f0, f1, f2⟩ f7 f8 f9
    refine ⟨env', .more (M := []) (M1 := []) (Dos.runGo _ (by intro x hx; simp at hx; subst hx; exact add_fn h acc xs[i]) e1) L, q, ?_, q8⟩
    rw [q7, List.drop_eq_getElem_cons hil]
    rfl

theorem tog_loopB {xs : List Int} {h : Hp} {va vb : AV} (hs : SlR h vb (xs.map int64)) (hlen : xs.length ≤ 500) (base y : Int) : ∀ (m i : Nat) (acc : Int) (env : T AV), i + m = xs.length → Kept env base va vb →
    sv env 8 = int64 acc → sv env 7 = int64 y → sv env 10 = int64 i →
    ∃ env', Loops Try.prog 5 ltog_15 env h (.exit 2) [] env' h ∧ Kept env' base va vb ∧ sv env' 8 = int64 (sumS acc (xs.drop i)) ∧ sv env' 7 = int64 y := by
  intro m
  induction m with
  | zero =>
    intro i acc env hi ⟨s0, s1, s2⟩ s7 s8 s9
    have hl : ∀ env x, ev env x = vb → evalOp Try.prog (.lenL x) env h = .val (int64 xs.length) h := fun env x hx => by simpa using hs.len Try.prog env x hx
    have hn : ¬ (i : Int) < xs.length := by omega
    obtain ⟨env1, e1, f0, f1, f2, f7, f8⟩ : ∃ env', runS Try.prog true ltog_15 [] env h = some (.exit 2, [], env', h) ∧ sv env' 0 = int64 base ∧ sv env' 1 = va ∧ sv env' 2 = vb ∧ sv env' 8 = int64 acc ∧ sv env' 7 = int64 y := by
      simp [ltog_15, ltog_12, runS, runR, Rs.seq, runOps, wanted_no, ev_tm, ev_vl, sv_setD, qev_mov, qev_bin, opt_some, bin_lss, hl, s0, s1, s2, s7, s8, s9, hn]
    refine ⟨env1, .out (Dos.runExit [] (by simp) e1) (by simp), ⟨f0, f1, f2⟩, ?_, f8⟩
    rw [f7, List.drop_eq_nil_of_le (by omega)]
    rfl
  | succ m ih =>
    intro i acc env hi ⟨s0, s1, s2⟩ s7 s8 s9
    have hil : i < xs.length := by omega
    obtain ⟨id, g, off, cap, ex, hv, row⟩ := hs.sl_or (x := int64 xs[i]) (by simp)
    have hone := row.one i (by simpa using hil)
    simp [List.getElem?_eq_getElem hil] at hone
    have w1 : wrapA .i64 ((i : Int) + 1) = (i : Int) + 1 := wrap64 (by omega) (by omega)
    obtain ⟨env1, e1, f0, f1, f2, f7, f8, f9⟩ : ∃ env', runS Try.prog true ltog_15 [⟨12, [int64 acc, int64 xs[i]], h, int64 (wrapA .i64 (acc + xs[i])), h⟩] env h = some (.upt [], [], env', h) ∧ sv env' 0 = int64 base ∧ sv env' 1 = va ∧ sv env' 2 = vb ∧
        sv env' 8 = int64 (wrapA .i64 (acc + xs[i])) ∧ sv env' 7 = int64 y ∧ sv env' 10 = int64 ((i + 1 : Nat) : Int) := by
      simp [ltog_15, ltog_12, ltog_13, ltog_14, runS, runR, Rs.seq, Rs.block, runOps, wanted_no, wanted_sv, ev_tm, ev_vl, sv_setD, sv_set, setD_none, qev_mov, qev_bin, qev_un, qev_lenI, qev_pick, qev_load1, qev_idxSl, idx2_sl, idxA2_ptr, opt_some, bin_add, bin_sub, bin_mul, bin_lss, bin_leq, bin_gtr, bin_geq, bin_eql, bin_neq, un_not, un_neg, qev_callv, qev_new1, qev_store1, s0, s1, s2, s7, s8, s9, hv, hil, hone, w1, callA_ok ok12']
    obtain ⟨env', L, q, q7, q8⟩ := ih (i + 1) _ env1 (by omega) ⟨f0, f1, f2⟩ f7 f8 f9
    refine ⟨env', .more (M := []) (M1 := []) (Dos.runGo _ (by intro x hx; simp at hx; subst hx; exact add_fn h acc xs[i]) e1) L, q, ?_, q8⟩
    rw [q7, List.drop_eq_getElem_cons hil]
    rfl
end Go.Proofs.Ytpcddenijmhbfaa.Tog

namespace Go.Proofs.Ytpcddenijmhbfaa.Tog
open Go Go.Proofs.Ytpcddenijmhbfaa.Am Go.Proofs

/-- CounterTogether, from any heap in which va and vb read as xs and ys. -/
theorem ltog_fn {xs ys : List Int} {va vb : AV} {h : Hp} (ha : ArgS h va (xs.map int64)) (hb : ArgS h vb (ys.map int64)) (base : Int) (hbase : wrapA .i64 base = base) : ∃ h', AmFn Try.prog 5 [int64 base, va, vb] h (.bool true) h' ∧ Only [] h h' := by
  obtain ⟨h1, k6, o1⟩ := known_fn h
  have ha1 := ha.more o1
  have hb1 := hb.more o1
  have la : ∀ env x, ev env x = va → evalOp Try.prog (.lenL x) env h1 = .val (int64 xs.length) h1 := fun env x hx => by simpa using ha1.sl.len Try.prog env x hx
  have lb : ∀ env x, ev env x = vb → evalOp Try.prog (.lenL x) env h1 = .val (int64 ys.length) h1 := fun env x hx => by simpa using hb1.sl.len Try.prog env x hx
  by_cases hbig : (500 : Int) < xs.length ∨ (500 : Int) < ys.length
  · obtain ⟨env1, e1, f6⟩ : ∃ env', runS Try.prog true ltog_fu.body [⟨6, [], h, .bool true, h1⟩] (setArgs .e 0 [int64 base, va, vb]) h = some (.ret, [], env', h1) ∧ sv env' 6 = .bool true := by
      by_cases c : (500 : Int) < xs.length
      · simp [ltog_fu, ltog_0, ltog_1, ltog_3, ltog_4, runS, runR, Rs.seq, Rs.block, sv_args, runOps, wanted_no, wanted_sv, ev_tm, ev_vl, sv_setD, qev_mov, qev_bin, qev_un, un_not, opt_some, bin_gtr, qev_pick, qev_callv, la, lb, callA_ok ok6, c]
      · have c' : (500 : Int) < ys.length := hbig.resolve_left c
        simp [ltog_fu, ltog_0, ltog_1, ltog_3, ltog_4, runS, runR, Rs.seq, Rs.block, sv_args, runOps, wanted_no, wanted_sv, ev_tm, ev_vl, sv_setD, qev_mov, qev_bin, qev_un, un_not, opt_some, bin_gtr, qev_pick, qev_callv, la, lb, callA_ok ok6, c, c']
    exact ⟨h1, AmFn.dos ltog_code (by simp) (Dos.runRet _ (by intro x hx; simp at hx; subst hx; exact k6) e1) (vs := [sv env1 6]) rfl f6, o1⟩
  · have ca : ¬ (500 : Int) < xs.length := fun c => hbig (.inl c)
    have cb : ¬ (500 : Int) < ys.length := fun c => hbig (.inr c)
    have hla : xs.length ≤ 500 := by omega
    have hlb : ys.length ≤ 500 := by omega
    obtain ⟨env1, e1, f0, f1, f2, f7, f8, f9⟩ : ∃ env', runS Try.prog true ltog_fu.body [⟨6, [], h, .bool true, h1⟩] (setArgs .e 0 [int64 base, va, vb]) h =
        some (.upt [.code (.loop ltog_10), .inBlock 0, .code (.seq (.seq (.region ltog_11) (.block 2 (.loop ltog_15))) (.seq (.region ltog_16) (.seq (.region ltog_17) .ret)))], [], env', h1) ∧
        sv env' 0 = int64 base ∧ sv env' 1 = va ∧ sv env' 2 = vb ∧ sv env' 7 = int64 base ∧ sv env' 8 = int64 base ∧ sv env' 9 = int64 ((0 : Nat) : Int) := by
      simp [ltog_fu, ltog_0, ltog_1, ltog_3, ltog_5, ltog_6, runS, runR, Rs.seq, Rs.block, sv_args, runOps, wanted_no, wanted_sv, ev_tm, ev_vl, sv_setD, qev_mov, qev_bin, qev_un, un_not, opt_some, bin_gtr, qev_pick, qev_callv, la, lb, callA_ok ok6, ca, cb]
    obtain ⟨env2, L2, ⟨g0, g1, g2⟩, g7, g8⟩ := tog_loopA (va := va) (vb := vb) ha1.sl hla base base xs.length 0 base env1 (by omega) ⟨f0, f1, f2⟩ f7 f8 f9
    rw [List.drop_zero] at g7
    obtain ⟨env3, e3, p0, p1, p2, p7, p8, p10⟩ : ∃ env', runS Try.prog true (.seq (.seq (.region ltog_11) (.block 2 (.loop ltog_15))) (.seq (.region ltog_16) (.seq (.region ltog_17) .ret))) [] env2 h1 =
        some (.upt [.code (.loop ltog_15), .inBlock 2, .code (.seq (.region ltog_16) (.seq (.region ltog_17) .ret))], [], env', h1) ∧
        sv env' 0 = int64 base ∧ sv env' 1 = va ∧ sv env' 2 = vb ∧ sv env' 7 = int64 (sumS base xs) ∧ sv env' 8 = int64 base ∧ sv env' 10 = int64 ((0 : Nat) : Int) := by
      simp [ltog_11, runS, runR, Rs.seq, Rs.block, runOps, wanted_no, wanted_sv, ev_tm, ev_vl, sv_setD, sv_set, setD_none, qev_mov, qev_bin, qev_un, qev_lenI, qev_pick, qev_load1, qev_idxSl, idx2_sl, idxA2_ptr, opt_some, bin_add, bin_sub, bin_mul, bin_lss, bin_leq, bin_gtr, bin_geq, bin_eql, bin_neq, un_not, un_neg, qev_callv, qev_new1, qev_store1, g0, g1, g2, g7, g8]
    obtain ⟨env4, L4, ⟨q0, q1, q2⟩, q8, q7⟩ := tog_loopB (va := va) (vb := vb) hb1.sl hlb base (sumS base xs) ys.length 0 base env3 (by omega) ⟨p0, p1, p2⟩ p8 p7 p10
    rw [List.drop_zero] at q8
    -- what all comes to
    obtain ⟨h2, ka, o2⟩ := sum_fn ha1.sl (by omega)
    have hb2 := hb1.more o2
    obtain ⟨h3, kb, o3⟩ := sum_fn hb2.sl (by omega)
    have mx := sumS_mod xs base
    have my := sumS_mod ys base
    have mA := sumS_mod xs 0
    have mB := sumS_mod ys 0
    have wx := sumS_wrap xs base hbase
    have wy := sumS_wrap ys base hbase
    generalize hx : sumS base xs = x at *
    generalize hy : sumS base ys = y at *
    generalize sumS 0 xs = A at *
    generalize sumS 0 ys = B at *
    have t1 : wrapA .i64 (x + wrapA .i64 (y - base)) = wrapA .i64 (base + wrapA .i64 (A + B)) := tog_three base xs.sum ys.sum x y A B mx my (by omega) (by omega)
    have t2 : wrapA .i64 (y + wrapA .i64 (x - base)) = wrapA .i64 (base + wrapA .i64 (A + B)) := by
      rw [tog_three base ys.sum xs.sum y x B A my mx (by omega) (by omega), Int.add_comm B A]
    have t3 := tog_many base x y _ t1 wx
    have t4 := tog_same base y wy
    have t5 := tog_same' base x wx
    obtain ⟨h4, b1, b2, o4⟩ := build2' Try.prog h3 x y
    obtain ⟨v5, h5, k16, s5, o5⟩ := split_fn h4 x ((xs.length : Int) + 1)
    obtain ⟨h6, k7, o6⟩ := sum_fn s5 (by unfold splitL; split <;> simp [partsS]; omega)
    have k18 := whole_fn h6 x ((xs.length : Int) + 1)
    have tw : sumS 0 (splitL x ((xs.length : Int) + 1)) = if (64 : Int) < (xs.length : Int) + 1 then 0 else x := by
      unfold splitL
      by_cases c : (64 : Int) < (xs.length : Int) + 1
      · rw [if_pos (.inr c), if_pos c]; rfl
      · rw [if_neg (by omega), if_neg c]
        exact split_sum x _ (by omega) (by omega) wx
    rw [tw] at k7
    generalize (if (64 : Int) < (xs.length : Int) + 1 then (0 : Int) else x) = w at *
    have k14a := three_fn h3 base x y
    have k14b := three_fn h3 base y x
    have k8 := many_fn b2 (by simp) base
    have k14c := three_fn h4 base base y
    have k14d := three_fn h4 base x base
    rw [t1] at k14a
    rw [t2] at k14b
    rw [t3] at k8
    rw [t4] at k14c
    rw [t5] at k14d
    have la4 : ∀ env x, ev env x = va → evalOp Try.prog (.lenL x) env h4 = .val (int64 xs.length) h4 := fun env x hx => by simpa using (((ha1.more o2).more o3).more o4).sl.len Try.prog env x hx
    have la6 : ∀ env x, ev env x = va → evalOp Try.prog (.lenL x) env h6 = .val (int64 xs.length) h6 := fun env x hx => by simpa using (((((ha1.more o2).more o3).more o4).more o5).more o6).sl.len Try.prog env x hx
    have wl : wrapA .i64 ((xs.length : Int) + 1) = (xs.length : Int) + 1 := wrap64 (by omega) (by omega)
    generalize hall : wrapA .i64 (base + wrapA .i64 (A + B)) = all at *
    obtain ⟨env5, e5, u0, u1, u7, u8, u11⟩ : ∃ env', (∀ R, runR Try.prog (⟨7, [va], h1, int64 A, h2⟩ :: ⟨7, [vb], h2, int64 B, h3⟩ :: ⟨12, [int64 A, int64 B], h3, int64 (wrapA .i64 (A + B)), h3⟩ :: ⟨12, [int64 base, int64 (wrapA .i64 (A + B))], h3, int64 all, h3⟩ :: R) ltog_16 env4 h1 = some (R, env', h3)) ∧
        sv env' 0 = int64 base ∧ sv env' 1 = va ∧ sv env' 7 = int64 x ∧ sv env' 8 = int64 y ∧ sv env' 11 = int64 all := by
      simp [ltog_16, runR, runOps, wanted_no, wanted_sv, ev_tm, ev_vl, sv_setD, sv_set, setD_none, qev_mov, qev_bin, qev_un, qev_lenI, qev_pick, qev_load1, qev_idxSl, idx2_sl, idxA2_ptr, opt_some, bin_add, bin_sub, bin_mul, bin_lss, bin_leq, bin_gtr, bin_geq, bin_eql, bin_neq, un_not, un_neg, qev_callv, qev_new1, qev_store1, q0, q1, q2, q7, q8, callA_ok ok7, callA_ok ok12']
    -- the questions
    obtain ⟨env6, e6, x0, x1, x7, x8, x11, x78⟩ : ∃ env', (∀ R, runR Try.prog (⟨14, [int64 base, int64 x, int64 y], h3, int64 all, h3⟩ :: ⟨14, [int64 base, int64 y, int64 x], h3, int64 all, h3⟩ :: ⟨8, [int64 base, .sl h3.next 0 0 2 2 true 1], h4, int64 all, h4⟩ :: R) (ltog_17.take 24) env5 h3 = some (R, env', h4)) ∧
        sv env' 0 = int64 base ∧ sv env' 1 = va ∧ sv env' 7 = int64 x ∧ sv env' 8 = int64 y ∧ sv env' 11 = int64 all ∧ sv env' 78 = .bool true := by
      simp [ltog_17, runR, runOps, wanted_no, wanted_sv, ev_tm, ev_vl, sv_setD, sv_set, setD_none, qev_mov, qev_bin, qev_un, qev_lenI, qev_pick, qev_load1, qev_idxSl, idx2_sl, idxA2_ptr, opt_some, bin_add, bin_sub, bin_mul, bin_lss, bin_leq, bin_gtr, bin_geq, bin_eql, bin_neq, un_not, un_neg, qev_callv, qev_new1, qev_store1, u0, u1, u7, u8, u11, b1, callA_ok ok14, callA_ok ok8]
    obtain ⟨env7, e7, y0, y1, y7, y94⟩ : ∃ env', (∀ R, runR Try.prog (⟨14, [int64 base, int64 base, int64 y], h4, int64 y, h4⟩ :: ⟨14, [int64 base, int64 x, int64 base], h4, int64 x, h4⟩ :: R) ((ltog_17.drop 24).take 16) env6 h4 = some (R, env', h4)) ∧
        sv env' 0 = int64 base ∧ sv env' 1 = va ∧ sv env' 7 = int64 x ∧ sv env' 94 = .bool true := by
      simp [ltog_17, runR, runOps, wanted_no, wanted_sv, ev_tm, ev_vl, sv_setD, sv_set, setD_none, qev_mov, qev_bin, qev_un, qev_lenI, qev_pick, qev_load1, qev_idxSl, idx2_sl, idxA2_ptr, opt_some, bin_add, bin_sub, bin_mul, bin_lss, bin_leq, bin_gtr, bin_geq, bin_eql, bin_neq, un_not, un_neg, qev_callv, qev_new1, qev_store1, x0, x1, x7, x8, x11, x78, callA_ok ok14]
    obtain ⟨env8, e8, z6⟩ : ∃ env', (∀ R, runR Try.prog (⟨16, [int64 x, int64 ((xs.length : Int) + 1)], h4, v5, h5⟩ :: ⟨7, [v5], h5, int64 w, h6⟩ :: ⟨18, [int64 x, int64 ((xs.length : Int) + 1)], h6, int64 w, h6⟩ :: R) (ltog_17.drop 40) env7 h4 = some (R, env', h6)) ∧
        sv env' 6 = .bool true := by
      simp [ltog_17, runR, runOps, wanted_no, wanted_sv, ev_tm, ev_vl, sv_setD, qev_mov, qev_bin, opt_some, bin_add, bin_eql, qev_pick, qev_callv, y0, y1, y7, y94, la4, la6, wl, callA_ok ok16, callA_ok ok7, callA_ok ok18]
    have e17 : ∀ R, runR Try.prog (⟨14, [int64 base, int64 x, int64 y], h3, int64 all, h3⟩ :: ⟨14, [int64 base, int64 y, int64 x], h3, int64 all, h3⟩ :: ⟨8, [int64 base, .sl h3.next 0 0 2 2 true 1], h4, int64 all, h4⟩ ::
        ⟨14, [int64 base, int64 base, int64 y], h4, int64 y, h4⟩ :: ⟨14, [int64 base, int64 x, int64 base], h4, int64 x, h4⟩ ::
        ⟨16, [int64 x, int64 ((xs.length : Int) + 1)], h4, v5, h5⟩ :: ⟨7, [v5], h5, int64 w, h6⟩ :: ⟨18, [int64 x, int64 ((xs.length : Int) + 1)], h6, int64 w, h6⟩ :: R) ltog_17 env5 h3 = some (R, env8, h6) := fun R => by
      have e : ltog_17 = ltog_17.take 24 ++ ((ltog_17.drop 24).take 16 ++ ltog_17.drop 40) := rfl
      rw [e, runR_app (e6 _), runR_app (e7 _)]
      exact e8 R
    have efin := fun R => (show runS Try.prog true (.seq (.region ltog_16) (.seq (.region ltog_17) .ret)) (⟨7, [va], h1, int64 A, h2⟩ :: ⟨7, [vb], h2, int64 B, h3⟩ :: ⟨12, [int64 A, int64 B], h3, int64 (wrapA .i64 (A + B)), h3⟩ :: ⟨12, [int64 base, int64 (wrapA .i64 (A + B))], h3, int64 all, h3⟩ ::
        ⟨14, [int64 base, int64 x, int64 y], h3, int64 all, h3⟩ :: ⟨14, [int64 base, int64 y, int64 x], h3, int64 all, h3⟩ :: ⟨8, [int64 base, .sl h3.next 0 0 2 2 true 1], h4, int64 all, h4⟩ ::
        ⟨14, [int64 base, int64 base, int64 y], h4, int64 y, h4⟩ :: ⟨14, [int64 base, int64 x, int64 base], h4, int64 x, h4⟩ ::
        ⟨16, [int64 x, int64 ((xs.length : Int) + 1)], h4, v5, h5⟩ :: ⟨7, [v5], h5, int64 w, h6⟩ :: ⟨18, [int64 x, int64 ((xs.length : Int) + 1)], h6, int64 w, h6⟩ :: R) env4 h1 = some (.ret, R, env8, h6) by
      simp [runS, e5, e17])
    have k12a := add_fn h3 A B
    have k12b := add_fn h3 base (wrapA .i64 (A + B))
    rw [hall] at k12b
    refine ⟨h6, AmFn.dos (vs := [sv env8 6]) ltog_code (by simp) (Dos.run (M := []) _ (by intro x hx; simp at hx; subst hx; exact k6) e1 (.leave (M := []) (M1 := []) (i := 0) (Dos.loop L2) rfl
      (DosL.dos (Dos.run (M := []) [] (by simp) e3 (.leave (M := []) (M1 := []) (i := 2) (Dos.loop L4) rfl (.ret (Dos.runRet _ ?_ (efin [])))))))) rfl z6, ((((o1.trans o2).trans o3).trans o4).trans o5).trans o6⟩
    intro k hk
    simp only [List.mem_cons, List.not_mem_nil, or_false] at hk
    rcases hk with e | e | e | e | e | e | e | e | e | e | e | e <;> subst e
    · exact ka
    · exact kb
    · exact k12a
    · exact k12b
    · exact k14a
    · exact k14b
    · exact k8
    · exact k14c
    · exact k14d
    · exact k16
    · exact k7
    · exact k18
end Go.Proofs.Ytpcddenijmhbfaa.Tog
