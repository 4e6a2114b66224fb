import Derived.Test.YtmifpiglcphmoaaPlaysA
/- THE WALK'S PARTS, part B: what the functions of the law compute, over the abstract machine that stands beside this text. No condition. -/
set_option linter.unusedSimpArgs false
set_option linter.unusedVariables false
namespace Go.Proofs.Ytmifpiglcphmoaa.Plays
open Go Go.Proofs.Ytmifpiglcphmoaa.Am Go.Proofs

section
variable {N : Nat} {h : Hp} {p : Pos} {v : AV} {w : List (List UInt8)} {sent : Int}

/-- At, where there is one. -/
theorem at_fn (a : NetAt N h p v w sent) {i : Nat} (hi : i < w.length) (hw : w.length < 4611686018427387904) : AmFn Try.prog 21 [.ptr p 0 0, int64 i] h (.tup [strOf w[i], int64 0]) h := by
  have k := there_fn a.st
  have l0 := a.l0
  obtain ⟨id, g, off, cap, ex, hv', row⟩ := a.way.sl.sl_or (x := strOf w[i]) (List.mem_map.2 ⟨w[i], List.getElem_mem hi, rfl⟩)
  have hone := row.one i (by simpa using hi)
  simp [List.getElem?_eq_getElem hi] at hone
  have h0 : ¬ ((i : Int) < 0) := by omega
  have h1 : ¬ ((w.length : Int) ≤ i) := by omega
  rw [hv'] at l0
  obtain ⟨env', e, f4, f5⟩ : ∃ env', runS Try.prog true at__fu.body [⟨51, [.ptr p 0 0], h, .bool true, h⟩] (setArgs .e 0 [.ptr p 0 0, int64 i]) h = some (.ret, [], env', h) ∧ sv env' 4 = strOf w[i] ∧ sv env' 5 = int64 0 := by
    simp [at__fu, at__0, at__1, at__2, at__4, at__6, runS, runR, Rs.seq, Rs.block, sv_args, runOps, wanted_no, wanted_sv, ev_tm, ev_vl, sv_setD, sv_set, setD_none, qev_mov, qev_bin, qev_un, qev_lenI, qev_pick, qev_load1, qev_idxSl, idx2_sl, idxA2_ptr, opt_some, bin_add, bin_sub, bin_mul, bin_lss, bin_leq, bin_gtr, bin_geq, bin_eql, bin_neq, un_not, un_neg, qev_callv, qev_new1, qev_store1, qev_nilC, nilC_ptr, qev_fld, fldA_ptr, qev_extract, nth0, nth1, nth2, qev_eqPtr, sameP_nil, notIf, callA_ok ok51, l0, h0, h1, hi, hone]
  exact AmFn.dos at__code (by simp) (Dos.runRet _ (by intro x hx; simp at hx; subst hx; exact k) e) (vs := [sv env' 4, sv env' 5]) rfl (by rw [f4, f5]; rfl)
end

theorem qev_cap_nil (P : Program) {env : T AV} {h : Hp} {x : Opd} (hx : ev env x = .nilSl) : evalOp P (.cap x) env h = .val (int64 0) h := by
  show (match ev env x with
    | .nilSl => Res.val (.int .i64 (.ofNat 0)) h
    | .sl _ _ _ _ cap true _ => .val (.int .i64 (.ofNat cap)) h
    | _ => .fail "cap") = _
  rw [hx]; rfl

theorem slice_nil (P : Program) {env : T AV} {h : Hp} {x y : Opd} (hx : ev env x = .nilSl) (hy : ev env y = int64 0) : evalOp P (.sliceSl 1 x none (some y) none) env h = .val .nilSl h := by
  have e : evalOp P (.sliceSl 1 x none (some y) none) env h = (match ev env x with
    | .nilSl => (match evO env none 0, evO env (some y) 0, evO env none 0 with
      | some 0, some 0, some 0 => .val .nilSl h
      | _, _, _ => .fail "sliceSl nil")
    | .sl id g off len cap ex es' =>
      (match evO env none 0, evO env (some y) len, evO env none cap with
      | some l, some r, some m =>
        bif Nat.beq 1 es' && Nat.ble l r && Nat.ble r m && Nat.ble m cap then
          natK (Nat.sub r l) fun n => natK (Nat.sub m l) fun c => natK (Nat.add off (Nat.mul l 1)) fun off' =>
            .val (.sl id g (bif Nat.beq l m && (bif ex then true else (none : Option Opd).isSome) then off else off') n c (bif ex then true else (none : Option Opd).isSome) 1) h
        else .fail "sliceSl bounds"
      | _, _, _ => .fail "sliceSl")
    | _ => .fail "sliceSl what") := rfl
  rw [e, hx, show evO env (some y) 0 = some 0 from evO_int (n := 0) (by simpa using hy)]
  rfl

/-- Grow of the nil slice. -/
theorem grow_fn (h : Hp) (n : Nat) (hn : n ≤ 1073741824) : ∃ v' h', AmFn Try.prog 79 [.nilSl, int64 n] h v' h' ∧ Only [] h h' ∧ ((n = 0 ∧ v' = .nilSl ∧ h' = h) ∨ (0 < n ∧ v' = .sl h.next 0 0 0 n false 1 ∧ Arr h' h.next (List.replicate n (AV.str 0 0)) ∧ h'.next.num = h.next.num + 1)) := by
  have hneg : ¬ ((n : Int) < 0) := by omega
  have w0 : wrapA .i64 (0 : Int) = 0 := wrap64 (by omega) (by omega)
  have wn : wrapA .i64 (n : Int) = n := wrap64 (by omega) (by omega)
  by_cases h0 : n = 0
  · subst h0
    obtain ⟨env', e, f⟩ : ∃ env', runS Try.prog true grow_fu.body [] (setArgs .e 0 [.nilSl, int64 ((0 : Nat) : Int)]) h = some (.ret, [], env', h) ∧ sv env' 4 = .nilSl := by
      simp [grow_fu, grow_0, grow_1, grow_3, grow_4, grow_6, runS, runR, Rs.seq, Rs.block, sv_args, runOps, wanted_no, wanted_sv, ev_tm, ev_vl, sv_setD, sv_set, setD_none, qev_mov, qev_bin, qev_un, qev_lenI, qev_pick, qev_load1, qev_idxSl, idx2_sl, idxA2_ptr, opt_some, bin_add, bin_sub, bin_mul, bin_lss, bin_leq, bin_gtr, bin_geq, bin_eql, bin_neq, un_not, un_neg, qev_callv, qev_new1, qev_store1, qev_nilC, nilC_ptr, qev_fld, fldA_ptr, qev_extract, nth0, nth1, nth2, qev_eqPtr, sameP_nil, notIf, qev_cap_nil, w0]
    exact ⟨.nilSl, h, AmFn.dos grow_code (by simp) (Dos.runRet [] (by simp) e) (vs := [sv env' 4]) rfl f, .refl _ _, .inl ⟨rfl, rfl, rfl⟩⟩
  · have hpos : 0 < n := by omega
    have hpos' : (0 : Int) < n := by omega
    have az : ∀ env s x, ev env s = .nilSl → ev env x = int64 (n : Int) → evalOp Try.prog (.appendZ 1 16 [.str 0 0] s x) env h = .val (.sl h.next 0 0 n n false 1) (newH h fun s => .cells s (Cells.ofL (List.replicate n (AV.str 0 0))) 0 0 0 0 false false) :=
      fun env s x hs hx => appendZ_new Try.prog hs hx hpos hn (by omega)
    have sl0 : ∀ (env : T AV) (h : Hp) (id : Pos) (x y : Opd), ev env x = .sl id 0 0 n n false 1 → ev env y = int64 0 → evalOp Try.prog (.sliceSl 1 x none (some y) none) env h = .val (.sl id 0 0 0 n false 1) h := fun env h id x y hx hy => by
      have q := slice_ev Try.prog (lo := none) (hi := some y) (l := 0) (r := 0) (h := h) hx rfl (evO_int (n := 0) (by simpa using hy)) (Nat.le_refl _) (Nat.zero_le _)
      simpa using q
    have sn : ∀ (env : T AV) (h : Hp) (x y : Opd), ev env x = .nilSl → ev env y = int64 0 → evalOp Try.prog (.sliceSl 1 x none (some y) none) env h = .val .nilSl h := fun env h x y hx hy => slice_nil Try.prog hx hy
    obtain ⟨env', e, f⟩ : ∃ env', runS Try.prog true grow_fu.body [] (setArgs .e 0 [.nilSl, int64 (n : Int)]) h = some (.ret, [], env', newH h fun s => .cells s (Cells.ofL (List.replicate n (AV.str 0 0))) 0 0 0 0 false false) ∧ sv env' 4 = .sl h.next 0 0 0 n false 1 := by
      simp [grow_fu, grow_0, grow_1, grow_3, grow_4, grow_5, grow_6, runS, runR, Rs.seq, Rs.block, sv_args, runOps, wanted_no, wanted_sv, ev_tm, ev_vl, sv_setD, sv_set, setD_none, qev_mov, qev_bin, qev_un, qev_lenI, qev_pick, qev_load1, qev_idxSl, idx2_sl, idxA2_ptr, opt_some, bin_add, bin_sub, bin_mul, bin_lss, bin_leq, bin_gtr, bin_geq, bin_eql, bin_neq, un_not, un_neg, qev_callv, qev_new1, qev_store1, qev_nilC, nilC_ptr, qev_fld, fldA_ptr, qev_extract, nth0, nth1, nth2, qev_eqPtr, sameP_nil, notIf, qev_cap_nil, w0, wn, hneg, hpos, az, sl0, sn]
    exact ⟨_, _, AmFn.dos grow_code (by simp) (Dos.runRet [] (by simp) e) (vs := [sv env' 4]) rfl f, newH_only _ _ _, .inr ⟨hpos, rfl, newH_arr _ _, newH_next _ _⟩⟩
end Go.Proofs.Ytmifpiglcphmoaa.Plays

namespace Go.Proofs.Ytmifpiglcphmoaa.Plays
open Go Go.Proofs.Ytmifpiglcphmoaa.Am Go.Proofs

/-- Concat of two. -/
theorem concat_fn {h : Hp} {v0 va vb : AV} {a b : List (List UInt8)} (h0 : SlR h v0 [va, vb]) (ha : SlR h va (a.map strOf)) (hb : SlR h vb (b.map strOf)) (hlen : a.length + b.length ≤ 1000000) :
    ∃ v' h', AmFn Try.prog 52 [v0] h v' h' ∧ Own h.next.num h' v' ((a ++ b).map strOf) ∧ Only [] h h' ∧ (a ++ b = [] → v' = .nilSl) := by
  obtain ⟨id0, g0, off0, cap0, ex0, e0, row0⟩ := h0.sl_or (x := va) (by simp)
  have o00 := row0.one 0 (by simp)
  have o01 := row0.one 1 (by simp)
  simp at o00 o01
  have hlv : ∀ h', More h h' → ∀ env x, ev env x = v0 → evalOp Try.prog (.lenL x) env h' = .val (int64 2) h' := fun h' m env x hx => by simpa using (h0.more m).len Try.prog env x hx
  have la := SlR.lenI ha
  have lb := SlR.lenI hb
  have w2 : ∀ n : Int, 0 ≤ n → n ≤ 1000001 → wrapA .i64 n = n := fun n h1 h2 => wrap64 (by omega) (by omega)
  have e0' : v0 = .sl id0 g0 off0 2 cap0 ex0 1 := e0
  -- the lengths
  obtain ⟨env1, e1, f0, f3, f9, f10, f11⟩ : ∃ env', runS Try.prog true concat_fu.body [] (setArgs .e 0 [v0]) h = some (.upt [.code (.loop concat_9), .inBlock 0, .code (.seq (.region concat_10) (.seq (.seq (.region concat_11) (.block 2 (.loop concat_16))) (.seq (.region concat_17) .ret)))], [], env', h) ∧
      sv env' 0 = v0 ∧ sv env' 3 = int64 0 ∧ sv env' 9 = v0 ∧ sv env' 10 = int64 2 ∧ sv env' 11 = int64 0 := by
    have hl0 := hlv h (.refl _)
    simp [concat_fu, concat_0, concat_1, concat_2, runS, runR, Rs.seq, Rs.block, sv_args, runOps, wanted_no, ev_tm, ev_vl, sv_setD, qev_mov, hl0]
  obtain ⟨env2, e2, k0, k3, k9, k10, k11⟩ : ∃ env', runS Try.prog true concat_9 [] env1 h = some (.upt [], [], env', h) ∧ sv env' 0 = v0 ∧ sv env' 3 = int64 a.length ∧ sv env' 9 = v0 ∧ sv env' 10 = int64 2 ∧ sv env' 11 = int64 1 := by
    have wa := w2 a.length (by omega) (by omega)
    have hneg : ¬ ((a.length : Int) < 0) := by omega
    rw [e0'] at f0 f9 ⊢
    simp [concat_9, concat_3, concat_4, concat_5, concat_6, concat_8, runS, runR, Rs.seq, Rs.block, runOps, wanted_no, ev_tm, ev_vl, sv_setD, qev_mov, qev_bin, bin_lss, bin_add, opt_some, qev_idxSl, idx2_sl, qev_load1, f0, f3, f9, f10, f11, o00, la, wa, hneg, w2]
  obtain ⟨env3, e3, m0, m3, m9, m10, m11⟩ : ∃ env', runS Try.prog true concat_9 [] env2 h = some (.upt [], [], env', h) ∧ sv env' 0 = v0 ∧ sv env' 3 = int64 ((a.length : Int) + b.length) ∧ sv env' 9 = v0 ∧ sv env' 10 = int64 2 ∧ sv env' 11 = int64 2 := by
    have wa := w2 ((a.length : Int) + b.length) (by omega) (by omega)
    have hneg : ¬ ((a.length : Int) + b.length < 0) := by omega
    rw [e0'] at k0 k9 ⊢
    simp [concat_9, concat_3, concat_4, concat_5, concat_6, concat_8, runS, runR, Rs.seq, Rs.block, runOps, wanted_no, ev_tm, ev_vl, sv_setD, qev_mov, qev_bin, bin_lss, bin_add, opt_some, qev_idxSl, idx2_sl, qev_load1, k0, k3, k9, k10, k11, o01, lb, wa, hneg, w2]
  obtain ⟨env4, e4, n0, n3⟩ : ∃ env', runS Try.prog true concat_9 [] env3 h = some (.exit 0, [], env', h) ∧ sv env' 0 = v0 ∧ sv env' 3 = int64 ((a.length : Int) + b.length) := by
    simp [concat_9, concat_3, runS, runR, Rs.seq, Rs.block, runOps, wanted_no, wanted_sv, ev_tm, ev_vl, sv_setD, sv_set, setD_none, qev_mov, qev_bin, qev_un, qev_lenI, qev_pick, qev_load1, qev_idxSl, idx2_sl, idxA2_ptr, opt_some, bin_add, bin_sub, bin_mul, bin_lss, bin_leq, bin_gtr, bin_geq, bin_eql, bin_neq, un_not, un_neg, qev_callv, qev_new1, qev_store1, qev_nilC, nilC_ptr, qev_fld, fldA_ptr, qev_extract, nth0, nth1, nth2, qev_eqPtr, sameP_nil, notIf, m0, m3, m9, m10, m11]
  have L1 : Loops Try.prog 52 concat_9 env1 h (.exit 0) [] env4 h := .more (M := []) (M1 := []) (Dos.runGo [] (by simp) e2) (.more (M := []) (M1 := []) (Dos.runGo [] (by simp) e3) (.out (Dos.runExit [] (by simp) e4) (by simp)))
  -- room, and what is laid in it
  obtain ⟨s0, h1, kg, og, hg⟩ := grow_fn h (a.length + b.length) (by omega)
  have ha1 := ha.more og.more
  have hb1 := hb.more og.more
  obtain ⟨s1, h2, s2, h3, S, ap1, ap2, nz, ow, o2, o3, hS⟩ : ∃ s1 h2 s2 h3 S, (∀ env s x, ev env s = s0 → ev env x = va → evalOp Try.prog (.append 1 16 s x) env h1 = .val s1 h2) ∧ (∀ env s x, ev env s = s1 → ev env x = vb → evalOp Try.prog (.append 1 16 s x) env h2 = .val s2 h3) ∧
      (a ++ b = [] → s2 = .nilSl) ∧ Own h.next.num h3 s2 ((a ++ b).map strOf) ∧ Only S h1 h2 ∧ Only S h2 h3 ∧ ∀ id ∈ S, h.next.num ≤ id.num := by
    rcases hg with ⟨q0, q1, q2⟩ | ⟨q0, q1, q2, q3⟩
    · subst q1 q2
      have ea : a = [] := List.length_eq_zero_iff.1 (by omega)
      have eb : b = [] := List.length_eq_zero_iff.1 (by omega)
      subst ea eb
      have no : ∀ v, SlR h1 v [] → ∀ env s x, ev env s = AV.nilSl → ev env x = v → evalOp Try.prog (.append 1 16 s x) env h1 = .val .nilSl h1 := fun v hv env s x hs hx => by
        show appendA h1 1 16 (ev env s) (ev env x) = _
        rw [hs, hx]
        generalize hq : ([] : List AV) = l0 at hv
        cases hv with
        | nil => rfl
        | emp => rfl
        | mk hn r => subst hq; simp at hn; subst hn; rfl
      exact ⟨.nilSl, h1, .nilSl, h1, [], no va ha1, no vb hb1, fun _ => rfl, .inl ⟨rfl, rfl⟩, .refl _ _, .refl _ _, by simp⟩
    · subst q1
      have hold := q2.old
      have at64 : ∀ l : List (List UInt8), ∀ y ∈ l.map strOf, y.atom = true := fun l y hy => by simp at hy; obtain ⟨_, _, rfl⟩ := hy; rfl
      obtain ⟨h2, c1, c2, c3, c4⟩ := append_room Try.prog (k := 0) (cap := a.length + b.length) (bytes := 16) q2.gro ha1 (by simp) (by simp) (by simp; omega) (by omega) (at64 a)
      have hb2 : SlR h2 vb (b.map strOf) := hb.more (((og.mono (S' := [h.next]) (by simp)).trans c3).mono (S' := []) fun id hid => .inr (by simp at hid; subst hid; exact Nat.le_refl _)).more
      obtain ⟨h3, d1, d2, d3, d4⟩ := append_room Try.prog (k := a.length) (cap := a.length + b.length) (bytes := 16) c2 hb2 (by simp) (by simp) (by simp; omega) (by omega) (at64 b)
      refine ⟨_, h2, _, h3, [h.next], c1, fun env s x hs hx => d1 env s x (by rw [hs]; simp) hx, fun c => (by have cc := List.append_eq_nil_iff.1 c; rw [cc.1, cc.2] at q0; simp at q0), .inr ⟨h.next, 0, Nat.le_refl _, by simp, ?_⟩, c3, d3, by simp⟩
      have : (List.map strOf a ++ List.drop (a.length) (List.replicate (a.length + b.length) (AV.str 0 0))).take a.length ++ List.map strOf b ++ (List.map strOf a ++ List.drop a.length (List.replicate (a.length + b.length) (AV.str 0 0))).drop (a.length + b.length) = (a ++ b).map strOf := by
        rw [List.take_left' (by simp), List.drop_eq_nil_of_le (by simp), List.append_nil, List.map_append]
      simp only [List.take_zero, List.nil_append, List.length_map, Nat.zero_add] at d2
      rw [this] at d2
      exact d2
  have more2 : ∀ h', Only S h1 h' → read1 h' id0 g0 off0 = some va ∧ read1 h' id0 g0 (off0 + 1) = some vb := fun h' o => by
    have ho := row0.old
    have r1 := (row0.more og.more).only o fun c => by have := hS _ c; omega
    have p0 := r1.one 0 (by simp)
    have p1 := r1.one 1 (by simp)
    simp at p0 p1
    exact ⟨p0, p1⟩
  obtain ⟨z0, _⟩ := more2 h1 (.refl _ _)
  obtain ⟨_, z1⟩ := more2 h2 o2
  have hl1 := hlv h1 og.more
  obtain ⟨env5, e5, p6, p25, p26, p27⟩ : ∃ env', runS Try.prog true (.seq (.region concat_10) (.seq (.seq (.region concat_11) (.block 2 (.loop concat_16))) (.seq (.region concat_17) .ret))) [⟨79, [.nilSl, int64 ((a.length : Int) + b.length)], h, s0, h1⟩] env4 h =
      some (.upt [.code (.loop concat_16), .inBlock 2, .code (.seq (.region concat_17) .ret)], [], env', h1) ∧ sv env' 6 = s0 ∧ sv env' 25 = v0 ∧ sv env' 26 = int64 2 ∧ sv env' 27 = int64 0 := by
    simp [concat_10, concat_11, runS, runR, Rs.seq, Rs.block, runOps, wanted_no, ev_tm, ev_vl, sv_setD, qev_mov, qev_callv, callA_ok ok79, n0, n3, hl1]
  obtain ⟨env6, e6, r6, r25, r26, r27⟩ : ∃ env', runS Try.prog true concat_16 [] env5 h1 = some (.upt [], [], env', h2) ∧ sv env' 6 = s1 ∧ sv env' 25 = v0 ∧ sv env' 26 = int64 2 ∧ sv env' 27 = int64 1 := by
    rw [e0'] at p25 ⊢
    simp [concat_16, concat_12, concat_13, concat_14, concat_15, runS, runR, Rs.seq, Rs.block, runOps, wanted_no, wanted_sv, ev_tm, ev_vl, sv_setD, sv_set, setD_none, qev_mov, qev_bin, qev_un, qev_lenI, qev_pick, qev_load1, qev_idxSl, idx2_sl, idxA2_ptr, opt_some, bin_add, bin_sub, bin_mul, bin_lss, bin_leq, bin_gtr, bin_geq, bin_eql, bin_neq, un_not, un_neg, qev_callv, qev_new1, qev_store1, qev_nilC, nilC_ptr, qev_fld, fldA_ptr, qev_extract, nth0, nth1, nth2, qev_eqPtr, sameP_nil, notIf, p6, p25, p26, p27, z0, ap1, w2]
  obtain ⟨env7, e7, t6, t25, t26, t27⟩ : ∃ env', runS Try.prog true concat_16 [] env6 h2 = some (.upt [], [], env', h3) ∧ sv env' 6 = s2 ∧ sv env' 25 = v0 ∧ sv env' 26 = int64 2 ∧ sv env' 27 = int64 2 := by
    rw [e0'] at r25 ⊢
    simp [concat_16, concat_12, concat_13, concat_14, concat_15, runS, runR, Rs.seq, Rs.block, runOps, wanted_no, wanted_sv, ev_tm, ev_vl, sv_setD, sv_set, setD_none, qev_mov, qev_bin, qev_un, qev_lenI, qev_pick, qev_load1, qev_idxSl, idx2_sl, idxA2_ptr, opt_some, bin_add, bin_sub, bin_mul, bin_lss, bin_leq, bin_gtr, bin_geq, bin_eql, bin_neq, un_not, un_neg, qev_callv, qev_new1, qev_store1, qev_nilC, nilC_ptr, qev_fld, fldA_ptr, qev_extract, nth0, nth1, nth2, qev_eqPtr, sameP_nil, notIf, r6, r25, r26, r27, z1, ap2, w2]
  obtain ⟨env8, e8, u6⟩ : ∃ env', runS Try.prog true concat_16 [] env7 h3 = some (.exit 2, [], env', h3) ∧ sv env' 6 = s2 := by
    simp [concat_16, concat_12, runS, runR, Rs.seq, Rs.block, runOps, wanted_no, wanted_sv, ev_tm, ev_vl, sv_setD, sv_set, setD_none, qev_mov, qev_bin, qev_un, qev_lenI, qev_pick, qev_load1, qev_idxSl, idx2_sl, idxA2_ptr, opt_some, bin_add, bin_sub, bin_mul, bin_lss, bin_leq, bin_gtr, bin_geq, bin_eql, bin_neq, un_not, un_neg, qev_callv, qev_new1, qev_store1, qev_nilC, nilC_ptr, qev_fld, fldA_ptr, qev_extract, nth0, nth1, nth2, qev_eqPtr, sameP_nil, notIf, t6, t25, t26, t27]
  obtain ⟨env9, e9, x2⟩ : ∃ env', runS Try.prog true (.seq (.region concat_17) .ret) [] env8 h3 = some (.ret, [], env', h3) ∧ sv env' 2 = s2 := by
    simp [concat_17, runS, runR, Rs.seq, Rs.block, runOps, wanted_no, wanted_sv, ev_tm, ev_vl, sv_setD, sv_set, setD_none, qev_mov, qev_bin, qev_un, qev_lenI, qev_pick, qev_load1, qev_idxSl, idx2_sl, idxA2_ptr, opt_some, bin_add, bin_sub, bin_mul, bin_lss, bin_leq, bin_gtr, bin_geq, bin_eql, bin_neq, un_not, un_neg, qev_callv, qev_new1, qev_store1, qev_nilC, nilC_ptr, qev_fld, fldA_ptr, qev_extract, nth0, nth1, nth2, qev_eqPtr, sameP_nil, notIf, u6]
  have L2 : Loops Try.prog 52 concat_16 env5 h1 (.exit 2) [] env8 h3 := .more (M := []) (M1 := []) (Dos.runGo [] (by simp) e6) (.more (M := []) (M1 := []) (Dos.runGo [] (by simp) e7) (.out (Dos.runExit [] (by simp) e8) (by simp)))
  refine ⟨s2, h3, AmFn.dos concat_code (by simp) (Dos.run (M := []) [] (by simp) e1 (.leave (M := []) (M1 := []) (i := 0) (Dos.loop L1) rfl
    (DosL.dos (Dos.run (M := []) _ (by intro x hx; simp at hx; subst hx; exact kg) e5 (.leave (M := []) (M1 := []) (i := 2) (Dos.loop L2) rfl (.ret (Dos.runRet [] (by simp) e9))))))) (vs := [sv env9 2]) rfl x2, ow, ?_, nz⟩
  exact (og.mono (by simp)).trans ((o2.trans o3)) |>.mono fun id hid => .inr (hS id hid)
end Go.Proofs.Ytmifpiglcphmoaa.Plays

namespace Go.Proofs.Ytmifpiglcphmoaa.Plays
open Go Go.Proofs.Ytmifpiglcphmoaa.Am Go.Proofs

section
variable {N : Nat} {h : Hp} {p : Pos} {v : AV} {w : List (List UInt8)} {sent : Int}

theorem take_drawn (a : NetAt N h p v w sent) {i : Nat} (hi : i < w.length) (hw : w.length ≤ 1000000) {env : T AV} (s0 : sv env 0 = .ptr p 0 0) (s1 : sv env 1 = int64 i) :
    ∃ rec env' h' v', Sound Try.prog rec ∧ runDrawn Try.prog rec take_3 env h = some (env', h') ∧ sv env' 6 = sv env 6 ∧ sv env' 7 = sv env 7 ∧ NetAt N h' p v' (w.take i ++ w.drop (i + 1)) sent ∧ Only [p] h h' ∧ (∀ id g off n cap ex, v' = .sl id g off n cap ex 1 → h.next.num ≤ id.num) := by
  have l0 := a.l0
  obtain ⟨id, g, q0, hv', gro⟩ : ∃ id g, N ≤ id.num ∧ v = .sl id g 0 w.length w.length false 1 ∧ Gro h id g (w.map strOf) := by
    rcases a.way with ⟨q, _⟩ | ⟨id, g, q0, q1, q2⟩
    · simp at q; subst q; simp at hi
    · exact ⟨id, g, q0, by simpa using q1, q2⟩
  have ra := gro.part (off := 0) (n := i) (by simp; omega)
  have rb := gro.part (off := i + 1) (n := w.length - (i + 1)) (by simp; omega)
  have sa : SlR h (.sl id g 0 i w.length false 1) ((w.take i).map strOf) := .mk (by simp; omega) (by
    have e : ((w.map strOf).drop 0).take i = (w.take i).map strOf := by simp
    rw [e] at ra; exact ra)
  have sb : SlR h (.sl id g (i + 1) (w.length - (i + 1)) (w.length - (i + 1)) false 1) ((w.drop (i + 1)).map strOf) := .mk (by simp) (by
    have e : ((w.map strOf).drop (i + 1)).take (w.length - (i + 1)) = (w.drop (i + 1)).map strOf := by
      rw [List.take_of_length_le (by simp), List.map_drop]
    rw [e] at rb; exact rb)
  have w1 : wrapA .i64 ((i : Int) + 1) = (i : Int) + 1 := wrap64 (by omega) (by omega)
  have hvs : ∀ id' g' off n cap ex, v = .sl id' g' off n cap ex 1 → id' = id := fun id' g' off n cap ex e => by rw [hv'] at e; cases e; rfl
  have sh : ∀ env h x y, ev env x = v → ev env y = int64 i → evalOp Try.prog (.sliceSl 1 x none (some y) none) env h = .val (.sl id g 0 i w.length false 1) h := fun env h x y hx hy => by
    have q := slice_ev Try.prog (lo := none) (hi := some y) (l := 0) (r := i) (h := h) (hx.trans hv') rfl (evO_int hy) (Nat.zero_le _) (by omega)
    simpa using q
  have sl : ∀ env h x y, ev env x = v → ev env y = int64 ((i : Int) + 1) → evalOp Try.prog (.sliceSl 1 x (some y) none none) env h = .val (.sl id g (i + 1) (w.length - (i + 1)) (w.length - (i + 1)) false 1) h := fun env h x y hx hy => by
    have q := slice_ev Try.prog (lo := some y) (hi := none) (l := i + 1) (r := w.length) (h := h) (hx.trans hv') (evO_int (by simpa using hy)) rfl (by omega) (Nat.le_refl _)
    simpa using q
  have cxa : (AV.sl id g 0 i w.length false 1).cells = [AV.sl id g 0 i w.length false 1] := rfl
  have cxb : (AV.sl id g (i + 1) (w.length - (i + 1)) (w.length - (i + 1)) false 1).cells = [AV.sl id g (i + 1) (w.length - (i + 1)) (w.length - (i + 1)) false 1] := rfl
  clear ra rb gro hv'
  generalize AV.sl id g 0 i w.length false 1 = xa at *
  generalize AV.sl id g (i + 1) (w.length - (i + 1)) (w.length - (i + 1)) false 1 = xb at *
  have bld : ∀ env ser lim x y, ev env x = xa → ev env y = xb → evalOp Try.prog (.buildSl 2 1 [.nilSl] [(0, 1, x), (1, 1, y)]) env ⟨.e, h.next, ser, lim⟩ = .val (.sl h.next 0 0 2 2 true 1) ⟨T.set h.next (some (.cells ser (Cells.ofL [xa, xb]) 0 0 0 0 false false)) .e, h.next.succ, Nat.succ ser, lim⟩ :=
    fun env ser lim x y hx hy => build2_resv Try.prog hx hy cxa cxb
  have oA := resvH_only h (.cells h.ser (Cells.ofL [xa, xb]) 0 0 0 0 false false)
  have nA := resvH_next h (.cells h.ser (Cells.ofL [xa, xb]) 0 0 0 0 false false)
  have rA := resvH_row h h.ser [xa, xb]
  have eA : (⟨T.set h.next (some (.cells h.ser (Cells.ofL [xa, xb]) 0 0 0 0 false false)) h.heap, h.next.succ, h.ser, h.lim⟩ : Hp) = resvH h (.cells h.ser (Cells.ofL [xa, xb]) 0 0 0 0 false false) := rfl
  generalize resvH h (.cells h.ser (Cells.ofL [xa, xb]) 0 0 0 0 false false) = hA at *
  obtain ⟨v', hB, kc, ow, oB, nz⟩ := concat_fn (h := hA) (v0 := .sl h.next 0 0 2 2 true 1) rA (sa.more oA.more) (sb.more oA.more) (by simp; omega)
  obtain ⟨b1, n1⟩ := kc.begins
  have hsound := recF_sound (P := Try.prog) (fr := fun k => frOf Try.prog k.f k.args) (A := [⟨52, [.sl h.next 0 0 2 2 true 1], hA, v', hB⟩]) (by
      intro k hk
      simp only [List.mem_cons, List.not_mem_nil, or_false] at hk
      subst hk
      exact ⟨kc, b1⟩)
  have R1 : recF [⟨52, [.sl h.next 0 0 2 2 true 1], hA, v', hB⟩] (fun k => frOf Try.prog k.f k.args) ⟨frOf Try.prog 52 [.sl h.next 0 0 2 2 true 1], [], hA⟩ = .done v' hB := by
    simp [recF, n1]
  generalize (recF [⟨52, [.sl h.next 0 0 2 2 true 1], hA, v', hB⟩] fun k => frOf Try.prog k.f k.args) = R at *
  have hpB := (a.st.only oA (by simp)).only oB (by simp)
  have at1 := ow.sl.atom
  have st1 := storeR_arr hpB (i := 0) (by simp) v' at1.1 at1.2
  have a1 := putA_arr hpB (i := 0) (by simp) v'
  have o2 := putA_only hB p 0 v'
  have vp : ∀ id g off n cap ex, v' = .sl id g off n cap ex 1 → h.next.num ≤ id.num := fun id g off n cap ex e => by
    have := (ow.old _ _ _ _ _ _ e).1
    omega
  have pold := a.st.old
  have vne : ∀ g off n cap ex, v' ≠ .sl p g off n cap ex 1 := fun g off n cap ex e => by have := vp _ _ _ _ _ _ e; omega
  have rd : ∀ hh : Hp, hh.heap = h.heap → read1 hh p 0 0 = some v := fun hh e => by
    rw [← l0]; unfold read1; rw [e]
  obtain ⟨env1, lds1, e1, l1, f20, f16, f1, f0, f6, f7⟩ : ∃ env1 lds1, runE Try.prog R 0 (take_3.take 7) ⟨[], [], [], h.next, env, ⟨h.heap, h.next.succ, h.ser, h.lim⟩⟩ = some ⟨[], lds1, [], h.next, env1, ⟨h.heap, h.next.succ, h.ser, h.lim⟩⟩ ∧ (∀ d ∈ lds1, d.i < 14 ∧ 0 < d.i) ∧ sv env1 22 = xa ∧ sv env1 16 = .ptr p 0 0 ∧ sv env1 1 = int64 i ∧ sv env1 0 = .ptr p 0 0 ∧ sv env1 6 = sv env 6 ∧ sv env1 7 = sv env 7 := by
    simp [take_3, runE, stepE, stepD, kindOf, lookBack, wanted_no, ev_tm, ev_vl, sv_setD, setD_none, qev_mov, opt_some, qev_nilC, nilC_ptr, qev_fld, fldA_ptr, qev_load1, s0, s1, rd, sh]
    exact ⟨_, _, ⟨rfl, rfl⟩, by simp, by simp [sv_setD, s0, s1]⟩
  obtain ⟨env2, lds2, e2, l2, g22, g29, g16, g6, g7⟩ : ∃ env2 lds2, runE Try.prog R 7 ((take_3.drop 7).take 7) ⟨[], lds1, [], h.next, env1, ⟨h.heap, h.next.succ, h.ser, h.lim⟩⟩ = some ⟨[], lds2, [], h.next, env2, ⟨h.heap, h.next.succ, h.ser, h.lim⟩⟩ ∧ (∀ d ∈ lds2, d.i < 14 ∧ 0 < d.i) ∧ sv env2 22 = xa ∧ sv env2 29 = xb ∧ sv env2 16 = .ptr p 0 0 ∧ sv env2 6 = sv env 6 ∧ sv env2 7 = sv env 7 := by
    simp [take_3, runE, stepE, stepD, kindOf, lookBack, wanted_no, ev_tm, ev_vl, sv_setD, setD_none, qev_mov, qev_bin, bin_add, opt_some, qev_nilC, nilC_ptr, qev_fld, fldA_ptr, qev_load1, f20, f16, f1, f0, f6, f7, rd, sl, w1]
    exact ⟨_, _, ⟨rfl, rfl⟩, by simpa using l1, by simp [sv_setD, f20, f16, f6, f7]⟩
  have ag : lookAgain Try.prog hB 32766 lds2 = true := lookAgain_all fun d hd => by
    obtain ⟨q1, q2⟩ := l2 d hd
    rw [bit_eq]
    have : d.i = 1 ∨ d.i = 2 ∨ d.i = 3 ∨ d.i = 4 ∨ d.i = 5 ∨ d.i = 6 ∨ d.i = 7 ∨ d.i = 8 ∨ d.i = 9 ∨ d.i = 10 ∨ d.i = 11 ∨ d.i = 12 ∨ d.i = 13 := by omega
    rcases this with q | q | q | q | q | q | q | q | q | q | q | q | q <;> rw [q] <;> decide
  have ag2 : ∀ hh, lookAgain Try.prog hh 262143 lds2 = true := fun hh => again_ones (n := 18) (by decide) fun d hd => by have := l2 d hd; omega
  obtain ⟨env', acts, e3, f6', f7'⟩ : ∃ env' acts, runE Try.prog R 14 (take_3.drop 14) ⟨[], lds2, [], h.next, env2, ⟨h.heap, h.next.succ, h.ser, h.lim⟩⟩ = some ⟨acts, lds2, [], h.next.succ, env', putA hB p 0 v'⟩ ∧ sv env' 6 = sv env 6 ∧ sv env' 7 = sv env 7 := by
    simp [take_3, runE, stepE, stepD, kindOf, lookBack, actO, insT, putT, remAl, bit, wanted_no, ev_tm, ev_vl, sv_setD, setD_none, qev_mov, opt_some, qev_nilC, nilC_ptr, qev_fld, fldA_ptr, qev_callv, qev_store1, callA_ok ok52, T.get_set, g22, g29, g16, g6, g7, bld, b1, R1, st1, eA, ag, ag2, show Nat.testBit 32766 14 = true from by decide]
  have e : runDrawn Try.prog R take_3 env h = some (env', putA hB p 0 v') := by
    refine runDrawn_ofE (rid := h.next.succ) (acts := acts) (lds := lds2) ?_
    have hsk : skipIds take_3 h.next = h.next.succ := by simp [take_3, skipIds, isAlloc, kindOf]
    rw [hsk]
    have es : take_3 = take_3.take 7 ++ ((take_3.drop 7).take 7 ++ take_3.drop 14) := rfl
    rw [es, runE_app e1]
    show runE Try.prog R 7 _ _ = _
    rw [runE_app e2]
    exact e3
  exact ⟨R, env', _, v', hsound, e, f6', f7', ⟨a1, by rw [List.map_append]; rw [← List.map_append]; exact (by
    rcases ow with q | ⟨id', g', k1, k2, k3⟩
    · exact .inl q
    · exact .inr ⟨id', g', by have := a.pN; omega, k2, k3.only o2 (by simp only [List.mem_singleton]; intro c; subst c; exact vne _ _ _ _ _ k2)⟩), vne, a.pN, nz⟩, (oA.trans oB).mono (S' := [p]) (by simp) |>.trans o2, vp⟩
end
end Go.Proofs.Ytmifpiglcphmoaa.Plays

namespace Go.Proofs.Ytmifpiglcphmoaa.Plays
open Go Go.Proofs.Ytmifpiglcphmoaa.Am Go.Proofs

section
variable {N : Nat} {h : Hp} {p : Pos} {v : AV} {w : List (List UInt8)} {sent : Int}

/-- Take, where there is one. -/
theorem take_fn (a : NetAt N h p v w sent) {i : Nat} (hi : i < w.length) (hw : w.length ≤ 1000000) :
    ∃ v' h', AmFn Try.prog 19 [.ptr p 0 0, int64 i] h (.tup [strOf w[i], int64 0]) h' ∧ NetAt N h' p v' (w.take i ++ w.drop (i + 1)) sent ∧ Only [p] h h' ∧ (∀ id g off n cap ex, v' = .sl id g off n cap ex 1 → h.next.num ≤ id.num) := by
  have k := at_fn a hi (by omega)
  obtain ⟨env1, e1, f0, f1, f6, f7⟩ : ∃ env', runS Try.prog false take_fu.body [⟨21, [.ptr p 0 0, int64 i], h, .tup [strOf w[i], int64 0], h⟩] (setArgs .e 0 [.ptr p 0 0, int64 i]) h =
      some (.upt [.code (.drawn take_3), .code (.seq (.region take_4) .ret)], [], env', h) ∧ sv env' 0 = .ptr p 0 0 ∧ sv env' 1 = int64 i ∧ sv env' 6 = strOf w[i] ∧ sv env' 7 = int64 0 := by
    simp [take_fu, take_0, take_1, take_2, runS, runR, Rs.seq, Rs.block, sv_args, runOps, wanted_no, wanted_sv, ev_tm, ev_vl, sv_setD, sv_set, setD_none, qev_mov, qev_bin, qev_un, qev_lenI, qev_pick, qev_load1, qev_idxSl, idx2_sl, idxA2_ptr, opt_some, bin_add, bin_sub, bin_mul, bin_lss, bin_leq, bin_gtr, bin_geq, bin_eql, bin_neq, un_not, un_neg, qev_callv, qev_new1, qev_store1, qev_nilC, nilC_ptr, qev_fld, fldA_ptr, qev_extract, nth0, nth1, nth2, qev_eqPtr, sameP_nil, notIf, callA_ok ok21]
  obtain ⟨rec, env2, h2, v', hrec, e2, g6, g7, net, o, vn⟩ := take_drawn a hi hw f0 f1
  obtain ⟨env3, e3, k4, k5⟩ : ∃ env', runS Try.prog true (.seq (.region take_4) .ret) [] env2 h2 = some (.ret, [], env', h2) ∧ sv env' 4 = strOf w[i] ∧ sv env' 5 = int64 0 := by
    simp [take_4, runS, runR, Rs.seq, runOps, wanted_no, wanted_sv, ev_tm, ev_vl, sv_setD, sv_set, setD_none, qev_mov, qev_bin, qev_un, qev_lenI, qev_pick, qev_load1, qev_idxSl, idx2_sl, idxA2_ptr, opt_some, bin_add, bin_sub, bin_mul, bin_lss, bin_leq, bin_gtr, bin_geq, bin_eql, bin_neq, un_not, un_neg, qev_callv, qev_new1, qev_store1, qev_nilC, nilC_ptr, qev_fld, fldA_ptr, qev_extract, nth0, nth1, nth2, qev_eqPtr, sameP_nil, notIf, g6, g7, f6, f7]
  exact ⟨v', h2, AmFn.dos take_code (by simp) (Dos.run (M := []) _ (by intro x hx; simp at hx; subst hx; exact k) e1 (.more (M := []) (M1 := []) (Dos.drawn hrec e2) (.ret (Dos.runRet [] (by simp) e3)))) (vs := [sv env3 4, sv env3 5]) rfl (by rw [k4, k5]; rfl), net, o, vn⟩

/-- Twin, where there is one and there is room. -/
theorem twin_fn (a : NetAt N h p v w sent) {i : Nat} (hi : i < w.length) (hw : w.length < 65536) (hs : 0 ≤ sent ∧ sent < 1000000000) (hN : N ≤ h.next.num) :
    ∃ v' h' S, AmFn Try.prog 22 [.ptr p 0 0, int64 i] h (int64 0) h' ∧ NetAt N h' p v' (w ++ [w[i]]) (sent + 1) ∧ Only S h h' ∧ (∀ id ∈ S, id = p ∨ ∃ g off n cap ex, v = .sl id g off n cap ex 1) ∧
      (∀ id g off n cap ex, v' = .sl id g off n cap ex 1 → (∃ g off n cap ex, v = .sl id g off n cap ex 1) ∨ h.next.num ≤ id.num) := by
  have k := at_fn a hi (by omega)
  obtain ⟨h1, b1, b2, b3, b4⟩ := build1' Try.prog h (.str 0 0) (strOf w[i]) rfl
  have a1 := a.more b3
  have vold := a.way.old
  have pold := a.st.old
  obtain ⟨v', h', S, ks, net, o, hS, hv⟩ := send_fn a1 (l := [w[i]]) (v2 := .sl h.next 0 0 1 1 true 1) b2 (fun id g off n cap ex e => by
    cases e
    refine ⟨fun c => by rw [c] at pold; omega, fun g' off' n' cap' ex' c => by have := (vold _ _ _ _ _ _ c).2; omega⟩) (by simp; omega) (by simp; omega) (by omega)
  obtain ⟨env1, e1, f4⟩ : ∃ env', runS Try.prog true twin_fu.body [⟨21, [.ptr p 0 0, int64 i], h, .tup [strOf w[i], int64 0], h⟩, ⟨18, [.ptr p 0 0, .sl h.next 0 0 1 1 true 1], h1, int64 0, h'⟩] (setArgs .e 0 [.ptr p 0 0, int64 i]) h =
      some (.ret, [], env', h') ∧ sv env' 4 = int64 0 := by
    simp [twin_fu, twin_0, twin_1, twin_2, twin_4, runS, runR, Rs.seq, Rs.block, sv_args, runOps, wanted_no, wanted_sv, ev_tm, ev_vl, sv_setD, sv_set, setD_none, qev_mov, qev_bin, qev_un, qev_lenI, qev_pick, qev_load1, qev_idxSl, idx2_sl, idxA2_ptr, opt_some, bin_add, bin_sub, bin_mul, bin_lss, bin_leq, bin_gtr, bin_geq, bin_eql, bin_neq, un_not, un_neg, qev_callv, qev_new1, qev_store1, qev_nilC, nilC_ptr, qev_fld, fldA_ptr, qev_extract, nth0, nth1, nth2, qev_eqPtr, sameP_nil, notIf, callA_ok ok21, callA_ok ok18, b1]
  refine ⟨v', h', S, AmFn.dos twin_code (by simp) (Dos.runRet _ (by
    intro x hx
    simp only [List.mem_cons, List.not_mem_nil, or_false] at hx
    rcases hx with q | q <;> subst q
    · exact k
    · exact ks) e1) (vs := [sv env1 4]) rfl f4, by simpa using net, ((b3.mono (S' := S) (by simp)).trans o), hS, fun id g off n cap ex e => (hv id g off n cap ex e).imp _root_.id fun q => by omega⟩
end

end Go.Proofs.Ytmifpiglcphmoaa.Plays

namespace Go.Proofs.Ytmifpiglcphmoaa.Plays
open Go Go.Proofs.Ytmifpiglcphmoaa.Am Go.Proofs

theorem ok20 : okCall Try.prog 20 = true := by kernel_rfl
theorem ok23 : okCall Try.prog 23 = true := by kernel_rfl
theorem ok24 : okCall Try.prog 24 = true := by kernel_rfl
theorem ok25 : okCall Try.prog 25 = true := by kernel_rfl
theorem ok26 : okCall Try.prog 26 = true := by kernel_rfl
theorem ok53 : okCall Try.prog 53 = true := by kernel_rfl
theorem ok54 : okCall Try.prog 54 = true := by kernel_rfl
theorem ok80 : okCall Try.prog 80 = true := by kernel_rfl
theorem ok81 : okCall Try.prog 81 = true := by kernel_rfl
theorem ok88 : okCall Try.prog 88 = true := by kernel_rfl
theorem ok11 : okCall Try.prog 11 = true := by kernel_rfl

section
variable {N : Nat} {h : Hp} {p : Pos} {v : AV} {w : List (List UInt8)} {sent : Int}

/-- At, where there is none. -/
theorem at_none (a : NetAt N h p v w sent) {i : Int} (hi : i < 0 ∨ (w.length : Int) ≤ i) : AmFn Try.prog 21 [.ptr p 0 0, int64 i] h (.tup [.str 0 0, int64 350]) h := by
  have k := there_fn a.st
  have l0 := a.l0
  have hl := a.len
  obtain ⟨env', e, f4, f5⟩ : ∃ env', runS Try.prog true at__fu.body [⟨51, [.ptr p 0 0], h, .bool true, h⟩] (setArgs .e 0 [.ptr p 0 0, int64 i]) h = some (.ret, [], env', h) ∧ sv env' 4 = .str 0 0 ∧ sv env' 5 = int64 350 := by
    by_cases h0 : i < 0
    · simp [at__fu, at__0, at__1, at__2, at__4, at__5, runS, runR, Rs.seq, Rs.block, sv_args, runOps, wanted_no, wanted_sv, ev_tm, ev_vl, sv_setD, setD_none, qev_mov, qev_bin, qev_un, qev_pick, qev_load1, opt_some, bin_lss, bin_geq, un_not, qev_callv, qev_nilC, nilC_ptr, qev_fld, fldA_ptr, callA_ok ok51, l0, h0, hl]
    · have h1 : (w.length : Int) ≤ i := by omega
      simp [at__fu, at__0, at__1, at__2, at__4, at__5, runS, runR, Rs.seq, Rs.block, sv_args, runOps, wanted_no, wanted_sv, ev_tm, ev_vl, sv_setD, setD_none, qev_mov, qev_bin, qev_un, qev_pick, qev_load1, opt_some, bin_lss, bin_geq, un_not, qev_callv, qev_nilC, nilC_ptr, qev_fld, fldA_ptr, callA_ok ok51, l0, h0, h1, hl]
  exact AmFn.dos at__code (by simp) (Dos.runRet _ (by intro x hx; simp at hx; subst hx; exact k) e) (vs := [sv env' 4, sv env' 5]) rfl (by rw [f4, f5]; rfl)

/-- Take, where there is none. -/
theorem take_none (a : NetAt N h p v w sent) {i : Int} (hi : i < 0 ∨ (w.length : Int) ≤ i) : AmFn Try.prog 19 [.ptr p 0 0, int64 i] h (.tup [.str 0 0, int64 350]) h := by
  have k := at_none a hi
  obtain ⟨env', e, f4, f5⟩ : ∃ env', runS Try.prog true take_fu.body [⟨21, [.ptr p 0 0, int64 i], h, .tup [.str 0 0, int64 350], h⟩] (setArgs .e 0 [.ptr p 0 0, int64 i]) h = some (.ret, [], env', h) ∧ sv env' 4 = .str 0 0 ∧ sv env' 5 = int64 350 := by
    simp [take_fu, take_0, take_1, take_2, take_4, runS, runR, Rs.seq, Rs.block, sv_args, runOps, wanted_no, wanted_sv, ev_tm, ev_vl, sv_setD, sv_set, setD_none, qev_mov, qev_bin, qev_un, qev_lenI, qev_pick, qev_load1, qev_idxSl, idx2_sl, idxA2_ptr, opt_some, bin_add, bin_sub, bin_mul, bin_lss, bin_leq, bin_gtr, bin_geq, bin_eql, bin_neq, un_not, un_neg, qev_callv, qev_new1, qev_store1, qev_nilC, nilC_ptr, qev_fld, fldA_ptr, qev_extract, nth0, nth1, nth2, qev_eqPtr, sameP_nil, notIf, callA_ok ok21]
  exact AmFn.dos take_code (by simp) (Dos.runRet _ (by intro x hx; simp at hx; subst hx; exact k) e) (vs := [sv env' 4, sv env' 5]) rfl (by rw [f4, f5]; rfl)

/-- Lose, by what Take does. -/
theorem lose_of {i : Int} {h' : Hp} {x : AV} {e : Int} (k : AmFn Try.prog 19 [.ptr p 0 0, int64 i] h (.tup [x, int64 e]) h') : AmFn Try.prog 20 [.ptr p 0 0, int64 i] h (int64 e) h' := by
  obtain ⟨env', e, f4⟩ : ∃ env', runS Try.prog true lose_fu.body [⟨19, [.ptr p 0 0, int64 i], h, .tup [x, int64 e], h'⟩] (setArgs .e 0 [.ptr p 0 0, int64 i]) h = some (.ret, [], env', h') ∧ sv env' 4 = int64 e := by
    simp [lose_fu, lose_0, lose_1, lose_2, runS, runR, Rs.seq, Rs.block, sv_args, runOps, wanted_no, wanted_sv, ev_tm, ev_vl, sv_setD, sv_set, setD_none, qev_mov, qev_bin, qev_un, qev_lenI, qev_pick, qev_load1, qev_idxSl, idx2_sl, idxA2_ptr, opt_some, bin_add, bin_sub, bin_mul, bin_lss, bin_leq, bin_gtr, bin_geq, bin_eql, bin_neq, un_not, un_neg, qev_callv, qev_new1, qev_store1, qev_nilC, nilC_ptr, qev_fld, fldA_ptr, qev_extract, nth0, nth1, nth2, qev_eqPtr, sameP_nil, notIf, callA_ok ok19]
  exact AmFn.dos lose_code (by simp) (Dos.runRet _ (by intro x hx; simp at hx; subst hx; exact k) e) (vs := [sv env' 4]) rfl f4

/-- Send, where there is no room. -/
theorem send_full (a : NetAt N h p v w sent) {v2 : AV} {l : List (List UInt8)} (hv : SlR h v2 (l.map strOf)) (hw : w.length ≤ 65536) (hroom : 65536 < w.length + l.length) : AmFn Try.prog 18 [.ptr p 0 0, v2] h (int64 8) h := by
  have k := there_fn a.st
  have l0 := a.l0
  have hl := a.len
  have hl2 := SlR.lenI hv
  have hsub : wrapA .i64 (65536 - (w.length : Int)) = 65536 - (w.length : Int) := wrap64 (by omega) (by omega)
  have hgt : 65536 - (w.length : Int) < (l.length : Int) := by omega
  obtain ⟨env', e, f⟩ : ∃ env', runS Try.prog true send_fu.body [⟨51, [.ptr p 0 0], h, .bool true, h⟩] (setArgs .e 0 [.ptr p 0 0, v2]) h = some (.ret, [], env', h) ∧ sv env' 4 = int64 8 := by
    simp [send_fu, send_0, send_1, send_3, send_4, runS, runR, Rs.seq, sv_args, runOps, wanted_no, ev_tm, ev_vl, sv_setD, setD_none, qev_mov, qev_un, un_not, qev_bin, bin_sub, bin_gtr, bin_add, opt_some, qev_callv, qev_nilC, nilC_ptr, qev_fld, fldA_ptr, qev_load1, qev_store1, callA_ok ok51, l0, hl, hl2, hsub, hgt]
  exact AmFn.dos send_code (by simp) (Dos.runRet _ (by intro x hx; simp at hx; subst hx; exact k) e) (vs := [sv env' 4]) rfl f

/-- Twin, where there is none. -/
theorem twin_none (a : NetAt N h p v w sent) {i : Int} (hi : i < 0 ∨ (w.length : Int) ≤ i) : AmFn Try.prog 22 [.ptr p 0 0, int64 i] h (int64 350) h := by
  have k := at_none a hi
  obtain ⟨env', e, f4⟩ : ∃ env', runS Try.prog true twin_fu.body [⟨21, [.ptr p 0 0, int64 i], h, .tup [.str 0 0, int64 350], h⟩] (setArgs .e 0 [.ptr p 0 0, int64 i]) h = some (.ret, [], env', h) ∧ sv env' 4 = int64 350 := by
    simp [twin_fu, twin_0, twin_1, twin_2, twin_3, runS, runR, Rs.seq, Rs.block, sv_args, runOps, wanted_no, wanted_sv, ev_tm, ev_vl, sv_setD, sv_set, setD_none, qev_mov, qev_bin, qev_un, qev_lenI, qev_pick, qev_load1, qev_idxSl, idx2_sl, idxA2_ptr, opt_some, bin_add, bin_sub, bin_mul, bin_lss, bin_leq, bin_gtr, bin_geq, bin_eql, bin_neq, un_not, un_neg, qev_callv, qev_new1, qev_store1, qev_nilC, nilC_ptr, qev_fld, fldA_ptr, qev_extract, nth0, nth1, nth2, qev_eqPtr, sameP_nil, notIf, callA_ok ok21]
  exact AmFn.dos twin_code (by simp) (Dos.runRet _ (by intro x hx; simp at hx; subst hx; exact k) e) (vs := [sv env' 4]) rfl f4

/-- Twin, where there is one and no room. -/
theorem twin_full (a : NetAt N h p v w sent) {i : Nat} (hi : i < w.length) (hw : w.length = 65536) : ∃ h', AmFn Try.prog 22 [.ptr p 0 0, int64 i] h (int64 8) h' ∧ Only [] h h' := by
  have k := at_fn a hi (by omega)
  obtain ⟨h1, b1, b2, b3, b4⟩ := build1' Try.prog h (.str 0 0) (strOf w[i]) rfl
  have ks := send_full (a.more b3) (l := [w[i]]) (v2 := .sl h.next 0 0 1 1 true 1) b2 (by omega) (by simp; omega)
  obtain ⟨env1, e1, f4⟩ : ∃ env', runS Try.prog true twin_fu.body [⟨21, [.ptr p 0 0, int64 i], h, .tup [strOf w[i], int64 0], h⟩, ⟨18, [.ptr p 0 0, .sl h.next 0 0 1 1 true 1], h1, int64 8, h1⟩] (setArgs .e 0 [.ptr p 0 0, int64 i]) h =
      some (.ret, [], env', h1) ∧ sv env' 4 = int64 8 := by
    simp [twin_fu, twin_0, twin_1, twin_2, twin_4, runS, runR, Rs.seq, Rs.block, sv_args, runOps, wanted_no, wanted_sv, ev_tm, ev_vl, sv_setD, sv_set, setD_none, qev_mov, qev_bin, qev_un, qev_lenI, qev_pick, qev_load1, qev_idxSl, idx2_sl, idxA2_ptr, opt_some, bin_add, bin_sub, bin_mul, bin_lss, bin_leq, bin_gtr, bin_geq, bin_eql, bin_neq, un_not, un_neg, qev_callv, qev_new1, qev_store1, qev_nilC, nilC_ptr, qev_fld, fldA_ptr, qev_extract, nth0, nth1, nth2, qev_eqPtr, sameP_nil, notIf, callA_ok ok21, callA_ok ok18, b1]
  exact ⟨h1, AmFn.dos twin_code (by simp) (Dos.runRet _ (by
    intro x hx
    simp only [List.mem_cons, List.not_mem_nil, or_false] at hx
    rcases hx with q | q <;> subst q
    · exact k
    · exact ks) e1) (vs := [sv env1 4]) rfl f4, b3⟩
end

/-- Clone of a list of one's own. -/
theorem clone_fn {N : Nat} {h : Hp} {v : AV} {w : List (List UInt8)} (o : Own N h v (w.map strOf)) (hz : w = [] → v = .nilSl) (hw : w.length ≤ 1073741824) :
    ∃ v' h', AmFn Try.prog 53 [v] h v' h' ∧ Own h.next.num h' v' (w.map strOf) ∧ (w = [] → v' = .nilSl) ∧ Only [] h h' := by
  by_cases h0 : w = []
  · subst h0
    have hv := hz rfl
    subst hv
    have hs : ∀ env (x : Opd), ev env x = .nilSl → evalOp Try.prog (.bin .eql .slice true x (vl .nilSl)) env h = .val (.bool true) h := fun env x hx => sl_eql Try.prog hx (.nil (h := h))
    obtain ⟨env', e, f⟩ : ∃ env', runS Try.prog true clone_fu.body [] (setArgs .e 0 [.nilSl]) h = some (.ret, [], env', h) ∧ sv env' 2 = .nilSl := by
      simp [clone_fu, clone_0, clone_1, clone_2, runS, runR, Rs.seq, Rs.block, sv_args, runOps, wanted_no, ev_tm, ev_vl, sv_setD, qev_mov, hs]
    exact ⟨.nilSl, h, AmFn.dos clone_code (by simp) (Dos.runRet [] (by simp) e) (vs := [sv env' 2]) rfl f, .inl ⟨rfl, rfl⟩, fun _ => rfl, .refl _ _⟩
  · have hl : w.map strOf ≠ [] := by simpa using h0
    have hs : ∀ env (x : Opd), ev env x = v → evalOp Try.prog (.bin .eql .slice true x (vl .nilSl)) env h = .val (.bool false) h := fun env x hx => by
      have q := sl_eql Try.prog hx o.sl
      rcases o with ⟨q1, _⟩ | ⟨id, g, _, q2, _⟩
      · exact absurd q1 hl
      · rw [q2] at q
        exact q
    obtain ⟨h1, b1, b2, b3⟩ := build0 Try.prog h (.str 0 0)
    have n1 := b2.next
    obtain ⟨h2, c1, c2, c3, c4⟩ := append_new' Try.prog (env := .e) (h := h1) (s := vl (.sl h.next 0 0 0 0 true 1)) (x := vl v) (bytes := 16) rfl (o.more b2).sl hl (by simpa using hw) (by omega) (.inr ⟨h.next, 0, 0, rfl, by omega⟩)
    have ap : ∀ env s x, ev env s = .sl h.next 0 0 0 0 true 1 → ev env x = v → evalOp Try.prog (.append 1 16 s x) env h1 = .val (.sl h1.next 0 0 (w.map strOf).length (w.map strOf).length false 1) h2 := fun env s x hs hx => (append_env Try.prog (env := env) (env' := .e) (s := s) (s' := vl (.sl h.next 0 0 0 0 true 1)) (x := x) (x' := vl v) hs hx).trans c1
    obtain ⟨env', e, f⟩ : ∃ env', runS Try.prog true clone_fu.body [] (setArgs .e 0 [v]) h = some (.ret, [], env', h2) ∧ sv env' 2 = .sl h1.next 0 0 (w.map strOf).length (w.map strOf).length false 1 := by
      simp only [List.length_map] at ap
      simp [clone_fu, clone_0, clone_1, clone_3, runS, runR, Rs.seq, Rs.block, sv_args, runOps, wanted_no, ev_tm, ev_vl, sv_setD, qev_mov, hs, b1, ap]
    exact ⟨_, h2, AmFn.dos clone_code (by simp) (Dos.runRet [] (by simp) e) (vs := [sv env' 2]) rfl f, .inr ⟨h1.next, 0, by omega, rfl, c2.gro⟩, fun c => absurd c h0, b2.trans c3⟩
end Go.Proofs.Ytmifpiglcphmoaa.Plays

namespace Go.Proofs.Ytmifpiglcphmoaa.Plays
open Go Go.Proofs.Ytmifpiglcphmoaa.Am Go.Proofs

/-- The law's predicate: texts longer than the step says. -/
theorem pred_fn {h : Hp} {ps : Pos} {a c : AV} {n : Int} (b : Arr h ps [a, int64 n, c]) (x : List UInt8) : AmFn Try.prog 24 [strOf x, .ptr ps 0 0] h (.bool (decide (n < (x.length : Int)))) h := by
  have l1 : read1 h ps 0 1 = some (int64 n) := b.one (i := 1) (by simp)
  obtain ⟨env', e, f⟩ : ∃ env', runS Try.prog true pred_fu.body [] (setArgs .e 0 [strOf x, .ptr ps 0 0]) h = some (.ret, [], env', h) ∧ sv env' 3 = .bool (decide (n < (x.length : Int))) := by
    unfold strOf
    simp [pred_fu, pred_0, pred_1, runS, runR, Rs.seq, sv_args, runOps, wanted_no, wanted_sv, ev_tm, ev_vl, sv_setD, sv_set, setD_none, qev_mov, qev_bin, qev_un, qev_lenI, qev_pick, qev_load1, qev_idxSl, idx2_sl, idxA2_ptr, opt_some, bin_add, bin_sub, bin_mul, bin_lss, bin_leq, bin_gtr, bin_geq, bin_eql, bin_neq, un_not, un_neg, qev_callv, qev_new1, qev_store1, qev_nilC, nilC_ptr, qev_fld, fldA_ptr, qev_extract, nth0, nth1, nth2, qev_eqPtr, sameP_nil, notIf, qev_lenS, l1]
  exact AmFn.dos pred_code (by simp) (Dos.runRet [] (by simp) e) (vs := [sv env' 3]) rfl f

/-- Which texts are kept. -/
def longer (n : Int) (w : List (List UInt8)) : List (List UInt8) := w.filter fun x => decide (n < (x.length : Int))

theorem longer_snoc (n : Int) (w : List (List UInt8)) (x : List UInt8) : longer n (w ++ [x]) = if n < (x.length : Int) then longer n w ++ [x] else longer n w := by
  unfold longer
  rw [List.filter_append]
  by_cases c : n < (x.length : Int) <;> simp [c]

theorem longer_len (n : Int) (w : List (List UInt8)) : (longer n w).length ≤ w.length := List.length_filter_le _ _

theorem keep_loop {N : Nat} {h1 : Hp} {ps p : Pos} {a c vc : AV} {n : Int} {w : List (List UInt8)} (b : Arr h1 ps [a, int64 n, c]) (hc : SlR h1 vc (w.map strOf)) (hw : w.length ≤ 65536) (hN : N = h1.next.num) :
    ∀ (m i : Nat) (env : T AV) (h : Hp) (vk : AV), i + m = w.length → Only [] h1 h → Own N h vk ((longer n (w.take i)).map strOf) → (longer n (w.take i) = [] → vk = .nilSl) →
      sv env 0 = .ptr p 0 0 → sv env 1 = .fn (.func 24) [] [.ptr ps 0 0] → sv env 5 = vk → sv env 20 = vc → sv env 21 = int64 w.length → sv env 22 = int64 i →
      ∃ env' h' vk', Loops Try.prog 23 keep_10 env h (.exit 0) [] env' h' ∧ Only [] h1 h' ∧ Own N h' vk' ((longer n w).map strOf) ∧ (longer n w = [] → vk' = .nilSl) ∧ sv env' 0 = .ptr p 0 0 ∧ sv env' 5 = vk' := by
  intro m
  induction m with
  | zero =>
    intro i env h vk hi o ow nz s0 s1 s5 s20 s21 s22
    have : i = w.length := by omega
    subst this
    rw [List.take_length] at ow nz
    obtain ⟨env1, e1, f0, f5⟩ : ∃ env', runS Try.prog true keep_10 [] env h = some (.exit 0, [], env', h) ∧ sv env' 0 = .ptr p 0 0 ∧ sv env' 5 = vk := by
      simp [keep_10, keep_5, runS, runR, Rs.seq, Rs.block, runOps, wanted_no, wanted_sv, ev_tm, ev_vl, sv_setD, sv_set, setD_none, qev_mov, qev_bin, qev_un, qev_lenI, qev_pick, qev_load1, qev_idxSl, idx2_sl, idxA2_ptr, opt_some, bin_add, bin_sub, bin_mul, bin_lss, bin_leq, bin_gtr, bin_geq, bin_eql, bin_neq, un_not, un_neg, qev_callv, qev_new1, qev_store1, qev_nilC, nilC_ptr, qev_fld, fldA_ptr, qev_extract, nth0, nth1, nth2, qev_eqPtr, sameP_nil, notIf, s0, s5, s21, s22]
    exact ⟨env1, h, vk, .out (Dos.runExit [] (by simp) e1) (by simp), o, ow, nz, f0, f5⟩
  | succ m ih =>
    intro i env h vk hi o ow nz s0 s1 s5 s20 s21 s22
    have hil : i < w.length := by omega
    have hlt : (i : Int) < w.length := by omega
    obtain ⟨id, g, off, cap, ex, hv, row⟩ := (hc.more o.more).sl_or (x := strOf w[i]) (List.mem_map.2 ⟨w[i], List.getElem_mem hil, rfl⟩)
    have hone := row.one i (by simpa using hil)
    simp [List.getElem?_eq_getElem hil] at hone
    have hv' : vc = .sl id g off w.length cap ex 1 := by simpa using hv
    have w1 : wrapA .i64 ((i : Int) + 1) = (i : Int) + 1 := wrap64 (by omega) (by omega)
    have kp := pred_fn (b.only o (by simp)) w[i]
    have htk : w.take (i + 1) = w.take i ++ [w[i]] := by rw [List.take_add_one, List.getElem?_eq_getElem hil]; rfl
    by_cases hb : n < (w[i].length : Int)
    · have hd : decide (n < (w[i].length : Int)) = true := by simpa using hb
      rw [hd] at kp
      obtain ⟨h2, b1, b2, b3, b4⟩ := build1' Try.prog h (.str 0 0) (strOf w[i]) rfl
      have hle := longer_len n (w.take i)
      rw [List.length_take] at hle
      obtain ⟨vk', h3, S, ap, ow', o3, hS, hv3⟩ := (ow.more b3).push Try.prog (bytes := 16) (l2 := [w[i]].map strOf) b2 (strOf_atom _) (by simp; omega) (by omega) (by have := o.next; have := b3.next; omega)
      obtain ⟨env1, e1, f0, f1, f5, f20, f21, f22⟩ : ∃ env', runS Try.prog true keep_10 [⟨24, [strOf w[i], .ptr ps 0 0], h, .bool true, h⟩] env h = some (.upt [], [], env', h3) ∧
          sv env' 0 = .ptr p 0 0 ∧ sv env' 1 = .fn (.func 24) [] [.ptr ps 0 0] ∧ sv env' 5 = vk' ∧ sv env' 20 = vc ∧ sv env' 21 = int64 w.length ∧ sv env' 22 = int64 ((i + 1 : Nat) : Int) := by
        rw [hv'] at s20 ⊢
        simp [keep_10, keep_5, keep_6, keep_7, keep_8, keep_9, runS, runR, Rs.seq, Rs.block, runOps, wanted_no, wanted_sv, ev_tm, ev_vl, sv_setD, sv_set, setD_none, qev_mov, qev_bin, qev_un, qev_lenI, qev_pick, qev_load1, qev_idxSl, idx2_sl, idxA2_ptr, opt_some, bin_add, bin_sub, bin_mul, bin_lss, bin_leq, bin_gtr, bin_geq, bin_eql, bin_neq, un_not, un_neg, qev_callv, qev_new1, qev_store1, qev_nilC, nilC_ptr, qev_fld, fldA_ptr, qev_extract, nth0, nth1, nth2, qev_eqPtr, sameP_nil, notIf, callA_ok ok24, s0, s1, s5, s20, s21, s22, hil, hone, b1, ap, w1]
      rw [List.map_cons, List.map_nil, ← List.map_singleton, ← List.map_append, ← (show longer n (w.take (i + 1)) = longer n (w.take i) ++ [w[i]] by rw [htk, longer_snoc, if_pos hb])] at ow'
      obtain ⟨env', h', vk2, L, q1, q2, q3, q4, q5⟩ := ih (i + 1) env1 h3 vk' (by omega) ((((o.trans b3).mono (S' := S) (by simp)).trans o3).mono fun id hid => .inr (by have := (hS id hid).1; omega)) ow' (fun c => by rw [htk, longer_snoc, if_pos hb] at c; simp at c) f0 f1 f5 f20 f21 f22
      exact ⟨env', h', vk2, .more (M := []) (M1 := []) (Dos.runGo _ (by intro x hx; simp at hx; subst hx; exact kp) e1) L, q1, q2, q3, q4, q5⟩
    · have hd : decide (n < (w[i].length : Int)) = false := by simpa using hb
      rw [hd] at kp
      obtain ⟨env1, e1, f0, f1, f5, f20, f21, f22⟩ : ∃ env', runS Try.prog true keep_10 [⟨24, [strOf w[i], .ptr ps 0 0], h, .bool false, h⟩] env h = some (.upt [], [], env', h) ∧
          sv env' 0 = .ptr p 0 0 ∧ sv env' 1 = .fn (.func 24) [] [.ptr ps 0 0] ∧ sv env' 5 = vk ∧ sv env' 20 = vc ∧ sv env' 21 = int64 w.length ∧ sv env' 22 = int64 ((i + 1 : Nat) : Int) := by
        rw [hv'] at s20 ⊢
        simp [keep_10, keep_5, keep_6, keep_7, keep_9, runS, runR, Rs.seq, Rs.block, runOps, wanted_no, wanted_sv, ev_tm, ev_vl, sv_setD, sv_set, setD_none, qev_mov, qev_bin, qev_un, qev_lenI, qev_pick, qev_load1, qev_idxSl, idx2_sl, idxA2_ptr, opt_some, bin_add, bin_sub, bin_mul, bin_lss, bin_leq, bin_gtr, bin_geq, bin_eql, bin_neq, un_not, un_neg, qev_callv, qev_new1, qev_store1, qev_nilC, nilC_ptr, qev_fld, fldA_ptr, qev_extract, nth0, nth1, nth2, qev_eqPtr, sameP_nil, notIf, callA_ok ok24, s0, s1, s5, s20, s21, s22, hil, hone, w1]
      have el : longer n (w.take (i + 1)) = longer n (w.take i) := by rw [htk, longer_snoc, if_neg hb]
      obtain ⟨env', h', vk2, L, q1, q2, q3, q4, q5⟩ := ih (i + 1) env1 h vk (by omega) o (by rw [el]; exact ow) (by rw [el]; exact nz) f0 f1 f5 f20 f21 f22
      exact ⟨env', h', vk2, .more (M := []) (M1 := []) (Dos.runGo _ (by intro x hx; simp at hx; subst hx; exact kp) e1) L, q1, q2, q3, q4, q5⟩

section
variable {N : Nat} {h : Hp} {p : Pos} {v : AV} {w : List (List UInt8)} {sent : Int}

/-- Keep, by the law's predicate. -/
theorem keep_fn (a : NetAt N h p v w sent) (hw : w.length ≤ 65536) (hN : N ≤ h.next.num) {ps : Pos} {x y : AV} {n : Int} (b : Arr h ps [x, int64 n, y]) (hps : ps ≠ p) :
    ∃ v' h', AmFn Try.prog 23 [.ptr p 0 0, .fn (.func 24) [] [.ptr ps 0 0]] h (int64 ((w.length : Int) - (longer n w).length)) h' ∧ NetAt N h' p v' (longer n w) sent ∧ Only [p] h h' ∧ (∀ id g off n cap ex, v' = .sl id g off n cap ex 1 → h.next.num ≤ id.num) := by
  have k := there_fn a.st
  have l0 := a.l0
  obtain ⟨vc, h1, kc, oc, nzc, o1⟩ := clone_fn a.way a.nz (by omega)
  have lc : ∀ env x, ev env x = vc → evalOp Try.prog (.lenL x) env h1 = .val (int64 w.length) h1 := SlR.lenI oc.sl
  obtain ⟨env1, e1, f0, f1, f5, f20, f21, f22⟩ : ∃ env', runS Try.prog true keep_fu.body [⟨51, [.ptr p 0 0], h, .bool true, h⟩, ⟨53, [v], h, vc, h1⟩] (setArgs .e 0 [.ptr p 0 0, .fn (.func 24) [] [.ptr ps 0 0]]) h =
      some (.upt [.code (.loop keep_10), .inBlock 0, .code (.seq (.region keep_11) (.seq (.region keep_12) (.seq (.region keep_13) .ret)))], [], env', h1) ∧
      sv env' 0 = .ptr p 0 0 ∧ sv env' 1 = .fn (.func 24) [] [.ptr ps 0 0] ∧ sv env' 5 = .nilSl ∧ sv env' 20 = vc ∧ sv env' 21 = int64 w.length ∧ sv env' 22 = int64 ((0 : Nat) : Int) := by
    simp [keep_fu, keep_0, keep_1, keep_3, keep_4, runS, runR, Rs.seq, Rs.block, sv_args, runOps, wanted_no, wanted_sv, ev_tm, ev_vl, sv_setD, sv_set, setD_none, qev_mov, qev_bin, qev_un, qev_lenI, qev_pick, qev_load1, qev_idxSl, idx2_sl, idxA2_ptr, opt_some, bin_add, bin_sub, bin_mul, bin_lss, bin_leq, bin_gtr, bin_geq, bin_eql, bin_neq, un_not, un_neg, qev_callv, qev_new1, qev_store1, qev_nilC, nilC_ptr, qev_fld, fldA_ptr, qev_extract, nth0, nth1, nth2, qev_eqPtr, sameP_nil, notIf, callA_ok ok51, callA_ok ok53, l0, lc, show ∀ (a : Fn) b c, binA .eql .fn true (.fn a b c) .nilFn = some (.bool false) from fun _ _ _ => rfl]
  obtain ⟨env2, h2, vk, L, o2, ow, nz, g0, g5⟩ := keep_loop (b.only o1 (by simp)) oc.sl hw rfl w.length 0 env1 h1 .nilSl (by omega) (.refl _ _) (.inl ⟨rfl, rfl⟩) (fun _ => rfl) f0 f1 f5 f20 f21 f22
  have o12 := o1.trans o2
  have hp2 := a.st.only o12 (by simp)
  have l02 : read1 h2 p 0 0 = some v := hp2.one (i := 0) (by simp)
  have lv : ∀ env x, ev env x = v → evalOp Try.prog (.lenL x) env h2 = .val (int64 w.length) h2 := SlR.lenI (a.way.more o12).sl
  have lk : ∀ env x, ev env x = vk → evalOp Try.prog (.lenL x) env h2 = .val (int64 (longer n w).length) h2 := SlR.lenI ow.sl
  have at1 := ow.sl.atom
  have st1 := storeR_arr hp2 (i := 0) (by simp) vk at1.1 at1.2
  have a1 := putA_arr hp2 (i := 0) (by simp) vk
  have o3 := putA_only h2 p 0 vk
  have hle := longer_len n w
  have ws : wrapA .i64 ((w.length : Int) - (longer n w).length) = (w.length : Int) - (longer n w).length := wrap64 (by omega) (by omega)
  have vp : ∀ id g off n cap ex, vk = .sl id g off n cap ex 1 → h.next.num ≤ id.num := fun id g off n cap ex e => by
    have := (ow.old _ _ _ _ _ _ e).1
    have := o1.next
    omega
  have pold := a.st.old
  have vne : ∀ g off n cap ex, vk ≠ .sl p g off n cap ex 1 := fun g off n cap ex e => by have := vp _ _ _ _ _ _ e; omega
  obtain ⟨env3, e3, q4⟩ : ∃ env', runS Try.prog true (.seq (.region keep_11) (.seq (.region keep_12) (.seq (.region keep_13) .ret))) [] env2 h2 = some (.ret, [], env', putA h2 p 0 vk) ∧ sv env' 4 = int64 ((w.length : Int) - (longer n w).length) := by
    simp [keep_11, keep_12, keep_13, runS, runR, Rs.seq, Rs.block, runOps, wanted_no, ev_tm, ev_vl, sv_setD, setD_none, qev_mov, qev_bin, bin_sub, opt_some, qev_load1, qev_store1, qev_nilC, nilC_ptr, qev_fld, fldA_ptr, g0, g5, l02, lv, lk, ws, st1]
  refine ⟨vk, _, AmFn.dos keep_code (by simp) (Dos.run (M := []) _ (by
    intro x hx
    simp only [List.mem_cons, List.not_mem_nil, or_false] at hx
    rcases hx with q | q <;> subst q
    · exact k
    · exact kc) e1 (.leave (M := []) (M1 := []) (i := 0) (Dos.loop L) rfl (.ret (Dos.runRet [] (by simp) e3)))) (vs := [sv env3 4]) rfl q4,
    ⟨a1, ?_, vne, a.pN, nz⟩, ((o12.mono (S' := [p]) (by simp)).trans o3), vp⟩
  rcases ow with q | ⟨id, g, k1, k2, k3⟩
  · exact .inl q
  · exact .inr ⟨id, g, by have := o1.next; omega, k2, k3.only o3 (by simp only [List.mem_singleton]; intro c; subst c; exact vne _ _ _ _ _ k2)⟩

/-- All: the row as it stands. -/
theorem all_fn (a : NetAt N h p v w sent) (hw : w.length ≤ 65536) : ∃ q vc h', AmFn Try.prog 54 [.ptr p 0 0] h (.fn (.func 80) [] [.ptr q 0 0]) h' ∧ Box h' q vc ∧ SlR h' vc (w.map strOf) ∧ Only [] h h' ∧ h.next.num ≤ q.num ∧
    (∀ id g off n cap ex, vc = .sl id g off n cap ex 1 → h.next.num ≤ id.num ∧ id.num < h'.next.num) := by
  have ob : Only [] h (newB h .nilSl) := newH_only _ _ _
  have nb : (newB h .nilSl).next.num = h.next.num + 1 := newH_next _ _
  have hb := newB_box h .nilSl
  have a1 := a.more ob
  have k := there_fn a1.st
  have l0 := a1.l0
  obtain ⟨vc, h1, kc, oc, nzc, o1⟩ := clone_fn a1.way a1.nz (by omega)
  have hb1 := hb.only o1 (by simp)
  have at1 := oc.sl.atom
  have st1 := storeR_box hb1 vc at1.1 at1.2
  have b1 := putB_box hb1 vc
  have o2 := putB_only h1 h.next vc
  obtain ⟨env1, e1, f2⟩ : ∃ env', runS Try.prog true all_fu.body [⟨51, [.ptr p 0 0], newB h .nilSl, .bool true, newB h .nilSl⟩, ⟨53, [v], newB h .nilSl, vc, h1⟩] (setArgs .e 0 [.ptr p 0 0]) h = some (.ret, [], env', putB h1 h.next vc) ∧ sv env' 2 = .fn (.func 80) [] [.ptr h.next 0 0] := by
    simp [all_fu, all_0, all_1, all_2, all_3, all_4, runS, runR, Rs.seq, Rs.block, sv_args, runOps, wanted_no, wanted_sv, ev_tm, ev_vl, sv_setD, sv_set, setD_none, qev_mov, qev_bin, qev_un, qev_lenI, qev_pick, qev_load1, qev_idxSl, idx2_sl, idxA2_ptr, opt_some, bin_add, bin_sub, bin_mul, bin_lss, bin_leq, bin_gtr, bin_geq, bin_eql, bin_neq, un_not, un_neg, qev_callv, qev_new1, qev_store1, qev_nilC, nilC_ptr, qev_fld, fldA_ptr, qev_extract, nth0, nth1, nth2, qev_eqPtr, sameP_nil, notIf, qev_mkFn, callA_ok ok51, callA_ok ok53, l0, st1]
  have vn : ∀ id g off n cap ex, vc = .sl id g off n cap ex 1 → h.next.num + 1 ≤ id.num ∧ id.num < h1.next.num := fun id g off n cap ex e => by
    have := oc.old _ _ _ _ _ _ e
    omega
  refine ⟨h.next, vc, _, AmFn.dos all_code (by simp) (Dos.runRet _ (by
    intro x hx
    simp only [List.mem_cons, List.not_mem_nil, or_false] at hx
    rcases hx with q | q <;> subst q
    · exact k
    · exact kc) e1) (vs := [sv env1 2]) rfl f2, b1, oc.sl.only o2 fun id g off n cap ex e => ?_, ?_, Nat.le_refl _, fun id g off n cap ex e => ?_⟩
  · simp only [List.mem_singleton]
    intro c; subst c
    have := vn _ _ _ _ _ _ e
    omega
  · exact ((ob.trans o1).mono (S' := [h.next]) (by simp)).trans o2 |>.mono fun id hid => .inr (by simp at hid; subst hid; exact Nat.le_refl _)
  · have := vn _ _ _ _ _ _ e
    have := o2.next
    omega

/-- Copy: a net apart. -/
theorem copy_fn (a : NetAt N h p v w sent) (hw : w.length ≤ 65536) : ∃ q v' h', AmFn Try.prog 26 [.ptr p 0 0] h (.ptr q 0 0) h' ∧ NetAt h.next.num h' q v' w sent ∧ Only [] h h' := by
  have k := there_fn a.st
  obtain ⟨env1, e1, f0⟩ : ∃ env', runS Try.prog false copy_fu.body [⟨51, [.ptr p 0 0], h, .bool true, h⟩] (setArgs .e 0 [.ptr p 0 0]) h = some (.upt [.code (.drawn copy_3), .code .ret], [], env', h) ∧ sv env' 0 = .ptr p 0 0 := by
    simp [copy_fu, copy_0, copy_1, runS, runR, Rs.seq, Rs.block, sv_args, runOps, wanted_no, wanted_sv, ev_tm, ev_vl, sv_setD, sv_set, setD_none, qev_mov, qev_bin, qev_un, qev_lenI, qev_pick, qev_load1, qev_idxSl, idx2_sl, idxA2_ptr, opt_some, bin_add, bin_sub, bin_mul, bin_lss, bin_leq, bin_gtr, bin_geq, bin_eql, bin_neq, un_not, un_neg, qev_callv, qev_new1, qev_store1, qev_nilC, nilC_ptr, qev_fld, fldA_ptr, qev_extract, nth0, nth1, nth2, qev_eqPtr, sameP_nil, notIf, callA_ok ok51]
  have os := skipH_only h
  have ns := skipH_next h
  have aS := a.more os
  have es : (⟨h.heap, h.next.succ, h.ser, h.lim⟩ : Hp) = skipH h := rfl
  obtain ⟨vc, h1, kc, oc, nzc, o1⟩ := clone_fn aS.way aS.nz (by omega)
  obtain ⟨b1, n1⟩ := kc.begins
  have hsound := recF_sound (P := Try.prog) (fr := fun k => frOf Try.prog k.f k.args) (A := [⟨53, [v], skipH h, vc, h1⟩]) (by
      intro k hk
      simp only [List.mem_cons, List.not_mem_nil, or_false] at hk
      subst hk
      exact ⟨kc, b1⟩)
  have R1 : recF [⟨53, [v], skipH h, vc, h1⟩] (fun k => frOf Try.prog k.f k.args) ⟨frOf Try.prog 53 [v], [], skipH h⟩ = .done vc h1 := by
    simp [recF, n1]
  generalize (recF [⟨53, [v], skipH h, vc, h1⟩] fun k => frOf Try.prog k.f k.args) = R at *
  have l0 := aS.l0
  have p1 := aS.st.only o1 (by simp)
  have m1 : read1 h1 p 0 1 = some (int64 sent) := p1.one (i := 1) (by simp)
  have m1s : read1 (skipH h) p 0 1 = some (int64 sent) := aS.l1
  have hcells : vc.cells = [vc] := oc.sl.atom.2
  obtain ⟨env', acts, lds, e2, f2⟩ : ∃ env' acts lds, runE Try.prog R 0 copy_3 ⟨[], [], [], h.next, env1, skipH h⟩ = some ⟨acts, lds, [⟨10, h.next, .cells h1.ser (Cells.ofL [vc, int64 sent, .bool true]) 0 0 0 0 false false⟩], h.next.succ, env', h1⟩ ∧ sv env' 2 = .ptr h.next 0 0 := by
    have hn : ∀ id ser lim b, T.get id (newH ⟨.e, id, ser, lim⟩ b).heap = some (b ser) := fun id ser lim b => newH_get ⟨.e, id, ser, lim⟩ b
    have hz : ∀ hh : Hp, (⟨hh.heap, hh.next, hh.ser, hh.lim⟩ : Hp) = hh := fun _ => rfl
    simp [copy_3, runE, stepE, stepD, kindOf, lookBack, lookAgain, actO, insT, putT, remAl, bit, wanted_no, ev_tm, ev_vl, sv_setD, setD_none, qev_mov, opt_some, qev_nilC, nilC_ptr, qev_fld, fldA_ptr, qev_load1, qev_callv, callA_ok ok53, qev_build, fillA, hcells, show ∀ z : Int, (int64 z).cells = [int64 z] from fun _ => rfl, show ∀ z : Bool, (AV.bool z).cells = [.bool z] from fun _ => rfl, show ∀ z : List AV, (AV.agg z).cells = z from fun _ => rfl, T.get_set, eqAV_int8, qev_boxL, f0, l0, m1, m1s, b1, R1, hz, show Nat.ble 3 3 = true from rfl, show Nat.ble 2 3 = true from rfl, show Nat.ble 1 3 = true from rfl, hn]
  have oF := layH_only h1 h.next (.cells h1.ser (Cells.ofL [vc, int64 sent, .bool true]) 0 0 0 0 false false)
  have aF := layH_arr (h := h1) (id := h.next) (by have := o1.next; omega) h1.ser [vc, int64 sent, .bool true]
  have hsk : skipIds copy_3 h.next = h.next.succ := by simp [copy_3, skipIds, isAlloc, kindOf]
  have e3 := runDrawn_ofE1 (P := Try.prog) (rec := R) (l := copy_3) (env := env1) (h := h) (by rw [hsk, es]; exact e2)
  have vn : ∀ id g off n cap ex, vc = .sl id g off n cap ex 1 → h.next.num + 1 ≤ id.num := fun id g off n cap ex e => by
    have := (oc.old _ _ _ _ _ _ e).1
    omega
  have vne : ∀ g off n cap ex, vc ≠ .sl h.next g off n cap ex 1 := fun g off n cap ex e => by have := vn _ _ _ _ _ _ e; omega
  refine ⟨h.next, vc, _, AmFn.dos copy_code (by simp) (Dos.run (M := []) _ (by intro x hx; simp at hx; subst hx; exact k) e1 (.more (M := []) (M1 := []) (Dos.drawn hsound e3) (.ret .ret))) (vs := [sv env' 2]) rfl f2, ⟨aF, ?_, vne, Nat.le_refl _, nzc⟩, ?_⟩
  · rcases oc with q | ⟨id, g, k1, k2, k3⟩
    · exact .inl q
    · exact .inr ⟨id, g, by omega, k2, k3.only oF (by simp only [List.mem_singleton]; intro c; subst c; exact vne _ _ _ _ _ k2)⟩
  · exact ((os.trans o1).mono (S' := [h.next]) (by simp)).trans oF |>.mono fun id hid => .inr (by simp at hid; subst hid; exact Nat.le_refl _)
end
end Go.Proofs.Ytmifpiglcphmoaa.Plays
