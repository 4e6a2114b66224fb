import Derived.Test.YtmifpiglcphmoaaCountsA
/- THE WALK'S PARTS, part B: what the functions of the law compute, over the abstract machine that stands beside this text. No condition. -/
set_option linter.unusedSimpArgs false
set_option linter.unusedVariables false
namespace Go.Proofs.Ytmifpiglcphmoaa.Counts
open Go Go.Proofs.Ytmifpiglcphmoaa.Am Go.Proofs

theorem ok10 : okCall Try.prog 10 = true := by kernel_rfl
theorem ok11 : okCall Try.prog 11 = true := by kernel_rfl
theorem ok12 : okCall Try.prog 12 = true := by kernel_rfl
theorem ok13 : okCall Try.prog 13 = true := by kernel_rfl
theorem ok14 : okCall Try.prog 14 = true := by kernel_rfl
theorem ok15 : okCall Try.prog 15 = true := by kernel_rfl
theorem ok16 : okCall Try.prog 16 = true := by kernel_rfl
theorem ok9 : okCall Try.prog 9 = true := by kernel_rfl
theorem ok29 : okCall Try.prog 29 = true := by kernel_rfl
theorem ok49 : okCall Try.prog 49 = true := by kernel_rfl
theorem ok50 : okCall Try.prog 50 = true := by kernel_rfl
theorem ok78 : okCall Try.prog 78 = true := by kernel_rfl

/-- A net of ints, as it lies in memory. -/
structure NetAt (N : Nat) (h : Hp) (p : Pos) (v : AV) (w : List Int) (sent : Int) : Prop where
  st : Arr h p [v, int64 sent, .bool true]
  way : Own N h v (w.map int64)
  ne : ∀ g off n cap ex, v ≠ .sl p g off n cap ex 1
  pN : N ≤ p.num

theorem NetAt.only {N : Nat} {h h' : Hp} {p : Pos} {v : AV} {w : List Int} {sent : Int} {S : List Pos} (a : NetAt N h p v w sent) (m : Only S h h') (hp : p ∉ S) (hv : ∀ id g off n cap ex, v = .sl id g off n cap ex 1 → id ∉ S) : NetAt N h' p v w sent :=
  ⟨a.st.only m hp, a.way.only m fun id g e => hv _ _ _ _ _ _ e, a.ne, a.pN⟩

theorem NetAt.more {N : Nat} {h h' : Hp} {p : Pos} {v : AV} {w : List Int} {sent : Int} (a : NetAt N h p v w sent) (m : Only [] h h') : NetAt N h' p v w sent := a.only m (by simp) (by simp)

theorem new_fn (h : Hp) : ∃ h', AmFn Try.prog 9 [] h (.ptr h.next 0 0) h' ∧ NetAt h.next.num h' h.next .nilSl [] 0 ∧ Only [] h h' := by
  obtain ⟨env', e, f⟩ : ∃ env', runS Try.prog true new_fu.body [] (setArgs .e 0 []) h = some (.ret, [], env', newH h fun s => .cells s (Cells.ofL [.nilSl, int64 0, .bool true]) 0 0 0 0 false false) ∧ sv env' 0 = .ptr h.next 0 0 := by
    simp [new_fu, new_0, new_1, runS, runR, runOps, wanted_no, wanted_sv, ev_tm, ev_vl, sv_setD, sv_set, setD_none, qev_mov, qev_bin, qev_un, qev_lenI, qev_pick, qev_load1, qev_idxSl, idx2_sl, idxA2_ptr, opt_some, bin_add, bin_sub, bin_mul, bin_lss, bin_leq, bin_gtr, bin_geq, bin_eql, bin_neq, un_not, un_neg, qev_callv, qev_new1, qev_store1, qev_nilC, nilC_ptr, qev_fld, fldA_ptr, qev_extract, nth0, nth1, nth2, qev_eqPtr, sameP_nil, notIf, qev_build, fillA, AV.cells, qev_boxL, show Nat.ble 3 3 = true from rfl]
  exact ⟨_, AmFn.dos new_code (by simp) (Dos.runRet [] (by simp) e) (vs := [sv env' 0]) rfl f, ⟨newH_arr _ _, .inl ⟨rfl, rfl⟩, by simp, Nat.le_refl _⟩, newH_only _ _ _⟩

theorem there_fn {h : Hp} {p : Pos} {v s : AV} (a : Arr h p [v, s, .bool true]) : AmFn Try.prog 49 [.ptr p 0 0] h (.bool true) h := by
  have l2 : read1 h p 0 2 = some (.bool true) := a.one (i := 2) (by simp)
  obtain ⟨env', e, f⟩ : ∃ env', runS Try.prog true there_fu.body [] (setArgs .e 0 [.ptr p 0 0]) h = some (.ret, [], env', h) ∧ sv env' 2 = .bool true := by
    simp [there_fu, there_0, there_1, runS, runR, sv_args, runOps, wanted_no, wanted_sv, ev_tm, ev_vl, sv_setD, sv_set, setD_none, qev_mov, qev_bin, qev_un, qev_lenI, qev_pick, qev_load1, qev_idxSl, idx2_sl, idxA2_ptr, opt_some, bin_add, bin_sub, bin_mul, bin_lss, bin_leq, bin_gtr, bin_geq, bin_eql, bin_neq, un_not, un_neg, qev_callv, qev_new1, qev_store1, qev_nilC, nilC_ptr, qev_fld, fldA_ptr, qev_extract, nth0, nth1, nth2, qev_eqPtr, sameP_nil, notIf, l2]
  exact AmFn.dos there_code (by simp) (Dos.runRet [] (by simp) e) (vs := [sv env' 2]) rfl f

section
variable {N : Nat} {h : Hp} {p : Pos} {v : AV} {w : List Int} {sent : Int}

theorem NetAt.l0 (a : NetAt N h p v w sent) : read1 h p 0 0 = some v := a.st.one (i := 0) (by simp)
theorem NetAt.l1 (a : NetAt N h p v w sent) : read1 h p 0 1 = some (int64 sent) := a.st.one (i := 1) (by simp)
theorem NetAt.len (a : NetAt N h p v w sent) : ∀ env x, ev env x = v → evalOp Try.prog (.lenL x) env h = .val (int64 w.length) h := fun env x hx => by simpa using a.way.sl.len Try.prog env x hx

theorem len_fn (a : NetAt N h p v w sent) : AmFn Try.prog 12 [.ptr p 0 0] h (int64 w.length) h := by
  have k := there_fn a.st
  have l0 := a.l0
  have hl := a.len
  obtain ⟨env', e, f⟩ : ∃ env', runS Try.prog true len_fu.body [⟨49, [.ptr p 0 0], h, .bool true, h⟩] (setArgs .e 0 [.ptr p 0 0]) h = some (.ret, [], env', h) ∧ sv env' 2 = int64 w.length := by
    simp [len_fu, len_0, len_1, len_3, runS, runR, Rs.seq, sv_args, runOps, wanted_no, ev_tm, ev_vl, sv_setD, qev_mov, qev_un, un_not, opt_some, qev_callv, qev_nilC, nilC_ptr, qev_fld, fldA_ptr, qev_load1, callA_ok ok49, l0, hl]
  exact AmFn.dos len_code (by simp) (Dos.runRet _ (by intro x hx; simp at hx; subst hx; exact k) e) (vs := [sv env' 2]) rfl f

theorem sent_fn (a : NetAt N h p v w sent) : AmFn Try.prog 15 [.ptr p 0 0] h (int64 sent) h := by
  have k := there_fn a.st
  have l1 := a.l1
  obtain ⟨env', e, f⟩ : ∃ env', runS Try.prog true sent_fu.body [⟨49, [.ptr p 0 0], h, .bool true, h⟩] (setArgs .e 0 [.ptr p 0 0]) h = some (.ret, [], env', h) ∧ sv env' 2 = int64 sent := by
    simp [sent_fu, sent_0, sent_1, sent_3, runS, runR, Rs.seq, sv_args, runOps, wanted_no, wanted_sv, ev_tm, ev_vl, sv_setD, sv_set, setD_none, qev_mov, qev_bin, qev_un, qev_lenI, qev_pick, qev_load1, qev_idxSl, idx2_sl, idxA2_ptr, opt_some, bin_add, bin_sub, bin_mul, bin_lss, bin_leq, bin_gtr, bin_geq, bin_eql, bin_neq, un_not, un_neg, qev_callv, qev_new1, qev_store1, qev_nilC, nilC_ptr, qev_fld, fldA_ptr, qev_extract, nth0, nth1, nth2, qev_eqPtr, sameP_nil, notIf, callA_ok ok49, l1]
  exact AmFn.dos sent_code (by simp) (Dos.runRet _ (by intro x hx; simp at hx; subst hx; exact k) e) (vs := [sv env' 2]) rfl f

theorem SlR.lenI {l : List Int} {v2 : AV} {h : Hp} (r : SlR h v2 (l.map int64)) : ∀ env x, ev env x = v2 → evalOp Try.prog (.lenL x) env h = .val (int64 l.length) h := fun env x hx => by simpa using r.len Try.prog env x hx

/-- Send, where there is room. -/
theorem send_fn (a : NetAt N h p v w sent) {v2 : AV} {l : List Int} (hv : SlR h v2 (l.map int64)) (h2 : ∀ id g off n cap ex, v2 = .sl id g off n cap ex 1 → id ≠ p ∧ ∀ g' off' n' cap' ex', v ≠ .sl id g' off' n' cap' ex' 1) (hroom : w.length + l.length ≤ 65536) (hs : 0 ≤ sent ∧ sent + l.length < 4611686018427387904) (hN : N ≤ h.next.num) :
    ∃ v' h' S, AmFn Try.prog 10 [.ptr p 0 0, v2] h (int64 0) h' ∧ NetAt N h' p v' (w ++ l) (sent + l.length) ∧ Only S h h' ∧ (∀ id ∈ S, id = p ∨ ∃ g off n cap ex, v = .sl id g off n cap ex 1) ∧
      (∀ id g off n cap ex, v' = .sl id g off n cap ex 1 → (∃ g off n cap ex, v = .sl id g off n cap ex 1) ∨ h.next.num ≤ id.num) := by
  have k := there_fn a.st
  have l0 := a.l0
  have l1 := a.l1
  have hl := a.len
  have hl2 := SlR.lenI hv
  obtain ⟨v', h1, S, ap, ow, o1, hS, hv'⟩ := a.way.push Try.prog (bytes := 8) hv (by intro y hy; simp at hy; obtain ⟨_, _, rfl⟩ := hy; rfl) (by simp; omega) (by omega) hN
  have pS : p ∉ S := fun c => by
    obtain ⟨_, g, off, n, cap, ex, e⟩ := hS _ c
    exact a.ne _ _ _ _ _ e
  have hp1 := a.st.only o1 pS
  have at1 := ow.sl.atom
  have st1 := storeR_arr hp1 (i := 0) (by simp) v' at1.1 at1.2
  have a1 := putA_arr hp1 (i := 0) (by simp) v'
  have o2 := putA_only h1 p 0 v'
  have v'p : ∀ g off n cap ex, v' ≠ .sl p g off n cap ex 1 := fun g off n cap ex e => by
    rcases hv' _ _ _ _ _ _ e with ⟨g, off, n, cap, ex, q⟩ | q
    · exact a.ne _ _ _ _ _ q
    · have := a.st.old; omega
  have hl2' : ∀ env x, ev env x = v2 → evalOp Try.prog (.lenL x) env (putA h1 p 0 v') = .val (int64 l.length) (putA h1 p 0 v') := SlR.lenI ((hv.only o1 fun id g off n cap ex e c => by
    obtain ⟨_, g', off', n', cap', ex', q⟩ := hS _ c
    exact (h2 _ _ _ _ _ _ e).2 _ _ _ _ _ q).only o2 fun id g off n cap ex e => by simpa using (h2 _ _ _ _ _ _ e).1)
  have l1' : read1 (putA h1 p 0 v') p 0 1 = some (int64 sent) := a1.one (i := 1) (by simp)
  have st2 := storeR_arr a1 (i := 1) (by simp) (int64 (sent + l.length)) rfl rfl
  have a2 := putA_arr a1 (i := 1) (by simp) (int64 (sent + l.length))
  have o3 := putA_only (putA h1 p 0 v') p 1 (int64 (sent + l.length))
  have hsub : wrapA .i64 (65536 - (w.length : Int)) = 65536 - (w.length : Int) := wrap64 (by omega) (by omega)
  have hadd : wrapA .i64 (sent + (l.length : Int)) = sent + l.length := wrap64 (by omega) (by omega)
  have hgt : ¬ (65536 - (w.length : Int) < (l.length : Int)) := by omega
  obtain ⟨env', e, f⟩ : ∃ env', runS Try.prog true send_fu.body [⟨49, [.ptr p 0 0], h, .bool true, h⟩] (setArgs .e 0 [.ptr p 0 0, v2]) h = some (.ret, [], env', putA (putA h1 p 0 v') p 1 (int64 (sent + l.length))) ∧ sv env' 4 = int64 0 := by
    simp [send_fu, send_0, send_1, send_3, send_5, send_6, send_7, runS, runR, Rs.seq, sv_args, runOps, wanted_no, ev_tm, ev_vl, sv_setD, setD_none, qev_mov, qev_un, un_not, qev_bin, bin_sub, bin_gtr, bin_add, opt_some, qev_callv, qev_nilC, nilC_ptr, qev_fld, fldA_ptr, qev_load1, qev_store1, callA_ok ok49, l0, hl, hl2, hsub, hgt, ap, st1, l1', hl2', hadd, st2]
  refine ⟨v', _, p :: S, AmFn.dos send_code (by simp) (Dos.runRet _ (by intro x hx; simp at hx; subst hx; exact k) e) (vs := [sv env' 4]) rfl f, ⟨a2, ?_, v'p, a.pN⟩, ?_, fun id hid => ?_, hv'⟩
  · rw [List.map_append]
    exact (ow.only o2 fun id g q => by simp only [List.mem_singleton]; intro c; rw [c] at q; exact v'p _ _ _ _ _ q).only o3 fun id g q => by simp only [List.mem_singleton]; intro c; rw [c] at q; exact v'p _ _ _ _ _ q
  · exact ((o1.mono fun id hid => .inl (by simp [hid])).trans (o2.mono fun id hid => .inl (by simp at hid; simp [hid]))).trans (o3.mono fun id hid => .inl (by simp at hid; simp [hid]))
  · rcases List.mem_cons.1 hid with q | q
    · exact .inl q
    · exact .inr (hS _ q).2
end
end Go.Proofs.Ytmifpiglcphmoaa.Counts

namespace Go.Proofs.Ytmifpiglcphmoaa.Counts
open Go Go.Proofs.Ytmifpiglcphmoaa.Am Go.Proofs

section
variable {N : Nat} {h : Hp} {p : Pos} {v : AV} {w : List Int} {sent : Int}

/-- At, where there is one. -/
theorem at_fn (a : NetAt N h p v w sent) {i : Nat} (hi : i < w.length) (hw : w.length < 4611686018427387904) : AmFn Try.prog 29 [.ptr p 0 0, int64 i] h (.tup [int64 w[i], int64 0]) h := by
  have k := there_fn a.st
  have l0 := a.l0
  obtain ⟨id, g, off, cap, ex, hv', row⟩ := a.way.sl.sl_or (x := int64 w[i]) (by simp)
  have hone := row.one i (by simpa using hi)
  simp [List.getElem?_eq_getElem hi] at hone
  have h0 : ¬ ((i : Int) < 0) := by omega
  have h1 : ¬ ((w.length : Int) ≤ i) := by omega
  rw [hv'] at l0
  obtain ⟨env', e, f4, f5⟩ : ∃ env', runS Try.prog true at__fu.body [⟨49, [.ptr p 0 0], h, .bool true, h⟩] (setArgs .e 0 [.ptr p 0 0, int64 i]) h = some (.ret, [], env', h) ∧ sv env' 4 = int64 w[i] ∧ sv env' 5 = int64 0 := by
    simp [at__fu, at__0, at__1, at__2, at__4, at__6, runS, runR, Rs.seq, Rs.block, sv_args, runOps, wanted_no, wanted_sv, ev_tm, ev_vl, sv_setD, sv_set, setD_none, qev_mov, qev_bin, qev_un, qev_lenI, qev_pick, qev_load1, qev_idxSl, idx2_sl, idxA2_ptr, opt_some, bin_add, bin_sub, bin_mul, bin_lss, bin_leq, bin_gtr, bin_geq, bin_eql, bin_neq, un_not, un_neg, qev_callv, qev_new1, qev_store1, qev_nilC, nilC_ptr, qev_fld, fldA_ptr, qev_extract, nth0, nth1, nth2, qev_eqPtr, sameP_nil, notIf, callA_ok ok49, l0, h0, h1, hi, hone]
  exact AmFn.dos at__code (by simp) (Dos.runRet _ (by intro x hx; simp at hx; subst hx; exact k) e) (vs := [sv env' 4, sv env' 5]) rfl (by rw [f4, f5]; rfl)
end

theorem qev_cap_nil (P : Program) {env : T AV} {h : Hp} {x : Opd} (hx : ev env x = .nilSl) : evalOp P (.cap x) env h = .val (int64 0) h := by
  show (match ev env x with
    | .nilSl => Res.val (.int .i64 (.ofNat 0)) h
    | .sl _ _ _ _ cap true _ => .val (.int .i64 (.ofNat cap)) h
    | _ => .fail "cap") = _
  rw [hx]; rfl

theorem slice_nil (P : Program) {env : T AV} {h : Hp} {x y : Opd} (hx : ev env x = .nilSl) (hy : ev env y = int64 0) : evalOp P (.sliceSl 1 x none (some y) none) env h = .val .nilSl h := by
  have e : evalOp P (.sliceSl 1 x none (some y) none) env h = (match ev env x with
    | .nilSl => (match evO env none 0, evO env (some y) 0, evO env none 0 with
      | some 0, some 0, some 0 => .val .nilSl h
      | _, _, _ => .fail "sliceSl nil")
    | .sl id g off len cap ex es' =>
      (match evO env none 0, evO env (some y) len, evO env none cap with
      | some l, some r, some m =>
        bif Nat.beq 1 es' && Nat.ble l r && Nat.ble r m && Nat.ble m cap then
          natK (Nat.sub r l) fun n => natK (Nat.sub m l) fun c => natK (Nat.add off (Nat.mul l 1)) fun off' =>
            .val (.sl id g (bif Nat.beq l m && (bif ex then true else (none : Option Opd).isSome) then off else off') n c (bif ex then true else (none : Option Opd).isSome) 1) h
        else .fail "sliceSl bounds"
      | _, _, _ => .fail "sliceSl")
    | _ => .fail "sliceSl what") := rfl
  rw [e, hx, show evO env (some y) 0 = some 0 from evO_int (n := 0) (by simpa using hy)]
  rfl

/-- Grow of the nil slice. -/
theorem grow_fn (h : Hp) (n : Nat) (hn : n ≤ 1073741824) : ∃ v' h', AmFn Try.prog 78 [.nilSl, int64 n] h v' h' ∧ Only [] h h' ∧ ((n = 0 ∧ v' = .nilSl ∧ h' = h) ∨ (0 < n ∧ v' = .sl h.next 0 0 0 n false 1 ∧ Arr h' h.next (List.replicate n (int64 0)) ∧ h'.next.num = h.next.num + 1)) := by
  have hneg : ¬ ((n : Int) < 0) := by omega
  have w0 : wrapA .i64 (0 : Int) = 0 := wrap64 (by omega) (by omega)
  have wn : wrapA .i64 (n : Int) = n := wrap64 (by omega) (by omega)
  by_cases h0 : n = 0
  · subst h0
    obtain ⟨env', e, f⟩ : ∃ env', runS Try.prog true grow_fu.body [] (setArgs .e 0 [.nilSl, int64 ((0 : Nat) : Int)]) h = some (.ret, [], env', h) ∧ sv env' 4 = .nilSl := by
      simp [grow_fu, grow_0, grow_1, grow_3, grow_4, grow_6, runS, runR, Rs.seq, Rs.block, sv_args, runOps, wanted_no, wanted_sv, ev_tm, ev_vl, sv_setD, sv_set, setD_none, qev_mov, qev_bin, qev_un, qev_lenI, qev_pick, qev_load1, qev_idxSl, idx2_sl, idxA2_ptr, opt_some, bin_add, bin_sub, bin_mul, bin_lss, bin_leq, bin_gtr, bin_geq, bin_eql, bin_neq, un_not, un_neg, qev_callv, qev_new1, qev_store1, qev_nilC, nilC_ptr, qev_fld, fldA_ptr, qev_extract, nth0, nth1, nth2, qev_eqPtr, sameP_nil, notIf, qev_cap_nil, w0]
    exact ⟨.nilSl, h, AmFn.dos grow_code (by simp) (Dos.runRet [] (by simp) e) (vs := [sv env' 4]) rfl f, .refl _ _, .inl ⟨rfl, rfl, rfl⟩⟩
  · have hpos : 0 < n := by omega
    have hpos' : (0 : Int) < n := by omega
    have az : ∀ env s x, ev env s = .nilSl → ev env x = int64 (n : Int) → evalOp Try.prog (.appendZ 1 8 [int64 0] s x) env h = .val (.sl h.next 0 0 n n false 1) (newH h fun s => .cells s (Cells.ofL (List.replicate n (int64 0))) 0 0 0 0 false false) :=
      fun env s x hs hx => appendZ_new Try.prog hs hx hpos hn (by omega)
    have sl0 : ∀ (env : T AV) (h : Hp) (id : Pos) (x y : Opd), ev env x = .sl id 0 0 n n false 1 → ev env y = int64 0 → evalOp Try.prog (.sliceSl 1 x none (some y) none) env h = .val (.sl id 0 0 0 n false 1) h := fun env h id x y hx hy => by
      have q := slice_ev Try.prog (lo := none) (hi := some y) (l := 0) (r := 0) (h := h) hx rfl (evO_int (n := 0) (by simpa using hy)) (Nat.le_refl _) (Nat.zero_le _)
      simpa using q
    have sn : ∀ (env : T AV) (h : Hp) (x y : Opd), ev env x = .nilSl → ev env y = int64 0 → evalOp Try.prog (.sliceSl 1 x none (some y) none) env h = .val .nilSl h := fun env h x y hx hy => slice_nil Try.prog hx hy
    obtain ⟨env', e, f⟩ : ∃ env', runS Try.prog true grow_fu.body [] (setArgs .e 0 [.nilSl, int64 (n : Int)]) h = some (.ret, [], env', newH h fun s => .cells s (Cells.ofL (List.replicate n (int64 0))) 0 0 0 0 false false) ∧ sv env' 4 = .sl h.next 0 0 0 n false 1 := by
      simp [grow_fu, grow_0, grow_1, grow_3, grow_4, grow_5, grow_6, runS, runR, Rs.seq, Rs.block, sv_args, runOps, wanted_no, wanted_sv, ev_tm, ev_vl, sv_setD, sv_set, setD_none, qev_mov, qev_bin, qev_un, qev_lenI, qev_pick, qev_load1, qev_idxSl, idx2_sl, idxA2_ptr, opt_some, bin_add, bin_sub, bin_mul, bin_lss, bin_leq, bin_gtr, bin_geq, bin_eql, bin_neq, un_not, un_neg, qev_callv, qev_new1, qev_store1, qev_nilC, nilC_ptr, qev_fld, fldA_ptr, qev_extract, nth0, nth1, nth2, qev_eqPtr, sameP_nil, notIf, qev_cap_nil, w0, wn, hneg, hpos, az, sl0, sn]
    exact ⟨_, _, AmFn.dos grow_code (by simp) (Dos.runRet [] (by simp) e) (vs := [sv env' 4]) rfl f, newH_only _ _ _, .inr ⟨hpos, rfl, newH_arr _ _, newH_next _ _⟩⟩
end Go.Proofs.Ytmifpiglcphmoaa.Counts

namespace Go.Proofs.Ytmifpiglcphmoaa.Counts
open Go Go.Proofs.Ytmifpiglcphmoaa.Am Go.Proofs

/-- Concat of two. -/
theorem concat_fn {h : Hp} {v0 va vb : AV} {a b : List Int} (h0 : SlR h v0 [va, vb]) (ha : SlR h va (a.map int64)) (hb : SlR h vb (b.map int64)) (hlen : a.length + b.length ≤ 1000000) :
    ∃ v' h', AmFn Try.prog 50 [v0] h v' h' ∧ Own h.next.num h' v' ((a ++ b).map int64) ∧ Only [] h h' := by
  obtain ⟨id0, g0, off0, cap0, ex0, e0, row0⟩ := h0.sl_or (x := va) (by simp)
  have o00 := row0.one 0 (by simp)
  have o01 := row0.one 1 (by simp)
  simp at o00 o01
  have hlv : ∀ h', More h h' → ∀ env x, ev env x = v0 → evalOp Try.prog (.lenL x) env h' = .val (int64 2) h' := fun h' m env x hx => by simpa using (h0.more m).len Try.prog env x hx
  have la := SlR.lenI ha
  have lb := SlR.lenI hb
  have w2 : ∀ n : Int, 0 ≤ n → n ≤ 1000001 → wrapA .i64 n = n := fun n h1 h2 => wrap64 (by omega) (by omega)
  have e0' : v0 = .sl id0 g0 off0 2 cap0 ex0 1 := e0
  -- the lengths
  obtain ⟨env1, e1, f0, f3, f9, f10, f11⟩ : ∃ env', runS Try.prog true concat_fu.body [] (setArgs .e 0 [v0]) h = some (.upt [.code (.loop concat_9), .inBlock 0, .code (.seq (.region concat_10) (.seq (.seq (.region concat_11) (.block 2 (.loop concat_16))) (.seq (.region concat_17) .ret)))], [], env', h) ∧
      sv env' 0 = v0 ∧ sv env' 3 = int64 0 ∧ sv env' 9 = v0 ∧ sv env' 10 = int64 2 ∧ sv env' 11 = int64 0 := by
    have hl0 := hlv h (.refl _)
    simp [concat_fu, concat_0, concat_1, concat_2, runS, runR, Rs.seq, Rs.block, sv_args, runOps, wanted_no, ev_tm, ev_vl, sv_setD, qev_mov, hl0]
  obtain ⟨env2, e2, k0, k3, k9, k10, k11⟩ : ∃ env', runS Try.prog true concat_9 [] env1 h = some (.upt [], [], env', h) ∧ sv env' 0 = v0 ∧ sv env' 3 = int64 a.length ∧ sv env' 9 = v0 ∧ sv env' 10 = int64 2 ∧ sv env' 11 = int64 1 := by
    have wa := w2 a.length (by omega) (by omega)
    have hneg : ¬ ((a.length : Int) < 0) := by omega
    rw [e0'] at f0 f9 ⊢
    simp [concat_9, concat_3, concat_4, concat_5, concat_6, concat_8, runS, runR, Rs.seq, Rs.block, runOps, wanted_no, ev_tm, ev_vl, sv_setD, qev_mov, qev_bin, bin_lss, bin_add, opt_some, qev_idxSl, idx2_sl, qev_load1, f0, f3, f9, f10, f11, o00, la, wa, hneg, w2]
  obtain ⟨env3, e3, m0, m3, m9, m10, m11⟩ : ∃ env', runS Try.prog true concat_9 [] env2 h = some (.upt [], [], env', h) ∧ sv env' 0 = v0 ∧ sv env' 3 = int64 ((a.length : Int) + b.length) ∧ sv env' 9 = v0 ∧ sv env' 10 = int64 2 ∧ sv env' 11 = int64 2 := by
    have wa := w2 ((a.length : Int) + b.length) (by omega) (by omega)
    have hneg : ¬ ((a.length : Int) + b.length < 0) := by omega
    rw [e0'] at k0 k9 ⊢
    simp [concat_9, concat_3, concat_4, concat_5, concat_6, concat_8, runS, runR, Rs.seq, Rs.block, runOps, wanted_no, ev_tm, ev_vl, sv_setD, qev_mov, qev_bin, bin_lss, bin_add, opt_some, qev_idxSl, idx2_sl, qev_load1, k0, k3, k9, k10, k11, o01, lb, wa, hneg, w2]
  obtain ⟨env4, e4, n0, n3⟩ : ∃ env', runS Try.prog true concat_9 [] env3 h = some (.exit 0, [], env', h) ∧ sv env' 0 = v0 ∧ sv env' 3 = int64 ((a.length : Int) + b.length) := by
    simp [concat_9, concat_3, runS, runR, Rs.seq, Rs.block, runOps, wanted_no, wanted_sv, ev_tm, ev_vl, sv_setD, sv_set, setD_none, qev_mov, qev_bin, qev_un, qev_lenI, qev_pick, qev_load1, qev_idxSl, idx2_sl, idxA2_ptr, opt_some, bin_add, bin_sub, bin_mul, bin_lss, bin_leq, bin_gtr, bin_geq, bin_eql, bin_neq, un_not, un_neg, qev_callv, qev_new1, qev_store1, qev_nilC, nilC_ptr, qev_fld, fldA_ptr, qev_extract, nth0, nth1, nth2, qev_eqPtr, sameP_nil, notIf, m0, m3, m9, m10, m11]
  have L1 : Loops Try.prog 50 concat_9 env1 h (.exit 0) [] env4 h := .more (M := []) (M1 := []) (Dos.runGo [] (by simp) e2) (.more (M := []) (M1 := []) (Dos.runGo [] (by simp) e3) (.out (Dos.runExit [] (by simp) e4) (by simp)))
  -- room, and what is laid in it
  obtain ⟨s0, h1, kg, og, hg⟩ := grow_fn h (a.length + b.length) (by omega)
  have ha1 := ha.more og.more
  have hb1 := hb.more og.more
  obtain ⟨s1, h2, s2, h3, S, ap1, ap2, ow, o2, o3, hS⟩ : ∃ s1 h2 s2 h3 S, (∀ env s x, ev env s = s0 → ev env x = va → evalOp Try.prog (.append 1 8 s x) env h1 = .val s1 h2) ∧ (∀ env s x, ev env s = s1 → ev env x = vb → evalOp Try.prog (.append 1 8 s x) env h2 = .val s2 h3) ∧
      Own h.next.num h3 s2 ((a ++ b).map int64) ∧ Only S h1 h2 ∧ Only S h2 h3 ∧ ∀ id ∈ S, h.next.num ≤ id.num := by
    rcases hg with ⟨q0, q1, q2⟩ | ⟨q0, q1, q2, q3⟩
    · subst q1 q2
      have ea : a = [] := List.length_eq_zero_iff.1 (by omega)
      have eb : b = [] := List.length_eq_zero_iff.1 (by omega)
      subst ea eb
      have no : ∀ v, SlR h1 v [] → ∀ env s x, ev env s = AV.nilSl → ev env x = v → evalOp Try.prog (.append 1 8 s x) env h1 = .val .nilSl h1 := fun v hv env s x hs hx => by
        show appendA h1 1 8 (ev env s) (ev env x) = _
        rw [hs, hx]
        generalize hq : ([] : List AV) = l0 at hv
        cases hv with
        | nil => rfl
        | mk hn r => subst hq; simp at hn; subst hn; rfl
      exact ⟨.nilSl, h1, .nilSl, h1, [], no va ha1, no vb hb1, .inl ⟨rfl, rfl⟩, .refl _ _, .refl _ _, by simp⟩
    · subst q1
      have hold := q2.old
      have at64 : ∀ l : List Int, ∀ y ∈ l.map int64, y.atom = true := fun l y hy => by simp at hy; obtain ⟨_, _, rfl⟩ := hy; rfl
      obtain ⟨h2, c1, c2, c3, c4⟩ := append_room Try.prog (k := 0) (cap := a.length + b.length) (bytes := 8) q2.gro ha1 (by simp) (by simp) (by simp; omega) (by omega) (at64 a)
      have hb2 : SlR h2 vb (b.map int64) := hb1.only c3 fun id g off n cap ex e => by
        have : id.num < h.next.num := by
          have hbo := hb
          rw [e] at hbo
          cases hbo with
          | mk _ r => exact r.old
        simp only [List.mem_singleton]
        intro c; rw [c] at this; omega
      obtain ⟨h3, d1, d2, d3, d4⟩ := append_room Try.prog (k := a.length) (cap := a.length + b.length) (bytes := 8) c2 hb2 (by simp) (by simp) (by simp; omega) (by omega) (at64 b)
      refine ⟨_, h2, _, h3, [h.next], c1, fun env s x hs hx => d1 env s x (by rw [hs]; simp) hx, .inr ⟨h.next, 0, Nat.le_refl _, by simp, ?_⟩, c3, d3, by simp⟩
      have : (List.map int64 a ++ List.drop (a.length) (List.replicate (a.length + b.length) (int64 0))).take a.length ++ List.map int64 b ++ (List.map int64 a ++ List.drop a.length (List.replicate (a.length + b.length) (int64 0))).drop (a.length + b.length) = (a ++ b).map int64 := by
        rw [List.take_left' (by simp), List.drop_eq_nil_of_le (by simp), List.append_nil, List.map_append]
      simp only [List.take_zero, List.nil_append, List.length_map, Nat.zero_add] at d2
      rw [this] at d2
      exact d2
  have more2 : ∀ h', Only S h1 h' → read1 h' id0 g0 off0 = some va ∧ read1 h' id0 g0 (off0 + 1) = some vb := fun h' o => by
    have ho := row0.old
    have r1 := (row0.more og.more).only o fun c => by have := hS _ c; omega
    have p0 := r1.one 0 (by simp)
    have p1 := r1.one 1 (by simp)
    simp at p0 p1
    exact ⟨p0, p1⟩
  obtain ⟨z0, _⟩ := more2 h1 (.refl _ _)
  obtain ⟨_, z1⟩ := more2 h2 o2
  have hl1 := hlv h1 og.more
  obtain ⟨env5, e5, p6, p25, p26, p27⟩ : ∃ env', runS Try.prog true (.seq (.region concat_10) (.seq (.seq (.region concat_11) (.block 2 (.loop concat_16))) (.seq (.region concat_17) .ret))) [⟨78, [.nilSl, int64 ((a.length : Int) + b.length)], h, s0, h1⟩] env4 h =
      some (.upt [.code (.loop concat_16), .inBlock 2, .code (.seq (.region concat_17) .ret)], [], env', h1) ∧ sv env' 6 = s0 ∧ sv env' 25 = v0 ∧ sv env' 26 = int64 2 ∧ sv env' 27 = int64 0 := by
    simp [concat_10, concat_11, runS, runR, Rs.seq, Rs.block, runOps, wanted_no, ev_tm, ev_vl, sv_setD, qev_mov, qev_callv, callA_ok ok78, n0, n3, hl1]
  obtain ⟨env6, e6, r6, r25, r26, r27⟩ : ∃ env', runS Try.prog true concat_16 [] env5 h1 = some (.upt [], [], env', h2) ∧ sv env' 6 = s1 ∧ sv env' 25 = v0 ∧ sv env' 26 = int64 2 ∧ sv env' 27 = int64 1 := by
    rw [e0'] at p25 ⊢
    simp [concat_16, concat_12, concat_13, concat_14, concat_15, runS, runR, Rs.seq, Rs.block, runOps, wanted_no, wanted_sv, ev_tm, ev_vl, sv_setD, sv_set, setD_none, qev_mov, qev_bin, qev_un, qev_lenI, qev_pick, qev_load1, qev_idxSl, idx2_sl, idxA2_ptr, opt_some, bin_add, bin_sub, bin_mul, bin_lss, bin_leq, bin_gtr, bin_geq, bin_eql, bin_neq, un_not, un_neg, qev_callv, qev_new1, qev_store1, qev_nilC, nilC_ptr, qev_fld, fldA_ptr, qev_extract, nth0, nth1, nth2, qev_eqPtr, sameP_nil, notIf, p6, p25, p26, p27, z0, ap1, w2]
  obtain ⟨env7, e7, t6, t25, t26, t27⟩ : ∃ env', runS Try.prog true concat_16 [] env6 h2 = some (.upt [], [], env', h3) ∧ sv env' 6 = s2 ∧ sv env' 25 = v0 ∧ sv env' 26 = int64 2 ∧ sv env' 27 = int64 2 := by
    rw [e0'] at r25 ⊢
    simp [concat_16, concat_12, concat_13, concat_14, concat_15, runS, runR, Rs.seq, Rs.block, runOps, wanted_no, wanted_sv, ev_tm, ev_vl, sv_setD, sv_set, setD_none, qev_mov, qev_bin, qev_un, qev_lenI, qev_pick, qev_load1, qev_idxSl, idx2_sl, idxA2_ptr, opt_some, bin_add, bin_sub, bin_mul, bin_lss, bin_leq, bin_gtr, bin_geq, bin_eql, bin_neq, un_not, un_neg, qev_callv, qev_new1, qev_store1, qev_nilC, nilC_ptr, qev_fld, fldA_ptr, qev_extract, nth0, nth1, nth2, qev_eqPtr, sameP_nil, notIf, r6, r25, r26, r27, z1, ap2, w2]
  obtain ⟨env8, e8, u6⟩ : ∃ env', runS Try.prog true concat_16 [] env7 h3 = some (.exit 2, [], env', h3) ∧ sv env' 6 = s2 := by
    simp [concat_16, concat_12, runS, runR, Rs.seq, Rs.block, runOps, wanted_no, wanted_sv, ev_tm, ev_vl, sv_setD, sv_set, setD_none, qev_mov, qev_bin, qev_un, qev_lenI, qev_pick, qev_load1, qev_idxSl, idx2_sl, idxA2_ptr, opt_some, bin_add, bin_sub, bin_mul, bin_lss, bin_leq, bin_gtr, bin_geq, bin_eql, bin_neq, un_not, un_neg, qev_callv, qev_new1, qev_store1, qev_nilC, nilC_ptr, qev_fld, fldA_ptr, qev_extract, nth0, nth1, nth2, qev_eqPtr, sameP_nil, notIf, t6, t25, t26, t27]
  obtain ⟨env9, e9, x2⟩ : ∃ env', runS Try.prog true (.seq (.region concat_17) .ret) [] env8 h3 = some (.ret, [], env', h3) ∧ sv env' 2 = s2 := by
    simp [concat_17, runS, runR, Rs.seq, Rs.block, runOps, wanted_no, wanted_sv, ev_tm, ev_vl, sv_setD, sv_set, setD_none, qev_mov, qev_bin, qev_un, qev_lenI, qev_pick, qev_load1, qev_idxSl, idx2_sl, idxA2_ptr, opt_some, bin_add, bin_sub, bin_mul, bin_lss, bin_leq, bin_gtr, bin_geq, bin_eql, bin_neq, un_not, un_neg, qev_callv, qev_new1, qev_store1, qev_nilC, nilC_ptr, qev_fld, fldA_ptr, qev_extract, nth0, nth1, nth2, qev_eqPtr, sameP_nil, notIf, u6]
  have L2 : Loops Try.prog 50 concat_16 env5 h1 (.exit 2) [] env8 h3 := .more (M := []) (M1 := []) (Dos.runGo [] (by simp) e6) (.more (M := []) (M1 := []) (Dos.runGo [] (by simp) e7) (.out (Dos.runExit [] (by simp) e8) (by simp)))
  refine ⟨s2, h3, AmFn.dos concat_code (by simp) (Dos.run (M := []) [] (by simp) e1 (.leave (M := []) (M1 := []) (i := 0) (Dos.loop L1) rfl
    (DosL.dos (Dos.run (M := []) _ (by intro x hx; simp at hx; subst hx; exact kg) e5 (.leave (M := []) (M1 := []) (i := 2) (Dos.loop L2) rfl (.ret (Dos.runRet [] (by simp) e9))))))) (vs := [sv env9 2]) rfl x2, ow, ?_⟩
  exact (og.mono (by simp)).trans ((o2.trans o3)) |>.mono fun id hid => .inr (hS id hid)
end Go.Proofs.Ytmifpiglcphmoaa.Counts

namespace Go.Proofs.Ytmifpiglcphmoaa.Counts
open Go Go.Proofs.Ytmifpiglcphmoaa.Am Go.Proofs

section
variable {N : Nat} {h : Hp} {p : Pos} {v : AV} {w : List Int} {sent : Int}

theorem take_drawn (a : NetAt N h p v w sent) {i : Nat} (hi : i < w.length) (hw : w.length ≤ 1000000) {env : T AV} (s0 : sv env 0 = .ptr p 0 0) (s1 : sv env 1 = int64 i) :
    ∃ rec env' h' v', Sound Try.prog rec ∧ runDrawn Try.prog rec take_3 env h = some (env', h') ∧ sv env' 6 = sv env 6 ∧ sv env' 7 = sv env 7 ∧ NetAt N h' p v' (w.take i ++ w.drop (i + 1)) sent ∧ Only [p] h h' ∧ (∀ id g off n cap ex, v' = .sl id g off n cap ex 1 → h.next.num ≤ id.num) := by
  have l0 := a.l0
  obtain ⟨id, g, q0, hv', gro⟩ : ∃ id g, N ≤ id.num ∧ v = .sl id g 0 w.length w.length false 1 ∧ Gro h id g (w.map int64) := by
    rcases a.way with ⟨q, _⟩ | ⟨id, g, q0, q1, q2⟩
    · simp at q; subst q; simp at hi
    · exact ⟨id, g, q0, by simpa using q1, q2⟩
  have ra := gro.part (off := 0) (n := i) (by simp; omega)
  have rb := gro.part (off := i + 1) (n := w.length - (i + 1)) (by simp; omega)
  have sa : SlR h (.sl id g 0 i w.length false 1) ((w.take i).map int64) := .mk (by simp; omega) (by
    have e : ((w.map int64).drop 0).take i = (w.take i).map int64 := by simp
    rw [e] at ra; exact ra)
  have sb : SlR h (.sl id g (i + 1) (w.length - (i + 1)) (w.length - (i + 1)) false 1) ((w.drop (i + 1)).map int64) := .mk (by simp) (by
    have e : ((w.map int64).drop (i + 1)).take (w.length - (i + 1)) = (w.drop (i + 1)).map int64 := by
      rw [List.take_of_length_le (by simp), List.map_drop]
    rw [e] at rb; exact rb)
  have w1 : wrapA .i64 ((i : Int) + 1) = (i : Int) + 1 := wrap64 (by omega) (by omega)
  have hvs : ∀ id' g' off n cap ex, v = .sl id' g' off n cap ex 1 → id' = id := fun id' g' off n cap ex e => by rw [hv'] at e; cases e; rfl
  have sh : ∀ env h x y, ev env x = v → ev env y = int64 i → evalOp Try.prog (.sliceSl 1 x none (some y) none) env h = .val (.sl id g 0 i w.length false 1) h := fun env h x y hx hy => by
    have q := slice_ev Try.prog (lo := none) (hi := some y) (l := 0) (r := i) (h := h) (hx.trans hv') rfl (evO_int hy) (Nat.zero_le _) (by omega)
    simpa using q
  have sl : ∀ env h x y, ev env x = v → ev env y = int64 ((i : Int) + 1) → evalOp Try.prog (.sliceSl 1 x (some y) none none) env h = .val (.sl id g (i + 1) (w.length - (i + 1)) (w.length - (i + 1)) false 1) h := fun env h x y hx hy => by
    have q := slice_ev Try.prog (lo := some y) (hi := none) (l := i + 1) (r := w.length) (h := h) (hx.trans hv') (evO_int (by simpa using hy)) rfl (by omega) (Nat.le_refl _)
    simpa using q
  have cxa : (AV.sl id g 0 i w.length false 1).cells = [AV.sl id g 0 i w.length false 1] := rfl
  have cxb : (AV.sl id g (i + 1) (w.length - (i + 1)) (w.length - (i + 1)) false 1).cells = [AV.sl id g (i + 1) (w.length - (i + 1)) (w.length - (i + 1)) false 1] := rfl
  clear ra rb gro hv'
  generalize AV.sl id g 0 i w.length false 1 = xa at *
  generalize AV.sl id g (i + 1) (w.length - (i + 1)) (w.length - (i + 1)) false 1 = xb at *
  have bld : ∀ env ser lim x y, ev env x = xa → ev env y = xb → evalOp Try.prog (.buildSl 2 1 [.nilSl] [(0, 1, x), (1, 1, y)]) env ⟨.e, h.next, ser, lim⟩ = .val (.sl h.next 0 0 2 2 true 1) ⟨T.set h.next (some (.cells ser (Cells.ofL [xa, xb]) 0 0 0 0 false false)) .e, h.next.succ, Nat.succ ser, lim⟩ :=
    fun env ser lim x y hx hy => build2_resv Try.prog hx hy cxa cxb
  have oA := resvH_only h (.cells h.ser (Cells.ofL [xa, xb]) 0 0 0 0 false false)
  have nA := resvH_next h (.cells h.ser (Cells.ofL [xa, xb]) 0 0 0 0 false false)
  have rA := resvH_row h h.ser [xa, xb]
  have eA : (⟨T.set h.next (some (.cells h.ser (Cells.ofL [xa, xb]) 0 0 0 0 false false)) h.heap, h.next.succ, h.ser, h.lim⟩ : Hp) = resvH h (.cells h.ser (Cells.ofL [xa, xb]) 0 0 0 0 false false) := rfl
  generalize resvH h (.cells h.ser (Cells.ofL [xa, xb]) 0 0 0 0 false false) = hA at *
  obtain ⟨v', hB, kc, ow, oB⟩ := concat_fn (h := hA) (v0 := .sl h.next 0 0 2 2 true 1) rA (sa.more oA.more) (sb.more oA.more) (by simp; omega)
  obtain ⟨b1, n1⟩ := kc.begins
  have hsound := recF_sound (P := Try.prog) (fr := fun k => frOf Try.prog k.f k.args) (A := [⟨50, [.sl h.next 0 0 2 2 true 1], hA, v', hB⟩]) (by
      intro k hk
      simp only [List.mem_cons, List.not_mem_nil, or_false] at hk
      subst hk
      exact ⟨kc, b1⟩)
  have R1 : recF [⟨50, [.sl h.next 0 0 2 2 true 1], hA, v', hB⟩] (fun k => frOf Try.prog k.f k.args) ⟨frOf Try.prog 50 [.sl h.next 0 0 2 2 true 1], [], hA⟩ = .done v' hB := by
    simp [recF, n1]
  generalize (recF [⟨50, [.sl h.next 0 0 2 2 true 1], hA, v', hB⟩] fun k => frOf Try.prog k.f k.args) = R at *
  have hpB := (a.st.only oA (by simp)).only oB (by simp)
  have at1 := ow.sl.atom
  have st1 := storeR_arr hpB (i := 0) (by simp) v' at1.1 at1.2
  have a1 := putA_arr hpB (i := 0) (by simp) v'
  have o2 := putA_only hB p 0 v'
  have vp : ∀ id g off n cap ex, v' = .sl id g off n cap ex 1 → h.next.num ≤ id.num := fun id g off n cap ex e => by
    have := (ow.old _ _ _ _ _ _ e).1
    omega
  have pold := a.st.old
  have vne : ∀ g off n cap ex, v' ≠ .sl p g off n cap ex 1 := fun g off n cap ex e => by have := vp _ _ _ _ _ _ e; omega
  have rd : ∀ hh : Hp, hh.heap = h.heap → read1 hh p 0 0 = some v := fun hh e => by
    rw [← l0]; unfold read1; rw [e]
  obtain ⟨env1, lds1, e1, l1, f20, f16, f1, f0, f6, f7⟩ : ∃ env1 lds1, runE Try.prog R 0 (take_3.take 7) ⟨[], [], [], h.next, env, ⟨h.heap, h.next.succ, h.ser, h.lim⟩⟩ = some ⟨[], lds1, [], h.next, env1, ⟨h.heap, h.next.succ, h.ser, h.lim⟩⟩ ∧ (∀ d ∈ lds1, d.i < 14 ∧ 0 < d.i) ∧ sv env1 22 = xa ∧ sv env1 16 = .ptr p 0 0 ∧ sv env1 1 = int64 i ∧ sv env1 0 = .ptr p 0 0 ∧ sv env1 6 = sv env 6 ∧ sv env1 7 = sv env 7 := by
    simp [take_3, runE, stepE, stepD, kindOf, lookBack, wanted_no, ev_tm, ev_vl, sv_setD, setD_none, qev_mov, opt_some, qev_nilC, nilC_ptr, qev_fld, fldA_ptr, qev_load1, s0, s1, rd, sh]
    exact ⟨_, _, ⟨rfl, rfl⟩, by simp, by simp [sv_setD, s0, s1]⟩
  obtain ⟨env2, lds2, e2, l2, g22, g29, g16, g6, g7⟩ : ∃ env2 lds2, runE Try.prog R 7 ((take_3.drop 7).take 7) ⟨[], lds1, [], h.next, env1, ⟨h.heap, h.next.succ, h.ser, h.lim⟩⟩ = some ⟨[], lds2, [], h.next, env2, ⟨h.heap, h.next.succ, h.ser, h.lim⟩⟩ ∧ (∀ d ∈ lds2, d.i < 14 ∧ 0 < d.i) ∧ sv env2 22 = xa ∧ sv env2 29 = xb ∧ sv env2 16 = .ptr p 0 0 ∧ sv env2 6 = sv env 6 ∧ sv env2 7 = sv env 7 := by
    simp [take_3, runE, stepE, stepD, kindOf, lookBack, wanted_no, ev_tm, ev_vl, sv_setD, setD_none, qev_mov, qev_bin, bin_add, opt_some, qev_nilC, nilC_ptr, qev_fld, fldA_ptr, qev_load1, f20, f16, f1, f0, f6, f7, rd, sl, w1]
    exact ⟨_, _, ⟨rfl, rfl⟩, by simpa using l1, by simp [sv_setD, f20, f16, f6, f7]⟩
  have ag : lookAgain Try.prog hB 32766 lds2 = true := lookAgain_all fun d hd => by
    obtain ⟨q1, q2⟩ := l2 d hd
    rw [bit_eq]
    have : d.i = 1 ∨ d.i = 2 ∨ d.i = 3 ∨ d.i = 4 ∨ d.i = 5 ∨ d.i = 6 ∨ d.i = 7 ∨ d.i = 8 ∨ d.i = 9 ∨ d.i = 10 ∨ d.i = 11 ∨ d.i = 12 ∨ d.i = 13 := by omega
    rcases this with q | q | q | q | q | q | q | q | q | q | q | q | q <;> rw [q] <;> decide
  have ag2 : ∀ hh, lookAgain Try.prog hh 262143 lds2 = true := fun hh => again_ones (n := 18) (by decide) fun d hd => by have := l2 d hd; omega
  obtain ⟨env', acts, e3, f6', f7'⟩ : ∃ env' acts, runE Try.prog R 14 (take_3.drop 14) ⟨[], lds2, [], h.next, env2, ⟨h.heap, h.next.succ, h.ser, h.lim⟩⟩ = some ⟨acts, lds2, [], h.next.succ, env', putA hB p 0 v'⟩ ∧ sv env' 6 = sv env 6 ∧ sv env' 7 = sv env 7 := by
    simp [take_3, runE, stepE, stepD, kindOf, lookBack, actO, insT, putT, remAl, bit, wanted_no, ev_tm, ev_vl, sv_setD, setD_none, qev_mov, opt_some, qev_nilC, nilC_ptr, qev_fld, fldA_ptr, qev_callv, qev_store1, callA_ok ok50, T.get_set, g22, g29, g16, g6, g7, bld, b1, R1, st1, eA, ag, ag2, show Nat.testBit 32766 14 = true from by decide]
  have e : runDrawn Try.prog R take_3 env h = some (env', putA hB p 0 v') := by
    refine runDrawn_ofE (rid := h.next.succ) (acts := acts) (lds := lds2) ?_
    have hsk : skipIds take_3 h.next = h.next.succ := by simp [take_3, skipIds, isAlloc, kindOf]
    rw [hsk]
    have es : take_3 = take_3.take 7 ++ ((take_3.drop 7).take 7 ++ take_3.drop 14) := rfl
    rw [es, runE_app e1]
    show runE Try.prog R 7 _ _ = _
    rw [runE_app e2]
    exact e3
  exact ⟨R, env', _, v', hsound, e, f6', f7', ⟨a1, by rw [List.map_append]; rw [← List.map_append]; exact (by
    rcases ow with q | ⟨id', g', k1, k2, k3⟩
    · exact .inl q
    · exact .inr ⟨id', g', by have := a.pN; omega, k2, k3.only o2 (by simp only [List.mem_singleton]; intro c; subst c; exact vne _ _ _ _ _ k2)⟩), vne, a.pN⟩, (oA.trans oB).mono (S' := [p]) (by simp) |>.trans o2, vp⟩
end
end Go.Proofs.Ytmifpiglcphmoaa.Counts

namespace Go.Proofs.Ytmifpiglcphmoaa.Counts
open Go Go.Proofs.Ytmifpiglcphmoaa.Am Go.Proofs

section
variable {N : Nat} {h : Hp} {p : Pos} {v : AV} {w : List Int} {sent : Int}

/-- Take, where there is one. -/
theorem take_fn (a : NetAt N h p v w sent) {i : Nat} (hi : i < w.length) (hw : w.length ≤ 1000000) :
    ∃ v' h', AmFn Try.prog 14 [.ptr p 0 0, int64 i] h (.tup [int64 w[i], int64 0]) h' ∧ NetAt N h' p v' (w.take i ++ w.drop (i + 1)) sent ∧ Only [p] h h' ∧ (∀ id g off n cap ex, v' = .sl id g off n cap ex 1 → h.next.num ≤ id.num) := by
  have k := at_fn a hi (by omega)
  obtain ⟨env1, e1, f0, f1, f6, f7⟩ : ∃ env', runS Try.prog false take_fu.body [⟨29, [.ptr p 0 0, int64 i], h, .tup [int64 w[i], int64 0], h⟩] (setArgs .e 0 [.ptr p 0 0, int64 i]) h =
      some (.upt [.code (.drawn take_3), .code (.seq (.region take_4) .ret)], [], env', h) ∧ sv env' 0 = .ptr p 0 0 ∧ sv env' 1 = int64 i ∧ sv env' 6 = int64 w[i] ∧ sv env' 7 = int64 0 := by
    simp [take_fu, take_0, take_1, take_2, runS, runR, Rs.seq, Rs.block, sv_args, runOps, wanted_no, wanted_sv, ev_tm, ev_vl, sv_setD, sv_set, setD_none, qev_mov, qev_bin, qev_un, qev_lenI, qev_pick, qev_load1, qev_idxSl, idx2_sl, idxA2_ptr, opt_some, bin_add, bin_sub, bin_mul, bin_lss, bin_leq, bin_gtr, bin_geq, bin_eql, bin_neq, un_not, un_neg, qev_callv, qev_new1, qev_store1, qev_nilC, nilC_ptr, qev_fld, fldA_ptr, qev_extract, nth0, nth1, nth2, qev_eqPtr, sameP_nil, notIf, callA_ok ok29]
  obtain ⟨rec, env2, h2, v', hrec, e2, g6, g7, net, o, vn⟩ := take_drawn a hi hw f0 f1
  obtain ⟨env3, e3, k4, k5⟩ : ∃ env', runS Try.prog true (.seq (.region take_4) .ret) [] env2 h2 = some (.ret, [], env', h2) ∧ sv env' 4 = int64 w[i] ∧ sv env' 5 = int64 0 := by
    simp [take_4, runS, runR, Rs.seq, runOps, wanted_no, wanted_sv, ev_tm, ev_vl, sv_setD, sv_set, setD_none, qev_mov, qev_bin, qev_un, qev_lenI, qev_pick, qev_load1, qev_idxSl, idx2_sl, idxA2_ptr, opt_some, bin_add, bin_sub, bin_mul, bin_lss, bin_leq, bin_gtr, bin_geq, bin_eql, bin_neq, un_not, un_neg, qev_callv, qev_new1, qev_store1, qev_nilC, nilC_ptr, qev_fld, fldA_ptr, qev_extract, nth0, nth1, nth2, qev_eqPtr, sameP_nil, notIf, g6, g7, f6, f7]
  exact ⟨v', h2, AmFn.dos take_code (by simp) (Dos.run (M := []) _ (by intro x hx; simp at hx; subst hx; exact k) e1 (.more (M := []) (M1 := []) (Dos.drawn hrec e2) (.ret (Dos.runRet [] (by simp) e3)))) (vs := [sv env3 4, sv env3 5]) rfl (by rw [k4, k5]; rfl), net, o, vn⟩

/-- Twin, where there is one and there is room. -/
theorem twin_fn (a : NetAt N h p v w sent) {i : Nat} (hi : i < w.length) (hw : w.length ≤ 60000) (hs : 0 ≤ sent ∧ sent < 1000000) (hN : N ≤ h.next.num) :
    ∃ v' h' S, AmFn Try.prog 13 [.ptr p 0 0, int64 i] h (int64 0) h' ∧ NetAt N h' p v' (w ++ [w[i]]) (sent + 1) ∧ Only S h h' ∧ (∀ id ∈ S, id = p ∨ ∃ g off n cap ex, v = .sl id g off n cap ex 1) ∧
      (∀ id g off n cap ex, v' = .sl id g off n cap ex 1 → (∃ g off n cap ex, v = .sl id g off n cap ex 1) ∨ h.next.num ≤ id.num) := by
  have k := at_fn a hi (by omega)
  obtain ⟨h1, b1, b2, b3, b4⟩ := build1' Try.prog h (int64 0) (int64 w[i]) rfl
  have a1 := a.more b3
  have vold := a.way.old
  have pold := a.st.old
  obtain ⟨v', h', S, ks, net, o, hS, hv⟩ := send_fn a1 (l := [w[i]]) (v2 := .sl h.next 0 0 1 1 true 1) b2 (fun id g off n cap ex e => by
    cases e
    refine ⟨fun c => by rw [c] at pold; omega, fun g' off' n' cap' ex' c => by have := (vold _ _ _ _ _ _ c).2; omega⟩) (by simp; omega) (by simp; omega) (by omega)
  obtain ⟨env1, e1, f4⟩ : ∃ env', runS Try.prog true twin_fu.body [⟨29, [.ptr p 0 0, int64 i], h, .tup [int64 w[i], int64 0], h⟩, ⟨10, [.ptr p 0 0, .sl h.next 0 0 1 1 true 1], h1, int64 0, h'⟩] (setArgs .e 0 [.ptr p 0 0, int64 i]) h =
      some (.ret, [], env', h') ∧ sv env' 4 = int64 0 := by
    simp [twin_fu, twin_0, twin_1, twin_2, twin_4, runS, runR, Rs.seq, Rs.block, sv_args, runOps, wanted_no, wanted_sv, ev_tm, ev_vl, sv_setD, sv_set, setD_none, qev_mov, qev_bin, qev_un, qev_lenI, qev_pick, qev_load1, qev_idxSl, idx2_sl, idxA2_ptr, opt_some, bin_add, bin_sub, bin_mul, bin_lss, bin_leq, bin_gtr, bin_geq, bin_eql, bin_neq, un_not, un_neg, qev_callv, qev_new1, qev_store1, qev_nilC, nilC_ptr, qev_fld, fldA_ptr, qev_extract, nth0, nth1, nth2, qev_eqPtr, sameP_nil, notIf, callA_ok ok29, callA_ok ok10, b1]
  refine ⟨v', h', S, AmFn.dos twin_code (by simp) (Dos.runRet _ (by
    intro x hx
    simp only [List.mem_cons, List.not_mem_nil, or_false] at hx
    rcases hx with q | q <;> subst q
    · exact k
    · exact ks) e1) (vs := [sv env1 4]) rfl f4, by simpa using net, ((b3.mono (S' := S) (by simp)).trans o), hS, fun id g off n cap ex e => (hv id g off n cap ex e).imp _root_.id fun q => by omega⟩
end

theorem times_loop {xs : List Int} {h : Hp} {v : AV} (hs : SlR h v (xs.map int64)) (hlen : xs.length ≤ 1000000) (x : Int) : ∀ (m i : Nat) (acc : Int) (env : T AV), i + m = xs.length → 0 ≤ acc ∧ acc ≤ i → sv env 0 = v → sv env 1 = int64 x → sv env 5 = int64 acc → sv env 6 = int64 i →
    ∃ env', Loops Try.prog 16 times_7 env h (.exit 0) [] env' h ∧ sv env' 5 = int64 (acc + (xs.drop i).count x) := by
  intro m
  induction m with
  | zero =>
    intro i acc env hi ha s0 s1 s5 s6
    have hl := SlR.lenI hs
    have hn : ¬ (i : Int) < xs.length := by omega
    obtain ⟨env1, e1, f5⟩ : ∃ env', runS Try.prog true times_7 [] env h = some (.exit 0, [], env', h) ∧ sv env' 5 = int64 acc := by
      simp [times_7, times_3, runS, runR, Rs.seq, runOps, wanted_no, ev_tm, ev_vl, sv_setD, qev_mov, qev_bin, opt_some, bin_lss, hl, s0, s1, s5, s6, hn]
    refine ⟨env1, .out (Dos.runExit [] (by simp) e1) (by simp), ?_⟩
    rw [f5, List.drop_eq_nil_of_le (by omega)]
    simp
  | succ m ih =>
    intro i acc env hi ha s0 s1 s5 s6
    have hil : i < xs.length := by omega
    obtain ⟨id, g, off, cap, ex, hv, row⟩ := hs.sl_or (x := int64 xs[i]) (by simp)
    have hone := row.one i (by simpa using hil)
    simp [List.getElem?_eq_getElem hil] at hone
    have w1 : wrapA .i64 ((i : Int) + 1) = (i : Int) + 1 := wrap64 (by omega) (by omega)
    have w2 : wrapA .i64 (acc + 1) = acc + 1 := wrap64 (by omega) (by omega)
    have hd : xs.drop i = xs[i] :: xs.drop (i + 1) := List.drop_eq_getElem_cons hil
    by_cases hx : xs[i] = x
    · obtain ⟨env1, e1, f0, f1, f5, f6⟩ : ∃ env', runS Try.prog true times_7 [] env h = some (.upt [], [], env', h) ∧ sv env' 0 = v ∧ sv env' 1 = int64 x ∧ sv env' 5 = int64 (acc + 1) ∧ sv env' 6 = int64 ((i + 1 : Nat) : Int) := by
        simp [times_7, times_3, times_4, times_5, times_6, runS, runR, Rs.seq, Rs.block, runOps, wanted_no, wanted_sv, ev_tm, ev_vl, sv_setD, sv_set, setD_none, qev_mov, qev_bin, qev_un, qev_lenI, qev_pick, qev_load1, qev_idxSl, idx2_sl, idxA2_ptr, opt_some, bin_add, bin_sub, bin_mul, bin_lss, bin_leq, bin_gtr, bin_geq, bin_eql, bin_neq, un_not, un_neg, qev_callv, qev_new1, qev_store1, qev_nilC, nilC_ptr, qev_fld, fldA_ptr, qev_extract, nth0, nth1, nth2, qev_eqPtr, sameP_nil, notIf, s0, s1, s5, s6, hv, hil, hone, w1, w2, hx]
      obtain ⟨env', L, q⟩ := ih (i + 1) (acc + 1) env1 (by omega) (by omega) f0 f1 f5 f6
      refine ⟨env', .more (M := []) (M1 := []) (Dos.runGo [] (by simp) e1) L, ?_⟩
      rw [q, hd, hx, List.count_cons_self]
      congr 1
      omega
    · obtain ⟨env1, e1, f0, f1, f5, f6⟩ : ∃ env', runS Try.prog true times_7 [] env h = some (.upt [], [], env', h) ∧ sv env' 0 = v ∧ sv env' 1 = int64 x ∧ sv env' 5 = int64 acc ∧ sv env' 6 = int64 ((i + 1 : Nat) : Int) := by
        simp [times_7, times_3, times_4, times_5, times_6, runS, runR, Rs.seq, Rs.block, runOps, wanted_no, wanted_sv, ev_tm, ev_vl, sv_setD, sv_set, setD_none, qev_mov, qev_bin, qev_un, qev_lenI, qev_pick, qev_load1, qev_idxSl, idx2_sl, idxA2_ptr, opt_some, bin_add, bin_sub, bin_mul, bin_lss, bin_leq, bin_gtr, bin_geq, bin_eql, bin_neq, un_not, un_neg, qev_callv, qev_new1, qev_store1, qev_nilC, nilC_ptr, qev_fld, fldA_ptr, qev_extract, nth0, nth1, nth2, qev_eqPtr, sameP_nil, notIf, s0, s1, s5, s6, hv, hil, hone, w1, w2, hx]
      obtain ⟨env', L, q⟩ := ih (i + 1) acc env1 (by omega) (by omega) f0 f1 f5 f6
      refine ⟨env', .more (M := []) (M1 := []) (Dos.runGo [] (by simp) e1) L, ?_⟩
      rw [q, hd, List.count_cons_of_ne hx]

theorem times_fn {xs : List Int} {h : Hp} {v : AV} (hs : SlR h v (xs.map int64)) (hlen : xs.length ≤ 1000000) (x : Int) : AmFn Try.prog 16 [v, int64 x] h (int64 (xs.count x)) h := by
  obtain ⟨env1, e1, f0, f1, f5, f6⟩ : ∃ env', runS Try.prog true times_fu.body [] (setArgs .e 0 [v, int64 x]) h = some (.upt [.code (.loop times_7), .inBlock 0, .code (.seq (.region times_8) .ret)], [], env', h) ∧ sv env' 0 = v ∧ sv env' 1 = int64 x ∧ sv env' 5 = int64 0 ∧ sv env' 6 = int64 ((0 : Nat) : Int) := by
    simp [times_fu, times_0, times_1, times_2, runS, runR, Rs.seq, Rs.block, sv_args, runOps, wanted_no, wanted_sv, ev_tm, ev_vl, sv_setD, sv_set, setD_none, qev_mov, qev_bin, qev_un, qev_lenI, qev_pick, qev_load1, qev_idxSl, idx2_sl, idxA2_ptr, opt_some, bin_add, bin_sub, bin_mul, bin_lss, bin_leq, bin_gtr, bin_geq, bin_eql, bin_neq, un_not, un_neg, qev_callv, qev_new1, qev_store1, qev_nilC, nilC_ptr, qev_fld, fldA_ptr, qev_extract, nth0, nth1, nth2, qev_eqPtr, sameP_nil, notIf]
  obtain ⟨env2, L, q⟩ := times_loop hs hlen x xs.length 0 0 env1 (by omega) (by omega) f0 f1 f5 f6
  rw [List.drop_zero] at q
  obtain ⟨env3, e3, g4⟩ : ∃ env', runS Try.prog true (.seq (.region times_8) .ret) [] env2 h = some (.ret, [], env', h) ∧ sv env' 4 = int64 (xs.count x) := by
    simp [times_8, runS, runR, Rs.seq, runOps, wanted_no, wanted_sv, ev_tm, ev_vl, sv_setD, sv_set, setD_none, qev_mov, qev_bin, qev_un, qev_lenI, qev_pick, qev_load1, qev_idxSl, idx2_sl, idxA2_ptr, opt_some, bin_add, bin_sub, bin_mul, bin_lss, bin_leq, bin_gtr, bin_geq, bin_eql, bin_neq, un_not, un_neg, qev_callv, qev_new1, qev_store1, qev_nilC, nilC_ptr, qev_fld, fldA_ptr, qev_extract, nth0, nth1, nth2, qev_eqPtr, sameP_nil, notIf, q]
  exact AmFn.dos times_code (by simp) (Dos.run (M := []) [] (by simp) e1 (.leave (M := []) (M1 := []) (i := 0) (Dos.loop L) rfl (.ret (Dos.runRet [] (by simp) e3)))) (vs := [sv env3 4]) rfl g4
end Go.Proofs.Ytmifpiglcphmoaa.Counts
