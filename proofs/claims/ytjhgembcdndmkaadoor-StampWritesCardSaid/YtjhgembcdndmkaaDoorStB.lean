import Derived.Lib.Join
import Derived.Lib.ItoaLen
import Derived.Lib.ItoaMem
import Derived.Test.YtjhgembcdndmkaaDoorStA
/- THE WALK'S PARTS, part B: what the functions of the law compute, over the abstract machine that stands beside this text. No condition. -/
set_option linter.unusedSimpArgs false
set_option linter.unusedVariables false
namespace Go.Proofs.YtjhgembcdndmkaaDoor.St
open Go Go.Proofs.YtjhgembcdndmkaaDoor.Am Go.Proofs

/-- A row of bytes that lies ahead of the number N. -/
structure RdB (N : Nat) (h : Hp) (v : AV) (b : List UInt8) : Prop where
  sl : SlN h 1 v b.length (byt b)
  old : ∀ id, InN 1 v id → id.num < N

theorem RdB.only {N : Nat} {h h' : Hp} {v : AV} {b : List UInt8} {S : List Pos} (r : RdB N h v b) (o : Only S h h') (hS : ∀ id ∈ S, N ≤ id.num) : RdB N h' v b :=
  ⟨r.sl.only o fun id q c => by have := r.old id q; have := hS id c; omega, r.old⟩

theorem _root_.Go.Proofs.YtjhgembcdndmkaaDoor.Am.Mine.rd {N M : Nat} {h : Hp} {v : AV} {b : List UInt8} (m : Mine N h v b) (hM : h.next.num ≤ M) : RdB M h v b := ⟨m.sl, fun id q => Nat.lt_of_lt_of_le (m.old q).2 hM⟩

/-- The slices of a list, each of some bytes. -/
structure RdL (N : Nat) (h : Hp) (v : AV) (vs : List AV) (bs : List (List UInt8)) : Prop where
  sl : SlR h v vs
  old : ∀ id, InN 1 v id → id.num < N
  len : vs.length = bs.length
  each : ∀ i (hi : i < bs.length), ∃ x, vs[i]? = some x ∧ RdB N h x bs[i]

theorem SlR_slN {h : Hp} {v : AV} {l : List AV} (r : SlR h v l) : SlN h 1 v l.length l := by
  cases r with
  | nil => exact .nil
  | emp => exact .emp
  | mk hn r => subst hn; exact .mk (by omega) r

theorem RdL.only {N : Nat} {h h' : Hp} {v : AV} {vs : List AV} {bs : List (List UInt8)} {S : List Pos} (r : RdL N h v vs bs) (o : Only S h h') (hS : ∀ id ∈ S, N ≤ id.num) : RdL N h' v vs bs :=
  ⟨((SlR_slN r.sl).only o fun id q c => by have := r.old id q; have := hS id c; omega).slR, r.old, r.len, fun i hi => let ⟨x, e, q⟩ := r.each i hi; ⟨x, e, q.only o hS⟩⟩

theorem join_loop {N : Nat} {v0 : AV} {vs : List AV} {bs : List (List UInt8)} (hb : bs.flatten.length ≤ 100000) (hn : bs.length ≤ 1000) :
    ∀ (m i : Nat) (env : T AV) (h : Hp) (v : AV), i + m = bs.length → RdL N h v0 vs bs → sv env 7 = v0 → sv env 8 = int64 bs.length → sv env 9 = int64 i → sv env 3 = v → Mine N h v (bs.take i).flatten → N ≤ h.next.num →
      ∃ env' h' v', Loops Tryd.prog 29 join_7 env h (.exit 0) [] env' h' ∧ sv env' 3 = v' ∧ Mine N h' v' bs.flatten ∧ N ≤ h'.next.num ∧ ∃ S, Only S h h' ∧ ∀ id ∈ S, N ≤ id.num := by
  intro m
  induction m with
  | zero =>
    intro i env h v hi r s7 s8 s9 s3 o hN
    have : i = bs.length := by omega
    subst this
    obtain ⟨env1, e1, f3⟩ : ∃ env', runS Tryd.prog true join_7 [] env h = some (.exit 0, [], env', h) ∧ sv env' 3 = v := by
      unfold join_7
      simp [join_3, runS, runR, Rs.seq, Rs.block, runOps, wanted_no, wanted_sv, ev_tm, ev_vl, sv_setD, sv_set, setD_none, qev_mov, qev_bin, qev_un, qev_lenI, qev_lenS, qev_pick, qev_load1, qev_idxSl, idx2_sl, idxA2_ptr, opt_some, bin_add, bin_sub, bin_mul, bin_lss, bin_leq, bin_gtr, bin_geq, bin_eql, bin_neq, un_not, un_neg, qev_callv, qev_new1, qev_store1, qev_nilC, nilC_ptr, qev_fld, fld0, fldN, qev_extract, nth0, nth1, nth2, qev_eqPtr, sameP_nil, notIf, s7, s8, s9, s3]
    rw [List.take_length] at o
    exact ⟨env1, h, v, .out (Dos.runExit [] (by simp) e1) (by simp), f3, o, hN, [], .refl _ _, by simp⟩
  | succ m ih =>
    intro i env h v hi r s7 s8 s9 s3 o hN
    have hil : i < bs.length := by omega
    obtain ⟨x, hx, rx⟩ := r.each i hil
    have hxi : i < vs.length := by have := r.len; omega
    have hxe : vs[i] = x := by rw [List.getElem?_eq_getElem hxi] at hx; exact Option.some.inj hx
    obtain ⟨id0, g0, off0, cap0, ex0, e0, row0⟩ := r.sl.sl_or (x := x) (List.mem_of_getElem? hx)
    have rd := row0.one i hxi
    rw [hx] at rd
    have hlen : (bs.take (i + 1)).flatten = (bs.take i).flatten ++ bs[i] := by rw [List.take_succ_eq_append_getElem hil, List.flatten_append]; simp
    have hle : (bs.take (i + 1)).flatten.length ≤ bs.flatten.length := by
      conv => rhs; rw [← List.take_append_drop (i + 1) bs, List.flatten_append, List.length_append]
      omega
    rw [hlen, List.length_append] at hle
    obtain ⟨v2, h2, S, p1, p2, p3, p4, p5⟩ := o.push Tryd.prog (bytes := 0) rx.sl (by omega) (by omega) hN
    rw [← hlen] at p2
    have hS : ∀ id ∈ S, N ≤ id.num := fun id q => (o.old (p4 id q)).1
    have w1 : wrapA .i64 ((i : Int) + 1) = (i : Int) + 1 := wrap64 (by omega) (by omega)
    have hlv : vs.length = bs.length := r.len
    obtain ⟨env1, e1, f7, f8, f9, f3⟩ : ∃ env', runS Tryd.prog true join_7 [] env h = some (.upt [], [], env', h2) ∧ sv env' 7 = v0 ∧ sv env' 8 = int64 bs.length ∧ sv env' 9 = int64 ((i + 1 : Nat) : Int) ∧ sv env' 3 = v2 := by
      unfold join_7
      rw [e0, hlv] at s7 ⊢
      simp [join_3, join_4, join_5, join_6, runS, runR, Rs.seq, Rs.block, runOps, wanted_no, wanted_sv, ev_tm, ev_vl, sv_setD, sv_set, setD_none, qev_mov, qev_bin, qev_un, qev_lenI, qev_lenS, qev_pick, qev_load1, qev_idxSl, idx2_sl, idxA2_ptr, opt_some, bin_add, bin_sub, bin_mul, bin_lss, bin_leq, bin_gtr, bin_geq, bin_eql, bin_neq, un_not, un_neg, qev_callv, qev_new1, qev_store1, qev_nilC, nilC_ptr, qev_fld, fld0, fldN, qev_extract, nth0, nth1, nth2, qev_eqPtr, sameP_nil, notIf, s7, s8, s9, s3, hil, rd, p1, w1]
    obtain ⟨env', h', v', L, q3, oo, hN', S2, o2, hS2⟩ := ih (i + 1) env1 h2 v2 (by omega) (r.only p3 hS) f7 f8 f9 f3 p2 (by have := p3.next; omega)
    exact ⟨env', h', v', .more (M := []) (M1 := []) (Dos.runGo [] (by simp) e1) L, q3, oo, hN', S ++ S2, (p3.mono fun id q => .inl (by simp [q])).trans (o2.mono fun id q => .inl (by simp [q])), fun id q => (List.mem_append.1 q).elim (hS id) (hS2 id)⟩

theorem join_fn {h : Hp} {v0 : AV} {vs : List AV} {bs : List (List UInt8)} (r : RdL h.next.num h v0 vs bs) (hb : bs.flatten.length ≤ 100000) (hn : bs.length ≤ 1000) : ∃ v' h', AmFn Tryd.prog 29 [v0] h v' h' ∧ Mine h.next.num h' v' bs.flatten ∧ Only [] h h' := by
  obtain ⟨h1, mk, o1, n1⟩ := emptySl Tryd.prog 1 [.int .u8 0] (by omega) h
  have r1 := r.only o1 (by simp)
  have ll := (SlR_slN r1.sl).lenI (P := Tryd.prog) h1
  rw [r.len] at ll
  obtain ⟨env1, e1, f3, f7, f8, f9⟩ : ∃ env', runS Tryd.prog true join_fu.body [] (setArgs .e 0 [v0]) h = some (.upt [.code (.loop join_7), .inBlock 0, .code (.seq (.region join_8) .ret)], [], env', h1) ∧ sv env' 3 = .sl h.next 0 0 0 0 true 1 ∧ sv env' 7 = v0 ∧ sv env' 8 = int64 bs.length ∧ sv env' 9 = int64 ((0 : Nat) : Int) := by
    simp [join_fu, join_0, join_1, join_2, runS, runR, Rs.seq, Rs.block, sv_args, runOps, wanted_no, wanted_sv, ev_tm, ev_vl, sv_setD, sv_set, setD_none, qev_mov, qev_bin, qev_un, qev_lenI, qev_lenS, qev_pick, qev_load1, qev_idxSl, idx2_sl, idxA2_ptr, opt_some, bin_add, bin_sub, bin_mul, bin_lss, bin_leq, bin_gtr, bin_geq, bin_eql, bin_neq, un_not, un_neg, qev_callv, qev_new1, qev_store1, qev_nilC, nilC_ptr, qev_fld, fld0, fldN, qev_extract, nth0, nth1, nth2, qev_eqPtr, sameP_nil, notIf, mk, ll]
  have m1 : Mine h.next.num h1 (.sl h.next 0 0 0 0 true 1) (bs.take 0).flatten := .inl (.inl ⟨rfl, rfl, .inr ⟨h.next, 0, 0, rfl, Nat.le_refl _, by omega⟩⟩)
  obtain ⟨env2, h2, v2, L, q3, m2, hN, S, o2, hS⟩ := join_loop hb hn bs.length 0 env1 h1 _ (by omega) r1 f7 f8 f9 f3 m1 (by omega)
  obtain ⟨env3, e3, z⟩ : ∃ env', runS Tryd.prog true (.seq (.region join_8) .ret) [] env2 h2 = some (.ret, [], env', h2) ∧ sv env' 2 = v2 := by
    simp [join_8, runS, runR, Rs.seq, Rs.block, runOps, wanted_no, wanted_sv, ev_tm, ev_vl, sv_setD, sv_set, setD_none, qev_mov, qev_bin, qev_un, qev_lenI, qev_lenS, qev_pick, qev_load1, qev_idxSl, idx2_sl, idxA2_ptr, opt_some, bin_add, bin_sub, bin_mul, bin_lss, bin_leq, bin_gtr, bin_geq, bin_eql, bin_neq, un_not, un_neg, qev_callv, qev_new1, qev_store1, qev_nilC, nilC_ptr, qev_fld, fld0, fldN, qev_extract, nth0, nth1, nth2, qev_eqPtr, sameP_nil, notIf, q3]
  exact ⟨v2, h2, AmFn.dos join_code (by simp) (Dos.run (M := []) [] (by simp) e1 (.leave (M := []) (M1 := []) (i := 0) (Dos.loop L) rfl (.ret (Dos.runRet [] (by simp) e3)))) (vs := [sv env3 2]) rfl z, m2, ((o1.mono (S' := S) (by simp)).trans o2).mono fun id q => .inr (hS id q)⟩
end Go.Proofs.YtjhgembcdndmkaaDoor.St

namespace Go.Proofs.YtjhgembcdndmkaaDoor.St
open Go Go.Proofs.YtjhgembcdndmkaaDoor.Am Go.Proofs

theorem eqAV_str (s : List UInt8) : eqAV 8 (strOf s) (strOf s) = true := by
  show (Nat.beq s.length s.length && Nat.beq (pack s) (pack s)) = true
  simp

theorem lay_eq (h : Hp) (id : Pos) (b : Blk) : (⟨T.set id (some b) h.heap, h.next, h.ser, h.lim⟩ : Hp) = layH h id b := rfl
theorem hz (h : Hp) : (⟨h.heap, h.next, h.ser, h.lim⟩ : Hp) = h := rfl
theorem skip_eq (h : Hp) : (⟨h.heap, h.next.succ, h.ser, h.lim⟩ : Hp) = skipH h := rfl

def formB (r : Nat) (s : List UInt8) : List UInt8 := numB r ++ bytB s

theorem bytB_length_le {b : List UInt8} (hb : b.length ≤ 20000) : (bytB b).length ≤ b.length + 10 := by
  unfold bytB
  have := numB_length_le b.length (by omega)
  simp; omega

/-- What is joined: the slices laid. -/
theorem RdL_lay {N : Nat} {h : Hp} {id : Pos} (hid : id.num < h.next.num) (hN : h.next.num ≤ N) {vs : List AV} {bs : List (List UInt8)} (hl : vs.length = bs.length) (he : ∀ i (hi : i < bs.length), ∃ x, vs[i]? = some x ∧ RdB N h x bs[i] ∧ ∀ j, InN 1 x j → j ≠ id) :
    RdL N (layH h id (.cells 0 (Cells.ofL vs) 0 0 0 0 false false)) (.sl id 0 0 vs.length vs.length true 1) vs bs := by
  refine ⟨.mk rfl (layH_arr hid 0 vs).gro.row, fun j ⟨_, _, _, _, _, e⟩ => by cases e; omega, hl, fun i hi => ?_⟩
  obtain ⟨x, e, q, n⟩ := he i hi
  exact ⟨x, e, ⟨q.sl.only (layH_only h id _) fun j qj => by simp; exact n j qj, q.old⟩⟩

theorem form_fn (r : Nat) (s : List UInt8) (hr : r < 9223372036854775808) (hs : s.length ≤ 9000) (h : Hp) : ∃ v h', AmFn Tryd.prog 31 [.agg [int64 r, strOf s]] h v h' ∧ Mine h.next.num h' v (formB r s) ∧ Only [] h h' := by
  obtain ⟨h1, bx, A, o1, n1⟩ := boxed Tryd.prog [int64 r, strOf s] h
  have os1 := skipH_only h1
  have os2 := skipH_only (skipH h1)
  have ns1 := skipH_next h1
  have ns2 := skipH_next (skipH h1)
  have osk := os1.trans os2
  have hsk : skipH (skipH h1) = ⟨h1.heap, h1.next.succ.succ, h1.ser, h1.lim⟩ := rfl
  generalize hR : skipH (skipH h1) = hr0 at *
  have A2 := A.only osk (by simp)
  obtain ⟨v2, h2, k2, m2, o2⟩ := number_fn r (by omega) hr0
  have A3 := A2.only o2 (by simp)
  have nx2 := o2.next
  have nb : h1.next.succ.num = h1.next.num + 1 := Pos.num_succ _
  have l0 := A2.one (i := 0) (by simp)
  have l1 := A2.one (i := 1) (by simp)
  have l1' := A3.one (i := 1) (by simp)
  simp only [List.getElem_cons_zero, List.getElem_cons_succ] at l0 l1 l1'
  have r3 := layH_byt (h := h2) (id := h1.next) (by omega) s
  have o3 := layH_only h2 h1.next (bytB' s)
  have e3 := lay_eq h2 h1.next (bytB' s)
  have n3 : (layH h2 h1.next (bytB' s)).next.num = h2.next.num := rfl
  have ar := strBytes_resv Tryd.prog (env := .e) (id := h1.next) (ser := 0) (lim := 0) (x := vl (strOf s)) (b := s) rfl (by omega)
  generalize hh3 : layH h2 h1.next (bytB' s) = h3 at *
  obtain ⟨v4, h4, k4, m4, o4⟩ := bytes_fn (h := h3) (by omega) r3
  have nx4 := o4.next
  have nm2 : ∀ j, InN 1 v2 j → h1.next.num + 2 ≤ j.num ∧ j.num < h2.next.num := fun j q => by have := m2.old q; omega
  have nm4 : ∀ j, InN 1 v4 j → h1.next.num + 2 ≤ j.num ∧ j.num < h4.next.num := fun j q => by have := m4.old q; omega
  have m2' := (m2.only o3 (fun j q => by have := nm2 j q; simp; intro c; subst c; omega)).more o4
  have RL := RdL_lay (N := h4.next.num) (h := h4) (id := h1.next.succ) (by omega) (Nat.le_refl _) (vs := [v2, v4]) (bs := [numB r, bytB s]) rfl (fun i hi => by
    match i, hi with
    | 0, _ => exact ⟨v2, rfl, ⟨m2'.sl, fun j q => by have := nm2 j q; omega⟩, fun j q c => by have := nm2 j q; subst c; omega⟩
    | 1, _ => exact ⟨v4, rfl, ⟨m4.sl, fun j q => by have := nm4 j q; omega⟩, fun j q c => by have := nm4 j q; subst c; omega⟩)
  have o5 := layH_only h4 h1.next.succ (.cells 0 (Cells.ofL [v2, v4]) 0 0 0 0 false false)
  have e5 := lay_eq h4 h1.next.succ (.cells 0 (Cells.ofL [v2, v4]) 0 0 0 0 false false)
  have n5 : (layH h4 h1.next.succ (.cells 0 (Cells.ofL [v2, v4]) 0 0 0 0 false false)).next = h4.next := rfl
  generalize hh5 : layH h4 h1.next.succ (.cells 0 (Cells.ofL [v2, v4]) 0 0 0 0 false false) = h5 at *
  rw [← n5] at RL
  obtain ⟨v6, h6, k6, m6, o6⟩ := join_fn RL (by
    have := numB_length_le r (by omega)
    have := bytB_length_le (b := s) (by omega)
    simp; omega) (by simp)
  obtain ⟨R, hS, hR', hbg⟩ := rec_of (P := Tryd.prog) [⟨30, [u64v r], hr0, v2, h2⟩, ⟨46, [.sl h1.next 0 0 s.length s.length false 1], h3, v4, h4⟩, ⟨29, [.sl h1.next.succ 0 0 2 2 true 1], h5, v6, h6⟩] (by
    intro a ha
    simp only [List.mem_cons, List.not_mem_nil, or_false] at ha
    rcases ha with e | e | e <;> subst e
    · exact k2
    · exact k4
    · exact k6) (by simp)
  have R1 := hR' _ (List.mem_cons_self ..)
  have R2 := hR' _ (List.mem_cons_of_mem _ (List.mem_cons_self ..))
  have R3 := hR' _ (List.mem_cons_of_mem _ (List.mem_cons_of_mem _ (List.mem_cons_self ..)))
  have b1 := hbg _ (List.mem_cons_self ..)
  have b2 := hbg _ (List.mem_cons_of_mem _ (List.mem_cons_self ..))
  have b3 := hbg _ (List.mem_cons_of_mem _ (List.mem_cons_of_mem _ (List.mem_cons_self ..)))
  simp only at R1 R2 R3 b1 b2 b3
  have ar : ∀ env ser lim x, ev env x = strOf s → evalOp Tryd.prog (.strBytes x) env ⟨.e, h1.next, ser, lim⟩ = .val (.sl h1.next 0 0 s.length s.length false 1) ⟨T.set h1.next (some (bytB' s)) .e, h1.next.succ, Nat.succ ser, lim⟩ := fun env ser lim x hx => strBytes_resv Tryd.prog hx (by omega)
  have br : ∀ env ser lim a b, ev env a = v2 → ev env b = v4 → evalOp Tryd.prog (.buildSl 2 1 [.nilSl] [(0, 1, a), (1, 1, b)]) env ⟨.e, h1.next.succ, ser, lim⟩ = .val (.sl h1.next.succ 0 0 2 2 true 1) ⟨T.set h1.next.succ (some (.cells 0 (Cells.ofL [v2, v4]) 0 0 0 0 false false)) .e, h1.next.succ.succ, Nat.succ ser, lim⟩ := fun env ser lim a b ha hb => build2_resv Tryd.prog ha hb m2.sl.atom.2 m4.sl.atom.2
  have rm : (r : Int) % 18446744073709551616 = r := by omega
  obtain ⟨env1, e1, s1⟩ : ∃ env', runS Tryd.prog false form_fu.body [] (setArgs .e 0 [.agg [int64 r, strOf s]]) h = some (.upt [.code (.drawn form_1), .code .ret], [], env', h1) ∧ sv env' 1 = .ptr h.next 0 0 := by
    simp [form_fu, form_0, runS, runR, Rs.seq, Rs.block, sv_args, runOps, wanted_no, wanted_sv, ev_tm, ev_vl, sv_setD, sv_set, setD_none, qev_mov, qev_bin, qev_un, qev_lenI, qev_lenS, qev_pick, qev_load1, qev_idxSl, idx2_sl, idxA2_ptr, opt_some, bin_add, bin_sub, bin_mul, bin_lss, bin_leq, bin_gtr, bin_geq, bin_eql, bin_neq, un_not, un_neg, qev_callv, qev_new1, qev_store1, qev_nilC, nilC_ptr, qev_fld, fld0, fldN, qev_extract, nth0, nth1, nth2, qev_eqPtr, sameP_nil, notIf, bx]
  obtain ⟨env2, acts, lds, e2, z⟩ : ∃ env' acts lds, runE Tryd.prog R 0 form_1 ⟨[], [], [], h1.next, env1, hr0⟩ = some ⟨acts, lds, [], h1.next.succ.succ, env', h6⟩ ∧ sv env' 2 = v6 := by
    simp [form_1, runE, stepE, stepD, kindOf, lookBack, lookAgain, actO, insT, putT, remAl, bit, runOps, wanted_no, wanted_sv, ev_tm, ev_vl, sv_setD, sv_set, setD_none, qev_mov, qev_bin, qev_un, qev_lenI, qev_lenS, qev_pick, qev_load1, qev_idxSl, idx2_sl, idxA2_ptr, opt_some, bin_add, bin_sub, bin_mul, bin_lss, bin_leq, bin_gtr, bin_geq, bin_eql, bin_neq, un_not, un_neg, qev_callv, qev_new1, qev_store1, qev_nilC, nilC_ptr, qev_fld, fld0, fldN, qev_extract, nth0, nth1, nth2, qev_eqPtr, sameP_nil, notIf, T.get_set, s1, l0, l1, l1', eqAV_str, qev_conv, wrapU, rm, callA_ok ok_number, callA_ok ok_bytes, callA_ok ok_join, b1, b2, b3, R1, R2, R3, ar, br, e3, e5, hz, show Nat.testBit 127 6 = true from by decide, show Nat.testBit 511 8 = true from by decide]
  have d2 := runDrawn_ofE (P := Tryd.prog) (rec := R) (l := form_1) (env := env1) (h := h1) (rid := h1.next.succ.succ) (acts := acts) (lds := lds) (by rw [show skipIds form_1 h1.next = h1.next.succ.succ from by simp [form_1, skipIds, isAlloc, kindOf], ← hsk]; exact e2)
  refine ⟨v6, h6, AmFn.dos form_code (by simp) (Dos.run (M := []) [] (by simp) e1 (DosL.more (M := []) (M1 := []) (Dos.drawn hS d2) (.ret (Dos.runRet [] (by simp) (show runS Tryd.prog true .ret [] env2 h6 = some (.ret, [], env2, h6) from rfl))))) (vs := [sv env2 2]) rfl z, ?_, ?_⟩
  · have e : [numB r, bytB s].flatten = formB r s := by simp [formB]
    rw [e] at m6
    exact m6.weak (by have := congrArg Pos.num n5; omega)
  · have oa := ((o1.trans osk).trans o2).mono (S' := [h1.next, h1.next.succ]) (by simp)
    have ob := (o3.mono (S' := [h1.next, h1.next.succ]) (by simp)).trans (o4.mono (S' := [h1.next, h1.next.succ]) (by simp))
    have oc := (o5.mono (S' := [h1.next, h1.next.succ]) (by simp)).trans (o6.mono (S' := [h1.next, h1.next.succ]) (by simp))
    exact ((oa.trans ob).trans oc).mono fun id q => .inr (by simp at q; rcases q with q | q <;> subst q <;> omega)
end Go.Proofs.YtjhgembcdndmkaaDoor.St

namespace Go.Proofs.YtjhgembcdndmkaaDoor.St
open Go Go.Proofs.YtjhgembcdndmkaaDoor.Am Go.Proofs

def errB (b : Bool) : Int := if b then 0 else 2
def orNil (b : Bool) (l : List UInt8) : List UInt8 := if b then l else []
@[simp] theorem errB_t : errB true = 0 := rfl
@[simp] theorem errB_f : errB false = 2 := rfl
@[simp] theorem orNil_t (l : List UInt8) : orNil true l = l := rfl
@[simp] theorem orNil_f (l : List UInt8) : orNil false l = [] := rfl

theorem mine_nil (N : Nat) (h : Hp) : Mine N h .nilSl [] := .inl (.inl ⟨rfl, rfl, .inl rfl⟩)

theorem branchB_le {r : Int} {s : List UInt8} (h : branchB r s = true) : 0 ≤ r ∧ r < 8 ∧ s.length ≤ 12 := by
  unfold branchB labelB at h; simp at h; omega
theorem nameB_le {r : Int} {s : List UInt8} {n : Int} (h : nameB r s n = true) : branchB r s = true ∧ 1 ≤ n ∧ n ≤ 4611686018427387904 := by
  unfold nameB at h; simp at h; exact h
theorem stampB_le {g r : Int} {s : List UInt8} {n i : Int} (h : stampB g r s n i = true) : 1 ≤ g ∧ g ≤ 4611686018427387904 ∧ nameB r s n = true ∧ 0 ≤ i ∧ i < 64 := by
  unfold stampB at h; simp at h; exact h

theorem putb_fn (r : Int) (s : List UInt8) (hs : s.length ≤ 9000) (h : Hp) : ∃ v h', AmFn Tryd.prog 7 [.agg [int64 r, strOf s]] h (.tup [v, int64 (errB (branchB r s))]) h' ∧ Mine h.next.num h' v (orNil (branchB r s) (formB r.toNat s)) ∧ Only [] h h' := by
  obtain ⟨h1, bx, A, o1, n1⟩ := boxed Tryd.prog [int64 r, strOf s] h
  obtain ⟨h2, k2, o2⟩ := branch_fn r s hs h1
  have w1 := A.part2 Tryd.prog (i := 0) (n := 2) (by simp)
  have w2 := (A.only o2 (by simp)).part2 Tryd.prog (i := 0) (n := 2) (by simp)
  simp only [List.drop_zero, List.take_succ_cons, List.take_zero] at w1 w2
  have o12 := o1.trans o2
  cases hb : branchB r s
  · rw [hb] at k2
    obtain ⟨env1, e1, z1, z2⟩ : ∃ env', runS Tryd.prog true putb_fu.body [⟨16, [.agg [int64 r, strOf s]], h1, .bool false, h2⟩] (setArgs .e 0 [.agg [int64 r, strOf s]]) h = some (.ret, [], env', h2) ∧ sv env' 2 = .nilSl ∧ sv env' 3 = int64 2 := by
      simp [putb_fu, putb_0, putb_1, putb_2, runS, runR, Rs.seq, Rs.block, sv_args, runOps, wanted_no, wanted_sv, ev_tm, ev_vl, sv_setD, sv_set, setD_none, qev_mov, qev_bin, qev_un, qev_lenI, qev_lenS, qev_pick, qev_load1, qev_idxSl, idx2_sl, idxA2_ptr, opt_some, bin_add, bin_sub, bin_mul, bin_lss, bin_leq, bin_gtr, bin_geq, bin_eql, bin_neq, un_not, un_neg, qev_callv, qev_new1, qev_store1, qev_nilC, nilC_ptr, qev_fld, fld0, fldN, qev_extract, nth0, nth1, nth2, qev_eqPtr, sameP_nil, notIf, bx, w1, callA_ok ok_branch]
    exact ⟨.nilSl, h2, AmFn.dos putb_code (by simp) (Dos.runRet _ (fun x hx => by simp at hx; subst hx; exact .fn k2) e1) (vs := [sv env1 2, sv env1 3]) rfl (by rw [z1, z2]; rfl), mine_nil _ _, o12⟩
  · rw [hb] at k2
    obtain ⟨q0, q8, ql⟩ := branchB_le hb
    obtain ⟨n, rfl⟩ := Int.eq_ofNat_of_zero_le q0
    obtain ⟨v3, h3, k3, m3, o3⟩ := form_fn n s (by omega) hs h2
    obtain ⟨env1, e1, z1, z2⟩ : ∃ env', runS Tryd.prog true putb_fu.body [⟨16, [.agg [int64 n, strOf s]], h1, .bool true, h2⟩, ⟨31, [.agg [int64 n, strOf s]], h2, v3, h3⟩] (setArgs .e 0 [.agg [int64 n, strOf s]]) h = some (.ret, [], env', h3) ∧ sv env' 2 = v3 ∧ sv env' 3 = int64 0 := by
      simp [putb_fu, putb_0, putb_1, putb_3, runS, runR, Rs.seq, Rs.block, sv_args, runOps, wanted_no, wanted_sv, ev_tm, ev_vl, sv_setD, sv_set, setD_none, qev_mov, qev_bin, qev_un, qev_lenI, qev_lenS, qev_pick, qev_load1, qev_idxSl, idx2_sl, idxA2_ptr, opt_some, bin_add, bin_sub, bin_mul, bin_lss, bin_leq, bin_gtr, bin_geq, bin_eql, bin_neq, un_not, un_neg, qev_callv, qev_new1, qev_store1, qev_nilC, nilC_ptr, qev_fld, fld0, fldN, qev_extract, nth0, nth1, nth2, qev_eqPtr, sameP_nil, notIf, bx, w1, w2, callA_ok ok_branch, callA_ok ok_form]
    exact ⟨v3, h3, AmFn.dos putb_code (by simp) (Dos.runRet _ (fun x hx => by simp at hx; exact hx.elim (fun e => by subst e; exact .fn k2) (fun e => by subst e; exact .fn k3)) e1) (vs := [sv env1 2, sv env1 3]) rfl (by rw [z1, z2]; rfl), m3.weak o12.next, o12.trans o3⟩

/-- Slices laid, then joined. -/
theorem join_lay {h : Hp} {id : Pos} (hid : id.num < h.next.num) {vs : List AV} {bs : List (List UInt8)} (hl : vs.length = bs.length) (he : ∀ i (hi : i < bs.length), ∃ x, vs[i]? = some x ∧ ∃ N, id.num < N ∧ Mine N h x bs[i]) (hb : bs.flatten.length ≤ 100000) (hn : bs.length ≤ 1000) :
    ∃ v' h', AmFn Tryd.prog 29 [.sl id 0 0 vs.length vs.length true 1] (layH h id (.cells 0 (Cells.ofL vs) 0 0 0 0 false false)) v' h' ∧ Mine h.next.num h' v' bs.flatten ∧ Only [] (layH h id (.cells 0 (Cells.ofL vs) 0 0 0 0 false false)) h' :=
  join_fn (RdL_lay (h := h) hid (Nat.le_refl _) hl fun i hi => by
    obtain ⟨x, e, N, q, m⟩ := he i hi
    exact ⟨x, e, ⟨m.sl, fun j qj => (m.old qj).2⟩, fun j qj c => by subst c; have := (m.old qj).1; omega⟩) hb hn

def pnameB (r : Nat) (s : List UInt8) (n : Nat) : List UInt8 := formB r s ++ numB n

theorem formB_length_le {r : Nat} {s : List UInt8} (hr : r < 18446744073709551616) (hs : s.length ≤ 20000) : (formB r s).length ≤ s.length + 20 := by
  have := numB_length_le r hr
  have := bytB_length_le hs
  unfold formB; simp; omega

theorem putn_fn (r : Int) (s : List UInt8) (n : Int) (hs : s.length ≤ 9000) (h : Hp) : ∃ v h', AmFn Tryd.prog 6 [.agg [int64 r, strOf s, int64 n]] h (.tup [v, int64 (errB (nameB r s n))]) h' ∧ Mine h.next.num h' v (orNil (nameB r s n) (pnameB r.toNat s n.toNat)) ∧ Only [] h h' := by
  obtain ⟨h1, bx, A, o1, n1⟩ := boxed Tryd.prog [int64 r, strOf s, int64 n] h
  obtain ⟨h2, k2, o2⟩ := name_fn r s n hs h1
  have w1 := A.part2 Tryd.prog (i := 0) (n := 3) (by simp)
  have A2 := A.only o2 (by simp)
  simp only [List.drop_zero, List.take_succ_cons, List.take_zero] at w1
  have o12 := o1.trans o2
  cases hb : nameB r s n
  · rw [hb] at k2
    obtain ⟨env1, e1, z1, z2⟩ : ∃ env', runS Tryd.prog true putn_fu.body [⟨14, [.agg [int64 r, strOf s, int64 n]], h1, .bool false, h2⟩] (setArgs .e 0 [.agg [int64 r, strOf s, int64 n]]) h = some (.ret, [], env', h2) ∧ sv env' 2 = .nilSl ∧ sv env' 3 = int64 2 := by
      simp [putn_fu, putn_0, putn_1, putn_2, runS, runR, Rs.seq, Rs.block, sv_args, runOps, wanted_no, wanted_sv, ev_tm, ev_vl, sv_setD, sv_set, setD_none, qev_mov, qev_bin, qev_un, qev_lenI, qev_lenS, qev_pick, qev_load1, qev_idxSl, idx2_sl, idxA2_ptr, opt_some, bin_add, bin_sub, bin_mul, bin_lss, bin_leq, bin_gtr, bin_geq, bin_eql, bin_neq, un_not, un_neg, qev_callv, qev_new1, qev_store1, qev_nilC, nilC_ptr, qev_fld, fld0, fldN, qev_extract, nth0, nth1, nth2, qev_eqPtr, sameP_nil, notIf, bx, w1, callA_ok ok_name]
    exact ⟨.nilSl, h2, AmFn.dos putn_code (by simp) (Dos.runRet _ (fun x hx => by simp at hx; subst hx; exact .fn k2) e1) (vs := [sv env1 2, sv env1 3]) rfl (by rw [z1, z2]; rfl), mine_nil _ _, o12⟩
  · rw [hb] at k2
    obtain ⟨qb, qn1, qn2⟩ := nameB_le hb
    obtain ⟨q0, q8, ql⟩ := branchB_le qb
    obtain ⟨r, rfl⟩ := Int.eq_ofNat_of_zero_le q0
    obtain ⟨n, rfl⟩ := Int.eq_ofNat_of_zero_le (show (0 : Int) ≤ n by omega)
    obtain ⟨env1, e1, s1⟩ : ∃ env', runS Tryd.prog false putn_fu.body [⟨14, [.agg [int64 r, strOf s, int64 n]], h1, .bool true, h2⟩] (setArgs .e 0 [.agg [int64 r, strOf s, int64 n]]) h = some (.upt [.code (.drawn putn_3), .code .ret], [], env', h2) ∧ sv env' 1 = .ptr h.next 0 0 := by
      simp [putn_fu, putn_0, putn_1, putn_2, runS, runR, Rs.seq, Rs.block, sv_args, runOps, wanted_no, wanted_sv, ev_tm, ev_vl, sv_setD, sv_set, setD_none, qev_mov, qev_bin, qev_un, qev_lenI, qev_lenS, qev_pick, qev_load1, qev_idxSl, idx2_sl, idxA2_ptr, opt_some, bin_add, bin_sub, bin_mul, bin_lss, bin_leq, bin_gtr, bin_geq, bin_eql, bin_neq, un_not, un_neg, qev_callv, qev_new1, qev_store1, qev_nilC, nilC_ptr, qev_fld, fld0, fldN, qev_extract, nth0, nth1, nth2, qev_eqPtr, sameP_nil, notIf, bx, w1, callA_ok ok_name]
    have osk := skipH_only h2
    have nsk := skipH_next h2
    have hsk : skipH h2 = ⟨h2.heap, h2.next.succ, h2.ser, h2.lim⟩ := rfl
    generalize hR : skipH h2 = hr0 at *
    have A3 := A2.only osk (by simp)
    obtain ⟨v4, h4, k4, m4, o4⟩ := form_fn r s (by omega) hs hr0
    have A4 := A3.only o4 (by simp)
    obtain ⟨v5, h5, k5, m5, o5⟩ := number_fn n (by omega) h4
    have nx4 := o4.next
    have nx5 := o5.next
    obtain ⟨v6, h6, k6, m6, o6⟩ := join_lay (h := h5) (id := h2.next) (by omega) (vs := [v4, v5]) (bs := [formB r s, numB n]) rfl (fun i hi => by
      match i, hi with
      | 0, _ => exact ⟨v4, rfl, hr0.next.num, by omega, m4.more o5⟩
      | 1, _ => exact ⟨v5, rfl, h4.next.num, by omega, m5⟩) (by
      have := formB_length_le (r := r) (s := s) (by omega) (by omega)
      have := numB_length_le n (by omega)
      simp; omega) (by simp)
    have ol := layH_only h5 h2.next (.cells 0 (Cells.ofL [v4, v5]) 0 0 0 0 false false)
    have el := lay_eq h5 h2.next (.cells 0 (Cells.ofL [v4, v5]) 0 0 0 0 false false)
    generalize layH h5 h2.next (.cells 0 (Cells.ofL [v4, v5]) 0 0 0 0 false false) = hl at *
    have lB := A3.part2 Tryd.prog (i := 0) (n := 2) (by simp)
    have l2 := A3.one (i := 2) (by simp)
    have l2' := A4.one (i := 2) (by simp)
    simp only [List.getElem_cons_zero, List.getElem_cons_succ, List.drop_zero, List.take_succ_cons, List.take_zero] at lB l2 l2'
    obtain ⟨R, hS, hR', hbg⟩ := rec_of (P := Tryd.prog) [⟨31, [.agg [int64 r, strOf s]], hr0, v4, h4⟩, ⟨30, [u64v n], h4, v5, h5⟩, ⟨29, [.sl h2.next 0 0 2 2 true 1], hl, v6, h6⟩] (by
      intro a ha
      simp only [List.mem_cons, List.not_mem_nil, or_false] at ha
      rcases ha with e | e | e <;> subst e
      · exact k4
      · exact k5
      · exact k6) (by simp)
    have R1 := hR' _ (List.mem_cons_self ..)
    have R2 := hR' _ (List.mem_cons_of_mem _ (List.mem_cons_self ..))
    have R3 := hR' _ (List.mem_cons_of_mem _ (List.mem_cons_of_mem _ (List.mem_cons_self ..)))
    have b1 := hbg _ (List.mem_cons_self ..)
    have b2 := hbg _ (List.mem_cons_of_mem _ (List.mem_cons_self ..))
    have b3 := hbg _ (List.mem_cons_of_mem _ (List.mem_cons_of_mem _ (List.mem_cons_self ..)))
    simp only at R1 R2 R3 b1 b2 b3
    have br : ∀ env ser lim a b, ev env a = v4 → ev env b = v5 → evalOp Tryd.prog (.buildSl 2 1 [.nilSl] [(0, 1, a), (1, 1, b)]) env ⟨.e, h2.next, ser, lim⟩ = .val (.sl h2.next 0 0 2 2 true 1) ⟨T.set h2.next (some (.cells 0 (Cells.ofL [v4, v5]) 0 0 0 0 false false)) .e, h2.next.succ, Nat.succ ser, lim⟩ := fun env ser lim a b ha hb => build2_resv Tryd.prog ha hb m4.sl.atom.2 m5.sl.atom.2
    have nm : (n : Int) % 18446744073709551616 = n := by omega
    obtain ⟨env2, acts, lds, e2, z1, z2⟩ : ∃ env' acts lds, runE Tryd.prog R 0 putn_3 ⟨[], [], [], h2.next, env1, hr0⟩ = some ⟨acts, lds, [], h2.next.succ, env', h6⟩ ∧ sv env' 2 = v6 ∧ sv env' 3 = int64 0 := by
      simp [putn_3, runE, stepE, stepD, kindOf, lookBack, lookAgain, actO, insT, putT, remAl, bit, runOps, wanted_no, wanted_sv, ev_tm, ev_vl, sv_setD, sv_set, setD_none, qev_mov, qev_bin, qev_un, qev_lenI, qev_lenS, qev_pick, qev_load1, qev_idxSl, idx2_sl, idxA2_ptr, opt_some, bin_add, bin_sub, bin_mul, bin_lss, bin_leq, bin_gtr, bin_geq, bin_eql, bin_neq, un_not, un_neg, qev_callv, qev_new1, qev_store1, qev_nilC, nilC_ptr, qev_fld, fld0, fldN, qev_extract, nth0, nth1, nth2, qev_eqPtr, sameP_nil, notIf, T.get_set, s1, lB, l2, l2', eqAV_int8, qev_conv, wrapU, nm, callA_ok ok_number, callA_ok ok_form, callA_ok ok_join, b1, b2, b3, R1, R2, R3, br, el, hz, show Nat.testBit 255 7 = true from by decide]
    have d2 := runDrawn_ofE (P := Tryd.prog) (rec := R) (l := putn_3) (env := env1) (h := h2) (rid := h2.next.succ) (acts := acts) (lds := lds) (by rw [show skipIds putn_3 h2.next = h2.next.succ from by simp [putn_3, skipIds, isAlloc, kindOf], ← hsk]; exact e2)
    refine ⟨v6, h6, AmFn.dos putn_code (by simp) (Dos.run (M := []) _ (fun x hx => by simp at hx; subst hx; exact .fn k2) e1 (DosL.more (M := []) (M1 := []) (Dos.drawn hS d2) (.ret (Dos.runRet [] (by simp) (show runS Tryd.prog true .ret [] env2 h6 = some (.ret, [], env2, h6) from rfl))))) (vs := [sv env2 2, sv env2 3]) rfl (by rw [z1, z2]; rfl), ?_, ?_⟩
    · have e : [formB r s, numB n].flatten = orNil true (pnameB (r : Int).toNat s (n : Int).toNat) := by simp [pnameB]
      rw [e] at m6
      exact m6.weak (by have := o12.next; omega)
    · have oa := (((o12.trans osk).trans o4).trans o5).mono (S' := [h2.next]) (by simp)
      exact (oa.trans (ol.trans (o6.mono (S' := [h2.next]) (by simp)))).mono fun id q => .inr (by simp at q; subst q; exact o12.next)
end Go.Proofs.YtjhgembcdndmkaaDoor.St

namespace Go.Proofs.YtjhgembcdndmkaaDoor.St
open Go Go.Proofs.YtjhgembcdndmkaaDoor.Am Go.Proofs

/-- Eight bytes of a number, the greatest ahead. -/
def eightB (n : Nat) : List UInt8 := (List.range 8).map fun i => UInt8.ofNat (n / 2 ^ (56 - 8 * i))

theorem eightB_length (n : Nat) : (eightB n).length = 8 := by simp [eightB]

theorem byt_take_succ {l : List UInt8} {i : Nat} (hi : i < l.length) : byt (l.take (i + 1)) = byt (l.take i) ++ [.int .u8 (l[i].toNat : Int)] := by
  rw [List.take_succ_eq_append_getElem hi, byt_append]; rfl

theorem eight_loop {n : Nat} {id : Pos} (hn : n < 9223372036854775808) : ∀ (m i : Nat) (env : T AV) (h : Hp) (L : List AV), i + m = 8 → sv env 0 = int64 n → sv env 3 = .sl id 0 0 8 8 true 1 → sv env 7 = int64 8 → sv env 8 = int64 i → Gro h id 0 L → L.length = 8 → L.take i = byt ((eightB n).take i) →
    ∃ env' h', Loops Tryd.prog 34 eight_7 env h (.exit 0) [] env' h' ∧ sv env' 3 = .sl id 0 0 8 8 true 1 ∧ Gro h' id 0 (byt (eightB n)) ∧ Only [id] h h' := by
  intro m
  induction m with
  | zero =>
    intro i env h L hi s0 s3 s7 s8 g hL ht
    have : i = 8 := by omega
    subst this
    obtain ⟨env1, e1, f3⟩ : ∃ env', runS Tryd.prog true eight_7 [] env h = some (.exit 0, [], env', h) ∧ sv env' 3 = .sl id 0 0 8 8 true 1 := by
      unfold eight_7
      simp [eight_3, runS, runR, Rs.seq, Rs.block, runOps, wanted_no, wanted_sv, ev_tm, ev_vl, sv_setD, sv_set, setD_none, qev_mov, qev_bin, qev_un, qev_lenI, qev_lenS, qev_pick, qev_load1, qev_idxSl, idx2_sl, idxA2_ptr, opt_some, bin_add, bin_sub, bin_mul, bin_lss, bin_leq, bin_gtr, bin_geq, bin_eql, bin_neq, un_not, un_neg, qev_callv, qev_new1, qev_store1, qev_nilC, nilC_ptr, qev_fld, fld0, fldN, qev_extract, nth0, nth1, nth2, qev_eqPtr, sameP_nil, notIf, s0, s3, s7, s8]
    rw [List.take_of_length_le (l := L) (by omega), List.take_of_length_le (l := eightB n) (by rw [eightB_length]; omega)] at ht
    subst ht
    exact ⟨env1, h, .out (Dos.runExit [] (by simp) e1) (by simp), f3, g, .refl _ _⟩
  | succ m ih =>
    intro i env h L hi s0 s3 s7 s8 g hL ht
    have hi8 : i < 8 := by omega
    have hi8' : (i : Int) < 8 := by omega
    have hiL : i < L.length := by omega
    obtain ⟨sh, hsh⟩ : ∃ sh : Nat, sh = 56 - 8 * i := ⟨_, rfl⟩
    have w0 : wrapA .i64 (8 * (i : Int)) = 8 * i := wrap64 (by omega) (by omega)
    have w1 : wrapA .i64 (56 - 8 * (i : Int)) = (sh : Int) := by rw [hsh]; rw [wrap64 (by omega) (by omega)]; omega
    have w2 : wrapA .i64 ((i : Int) + 1) = (i : Int) + 1 := wrap64 (by omega) (by omega)
    obtain ⟨q, hq⟩ : ∃ q : Nat, q = n / 2 ^ sh := ⟨_, rfl⟩
    have sp : ∀ kd no, binA .shr kd no (int64 n) (int64 sh) = some (int64 q) := fun kd no => by rw [hq]; exact bin_shrN (k := .i64) (k' := .i64) n sh (by show sh ≤ 64; omega)
    have st := storeR_gro g hiL (.int .u8 ((q : Int) % 256)) rfl rfl
    have g' := putG_gro g hiL (.int .u8 ((q : Int) % 256))
    have o' := putG_only h id i (.int .u8 ((q : Int) % 256))
    have hlen := eightB_length n
    have ht' : (L.set i (.int .u8 ((q : Int) % 256))).take (i + 1) = byt ((eightB n).take (i + 1)) := by
      rw [byt_take_succ (by omega), ← ht, List.take_succ_eq_append_getElem (by simpa using hiL), List.getElem_set_self, List.take_set_of_le (Nat.le_refl _)]
      congr 2
      simp [eightB, hq, hsh]
    generalize putG h id i (.int .u8 ((q : Int) % 256)) = h1 at *
    obtain ⟨env1, e1, f0, f3, f7, f8⟩ : ∃ env', runS Tryd.prog true eight_7 [] env h = some (.upt [], [], env', h1) ∧ sv env' 0 = int64 n ∧ sv env' 3 = .sl id 0 0 8 8 true 1 ∧ sv env' 7 = int64 8 ∧ sv env' 8 = int64 ((i + 1 : Nat) : Int) := by
      unfold eight_7
      simp [eight_3, eight_4, eight_5, eight_6, runS, runR, Rs.seq, Rs.block, runOps, wanted_no, wanted_sv, ev_tm, ev_vl, sv_setD, sv_set, setD_none, qev_mov, qev_bin, qev_un, qev_lenI, qev_lenS, qev_pick, qev_load1, qev_idxSl, idx2_sl, idxA2_ptr, opt_some, bin_add, bin_sub, bin_mul, bin_lss, bin_leq, bin_gtr, bin_geq, bin_eql, bin_neq, un_not, un_neg, qev_callv, qev_new1, qev_store1, qev_nilC, nilC_ptr, qev_fld, fld0, fldN, qev_extract, nth0, nth1, nth2, qev_eqPtr, sameP_nil, notIf, s0, s3, s7, s8, hi8, hi8', w0, w1, w2, sp, qev_conv, wrap8, st]
    obtain ⟨env', h', Lp, q3, g2, o2⟩ := ih (i + 1) env1 h1 _ (by omega) f0 f3 f7 f8 g' (by simpa using hL) ht'
    exact ⟨env', h', .more (M := []) (M1 := []) (Dos.runGo [] (by simp) e1) Lp, q3, g2, o'.trans o2⟩

theorem eight_fn (n : Nat) (hn : n < 9223372036854775808) (h : Hp) : ∃ v h', AmFn Tryd.prog 34 [int64 n] h v h' ∧ Mine h.next.num h' v (eightB n) ∧ Only [] h h' ∧ h.next.num < h'.next.num := by
  obtain ⟨h1, mk, g1, o1, n1⟩ := mkSl_room Tryd.prog (h := h) (l := 8) (c := 8) (bytes := 1) (z := .int .u8 0) (by omega) (by omega) (by omega)
  have mk := fun env => mk env (vl (int64 8)) (vl (int64 8)) rfl rfl
  obtain ⟨env1, e1, f0, f3, f7, f8⟩ : ∃ env', runS Tryd.prog true eight_fu.body [] (setArgs .e 0 [int64 n]) h = some (.upt [.code (.loop eight_7), .inBlock 0, .code (.seq (.region eight_8) .ret)], [], env', h1) ∧ sv env' 0 = int64 n ∧ sv env' 3 = .sl h.next 0 0 8 8 true 1 ∧ sv env' 7 = int64 8 ∧ sv env' 8 = int64 ((0 : Nat) : Int) := by
    simp [eight_fu, eight_0, eight_1, eight_2, runS, runR, Rs.seq, Rs.block, sv_args, runOps, wanted_no, wanted_sv, ev_tm, ev_vl, sv_setD, sv_set, setD_none, qev_mov, qev_bin, qev_un, qev_lenI, qev_lenS, qev_pick, qev_load1, qev_idxSl, idx2_sl, idxA2_ptr, opt_some, bin_add, bin_sub, bin_mul, bin_lss, bin_leq, bin_gtr, bin_geq, bin_eql, bin_neq, un_not, un_neg, qev_callv, qev_new1, qev_store1, qev_nilC, nilC_ptr, qev_fld, fld0, fldN, qev_extract, nth0, nth1, nth2, qev_eqPtr, sameP_nil, notIf, mk]
  obtain ⟨env2, h2, L, q3, g2, o2⟩ := eight_loop (id := h.next) hn 8 0 env1 h1 _ (by omega) f0 f3 f7 f8 g1 (by simp) (by simp [byt])
  obtain ⟨env3, e3, z⟩ : ∃ env', runS Tryd.prog true (.seq (.region eight_8) .ret) [] env2 h2 = some (.ret, [], env', h2) ∧ sv env' 2 = .sl h.next 0 0 8 8 true 1 := by
    simp [eight_8, runS, runR, Rs.seq, Rs.block, runOps, wanted_no, wanted_sv, ev_tm, ev_vl, sv_setD, sv_set, setD_none, qev_mov, qev_bin, qev_un, qev_lenI, qev_lenS, qev_pick, qev_load1, qev_idxSl, idx2_sl, idxA2_ptr, opt_some, bin_add, bin_sub, bin_mul, bin_lss, bin_leq, bin_gtr, bin_geq, bin_eql, bin_neq, un_not, un_neg, qev_callv, qev_new1, qev_store1, qev_nilC, nilC_ptr, qev_fld, fld0, fldN, qev_extract, nth0, nth1, nth2, qev_eqPtr, sameP_nil, notIf, q3]
  have hlen := eightB_length n
  refine ⟨_, h2, AmFn.dos eight_code (by simp) (Dos.run (M := []) [] (by simp) e1 (.leave (M := []) (M1 := []) (i := 0) (Dos.loop L) rfl (.ret (Dos.runRet [] (by simp) e3)))) (vs := [sv env3 2]) rfl z, ?_, ?_, by have := o2.next; omega⟩
  · refine .inr ⟨h.next, byt (eightB n), Nat.le_refl _, by rw [byt_length, hlen], g2, ?_, Nat.le_of_eq (byt_length _).symm⟩
    rw [List.take_of_length_le (Nat.le_of_eq (byt_length _))]
  · exact ((o1.mono (S' := [h.next]) (by simp)).trans o2).mono fun id q => .inr (by simp at q; subst q; exact Nat.le_refl _)
end Go.Proofs.YtjhgembcdndmkaaDoor.St

namespace Go.Proofs.YtjhgembcdndmkaaDoor.St
open Go Go.Proofs.YtjhgembcdndmkaaDoor.Am Go.Proofs

theorem one_lay {h : Hp} {id : Pos} (hid : id.num < h.next.num) (k : Nat) (hk : k < 256) : SlN (layH h id (.cells 0 (Cells.ofL [.int .u8 (k : Int)]) 0 0 0 0 false false)) 1 (.sl id 0 0 1 1 true 1) [UInt8.ofNat k].length (byt [UInt8.ofNat k]) := by
  have q := (layH_arr (h := h) hid 0 [.int .u8 (k : Int)]).gro.sl (n := 1) (cap := 1) (ex := true) (by simp)
  rw [show byt [UInt8.ofNat k] = List.take 1 [.int .u8 (k : Int)] from by
    show [AV.int .u8 ((UInt8.ofNat k).toNat : Int)] = _
    rw [toNat8 hk]; rfl]
  exact q

theorem cells_sl (id : Pos) (g o n c : Nat) (e : Bool) (k : Nat) : (AV.sl id g o n c e k).cells = [.sl id g o n c e k] := rfl

def keyL (g r : Nat) (s : List UInt8) (n i : Nat) : List (List UInt8) := [eightB g, [UInt8.ofNat r], s, [UInt8.ofNat 0], eightB n, [UInt8.ofNat i]]
def keyB (g r : Nat) (s : List UInt8) (n i : Nat) : List UInt8 := (keyL g r s n i).flatten

theorem slN_in {h : Hp} {S : List Pos} {h' : Hp} {v : AV} {n : Nat} {l : List AV} {id : Pos} {n' cap : Nat} {ex : Bool} (r : SlN h 1 v n l) (e : v = .sl id 0 0 n' cap ex 1) (o : Only S h h') (hS : id ∉ S) : SlN h' 1 v n l :=
  r.only o fun j ⟨_, _, _, _, _, q⟩ => by rw [e] at q; cases q; exact hS

theorem key_fn (g r : Int) (s : List UInt8) (n i : Int) (hs : s.length ≤ 9000) (h : Hp) : ∃ h', AmFn Tryd.prog 11 [.agg [int64 g, int64 r, strOf s, int64 n, int64 i]] h (.tup [strOf (orNil (stampB g r s n i) (keyB g.toNat r.toNat s n.toNat i.toNat)), int64 (errB (stampB g r s n i))]) h' ∧ Only [] h h' := by
  obtain ⟨h1, bx, A, o1, n1⟩ := boxed Tryd.prog [int64 g, int64 r, strOf s, int64 n, int64 i] h
  obtain ⟨h2, k2, o2⟩ := stamp_fn g r s n i hs h1
  have w1 := A.part2 Tryd.prog (i := 0) (n := 5) (by simp)
  have A2 := A.only o2 (by simp)
  simp only [List.drop_zero, List.take_succ_cons, List.take_zero] at w1
  have o12 := o1.trans o2
  cases hb : stampB g r s n i
  · rw [hb] at k2
    obtain ⟨env1, e1, z1, z2⟩ : ∃ env', runS Tryd.prog true key_fu.body [⟨12, [.agg [int64 g, int64 r, strOf s, int64 n, int64 i]], h1, .bool false, h2⟩] (setArgs .e 0 [.agg [int64 g, int64 r, strOf s, int64 n, int64 i]]) h = some (.ret, [], env', h2) ∧ sv env' 2 = .str 0 0 ∧ sv env' 3 = int64 2 := by
      simp [key_fu, key_0, key_1, key_2, runS, runR, Rs.seq, Rs.block, sv_args, runOps, wanted_no, wanted_sv, ev_tm, ev_vl, sv_setD, sv_set, setD_none, qev_mov, qev_bin, qev_un, qev_lenI, qev_lenS, qev_pick, qev_load1, qev_idxSl, idx2_sl, idxA2_ptr, opt_some, bin_add, bin_sub, bin_mul, bin_lss, bin_leq, bin_gtr, bin_geq, bin_eql, bin_neq, un_not, un_neg, qev_callv, qev_new1, qev_store1, qev_nilC, nilC_ptr, qev_fld, fld0, fldN, qev_extract, nth0, nth1, nth2, qev_eqPtr, sameP_nil, notIf, bx, w1, callA_ok ok_stamp]
    exact ⟨h2, AmFn.dos key_code (by simp) (Dos.runRet _ (fun x hx => by simp at hx; subst hx; exact .fn k2) e1) (vs := [sv env1 2, sv env1 3]) rfl (by rw [z1, z2]; rfl), o12⟩
  · rw [hb] at k2
    obtain ⟨g1, g2, qn, i1, i2⟩ := stampB_le hb
    obtain ⟨qb, qn1, qn2⟩ := nameB_le qn
    obtain ⟨q0, q8, ql⟩ := branchB_le qb
    obtain ⟨g, rfl⟩ := Int.eq_ofNat_of_zero_le (show (0 : Int) ≤ g by omega)
    obtain ⟨r, rfl⟩ := Int.eq_ofNat_of_zero_le q0
    obtain ⟨n, rfl⟩ := Int.eq_ofNat_of_zero_le (show (0 : Int) ≤ n by omega)
    obtain ⟨i, rfl⟩ := Int.eq_ofNat_of_zero_le i1
    have nw := qev_newL Tryd.prog
    have nA := newH_arr h2 [int64 0, .str 0 0]
    have nO := newH_only [] h2 (fun _ => Blk.cells 0 (Cells.ofL [int64 0, .str 0 0]) 0 0 0 0 false false)
    have nN := newH_next h2 (fun _ => Blk.cells 0 (Cells.ofL [int64 0, .str 0 0]) 0 0 0 0 false false)
    have lBr := A2.part2 Tryd.prog (i := 1) (n := 2) (by simp)
    simp only [List.drop_succ_cons, List.drop_zero, List.take_succ_cons, List.take_zero] at lBr
    obtain ⟨h3, st, B3, o3, n3⟩ := storeN_arr Tryd.prog nA (xs := [int64 r, strOf s]) rfl (by simp) (by simp [AV.atom]; rfl)
    have o23 := ((nO.mono (S' := [h2.next]) (by simp)).trans o3).mono (S' := []) (fun j q => .inr (by simp at q; subst q; exact Nat.le_refl _))
    have n23 : h3.next.num = h2.next.num + 1 := by rw [n3]; exact nN
    obtain ⟨env1, e1, s1, s4⟩ : ∃ env', runS Tryd.prog false key_fu.body [⟨12, [.agg [int64 g, int64 r, strOf s, int64 n, int64 i]], h1, .bool true, h2⟩] (setArgs .e 0 [.agg [int64 g, int64 r, strOf s, int64 n, int64 i]]) h = some (.upt [.code (.drawn key_4), .code .ret], [], env', h3) ∧ sv env' 1 = .ptr h.next 0 0 ∧ sv env' 4 = .ptr h2.next 0 0 := by
      simp at st
      simp [key_fu, key_0, key_1, key_2, key_3, runS, runR, Rs.seq, Rs.block, sv_args, runOps, wanted_no, wanted_sv, ev_tm, ev_vl, sv_setD, sv_set, setD_none, qev_mov, qev_bin, qev_un, qev_lenI, qev_lenS, qev_pick, qev_load1, qev_idxSl, idx2_sl, idxA2_ptr, opt_some, bin_add, bin_sub, bin_mul, bin_lss, bin_leq, bin_gtr, bin_geq, bin_eql, bin_neq, un_not, un_neg, qev_callv, qev_new1, qev_store1, qev_nilC, nilC_ptr, qev_fld, fld0, fldN, qev_extract, nth0, nth1, nth2, qev_eqPtr, sameP_nil, notIf, bx, w1, nw, lBr, st, callA_ok ok_stamp]
    have k2' := k2
    clear st nA nO nN nw bx k2
    have A3 := A2.only o23 (by simp)
    have hk5 : ∃ hr0, hr0 = skipH (skipH (skipH (skipH (skipH h3)))) ∧ Only [] h3 hr0 ∧ hr0.next.num = h3.next.num + 5 := ⟨_, rfl, ((((skipH_only _).trans (skipH_only _)).trans (skipH_only _)).trans (skipH_only _)).trans (skipH_only _), by simp only [skipH_next]⟩
    obtain ⟨hr0, hsk, osk, nsk⟩ := hk5
    have hsk : hr0 = ⟨h3.heap, h3.next.succ.succ.succ.succ.succ, h3.ser, h3.lim⟩ := hsk
    obtain ⟨ia, ha⟩ : ∃ x, x = h3.next := ⟨_, rfl⟩
    obtain ⟨ib, hib⟩ : ∃ x, x = h3.next.succ := ⟨_, rfl⟩
    obtain ⟨ic, hic⟩ : ∃ x, x = h3.next.succ.succ := ⟨_, rfl⟩
    obtain ⟨ie, hie⟩ : ∃ x, x = h3.next.succ.succ.succ := ⟨_, rfl⟩
    obtain ⟨il, hil⟩ : ∃ x, x = h3.next.succ.succ.succ.succ := ⟨_, rfl⟩
    have na : ia.num = h3.next.num := by rw [ha]
    have nb : ib.num = h3.next.num + 1 := by rw [hib, Pos.num_succ]
    have nc : ic.num = h3.next.num + 2 := by rw [hic, Pos.num_succ, Pos.num_succ]
    have ne : ie.num = h3.next.num + 3 := by rw [hie, Pos.num_succ, Pos.num_succ, Pos.num_succ]
    have nl : il.num = h3.next.num + 4 := by rw [hil, Pos.num_succ, Pos.num_succ, Pos.num_succ, Pos.num_succ]
    have A4 := A3.only osk (by simp)
    have B4 := B3.only osk (by simp)
    obtain ⟨v5, h5, k5, m5, o5, t5⟩ := eight_fn g (by omega) hr0
    have A5 := A4.only o5 (by simp)
    have B5 := B4.only o5 (by simp)
    have nx5 := o5.next
    obtain ⟨v6, h6, k6, m6, o6, _⟩ := eight_fn n (by omega) h5
    have A6 := A5.only o6 (by simp)
    have B6 := B5.only o6 (by simp)
    have nx6 := o6.next
    have m5' := m5.more o6
    obtain ⟨vl5, hvl⟩ : ∃ x : List AV, x = [v5, .sl ia 0 0 1 1 true 1, .sl ib 0 0 s.length s.length false 1, .sl ic 0 0 1 1 true 1, v6, .sl ie 0 0 1 1 true 1] := ⟨_, rfl⟩
    -- the blocks, laid one behind the other
    obtain ⟨H1, e1'⟩ : ∃ x, x = layH h6 il (.cells 0 (Cells.ofL vl5) 0 0 0 0 false false) := ⟨_, rfl⟩
    obtain ⟨H2, e2'⟩ : ∃ x, x = layH H1 ie (.cells 0 (Cells.ofL [.int .u8 (i : Int)]) 0 0 0 0 false false) := ⟨_, rfl⟩
    obtain ⟨H3, e3'⟩ : ∃ x, x = layH H2 ic (.cells 0 (Cells.ofL [.int .u8 ((0 : Nat) : Int)]) 0 0 0 0 false false) := ⟨_, rfl⟩
    obtain ⟨H4, e4'⟩ : ∃ x, x = layH H3 ib (bytB' s) := ⟨_, rfl⟩
    obtain ⟨H5, e5'⟩ : ∃ x, x = layH H4 ia (.cells 0 (Cells.ofL [.int .u8 (r : Int)]) 0 0 0 0 false false) := ⟨_, rfl⟩
    have el : (⟨T.set ia (some (.cells 0 (Cells.ofL [.int .u8 (r : Int)]) 0 0 0 0 false false)) (T.set ib (some (bytB' s)) (T.set ic (some (.cells 0 (Cells.ofL [.int .u8 0]) 0 0 0 0 false false)) (T.set ie (some (.cells 0 (Cells.ofL [.int .u8 (i : Int)]) 0 0 0 0 false false)) (T.set il (some (.cells 0 (Cells.ofL vl5) 0 0 0 0 false false)) h6.heap)))), h6.next, h6.ser, h6.lim⟩ : Hp) = H5 := by
      rw [e5', e4', e3', e2', e1']; rfl
    have N1 : H1.next = h6.next := by rw [e1']; rfl
    have N2 : H2.next = h6.next := by rw [e2', ← N1]; rfl
    have N3 : H3.next = h6.next := by rw [e3', ← N2]; rfl
    have N4 : H4.next = h6.next := by rw [e4', ← N3]; rfl
    have N5 : H5.next = h6.next := by rw [e5', ← N4]; rfl
    have O1 : Only [il] h6 H1 := by rw [e1']; exact layH_only _ _ _
    have O2 : Only [ie] H1 H2 := by rw [e2']; exact layH_only _ _ _
    have O3 : Only [ic] H2 H3 := by rw [e3']; exact layH_only _ _ _
    have O4 : Only [ib] H3 H4 := by rw [e4']; exact layH_only _ _ _
    have O5 : Only [ia] H4 H5 := by rw [e5']; exact layH_only _ _ _
    have lt6 : ia.num < h6.next.num ∧ ib.num < h6.next.num ∧ ic.num < h6.next.num ∧ ie.num < h6.next.num ∧ il.num < h6.next.num := by omega
    have ne1 : ∀ x y : Pos, x.num ≠ y.num → x ≠ y := fun x y q c => q (by rw [c])
    have dL : il ∉ [ie, ic, ib, ia] := by simp only [List.mem_cons, List.not_mem_nil, or_false, not_or]; exact ⟨ne1 _ _ (by omega), ne1 _ _ (by omega), ne1 _ _ (by omega), ne1 _ _ (by omega)⟩
    have dE : ie ∉ [ic, ib, ia] := by simp only [List.mem_cons, List.not_mem_nil, or_false, not_or]; exact ⟨ne1 _ _ (by omega), ne1 _ _ (by omega), ne1 _ _ (by omega)⟩
    have dC : ic ∉ [ib, ia] := by simp only [List.mem_cons, List.not_mem_nil, or_false, not_or]; exact ⟨ne1 _ _ (by omega), ne1 _ _ (by omega)⟩
    have dB : ib ∉ [ia] := by simp only [List.mem_cons, List.not_mem_nil, or_false]; exact ne1 _ _ (by omega)
    have OA : Only [ib, ia] H3 H5 := (O4.mono (by simp)).trans (O5.mono (by simp))
    have OB : Only [ic, ib, ia] H2 H5 := (O3.mono (by simp)).trans (OA.mono (by simp))
    have OC : Only [ie, ic, ib, ia] H1 H5 := (O2.mono (by simp)).trans (OB.mono (fun j q => .inl (List.mem_cons_of_mem _ q)))
    have OD : Only [il, ie, ic, ib, ia] h6 H5 := (O1.mono (by simp)).trans (OC.mono (fun j q => .inl (List.mem_cons_of_mem _ q)))
    have rl : SlN H5 1 (.sl il 0 0 vl5.length vl5.length true 1) vl5.length vl5 := by
      have q := (layH_arr (h := h6) (id := il) lt6.2.2.2.2 0 vl5).gro
      rw [← e1'] at q
      have q2 := (q.only OC dL).sl (n := vl5.length) (cap := vl5.length) (ex := true) (Nat.le_refl _)
      rwa [List.take_length] at q2
    have re : SlN H5 1 (.sl ie 0 0 1 1 true 1) [UInt8.ofNat i].length (byt [UInt8.ofNat i]) := by
      have q := one_lay (h := H1) (id := ie) (by rw [N1]; exact lt6.2.2.2.1) i (by omega)
      rw [← e2'] at q
      exact slN_in q rfl OB dE
    have rc : SlN H5 1 (.sl ic 0 0 1 1 true 1) [UInt8.ofNat 0].length (byt [UInt8.ofNat 0]) := by
      have q := one_lay (h := H2) (id := ic) (by rw [N2]; exact lt6.2.2.1) 0 (by omega)
      rw [← e3'] at q
      exact slN_in q rfl OA dC
    have rb : SlN H5 1 (.sl ib 0 0 s.length s.length false 1) s.length (byt s) := by
      have q := layH_byt (h := H3) (id := ib) (by rw [N3]; exact lt6.2.1) s
      rw [← e4'] at q
      exact slN_in q rfl O5 dB
    have ra : SlN H5 1 (.sl ia 0 0 1 1 true 1) [UInt8.ofNat r].length (byt [UInt8.ofNat r]) := by
      have q := one_lay (h := H4) (id := ia) (by rw [N4]; exact lt6.1) r (by omega)
      rwa [← e5'] at q
    have far : ∀ N v l, Mine N h6 v l → h3.next.num + 5 ≤ N → RdB H5.next.num H5 v l := fun N v l m q =>
      ⟨m.sl.only OD fun j qj c => by
        have := (m.old qj).1
        simp only [List.mem_cons, List.not_mem_nil, or_false] at c
        rcases c with c | c | c | c | c <;> subst c <;> omega, fun j qj => by rw [N5]; exact (m.old qj).2⟩
    have own : ∀ (id : Pos) n (ex : Bool) l, id.num < h6.next.num → SlN H5 1 (.sl id 0 0 n n ex 1) l.length (byt l) → RdB H5.next.num H5 (.sl id 0 0 n n ex 1) l := fun id n ex l q r => ⟨r, fun j ⟨_, _, _, _, _, e⟩ => by cases e; rw [N5]; exact q⟩
    have RL : RdL H5.next.num H5 (.sl il 0 0 vl5.length vl5.length true 1) vl5 (keyL g r s n i) := by
      refine ⟨rl.slR, fun j ⟨_, _, _, _, _, e⟩ => by cases e; rw [N5]; exact lt6.2.2.2.2, by rw [hvl]; rfl, fun k hk => ?_⟩
      rw [hvl]
      match k, hk with
      | 0, _ => exact ⟨v5, rfl, far _ _ _ m5' (by omega)⟩
      | 1, _ => exact ⟨_, rfl, own _ _ _ _ lt6.1 ra⟩
      | 2, _ => exact ⟨_, rfl, own _ _ _ _ lt6.2.1 rb⟩
      | 3, _ => exact ⟨_, rfl, own _ _ _ _ lt6.2.2.1 rc⟩
      | 4, _ => exact ⟨v6, rfl, far _ _ _ m6 (by omega)⟩
      | 5, _ => exact ⟨_, rfl, own _ _ _ _ lt6.2.2.2.1 re⟩
    obtain ⟨v7, h7, k7, m7, o7⟩ := join_fn RL (by
      have := eightB_length g
      have := eightB_length n
      unfold keyL; simp; omega) (by simp [keyL])
    have a5 := m5.sl.atom
    have a6 := m6.sl.atom
    have hv6 : vl5.length = 6 := by rw [hvl]; rfl
    rw [hv6] at k7
    have rS := m7.sl.str (P := Tryd.prog)
    obtain ⟨R, hS, hR', hbg⟩ := rec_of (P := Tryd.prog) [⟨34, [int64 g], hr0, v5, h5⟩, ⟨34, [int64 n], h5, v6, h6⟩, ⟨29, [.sl il 0 0 6 6 true 1], H5, v7, h7⟩] (by
      intro a ha
      simp only [List.mem_cons, List.not_mem_nil, or_false] at ha
      rcases ha with e | e | e <;> subst e
      · exact k5
      · exact k6
      · exact k7) (by
      have : hr0.next ≠ h5.next := fun c => by rw [c] at t5; omega
      simp [this])
    have R1 := hR' _ (List.mem_cons_self ..)
    have R2 := hR' _ (List.mem_cons_of_mem _ (List.mem_cons_self ..))
    have R3 := hR' _ (List.mem_cons_of_mem _ (List.mem_cons_of_mem _ (List.mem_cons_self ..)))
    have b1 := hbg _ (List.mem_cons_self ..)
    have b2 := hbg _ (List.mem_cons_of_mem _ (List.mem_cons_self ..))
    have b3 := hbg _ (List.mem_cons_of_mem _ (List.mem_cons_of_mem _ (List.mem_cons_self ..)))
    simp only at R1 R2 R3 b1 b2 b3
    have l40 := A4.one (i := 0) (by simp)
    have l43 := A4.one (i := 3) (by simp)
    have l44 := A4.one (i := 4) (by simp)
    have l53 := A5.one (i := 3) (by simp)
    have l54 := A5.one (i := 4) (by simp)
    have l64 := A6.one (i := 4) (by simp)
    have c40 := B4.one (i := 0) (by simp)
    have c41 := B4.one (i := 1) (by simp)
    have c50 := B5.one (i := 0) (by simp)
    have c51 := B5.one (i := 1) (by simp)
    have c60 := B6.one (i := 0) (by simp)
    have c61 := B6.one (i := 1) (by simp)
    simp only [List.getElem_cons_zero, List.getElem_cons_succ] at l40 l43 l44 l53 l54 l64 c40 c41 c50 c51 c60 c61
    have xa : ∀ env ser lim x, ev env x = .int .u8 (r : Int) → evalOp Tryd.prog (.buildSl 1 1 [.int .u8 0] [(0, 1, x)]) env ⟨.e, ia, ser, lim⟩ = .val (.sl ia 0 0 1 1 true 1) ⟨T.set ia (some (.cells 0 (Cells.ofL [.int .u8 (r : Int)]) 0 0 0 0 false false)) .e, ib, Nat.succ ser, lim⟩ := fun env ser lim x hx => by
      rw [hib, ← ha]; exact buildN_resv Tryd.prog (by simp [fillA, replA, hx, AV.cells]; rfl)
    have xb : ∀ env ser lim x, ev env x = strOf s → evalOp Tryd.prog (.strBytes x) env ⟨.e, ib, ser, lim⟩ = .val (.sl ib 0 0 s.length s.length false 1) ⟨T.set ib (some (bytB' s)) .e, ic, Nat.succ ser, lim⟩ := fun env ser lim x hx => by
      rw [hic, ← hib]; exact strBytes_resv Tryd.prog hx (by omega)
    have xc : ∀ env ser lim, evalOp Tryd.prog (.buildSl 1 1 [.int .u8 0] [(0, 1, (vl (.int .u8 0)))]) env ⟨.e, ic, ser, lim⟩ = .val (.sl ic 0 0 1 1 true 1) ⟨T.set ic (some (.cells 0 (Cells.ofL [.int .u8 0]) 0 0 0 0 false false)) .e, ie, Nat.succ ser, lim⟩ := fun env ser lim => by
      rw [hie, ← hic]; exact buildN_resv Tryd.prog (by simp [fillA, replA, ev_vl, AV.cells]; rfl)
    have xe : ∀ env ser lim x, ev env x = .int .u8 (i : Int) → evalOp Tryd.prog (.buildSl 1 1 [.int .u8 0] [(0, 1, x)]) env ⟨.e, ie, ser, lim⟩ = .val (.sl ie 0 0 1 1 true 1) ⟨T.set ie (some (.cells 0 (Cells.ofL [.int .u8 (i : Int)]) 0 0 0 0 false false)) .e, il, Nat.succ ser, lim⟩ := fun env ser lim x hx => by
      rw [hil, ← hie]; exact buildN_resv Tryd.prog (by simp [fillA, replA, hx, AV.cells]; rfl)
    have xl : ∀ env ser lim x0 x1 x2 x3 x4 x5, ev env x0 = v5 → ev env x1 = .sl ia 0 0 1 1 true 1 → ev env x2 = .sl ib 0 0 s.length s.length false 1 → ev env x3 = .sl ic 0 0 1 1 true 1 → ev env x4 = v6 → ev env x5 = .sl ie 0 0 1 1 true 1 →
        evalOp Tryd.prog (.buildSl 6 1 [.nilSl] [(0, 1, x0), (1, 1, x1), (2, 1, x2), (3, 1, x3), (4, 1, x4), (5, 1, x5)]) env ⟨.e, il, ser, lim⟩ = .val (.sl il 0 0 6 6 true 1) ⟨T.set il (some (.cells 0 (Cells.ofL vl5) 0 0 0 0 false false)) .e, il.succ, Nat.succ ser, lim⟩ := fun env ser lim x0 x1 x2 x3 x4 x5 q0 q1 q2 q3 q4 q5 => by
      rw [hvl]; exact buildN_resv Tryd.prog (by simp [fillA, replA, q0, q1, q2, q3, q4, q5, a5.2, a6.2, cells_sl]; rfl)
    have rm : (r : Int) % 256 = r := by omega
    have im : (i : Int) % 256 = i := by omega
    have ns : il.succ = h3.next.succ.succ.succ.succ.succ := by rw [hil]
    have sE : ie.succ = il := by rw [hie, hil]
    have sC : ic.succ = ie := by rw [hie, hic]
    have sB : ib.succ = ic := by rw [hib, hic]
    have sA : ia.succ = ib := by rw [ha, hib]
    obtain ⟨env2, acts, lds, e2, z1, z2⟩ : ∃ env' acts lds, runE Tryd.prog R 0 key_4 ⟨[], [], [], ia, env1, hr0⟩ = some ⟨acts, lds, [], il.succ, env', h7⟩ ∧ sv env' 2 = strOf (keyB g r s n i) ∧ sv env' 3 = int64 0 := by
      simp [key_4, runE, stepE, stepD, kindOf, lookBack, lookAgain, actO, insT, putT, remAl, bit, runOps, wanted_no, wanted_sv, ev_tm, ev_vl, sv_setD, sv_set, setD_none, qev_mov, qev_bin, qev_un, qev_lenI, qev_lenS, qev_pick, qev_load1, qev_idxSl, idx2_sl, idxA2_ptr, opt_some, bin_add, bin_sub, bin_mul, bin_lss, bin_leq, bin_gtr, bin_geq, bin_eql, bin_neq, un_not, un_neg, qev_callv, qev_new1, qev_store1, qev_nilC, nilC_ptr, qev_fld, fld0, fldN, qev_extract, nth0, nth1, nth2, qev_eqPtr, sameP_nil, notIf, T.get_set, s1, s4, l40, l43, l44, l53, l54, l64, c40, c41, c50, c51, c60, c61, eqAV_int8, eqAV_str, qev_conv, wrap8, rm, im, callA_ok ok_eight, callA_ok ok_join, b1, b2, b3, R1, R2, R3, xa, xb, xc, xe, xl, sA, sB, sC, sE, hz, el, rS, show ∀ a b, Nat.div a b = a / b from fun _ _ => rfl, show ∀ a b, Nat.mod a b = a % b from fun _ _ => rfl, show Nat.beq 0 1 = false from rfl, show Nat.beq 1 1 = true from rfl, show Nat.testBit 14343 6 = false from by decide, show Nat.testBit 14343 9 = false from by decide, show Nat.testBit 14343 10 = false from by decide, show Nat.testBit 1048575 6 = true from by decide, show Nat.testBit 1048575 9 = true from by decide, show Nat.testBit 1048575 10 = true from by decide, show Nat.testBit 1048575 18 = true from by decide, show Nat.testBit 1048575 19 = true from by decide]
      rfl
    have d2 := runDrawn_ofE (P := Tryd.prog) (rec := R) (l := key_4) (env := env1) (h := h3) (rid := il.succ) (acts := acts) (lds := lds) (by rw [show skipIds key_4 h3.next = h3.next.succ.succ.succ.succ.succ from by simp [key_4, skipIds, isAlloc, kindOf], ← hsk, ← ha]; exact e2)
    refine ⟨h7, AmFn.dos key_code (by simp) (Dos.run (M := []) _ (fun x hx => by simp at hx; subst hx; exact .fn k2') e1 (DosL.more (M := []) (M1 := []) (Dos.drawn hS d2) (.ret (Dos.runRet [] (by simp) (show runS Tryd.prog true .ret [] env2 h7 = some (.ret, [], env2, h7) from rfl))))) (vs := [sv env2 2, sv env2 3]) rfl (by rw [z1, z2]; rfl), ?_⟩
    have oa := ((((o12.trans o23).trans osk).trans o5).trans o6).mono (S' := [il, ie, ic, ib, ia]) (by simp)
    have hh := o12.next
    have hh2 := o23.next
    exact (oa.trans (OD.trans (o7.mono (S' := [il, ie, ic, ib, ia]) (by simp)))).mono fun j q => .inr (by
      simp only [List.mem_cons, List.not_mem_nil, or_false] at q
      rcases q with c | c | c | c | c <;> subst c <;> omega)
end Go.Proofs.YtjhgembcdndmkaaDoor.St

namespace Go.Proofs.YtjhgembcdndmkaaDoor.St
open Go Go.Proofs.YtjhgembcdndmkaaDoor.Am Go.Proofs

/-- The library's table lies where it lay. -/
structure HasTab (g : Nat) (h : Hp) : Prop where
  nm : Tryd.prog.globalNamed Tryd.tabName = some g
  lt : g < globN Tryd.prog
  sz : globSz g = 20
  at' : T.get (Pos.ofNat g) h.heap = some (tabB (Lib.pow10Tab.map fun z => .int .u64 z))
  old : (Pos.ofNat g).num < h.next.num

theorem HasTab.only {g : Nat} {h h' : Hp} {S : List Pos} (t : HasTab g h) (o : Only S h h') (hS : Pos.ofNat g ∉ S) : HasTab g h' :=
  ⟨t.nm, t.lt, t.sz, by rw [o.same _ t.old hS]; exact t.at', Nat.lt_of_lt_of_le t.old o.next⟩
theorem HasTab.more {g : Nat} {h h' : Hp} (t : HasTab g h) (o : Only [] h h') : HasTab g h' := t.only o (by simp)

theorem HasTab.tab {g : Nat} {h : Hp} (t : HasTab g h) {φ : Phi} {w : World} (hR : HR Tryd.prog φ h w) : Lib.TabIs Tryd.prog w Tryd.tabName .u64 Lib.pow10Tab := by
  obtain ⟨el, fr, e⟩ := tab_of (k := .u64) hR t.lt (by rw [t.sz]; rfl) t.at'
  unfold Lib.TabIs World.var?
  rw [t.nm]
  simp [e]

theorem relL_nil {φ : Phi} {xs : Array Value} (h : RelL φ [] xs.toList) : xs = #[] := by
  cases xs with | mk l => cases h; rfl
theorem relL_two {φ : Phi} {a b : AV} {xs : Array Value} (h : RelL φ [a, b] xs.toList) : ∃ x y, xs = #[x, y] ∧ Rel φ a x ∧ Rel φ b y := by
  cases xs with
  | mk l =>
    cases h with
    | cons p q => cases q with | cons p' q' => cases q'; exact ⟨_, _, rfl, p, p'⟩

theorem strOf_relA (φ : Phi) (b : List UInt8) : Rel φ (strOf b) (.string ⟨b.toArray⟩) := strOf_rel φ ⟨b.toArray⟩
theorem fmt_kit {g : Nat} {h : Hp} (t : HasTab g h) (n : Int) (h0 : -9223372036854775808 ≤ n) (h1 : n ≤ 9223372036854775807) : KitFn Tryd.prog 48 [int64 n, int64 10] h (strOf (Lib.itoa n)) := by
  intro φ w xs hR hx
  obtain ⟨x, y, rfl, p, q⟩ := relL_two hx
  cases p; cases q
  refine (Tryd.strconv_FormatInt_10 n h0 h1 w (t.tab hR)).mono fun e w' ⟨he, k, os, hw⟩ => ⟨_, he, strOf_relA φ _, ?_⟩
  rw [hw]
  exact ⟨rfl, rfl, rfl, by simp [Go.Sort.grow, World.drewN], fun k hk => by simp [Go.Sort.grow, World.drewN, Array.getElem?_append, hk]⟩

theorem sjoin_kit {h : Hp} {id : Pos} {gg off n cap : Nat} {ex : Bool} {l : List (List UInt8)} (r : Row h id gg off (l.map strOf)) (hn : n = l.length) (h0 : 0 < n) (sep : List UInt8) (hl : l.length ≤ 1000) (hb : (Lib.join l sep).length ≤ 1000000) :
    KitFn Tryd.prog 47 [.sl id gg off n cap ex 1, strOf sep] h (strOf (Lib.join l sep)) := by
  intro φ w xs hR hx
  obtain ⟨x, y, rfl, p, q⟩ := relL_two hx
  obtain rfl := rel_strOf q
  cases p with
  | sl0 => omega
  | sl e hb' hs hlc hc hlc' hx' ho =>
    rename_i b s m a c
    obtain ⟨o1, _⟩ := ho (by omega)
    have ea : a = ⟨b, a.off, none⟩ := by cases a; simp at hs hb' ⊢; exact ⟨hb', hs⟩
    have hm : (l.map fun b => (⟨b.toArray⟩ : ByteArray)).map (·.data.toList) = l := by simp [Function.comp_def]
    have hcl : ∀ (j : Nat) x, (l.map fun b => (⟨b.toArray⟩ : ByteArray))[j]? = some x → w.cell? ⟨b, a.off + j, none⟩ = some (.string x) := by
      intro j x hj
      have hjl : j < l.length := by
        have := (List.getElem?_eq_some_iff.1 hj).1; simpa using this
      have e1 := r.one j (by simpa using hjl)
      rw [List.getElem?_map, List.getElem?_eq_getElem hjl] at e1
      obtain ⟨x', f1, f2⟩ := read1_run hR (a := ⟨b, a.off + j, none⟩) e1 e rfl rfl (by show ((a.off + j : Nat) : Int) = _; omega)
      rw [rel_strOf f2] at f1
      rw [f1]
      rw [List.getElem?_map, List.getElem?_eq_getElem hjl] at hj
      cases hj; rfl
    have K := Tryd.strings_Join b a.off c (l.map fun b => (⟨b.toArray⟩ : ByteArray)) ⟨sep.toArray⟩ w hcl (hR.inb _ _ _ _ _ e) (by simp; omega) (by simp; omega) (by rw [hm]; show (Lib.join l sep).length ≤ _; omega)
    rw [hm, List.length_map, ← hn, ← ea] at K
    exact K.mono fun e w' ⟨he, hw⟩ => ⟨_, he, strOf_relA φ _, hw⟩
end Go.Proofs.YtjhgembcdndmkaaDoor.St

namespace Go.Proofs.YtjhgembcdndmkaaDoor.St
open Go Go.Proofs.YtjhgembcdndmkaaDoor.Am Go.Proofs

theorem ok_fmt : okCall Tryd.prog 48 = true := by kernel_rfl
theorem ok_sjoin : okCall Tryd.prog 47 = true := by kernel_rfl

section
variable {g : Nat}

theorem digits_fn {h : Hp} (t : HasTab g h) (n : Int) (h0 : -9223372036854775808 ≤ n) (h1 : n ≤ 9223372036854775807) : AmFn Tryd.prog 33 [int64 n] h (strOf (Lib.itoa n)) h := by
  have k := fmt_kit t n h0 h1
  obtain ⟨env1, e1, z⟩ : ∃ env', runS Tryd.prog true digits_fu.body [⟨48, [int64 n, int64 10], h, strOf (Lib.itoa n), h⟩] (setArgs .e 0 [int64 n]) h = some (.ret, [], env', h) ∧ sv env' 2 = strOf (Lib.itoa n) := by
    simp [digits_fu, digits_0, digits_1, runS, runR, Rs.seq, Rs.block, sv_args, runOps, wanted_no, wanted_sv, ev_tm, ev_vl, sv_setD, sv_set, setD_none, qev_mov, qev_bin, qev_un, qev_lenI, qev_lenS, qev_pick, qev_load1, qev_idxSl, idx2_sl, idxA2_ptr, opt_some, bin_add, bin_sub, bin_mul, bin_lss, bin_leq, bin_gtr, bin_geq, bin_eql, bin_neq, un_not, un_neg, qev_callv, qev_new1, qev_store1, qev_nilC, nilC_ptr, qev_fld, fld0, fldN, qev_extract, nth0, nth1, nth2, qev_eqPtr, sameP_nil, notIf, callA_ok ok_fmt]
  exact AmFn.dos digits_code (by simp) (Dos.runRet _ (fun x hx => by simp at hx; subst hx; exact .kit k rfl) e1) (vs := [sv env1 2]) rfl z

/-- The text's points. -/
def dots (l : List (List UInt8)) : List UInt8 := Lib.join l [46]

theorem text_fn {h : Hp} {id : Pos} {gg off n cap : Nat} {ex : Bool} {l : List (List UInt8)} (r : Row h id gg off (l.map strOf)) (hn : n = l.length) (h0 : 0 < n) (hl : l.length ≤ 1000) (hb : (dots l).length ≤ 1000000) :
    AmFn Tryd.prog 32 [.sl id gg off n cap ex 1] h (strOf (dots l)) h := by
  have k := sjoin_kit (cap := cap) (ex := ex) r hn h0 [46] hl hb
  have e46 : strOf [46] = .str 1 46 := rfl
  rw [e46] at k
  obtain ⟨env1, e1, z⟩ : ∃ env', runS Tryd.prog true text_fu.body [⟨47, [.sl id gg off n cap ex 1, .str 1 46], h, strOf (dots l), h⟩] (setArgs .e 0 [.sl id gg off n cap ex 1]) h = some (.ret, [], env', h) ∧ sv env' 2 = strOf (dots l) := by
    simp [text_fu, text_0, text_1, runS, runR, Rs.seq, Rs.block, sv_args, runOps, wanted_no, wanted_sv, ev_tm, ev_vl, sv_setD, sv_set, setD_none, qev_mov, qev_bin, qev_un, qev_lenI, qev_lenS, qev_pick, qev_load1, qev_idxSl, idx2_sl, idxA2_ptr, opt_some, bin_add, bin_sub, bin_mul, bin_lss, bin_leq, bin_gtr, bin_geq, bin_eql, bin_neq, un_not, un_neg, qev_callv, qev_new1, qev_store1, qev_nilC, nilC_ptr, qev_fld, fld0, fldN, qev_extract, nth0, nth1, nth2, qev_eqPtr, sameP_nil, notIf, callA_ok ok_sjoin]
  exact AmFn.dos text_code (by simp) (Dos.runRet _ (fun x hx => by simp at hx; subst hx; exact .kit k rfl) e1) (vs := [sv env1 2]) rfl z
end
end Go.Proofs.YtjhgembcdndmkaaDoor.St

namespace Go.Proofs.YtjhgembcdndmkaaDoor.St
open Go Go.Proofs.YtjhgembcdndmkaaDoor.Am Go.Proofs

theorem itoa_length_le (n : Nat) (hn : n < 18446744073709551616) : (Lib.itoa (n : Int)).length ≤ 20 := by
  rw [Lib.itoa_nonneg, Lib.decDigits_length]; exact Lib.nDigits_le20 n hn

theorem dots_length_le (x y : List UInt8) : (dots [x, y]).length = x.length + y.length + 1 := by
  unfold dots; simp [Lib.join, List.intercalate]; omega
theorem dots_length_le3 (x y z : List UInt8) : (dots [x, y, z]).length = x.length + y.length + z.length + 2 := by
  unfold dots; simp [Lib.join, List.intercalate]; omega

/-- A list, made. -/
theorem list_new (P : Program) (h : Hp) (l : List AV) : ∃ h', (∀ env n z parts, fillA env (replA n [z] []) parts = some l → evalOp P (.buildSl n 1 [z] parts) env h = .val (.sl h.next 0 0 n n true 1) h') ∧ Arr h' h.next l ∧ Only [] h h' ∧ h'.next.num = h.next.num + 1 := by
  refine ⟨newH h fun _ => .cells 0 (Cells.ofL l) 0 0 0 0 false false, fun env n z parts f => ?_, newH_arr h l, newH_only _ _ _, newH_next _ _⟩
  have e : evalOp P (.buildSl n 1 [z] parts) env h = (match fillA env (replA n [z] []) parts with
    | some l => bif Nat.blt 0 1 then newCells h (Cells.ofL l) fun id h => .val (.sl id 0 0 n n true 1) h else .fail "buildSl"
    | none => .fail "buildSl") := rfl
  rw [e, f]
  show (bif Nat.blt 0 1 then newCells h (Cells.ofL _) fun id h => Res.val (.sl id 0 0 n n true 1) h else .fail "buildSl") = _
  rw [show Nat.blt 0 1 = true from rfl, cond_true]
  unfold newCells
  rw [newK_newH]

theorem fill2 {env : T AV} {z x y : AV} {a b : Opd} (ha : ev env a = x) (hb : ev env b = y) (cx : x.cells = [x]) (cy : y.cells = [y]) : fillA env (replA 2 [z] []) [(0, 1, a), (1, 1, b)] = some [x, y] := by
  simp [fillA, replA, ha, hb, cx, cy]; rfl
theorem fill3 {env : T AV} {z x y u : AV} {a b c : Opd} (ha : ev env a = x) (hb : ev env b = y) (hc : ev env c = u) (cx : x.cells = [x]) (cy : y.cells = [y]) (cu : u.cells = [u]) : fillA env (replA 3 [z] []) [(0, 1, a), (1, 1, b), (2, 1, c)] = some [x, y, u] := by
  simp [fillA, replA, ha, hb, hc, cx, cy, cu]; rfl
theorem cells_str (s : List UInt8) : (strOf s).cells = [strOf s] := rfl

def textbB (r : Nat) (s : List UInt8) : List UInt8 := dots [Lib.itoa r, s]
def textnB (r : Nat) (s : List UInt8) (n : Nat) : List UInt8 := dots [textbB r s, Lib.itoa n]

section
variable {g : Nat}

theorem textb_fn {h : Hp} (t : HasTab g h) (r : Int) (s : List UInt8) (hs : s.length ≤ 9000) : ∃ h', AmFn Tryd.prog 10 [.agg [int64 r, strOf s]] h (.tup [strOf (orNil (branchB r s) (textbB r.toNat s)), int64 (errB (branchB r s))]) h' ∧ Only [] h h' := by
  obtain ⟨h1, bx, A, o1, n1⟩ := boxed Tryd.prog [int64 r, strOf s] h
  obtain ⟨h2, k2, o2⟩ := branch_fn r s hs h1
  have w1 := A.part2 Tryd.prog (i := 0) (n := 2) (by simp)
  have A2 := A.only o2 (by simp)
  simp only [List.drop_zero, List.take_succ_cons, List.take_zero] at w1
  have o12 := o1.trans o2
  cases hb : branchB r s
  · rw [hb] at k2
    obtain ⟨env1, e1, z1, z2⟩ : ∃ env', runS Tryd.prog true textb_fu.body [⟨16, [.agg [int64 r, strOf s]], h1, .bool false, h2⟩] (setArgs .e 0 [.agg [int64 r, strOf s]]) h = some (.ret, [], env', h2) ∧ sv env' 2 = .str 0 0 ∧ sv env' 3 = int64 2 := by
      simp [textb_fu, textb_0, textb_1, textb_2, runS, runR, Rs.seq, Rs.block, sv_args, runOps, wanted_no, wanted_sv, ev_tm, ev_vl, sv_setD, sv_set, setD_none, qev_mov, qev_bin, qev_un, qev_lenI, qev_lenS, qev_pick, qev_load1, qev_idxSl, idx2_sl, idxA2_ptr, opt_some, bin_add, bin_sub, bin_mul, bin_lss, bin_leq, bin_gtr, bin_geq, bin_eql, bin_neq, un_not, un_neg, qev_callv, qev_new1, qev_store1, qev_nilC, nilC_ptr, qev_fld, fld0, fldN, qev_extract, nth0, nth1, nth2, qev_eqPtr, sameP_nil, notIf, bx, w1, callA_ok ok_branch]
    exact ⟨h2, AmFn.dos textb_code (by simp) (Dos.runRet _ (fun x hx => by simp at hx; subst hx; exact .fn k2) e1) (vs := [sv env1 2, sv env1 3]) rfl (by rw [z1, z2]; rfl), o12⟩
  · rw [hb] at k2
    obtain ⟨q0, q8, ql⟩ := branchB_le hb
    obtain ⟨n, rfl⟩ := Int.eq_ofNat_of_zero_le q0
    obtain ⟨env1, e1, s1⟩ : ∃ env', runS Tryd.prog false textb_fu.body [⟨16, [.agg [int64 n, strOf s]], h1, .bool true, h2⟩] (setArgs .e 0 [.agg [int64 n, strOf s]]) h = some (.upt [.code (.drawn textb_3), .code .ret], [], env', h2) ∧ sv env' 1 = .ptr h.next 0 0 := by
      simp [textb_fu, textb_0, textb_1, textb_2, runS, runR, Rs.seq, Rs.block, sv_args, runOps, wanted_no, wanted_sv, ev_tm, ev_vl, sv_setD, sv_set, setD_none, qev_mov, qev_bin, qev_un, qev_lenI, qev_lenS, qev_pick, qev_load1, qev_idxSl, idx2_sl, idxA2_ptr, opt_some, bin_add, bin_sub, bin_mul, bin_lss, bin_leq, bin_gtr, bin_geq, bin_eql, bin_neq, un_not, un_neg, qev_callv, qev_new1, qev_store1, qev_nilC, nilC_ptr, qev_fld, fld0, fldN, qev_extract, nth0, nth1, nth2, qev_eqPtr, sameP_nil, notIf, bx, w1, callA_ok ok_branch]
    have osk := skipH_only h2
    have nsk := skipH_next h2
    have hsk : skipH h2 = ⟨h2.heap, h2.next.succ, h2.ser, h2.lim⟩ := rfl
    generalize hR : skipH h2 = hr0 at *
    have A3 := A2.only osk (by simp)
    have k3 := digits_fn (t.more ((o12.trans osk))) (n : Int) (by omega) (by omega)
    have il := itoa_length_le n (by omega)
    have lr := (layH_arr (h := hr0) (id := h2.next) (by omega) 0 [strOf (Lib.itoa n), strOf s]).row
    have k4 := text_fn (n := 2) (cap := 2) (ex := true) (l := [Lib.itoa (n : Int), s]) lr rfl (by omega) (by simp) (by rw [dots_length_le]; omega)
    have ol := layH_only hr0 h2.next (.cells 0 (Cells.ofL [strOf (Lib.itoa n), strOf s]) 0 0 0 0 false false)
    have el := lay_eq hr0 h2.next (.cells 0 (Cells.ofL [strOf (Lib.itoa n), strOf s]) 0 0 0 0 false false)
    generalize layH hr0 h2.next (.cells 0 (Cells.ofL [strOf (Lib.itoa n), strOf s]) 0 0 0 0 false false) = hl at *
    have l0 := A3.one (i := 0) (by simp)
    have l1 := A3.one (i := 1) (by simp)
    simp only [List.getElem_cons_zero, List.getElem_cons_succ] at l0 l1
    obtain ⟨R, hS, hR', hbg⟩ := rec_of (P := Tryd.prog) [⟨33, [int64 n], hr0, strOf (Lib.itoa n), hr0⟩, ⟨32, [.sl h2.next 0 0 2 2 true 1], hl, strOf (textbB n s), hl⟩] (by
      intro a ha
      simp only [List.mem_cons, List.not_mem_nil, or_false] at ha
      rcases ha with e | e <;> subst e
      · exact k3
      · exact k4) (by simp)
    have R1 := hR' _ (List.mem_cons_self ..)
    have R2 := hR' _ (List.mem_cons_of_mem _ (List.mem_cons_self ..))
    have b1 := hbg _ (List.mem_cons_self ..)
    have b2 := hbg _ (List.mem_cons_of_mem _ (List.mem_cons_self ..))
    simp only at R1 R2 b1 b2
    have br : ∀ env ser lim a b, ev env a = strOf (Lib.itoa n) → ev env b = strOf s → evalOp Tryd.prog (.buildSl 2 1 [.str 0 0] [(0, 1, a), (1, 1, b)]) env ⟨.e, h2.next, ser, lim⟩ = .val (.sl h2.next 0 0 2 2 true 1) ⟨T.set h2.next (some (.cells 0 (Cells.ofL [strOf (Lib.itoa n), strOf s]) 0 0 0 0 false false)) .e, h2.next.succ, Nat.succ ser, lim⟩ := fun env ser lim a b ha hb => build2_resv Tryd.prog ha hb rfl rfl
    obtain ⟨env2, acts, lds, e2, z1, z2⟩ : ∃ env' acts lds, runE Tryd.prog R 0 textb_3 ⟨[], [], [], h2.next, env1, hr0⟩ = some ⟨acts, lds, [], h2.next.succ, env', hl⟩ ∧ sv env' 2 = strOf (textbB n s) ∧ sv env' 3 = int64 0 := by
      simp [textb_3, runE, stepE, stepD, kindOf, lookBack, lookAgain, actO, insT, putT, remAl, bit, runOps, wanted_no, wanted_sv, ev_tm, ev_vl, sv_setD, sv_set, setD_none, qev_mov, qev_bin, qev_un, qev_lenI, qev_lenS, qev_pick, qev_load1, qev_idxSl, idx2_sl, idxA2_ptr, opt_some, bin_add, bin_sub, bin_mul, bin_lss, bin_leq, bin_gtr, bin_geq, bin_eql, bin_neq, un_not, un_neg, qev_callv, qev_new1, qev_store1, qev_nilC, nilC_ptr, qev_fld, fld0, fldN, qev_extract, nth0, nth1, nth2, qev_eqPtr, sameP_nil, notIf, T.get_set, s1, l0, l1, eqAV_str, callA_ok ok_digits, callA_ok ok_text, b1, b2, R1, R2, br, el, hz, show Nat.testBit 63 5 = true from by decide]
    have d2 := runDrawn_ofE (P := Tryd.prog) (rec := R) (l := textb_3) (env := env1) (h := h2) (rid := h2.next.succ) (acts := acts) (lds := lds) (by rw [show skipIds textb_3 h2.next = h2.next.succ from by simp [textb_3, skipIds, isAlloc, kindOf], ← hsk]; exact e2)
    refine ⟨hl, AmFn.dos textb_code (by simp) (Dos.run (M := []) _ (fun x hx => by simp at hx; subst hx; exact .fn k2) e1 (DosL.more (M := []) (M1 := []) (Dos.drawn hS d2) (.ret (Dos.runRet [] (by simp) (show runS Tryd.prog true .ret [] env2 hl = some (.ret, [], env2, hl) from rfl))))) (vs := [sv env2 2, sv env2 3]) rfl (by rw [z1, z2]; rfl), ?_⟩
    exact (((o12.trans osk).mono (S' := [h2.next]) (by simp)).trans ol).mono fun id q => .inr (by simp at q; subst q; exact o12.next)

theorem textn_fn {h : Hp} (t : HasTab g h) (r : Int) (s : List UInt8) (n : Int) (hs : s.length ≤ 9000) : ∃ h', AmFn Tryd.prog 9 [.agg [int64 r, strOf s, int64 n]] h (.tup [strOf (orNil (nameB r s n) (textnB r.toNat s n.toNat)), int64 (errB (nameB r s n))]) h' ∧ Only [] h h' := by
  obtain ⟨h1, bx, A, o1, n1⟩ := boxed Tryd.prog [int64 r, strOf s, int64 n] h
  obtain ⟨h2, k2, o2⟩ := name_fn r s n hs h1
  have w1 := A.part2 Tryd.prog (i := 0) (n := 3) (by simp)
  have A2 := A.only o2 (by simp)
  simp only [List.drop_zero, List.take_succ_cons, List.take_zero] at w1
  have o12 := o1.trans o2
  cases hb : nameB r s n
  · rw [hb] at k2
    obtain ⟨env1, e1, z1, z2⟩ : ∃ env', runS Tryd.prog true textn_fu.body [⟨14, [.agg [int64 r, strOf s, int64 n]], h1, .bool false, h2⟩] (setArgs .e 0 [.agg [int64 r, strOf s, int64 n]]) h = some (.ret, [], env', h2) ∧ sv env' 2 = .str 0 0 ∧ sv env' 3 = int64 2 := by
      simp [textn_fu, textn_0, textn_1, textn_2, runS, runR, Rs.seq, Rs.block, sv_args, runOps, wanted_no, wanted_sv, ev_tm, ev_vl, sv_setD, sv_set, setD_none, qev_mov, qev_bin, qev_un, qev_lenI, qev_lenS, qev_pick, qev_load1, qev_idxSl, idx2_sl, idxA2_ptr, opt_some, bin_add, bin_sub, bin_mul, bin_lss, bin_leq, bin_gtr, bin_geq, bin_eql, bin_neq, un_not, un_neg, qev_callv, qev_new1, qev_store1, qev_nilC, nilC_ptr, qev_fld, fld0, fldN, qev_extract, nth0, nth1, nth2, qev_eqPtr, sameP_nil, notIf, bx, w1, callA_ok ok_name]
    exact ⟨h2, AmFn.dos textn_code (by simp) (Dos.runRet _ (fun x hx => by simp at hx; subst hx; exact .fn k2) e1) (vs := [sv env1 2, sv env1 3]) rfl (by rw [z1, z2]; rfl), o12⟩
  · rw [hb] at k2
    obtain ⟨qb, qn1, qn2⟩ := nameB_le hb
    obtain ⟨q0, q8, ql⟩ := branchB_le qb
    obtain ⟨r, rfl⟩ := Int.eq_ofNat_of_zero_le q0
    obtain ⟨n, rfl⟩ := Int.eq_ofNat_of_zero_le (show (0 : Int) ≤ n by omega)
    obtain ⟨h3, k3, o3⟩ := textb_fn (t.more o12) (r : Int) s hs
    rw [qb] at k3
    have k4 := digits_fn (t.more (o12.trans o3)) (n : Int) (by omega) (by omega)
    have lB := A2.part2 Tryd.prog (i := 0) (n := 2) (by simp)
    have l2 := (A2.only o3 (by simp)).one (i := 2) (by simp)
    simp only [List.getElem_cons_zero, List.getElem_cons_succ, List.drop_zero, List.take_succ_cons, List.take_zero] at lB l2
    have il := itoa_length_le r (by omega)
    have il2 := itoa_length_le n (by omega)
    obtain ⟨h4, bl, A4, o4, n4⟩ := list_new Tryd.prog h3 [strOf (textbB r s), strOf (Lib.itoa n)]
    have k5 := text_fn (n := 2) (cap := 2) (ex := true) (l := [textbB r s, Lib.itoa (n : Int)]) A4.row rfl (by omega) (by simp) (by rw [dots_length_le, textbB, dots_length_le]; omega)
    have bl2 := fun env a b (ha : ev env a = strOf (textbB r s)) (hb : ev env b = strOf (Lib.itoa n)) => bl env 2 (.str 0 0) [(0, 1, a), (1, 1, b)] (fill2 ha hb rfl rfl)
    obtain ⟨env1, e1, z1, z2⟩ : ∃ env', runS Tryd.prog true textn_fu.body [⟨14, [.agg [int64 r, strOf s, int64 n]], h1, .bool true, h2⟩, ⟨10, [.agg [int64 r, strOf s]], h2, .tup [strOf (textbB r s), int64 0], h3⟩, ⟨33, [int64 n], h3, strOf (Lib.itoa n), h3⟩, ⟨32, [.sl h3.next 0 0 2 2 true 1], h4, strOf (textnB r s n), h4⟩] (setArgs .e 0 [.agg [int64 r, strOf s, int64 n]]) h = some (.ret, [], env', h4) ∧ sv env' 2 = strOf (textnB r s n) ∧ sv env' 3 = int64 0 := by
      simp [textn_fu, textn_0, textn_1, textn_3, textn_4, runS, runR, Rs.seq, Rs.block, sv_args, runOps, wanted_no, wanted_sv, ev_tm, ev_vl, sv_setD, sv_set, setD_none, qev_mov, qev_bin, qev_un, qev_lenI, qev_lenS, qev_pick, qev_load1, qev_idxSl, idx2_sl, idxA2_ptr, opt_some, bin_add, bin_sub, bin_mul, bin_lss, bin_leq, bin_gtr, bin_geq, bin_eql, bin_neq, un_not, un_neg, qev_callv, qev_new1, qev_store1, qev_nilC, nilC_ptr, qev_fld, fld0, fldN, qev_extract, nth0, nth1, nth2, qev_eqPtr, sameP_nil, notIf, bx, w1, lB, l2, bl2, callA_ok ok_name, callA_ok ok_textb, callA_ok ok_digits, callA_ok ok_text]
    refine ⟨h4, AmFn.dos textn_code (by simp) (Dos.runRet _ (fun x hx => ?_) e1) (vs := [sv env1 2, sv env1 3]) rfl (by rw [z1, z2]; rfl), (o12.trans o3).trans o4⟩
    simp only [List.mem_cons, List.not_mem_nil, or_false] at hx
    rcases hx with e | e | e | e <;> subst e
    · exact .fn k2
    · exact .fn k3
    · exact .fn k4
    · exact .fn k5
end
end Go.Proofs.YtjhgembcdndmkaaDoor.St

namespace Go.Proofs.YtjhgembcdndmkaaDoor.St
open Go Go.Proofs.YtjhgembcdndmkaaDoor.Am Go.Proofs

def pstampB (g r : Nat) (s : List UInt8) (n i : Nat) : List UInt8 := numB g ++ (pnameB r s n ++ numB i)
def textB (g r : Nat) (s : List UInt8) (n i : Nat) : List UInt8 := dots [Lib.itoa g, textnB r s n, Lib.itoa i]

theorem build3_resv (P : Program) {env : T AV} {id : Pos} {ser lim : Nat} {z x y u : AV} {a b c : Opd} (ha : ev env a = x) (hb : ev env b = y) (hc : ev env c = u) (cx : x.cells = [x]) (cy : y.cells = [y]) (cu : u.cells = [u]) :
    evalOp P (.buildSl 3 1 [z] [(0, 1, a), (1, 1, b), (2, 1, c)]) env ⟨.e, id, ser, lim⟩ = .val (.sl id 0 0 3 3 true 1) ⟨T.set id (some (.cells 0 (Cells.ofL [x, y, u]) 0 0 0 0 false false)) .e, id.succ, Nat.succ ser, lim⟩ :=
  buildN_resv P (fill3 ha hb hc cx cy cu)

theorem pnameB_length_le {r : Nat} {s : List UInt8} {n : Nat} (hr : r < 18446744073709551616) (hs : s.length ≤ 20000) (hn : n < 18446744073709551616) : (pnameB r s n).length ≤ s.length + 30 := by
  have := numB_length_le n hn
  have := formB_length_le hr hs
  unfold pnameB; simp; omega

theorem put_fn (g r : Int) (s : List UInt8) (n i : Int) (hs : s.length ≤ 9000) (h : Hp) : ∃ v h', AmFn Tryd.prog 5 [.agg [int64 g, int64 r, strOf s, int64 n, int64 i]] h (.tup [v, int64 (errB (stampB g r s n i))]) h' ∧ Mine h.next.num h' v (orNil (stampB g r s n i) (pstampB g.toNat r.toNat s n.toNat i.toNat)) ∧ Only [] h h' := by
  obtain ⟨h1, bx, A, o1, n1⟩ := boxed Tryd.prog [int64 g, int64 r, strOf s, int64 n, int64 i] h
  obtain ⟨h2, k2, o2⟩ := stamp_fn g r s n i hs h1
  have w1 := A.part2 Tryd.prog (i := 0) (n := 5) (by simp)
  have A2 := A.only o2 (by simp)
  simp only [List.drop_zero, List.take_succ_cons, List.take_zero] at w1
  have o12 := o1.trans o2
  cases hb : stampB g r s n i
  · rw [hb] at k2
    obtain ⟨env1, e1, z1, z2⟩ : ∃ env', runS Tryd.prog true put_fu.body [⟨12, [.agg [int64 g, int64 r, strOf s, int64 n, int64 i]], h1, .bool false, h2⟩] (setArgs .e 0 [.agg [int64 g, int64 r, strOf s, int64 n, int64 i]]) h = some (.ret, [], env', h2) ∧ sv env' 2 = .nilSl ∧ sv env' 3 = int64 2 := by
      simp [put_fu, put_0, put_1, put_2, runS, runR, Rs.seq, Rs.block, sv_args, runOps, wanted_no, wanted_sv, ev_tm, ev_vl, sv_setD, sv_set, setD_none, qev_mov, qev_bin, qev_un, qev_lenI, qev_lenS, qev_pick, qev_load1, qev_idxSl, idx2_sl, idxA2_ptr, opt_some, bin_add, bin_sub, bin_mul, bin_lss, bin_leq, bin_gtr, bin_geq, bin_eql, bin_neq, un_not, un_neg, qev_callv, qev_new1, qev_store1, qev_nilC, nilC_ptr, qev_fld, fld0, fldN, qev_extract, nth0, nth1, nth2, qev_eqPtr, sameP_nil, notIf, bx, w1, callA_ok ok_stamp]
    exact ⟨.nilSl, h2, AmFn.dos put_code (by simp) (Dos.runRet _ (fun x hx => by simp at hx; subst hx; exact .fn k2) e1) (vs := [sv env1 2, sv env1 3]) rfl (by rw [z1, z2]; rfl), mine_nil _ _, o12⟩
  · rw [hb] at k2
    obtain ⟨g1, g2, qn, i1, i2⟩ := stampB_le hb
    obtain ⟨qb, qn1, qn2⟩ := nameB_le qn
    obtain ⟨q0, q8, ql⟩ := branchB_le qb
    obtain ⟨g, rfl⟩ := Int.eq_ofNat_of_zero_le (show (0 : Int) ≤ g by omega)
    obtain ⟨r, rfl⟩ := Int.eq_ofNat_of_zero_le q0
    obtain ⟨n, rfl⟩ := Int.eq_ofNat_of_zero_le (show (0 : Int) ≤ n by omega)
    obtain ⟨i, rfl⟩ := Int.eq_ofNat_of_zero_le i1
    have lN := A2.part2 Tryd.prog (i := 1) (n := 3) (by simp)
    simp only [List.drop_succ_cons, List.drop_zero, List.take_succ_cons, List.take_zero] at lN
    obtain ⟨v3, h3, k3, m3, o3⟩ := putn_fn (r : Int) s (n : Int) hs h2
    rw [qn] at k3 m3
    obtain ⟨env1, e1, s1, s4⟩ : ∃ env', runS Tryd.prog false put_fu.body [⟨12, [.agg [int64 g, int64 r, strOf s, int64 n, int64 i]], h1, .bool true, h2⟩, ⟨6, [.agg [int64 r, strOf s, int64 n]], h2, .tup [v3, int64 0], h3⟩] (setArgs .e 0 [.agg [int64 g, int64 r, strOf s, int64 n, int64 i]]) h = some (.upt [.code (.drawn put_4), .code .ret], [], env', h3) ∧ sv env' 1 = .ptr h.next 0 0 ∧ sv env' 4 = v3 := by
      simp [put_fu, put_0, put_1, put_2, put_3, runS, runR, Rs.seq, Rs.block, sv_args, runOps, wanted_no, wanted_sv, ev_tm, ev_vl, sv_setD, sv_set, setD_none, qev_mov, qev_bin, qev_un, qev_lenI, qev_lenS, qev_pick, qev_load1, qev_idxSl, idx2_sl, idxA2_ptr, opt_some, bin_add, bin_sub, bin_mul, bin_lss, bin_leq, bin_gtr, bin_geq, bin_eql, bin_neq, un_not, un_neg, qev_callv, qev_new1, qev_store1, qev_nilC, nilC_ptr, qev_fld, fld0, fldN, qev_extract, nth0, nth1, nth2, qev_eqPtr, sameP_nil, notIf, bx, w1, lN, callA_ok ok_stamp, callA_ok ok_putn]
    have A3 := A2.only o3 (by simp)
    have osk := skipH_only h3
    have nsk := skipH_next h3
    have hsk : skipH h3 = ⟨h3.heap, h3.next.succ, h3.ser, h3.lim⟩ := rfl
    generalize hR : skipH h3 = hr0 at *
    have A4 := A3.only osk (by simp)
    obtain ⟨v5, h5, k5, m5, o5, t5⟩ := number_fn1 g (by omega) hr0
    have A5 := A4.only o5 (by simp)
    obtain ⟨v6, h6, k6, m6, o6⟩ := number_fn i (by omega) h5
    have nx3 := o3.next
    have nx5 := o5.next
    have nx6 := o6.next
    have m3' := ((m3.more osk).more o5).more o6
    have m5' := m5.more o6
    have RL := RdL_lay (N := h6.next.num) (h := h6) (id := h3.next) (by omega) (Nat.le_refl _) (vs := [v5, v3, v6]) (bs := [numB g, pnameB r s n, numB i]) rfl (fun k hk => by
      match k, hk with
      | 0, _ => exact ⟨v5, rfl, ⟨m5'.sl, fun j q => (m5'.old q).2⟩, fun j q c => by subst c; have := m5.old q; omega⟩
      | 1, _ => exact ⟨v3, rfl, ⟨m3'.sl, fun j q => (m3'.old q).2⟩, fun j q c => by subst c; have := m3.old q; omega⟩
      | 2, _ => exact ⟨v6, rfl, ⟨m6.sl, fun j q => (m6.old q).2⟩, fun j q c => by subst c; have := m6.old q; omega⟩)
    obtain ⟨v7, h7, k7, m7, o7⟩ := join_fn (h := layH h6 h3.next (.cells 0 (Cells.ofL [v5, v3, v6]) 0 0 0 0 false false)) RL (by
      have := numB_length_le g (by omega)
      have := numB_length_le i (by omega)
      have := pnameB_length_le (r := r) (s := s) (n := n) (by omega) (by omega) (by omega)
      simp; omega) (by simp)
    have ol := layH_only h6 h3.next (.cells 0 (Cells.ofL [v5, v3, v6]) 0 0 0 0 false false)
    have el := lay_eq h6 h3.next (.cells 0 (Cells.ofL [v5, v3, v6]) 0 0 0 0 false false)
    have nl : (layH h6 h3.next (.cells 0 (Cells.ofL [v5, v3, v6]) 0 0 0 0 false false)).next = h6.next := rfl
    generalize layH h6 h3.next (.cells 0 (Cells.ofL [v5, v3, v6]) 0 0 0 0 false false) = hl at *
    have l40 := A4.one (i := 0) (by simp)
    have l44 := A4.one (i := 4) (by simp)
    have l54 := A5.one (i := 4) (by simp)
    simp only [List.getElem_cons_zero, List.getElem_cons_succ] at l40 l44 l54
    obtain ⟨R, hS, hR', hbg⟩ := rec_of (P := Tryd.prog) [⟨30, [u64v g], hr0, v5, h5⟩, ⟨30, [u64v i], h5, v6, h6⟩, ⟨29, [.sl h3.next 0 0 3 3 true 1], hl, v7, h7⟩] (by
      intro a ha
      simp only [List.mem_cons, List.not_mem_nil, or_false] at ha
      rcases ha with e | e | e <;> subst e
      · exact k5
      · exact k6
      · exact k7) (by
      have : hr0.next ≠ h5.next := fun c => by rw [c] at t5; omega
      simp [this])
    have R1 := hR' _ (List.mem_cons_self ..)
    have R2 := hR' _ (List.mem_cons_of_mem _ (List.mem_cons_self ..))
    have R3 := hR' _ (List.mem_cons_of_mem _ (List.mem_cons_of_mem _ (List.mem_cons_self ..)))
    have b1 := hbg _ (List.mem_cons_self ..)
    have b2 := hbg _ (List.mem_cons_of_mem _ (List.mem_cons_self ..))
    have b3 := hbg _ (List.mem_cons_of_mem _ (List.mem_cons_of_mem _ (List.mem_cons_self ..)))
    simp only at R1 R2 R3 b1 b2 b3
    have br : ∀ env ser lim a b c, ev env a = v5 → ev env b = v3 → ev env c = v6 → evalOp Tryd.prog (.buildSl 3 1 [.nilSl] [(0, 1, a), (1, 1, b), (2, 1, c)]) env ⟨.e, h3.next, ser, lim⟩ = .val (.sl h3.next 0 0 3 3 true 1) ⟨T.set h3.next (some (.cells 0 (Cells.ofL [v5, v3, v6]) 0 0 0 0 false false)) .e, h3.next.succ, Nat.succ ser, lim⟩ := fun env ser lim a b c ha hb hc => build3_resv Tryd.prog ha hb hc m5.sl.atom.2 m3.sl.atom.2 m6.sl.atom.2
    have gm : (g : Int) % 18446744073709551616 = g := by omega
    have im : (i : Int) % 18446744073709551616 = i := by omega
    obtain ⟨env2, acts, lds, e2, z1, z2⟩ : ∃ env' acts lds, runE Tryd.prog R 0 put_4 ⟨[], [], [], h3.next, env1, hr0⟩ = some ⟨acts, lds, [], h3.next.succ, env', h7⟩ ∧ sv env' 2 = v7 ∧ sv env' 3 = int64 0 := by
      simp [put_4, runE, stepE, stepD, kindOf, lookBack, lookAgain, actO, insT, putT, remAl, bit, runOps, wanted_no, wanted_sv, ev_tm, ev_vl, sv_setD, sv_set, setD_none, qev_mov, qev_bin, qev_un, qev_lenI, qev_lenS, qev_pick, qev_load1, qev_idxSl, idx2_sl, idxA2_ptr, opt_some, bin_add, bin_sub, bin_mul, bin_lss, bin_leq, bin_gtr, bin_geq, bin_eql, bin_neq, un_not, un_neg, qev_callv, qev_new1, qev_store1, qev_nilC, nilC_ptr, qev_fld, fld0, fldN, qev_extract, nth0, nth1, nth2, qev_eqPtr, sameP_nil, notIf, T.get_set, s1, s4, l40, l44, l54, eqAV_int8, qev_conv, wrapU, gm, im, callA_ok ok_number, callA_ok ok_join, b1, b2, b3, R1, R2, R3, br, el, hz, show ∀ a b, Nat.div a b = a / b from fun _ _ => rfl, show ∀ a b, Nat.mod a b = a % b from fun _ _ => rfl, show Nat.beq 0 1 = false from rfl, show Nat.beq 1 1 = true from rfl, show Nat.testBit 1023 9 = true from by decide]
    have d2 := runDrawn_ofE (P := Tryd.prog) (rec := R) (l := put_4) (env := env1) (h := h3) (rid := h3.next.succ) (acts := acts) (lds := lds) (by rw [show skipIds put_4 h3.next = h3.next.succ from by simp [put_4, skipIds, isAlloc, kindOf], ← hsk]; exact e2)
    refine ⟨v7, h7, AmFn.dos put_code (by simp) (Dos.run (M := []) _ (fun x hx => ?_) e1 (DosL.more (M := []) (M1 := []) (Dos.drawn hS d2) (.ret (Dos.runRet [] (by simp) (show runS Tryd.prog true .ret [] env2 h7 = some (.ret, [], env2, h7) from rfl))))) (vs := [sv env2 2, sv env2 3]) rfl (by rw [z1, z2]; rfl), ?_, ?_⟩
    · simp only [List.mem_cons, List.not_mem_nil, or_false] at hx
      exact hx.elim (fun e => by subst e; exact .fn k2) (fun e => by subst e; exact .fn k3)
    · have e : [numB g, pnameB r s n, numB i].flatten = orNil true (pstampB (g : Int).toNat (r : Int).toNat s (n : Int).toNat (i : Int).toNat) := by simp [pstampB]
      rw [e] at m7
      exact m7.weak (by rw [nl]; have := o12.next; omega)
    · have oa := ((((o12.trans o3).trans osk).trans o5).trans o6).mono (S' := [h3.next]) (by simp)
      exact (oa.trans (ol.trans (o7.mono (S' := [h3.next]) (by simp)))).mono fun id q => .inr (by simp at q; subst q; have := o12.next; omega)
end Go.Proofs.YtjhgembcdndmkaaDoor.St

namespace Go.Proofs.YtjhgembcdndmkaaDoor.St
open Go Go.Proofs.YtjhgembcdndmkaaDoor.Am Go.Proofs
section
variable {t0 : Nat}

theorem texts_fn {h : Hp} (t : HasTab t0 h) (g r : Int) (s : List UInt8) (n i : Int) (hs : s.length ≤ 9000) : ∃ h', AmFn Tryd.prog 8 [.agg [int64 g, int64 r, strOf s, int64 n, int64 i]] h (.tup [strOf (orNil (stampB g r s n i) (textB g.toNat r.toNat s n.toNat i.toNat)), int64 (errB (stampB g r s n i))]) h' ∧ Only [] h h' := by
  obtain ⟨h1, bx, A, o1, n1⟩ := boxed Tryd.prog [int64 g, int64 r, strOf s, int64 n, int64 i] h
  obtain ⟨h2, k2, o2⟩ := stamp_fn g r s n i hs h1
  have w1 := A.part2 Tryd.prog (i := 0) (n := 5) (by simp)
  have A2 := A.only o2 (by simp)
  simp only [List.drop_zero, List.take_succ_cons, List.take_zero] at w1
  have o12 := o1.trans o2
  cases hb : stampB g r s n i
  · rw [hb] at k2
    obtain ⟨env1, e1, z1, z2⟩ : ∃ env', runS Tryd.prog true texts_fu.body [⟨12, [.agg [int64 g, int64 r, strOf s, int64 n, int64 i]], h1, .bool false, h2⟩] (setArgs .e 0 [.agg [int64 g, int64 r, strOf s, int64 n, int64 i]]) h = some (.ret, [], env', h2) ∧ sv env' 2 = .str 0 0 ∧ sv env' 3 = int64 2 := by
      simp [texts_fu, texts_0, texts_1, texts_2, runS, runR, Rs.seq, Rs.block, sv_args, runOps, wanted_no, wanted_sv, ev_tm, ev_vl, sv_setD, sv_set, setD_none, qev_mov, qev_bin, qev_un, qev_lenI, qev_lenS, qev_pick, qev_load1, qev_idxSl, idx2_sl, idxA2_ptr, opt_some, bin_add, bin_sub, bin_mul, bin_lss, bin_leq, bin_gtr, bin_geq, bin_eql, bin_neq, un_not, un_neg, qev_callv, qev_new1, qev_store1, qev_nilC, nilC_ptr, qev_fld, fld0, fldN, qev_extract, nth0, nth1, nth2, qev_eqPtr, sameP_nil, notIf, bx, w1, callA_ok ok_stamp]
    exact ⟨h2, AmFn.dos texts_code (by simp) (Dos.runRet _ (fun x hx => by simp at hx; subst hx; exact .fn k2) e1) (vs := [sv env1 2, sv env1 3]) rfl (by rw [z1, z2]; rfl), o12⟩
  · rw [hb] at k2
    obtain ⟨g1, g2, qn, i1, i2⟩ := stampB_le hb
    obtain ⟨qb, qn1, qn2⟩ := nameB_le qn
    obtain ⟨q0, q8, ql⟩ := branchB_le qb
    obtain ⟨g, rfl⟩ := Int.eq_ofNat_of_zero_le (show (0 : Int) ≤ g by omega)
    obtain ⟨r, rfl⟩ := Int.eq_ofNat_of_zero_le q0
    obtain ⟨n, rfl⟩ := Int.eq_ofNat_of_zero_le (show (0 : Int) ≤ n by omega)
    obtain ⟨i, rfl⟩ := Int.eq_ofNat_of_zero_le i1
    have lN := A2.part2 Tryd.prog (i := 1) (n := 3) (by simp)
    simp only [List.drop_succ_cons, List.drop_zero, List.take_succ_cons, List.take_zero] at lN
    obtain ⟨h3, k3, o3⟩ := textn_fn (t.more o12) (r : Int) s (n : Int) hs
    rw [qn] at k3
    obtain ⟨env1, e1, s1, s4⟩ : ∃ env', runS Tryd.prog false texts_fu.body [⟨12, [.agg [int64 g, int64 r, strOf s, int64 n, int64 i]], h1, .bool true, h2⟩, ⟨9, [.agg [int64 r, strOf s, int64 n]], h2, .tup [strOf (textnB r s n), int64 0], h3⟩] (setArgs .e 0 [.agg [int64 g, int64 r, strOf s, int64 n, int64 i]]) h = some (.upt [.code (.drawn texts_4), .code .ret], [], env', h3) ∧ sv env' 1 = .ptr h.next 0 0 ∧ sv env' 4 = strOf (textnB r s n) := by
      simp [texts_fu, texts_0, texts_1, texts_2, texts_3, runS, runR, Rs.seq, Rs.block, sv_args, runOps, wanted_no, wanted_sv, ev_tm, ev_vl, sv_setD, sv_set, setD_none, qev_mov, qev_bin, qev_un, qev_lenI, qev_lenS, qev_pick, qev_load1, qev_idxSl, idx2_sl, idxA2_ptr, opt_some, bin_add, bin_sub, bin_mul, bin_lss, bin_leq, bin_gtr, bin_geq, bin_eql, bin_neq, un_not, un_neg, qev_callv, qev_new1, qev_store1, qev_nilC, nilC_ptr, qev_fld, fld0, fldN, qev_extract, nth0, nth1, nth2, qev_eqPtr, sameP_nil, notIf, bx, w1, lN, callA_ok ok_stamp, callA_ok ok_textn]
    have A3 := A2.only o3 (by simp)
    have osk := skipH_only h3
    have nsk := skipH_next h3
    have hsk : skipH h3 = ⟨h3.heap, h3.next.succ, h3.ser, h3.lim⟩ := rfl
    generalize hR : skipH h3 = hr0 at *
    have A4 := A3.only osk (by simp)
    have tt := t.more ((o12.trans o3).trans osk)
    have k5 := digits_fn tt (g : Int) (by omega) (by omega)
    have k6 := digits_fn tt (i : Int) (by omega) (by omega)
    have lg := itoa_length_le g (by omega)
    have lr := itoa_length_le r (by omega)
    have ln := itoa_length_le n (by omega)
    have li := itoa_length_le i (by omega)
    have lrow := (layH_arr (h := hr0) (id := h3.next) (by omega) 0 [strOf (Lib.itoa g), strOf (textnB r s n), strOf (Lib.itoa i)]).row
    have k7 := text_fn (n := 3) (cap := 3) (ex := true) (l := [Lib.itoa (g : Int), textnB r s n, Lib.itoa (i : Int)]) lrow rfl (by omega) (by simp) (by rw [dots_length_le3, textnB, dots_length_le, textbB, dots_length_le]; omega)
    have ol := layH_only hr0 h3.next (.cells 0 (Cells.ofL [strOf (Lib.itoa g), strOf (textnB r s n), strOf (Lib.itoa i)]) 0 0 0 0 false false)
    have el := lay_eq hr0 h3.next (.cells 0 (Cells.ofL [strOf (Lib.itoa g), strOf (textnB r s n), strOf (Lib.itoa i)]) 0 0 0 0 false false)
    have nl : (layH hr0 h3.next (.cells 0 (Cells.ofL [strOf (Lib.itoa g), strOf (textnB r s n), strOf (Lib.itoa i)]) 0 0 0 0 false false)).next = hr0.next := rfl
    generalize layH hr0 h3.next (.cells 0 (Cells.ofL [strOf (Lib.itoa g), strOf (textnB r s n), strOf (Lib.itoa i)]) 0 0 0 0 false false) = hl at *
    have l40 := A4.one (i := 0) (by simp)
    have l44 := A4.one (i := 4) (by simp)
    simp only [List.getElem_cons_zero, List.getElem_cons_succ] at l40 l44
    have b1 := k5.begins.1
    have b2 := k6.begins.1
    have b3 := k7.begins.1
    obtain ⟨R, hS, R1, R2, R3⟩ : ∃ R, Sound Tryd.prog R ∧ R ⟨frOf Tryd.prog 33 [int64 g], [], hr0⟩ = .done (strOf (Lib.itoa g)) hr0 ∧ R ⟨frOf Tryd.prog 33 [int64 i], [], hr0⟩ = .done (strOf (Lib.itoa i)) hr0 ∧ R ⟨frOf Tryd.prog 32 [.sl h3.next 0 0 3 3 true 1], [], hl⟩ = .done (strOf (textB g r s n i)) hl := by
      by_cases c : g = i
      · subst c
        obtain ⟨R, hS, hR', _⟩ := rec_of1 (P := Tryd.prog) [⟨33, [int64 g], hr0, strOf (Lib.itoa g), hr0⟩, ⟨32, [.sl h3.next 0 0 3 3 true 1], hl, strOf (textB g r s n g), hl⟩] (by
          intro a ha
          simp only [List.mem_cons, List.not_mem_nil, or_false] at ha
          exact ha.elim (fun e => by subst e; exact k5) (fun e => by subst e; exact k7)) (by simp)
        have q1 := hR' _ (List.mem_cons_self ..)
        have q2 := hR' _ (List.mem_cons_of_mem _ (List.mem_cons_self ..))
        simp only at q1 q2
        exact ⟨R, hS, q1, q1, q2⟩
      · obtain ⟨R, hS, hR', _⟩ := rec_of1 (P := Tryd.prog) [⟨33, [int64 g], hr0, strOf (Lib.itoa g), hr0⟩, ⟨33, [int64 i], hr0, strOf (Lib.itoa i), hr0⟩, ⟨32, [.sl h3.next 0 0 3 3 true 1], hl, strOf (textB g r s n i), hl⟩] (by
          intro a ha
          simp only [List.mem_cons, List.not_mem_nil, or_false] at ha
          rcases ha with e | e | e <;> subst e
          · exact k5
          · exact k6
          · exact k7) (by
          refine .cons (fun b hb => ?_) (by simp)
          simp only [List.mem_cons, List.not_mem_nil, or_false] at hb
          rcases hb with e | e <;> subst e
          · refine .inr (.inr ⟨int64 g, int64 i, rfl, rfl, fun q => c ?_⟩)
            simp at q; exact Int.ofNat.inj q
          · exact .inl (by simp))
        have q1 := hR' _ (List.mem_cons_self ..)
        have q2 := hR' _ (List.mem_cons_of_mem _ (List.mem_cons_self ..))
        have q3 := hR' _ (List.mem_cons_of_mem _ (List.mem_cons_of_mem _ (List.mem_cons_self ..)))
        simp only at q1 q2 q3
        exact ⟨R, hS, q1, q2, q3⟩
    have br : ∀ env ser lim a b c, ev env a = strOf (Lib.itoa g) → ev env b = strOf (textnB r s n) → ev env c = strOf (Lib.itoa i) → evalOp Tryd.prog (.buildSl 3 1 [.str 0 0] [(0, 1, a), (1, 1, b), (2, 1, c)]) env ⟨.e, h3.next, ser, lim⟩ = .val (.sl h3.next 0 0 3 3 true 1) ⟨T.set h3.next (some (.cells 0 (Cells.ofL [strOf (Lib.itoa g), strOf (textnB r s n), strOf (Lib.itoa i)]) 0 0 0 0 false false)) .e, h3.next.succ, Nat.succ ser, lim⟩ := fun env ser lim a b c ha hb hc => build3_resv Tryd.prog ha hb hc rfl rfl rfl
    obtain ⟨env2, acts, lds, e2, z1, z2⟩ : ∃ env' acts lds, runE Tryd.prog R 0 texts_4 ⟨[], [], [], h3.next, env1, hr0⟩ = some ⟨acts, lds, [], h3.next.succ, env', hl⟩ ∧ sv env' 2 = strOf (textB g r s n i) ∧ sv env' 3 = int64 0 := by
      simp [texts_4, runE, stepE, stepD, kindOf, lookBack, lookAgain, actO, insT, putT, remAl, bit, runOps, wanted_no, wanted_sv, ev_tm, ev_vl, sv_setD, sv_set, setD_none, qev_mov, qev_bin, qev_un, qev_lenI, qev_lenS, qev_pick, qev_load1, qev_idxSl, idx2_sl, idxA2_ptr, opt_some, bin_add, bin_sub, bin_mul, bin_lss, bin_leq, bin_gtr, bin_geq, bin_eql, bin_neq, un_not, un_neg, qev_callv, qev_new1, qev_store1, qev_nilC, nilC_ptr, qev_fld, fld0, fldN, qev_extract, nth0, nth1, nth2, qev_eqPtr, sameP_nil, notIf, T.get_set, s1, s4, l40, l44, eqAV_int8, callA_ok ok_digits, callA_ok ok_text, b1, b2, b3, R1, R2, R3, br, el, hz, show ∀ a b, Nat.div a b = a / b from fun _ _ => rfl, show ∀ a b, Nat.mod a b = a % b from fun _ _ => rfl, show Nat.beq 0 1 = false from rfl, show Nat.beq 1 1 = true from rfl, show Nat.testBit 255 7 = true from by decide]
    have d2 := runDrawn_ofE (P := Tryd.prog) (rec := R) (l := texts_4) (env := env1) (h := h3) (rid := h3.next.succ) (acts := acts) (lds := lds) (by rw [show skipIds texts_4 h3.next = h3.next.succ from by simp [texts_4, skipIds, isAlloc, kindOf], ← hsk]; exact e2)
    refine ⟨hl, AmFn.dos texts_code (by simp) (Dos.run (M := []) _ (fun x hx => ?_) e1 (DosL.more (M := []) (M1 := []) (Dos.drawn hS d2) (.ret (Dos.runRet [] (by simp) (show runS Tryd.prog true .ret [] env2 hl = some (.ret, [], env2, hl) from rfl))))) (vs := [sv env2 2, sv env2 3]) rfl (by rw [z1, z2]; rfl), ?_⟩
    · simp only [List.mem_cons, List.not_mem_nil, or_false] at hx
      exact hx.elim (fun e => by subst e; exact .fn k2) (fun e => by subst e; exact .fn k3)
    · have oa := ((o12.trans o3).trans osk).mono (S' := [h3.next]) (by simp)
      exact (oa.trans ol).mono fun id q => .inr (by simp at q; subst q; have := o12.next; have := o3.next; omega)
end
end Go.Proofs.YtjhgembcdndmkaaDoor.St

namespace Go.Proofs.YtjhgembcdndmkaaDoor.St
open Go Go.Proofs.YtjhgembcdndmkaaDoor.Am Go.Proofs

theorem low_all {l : List UInt8} : low l = true ↔ ∀ i (hi : i < l.length), 97 ≤ l[i].toNat ∧ l[i].toNat ≤ 122 := by
  unfold low
  rw [List.all_eq_true]
  constructor
  · intro h i hi; simpa using h _ (List.getElem_mem hi)
  · intro h x hx
    obtain ⟨i, hi, rfl⟩ := List.getElem_of_mem hx
    simpa using h i hi

theorem rlabel_loop {s : List UInt8} (hs : s.length ≤ 9000) : ∀ (m i : Nat) (env : T AV) (h : Hp), i + m = s.length → sv env 0 = strOf s → sv env 3 = int64 i → (∀ j (hj : j < s.length), j < i → 97 ≤ s[j].toNat ∧ s[j].toNat ≤ 122) →
    ∃ env' g, Loops Tryd.prog 36 rlabel_6 env h g [] env' h ∧ ((g = .exit 0 ∧ sv env' 0 = strOf s ∧ low s = true) ∨ (g = .ret ∧ sv env' 2 = .bool false ∧ low s = false)) := by
  intro m
  induction m with
  | zero =>
    intro i env h hi s0 s3 hl

    have hn : ¬ (i : Int) < (s.length : Int) := by omega
    obtain ⟨env1, e1, f0⟩ : ∃ env', runS Tryd.prog true rlabel_6 [] env h = some (.exit 0, [], env', h) ∧ sv env' 0 = strOf s := by
      unfold rlabel_6
      simp [rlabel_2, runS, runR, Rs.seq, Rs.block, runOps, wanted_no, wanted_sv, ev_tm, ev_vl, sv_setD, sv_set, setD_none, qev_mov, qev_bin, qev_un, qev_lenI, qev_lenS, qev_pick, qev_load1, qev_idxSl, idx2_sl, idxA2_ptr, opt_some, bin_add, bin_sub, bin_mul, bin_lss, bin_leq, bin_gtr, bin_geq, bin_eql, bin_neq, un_not, un_neg, qev_callv, qev_new1, qev_store1, qev_nilC, nilC_ptr, qev_fld, fld0, fldN, qev_extract, nth0, nth1, nth2, qev_eqPtr, sameP_nil, notIf, s0, s3, strOf, hn]
    exact ⟨env1, .exit 0, .out (Dos.runExit [] (by simp) e1) (by simp), .inl ⟨rfl, f0, low_all.2 fun j hj => hl j hj (by omega)⟩⟩
  | succ m ih =>
    intro i env h hi s0 s3 hl
    have hil : i < s.length := by omega
    have hn : (i : Int) < (s.length : Int) := by omega
    have w1 : wrapA .i64 ((i : Int) + 1) = (i : Int) + 1 := wrap64 (by omega) (by omega)
    have ix : ∀ env n k, sv env n = .str s.length (pack s) → sv env k = int64 i → evalOp Tryd.prog (.idxStr (tm n) (tm k)) env h = .val (.int .u8 (s[i].toNat : Int)) h := fun env n k hx hy => qev_idxStr Tryd.prog (by rw [ev_tm]; exact hx) (by rw [ev_tm]; exact hy) hil
    by_cases c1 : s[i].toNat < 97
    · have c1' : (s[i].toNat : Int) < 97 := by omega
      obtain ⟨env1, e1, f2⟩ : ∃ env', runS Tryd.prog true rlabel_6 [] env h = some (.ret, [], env', h) ∧ sv env' 2 = .bool false := by
        unfold rlabel_6
        simp [rlabel_2, rlabel_3, rlabel_4, runS, runR, Rs.seq, Rs.block, runOps, wanted_no, wanted_sv, ev_tm, ev_vl, sv_setD, sv_set, setD_none, qev_mov, qev_bin, qev_un, qev_lenI, qev_lenS, qev_pick, qev_load1, qev_idxSl, idx2_sl, idxA2_ptr, opt_some, bin_add, bin_sub, bin_mul, bin_lss, bin_leq, bin_gtr, bin_geq, bin_eql, bin_neq, un_not, un_neg, qev_callv, qev_new1, qev_store1, qev_nilC, nilC_ptr, qev_fld, fld0, fldN, qev_extract, nth0, nth1, nth2, qev_eqPtr, sameP_nil, notIf, s0, s3, strOf, hn, ix, c1']
      exact ⟨env1, .ret, .out (Dos.runRet [] (by simp) e1) (by simp), .inr ⟨rfl, f2, by rw [← Bool.not_eq_true]; intro q; have := low_all.1 q i hil; omega⟩⟩
    · have c1' : ¬ (s[i].toNat : Int) < 97 := by omega
      by_cases c2 : 122 < s[i].toNat
      · have c2' : (122 : Int) < (s[i].toNat : Int) := by omega
        obtain ⟨env1, e1, f2⟩ : ∃ env', runS Tryd.prog true rlabel_6 [] env h = some (.ret, [], env', h) ∧ sv env' 2 = .bool false := by
          unfold rlabel_6
          simp [rlabel_2, rlabel_3, rlabel_4, runS, runR, Rs.seq, Rs.block, runOps, wanted_no, wanted_sv, ev_tm, ev_vl, sv_setD, sv_set, setD_none, qev_mov, qev_bin, qev_un, qev_lenI, qev_lenS, qev_pick, qev_load1, qev_idxSl, idx2_sl, idxA2_ptr, opt_some, bin_add, bin_sub, bin_mul, bin_lss, bin_leq, bin_gtr, bin_geq, bin_eql, bin_neq, un_not, un_neg, qev_callv, qev_new1, qev_store1, qev_nilC, nilC_ptr, qev_fld, fld0, fldN, qev_extract, nth0, nth1, nth2, qev_eqPtr, sameP_nil, notIf, s0, s3, strOf, hn, ix, c1', c2']
        exact ⟨env1, .ret, .out (Dos.runRet [] (by simp) e1) (by simp), .inr ⟨rfl, f2, by rw [← Bool.not_eq_true]; intro q; have := low_all.1 q i hil; omega⟩⟩
      · have c2' : ¬ (122 : Int) < (s[i].toNat : Int) := by omega
        obtain ⟨env1, e1, f0, f3⟩ : ∃ env', runS Tryd.prog true rlabel_6 [] env h = some (.upt [], [], env', h) ∧ sv env' 0 = strOf s ∧ sv env' 3 = int64 ((i + 1 : Nat) : Int) := by
          unfold rlabel_6
          simp [rlabel_2, rlabel_3, rlabel_5, runS, runR, Rs.seq, Rs.block, runOps, wanted_no, wanted_sv, ev_tm, ev_vl, sv_setD, sv_set, setD_none, qev_mov, qev_bin, qev_un, qev_lenI, qev_lenS, qev_pick, qev_load1, qev_idxSl, idx2_sl, idxA2_ptr, opt_some, bin_add, bin_sub, bin_mul, bin_lss, bin_leq, bin_gtr, bin_geq, bin_eql, bin_neq, un_not, un_neg, qev_callv, qev_new1, qev_store1, qev_nilC, nilC_ptr, qev_fld, fld0, fldN, qev_extract, nth0, nth1, nth2, qev_eqPtr, sameP_nil, notIf, s0, s3, strOf, hn, ix, c1', c2', w1]
        obtain ⟨env', g, L, r⟩ := ih (i + 1) env1 h (by omega) f0 f3 (fun j hj hji => by
          rcases Nat.lt_or_ge j i with q | q
          · exact hl j hj q
          · have : j = i := by omega
            subst this; omega)
        exact ⟨env', g, .more (M := []) (M1 := []) (Dos.runGo [] (by simp) e1) L, r⟩

theorem rlabel_fn (s : List UInt8) (hs : s.length ≤ 9000) (h : Hp) : AmFn Tryd.prog 36 [strOf s] h (.bool (labelB s)) h := by
  obtain ⟨env1, e1, f0, f3⟩ : ∃ env', runS Tryd.prog true rlabel_fu.body [] (setArgs .e 0 [strOf s]) h = some (.upt [.code (.loop rlabel_6), .inBlock 0, .code (.seq (.region rlabel_7) .ret)], [], env', h) ∧ sv env' 0 = strOf s ∧ sv env' 3 = int64 ((0 : Nat) : Int) := by
    simp [rlabel_fu, rlabel_0, rlabel_1, runS, runR, Rs.seq, Rs.block, sv_args, runOps, wanted_no, wanted_sv, ev_tm, ev_vl, sv_setD, sv_set, setD_none, qev_mov, qev_bin, qev_un, qev_lenI, qev_lenS, qev_pick, qev_load1, qev_idxSl, idx2_sl, idxA2_ptr, opt_some, bin_add, bin_sub, bin_mul, bin_lss, bin_leq, bin_gtr, bin_geq, bin_eql, bin_neq, un_not, un_neg, qev_callv, qev_new1, qev_store1, qev_nilC, nilC_ptr, qev_fld, fld0, fldN, qev_extract, nth0, nth1, nth2, qev_eqPtr, sameP_nil, notIf]
  obtain ⟨env2, g, L, r⟩ := rlabel_loop hs s.length 0 env1 h (by omega) f0 f3 (fun j hj hji => by omega)
  rcases r with ⟨eg, q0, hl⟩ | ⟨eg, q2, hl⟩
  · subst eg
    obtain ⟨env3, e3, z⟩ : ∃ env', runS Tryd.prog true (.seq (.region rlabel_7) .ret) [] env2 h = some (.ret, [], env', h) ∧ sv env' 2 = .bool (labelB s) := by
      unfold labelB
      rw [hl]
      by_cases c : 1 ≤ s.length
      · simp [rlabel_7, runS, runR, Rs.seq, Rs.block, runOps, wanted_no, wanted_sv, ev_tm, ev_vl, sv_setD, sv_set, setD_none, qev_mov, qev_bin, qev_un, qev_lenI, qev_lenS, qev_pick, qev_load1, qev_idxSl, idx2_sl, idxA2_ptr, opt_some, bin_add, bin_sub, bin_mul, bin_lss, bin_leq, bin_gtr, bin_geq, bin_eql, bin_neq, un_not, un_neg, qev_callv, qev_new1, qev_store1, qev_nilC, nilC_ptr, qev_fld, fld0, fldN, qev_extract, nth0, nth1, nth2, qev_eqPtr, sameP_nil, notIf, q0, strOf, c, show (1 : Int) ≤ (s.length : Int) by omega]; omega
      · simp [rlabel_7, runS, runR, Rs.seq, Rs.block, runOps, wanted_no, wanted_sv, ev_tm, ev_vl, sv_setD, sv_set, setD_none, qev_mov, qev_bin, qev_un, qev_lenI, qev_lenS, qev_pick, qev_load1, qev_idxSl, idx2_sl, idxA2_ptr, opt_some, bin_add, bin_sub, bin_mul, bin_lss, bin_leq, bin_gtr, bin_geq, bin_eql, bin_neq, un_not, un_neg, qev_callv, qev_new1, qev_store1, qev_nilC, nilC_ptr, qev_fld, fld0, fldN, qev_extract, nth0, nth1, nth2, qev_eqPtr, sameP_nil, notIf, q0, strOf, c, show ¬ (1 : Int) ≤ (s.length : Int) by omega]
    exact AmFn.dos rlabel_code (by simp) (Dos.run (M := []) [] (by simp) e1 (.leave (M := []) (M1 := []) (i := 0) (Dos.loop L) rfl (.ret (Dos.runRet [] (by simp) e3)))) (vs := [sv env3 2]) rfl z
  · subst eg
    have e : labelB s = false := by unfold labelB; rw [hl]; rfl
    rw [e]
    exact AmFn.dos rlabel_code (by simp) (Dos.run (M := []) [] (by simp) e1 (.ret (Dos.loop L))) (vs := [sv env2 2]) rfl q2

theorem rbranch_fn (r : Int) (s : List UInt8) (hs : s.length ≤ 9000) (h : Hp) : ∃ h', AmFn Tryd.prog 17 [.agg [int64 r, strOf s]] h (.bool (branchB r s)) h' ∧ Only [] h h' := by
  obtain ⟨h1, bx, A, o1, n1⟩ := boxed Tryd.prog [int64 r, strOf s] h
  have l0 := A.one (i := 0) (by simp)
  have l1 := A.one (i := 1) (by simp)
  simp only [List.getElem_cons_zero, List.getElem_cons_succ] at l0 l1
  have kl := rlabel_fn s hs h1
  obtain ⟨B, hB, env1, e1, f⟩ : ∃ B, (∀ a ∈ B, CallR Tryd.prog a) ∧ ∃ env', runS Tryd.prog true rbranch_fu.body B (setArgs .e 0 [.agg [int64 r, strOf s]]) h = some (.ret, [], env', h1) ∧ sv env' 2 = .bool (branchB r s) := by
    unfold rbranch_fu branchB
    by_cases c0 : 0 ≤ r
    · by_cases c1 : r < 8
      · refine ⟨[⟨36, [strOf s], h1, .bool (labelB s), h1⟩], fun a ha => by simp at ha; subst ha; exact .fn kl, ?_⟩
        simp [rbranch_0, rbranch_1, runS, runR, Rs.seq, Rs.block, sv_args, runOps, wanted_no, wanted_sv, ev_tm, ev_vl, sv_setD, sv_set, setD_none, qev_mov, qev_bin, qev_un, qev_lenI, qev_lenS, qev_pick, qev_load1, qev_idxSl, idx2_sl, idxA2_ptr, opt_some, bin_add, bin_sub, bin_mul, bin_lss, bin_leq, bin_gtr, bin_geq, bin_eql, bin_neq, un_not, un_neg, qev_callv, qev_new1, qev_store1, qev_nilC, nilC_ptr, qev_fld, fld0, fldN, qev_extract, nth0, nth1, nth2, qev_eqPtr, sameP_nil, notIf, bx, l0, l1, c0, c1, callA_ok ok_rlabel]
      · refine ⟨[], by simp, ?_⟩
        simp [rbranch_0, rbranch_1, runS, runR, Rs.seq, Rs.block, sv_args, runOps, wanted_no, wanted_sv, ev_tm, ev_vl, sv_setD, sv_set, setD_none, qev_mov, qev_bin, qev_un, qev_lenI, qev_lenS, qev_pick, qev_load1, qev_idxSl, idx2_sl, idxA2_ptr, opt_some, bin_add, bin_sub, bin_mul, bin_lss, bin_leq, bin_gtr, bin_geq, bin_eql, bin_neq, un_not, un_neg, qev_callv, qev_new1, qev_store1, qev_nilC, nilC_ptr, qev_fld, fld0, fldN, qev_extract, nth0, nth1, nth2, qev_eqPtr, sameP_nil, notIf, bx, l0, l1, c0, c1, callA_ok ok_rlabel]
    · refine ⟨[], by simp, ?_⟩
      simp [rbranch_0, rbranch_1, runS, runR, Rs.seq, Rs.block, sv_args, runOps, wanted_no, wanted_sv, ev_tm, ev_vl, sv_setD, sv_set, setD_none, qev_mov, qev_bin, qev_un, qev_lenI, qev_lenS, qev_pick, qev_load1, qev_idxSl, idx2_sl, idxA2_ptr, opt_some, bin_add, bin_sub, bin_mul, bin_lss, bin_leq, bin_gtr, bin_geq, bin_eql, bin_neq, un_not, un_neg, qev_callv, qev_new1, qev_store1, qev_nilC, nilC_ptr, qev_fld, fld0, fldN, qev_extract, nth0, nth1, nth2, qev_eqPtr, sameP_nil, notIf, bx, l0, l1, c0, callA_ok ok_rlabel]
  exact ⟨h1, AmFn.dos rbranch_code (by simp) (Dos.runRet _ hB e1) (vs := [sv env1 2]) rfl f, o1⟩

theorem rname_fn (r : Int) (s : List UInt8) (n : Int) (hs : s.length ≤ 9000) (h : Hp) : ∃ h', AmFn Tryd.prog 15 [.agg [int64 r, strOf s, int64 n]] h (.bool (nameB r s n)) h' ∧ Only [] h h' := by
  obtain ⟨h1, bx, A, o1, n1⟩ := boxed Tryd.prog [int64 r, strOf s, int64 n] h
  have l2 := A.one (i := 2) (by simp)
  simp only [List.getElem_cons_zero, List.getElem_cons_succ] at l2
  have lB := A.part2 Tryd.prog (i := 0) (n := 2) (by simp)
  obtain ⟨h2, kb, o2⟩ := rbranch_fn r s hs h1
  have l2' := A.only o2 (by simp) |>.one (i := 2) (by simp)
  simp only [List.getElem_cons_zero, List.getElem_cons_succ] at l2'
  obtain ⟨env1, e1, f⟩ : ∃ env', runS Tryd.prog true rname_fu.body [⟨17, [.agg [int64 r, strOf s]], h1, .bool (branchB r s), h2⟩] (setArgs .e 0 [.agg [int64 r, strOf s, int64 n]]) h = some (.ret, [], env', h2) ∧ sv env' 2 = .bool (nameB r s n) := by
    unfold rname_fu nameB
    cases branchB r s <;> by_cases c1 : 1 ≤ n <;>
    simp [rname_0, rname_1, runS, runR, Rs.seq, Rs.block, sv_args, runOps, wanted_no, wanted_sv, ev_tm, ev_vl, sv_setD, sv_set, setD_none, qev_mov, qev_bin, qev_un, qev_lenI, qev_lenS, qev_pick, qev_load1, qev_idxSl, idx2_sl, idxA2_ptr, opt_some, bin_add, bin_sub, bin_mul, bin_lss, bin_leq, bin_gtr, bin_geq, bin_eql, bin_neq, un_not, un_neg, qev_callv, qev_new1, qev_store1, qev_nilC, nilC_ptr, qev_fld, fld0, fldN, qev_extract, nth0, nth1, nth2, qev_eqPtr, sameP_nil, notIf, bx, lB, l2', c1, callA_ok ok_rbranch]
  exact ⟨h2, AmFn.dos rname_code (by simp) (Dos.runRet _ (fun x hx => by simp at hx; subst hx; exact .fn kb) e1) (vs := [sv env1 2]) rfl f, o1.trans o2⟩

theorem rstamp_fn (g r : Int) (s : List UInt8) (n i : Int) (hs : s.length ≤ 9000) (h : Hp) : ∃ h', AmFn Tryd.prog 13 [.agg [int64 g, int64 r, strOf s, int64 n, int64 i]] h (.bool (stampB g r s n i)) h' ∧ Only [] h h' := by
  obtain ⟨h1, bx, A, o1, n1⟩ := boxed Tryd.prog [int64 g, int64 r, strOf s, int64 n, int64 i] h
  have l0 := A.one (i := 0) (by simp)
  have l4 := A.one (i := 4) (by simp)
  have lN := A.part2 Tryd.prog (i := 1) (n := 3) (by simp)
  obtain ⟨h2, kb, o2⟩ := rname_fn r s n hs h1
  have l4' := A.only o2 (by simp) |>.one (i := 4) (by simp)
  simp only [List.getElem_cons_zero, List.getElem_cons_succ] at l0 l4 l4'
  obtain ⟨B, hB, h3, o3, env1, e1, f⟩ : ∃ B, (∀ a ∈ B, CallR Tryd.prog a) ∧ ∃ h3, Only [] h1 h3 ∧ ∃ env', runS Tryd.prog true rstamp_fu.body B (setArgs .e 0 [.agg [int64 g, int64 r, strOf s, int64 n, int64 i]]) h = some (.ret, [], env', h3) ∧ sv env' 2 = .bool (stampB g r s n i) := by
    unfold rstamp_fu stampB
    by_cases c0 : 1 ≤ g
    · by_cases c1 : g ≤ 4611686018427387904
      · refine ⟨[⟨15, [.agg [int64 r, strOf s, int64 n]], h1, .bool (nameB r s n), h2⟩], fun a ha => by simp at ha; subst ha; exact .fn kb, h2, o2, ?_⟩
        cases nameB r s n <;> by_cases c2 : 0 ≤ i <;>
        simp [rstamp_0, rstamp_1, runS, runR, Rs.seq, Rs.block, sv_args, runOps, wanted_no, wanted_sv, ev_tm, ev_vl, sv_setD, sv_set, setD_none, qev_mov, qev_bin, qev_un, qev_lenI, qev_lenS, qev_pick, qev_load1, qev_idxSl, idx2_sl, idxA2_ptr, opt_some, bin_add, bin_sub, bin_mul, bin_lss, bin_leq, bin_gtr, bin_geq, bin_eql, bin_neq, un_not, un_neg, qev_callv, qev_new1, qev_store1, qev_nilC, nilC_ptr, qev_fld, fld0, fldN, qev_extract, nth0, nth1, nth2, qev_eqPtr, sameP_nil, notIf, bx, l0, lN, l4', c0, c1, c2, callA_ok ok_rname]
      · refine ⟨[], by simp, h1, .refl _ _, ?_⟩
        simp [rstamp_0, rstamp_1, runS, runR, Rs.seq, Rs.block, sv_args, runOps, wanted_no, wanted_sv, ev_tm, ev_vl, sv_setD, sv_set, setD_none, qev_mov, qev_bin, qev_un, qev_lenI, qev_lenS, qev_pick, qev_load1, qev_idxSl, idx2_sl, idxA2_ptr, opt_some, bin_add, bin_sub, bin_mul, bin_lss, bin_leq, bin_gtr, bin_geq, bin_eql, bin_neq, un_not, un_neg, qev_callv, qev_new1, qev_store1, qev_nilC, nilC_ptr, qev_fld, fld0, fldN, qev_extract, nth0, nth1, nth2, qev_eqPtr, sameP_nil, notIf, bx, l0, l4, c0, c1, callA_ok ok_rname]
    · refine ⟨[], by simp, h1, .refl _ _, ?_⟩
      simp [rstamp_0, rstamp_1, runS, runR, Rs.seq, Rs.block, sv_args, runOps, wanted_no, wanted_sv, ev_tm, ev_vl, sv_setD, sv_set, setD_none, qev_mov, qev_bin, qev_un, qev_lenI, qev_lenS, qev_pick, qev_load1, qev_idxSl, idx2_sl, idxA2_ptr, opt_some, bin_add, bin_sub, bin_mul, bin_lss, bin_leq, bin_gtr, bin_geq, bin_eql, bin_neq, un_not, un_neg, qev_callv, qev_new1, qev_store1, qev_nilC, nilC_ptr, qev_fld, fld0, fldN, qev_extract, nth0, nth1, nth2, qev_eqPtr, sameP_nil, notIf, bx, l0, l4, c0, callA_ok ok_rname]
  exact ⟨h3, AmFn.dos rstamp_code (by simp) (Dos.runRet _ hB e1) (vs := [sv env1 2]) rfl f, o1.trans o3⟩
end Go.Proofs.YtjhgembcdndmkaaDoor.St

namespace Go.Proofs.YtjhgembcdndmkaaDoor.St
open Go Go.Proofs.YtjhgembcdndmkaaDoor.Am Go.Proofs

theorem wrapU64 {z : Int} (h0 : 0 ≤ z) (h1 : z < 18446744073709551616) : wrapA .u64 z = z := by
  obtain ⟨n, rfl⟩ := Int.eq_ofNat_of_zero_le h0
  rw [wrapU, Nat.mod_eq_of_lt (by omega)]
theorem wrapU8 {z : Int} (h0 : 0 ≤ z) (h1 : z < 256) : wrapA .u8 z = z := by
  obtain ⟨n, rfl⟩ := Int.eq_ofNat_of_zero_le h0
  rw [wrap8, Nat.mod_eq_of_lt (by omega)]
theorem bin_rem128 (kd : EK) (no : Bool) (m q : Nat) (h : q = m % 128) : binA .rem kd no (.int .u64 (m : Int)) (.int .u64 128) = some (.int .u64 (q : Int)) := by
  refine (bin_rem kd no .u64 (m : Int) 128 (by decide)).trans ?_
  rw [h]; rfl
theorem bin_quo128 (kd : EK) (no : Bool) (m q : Nat) (hm : m < 18446744073709551616) (h : q = m / 128) : binA .quo kd no (.int .u64 (m : Int)) (.int .u64 128) = some (.int .u64 (q : Int)) := by
  refine (bin_quo kd no .u64 (m : Int) 128 (by decide)).trans ?_
  rw [h, show (m : Int).tdiv 128 = ((m / 128 : Nat) : Int) from rfl, wrapU64 (by omega) (by omega)]

section
variable {N : Nat} {n : Nat}

theorem rnumber_loop (hn : n < 18446744073709551616) : ∀ (m : Nat) (acc : List UInt8) (env : T AV) (h : Hp) (v : AV), m * 128 ^ acc.length ≤ n → (0 < acc.length → 0 < m) → sv env 0 = .int .u64 (m : Int) → sv env 3 = v → Mine N h v acc → N ≤ h.next.num →
    ∃ env' h' v' acc', ∃ k : Nat, Loops Tryd.prog 37 rnumber_5 env h (.exit 0) [] env' h' ∧ sv env' 0 = .int .u64 (k : Int) ∧ sv env' 3 = v' ∧ k ≤ 127 ∧ acc ++ numB m = acc' ++ numB k ∧ acc'.length ≤ 9 ∧ Mine N h' v' acc' ∧ N ≤ h'.next.num ∧ ∃ S, Only S h h' ∧ ∀ id ∈ S, N ≤ id.num := by
  intro m
  induction m using Nat.strongRecOn with
  | ind m ih =>
    intro acc env h v hp hm0 s0 s3 o hN
    have hmn : m ≤ n := Nat.le_trans (Nat.le_mul_of_pos_right _ (Nat.pow_pos (by omega))) hp
    by_cases hm : 127 < m
    · have hlen := len_lt hn hp hm
      have hm' : (127 : Int) < (m : Int) := by omega
      have hb := toNat8 (n := m % 128 + 128) (by omega)
      obtain ⟨h1, b1, r1, o1, n1⟩ := oneB Tryd.prog h (UInt8.ofNat (m % 128 + 128)) (.int .u8 0)
      rw [hb] at b1
      obtain ⟨q, hq⟩ : ∃ q, q = m % 128 := ⟨_, rfl⟩
      obtain ⟨d, hd⟩ : ∃ d, d = m / 128 := ⟨_, rfl⟩
      have hq1 : q < 128 := by omega
      have w1 : wrapA .u64 ((q : Int) + 128) = (q : Int) + 128 := wrapU64 (by omega) (by omega)
      have w2 : wrapA .u8 ((q : Int) + 128) = (q : Int) + 128 := wrapU8 (by omega) (by omega)
      have b1' : ∀ env x, ev env x = .int .u8 ((q : Int) + 128) → evalOp Tryd.prog (.buildSl 1 1 [.int .u8 0] [(0, 1, x)]) env h = .val (.sl h.next 0 0 1 1 true 1) h1 := fun env x hx => b1 env x (by rw [hx, hq]; rfl)
      obtain ⟨v2, h2, S, p1, p2, p3, p4, p5⟩ := (o.more o1).push Tryd.prog (bytes := 0) r1 (by simp; omega) (by omega) (by omega)
      obtain ⟨env1, e1, f0, f3⟩ : ∃ env', runS Tryd.prog true rnumber_5 [] env h = some (.upt [], [], env', h2) ∧ sv env' 0 = .int .u64 (d : Int) ∧ sv env' 3 = v2 := by
        unfold rnumber_5
        simp [rnumber_2, rnumber_3, rnumber_4, runS, runR, Rs.seq, Rs.block, runOps, wanted_no, wanted_sv, ev_tm, ev_vl, sv_setD, sv_set, setD_none, qev_mov, qev_bin, qev_un, qev_lenI, qev_lenS, qev_pick, qev_load1, qev_idxSl, idx2_sl, idxA2_ptr, opt_some, bin_add, bin_sub, bin_mul, bin_lss, bin_leq, bin_gtr, bin_geq, bin_eql, bin_neq, un_not, un_neg, qev_callv, qev_new1, qev_store1, qev_nilC, nilC_ptr, qev_fld, fld0, fldN, qev_extract, nth0, nth1, nth2, qev_eqPtr, sameP_nil, notIf, s0, s3, hm', bin_rem128 _ _ m q hq, bin_quo128 _ _ m d (by omega) hd, qev_conv, w1, w2, b1', p1]
      have hlt : d < m := by omega
      obtain ⟨env', h', v', acc', k, L, q0, q3, hk, e, hl, oo, hN', S2, o2, hS2⟩ := ih d hlt (acc ++ [UInt8.ofNat (m % 128 + 128)]) env1 h2 v2 (by rw [List.length_append, hd]; exact pow_more hp) (fun _ => by omega) f0 f3 p2 (by have := o1.next; have := p3.next; omega)
      refine ⟨env', h', v', acc', k, .more (M := []) (M1 := []) (Dos.runGo [] (by simp) e1) L, q0, q3, hk, ?_, hl, oo, hN', S ++ S2, ?_, fun id hid => ?_⟩
      · rw [numB_more hm, ← e, List.append_assoc, hd]; rfl
      · exact ((o1.mono (S' := S ++ S2) (by simp)).trans (p3.mono fun id q => .inl (by simp [q]))).trans (o2.mono fun id q => .inl (by simp [q]))
      · rcases List.mem_append.1 hid with q | q
        · exact (o.old (p4 id q)).1
        · exact hS2 id q
    · have hm' : ¬ (127 : Int) < (m : Int) := by omega
      obtain ⟨env1, e1, f0, f3⟩ : ∃ env', runS Tryd.prog true rnumber_5 [] env h = some (.exit 0, [], env', h) ∧ sv env' 0 = .int .u64 (m : Int) ∧ sv env' 3 = v := by
        unfold rnumber_5
        simp [rnumber_2, runS, runR, Rs.seq, Rs.block, runOps, wanted_no, wanted_sv, ev_tm, ev_vl, sv_setD, sv_set, setD_none, qev_mov, qev_bin, qev_un, qev_lenI, qev_lenS, qev_pick, qev_load1, qev_idxSl, idx2_sl, idxA2_ptr, opt_some, bin_add, bin_sub, bin_mul, bin_lss, bin_leq, bin_gtr, bin_geq, bin_eql, bin_neq, un_not, un_neg, qev_callv, qev_new1, qev_store1, qev_nilC, nilC_ptr, qev_fld, fld0, fldN, qev_extract, nth0, nth1, nth2, qev_eqPtr, sameP_nil, notIf, s0, s3, hm']
      exact ⟨env1, h, v, acc, m, .out (Dos.runExit [] (by simp) e1) (by simp), f0, f3, by omega, rfl, len_le hn hp hm0, o, hN, [], .refl _ _, by simp⟩
end

theorem rnumber_fn1 (n : Nat) (hn : n < 18446744073709551616) (h : Hp) : ∃ v h', AmFn Tryd.prog 37 [.int .u64 (n : Int)] h v h' ∧ Mine h.next.num h' v (numB n) ∧ Only [] h h' ∧ h.next.num < h'.next.num := by
  obtain ⟨env1, e1, f0, f3⟩ : ∃ env', runS Tryd.prog true rnumber_fu.body [] (setArgs .e 0 [.int .u64 (n : Int)]) h = some (.upt [.code (.loop rnumber_5), .inBlock 0, .code (.seq (.region rnumber_6) .ret)], [], env', h) ∧ sv env' 0 = .int .u64 (n : Int) ∧ sv env' 3 = .nilSl := by
    simp [rnumber_fu, rnumber_0, rnumber_1, runS, runR, Rs.seq, Rs.block, sv_args, runOps, wanted_no, wanted_sv, ev_tm, ev_vl, sv_setD, sv_set, setD_none, qev_mov, qev_bin, qev_un, qev_lenI, qev_lenS, qev_pick, qev_load1, qev_idxSl, idx2_sl, idxA2_ptr, opt_some, bin_add, bin_sub, bin_mul, bin_lss, bin_leq, bin_gtr, bin_geq, bin_eql, bin_neq, un_not, un_neg, qev_callv, qev_new1, qev_store1, qev_nilC, nilC_ptr, qev_fld, fld0, fldN, qev_extract, nth0, nth1, nth2, qev_eqPtr, sameP_nil, notIf]
  obtain ⟨env2, h2, v2, acc, k, L, q0, q3, hk, he, hl, m2, hN, S, o2, hS⟩ := rnumber_loop hn n [] env1 h _ (by simp) (by simp) f0 f3 (mine_nil h.next.num h) (Nat.le_refl _)
  have hb := toNat8 (n := k) (by omega)
  obtain ⟨h3, b3, r3, o3, n3⟩ := oneB Tryd.prog h2 (UInt8.ofNat k) (.int .u8 0)
  rw [hb] at b3
  obtain ⟨v4, h4, S4, p1, p2, p3, p4, p5⟩ := (m2.more o3).push Tryd.prog (bytes := 0) r3 (by simp; omega) (by omega) (by omega)
  have w2 : wrapA .u8 (k : Int) = (k : Int) := wrapU8 (by omega) (by omega)
  obtain ⟨env3, e3, z⟩ : ∃ env', runS Tryd.prog true (.seq (.region rnumber_6) .ret) [] env2 h2 = some (.ret, [], env', h4) ∧ sv env' 2 = v4 := by
    simp [rnumber_6, runS, runR, Rs.seq, Rs.block, runOps, wanted_no, wanted_sv, ev_tm, ev_vl, sv_setD, sv_set, setD_none, qev_mov, qev_bin, qev_un, qev_lenI, qev_lenS, qev_pick, qev_load1, qev_idxSl, idx2_sl, idxA2_ptr, opt_some, bin_add, bin_sub, bin_mul, bin_lss, bin_leq, bin_gtr, bin_geq, bin_eql, bin_neq, un_not, un_neg, qev_callv, qev_new1, qev_store1, qev_nilC, nilC_ptr, qev_fld, fld0, fldN, qev_extract, nth0, nth1, nth2, qev_eqPtr, sameP_nil, notIf, q0, q3, qev_conv, w2, b3, p1]
  refine ⟨v4, h4, AmFn.dos rnumber_code (by simp) (Dos.run (M := []) [] (by simp) e1 (.leave (M := []) (M1 := []) (i := 0) (Dos.loop L) rfl (.ret (Dos.runRet [] (by simp) e3)))) (vs := [sv env3 2]) rfl z, ?_, ?_, by have := o2.next; have := o3.next; have := p3.next; omega⟩
  · rw [show numB n = acc ++ [UInt8.ofNat k] from he.trans (by rw [numB_small hk])]
    exact p2
  · exact ((o2.mono (S' := S ++ S4) fun id q => .inl (by simp [q])).trans ((o3.mono (S' := S ++ S4) (by simp)).trans (p3.mono fun id q => .inl (by simp [q])))).mono fun id q => .inr (by
      rcases List.mem_append.1 q with q | q
      · exact hS id q
      · exact (m2.old (p4 id q)).1)

theorem rnumber_fn (n : Nat) (hn : n < 18446744073709551616) (h : Hp) : ∃ v h', AmFn Tryd.prog 37 [.int .u64 (n : Int)] h v h' ∧ Mine h.next.num h' v (numB n) ∧ Only [] h h' :=
  let ⟨v, h', a, b, c, _⟩ := rnumber_fn1 n hn h
  ⟨v, h', a, b, c⟩

theorem rbytes_fn {h : Hp} {v : AV} {b : List UInt8} (hb : b.length ≤ 20000) (hv : SlN h 1 v b.length (byt b)) : ∃ v' h', AmFn Tryd.prog 40 [v] h v' h' ∧ Mine h.next.num h' v' (bytB b) ∧ Only [] h h' := by
  obtain ⟨v1, h1, k1, m1, o1⟩ := rnumber_fn b.length (by omega) h
  have hnl := numB_length_le b.length (by omega)
  have n1 := o1.next
  obtain ⟨v2, h2, S, p1, p2, p3, p4, p5⟩ := m1.push Tryd.prog (bytes := 0) (hv.more o1) (by omega) (by omega) n1
  have ll := hv.lenI (P := Tryd.prog) h
  have lm : (b.length : Int) % 18446744073709551616 = b.length := by omega
  obtain ⟨env1, e1, z⟩ : ∃ env', runS Tryd.prog true rbytes_fu.body [⟨37, [.int .u64 (b.length : Int)], h, v1, h1⟩] (setArgs .e 0 [v]) h = some (.ret, [], env', h2) ∧ sv env' 2 = v2 := by
    simp [rbytes_fu, rbytes_0, rbytes_1, runS, runR, Rs.seq, Rs.block, sv_args, runOps, wanted_no, wanted_sv, ev_tm, ev_vl, sv_setD, sv_set, setD_none, qev_mov, qev_bin, qev_un, qev_lenI, qev_lenS, qev_pick, qev_load1, qev_idxSl, idx2_sl, idxA2_ptr, opt_some, bin_add, bin_sub, bin_mul, bin_lss, bin_leq, bin_gtr, bin_geq, bin_eql, bin_neq, un_not, un_neg, qev_callv, qev_new1, qev_store1, qev_nilC, nilC_ptr, qev_fld, fld0, fldN, qev_extract, nth0, nth1, nth2, qev_eqPtr, sameP_nil, notIf, ll, qev_conv, wrapU, lm, callA_ok ok_rnumber, p1]
  exact ⟨v2, h2, AmFn.dos rbytes_code (by simp) (Dos.runRet _ (fun x hx => by simp at hx; subst hx; exact .fn k1) e1) (vs := [sv env1 2]) rfl z, p2, ((o1.mono (S' := S) (by simp)).trans p3).mono fun id q => .inr (m1.old (p4 id q)).1⟩
end Go.Proofs.YtjhgembcdndmkaaDoor.St
