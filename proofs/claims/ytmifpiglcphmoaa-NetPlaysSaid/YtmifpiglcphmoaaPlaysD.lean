import Derived.Test.YtmifpiglcphmoaaPlaysC
/- THE WALK'S PARTS, part D: what the functions of the law compute, over the abstract machine that stands beside this text. No condition. -/
set_option linter.unusedSimpArgs false
set_option linter.unusedVariables false
namespace Go.Proofs.Ytmifpiglcphmoaa.Plays
open Go Go.Proofs.Ytmifpiglcphmoaa.Am Go.Proofs

/-- The handed list is spoilt behind the sending. -/
theorem wipe_loop {len : Nat} (hlen : len ≤ 65536) {id : Pos} : ∀ (m i : Nat) (env : T AV) (h : Hp) (l : List AV), i + m = len → l.length = len → Arr h id l → sv env 9 = .sl id 0 0 len len false 1 → sv env 11 = int64 i →
    ∃ env' h', Loops Try.prog 4 plays_22 env h (.exit 3) [] env' h' ∧ (sv env' 0 = sv env 0 ∧ sv env' 3 = sv env 3 ∧ sv env' 4 = sv env 4 ∧ sv env' 5 = sv env 5 ∧ sv env' 6 = sv env 6 ∧ sv env' 7 = sv env 7 ∧ sv env' 10 = sv env 10) ∧ Only [id] h h' := by
  intro m
  induction m with
  | zero =>
    intro i env h l hi hl ha s9 s11
    have hnl : ¬ (i : Int) < len := by omega
    obtain ⟨env1, e1, f⟩ : ∃ env', runS Try.prog true plays_22 [] env h = some (.exit 3, [], env', h) ∧ (sv env' 0 = sv env 0 ∧ sv env' 3 = sv env 3 ∧ sv env' 4 = sv env 4 ∧ sv env' 5 = sv env 5 ∧ sv env' 6 = sv env 6 ∧ sv env' 7 = sv env 7 ∧ sv env' 10 = sv env 10) := by
      unfold plays_22
      simp [plays_19, runS, runR, Rs.seq, Rs.block, runOps, wanted_no, wanted_sv, ev_tm, ev_vl, sv_setD, sv_set, setD_none, qev_mov, qev_bin, qev_un, qev_lenI, qev_pick, qev_load1, qev_idxSl, idx2_sl, idxA2_ptr, opt_some, bin_add, bin_sub, bin_mul, bin_lss, bin_leq, bin_gtr, bin_geq, bin_eql, bin_neq, un_not, un_neg, qev_callv, qev_new1, qev_store1, qev_nilC, nilC_ptr, qev_fld, fldA_ptr, qev_extract, nth0, nth1, nth2, qev_eqPtr, sameP_nil, notIf, s9, s11, hnl]
    exact ⟨env1, h, .out (Dos.runExit [] (by simp) e1) (by simp), f, .refl _ _⟩
  | succ m ih =>
    intro i env h l hi hl ha s9 s11
    have hil : (i : Int) < len := by omega
    have st := storeR_arr ha (i := i) (by omega) (.str 4 1870030194) rfl rfl
    have w1 : wrapA .i64 ((i : Int) + 1) = (i : Int) + 1 := wrap64 (by omega) (by omega)
    obtain ⟨env1, e1, f, f9, f11⟩ : ∃ env', runS Try.prog true plays_22 [] env h = some (.upt [], [], env', putA h id i (.str 4 1870030194)) ∧ (sv env' 0 = sv env 0 ∧ sv env' 3 = sv env 3 ∧ sv env' 4 = sv env 4 ∧ sv env' 5 = sv env 5 ∧ sv env' 6 = sv env 6 ∧ sv env' 7 = sv env 7 ∧ sv env' 10 = sv env 10) ∧ sv env' 9 = .sl id 0 0 len len false 1 ∧ sv env' 11 = int64 ((i + 1 : Nat) : Int) := by
      unfold plays_22
      simp [plays_19, plays_20, plays_21, runS, runR, Rs.seq, Rs.block, runOps, wanted_no, wanted_sv, ev_tm, ev_vl, sv_setD, sv_set, setD_none, qev_mov, qev_bin, qev_un, qev_lenI, qev_pick, qev_load1, qev_idxSl, idx2_sl, idxA2_ptr, opt_some, bin_add, bin_sub, bin_mul, bin_lss, bin_leq, bin_gtr, bin_geq, bin_eql, bin_neq, un_not, un_neg, qev_callv, qev_new1, qev_store1, qev_nilC, nilC_ptr, qev_fld, fldA_ptr, qev_extract, nth0, nth1, nth2, qev_eqPtr, sameP_nil, notIf, s9, s11, hil, st, w1]
    obtain ⟨env', h', L, q, o⟩ := ih (i + 1) env1 (putA h id i (.str 4 1870030194)) (l.set i (.str 4 1870030194)) (by omega) (by simpa using hl) (putA_arr ha (by omega) (.str 4 1870030194)) f9 f11
    obtain ⟨q0, q3, q4, q5, q6, q7, q10⟩ := q
    obtain ⟨f0, f3, f4, f5, f6, f7, f10⟩ := f
    exact ⟨env', h', .more (M := []) (M1 := []) (Dos.runGo [] (by simp) e1) L, ⟨q0.trans f0, q3.trans f3, q4.trans f4, q5.trans f5, q6.trans f6, q7.trans f7, q10.trans f10⟩, (putA_only h id i (.str 4 1870030194)).trans o⟩

/-- The handed things, in a list of the law's own: nothing, or a new row. -/
theorem laid {h : Hp} {vt : AV} {things : List (List UInt8)} (t : SlR h vt (things.map strOf)) (sz : okSize things.length 16 = true) :
    ∃ vin h1, (∀ env s x, ev env s = .nilSl → ev env x = vt → evalOp Try.prog (.append 1 16 s x) env h = .val vin h1) ∧ Only [] h h1 ∧ SlR h1 vin (things.map strOf) ∧ ((things = [] ∧ vin = .nilSl) ∨ ∃ id, h.next.num ≤ id.num ∧ vin = .sl id 0 0 things.length things.length false 1 ∧ Arr h1 id (things.map strOf)) := by
  by_cases h0 : things = []
  · subst h0
    refine ⟨.nilSl, h, fun env s x hs hx => ?_, .refl _ _, .nil, .inl ⟨rfl, rfl⟩⟩
    have q := append_none Try.prog (env := env) (s := s) (bytes := 16) hx t ⟨by rw [hs]; rfl, .inl hs⟩
    rw [hs] at q
    exact q
  · obtain ⟨h1, e, ar, o, n⟩ := append_newB Try.prog (env := .e) (s := vl .nilSl) (x := vl vt) (bytes := 16) rfl t (by simpa using h0) (by simpa using sz) rfl
    refine ⟨_, h1, fun env s x hs hx => (append_env Try.prog (env := env) (env' := .e) (s := s) (s' := vl .nilSl) (x := x) (x' := vl vt) hs hx).trans e, o, .mk rfl ar.row, .inr ⟨h.next, Nat.le_refl _, by simp, ar⟩⟩

section
variable {N : Nat} {h0 h : Hp} {p : Pos} {v vl : AV} {w : List (List UInt8)} {sent : Int} {env : T AV} {vs vt : AV} {ps : Pos} {i n kind : Int} {things : List (List UInt8)}

/-- Send. -/
theorem case1 (a : At N h0 h p v vl w sent) (e : En env vs p vl sent i) (s : Stp N h ps p v vl vt kind n things) (e7 : sv env 7 = .ptr ps 0 0) (hs : 0 ≤ sent ∧ sent < 1000000000) : Outc N h0 p vs i sent sw_A1 env h := by
  obtain ⟨e0, e3, e4, e5, e6⟩ := e
  have l2 := s.l2
  have hw := a.hw
  obtain ⟨vin, h1, ap1, o1, t1, hin⟩ := laid s.t s.sz
  have a1 := a.more o1
  have n1 := o1.next
  have lt := SlR.lenI s.t
  have s1 : Stp N h1 ps p v vl vt kind n things := s.only o1 (by simp) s.psv s.psl
  have l21 := s1.l2
  have psold := s.b.old
  have pold := a.net.st.old
  have hinp : ∀ id, In vin id → h.next.num ≤ id.num := fun id ⟨g, off, m, cap, ex, q⟩ => by
    rcases hin with ⟨_, c⟩ | ⟨id', c1, c2, _⟩
    · rw [c] at q; cases q
    · rw [c2] at q; cases q; exact c1
  have hsub : wrapA .i64 (65536 - (w.length : Int)) = 65536 - (w.length : Int) := wrap64 (by omega) (by omega)
  by_cases hr : w.length + things.length ≤ 65536
  · have hgt : ¬ (65536 - (w.length : Int) < (things.length : Int)) := by omega
    obtain ⟨v1, h2, S, k, net, o2, hS, hv1⟩ := send_fn a1.net t1 (fun id g off m cap ex q => by
      have := hinp id ⟨g, off, m, cap, ex, q⟩
      refine ⟨fun c => by rw [c] at this; omega, fun g' off' n' cap' ex' c => ?_⟩
      have := (a.net.oldv (id := id) ⟨g', off', n', cap', ex', c⟩).2
      omega) hr (by omega) a1.hN
    have hS' : ∀ id ∈ S, id = p ∨ In v id := hS
    have hv1' : ∀ id, In v1 id → In v id ∨ h1.next.num ≤ id.num := fun id ⟨g, off, m, cap, ex, q⟩ => hv1 id g off m cap ex q
    have hSN : ∀ id ∈ S, N ≤ id.num ∧ id.num < h.next.num ∧ id ≠ ps := fun id c => by
      rcases hS' id c with q | q
      · subst q; exact ⟨a.net.pN, pold, s.psp.symm⟩
      · exact ⟨(a.net.oldv q).1, (a.net.oldv q).2, fun d => s.psv (d ▸ q)⟩
    have psv1 : ¬ In v1 ps := fun c => by
      rcases hv1' _ c with q | q
      · exact s.psv q
      · omega
    have s2 : Stp N h2 ps p v1 vl vt kind n things := s1.only o2 (fun id c => ⟨(hSN id c).1, (hSN id c).2.2⟩) psv1 s.psl
    have l22 := s2.l2
    have lt2 := SlR.lenI s2.t
    have ll2 : ∀ env x, ev env x = vl → evalOp Try.prog (.lenL x) env h2 = .val (int64 w.length) h2 := SlR.lenI ((own_only a1.own o2 fun id q c => by
      rcases hS' id c with d | d
      · subst d; exact a.nevp q
      · exact a.apart _ d q).sl)
    obtain ⟨env1, x1, f0, f3, f4, f5, f6, f7, f9, f10, f11⟩ : ∃ env', runS Try.prog true sw_A1 [⟨18, [.ptr p 0 0, vin], h1, int64 0, h2⟩] env h = some (.upt [.code (.loop plays_22), .inBlock 3, .code (.seq (.region plays_23) (.seq (.region plays_24) (.seq (.region plays_25) (.cond (tm 85) (.seq (.region plays_26) .ret) .skip))))], [], env', h2) ∧
        sv env' 0 = vs ∧ sv env' 3 = .ptr p 0 0 ∧ sv env' 4 = vl ∧ sv env' 5 = int64 sent ∧ sv env' 6 = int64 i ∧ sv env' 7 = .ptr ps 0 0 ∧ sv env' 9 = vin ∧ sv env' 10 = int64 0 ∧ sv env' 11 = int64 ((0 : Nat) : Int) := by
      unfold sw_A1
      simp [plays_12, plays_13, plays_14, plays_15, plays_18, runS, runR, Rs.seq, Rs.block, runOps, wanted_no, wanted_sv, ev_tm, ev_vl, sv_setD, sv_set, setD_none, qev_mov, qev_bin, qev_load1, opt_some, bin_sub, bin_gtr, qev_callv, qev_nilC, nilC_ptr, qev_fld, fldA_ptr, callA_ok ok18, e0, e3, e4, e5, e6, e7, l2, ap1, l22, lt2, ll2, hsub, hgt]
    -- the handed list is spoilt
    obtain ⟨env2, h3, L, ⟨g0, g3, g4, g5, g6, g7, g10⟩, S2, o3, hS2⟩ : ∃ env2 h3, Loops Try.prog 4 plays_22 env1 h2 (.exit 3) [] env2 h3 ∧ (sv env2 0 = sv env1 0 ∧ sv env2 3 = sv env1 3 ∧ sv env2 4 = sv env1 4 ∧ sv env2 5 = sv env1 5 ∧ sv env2 6 = sv env1 6 ∧ sv env2 7 = sv env1 7 ∧ sv env2 10 = sv env1 10) ∧
        ∃ S2, Only S2 h2 h3 ∧ ∀ id ∈ S2, In vin id := by
      rcases hin with ⟨c1, c2⟩ | ⟨id, c1, c2, c3⟩
      · obtain ⟨env2, x2, q⟩ : ∃ env', runS Try.prog true plays_22 [] env1 h2 = some (.exit 3, [], env', h2) ∧ (sv env' 0 = sv env1 0 ∧ sv env' 3 = sv env1 3 ∧ sv env' 4 = sv env1 4 ∧ sv env' 5 = sv env1 5 ∧ sv env' 6 = sv env1 6 ∧ sv env' 7 = sv env1 7 ∧ sv env' 10 = sv env1 10) := by
          rw [c2] at f9
          unfold plays_22
          simp [plays_19, runS, runR, Rs.seq, Rs.block, runOps, wanted_no, wanted_sv, ev_tm, ev_vl, sv_setD, sv_set, setD_none, qev_mov, qev_bin, qev_un, qev_lenI, qev_pick, qev_load1, qev_idxSl, idx2_sl, idxA2_ptr, opt_some, bin_add, bin_sub, bin_mul, bin_lss, bin_leq, bin_gtr, bin_geq, bin_eql, bin_neq, un_not, un_neg, qev_callv, qev_new1, qev_store1, qev_nilC, nilC_ptr, qev_fld, fldA_ptr, qev_extract, nth0, nth1, nth2, qev_eqPtr, sameP_nil, notIf, f9, f11]
        exact ⟨env2, h2, .out (Dos.runExit [] (by simp) x2) (by simp), q, [], .refl _ _, by simp⟩
      · obtain ⟨env2, h3, L, q, o⟩ := wipe_loop (by omega) things.length 0 env1 h2 _ (by omega) (by simp) (c3.only o2 fun c => by have := (hSN _ c).2.1; omega) (f9.trans c2) f11
        exact ⟨env2, h3, L, q, [id], o, fun id' hid => by simp only [List.mem_singleton] at hid; subst hid; exact ⟨_, _, _, _, _, c2⟩⟩
    have hS2' : ∀ id ∈ S2, h.next.num ≤ id.num := fun id c => hinp id (hS2 id c)
    have hS2N : ∀ id ∈ S2, N ≤ id.num ∧ id ≠ ps := fun id c => by
      have := hS2' id c
      have := a.hN
      exact ⟨by omega, num_ne (by omega)⟩
    have s3 : Stp N h3 ps p v1 vl vt kind n things := s2.only o3 hS2N psv1 s.psl
    have l23 := s3.l2
    have hinv1 : ∀ id, In vin id → ¬ In v1 id := fun id c d => by
      rcases hv1' id d with q | q
      · have := (a.net.oldv q).2; have := hinp id c; omega
      · rcases hin with ⟨_, c2⟩ | ⟨id', c1, c2, c3⟩
        · rw [c2] at c; obtain ⟨_, _, _, _, _, c⟩ := c; cases c
        · have := c3.old
          rw [c2] at c
          obtain ⟨_, _, _, _, _, c⟩ := c
          cases c
          omega
    obtain ⟨vl', h4, S3, ap4, a4, o4, hS3, hv4⟩ := a1.grow net o2 hS' hv1' hr o3 (fun id c => ⟨(hS2N id c).1, fun d => by have := hS2' id c; rw [d] at this; omega, hinv1 id (hS2 id c), fun d => by have := (own_old a.own d).2; have := hS2' id c; omega⟩) s3.t
    have s4 : Stp N h4 ps p v1 vl vt kind n things := s3.only o4 (fun id c => ⟨(hS3 id c).1, fun d => s.psl (d ▸ (hS3 id c).2)⟩) psv1 s.psl
    have l24 := s4.l2
    have lt4 := SlR.lenI s4.t
    have wadd : wrapA .i64 (sent + (things.length : Int)) = sent + things.length := wrap64 (by omega) (by omega)
    obtain ⟨env3, x3, q0, q3, q4, q5, q6⟩ : ∃ env', runS Try.prog true (.seq (.region plays_23) (.seq (.region plays_24) (.seq (.region plays_25) (.cond (tm 85) (.seq (.region plays_26) .ret) .skip)))) [] env2 h3 = some (.upt [], [], env', h4) ∧ sv env' 0 = vs ∧ sv env' 3 = .ptr p 0 0 ∧ sv env' 4 = vl' ∧ sv env' 5 = int64 (sent + things.length) ∧ sv env' 6 = int64 i := by
      simp [plays_23, plays_24, plays_25, runS, runR, Rs.seq, Rs.block, runOps, wanted_no, wanted_sv, ev_tm, ev_vl, sv_setD, sv_set, setD_none, qev_mov, qev_bin, qev_load1, opt_some, bin_add, bin_neq, qev_nilC, nilC_ptr, qev_fld, fldA_ptr, g0.trans f0, g3.trans f3, g4.trans f4, g5.trans f5, g6.trans f6, g7.trans f7, g10.trans f10, l23, l24, ap4, lt4, wadd]
    exact ⟨.go, env3, h4, v1, vl', w ++ things, sent + things.length, Dos.run (M := []) _ (by intro x hx; simp at hx; subst hx; exact k) x1 (.leave (M := []) (M1 := []) (i := 3) (Dos.loop L) rfl (.more (M := []) (M1 := []) (Dos.runGo [] (by simp) x3) .nil)), .inl rfl, a4, ⟨q0, q3, q4, q5, q6⟩, by omega, by omega⟩
  · have hgt : 65536 - (w.length : Int) < (things.length : Int) := by omega
    have k := send_full a1.net t1 hw (by omega)
    have lt1 := SlR.lenI s1.t
    have ll1 := SlR.lenI a1.own.sl
    obtain ⟨env1, x1, f0, f3, f4, f5, f6⟩ : ∃ env', runS Try.prog true sw_A1 [⟨18, [.ptr p 0 0, vin], h1, int64 8, h1⟩] env h = some (.exit 2, [], env', h1) ∧ sv env' 0 = vs ∧ sv env' 3 = .ptr p 0 0 ∧ sv env' 4 = vl ∧ sv env' 5 = int64 sent ∧ sv env' 6 = int64 i := by
      unfold sw_A1
      simp [plays_12, plays_13, plays_14, plays_15, plays_16, plays_18, runS, runR, Rs.seq, Rs.block, runOps, wanted_no, wanted_sv, ev_tm, ev_vl, sv_setD, sv_set, setD_none, qev_mov, qev_bin, qev_load1, opt_some, bin_sub, bin_gtr, bin_neq, qev_callv, qev_nilC, nilC_ptr, qev_fld, fldA_ptr, callA_ok ok18, e0, e3, e4, e5, e6, e7, l2, ap1, l21, lt1, ll1, hsub, hgt]
    exact ⟨.exit 2, env1, h1, v, vl, w, sent, Dos.runExit _ (by intro x hx; simp at hx; subst hx; exact k) x1, .inr rfl, a1, ⟨f0, f3, f4, f5, f6⟩, by omega, by omega⟩
end
end Go.Proofs.Ytmifpiglcphmoaa.Plays

namespace Go.Proofs.Ytmifpiglcphmoaa.Plays
open Go Go.Proofs.Ytmifpiglcphmoaa.Am Go.Proofs

/-- One of the plain list is left out. -/
theorem cut_drawn {N : Nat} {h : Hp} {vl : AV} {w : List (List UInt8)} (ow : Own N h vl (w.map strOf)) (hw : w.length ≤ 65536) (hN : N ≤ h.next.num) {m : Nat} (hm : m < w.length) {ps : Pos} {x y : AV} (b : Arr h ps [x, int64 m, y]) {env : T AV} (s4 : sv env 4 = vl) (s7 : sv env 7 = .ptr ps 0 0) :
    ∃ env' h' vl', runDrawn Try.prog noRec plays_42 env h = some (env', h') ∧ sv env' 0 = sv env 0 ∧ sv env' 3 = sv env 3 ∧ sv env' 4 = vl' ∧ sv env' 5 = sv env 5 ∧ sv env' 6 = sv env 6 ∧ Own N h' vl' ((w.take m ++ w.drop (m + 1)).map strOf) ∧ Only [] h h' ∧ (∀ id, In vl' id → h.next.num ≤ id.num) := by
  obtain ⟨id, g, q0, hv', gro⟩ : ∃ id g, N ≤ id.num ∧ vl = .sl id g 0 w.length w.length false 1 ∧ Gro h id g (w.map strOf) := by
    rcases ow with ⟨q, _⟩ | ⟨id, g, q0, q1, q2⟩
    · simp at q; subst q; simp at hm
    · exact ⟨id, g, q0, by simpa using q1, q2⟩
  have ra := gro.part (off := 0) (n := m) (by simp; omega)
  have rb := gro.part (off := m + 1) (n := w.length - (m + 1)) (by simp; omega)
  have sa : SlR h (.sl id g 0 m w.length false 1) ((w.take m).map strOf) := .mk (by simp; omega) (by
    have e : ((w.map strOf).drop 0).take m = (w.take m).map strOf := by simp
    rw [e] at ra; exact ra)
  have sb : SlR h (.sl id g (m + 1) (w.length - (m + 1)) (w.length - (m + 1)) false 1) ((w.drop (m + 1)).map strOf) := .mk (by simp) (by
    have e : ((w.map strOf).drop (m + 1)).take (w.length - (m + 1)) = (w.drop (m + 1)).map strOf := by
      rw [List.take_of_length_le (by simp), List.map_drop]
    rw [e] at rb; exact rb)
  have w1 : wrapA .i64 ((m : Int) + 1) = (m : Int) + 1 := wrap64 (by omega) (by omega)
  have sh : ∀ env h x y, ev env x = vl → ev env y = int64 m → evalOp Try.prog (.sliceSl 1 x none (some y) none) env h = .val (.sl id g 0 m w.length false 1) h := fun env h x y hx hy => by
    have q := slice_ev Try.prog (lo := none) (hi := some y) (l := 0) (r := m) (h := h) (hx.trans hv') rfl (evO_int hy) (Nat.zero_le _) (by omega)
    simpa using q
  have sl : ∀ env h x y, ev env x = vl → ev env y = int64 ((m : Int) + 1) → evalOp Try.prog (.sliceSl 1 x (some y) none none) env h = .val (.sl id g (m + 1) (w.length - (m + 1)) (w.length - (m + 1)) false 1) h := fun env h x y hx hy => by
    have q := slice_ev Try.prog (lo := some y) (hi := none) (l := m + 1) (r := w.length) (h := h) (hx.trans hv') (evO_int (by simpa using hy)) rfl (by omega) (Nat.le_refl _)
    simpa using q
  clear ra rb gro hv'
  generalize AV.sl id g 0 m w.length false 1 = xa at *
  generalize AV.sl id g (m + 1) (w.length - (m + 1)) (w.length - (m + 1)) false 1 = xb at *
  obtain ⟨v1, h1, S1, ap1, ow1, o1, hS1, hv1⟩ := Own.push (N := h.next.num) (h := h) (v := .nilSl) (l := []) (.inl ⟨rfl, rfl⟩) Try.prog (bytes := 16) sa (strOf_atom _) (by simp; omega) (by omega) (Nat.le_refl _)
  have ap1 : ∀ env x, ev env x = xa → evalOp Try.prog (.append 1 16 (Am.vl .nilSl) x) env h = .val v1 h1 := fun env x q => ap1 env (Am.vl .nilSl) x rfl q
  have e1 : S1 = [] := by
    cases S1 with
    | nil => rfl
    | cons a l => obtain ⟨_, _, _, _, _, _, c⟩ := hS1 a (by simp); cases c
  subst e1
  rw [List.nil_append] at ow1
  have n1 := o1.next
  obtain ⟨v2, h2, S2, ap2, ow2, o2, hS2, hv2⟩ := ow1.push Try.prog (bytes := 16) (sb.more o1.more) (strOf_atom _) (by simp; omega) (by omega) n1
  rw [← List.map_append] at ow2
  have hz : ∀ hh : Hp, (⟨hh.heap, hh.next, hh.ser, hh.lim⟩ : Hp) = hh := fun _ => rfl
  have oA : Only [] h h2 := Only.weak o2 (N := h.next.num) (fun id c => (hS2 id c).1) o1 (Nat.le_refl _)
  have l1 : read1 h ps 0 1 = some (int64 m) := b.one (i := 1) (by simp)
  have l1' : read1 h1 ps 0 1 = some (int64 m) := (b.only o1 (by simp)).one (i := 1) (by simp)
  obtain ⟨env', acts, lds, e, f0, f3, f4, f5, f6⟩ : ∃ env' acts lds, runD Try.prog noRec 0 plays_42 ⟨[], [], [], h.next, env, h⟩ = some ⟨acts, lds, [], h.next, env', h2⟩ ∧ sv env' 0 = sv env 0 ∧ sv env' 3 = sv env 3 ∧ sv env' 4 = v2 ∧ sv env' 5 = sv env 5 ∧ sv env' 6 = sv env 6 := by
    simp [plays_42, runD, stepD, actO, kindOf, lookBack, lookAgain, putT, remAl, bit, eqAV_int8, wanted_no, ev_tm, ev_vl, sv_setD, setD_none, qev_mov, qev_bin, bin_add, opt_some, qev_load1, qev_nilC, nilC_ptr, qev_fld, fldA_ptr, s4, s7, l1, l1', sh, sl, ap1, ap2, w1, insT, hz]
  refine ⟨env', h2, v2, runDrawn_of (acts := acts) (lds := lds) (by simp [plays_42, skipIds, isAlloc, kindOf]) e, f0, f3, f4, f5, f6, ?_, oA, fun id ⟨g, off, n, cap, ex, q⟩ => (ow2.old _ _ _ _ _ _ q).1⟩
  rcases ow2 with q | ⟨id', g', k1, k2, k3⟩
  · exact .inl q
  · exact .inr ⟨id', g', by omega, k2, k3⟩

section
variable {N : Nat} {h0 h : Hp} {p : Pos} {v vl : AV} {w : List (List UInt8)} {sent : Int} {env : T AV} {vs vt : AV} {ps : Pos} {i n kind : Int} {things : List (List UInt8)}

/-- Take, Lose and At, where there is none. -/
theorem case2_none (a : At N h0 h p v vl w sent) (e : En env vs p vl sent i) (s : Stp N h ps p v vl vt kind n things) (e7 : sv env 7 = .ptr ps 0 0) (e8 : sv env 8 = .bool false) (hk : kind = 2 ∨ kind = 4 ∨ kind = 6) (ht : n < 0 ∨ (w.length : Int) ≤ n) : Outc N h0 p vs i sent sw_A2 env h := by
  obtain ⟨e0, e3, e4, e5, e6⟩ := e
  have l0 := s.l0
  have l1 := s.l1
  have ns : binA .neq .other true (.str 0 0) (.str 0 0) = some (.bool false) := by simpa [strOf_nil] using bin_neqS .other true [] []
  have k1 := take_none a.net ht
  have k2 := lose_of k1
  have k3 := at_none a.net ht
  obtain ⟨env', A, hA, x, f0, f3, f4, f5, f6⟩ : ∃ env' A, (∀ a ∈ A, AmFn Try.prog a.f a.args a.h a.v a.h') ∧ runS Try.prog true sw_A2 A env h = some (.exit 2, [], env', h) ∧ sv env' 0 = vs ∧ sv env' 3 = .ptr p 0 0 ∧ sv env' 4 = vl ∧ sv env' 5 = int64 sent ∧ sv env' 6 = int64 i := by
    rcases hk with hk | hk | hk
    · subst hk
      obtain ⟨env', q⟩ : ∃ env', runS Try.prog true sw_A2 [⟨19, [.ptr p 0 0, int64 n], h, .tup [.str 0 0, int64 350], h⟩] env h = some (.exit 2, [], env', h) ∧ sv env' 0 = vs ∧ sv env' 3 = .ptr p 0 0 ∧ sv env' 4 = vl ∧ sv env' 5 = int64 sent ∧ sv env' 6 = int64 i := by
        unfold sw_A2
        simp [plays_30, plays_31, plays_32, plays_36, plays_37, runS, runR, Rs.seq, Rs.block, runOps, wanted_no, wanted_sv, ev_tm, ev_vl, sv_setD, sv_set, setD_none, qev_mov, qev_bin, qev_un, qev_lenI, qev_pick, qev_load1, qev_idxSl, idx2_sl, idxA2_ptr, opt_some, bin_add, bin_sub, bin_mul, bin_lss, bin_leq, bin_gtr, bin_geq, bin_eql, bin_neq, un_not, un_neg, qev_callv, qev_new1, qev_store1, qev_nilC, nilC_ptr, qev_fld, fldA_ptr, qev_extract, nth0, nth1, nth2, qev_eqPtr, sameP_nil, notIf, wanted_sv, callA_ok ok19, e0, e3, e4, e5, e6, e7, e8, l0, l1, ns]
      exact ⟨env', _, by intro x hx; simp at hx; subst hx; exact k1, q⟩
    · subst hk
      obtain ⟨env', q⟩ : ∃ env', runS Try.prog true sw_A2 [⟨20, [.ptr p 0 0, int64 n], h, int64 350, h⟩] env h = some (.exit 2, [], env', h) ∧ sv env' 0 = vs ∧ sv env' 3 = .ptr p 0 0 ∧ sv env' 4 = vl ∧ sv env' 5 = int64 sent ∧ sv env' 6 = int64 i := by
        unfold sw_A2
        simp [plays_30, plays_31, plays_33, plays_34, plays_36, plays_37, runS, runR, Rs.seq, Rs.block, runOps, wanted_no, wanted_sv, ev_tm, ev_vl, sv_setD, sv_set, setD_none, qev_mov, qev_bin, qev_un, qev_lenI, qev_pick, qev_load1, qev_idxSl, idx2_sl, idxA2_ptr, opt_some, bin_add, bin_sub, bin_mul, bin_lss, bin_leq, bin_gtr, bin_geq, bin_eql, bin_neq, un_not, un_neg, qev_callv, qev_new1, qev_store1, qev_nilC, nilC_ptr, qev_fld, fldA_ptr, qev_extract, nth0, nth1, nth2, qev_eqPtr, sameP_nil, notIf, wanted_sv, callA_ok ok20, e0, e3, e4, e5, e6, e7, e8, l0, l1, ns]
      exact ⟨env', _, by intro x hx; simp at hx; subst hx; exact k2, q⟩
    · subst hk
      obtain ⟨env', q⟩ : ∃ env', runS Try.prog true sw_A2 [⟨21, [.ptr p 0 0, int64 n], h, .tup [.str 0 0, int64 350], h⟩] env h = some (.exit 2, [], env', h) ∧ sv env' 0 = vs ∧ sv env' 3 = .ptr p 0 0 ∧ sv env' 4 = vl ∧ sv env' 5 = int64 sent ∧ sv env' 6 = int64 i := by
        unfold sw_A2
        simp [plays_30, plays_31, plays_33, plays_35, plays_36, plays_37, runS, runR, Rs.seq, Rs.block, runOps, wanted_no, wanted_sv, ev_tm, ev_vl, sv_setD, sv_set, setD_none, qev_mov, qev_bin, qev_un, qev_lenI, qev_pick, qev_load1, qev_idxSl, idx2_sl, idxA2_ptr, opt_some, bin_add, bin_sub, bin_mul, bin_lss, bin_leq, bin_gtr, bin_geq, bin_eql, bin_neq, un_not, un_neg, qev_callv, qev_new1, qev_store1, qev_nilC, nilC_ptr, qev_fld, fldA_ptr, qev_extract, nth0, nth1, nth2, qev_eqPtr, sameP_nil, notIf, wanted_sv, callA_ok ok21, e0, e3, e4, e5, e6, e7, e8, l0, l1, ns]
      exact ⟨env', _, by intro x hx; simp at hx; subst hx; exact k3, q⟩
  exact ⟨.exit 2, env', h, v, vl, w, sent, Dos.runExit _ hA x, .inr rfl, a, ⟨f0, f3, f4, f5, f6⟩, by omega, by omega⟩

/-- Take, Lose and At, where there is one. -/
theorem case2_there (a : At N h0 h p v vl w sent) (e : En env vs p vl sent i) {m : Nat} (s : Stp N h ps p v vl vt kind (m : Int) things) (e7 : sv env 7 = .ptr ps 0 0) (e8 : sv env 8 = .bool true) (hk : kind = 2 ∨ kind = 4 ∨ kind = 6) (hm : m < w.length) : Outc N h0 p vs i sent sw_A2 env h := by
  obtain ⟨e0, e3, e4, e5, e6⟩ := e
  have hw := a.hw
  have l0 := s.l0
  have l1 := s.l1
  have hN := a.hN
  by_cases h6 : kind = 6
  · subst h6
    have k3 := at_fn a.net hm (by omega)
    obtain ⟨id, g, off, cap, ex, hv', row⟩ := a.own.sl.sl_or (x := strOf w[m]) (List.mem_map.2 ⟨w[m], List.getElem_mem hm, rfl⟩)
    have hone := row.one m (by simpa using hm)
    simp [List.getElem?_eq_getElem hm] at hone
    have hv2 : vl = .sl id g off w.length cap ex 1 := by simpa using hv'
    obtain ⟨env', x, f0, f3, f4, f5, f6⟩ : ∃ env', runS Try.prog true sw_A2 [⟨21, [.ptr p 0 0, int64 m], h, .tup [strOf w[m], int64 0], h⟩] env h = some (.upt [], [], env', h) ∧ sv env' 0 = vs ∧ sv env' 3 = .ptr p 0 0 ∧ sv env' 4 = vl ∧ sv env' 5 = int64 sent ∧ sv env' 6 = int64 i := by
      rw [hv2] at e4 ⊢
      unfold sw_A2
      simp [plays_30, plays_31, plays_33, plays_35, plays_36, plays_39, plays_41, runS, runR, Rs.seq, Rs.block, runOps, wanted_no, wanted_sv, ev_tm, ev_vl, sv_setD, sv_set, setD_none, qev_mov, qev_bin, qev_un, qev_lenI, qev_pick, qev_load1, qev_idxSl, idx2_sl, idxA2_ptr, opt_some, bin_add, bin_sub, bin_mul, bin_lss, bin_leq, bin_gtr, bin_geq, bin_eql, bin_neq, un_not, un_neg, qev_callv, qev_new1, qev_store1, qev_nilC, nilC_ptr, qev_fld, fldA_ptr, qev_extract, nth0, nth1, nth2, qev_eqPtr, sameP_nil, notIf, wanted_sv, callA_ok ok21, e0, e3, e4, e5, e6, e7, e8, l0, l1, hm, hone, bin_neqS]
    exact ⟨.go, env', h, v, vl, w, sent, Dos.runGo _ (by intro x hx; simp at hx; subst hx; exact k3) x, .inl rfl, a, ⟨f0, f3, f4, f5, f6⟩, by omega, by omega⟩
  · obtain ⟨v1, h1, k1, net, o1, hv1⟩ := take_fn a.net hm (by omega)
    have k2 := lose_of k1
    have hv1' : ∀ id, In v1 id → h.next.num ≤ id.num := fun id ⟨g, off, n, cap, ex, q⟩ => hv1 id g off n cap ex q
    have ow1 : Own N h1 vl (w.map strOf) := own_only a.own o1 fun id q c => by simp only [List.mem_singleton] at c; subst c; exact a.nevp q
    have b1 : Arr h1 ps [int64 kind, int64 m, vt] := s.b.only o1 (by simpa using s.psp)
    have l01 : read1 h1 ps 0 0 = some (int64 kind) := b1.one (i := 0) (by simp)
    have l11 : read1 h1 ps 0 1 = some (int64 m) := b1.one (i := 1) (by simp)
    have n1 := o1.next
    obtain ⟨id, g, off, cap, ex, hv', row⟩ := ow1.sl.sl_or (x := strOf w[m]) (List.mem_map.2 ⟨w[m], List.getElem_mem hm, rfl⟩)
    have hone := row.one m (by simpa using hm)
    simp [List.getElem?_eq_getElem hm] at hone
    have hv2 : vl = .sl id g off w.length cap ex 1 := by simpa using hv'
    obtain ⟨env1, A, hA, x, f0, f3, f4, f5, f6, f7⟩ : ∃ env' A, (∀ a ∈ A, AmFn Try.prog a.f a.args a.h a.v a.h') ∧ runS Try.prog false sw_A2 A env h = some (.upt [.code (.drawn plays_42)], [], env', h1) ∧ sv env' 0 = vs ∧ sv env' 3 = .ptr p 0 0 ∧ sv env' 4 = vl ∧ sv env' 5 = int64 sent ∧ sv env' 6 = int64 i ∧ sv env' 7 = .ptr ps 0 0 := by
      have hk' : kind = 2 ∨ kind = 4 := by omega
      rcases hk' with hk | hk
      · subst hk
        obtain ⟨env', q⟩ : ∃ env', runS Try.prog false sw_A2 [⟨19, [.ptr p 0 0, int64 m], h, .tup [strOf w[m], int64 0], h1⟩] env h = some (.upt [.code (.drawn plays_42)], [], env', h1) ∧ sv env' 0 = vs ∧ sv env' 3 = .ptr p 0 0 ∧ sv env' 4 = vl ∧ sv env' 5 = int64 sent ∧ sv env' 6 = int64 i ∧ sv env' 7 = .ptr ps 0 0 := by
          rw [hv2] at e4 ⊢
          unfold sw_A2
          simp [plays_30, plays_31, plays_32, plays_36, plays_39, plays_41, runS, runR, Rs.seq, Rs.block, runOps, wanted_no, wanted_sv, ev_tm, ev_vl, sv_setD, sv_set, setD_none, qev_mov, qev_bin, qev_un, qev_lenI, qev_pick, qev_load1, qev_idxSl, idx2_sl, idxA2_ptr, opt_some, bin_add, bin_sub, bin_mul, bin_lss, bin_leq, bin_gtr, bin_geq, bin_eql, bin_neq, un_not, un_neg, qev_callv, qev_new1, qev_store1, qev_nilC, nilC_ptr, qev_fld, fldA_ptr, qev_extract, nth0, nth1, nth2, qev_eqPtr, sameP_nil, notIf, wanted_sv, callA_ok ok19, e0, e3, e4, e5, e6, e7, e8, l0, l1, l01, l11, hm, hone, bin_neqS]
        exact ⟨env', _, by intro x hx; simp at hx; subst hx; exact k1, q⟩
      · subst hk
        obtain ⟨env', q⟩ : ∃ env', runS Try.prog false sw_A2 [⟨20, [.ptr p 0 0, int64 m], h, int64 0, h1⟩] env h = some (.upt [.code (.drawn plays_42)], [], env', h1) ∧ sv env' 0 = vs ∧ sv env' 3 = .ptr p 0 0 ∧ sv env' 4 = vl ∧ sv env' 5 = int64 sent ∧ sv env' 6 = int64 i ∧ sv env' 7 = .ptr ps 0 0 := by
          rw [hv2] at e4 ⊢
          unfold sw_A2
          simp [plays_30, plays_31, plays_33, plays_34, plays_36, plays_39, plays_41, runS, runR, Rs.seq, Rs.block, runOps, wanted_no, wanted_sv, ev_tm, ev_vl, sv_setD, sv_set, setD_none, qev_mov, qev_bin, qev_un, qev_lenI, qev_pick, qev_load1, qev_idxSl, idx2_sl, idxA2_ptr, opt_some, bin_add, bin_sub, bin_mul, bin_lss, bin_leq, bin_gtr, bin_geq, bin_eql, bin_neq, un_not, un_neg, qev_callv, qev_new1, qev_store1, qev_nilC, nilC_ptr, qev_fld, fldA_ptr, qev_extract, nth0, nth1, nth2, qev_eqPtr, sameP_nil, notIf, wanted_sv, callA_ok ok20, e0, e3, e4, e5, e6, e7, e8, l0, l1, l01, l11, hm, hone, bin_neqS]
        exact ⟨env', _, by intro x hx; simp at hx; subst hx; exact k2, q⟩
    obtain ⟨env2, h2, vl', d, g0, g3, g4, g5, g6, ow2, o2, hv3⟩ := cut_drawn ow1 hw (by omega) hm b1 f4 f7
    have net2 := net.more o2
    refine ⟨.go, env2, h2, v1, vl', _, sent, Dos.run (M := []) _ hA x (.more (M := []) (M1 := []) (Dos.drawn (noRec_sound _) d) .nil), .inl rfl, ⟨net2, ow2, fun id q c => ?_, fun c => ?_, ?_, a.nN, ?_⟩, ⟨g0.trans f0, g3.trans f3, g4, g5.trans f5, g6.trans f6⟩, by omega, by omega⟩
    · have := hv3 _ c; have := (net.oldv q).2; omega
    · have := hv3 _ c; have := net.st.old; omega
    · exact (Only.weakN o1 (fun id c => by simp only [List.mem_singleton] at c; subst c; exact a.net.pN) a.start a.nN).trans o2
    · simp only [List.length_append, List.length_take, List.length_drop]; omega

/-- Take, Lose and At. -/
theorem case2 (a : At N h0 h p v vl w sent) (e : En env vs p vl sent i) (s : Stp N h ps p v vl vt kind n things) (e7 : sv env 7 = .ptr ps 0 0) (e8 : sv env 8 = .bool (decide (0 ≤ n ∧ n < (w.length : Int)))) (hk : kind = 2 ∨ kind = 4 ∨ kind = 6) : Outc N h0 p vs i sent sw_A2 env h := by
  by_cases ht : 0 ≤ n ∧ n < (w.length : Int)
  · rw [decide_eq_true ht] at e8
    obtain ⟨m, rfl⟩ : ∃ m : Nat, n = m := ⟨n.toNat, by omega⟩
    exact case2_there a e s e7 e8 hk (by omega)
  · rw [decide_eq_false ht] at e8
    exact case2_none a e s e7 e8 hk (by omega)
end
end Go.Proofs.Ytmifpiglcphmoaa.Plays

namespace Go.Proofs.Ytmifpiglcphmoaa.Plays
open Go Go.Proofs.Ytmifpiglcphmoaa.Am Go.Proofs

/-- The longer ones of the plain list. -/
theorem rest_loop {N : Nat} {h1 : Hp} {ps : Pos} {a c vl : AV} {n : Int} {w : List (List UInt8)} (b : Arr h1 ps [a, int64 n, c]) (hc : SlR h1 vl (w.map strOf)) (hw : w.length ≤ 65536) (hN : N = h1.next.num) :
    ∀ (m i : Nat) (env : T AV) (h : Hp) (vk : AV), i + m = w.length → Only [] h1 h → Own N h vk ((longer n (w.take i)).map strOf) →
      sv env 4 = vl → sv env 7 = .ptr ps 0 0 → sv env 16 = vk → sv env 17 = int64 i →
      ∃ env' h' vk', Loops Try.prog 4 plays_58 env h (.exit 5) [] env' h' ∧ Only [] h1 h' ∧ Own N h' vk' ((longer n w).map strOf) ∧ sv env' 0 = sv env 0 ∧ sv env' 3 = sv env 3 ∧ sv env' 4 = vl ∧ sv env' 5 = sv env 5 ∧ sv env' 6 = sv env 6 ∧ sv env' 15 = sv env 15 ∧ sv env' 16 = vk' := by
  intro m
  induction m with
  | zero =>
    intro i env h vk hi o ow s4 s7 s16 s17
    have : i = w.length := by omega
    subst this
    rw [List.take_length] at ow
    have hl := SlR.lenI (hc.more o.more)
    obtain ⟨env1, e1, f⟩ : ∃ env', runS Try.prog true plays_58 [] env h = some (.exit 5, [], env', h) ∧ sv env' 0 = sv env 0 ∧ sv env' 3 = sv env 3 ∧ sv env' 4 = vl ∧ sv env' 5 = sv env 5 ∧ sv env' 6 = sv env 6 ∧ sv env' 15 = sv env 15 ∧ sv env' 16 = vk := by
      unfold plays_58
      simp [plays_54, runS, runR, Rs.seq, Rs.block, runOps, wanted_no, ev_tm, ev_vl, sv_setD, qev_mov, qev_bin, bin_lss, opt_some, hl, s4, s7, s16, s17]
    exact ⟨env1, h, vk, .out (Dos.runExit [] (by simp) e1) (by simp), o, ow, f⟩
  | succ m ih =>
    intro i env h vk hi o ow s4 s7 s16 s17
    have hil : i < w.length := by omega
    have hlt : (i : Int) < w.length := by omega
    have hl := SlR.lenI (hc.more o.more)
    obtain ⟨id, g, off, cap, ex, hv, row⟩ := (hc.more o.more).sl_or (x := strOf w[i]) (List.mem_map.2 ⟨w[i], List.getElem_mem hil, rfl⟩)
    have hone := row.one i (by simpa using hil)
    simp [List.getElem?_eq_getElem hil] at hone
    have hv' : vl = .sl id g off w.length cap ex 1 := by simpa using hv
    have w1 : wrapA .i64 ((i : Int) + 1) = (i : Int) + 1 := wrap64 (by omega) (by omega)
    have l1 : read1 h ps 0 1 = some (int64 n) := (b.only o (by simp)).one (i := 1) (by simp)
    have htk : w.take (i + 1) = w.take i ++ [w[i]] := by rw [List.take_add_one, List.getElem?_eq_getElem hil]; rfl
    -- what the round asks
    obtain ⟨env1, e1, f0, f3, f4, f5, f6, f7, f15, f16, f17⟩ : ∃ env', runS Try.prog false plays_58 [] env h = some (.upt [.code (.drawn plays_55), .code (.cond (tm 205) (.region plays_56) .skip), .inBlock 6, .code (.region plays_57)], [], env', h) ∧ sv env' 0 = sv env 0 ∧ sv env' 3 = sv env 3 ∧ sv env' 4 = vl ∧ sv env' 5 = sv env 5 ∧ sv env' 6 = sv env 6 ∧ sv env' 7 = .ptr ps 0 0 ∧ sv env' 15 = sv env 15 ∧ sv env' 16 = vk ∧ sv env' 17 = int64 i := by
      unfold plays_58
      simp [plays_54, runS, runR, Rs.seq, Rs.block, runOps, wanted_no, ev_tm, ev_vl, sv_setD, qev_mov, qev_bin, bin_lss, opt_some, hl, hil, s4, s7, s16, s17]
    obtain ⟨env2, acts, lds, e2, k0, k3, k4, k5, k6, k7, k15, k16, k17, k205⟩ : ∃ env' acts lds, runD Try.prog noRec 0 plays_55 ⟨[], [], [], h.next, env1, h⟩ = some ⟨acts, lds, [], h.next, env', h⟩ ∧ sv env' 0 = sv env 0 ∧ sv env' 3 = sv env 3 ∧ sv env' 4 = vl ∧ sv env' 5 = sv env 5 ∧ sv env' 6 = sv env 6 ∧ sv env' 7 = .ptr ps 0 0 ∧ sv env' 15 = sv env 15 ∧ sv env' 16 = vk ∧ sv env' 17 = int64 i ∧ sv env' 205 = .bool (decide (n < (w[i].length : Int))) := by
      rw [hv'] at f4 ⊢
      unfold strOf at hone
      simp [plays_55, runD, stepD, kindOf, lookBack, runOps, wanted_no, wanted_sv, ev_tm, ev_vl, sv_setD, sv_set, setD_none, qev_mov, qev_bin, qev_un, qev_lenI, qev_pick, qev_load1, qev_idxSl, idx2_sl, idxA2_ptr, opt_some, bin_add, bin_sub, bin_mul, bin_lss, bin_leq, bin_gtr, bin_geq, bin_eql, bin_neq, un_not, un_neg, qev_callv, qev_new1, qev_store1, qev_nilC, nilC_ptr, qev_fld, fldA_ptr, qev_extract, nth0, nth1, nth2, qev_eqPtr, sameP_nil, notIf, qev_lenS, f0, f3, f4, f5, f6, f7, f15, f16, f17, hil, hone, l1]
    have d2 := runDrawn_of (acts := acts) (lds := lds) (by simp [plays_55, skipIds, isAlloc, kindOf]) e2
    obtain ⟨env3, h3, vk', d3, o3, ow3, q0, q3, q4, q5, q6, q7, q15, q16, q17⟩ : ∃ env' h3 vk', Dos Try.prog 4 (.cond (tm 205) (.region plays_56) .skip) env2 h .go [] env' h3 ∧ Only [] h1 h3 ∧ Own N h3 vk' ((longer n (w.take (i + 1))).map strOf) ∧
        sv env' 0 = sv env 0 ∧ sv env' 3 = sv env 3 ∧ sv env' 4 = vl ∧ sv env' 5 = sv env 5 ∧ sv env' 6 = sv env 6 ∧ sv env' 7 = .ptr ps 0 0 ∧ sv env' 15 = sv env 15 ∧ sv env' 16 = vk' ∧ sv env' 17 = int64 i := by
      by_cases hb : n < (w[i].length : Int)
      · rw [decide_eq_true hb] at k205
        obtain ⟨h2, b1, b2, b3, b4⟩ := build1' Try.prog h (.str 0 0) (strOf w[i]) rfl
        have hle := longer_len n (w.take i)
        rw [List.length_take] at hle
        obtain ⟨vk', h3, S, ap, ow', o3, hS, hv3⟩ := (ow.more b3).push Try.prog (bytes := 16) (l2 := [w[i]].map strOf) b2 (strOf_atom _) (by simp; omega) (by omega) (by have := o.next; have := b3.next; omega)
        obtain ⟨env3, e3, q⟩ : ∃ env', runS Try.prog true (.cond (tm 205) (.region plays_56) .skip) [] env2 h = some (.upt [], [], env', h3) ∧
            sv env' 0 = sv env 0 ∧ sv env' 3 = sv env 3 ∧ sv env' 4 = vl ∧ sv env' 5 = sv env 5 ∧ sv env' 6 = sv env 6 ∧ sv env' 7 = .ptr ps 0 0 ∧ sv env' 15 = sv env 15 ∧ sv env' 16 = vk' ∧ sv env' 17 = int64 i := by
          rw [hv'] at k4 ⊢
          simp [plays_56, runS, runR, Rs.seq, Rs.block, runOps, wanted_no, wanted_sv, ev_tm, ev_vl, sv_setD, sv_set, setD_none, qev_mov, qev_bin, qev_un, qev_lenI, qev_pick, qev_load1, qev_idxSl, idx2_sl, idxA2_ptr, opt_some, bin_add, bin_sub, bin_mul, bin_lss, bin_leq, bin_gtr, bin_geq, bin_eql, bin_neq, un_not, un_neg, qev_callv, qev_new1, qev_store1, qev_nilC, nilC_ptr, qev_fld, fldA_ptr, qev_extract, nth0, nth1, nth2, qev_eqPtr, sameP_nil, notIf, k0, k3, k4, k5, k6, k7, k15, k16, k17, k205, hil, hone, b1, ap]
        rw [List.map_cons, List.map_nil, ← List.map_singleton, ← List.map_append, ← (show longer n (w.take (i + 1)) = longer n (w.take i) ++ [w[i]] by rw [htk, longer_snoc, if_pos hb])] at ow'
        exact ⟨env3, h3, vk', Dos.runGo [] (by simp) e3, (((o.trans b3).mono (S' := S) (by simp)).trans o3).mono fun id hid => .inr (by have := (hS id hid).1; omega), ow', q⟩
      · rw [decide_eq_false hb] at k205
        obtain ⟨env3, e3, q⟩ : ∃ env', runS Try.prog true (.cond (tm 205) (.region plays_56) .skip) [] env2 h = some (.upt [], [], env', h) ∧
            sv env' 0 = sv env 0 ∧ sv env' 3 = sv env 3 ∧ sv env' 4 = vl ∧ sv env' 5 = sv env 5 ∧ sv env' 6 = sv env 6 ∧ sv env' 7 = .ptr ps 0 0 ∧ sv env' 15 = sv env 15 ∧ sv env' 16 = vk ∧ sv env' 17 = int64 i := by
          simp [runS, runR, Rs.seq, Rs.block, ev_tm, k0, k3, k4, k5, k6, k7, k15, k16, k17, k205]
        have el : longer n (w.take (i + 1)) = longer n (w.take i) := by rw [htk, longer_snoc, if_neg hb]
        exact ⟨env3, h, vk, Dos.runGo [] (by simp) e3, o, by rw [el]; exact ow, q⟩
    obtain ⟨env4, e4, t0, t3, t4, t5, t6, t7, t15, t16, t17⟩ : ∃ env', runS Try.prog true (.region plays_57) [] env3 h3 = some (.upt [], [], env', h3) ∧
        sv env' 0 = sv env 0 ∧ sv env' 3 = sv env 3 ∧ sv env' 4 = vl ∧ sv env' 5 = sv env 5 ∧ sv env' 6 = sv env 6 ∧ sv env' 7 = .ptr ps 0 0 ∧ sv env' 15 = sv env 15 ∧ sv env' 16 = vk' ∧ sv env' 17 = int64 ((i + 1 : Nat) : Int) := by
      simp [plays_57, runS, runR, Rs.seq, Rs.block, runOps, wanted_no, wanted_sv, ev_tm, ev_vl, sv_setD, sv_set, setD_none, qev_mov, qev_bin, qev_un, qev_lenI, qev_pick, qev_load1, qev_idxSl, idx2_sl, idxA2_ptr, opt_some, bin_add, bin_sub, bin_mul, bin_lss, bin_leq, bin_gtr, bin_geq, bin_eql, bin_neq, un_not, un_neg, qev_callv, qev_new1, qev_store1, qev_nilC, nilC_ptr, qev_fld, fldA_ptr, qev_extract, nth0, nth1, nth2, qev_eqPtr, sameP_nil, notIf, q0, q3, q4, q5, q6, q7, q15, q16, q17, w1]
    obtain ⟨env', h', vk2, L, r1, r2, r0, r3, r4, r5, r6, r15, r16⟩ := ih (i + 1) env4 h3 vk' (by omega) o3 ow3 t4 t7 t16 t17
    exact ⟨env', h', vk2, .more (M := []) (M1 := []) (Dos.run (M := []) [] (by simp) e1 (.more (M := []) (M1 := []) (Dos.drawn (noRec_sound _) d2) (.more (M := []) (M1 := []) d3 (.inBlock (.more (M := []) (M1 := []) (Dos.runGo [] (by simp) e4) .nil))))) L, r1, r2, r0.trans t0, r3.trans t3, r4, r5.trans t5, r6.trans t6, r15.trans t15, r16⟩

section
variable {N : Nat} {h0 h : Hp} {p : Pos} {v vl : AV} {w : List (List UInt8)} {sent : Int} {env : T AV} {vs vt : AV} {ps : Pos} {i n kind : Int} {things : List (List UInt8)}

/-- Keep. -/
theorem case5 (a : At N h0 h p v vl w sent) (e : En env vs p vl sent i) (s : Stp N h ps p v vl vt kind n things) (e7 : sv env 7 = .ptr ps 0 0) : Outc N h0 p vs i sent sw_A5 env h := by
  obtain ⟨e0, e3, e4, e5, e6⟩ := e
  have hw := a.hw
  obtain ⟨v1, h1, k, net, o1, hv1⟩ := keep_fn a.net hw a.hN s.b s.psp
  have hv1' : ∀ id, In v1 id → h.next.num ≤ id.num := fun id ⟨g, off, n, cap, ex, q⟩ => hv1 id g off n cap ex q
  have ow1 : Own N h1 vl (w.map strOf) := own_only a.own o1 fun id q c => by simp only [List.mem_singleton] at c; subst c; exact a.nevp q
  have b1 : Arr h1 ps [int64 kind, int64 n, vt] := s.b.only o1 (by simpa using s.psp)
  have n1 := o1.next
  have hle := longer_len n w
  obtain ⟨env1, x1, f0, f3, f4, f5, f6, f7, f15, f16, f17⟩ : ∃ env', runS Try.prog true sw_A5 [⟨23, [.ptr p 0 0, .fn (.func 24) [] [.ptr ps 0 0]], h, int64 ((w.length : Int) - (longer n w).length), h1⟩] env h =
      some (.upt [.code (.loop plays_58), .inBlock 5, .code (.seq (.seq (.region plays_59) (.cond (tm 219) (.seq (.region plays_60) .ret) .skip)) (.region plays_61))], [], env', h1) ∧
      sv env' 0 = vs ∧ sv env' 3 = .ptr p 0 0 ∧ sv env' 4 = vl ∧ sv env' 5 = int64 sent ∧ sv env' 6 = int64 i ∧ sv env' 7 = .ptr ps 0 0 ∧ sv env' 15 = int64 ((w.length : Int) - (longer n w).length) ∧ sv env' 16 = .nilSl ∧ sv env' 17 = int64 ((0 : Nat) : Int) := by
    unfold sw_A5
    simp [plays_51, plays_52, plays_53, runS, runR, Rs.seq, Rs.block, runOps, wanted_no, wanted_sv, ev_tm, ev_vl, sv_setD, sv_set, setD_none, qev_mov, qev_bin, qev_un, qev_lenI, qev_pick, qev_load1, qev_idxSl, idx2_sl, idxA2_ptr, opt_some, bin_add, bin_sub, bin_mul, bin_lss, bin_leq, bin_gtr, bin_geq, bin_eql, bin_neq, un_not, un_neg, qev_callv, qev_new1, qev_store1, qev_nilC, nilC_ptr, qev_fld, fldA_ptr, qev_extract, nth0, nth1, nth2, qev_eqPtr, sameP_nil, notIf, qev_mkFn, callA_ok ok23, e0, e3, e4, e5, e6, e7]
  obtain ⟨env2, h2, vk, L, o2, ow2, g0, g3, g4, g5, g6, g15, g16⟩ := rest_loop b1 ow1.sl hw rfl w.length 0 env1 h1 .nilSl (by omega) (.refl _ _) (.inl ⟨rfl, rfl⟩) f4 f7 f16 f17
  have l4 := SlR.lenI (ow1.more o2).sl
  have l16 := SlR.lenI ow2.sl
  have ws : wrapA .i64 ((w.length : Int) - (longer n w).length) = (w.length : Int) - (longer n w).length := wrap64 (by omega) (by omega)
  obtain ⟨env3, x3, q0, q3, q4, q5, q6⟩ : ∃ env', runS Try.prog true (.seq (.seq (.region plays_59) (.cond (tm 219) (.seq (.region plays_60) .ret) .skip)) (.region plays_61)) [] env2 h2 = some (.upt [], [], env', h2) ∧ sv env' 0 = vs ∧ sv env' 3 = .ptr p 0 0 ∧ sv env' 4 = vk ∧ sv env' 5 = int64 sent ∧ sv env' 6 = int64 i := by
    simp [plays_59, plays_61, runS, runR, Rs.seq, Rs.block, runOps, wanted_no, wanted_sv, ev_tm, ev_vl, sv_setD, sv_set, setD_none, qev_mov, qev_bin, opt_some, bin_sub, bin_neq, g0.trans f0, g3.trans f3, g4, g5.trans f5, g6.trans f6, g15.trans f15, g16, l4, l16, ws]
  have vkn : ∀ id, In vk id → h1.next.num ≤ id.num := fun id c => (own_old ow2 c).1
  refine ⟨.go, env3, h2, v1, vk, longer n w, sent, Dos.run (M := []) _ (by intro x hx; simp at hx; subst hx; exact k) x1 (.leave (M := []) (M1 := []) (i := 5) (Dos.loop L) rfl (.more (M := []) (M1 := []) (Dos.runGo [] (by simp) x3) .nil)), .inl rfl,
    ⟨net.more o2, ?_, fun id q c => ?_, fun c => ?_, ?_, a.nN, by omega⟩, ⟨q0, q3, q4, q5, q6⟩, by omega, by omega⟩
  · rcases ow2 with q | ⟨id, g, k1, k2, k3⟩
    · exact .inl q
    · exact .inr ⟨id, g, by have := a.hN; omega, k2, k3⟩
  · have := vkn _ c; have := (net.oldv q).2; omega
  · have := vkn _ c; have := net.st.old; omega
  · exact (Only.weakN o1 (fun id c => by simp only [List.mem_singleton] at c; subst c; exact a.net.pN) a.start a.nN).trans o2

/-- Copy. -/
theorem case8 (a : At N h0 h p v vl w sent) (e : En env vs p vl sent i) (hs : 0 ≤ sent ∧ sent < 1000000000) : Outc N h0 p vs i sent sw_A8 env h := by
  obtain ⟨e0, e3, e4, e5, e6⟩ := e
  have hw := a.hw
  obtain ⟨q, v1, h1, k1, net1, o1⟩ := copy_fn a.net hw
  obtain ⟨h2, b1, b2, b3, b4⟩ := build1' Try.prog h1 (.str 0 0) (.str 4 1836020325) rfl
  have hstr : (AV.str 4 1836020325) = strOf [109, 111, 114, 101] := by kernel_rfl
  have net2 := net1.more b3
  have n1 := o1.next
  have hl1 := SlR.lenI (a.own.more o1).sl
  have l4 : ∀ h', Only [] h h' → ∀ env x, ev env x = vl → evalOp Try.prog (.lenL x) env h' = .val (int64 w.length) h' := fun h' o => SlR.lenI (a.own.more o).sl
  have wadd : wrapA .i64 ((w.length : Int) + 1) = (w.length : Int) + 1 := wrap64 (by omega) (by omega)
  -- the copy goes on apart
  have hmore : ∀ id g off n cap ex, (AV.sl h1.next 0 0 1 1 true 1) = .sl id g off n cap ex 1 → id ≠ q ∧ ∀ g' off' n' cap' ex', v1 ≠ .sl id g' off' n' cap' ex' 1 := fun id g off n cap ex c => by
    cases c
    refine ⟨fun c => by have := net1.st.old; rw [c] at this; omega, fun g' off' n' cap' ex' c => ?_⟩
    have := (net1.oldv (id := h1.next) ⟨g', off', n', cap', ex', c⟩).2
    omega
  have hz : ([[109, 111, 114, 101]] : List (List UInt8)).map strOf = [AV.str 4 1836020325] := by rw [hstr]; rfl
  obtain ⟨e, w2, v3, s3, h3, k2, net3, o3, he⟩ : ∃ (e : Int) (w2 : List (List UInt8)) (v3 : AV) (s3 : Int) (h3 : Hp), AmFn Try.prog 18 [.ptr q 0 0, .sl h1.next 0 0 1 1 true 1] h2 (int64 e) h3 ∧ NetAt h.next.num h3 q v3 w2 s3 ∧ Only [] h h3 ∧ ((w.length < 65536 ∧ e = 0 ∧ w2.length = w.length + 1) ∨ (w.length = 65536 ∧ e = 8 ∧ w2.length = w.length)) := by
    by_cases hr : w.length < 65536
    · obtain ⟨v3, h3, S, k2, net3, o3, hS, hv3⟩ := send_fn net2 (l := [[109, 111, 114, 101]]) (v2 := .sl h1.next 0 0 1 1 true 1) (by rw [hz]; exact b2) hmore (by simp; omega) (by simp; omega) (by omega)
      exact ⟨0, _, v3, _, h3, k2, net3, Only.weak o3 (N := h.next.num) (fun id c => by
        rcases hS id c with d | d
        · subst d; exact net1.pN
        · exact (net1.oldv d).1) (o1.trans b3) (Nat.le_refl _), .inl ⟨hr, rfl, by simp⟩⟩
    · have k2 := send_full net2 (l := [[109, 111, 114, 101]]) (v2 := .sl h1.next 0 0 1 1 true 1) (by rw [hz]; exact b2) hw (by simp; omega)
      exact ⟨8, w, v1, sent, h2, k2, net2, o1.trans b3, .inr ⟨by omega, rfl, rfl⟩⟩
  have k3 := len_fn net3
  have hw2 : 0 < w2.length ∧ w2.length ≤ 65537 := by omega
  obtain ⟨v4, h4, k4, net4, o4, hv4⟩ := take_fn net3 (i := 0) hw2.1 (by omega)
  have k5 := lose_of k4
  have o04 : Only [] h h4 := Only.weak o4 (N := h.next.num) (fun id c => by simp only [List.mem_singleton] at c; subst c; exact net1.pN) o3 (Nat.le_refl _)
  have l3 := l4 h3 o3
  obtain ⟨env', x, f0, f3, f4, f5, f6⟩ : ∃ env', runS Try.prog true sw_A8 [⟨26, [.ptr p 0 0], h, .ptr q 0 0, h1⟩, ⟨18, [.ptr q 0 0, .sl h1.next 0 0 1 1 true 1], h2, int64 e, h3⟩, ⟨27, [.ptr q 0 0], h3, int64 w2.length, h3⟩, ⟨20, [.ptr q 0 0, int64 ((0 : Nat) : Int)], h3, int64 0, h4⟩] env h = some (.upt [], [], env', h4) ∧ sv env' 0 = vs ∧ sv env' 3 = .ptr p 0 0 ∧ sv env' 4 = vl ∧ sv env' 5 = int64 sent ∧ sv env' 6 = int64 i := by
    have b1' : ∀ env, evalOp Try.prog (.buildSl 1 1 [.str 0 0] [(0, 1, Am.vl (.str 4 1836020325))]) env h1 = .val (.sl h1.next 0 0 1 1 true 1) h2 := fun env => b1 env _ rfl
    unfold sw_A8
    rcases he with ⟨c1, c2, c3⟩ | ⟨c1, c2, c3⟩
    · subst c2
      rw [c3]
      have c4 : (w.length : Int) < 65536 := by omega
      simp [plays_66, plays_67, plays_69, runS, runR, Rs.seq, Rs.block, runOps, wanted_no, wanted_sv, ev_tm, ev_vl, sv_setD, sv_set, setD_none, qev_mov, qev_bin, qev_pick, opt_some, bin_add, bin_neq, bin_lss, qev_callv, qev_eqPtr, sameP_nil, notIf, callA_ok ok26, callA_ok ok18, callA_ok ok27, callA_ok ok20, e0, e3, e4, e5, e6, b1', l3, c4, wadd]
    · subst c2
      rw [c3]
      have wadd : wrapA .i64 (65537 : Int) = 65537 := wrap64 (by omega) (by omega)
      simp [plays_66, plays_67, plays_69, runS, runR, Rs.seq, Rs.block, runOps, wanted_no, wanted_sv, ev_tm, ev_vl, sv_setD, sv_set, setD_none, qev_mov, qev_bin, qev_pick, opt_some, bin_add, bin_neq, bin_lss, qev_callv, qev_eqPtr, sameP_nil, notIf, callA_ok ok26, callA_ok ok18, callA_ok ok27, callA_ok ok20, e0, e3, e4, e5, e6, b1', l3, c1, wadd]
  exact ⟨.go, env', h4, v, vl, w, sent, Dos.runGo _ (by
    intro x hx
    simp only [List.mem_cons, List.not_mem_nil, or_false] at hx
    rcases hx with d | d | d | d <;> subst d
    · exact k1
    · exact k2
    · exact k3
    · exact k5) x, .inl rfl, a.more o04, ⟨f0, f3, f4, f5, f6⟩, by omega, by omega⟩
end
end Go.Proofs.Ytmifpiglcphmoaa.Plays

namespace Go.Proofs.Ytmifpiglcphmoaa.Plays
open Go Go.Proofs.Ytmifpiglcphmoaa.Am Go.Proofs
attribute [local irreducible] Tree

theorem known_closed : closedT Try.prog 11 = true := by kernel_rfl

theorem known_fn (h : Hp) : AmFn Try.prog 11 [] h (.bool true) h := closed_fn known_closed h

theorem cells40 : Try.prog.cellsOf 40 = 3 := by kernel_rfl
theorem cells3 : Try.prog.cellsOf 3 = 1 := by kernel_rfl
theorem cells38 : Try.prog.cellsOf 38 = 1 := by kernel_rfl
theorem cells9 : Try.prog.cellsOf 9 = 1 := by kernel_rfl
theorem bytes9 : Try.prog.bytesOf 9 = 16 := by kernel_rfl

/-- A record of a number, a number and texts. -/
theorem rec_of {P : Program} {h : Hp} {d : Nat} {tr ti ts te : TypeId} {f0 f1 f2 : Field} {l : List AV} (hr : P.underlying tr = some (.struct #[f0, f1, f2])) (hc : P.cellsOf tr = 3) (hi : P.underlying ti = some (.int .i64)) (hci : P.cellsOf ti = 1)
    (hs : P.underlying ts = some (.slice te)) (hcs : P.cellsOf ts = 1) (he : P.underlying te = some .string) (hce : P.cellsOf te = 1) (hbe : P.bytesOf te = 16)
    (h0 : f0.type = ti ∧ f0.offset = 0) (h1 : f1.type = ti ∧ f1.offset = 1) (h2 : f2.type = ts ∧ f2.offset = 2) (a : Tree P h (d + 3) tr l) :
    ∃ kind n vt, ∃ things : List (List UInt8), l = [int64 kind, int64 n, vt] ∧ SlR h vt (things.map strOf) ∧ ((∃ id g off, vt = .sl id g off 0 0 true 1 ∧ things = []) ∨ ∀ id, In vt id → id.num < h.next.num) ∧ okSize things.length 16 = true := by
  obtain ⟨q, qf⟩ := a.of_struct (d := d + 2) hr
  rw [hc] at q
  match l, q with
  | [x, y, z], _ =>
    have q0 := qf f0 (by simp)
    have q1 := qf f1 (by simp)
    have q2 := qf f2 (by simp)
    rw [h0.1, h0.2, hci] at q0
    rw [h1.1, h1.2, hci] at q1
    rw [h2.1, h2.2, hcs] at q2
    simp only [List.drop_zero, List.drop_succ_cons, List.take_succ_cons, List.take_zero] at q0 q1 q2
    obtain ⟨kind, e0, _⟩ := q0.of_int (d := d + 1) hi
    obtain ⟨n, e1, _⟩ := q1.of_int (d := d + 1) hi
    cases e0
    cases e1
    obtain ⟨ys, r1, r2, r3⟩ := Tree.ones (d := d + 1) hs hce (by omega) q2 strOf (fun x hx => by
      obtain ⟨b, e, _⟩ := hx.of_string (d := d) he
      cases e
      exact ⟨b, rfl⟩)
    rw [hbe] at r3
    refine ⟨kind, n, z, ys, rfl, r1, ?_, r3⟩
    rcases r2 with r2 | r2
    · exact .inl r2
    · exact .inr fun id ⟨g, off, n, cap, ex, e⟩ => r2 id g off n cap ex e

/-- A step of those that are handed in. -/
theorem step_at {h0 : Hp} {vs : AV} (a : Tree Try.prog h0 (0 + 3 + 1) 35 [vs]) {i : Nat} (hi : i < lenOf vs) :
    ∃ id cap kind n vt, ∃ things : List (List UInt8), vs = .sl id 0 0 (lenOf vs) cap true 3 ∧ (∀ h, Only [] h0 h → ∃ c, readN h id 0 (i * 3) 3 = some c ∧ c.toL = [int64 kind, int64 n, vt]) ∧
      SlR h0 vt (things.map strOf) ∧ ((∃ id g off, vt = .sl id g off 0 0 true 1 ∧ things = []) ∨ ∀ id, In vt id → id.num < h0.next.num) ∧ okSize things.length 16 = true := by
  obtain ⟨id, cap, l, q1, q2, q3⟩ := a.record Try.underlying35 hi
  rw [cells40] at q1 q3
  obtain ⟨kind, n, vt, things, e, r⟩ := rec_of (d := 0) Try.underlying40 cells40 Try.underlying3 cells3 Try.underlying38 cells38 Try.underlying9 cells9 bytes9 ⟨rfl, rfl⟩ ⟨rfl, rfl⟩ ⟨rfl, rfl⟩ q2
  subst e
  exact ⟨id, cap, kind, n, vt, things, q1, q3, r⟩

theorem steps_len {h0 : Hp} {vs : AV} (a : Tree Try.prog h0 (0 + 3 + 1) 35 [vs]) (h : Hp) : ∀ env x, ev env x = vs → evalOp Try.prog (.lenL x) env h = .val (int64 (lenOf vs : Nat)) h := a.lenI Try.underlying35 h
end Go.Proofs.Ytmifpiglcphmoaa.Plays

namespace Go.Proofs.Ytmifpiglcphmoaa.Plays
open Go Go.Proofs.Ytmifpiglcphmoaa.Am Go.Proofs

section
variable {N : Nat} {h0 h : Hp} {p ps : Pos} {v vl vs vt : AV} {w : List (List UInt8)} {sent i kind n : Int} {things : List (List UInt8)} {env env1 : T AV}

/-- What the choice of a case knows. -/
structure Sel (env : T AV) (vs : AV) (p : Pos) (vl : AV) (sent i : Int) (ps : Pos) (b8 : Bool) (kind : Int) : Prop where
  e : En env vs p vl sent i
  e7 : sv env 7 = .ptr ps 0 0
  e8 : sv env 8 = .bool b8
  e47 : sv env 47 = int64 kind

theorem Outc.dos {a b : C} (d : Dos Try.prog 4 a env h .go [] env1 h) (r : Outc N h0 p vs i sent b env1 h) : Outc N h0 p vs i sent (.seq a b) env h := by
  obtain ⟨j, env', h', v', vl', w', sent', d', r⟩ := r
  exact ⟨j, env', h', v', vl', w', sent', Dos.seq (M := []) (M1 := []) d d', r⟩

theorem Outc.cond {t : Opd} {a b : C} {c : Bool} (ht : ev env t = .bool c) (r : Outc N h0 p vs i sent (if c = true then a else b) env h) : Outc N h0 p vs i sent (.cond t a b) env h := by
  obtain ⟨j, env', h', v', vl', w', sent', d', r⟩ := r
  exact ⟨j, env', h', v', vl', w', sent', Dos.cond ht d', r⟩

theorem Outc.skip (a : At N h0 h p v vl w sent) (e : En env vs p vl sent i) : Outc N h0 p vs i sent .skip env h :=
  ⟨.go, env, h, v, vl, w, sent, Dos.skip, .inl rfl, a, e, by omega, by omega⟩

variable {b8 : Bool}

theorem pick_11 (s : Sel env vs p vl sent i ps b8 kind) : ∃ env', runOps Try.prog plays_11 env h = some (env', h) ∧ Sel env' vs p vl sent i ps b8 kind ∧ sv env' 48 = .bool (decide (kind = 1)) := by
  obtain ⟨⟨e0, e3, e4, e5, e6⟩, e7, e8, e47⟩ := s
  obtain ⟨env', e, f0, f3, f4, f5, f6, f7, f8, f47, f⟩ : ∃ env', runOps Try.prog plays_11 env h = some (env', h) ∧ sv env' 0 = vs ∧ sv env' 3 = .ptr p 0 0 ∧ sv env' 4 = vl ∧ sv env' 5 = int64 sent ∧ sv env' 6 = int64 i ∧ sv env' 7 = .ptr ps 0 0 ∧ sv env' 8 = .bool b8 ∧ sv env' 47 = int64 kind ∧ sv env' 48 = .bool (decide (kind = 1)) := by
    simp [plays_11, runOps, wanted_no, wanted_sv, ev_tm, ev_vl, sv_setD, sv_set, setD_none, qev_mov, qev_bin, qev_un, qev_lenI, qev_pick, qev_load1, qev_idxSl, idx2_sl, idxA2_ptr, opt_some, bin_add, bin_sub, bin_mul, bin_lss, bin_leq, bin_gtr, bin_geq, bin_eql, bin_neq, un_not, un_neg, qev_callv, qev_new1, qev_store1, qev_nilC, nilC_ptr, qev_fld, fldA_ptr, qev_extract, nth0, nth1, nth2, qev_eqPtr, sameP_nil, notIf, e0, e3, e4, e5, e6, e7, e8, e47]
  exact ⟨env', e, ⟨⟨f0, f3, f4, f5, f6⟩, f7, f8, f47⟩, f⟩

theorem pick_43 (s : Sel env vs p vl sent i ps b8 kind) : ∃ env', runOps Try.prog plays_43 env h = some (env', h) ∧ Sel env' vs p vl sent i ps b8 kind ∧ sv env' 152 = .bool (decide (kind = 3)) := by
  obtain ⟨⟨e0, e3, e4, e5, e6⟩, e7, e8, e47⟩ := s
  obtain ⟨env', e, f0, f3, f4, f5, f6, f7, f8, f47, f⟩ : ∃ env', runOps Try.prog plays_43 env h = some (env', h) ∧ sv env' 0 = vs ∧ sv env' 3 = .ptr p 0 0 ∧ sv env' 4 = vl ∧ sv env' 5 = int64 sent ∧ sv env' 6 = int64 i ∧ sv env' 7 = .ptr ps 0 0 ∧ sv env' 8 = .bool b8 ∧ sv env' 47 = int64 kind ∧ sv env' 152 = .bool (decide (kind = 3)) := by
    simp [plays_43, runOps, wanted_no, wanted_sv, ev_tm, ev_vl, sv_setD, sv_set, setD_none, qev_mov, qev_bin, qev_un, qev_lenI, qev_pick, qev_load1, qev_idxSl, idx2_sl, idxA2_ptr, opt_some, bin_add, bin_sub, bin_mul, bin_lss, bin_leq, bin_gtr, bin_geq, bin_eql, bin_neq, un_not, un_neg, qev_callv, qev_new1, qev_store1, qev_nilC, nilC_ptr, qev_fld, fldA_ptr, qev_extract, nth0, nth1, nth2, qev_eqPtr, sameP_nil, notIf, e0, e3, e4, e5, e6, e7, e8, e47]
  exact ⟨env', e, ⟨⟨f0, f3, f4, f5, f6⟩, f7, f8, f47⟩, f⟩

theorem pick_50 (s : Sel env vs p vl sent i ps b8 kind) : ∃ env', runOps Try.prog plays_50 env h = some (env', h) ∧ Sel env' vs p vl sent i ps b8 kind ∧ sv env' 187 = .bool (decide (kind = 5)) := by
  obtain ⟨⟨e0, e3, e4, e5, e6⟩, e7, e8, e47⟩ := s
  obtain ⟨env', e, f0, f3, f4, f5, f6, f7, f8, f47, f⟩ : ∃ env', runOps Try.prog plays_50 env h = some (env', h) ∧ sv env' 0 = vs ∧ sv env' 3 = .ptr p 0 0 ∧ sv env' 4 = vl ∧ sv env' 5 = int64 sent ∧ sv env' 6 = int64 i ∧ sv env' 7 = .ptr ps 0 0 ∧ sv env' 8 = .bool b8 ∧ sv env' 47 = int64 kind ∧ sv env' 187 = .bool (decide (kind = 5)) := by
    simp [plays_50, runOps, wanted_no, wanted_sv, ev_tm, ev_vl, sv_setD, sv_set, setD_none, qev_mov, qev_bin, qev_un, qev_lenI, qev_pick, qev_load1, qev_idxSl, idx2_sl, idxA2_ptr, opt_some, bin_add, bin_sub, bin_mul, bin_lss, bin_leq, bin_gtr, bin_geq, bin_eql, bin_neq, un_not, un_neg, qev_callv, qev_new1, qev_store1, qev_nilC, nilC_ptr, qev_fld, fldA_ptr, qev_extract, nth0, nth1, nth2, qev_eqPtr, sameP_nil, notIf, e0, e3, e4, e5, e6, e7, e8, e47]
  exact ⟨env', e, ⟨⟨f0, f3, f4, f5, f6⟩, f7, f8, f47⟩, f⟩

theorem pick_62 (s : Sel env vs p vl sent i ps b8 kind) : ∃ env', runOps Try.prog plays_62 env h = some (env', h) ∧ Sel env' vs p vl sent i ps b8 kind ∧ sv env' 221 = .bool (decide (kind = 7)) := by
  obtain ⟨⟨e0, e3, e4, e5, e6⟩, e7, e8, e47⟩ := s
  obtain ⟨env', e, f0, f3, f4, f5, f6, f7, f8, f47, f⟩ : ∃ env', runOps Try.prog plays_62 env h = some (env', h) ∧ sv env' 0 = vs ∧ sv env' 3 = .ptr p 0 0 ∧ sv env' 4 = vl ∧ sv env' 5 = int64 sent ∧ sv env' 6 = int64 i ∧ sv env' 7 = .ptr ps 0 0 ∧ sv env' 8 = .bool b8 ∧ sv env' 47 = int64 kind ∧ sv env' 221 = .bool (decide (kind = 7)) := by
    simp [plays_62, runOps, wanted_no, wanted_sv, ev_tm, ev_vl, sv_setD, sv_set, setD_none, qev_mov, qev_bin, qev_un, qev_lenI, qev_pick, qev_load1, qev_idxSl, idx2_sl, idxA2_ptr, opt_some, bin_add, bin_sub, bin_mul, bin_lss, bin_leq, bin_gtr, bin_geq, bin_eql, bin_neq, un_not, un_neg, qev_callv, qev_new1, qev_store1, qev_nilC, nilC_ptr, qev_fld, fldA_ptr, qev_extract, nth0, nth1, nth2, qev_eqPtr, sameP_nil, notIf, e0, e3, e4, e5, e6, e7, e8, e47]
  exact ⟨env', e, ⟨⟨f0, f3, f4, f5, f6⟩, f7, f8, f47⟩, f⟩

theorem pick_65 (s : Sel env vs p vl sent i ps b8 kind) : ∃ env', runOps Try.prog plays_65 env h = some (env', h) ∧ Sel env' vs p vl sent i ps b8 kind ∧ sv env' 229 = .bool (decide (kind = 8)) := by
  obtain ⟨⟨e0, e3, e4, e5, e6⟩, e7, e8, e47⟩ := s
  obtain ⟨env', e, f0, f3, f4, f5, f6, f7, f8, f47, f⟩ : ∃ env', runOps Try.prog plays_65 env h = some (env', h) ∧ sv env' 0 = vs ∧ sv env' 3 = .ptr p 0 0 ∧ sv env' 4 = vl ∧ sv env' 5 = int64 sent ∧ sv env' 6 = int64 i ∧ sv env' 7 = .ptr ps 0 0 ∧ sv env' 8 = .bool b8 ∧ sv env' 47 = int64 kind ∧ sv env' 229 = .bool (decide (kind = 8)) := by
    simp [plays_65, runOps, wanted_no, wanted_sv, ev_tm, ev_vl, sv_setD, sv_set, setD_none, qev_mov, qev_bin, qev_un, qev_lenI, qev_pick, qev_load1, qev_idxSl, idx2_sl, idxA2_ptr, opt_some, bin_add, bin_sub, bin_mul, bin_lss, bin_leq, bin_gtr, bin_geq, bin_eql, bin_neq, un_not, un_neg, qev_callv, qev_new1, qev_store1, qev_nilC, nilC_ptr, qev_fld, fldA_ptr, qev_extract, nth0, nth1, nth2, qev_eqPtr, sameP_nil, notIf, e0, e3, e4, e5, e6, e7, e8, e47]
  exact ⟨env', e, ⟨⟨f0, f3, f4, f5, f6⟩, f7, f8, f47⟩, f⟩

theorem pick_S2 (s : Sel env vs p vl sent i ps b8 kind) : ∃ env', Dos Try.prog 4 sw_S2 env h .go [] env' h ∧ Sel env' vs p vl sent i ps b8 kind ∧ sv env' 86 = .bool (decide (kind = 2 ∨ kind = 4 ∨ kind = 6)) := by
  obtain ⟨⟨e0, e3, e4, e5, e6⟩, e7, e8, e47⟩ := s
  obtain ⟨env', e, f0, f3, f4, f5, f6, f7, f8, f47, f⟩ : ∃ env', runS Try.prog true sw_S2 [] env h = some (.upt [], [], env', h) ∧ sv env' 0 = vs ∧ sv env' 3 = .ptr p 0 0 ∧ sv env' 4 = vl ∧ sv env' 5 = int64 sent ∧ sv env' 6 = int64 i ∧ sv env' 7 = .ptr ps 0 0 ∧ sv env' 8 = .bool b8 ∧ sv env' 47 = int64 kind ∧ sv env' 86 = .bool (decide (kind = 2 ∨ kind = 4 ∨ kind = 6)) := by
    unfold sw_S2
    by_cases h2 : kind = 2
    · subst h2
      simp [plays_27, plays_28, plays_29, runS, runR, Rs.seq, Rs.block, runOps, wanted_no, wanted_sv, ev_tm, ev_vl, sv_setD, sv_set, setD_none, qev_mov, qev_bin, qev_un, qev_lenI, qev_pick, qev_load1, qev_idxSl, idx2_sl, idxA2_ptr, opt_some, bin_add, bin_sub, bin_mul, bin_lss, bin_leq, bin_gtr, bin_geq, bin_eql, bin_neq, un_not, un_neg, qev_callv, qev_new1, qev_store1, qev_nilC, nilC_ptr, qev_fld, fldA_ptr, qev_extract, nth0, nth1, nth2, qev_eqPtr, sameP_nil, notIf, e0, e3, e4, e5, e6, e7, e8, e47]
    · by_cases h4 : kind = 4
      · subst h4
        simp [plays_27, plays_28, plays_29, runS, runR, Rs.seq, Rs.block, runOps, wanted_no, wanted_sv, ev_tm, ev_vl, sv_setD, sv_set, setD_none, qev_mov, qev_bin, qev_un, qev_lenI, qev_pick, qev_load1, qev_idxSl, idx2_sl, idxA2_ptr, opt_some, bin_add, bin_sub, bin_mul, bin_lss, bin_leq, bin_gtr, bin_geq, bin_eql, bin_neq, un_not, un_neg, qev_callv, qev_new1, qev_store1, qev_nilC, nilC_ptr, qev_fld, fldA_ptr, qev_extract, nth0, nth1, nth2, qev_eqPtr, sameP_nil, notIf, e0, e3, e4, e5, e6, e7, e8, e47]
      · simp [plays_27, plays_28, plays_29, runS, runR, Rs.seq, Rs.block, runOps, wanted_no, wanted_sv, ev_tm, ev_vl, sv_setD, sv_set, setD_none, qev_mov, qev_bin, qev_un, qev_lenI, qev_pick, qev_load1, qev_idxSl, idx2_sl, idxA2_ptr, opt_some, bin_add, bin_sub, bin_mul, bin_lss, bin_leq, bin_gtr, bin_geq, bin_eql, bin_neq, un_not, un_neg, qev_callv, qev_new1, qev_store1, qev_nilC, nilC_ptr, qev_fld, fldA_ptr, qev_extract, nth0, nth1, nth2, qev_eqPtr, sameP_nil, notIf, e0, e3, e4, e5, e6, e7, e8, e47, h2, h4]
  exact ⟨env', Dos.runGo [] (by simp) e, ⟨⟨f0, f3, f4, f5, f6⟩, f7, f8, f47⟩, f⟩

/-- Every case of a round. -/
theorem cases_all (a : At N h0 h p v vl w sent) (st : Stp N h ps p v vl vt kind n things) (s : Sel env vs p vl sent i ps (decide (0 ≤ n ∧ n < (w.length : Int))) kind) (hs : 0 ≤ sent ∧ sent < 1000000000) : Outc N h0 p vs i sent sw_R1 env h := by
  unfold sw_R1
  obtain ⟨env1, d1, s1, t1⟩ := pick_11 (h := h) s
  refine .dos (Dos.region d1) (.cond (c := decide (kind = 1)) t1 ?_)
  by_cases k1 : kind = 1
  · rw [if_pos (by simpa using k1)]
    exact case1 a s1.e st s1.e7 hs
  rw [if_neg (by simpa using k1)]
  unfold sw_R2
  obtain ⟨env2, d2, s2, t2⟩ := pick_S2 (h := h) s1
  refine .dos d2 (.cond (c := decide (kind = 2 ∨ kind = 4 ∨ kind = 6)) t2 ?_)
  by_cases k2 : kind = 2 ∨ kind = 4 ∨ kind = 6
  · rw [if_pos (by simpa using k2)]
    exact case2 a s2.e st s2.e7 s2.e8 k2
  rw [if_neg (by simpa using k2)]
  unfold sw_R3
  obtain ⟨env3, d3, s3, t3⟩ := pick_43 (h := h) s2
  refine .dos (Dos.region d3) (.cond (c := decide (kind = 3)) t3 ?_)
  by_cases k3 : kind = 3
  · rw [if_pos (by simpa using k3)]
    exact case3 a s3.e st s3.e7 s3.e8 hs
  rw [if_neg (by simpa using k3)]
  unfold sw_R5
  obtain ⟨env5, d5, s5, t5⟩ := pick_50 (h := h) s3
  refine .dos (Dos.region d5) (.cond (c := decide (kind = 5)) t5 ?_)
  by_cases k5 : kind = 5
  · rw [if_pos (by simpa using k5)]
    exact case5 a s5.e st s5.e7
  rw [if_neg (by simpa using k5)]
  unfold sw_R7
  obtain ⟨env7, d7, s7, t7⟩ := pick_62 (h := h) s5
  refine .dos (Dos.region d7) (.cond (c := decide (kind = 7)) t7 ?_)
  by_cases k7 : kind = 7
  · rw [if_pos (by simpa using k7)]
    exact case7 a s7.e st s7.e7
  rw [if_neg (by simpa using k7)]
  unfold sw_R8
  obtain ⟨env8, d8, s8, t8⟩ := pick_65 (h := h) s7
  refine .dos (Dos.region d8) (.cond (c := decide (kind = 8)) t8 ?_)
  by_cases k8 : kind = 8
  · rw [if_pos (by simpa using k8)]
    exact case8 a s8.e hs
  rw [if_neg (by simpa using k8)]
  exact .skip a s8.e
end
end Go.Proofs.Ytmifpiglcphmoaa.Plays

namespace Go.Proofs.Ytmifpiglcphmoaa.Plays
open Go Go.Proofs.Ytmifpiglcphmoaa.Am Go.Proofs
attribute [local irreducible] Tree

section
variable {N : Nat} {h0 h : Hp} {p : Pos} {v vl vs : AV} {w : List (List UInt8)} {sent : Int} {i : Nat} {env : T AV}

/-- The count and the sum are looked at. -/
theorem tail_T (a : At N h0 h p v vl w sent) (e : En env vs p vl sent i) : ∃ env', Dos Try.prog 4 sw_T env h .go [] env' h ∧ En env' vs p vl sent i := by
  obtain ⟨e0, e3, e4, e5, e6⟩ := e
  have k1 := len_fn a.net
  have k2 := sent_fn a.net
  have hl := SlR.lenI a.own.sl
  obtain ⟨env', e, f0, f3, f4, f5, f6⟩ : ∃ env', runS Try.prog true sw_T [⟨27, [.ptr p 0 0], h, int64 w.length, h⟩, ⟨28, [.ptr p 0 0], h, int64 sent, h⟩] env h = some (.upt [], [], env', h) ∧ sv env' 0 = vs ∧ sv env' 3 = .ptr p 0 0 ∧ sv env' 4 = vl ∧ sv env' 5 = int64 sent ∧ sv env' 6 = int64 i := by
    unfold sw_T
    simp [plays_70, runS, runR, Rs.seq, Rs.block, runOps, wanted_no, wanted_sv, ev_tm, ev_vl, sv_setD, qev_mov, qev_bin, qev_pick, bin_neq, opt_some, qev_callv, callA_ok ok27, callA_ok ok28, hl, e0, e3, e4, e5, e6]
  refine ⟨env', Dos.runGo _ (fun x hx => ?_) e, ⟨f0, f3, f4, f5, f6⟩⟩
  simp only [List.mem_cons, List.not_mem_nil, or_false] at hx
  rcases hx with q | q
  · subst q; exact k1
  · subst q; exact k2

/-- A round. -/
theorem one_round (tr : Tree Try.prog h0 (0 + 3 + 1) 35 [vs]) (a : At N h0 h p v vl w sent) (e : En env vs p vl sent i) (hi : i < lenOf vs) (hi4 : i < 400) (hs : 0 ≤ sent ∧ sent < 1000000000) :
    ∃ env' h' v' vl' w' sent', Dos Try.prog 4 plays_73 env h .go [] env' h' ∧ At N h0 h' p v' vl' w' sent' ∧ En env' vs p vl' sent' (i + 1 : Nat) ∧ sent ≤ sent' ∧ sent' ≤ sent + 65536 := by
  obtain ⟨e0, e3, e4, e5, e6⟩ := e
  have hlen := steps_len tr h
  have hi4' : (i : Int) < 400 := by omega
  obtain ⟨env1, d1, f0, f3, f4, f5, f6⟩ : ∃ env', runS Try.prog true (.seq (.region plays_7) (.cond (tm 29) .skip (.exit 0))) [] env h = some (.upt [], [], env', h) ∧ sv env' 0 = vs ∧ sv env' 3 = .ptr p 0 0 ∧ sv env' 4 = vl ∧ sv env' 5 = int64 sent ∧ sv env' 6 = int64 i := by
    simp [plays_7, runS, runR, Rs.seq, Rs.block, runOps, wanted_no, wanted_sv, ev_tm, ev_vl, sv_setD, qev_mov, qev_bin, qev_pick, bin_lss, opt_some, hlen, e0, e3, e4, e5, e6, hi, hi4']
  obtain ⟨id, cap, kind, n, vt, things, hv, hrec, r, hold, hsz⟩ := step_at tr hi
  have on : Only [] h (newH h fun s => .cells s (Cells.ofL [int64 0, int64 0, .nilSl]) 0 0 0 0 false false) := newH_only _ _ _
  have bn := newH_arr h [int64 0, int64 0, .nilSl]
  obtain ⟨c, c1, c2⟩ := hrec _ a.start
  obtain ⟨h2, st, b2, o2, n2⟩ := storeN_arr Try.prog bn (xs := [int64 kind, int64 n, vt]) rfl (by simp) (fun x hx => by
    simp only [List.mem_cons, List.not_mem_nil, or_false] at hx
    rcases hx with q | q | q <;> subst q
    · rfl
    · rfl
    · exact r.atom.1)
  obtain ⟨env2, d2, g0, g3, g4, g5, g6, g7⟩ : ∃ env', runOps Try.prog plays_8 env1 h = some (env', h2) ∧ sv env' 0 = vs ∧ sv env' 3 = .ptr p 0 0 ∧ sv env' 4 = vl ∧ sv env' 5 = int64 sent ∧ sv env' 6 = int64 i ∧ sv env' 7 = .ptr h.next 0 0 := by
    have ld : ∀ env (x : Opd), ev env x = .ptr id 0 (i * 3) → evalOp Try.prog (.loadN 3 x) env h = .val (.agg [int64 kind, int64 n, vt]) h := fun env x hx => by rw [qev_loadN Try.prog hx c1, c2]
    simp only [List.length_cons, List.length_nil] at st
    rw [hv] at f0 ⊢
    simp [plays_8, runOps, wanted_no, wanted_sv, ev_tm, ev_vl, sv_setD, sv_set, setD_none, qev_mov, qev_bin, qev_un, qev_lenI, qev_pick, qev_load1, qev_idxSl, idx2_sl, idxA2_ptr, opt_some, bin_add, bin_sub, bin_mul, bin_lss, bin_leq, bin_gtr, bin_geq, bin_eql, bin_neq, un_not, un_neg, qev_callv, qev_new1, qev_store1, qev_nilC, nilC_ptr, qev_fld, fldA_ptr, qev_extract, nth0, nth1, nth2, qev_eqPtr, sameP_nil, notIf, f0, f3, f4, f5, f6, hi, ld, qev_newL, st]
  have hN := a.hN
  have o : Only [] h h2 := ((on.mono (S' := [h.next]) (by simp)).trans o2).mono fun id hid => .inr (by simp only [List.mem_singleton] at hid; subst hid; exact Nat.le_refl _)
  have a2 := a.more o
  have stp : Stp N h2 h.next p v vl vt kind n things := ⟨b2, r.only (a.start.trans o) (by simp), by rw [a.nN]; exact hold, fun q => by have := a.net.st.old; rw [← q] at this; omega, fun q => by have := (a.net.oldv q).2; omega, fun q => by have := (own_old a.own q).2; omega, hN, hsz⟩
  have l0 := stp.l0
  have l1 := stp.l1
  have hl := SlR.lenI a2.own.sl
  obtain ⟨env3, d3, k0, k3, k4, k5, k6, k7, k8⟩ : ∃ env', runOps Try.prog plays_9 env2 h2 = some (env', h2) ∧ sv env' 0 = vs ∧ sv env' 3 = .ptr p 0 0 ∧ sv env' 4 = vl ∧ sv env' 5 = int64 sent ∧ sv env' 6 = int64 i ∧ sv env' 7 = .ptr h.next 0 0 ∧ sv env' 8 = .bool (decide (0 ≤ n ∧ n < (w.length : Int))) := by
    by_cases hn : 0 ≤ n
    · simp [plays_9, runOps, wanted_no, wanted_sv, ev_tm, ev_vl, sv_setD, qev_mov, qev_bin, qev_pick, bin_lss, bin_geq, opt_some, qev_load1, qev_fld, fldA_ptr, hl, g0, g3, g4, g5, g6, g7, l1, hn]
    · simp [plays_9, runOps, wanted_no, wanted_sv, ev_tm, ev_vl, sv_setD, setD_none, qev_mov, qev_bin, qev_pick, bin_lss, bin_geq, opt_some, qev_load1, qev_fld, fldA_ptr, hl, g0, g3, g4, g5, g6, g7, l1, hn]
  obtain ⟨env4, d4, m0, m3, m4, m5, m6, m7, m8, m47⟩ : ∃ env', runOps Try.prog plays_10 env3 h2 = some (env', h2) ∧ sv env' 0 = vs ∧ sv env' 3 = .ptr p 0 0 ∧ sv env' 4 = vl ∧ sv env' 5 = int64 sent ∧ sv env' 6 = int64 i ∧ sv env' 7 = .ptr h.next 0 0 ∧ sv env' 8 = .bool (decide (0 ≤ n ∧ n < (w.length : Int))) ∧ sv env' 47 = int64 kind := by
    simp [plays_10, runOps, wanted_no, wanted_sv, ev_tm, ev_vl, sv_setD, sv_set, setD_none, qev_mov, qev_bin, qev_un, qev_lenI, qev_pick, qev_load1, qev_idxSl, idx2_sl, idxA2_ptr, opt_some, bin_add, bin_sub, bin_mul, bin_lss, bin_leq, bin_gtr, bin_geq, bin_eql, bin_neq, un_not, un_neg, qev_callv, qev_new1, qev_store1, qev_nilC, nilC_ptr, qev_fld, fldA_ptr, qev_extract, nth0, nth1, nth2, qev_eqPtr, sameP_nil, notIf, k0, k3, k4, k5, k6, k7, k8, l0]
  obtain ⟨j, env5, h5, v5, vl5, w5, sent5, d5, hj, a5, e5', hs5⟩ := cases_all a2 stp ⟨⟨m0, m3, m4, m5, m6⟩, m7, m8, m47⟩ hs
  have dR : Dos Try.prog 4 (.block 2 sw_R1) env4 h2 .go [] env5 h5 := by
    have q := Dos.block (i := 2) d5
    rcases hj with hj | hj <;> subst hj <;> exact q
  obtain ⟨env6, d6, e6'⟩ := tail_T a5 e5'
  obtain ⟨u0, u3, u4, u5, u6⟩ := e6'
  have w1 : wrapA .i64 ((i : Int) + 1) = (i : Int) + 1 := wrap64 (by omega) (by omega)
  obtain ⟨env7, d7, x0, x3, x4, x5, x6⟩ : ∃ env', runOps Try.prog plays_72 env6 h5 = some (env', h5) ∧ sv env' 0 = vs ∧ sv env' 3 = .ptr p 0 0 ∧ sv env' 4 = vl5 ∧ sv env' 5 = int64 sent5 ∧ sv env' 6 = int64 (i + 1 : Nat) := by
    simp [plays_72, runOps, wanted_no, wanted_sv, ev_tm, ev_vl, sv_setD, sv_set, setD_none, qev_mov, qev_bin, qev_un, qev_lenI, qev_pick, qev_load1, qev_idxSl, idx2_sl, idxA2_ptr, opt_some, bin_add, bin_sub, bin_mul, bin_lss, bin_leq, bin_gtr, bin_geq, bin_eql, bin_neq, un_not, un_neg, qev_callv, qev_new1, qev_store1, qev_nilC, nilC_ptr, qev_fld, fldA_ptr, qev_extract, nth0, nth1, nth2, qev_eqPtr, sameP_nil, notIf, u0, u3, u4, u5, u6, w1]
  refine ⟨env7, h5, v5, vl5, w5, sent5, ?_, a5, ⟨x0, x3, x4, x5, x6⟩, hs5⟩
  rw [plays_73_eq]
  have dB := Dos.block (i := 1) (Dos.seq (M := []) (M1 := []) (Dos.region d2) (Dos.seq (M := []) (M1 := []) (Dos.region d3) (Dos.seq (M := []) (M1 := []) (Dos.seq (M := []) (M1 := []) (Dos.region d4) dR) d6)))
  exact Dos.seq (M := []) (M1 := []) (Dos.runGo [] (by simp) d1) (Dos.seq (M := []) (M1 := []) dB (Dos.region d7))

/-- All rounds. -/
theorem all_rounds (tr : Tree Try.prog h0 (0 + 3 + 1) 35 [vs]) : ∀ (m i : Nat) (env : T AV) (h : Hp) (v vl : AV) (w : List (List UInt8)) (sent : Int), i + m = min (lenOf vs) 400 → At N h0 h p v vl w sent → En env vs p vl sent i → 0 ≤ sent → sent ≤ 65536 * (i : Int) →
    ∃ env' h' v' vl' w' sent' i', Loops Try.prog 4 plays_73 env h (.exit 0) [] env' h' ∧ At N h0 h' p v' vl' w' sent' ∧ En env' vs p vl' sent' i' := by
  intro m
  induction m with
  | zero =>
    intro i env h v vl w sent hm a e hs1 hs2
    obtain ⟨e0, e3, e4, e5, e6⟩ := e
    have hlen := steps_len tr h
    obtain ⟨env1, d1, f0, f3, f4, f5, f6⟩ : ∃ env', runS Try.prog true plays_73 [] env h = some (.exit 0, [], env', h) ∧ sv env' 0 = vs ∧ sv env' 3 = .ptr p 0 0 ∧ sv env' 4 = vl ∧ sv env' 5 = int64 sent ∧ sv env' 6 = int64 i := by
      rw [plays_73_eq]
      by_cases hl : i < lenOf vs
      · have h4 : ¬ (i : Int) < 400 := by omega
        simp [plays_7, runS, runR, Rs.seq, Rs.block, runOps, wanted_no, wanted_sv, ev_tm, ev_vl, sv_setD, qev_mov, qev_bin, qev_pick, bin_lss, opt_some, hlen, e0, e3, e4, e5, e6, hl, h4]
      · simp [plays_7, runS, runR, Rs.seq, Rs.block, runOps, wanted_no, wanted_sv, ev_tm, ev_vl, sv_setD, setD_none, qev_mov, qev_bin, qev_pick, bin_lss, opt_some, hlen, e0, e3, e4, e5, e6, hl]
    exact ⟨env1, h, v, vl, w, sent, i, .out (Dos.runExit [] (by simp) d1) (by simp), a, ⟨f0, f3, f4, f5, f6⟩⟩
  | succ m ih =>
    intro i env h v vl w sent hm a e hs1 hs2
    obtain ⟨env1, h1, v1, vl1, w1, sent1, d1, a1, e1, r1, r2⟩ := one_round tr a e (by omega) (by omega) ⟨hs1, by omega⟩
    obtain ⟨env2, h2, v2, vl2, w2, sent2, i2, d2, r⟩ := ih (i + 1) env1 h1 v1 vl1 w1 sent1 (by omega) a1 e1 (by omega) (by omega)
    exact ⟨env2, h2, v2, vl2, w2, sent2, i2, Loops.more (M := []) (M1 := []) d1 d2, r⟩
end
end Go.Proofs.Ytmifpiglcphmoaa.Plays

namespace Go.Proofs.Ytmifpiglcphmoaa.Plays
open Go Go.Proofs.Ytmifpiglcphmoaa.Am Go.Proofs
attribute [local irreducible] Tree

/-- NetPlays' function. -/
theorem lplays_fn {h : Hp} {vs : AV} (tr : Tree Try.prog h (0 + 3 + 1) 35 [vs]) : ∃ h', AmFn Try.prog 4 [vs] h (.bool true) h' := by
  obtain ⟨h1, kn, net, o1⟩ := new_fn h
  have n1 := o1.next
  obtain ⟨env1, d1, f0, f3, f4, f5, f6⟩ : ∃ env', runS Try.prog false plays_fu.body [⟨17, [], h, .ptr h.next 0 0, h1⟩] (setArgs .e 0 [vs]) h = some (.upt [.code (.loop plays_73), .inBlock 0, .code (.seq (.region plays_74) .ret)], [], env', h1) ∧ sv env' 0 = vs ∧ sv env' 3 = .ptr h.next 0 0 ∧ sv env' 4 = .nilSl ∧ sv env' 5 = int64 0 ∧ sv env' 6 = int64 0 := by
    unfold plays_fu
    simp [plays_0, plays_1, plays_2, plays_4, plays_5, plays_6, runS, runR, Rs.seq, Rs.block, sv_args, runOps, wanted_no, wanted_sv, ev_tm, ev_vl, sv_setD, sv_set, setD_none, qev_mov, qev_bin, qev_un, qev_lenI, qev_pick, qev_load1, qev_idxSl, idx2_sl, idxA2_ptr, opt_some, bin_add, bin_sub, bin_mul, bin_lss, bin_leq, bin_gtr, bin_geq, bin_eql, bin_neq, un_not, un_neg, qev_callv, qev_new1, qev_store1, qev_nilC, nilC_ptr, qev_fld, fldA_ptr, qev_extract, nth0, nth1, nth2, qev_eqPtr, sameP_nil, notIf, callA_ok ok17]
  have a1 : At h.next.num h h1 h.next .nilSl .nilSl [] 0 := ⟨net, .inl ⟨rfl, rfl⟩, fun id ⟨_, _, _, _, _, e⟩ => (by cases e), fun ⟨_, _, _, _, _, e⟩ => (by cases e), o1, rfl, by simp⟩
  obtain ⟨env2, h2, v2, vl2, w2, sent2, i2, d2, a2, ⟨g0, g3, g4, g5, g6⟩⟩ := all_rounds tr (min (lenOf vs) 400) 0 env1 h1 .nilSl .nilSl [] 0 (by omega) a1 ⟨f0, f3, f4, f5, f6⟩ (by omega) (by omega)
  obtain ⟨h3, kg, o3⟩ := goes_fn a2.net a2.hw a2.own.sl (fun id g off m cap ex q => (a2.own.old _ _ _ _ _ _ q).2) (-1)
  obtain ⟨env3, d3, k2⟩ : ∃ env', runS Try.prog true (.seq (.region plays_74) .ret) [⟨25, [.ptr h.next 0 0, vl2, int64 (-1)], h2, .bool true, h3⟩, ⟨11, [], h3, .bool true, h3⟩] env2 h2 = some (.ret, [], env', h3) ∧ sv env' 2 = .bool true := by
    simp [plays_74, runS, runR, Rs.seq, Rs.block, runOps, wanted_no, wanted_sv, ev_tm, ev_vl, sv_setD, sv_set, setD_none, qev_mov, qev_bin, qev_un, qev_lenI, qev_pick, qev_load1, qev_idxSl, idx2_sl, idxA2_ptr, opt_some, bin_add, bin_sub, bin_mul, bin_lss, bin_leq, bin_gtr, bin_geq, bin_eql, bin_neq, un_not, un_neg, qev_callv, qev_new1, qev_store1, qev_nilC, nilC_ptr, qev_fld, fldA_ptr, qev_extract, nth0, nth1, nth2, qev_eqPtr, sameP_nil, notIf, callA_ok ok25, callA_ok ok11, g0, g3, g4, g5, g6]
  have hA : ∀ x ∈ [(⟨25, [.ptr h.next 0 0, vl2, int64 (-1)], h2, .bool true, h3⟩ : KC), ⟨11, [], h3, .bool true, h3⟩], AmFn Try.prog x.f x.args x.h x.v x.h' := by
    intro x hx
    simp only [List.mem_cons, List.not_mem_nil, or_false] at hx
    rcases hx with q | q
    · subst q; exact kg
    · subst q; exact known_fn h3
  exact ⟨h3, AmFn.dos plays_code (by simp) (Dos.run (M := []) _ (by intro x hx; simp at hx; subst hx; exact kn) d1 (.leave (M := []) (M1 := []) (i := 0) (Dos.loop d2) rfl (.ret (Dos.runRet _ hA d3)))) (vs := [sv env3 2]) rfl k2⟩
end Go.Proofs.Ytmifpiglcphmoaa.Plays
