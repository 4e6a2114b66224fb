import Derived.Test.YtmifpiglcphmoaaDPlaysA
/- THE WALK'S PARTS, part B: what the functions of the law compute, over the abstract machine that stands beside this text. No condition. -/
set_option linter.unusedSimpArgs false
set_option linter.unusedVariables false
namespace Go.Proofs.Ytmifpiglcphmoaa.DPlays
open Go Go.Proofs.Ytmifpiglcphmoaa.Am Go.Proofs

/-- What Lay, Clear answer. -/
def Dk.layE (d : Dk) (n : Int) (b : List UInt8) : Int := if n = 0 ∨ n = 1 then (if d.cap - ((d.area n).length : Int) < b.length then 8 else 0) else 2
def Dk.layD (d : Dk) (n : Int) (b : List UInt8) : Dk := if d.layE n b = 0 then d.put ⟨1, n, b⟩ else d
def Dk.clearE (_ : Dk) (n : Int) : Int := if n = 0 ∨ n = 1 then 0 else 2
def Dk.clearD (d : Dk) (n : Int) : Dk := if d.clearE n = 0 then d.put ⟨2, n, []⟩ else d
def Dk.turnD (d : Dk) : Dk := d.put ⟨3, 0, []⟩

theorem cells64 (z : Int) : (int64 z).cells = [int64 z] := rfl

section
variable {κ : Pos → Nat} {c : Nat} {h : Hp} {p : Pos} {d : Dk} {V : Vs} {ws : List (Wr × AV)}

theorem DkAt.larea (a : DkAt κ c h p d V ws) {n : Int} (hn : n = 0 ∨ n = 1) : ∃ v, read1 h p 0 (2 + n.toNat) = some v ∧ SlN h 1 v (d.area n).length (byt (d.area n)) := by
  rcases hn with e | e <;> subst e
  · exact ⟨V.v0, a.l2, a.v0.hd.sl⟩
  · exact ⟨V.v1, a.l3, a.v1.hd.sl⟩

theorem area_le (a : d.Ok) (n : Int) : ((d.area n).length : Int) ≤ d.cap := by
  have := a.a0
  have := a.a1
  unfold Dk.area
  split <;> assumption

/-- How much room there is. -/
theorem room_5 (a : DkAt κ c h p d V ws) {n : Int} (hn : n = 0 ∨ n = 1) {v : AV} {m : Nat} {b : List UInt8} (r : SlN h 1 v m (byt b)) {env : T AV} (s0 : sv env 0 = .ptr p 0 0) (s1 : sv env 1 = int64 n) (s2 : sv env 2 = v) :
    ∃ env', Dos Try.prog 36 (.drawn dlay_5) env h .go [] env' h ∧ sv env' 0 = .ptr p 0 0 ∧ sv env' 1 = int64 n ∧ sv env' 2 = v ∧ sv env' 15 = .bool (decide (d.cap - ((d.area n).length : Int) < b.length)) := by
  have hm : m = b.length := by have := r.length; rw [byt_length] at this; omega
  obtain ⟨va, la, ra⟩ := a.larea hn
  have hla := ra.lenI (P := Try.prog) h
  have hlv := r.lenI (P := Try.prog) h
  have l0 := a.l0
  have hc := a.ok.cap
  have hle := area_le a.ok n
  have w1 : wrapA .i64 (d.cap - ((d.area n).length : Int)) = d.cap - ((d.area n).length : Int) := wrap64 (by omega) (by omega)
  have hn2 : 0 ≤ n ∧ n < 2 := by omega
  subst hm
  obtain ⟨env', acts, lds, e, f0, f1, f2, f15⟩ : ∃ env' acts lds, runD Try.prog noRec 0 dlay_5 ⟨[], [], [], h.next, env, h⟩ = some ⟨acts, lds, [], h.next, env', h⟩ ∧ sv env' 0 = .ptr p 0 0 ∧ sv env' 1 = int64 n ∧ sv env' 2 = v ∧ sv env' 15 = .bool (decide (d.cap - ((d.area n).length : Int) < b.length)) := by
    simp [dlay_5, runD, stepD, kindOf, lookBack, wanted_no, ev_tm, ev_vl, sv_setD, qev_mov, qev_bin, bin_sub, bin_gtr, opt_some, qev_load1, qev_nilC, nilC_ptr, qev_fld, fldA_ptr, qev_idxArr, idxA2_ptr, s0, s1, s2, l0, hla, hlv, la, hn2, w1]
  exact ⟨env', Dos.drawn (noRec_sound _) (runDrawn_of (acts := acts) (lds := lds) (by simp [dlay_5, skipIds, isAlloc, kindOf]) e), f0, f1, f2, f15⟩

theorem dlay_fn (a : DkAt κ c h p d V ws) (n : Int) {v : AV} {m : Nat} {b : List UInt8} (r : SlN h 1 v m (byt b)) (hl : d.ws.length ≤ 100000) :
    ∃ κ' h' V' ws', AmFn Try.prog 36 [.ptr p 0 0, int64 n, v] h (int64 (d.layE n b)) h' ∧ Agr h κ κ' ∧ Chg κ (Wk c) h h' ∧ DkAt κ' c h' p (d.layD n b) V' ws' := by
  have hm : m = b.length := by have := r.length; rw [byt_length] at this; omega
  have k1 := there_fn a
  have k2 := area_fn h n
  by_cases hn : n = 0 ∨ n = 1
  · obtain ⟨env1, e1, s0, s1, s2⟩ : ∃ env', runS Try.prog false dlay_fu.body [⟨63, [.ptr p 0 0], h, .bool true, h⟩, ⟨64, [int64 n], h, .bool (decide (n = 0 ∨ n = 1)), h⟩] (setArgs .e 0 [.ptr p 0 0, int64 n, v]) h = some (.upt [.code (.drawn dlay_5), .code (.cond (tm 15) (.seq (.region dlay_6) .ret) .skip), .inBlock 0, .code (.seq (.region dlay_7) .ret)], [], env', h) ∧ sv env' 0 = .ptr p 0 0 ∧ sv env' 1 = int64 n ∧ sv env' 2 = v := by
      unfold dlay_fu
      simp [dlay_0, dlay_1, dlay_3, runS, runR, Rs.seq, Rs.block, sv_args, runOps, wanted_no, ev_tm, ev_vl, sv_setD, qev_mov, qev_un, un_not, opt_some, qev_callv, callA_ok ok63, callA_ok ok64, hn]
    have hA : ∀ x ∈ [(⟨63, [.ptr p 0 0], h, .bool true, h⟩ : KC), ⟨64, [int64 n], h, .bool (decide (n = 0 ∨ n = 1)), h⟩], AmFn Try.prog x.f x.args x.h x.v x.h' := by
      intro x hx
      simp only [List.mem_cons, List.not_mem_nil, or_false] at hx
      rcases hx with q | q <;> subst q
      · exact k1
      · exact k2
    obtain ⟨env2, d2, t0, t1, t2, t15⟩ := room_5 a hn r s0 s1 s2
    by_cases hf : d.cap - ((d.area n).length : Int) < b.length
    · have he : d.layE n b = 8 := by unfold Dk.layE; rw [if_pos hn, if_pos hf]
      have hd : d.layD n b = d := by unfold Dk.layD; rw [he]; rfl
      rw [he, hd]
      rw [decide_eq_true hf] at t15
      obtain ⟨env3, e3, f6⟩ : ∃ env', runS Try.prog true (.seq (.region dlay_6) .ret) [] env2 h = some (.ret, [], env', h) ∧ sv env' 6 = int64 8 := by
        simp [dlay_6, runS, runR, Rs.seq, Rs.block, runOps, wanted_no, wanted_sv, ev_tm, ev_vl, sv_setD, sv_set, setD_none, qev_mov, qev_bin, qev_un, qev_lenI, qev_pick, qev_load1, qev_idxSl, idx2_sl, idxA2_ptr, opt_some, bin_add, bin_sub, bin_mul, bin_lss, bin_leq, bin_gtr, bin_geq, bin_eql, bin_neq, un_not, un_neg, qev_callv, qev_new1, qev_store1, qev_nilC, nilC_ptr, qev_fld, fldA_ptr, qev_extract, nth0, nth1, nth2, qev_eqPtr, sameP_nil, notIf]
      exact ⟨κ, h, V, ws, AmFn.dos dlay_code (by simp) (Dos.run (M := []) _ hA e1 (DosL.more (M := []) (M1 := []) d2 (DosL.ret (Dos.cond (t := true) t15 (Dos.runRet [] (by simp) e3))))) (vs := [sv env3 6]) rfl f6, .refl, .refl, a⟩
    · have he : d.layE n b = 0 := by unfold Dk.layE; rw [if_pos hn, if_neg hf]
      have hd : d.layD n b = d.put ⟨1, n, b⟩ := by unfold Dk.layD; rw [if_pos he]
      rw [he, hd]
      rw [decide_eq_false hf] at t15
      have hle := area_le a.ok n
      have hc := a.ok.cap
      obtain ⟨v', h1, k3, hd1, o1⟩ := clb_fn r (okSize_small' (by omega) (by omega))
      have g1 := newK'_agr κ h (c + 4)
      have A1 := a.more o1 g1
      have r1 := (hd1.new κ (c + 4)).sl
      generalize newK' κ h (c + 4) = κ1 at *
      obtain ⟨κ2, h2, V2, k4, g2, ch2, A2⟩ := do_fn A1 (w := ⟨1, n, b⟩) ⟨.inl rfl, hn, fun _ => by show ((d.area n).length : Int) + b.length ≤ d.cap; omega, by show b.length ≤ 1048576; omega, fun q => (by cases q), fun q => (by cases q)⟩ r1 hl
      have k4 : AmFn Try.prog 65 [.ptr p 0 0, .agg [int64 1, int64 n, v']] h1 (int64 0) h2 := k4
      have vc := r1.sl.atom.2
      obtain ⟨env3, e3, f6⟩ : ∃ env', runS Try.prog true (.seq (.region dlay_7) .ret) [⟨58, [v], h, v', h1⟩, ⟨65, [.ptr p 0 0, .agg [int64 1, int64 n, v']], h1, int64 0, h2⟩] env2 h = some (.ret, [], env', h2) ∧ sv env' 6 = int64 0 := by
        simp [dlay_7, runS, runR, Rs.seq, Rs.block, runOps, wanted_no, wanted_sv, ev_tm, ev_vl, sv_setD, sv_set, setD_none, qev_mov, qev_bin, qev_un, qev_lenI, qev_pick, qev_load1, qev_idxSl, idx2_sl, idxA2_ptr, opt_some, bin_add, bin_sub, bin_mul, bin_lss, bin_leq, bin_gtr, bin_geq, bin_eql, bin_neq, un_not, un_neg, qev_callv, qev_new1, qev_store1, qev_nilC, nilC_ptr, qev_fld, fldA_ptr, qev_extract, nth0, nth1, nth2, qev_eqPtr, sameP_nil, notIf, t0, t1, t2, callA_ok ok58, callA_ok ok65, qev_build, fillA, cells64, vc, show Nat.ble 1 3 = true from rfl, show Nat.ble 2 3 = true from rfl, show Nat.ble 3 3 = true from rfl]
      have hB : ∀ x ∈ [(⟨58, [v], h, v', h1⟩ : KC), ⟨65, [.ptr p 0 0, .agg [int64 1, int64 n, v']], h1, int64 0, h2⟩], AmFn Try.prog x.f x.args x.h x.v x.h' := by
        intro x hx
        simp only [List.mem_cons, List.not_mem_nil, or_false] at hx
        rcases hx with q | q <;> subst q
        · exact k3
        · exact k4
      refine ⟨κ2, h2, V2, _, AmFn.dos dlay_code (by simp) (Dos.run (M := []) _ hA e1 (DosL.more (M := []) (M1 := []) d2 (DosL.more (M := []) (M1 := []) (Dos.cond (t := false) t15 .skip) (DosL.inBlock (DosL.ret (Dos.runRet _ hB e3)))))) (vs := [sv env3 6]) rfl f6, g1.trans g2 o1.next, (Chg.of o1).trans g1 ch2, A2⟩
  · have he : d.layE n b = 2 := by unfold Dk.layE; rw [if_neg hn]
    have hd : d.layD n b = d := by unfold Dk.layD; rw [he]; rfl
    rw [he, hd]
    obtain ⟨env1, e1, f6⟩ : ∃ env', runS Try.prog true dlay_fu.body [⟨63, [.ptr p 0 0], h, .bool true, h⟩, ⟨64, [int64 n], h, .bool (decide (n = 0 ∨ n = 1)), h⟩] (setArgs .e 0 [.ptr p 0 0, int64 n, v]) h = some (.ret, [], env', h) ∧ sv env' 6 = int64 2 := by
      unfold dlay_fu
      simp [dlay_0, dlay_1, dlay_3, dlay_4, runS, runR, Rs.seq, Rs.block, sv_args, runOps, wanted_no, ev_tm, ev_vl, sv_setD, qev_mov, qev_un, un_not, opt_some, qev_callv, callA_ok ok63, callA_ok ok64, hn]
    refine ⟨κ, h, V, ws, AmFn.dos dlay_code (by simp) (Dos.runRet _ (fun x hx => ?_) e1) (vs := [sv env1 6]) rfl f6, .refl, .refl, a⟩
    simp only [List.mem_cons, List.not_mem_nil, or_false] at hx
    rcases hx with q | q <;> subst q
    · exact k1
    · exact k2
end
end Go.Proofs.Ytmifpiglcphmoaa.DPlays

namespace Go.Proofs.Ytmifpiglcphmoaa.DPlays
open Go Go.Proofs.Ytmifpiglcphmoaa.Am Go.Proofs

section
variable {κ : Pos → Nat} {c : Nat} {h : Hp} {p : Pos} {d : Dk} {V : Vs} {ws : List (Wr × AV)}

theorem dclear_fn (a : DkAt κ c h p d V ws) (n : Int) (hl : d.ws.length ≤ 100000) :
    ∃ κ' h' V' ws', AmFn Try.prog 37 [.ptr p 0 0, int64 n] h (int64 (d.clearE n)) h' ∧ Agr h κ κ' ∧ Chg κ (Wk c) h h' ∧ DkAt κ' c h' p (d.clearD n) V' ws' := by
  have k1 := there_fn a
  have k2 := area_fn h n
  by_cases hn : n = 0 ∨ n = 1
  · have he : d.clearE n = 0 := by unfold Dk.clearE; rw [if_pos hn]
    have hd : d.clearD n = d.put ⟨2, n, []⟩ := by unfold Dk.clearD; rw [if_pos he]
    rw [he, hd]
    obtain ⟨κ2, h2, V2, k4, g2, ch2, A2⟩ := do_fn a (w := ⟨2, n, []⟩) ⟨.inr (.inl rfl), hn, fun q => (by cases q), by simp, fun _ => rfl, fun q => (by cases q)⟩ (dv := .nilSl) (m := 0) .nil hl
    have k4 : AmFn Try.prog 65 [.ptr p 0 0, .agg [int64 2, int64 n, .nilSl]] h (int64 0) h2 := k4
    obtain ⟨env1, e1, f4⟩ : ∃ env', runS Try.prog true dclear_fu.body [⟨63, [.ptr p 0 0], h, .bool true, h⟩, ⟨64, [int64 n], h, .bool (decide (n = 0 ∨ n = 1)), h⟩, ⟨65, [.ptr p 0 0, .agg [int64 2, int64 n, .nilSl]], h, int64 0, h2⟩] (setArgs .e 0 [.ptr p 0 0, int64 n]) h = some (.ret, [], env', h2) ∧ sv env' 4 = int64 0 := by
      unfold dclear_fu
      simp [dclear_0, dclear_1, dclear_3, dclear_5, runS, runR, Rs.seq, Rs.block, sv_args, runOps, wanted_no, ev_tm, ev_vl, sv_setD, qev_mov, qev_un, un_not, opt_some, qev_callv, callA_ok ok63, callA_ok ok64, callA_ok ok65, qev_build, fillA, cells64, hn, show Nat.ble 1 3 = true from rfl, show Nat.ble 2 3 = true from rfl]
    refine ⟨κ2, h2, V2, _, AmFn.dos dclear_code (by simp) (Dos.runRet _ (fun x hx => ?_) e1) (vs := [sv env1 4]) rfl f4, g2, ch2, A2⟩
    simp only [List.mem_cons, List.not_mem_nil, or_false] at hx
    rcases hx with q | q | q <;> subst q
    · exact k1
    · exact k2
    · exact k4
  · have he : d.clearE n = 2 := by unfold Dk.clearE; rw [if_neg hn]
    have hd : d.clearD n = d := by unfold Dk.clearD; rw [he]; rfl
    rw [he, hd]
    obtain ⟨env1, e1, f4⟩ : ∃ env', runS Try.prog true dclear_fu.body [⟨63, [.ptr p 0 0], h, .bool true, h⟩, ⟨64, [int64 n], h, .bool (decide (n = 0 ∨ n = 1)), h⟩] (setArgs .e 0 [.ptr p 0 0, int64 n]) h = some (.ret, [], env', h) ∧ sv env' 4 = int64 2 := by
      unfold dclear_fu
      simp [dclear_0, dclear_1, dclear_3, dclear_4, runS, runR, Rs.seq, Rs.block, sv_args, runOps, wanted_no, ev_tm, ev_vl, sv_setD, qev_mov, qev_un, un_not, opt_some, qev_callv, callA_ok ok63, callA_ok ok64, hn]
    refine ⟨κ, h, V, ws, AmFn.dos dclear_code (by simp) (Dos.runRet _ (fun x hx => ?_) e1) (vs := [sv env1 4]) rfl f4, .refl, .refl, a⟩
    simp only [List.mem_cons, List.not_mem_nil, or_false] at hx
    rcases hx with q | q <;> subst q
    · exact k1
    · exact k2

theorem dturn_fn (a : DkAt κ c h p d V ws) (hl : d.ws.length ≤ 100000) :
    ∃ κ' h' V' ws', AmFn Try.prog 38 [.ptr p 0 0] h (int64 0) h' ∧ Agr h κ κ' ∧ Chg κ (Wk c) h h' ∧ DkAt κ' c h' p d.turnD V' ws' := by
  have k1 := there_fn a
  obtain ⟨κ2, h2, V2, k4, g2, ch2, A2⟩ := do_fn a (w := ⟨3, 0, []⟩) ⟨.inr (.inr rfl), .inl rfl, fun q => (by cases q), by simp, fun q => (by cases q), fun _ => ⟨rfl, rfl⟩⟩ (dv := .nilSl) (m := 0) .nil hl
  have k4 : AmFn Try.prog 65 [.ptr p 0 0, .agg [int64 3, int64 0, .nilSl]] h (int64 0) h2 := k4
  obtain ⟨env1, e1, f2⟩ : ∃ env', runS Try.prog true dturn_fu.body [⟨63, [.ptr p 0 0], h, .bool true, h⟩, ⟨65, [.ptr p 0 0, .agg [int64 3, int64 0, .nilSl]], h, int64 0, h2⟩] (setArgs .e 0 [.ptr p 0 0]) h = some (.ret, [], env', h2) ∧ sv env' 2 = int64 0 := by
    unfold dturn_fu
    simp [dturn_0, dturn_1, dturn_3, runS, runR, Rs.seq, Rs.block, sv_args, runOps, wanted_no, ev_tm, ev_vl, sv_setD, qev_mov, qev_un, un_not, opt_some, qev_callv, callA_ok ok63, callA_ok ok65, qev_build, fillA, cells64, show Nat.ble 1 3 = true from rfl]
  refine ⟨κ2, h2, V2, _, AmFn.dos dturn_code (by simp) (Dos.runRet _ (fun x hx => ?_) e1) (vs := [sv env1 2]) rfl f2, g2, ch2, A2⟩
  simp only [List.mem_cons, List.not_mem_nil, or_false] at hx
  rcases hx with q | q <;> subst q
  · exact k1
  · exact k4
end

/-! ### Of -/

/-- What Of answers. -/
def ofE (cap used : Int) (a b : List UInt8) : Int := if cap < 1 ∨ 1048576 < cap ∨ used < 0 ∨ 1 < used then 2 else if cap < a.length ∨ cap < b.length then 8 else 0

def ofD (cap used : Int) (a b : List UInt8) : Dk := ⟨cap, used, used, a, b, a, b, []⟩

/-- Of, where it refuses. -/
theorem of_no {h : Hp} {cap used : Int} {va vb : AV} {na nb : Nat} {a b : List UInt8} (ra : SlN h 1 va na (byt a)) (rb : SlN h 1 vb nb (byt b)) (he : ofE cap used a b ≠ 0) : AmFn Try.prog 34 [int64 cap, int64 used, va, vb] h (.tup [.nilPtr, int64 (ofE cap used a b)]) h := by
  have ha : na = a.length := by have := ra.length; rw [byt_length] at this; omega
  have hb : nb = b.length := by have := rb.length; rw [byt_length] at this; omega
  subst ha hb
  have la := ra.lenI (P := Try.prog) h
  have lb := rb.lenI (P := Try.prog) h
  obtain ⟨env1, e1, f8, f9⟩ : ∃ env', runS Try.prog true of_fu.body [] (setArgs .e 0 [int64 cap, int64 used, va, vb]) h = some (.ret, [], env', h) ∧ sv env' 8 = .nilPtr ∧ sv env' 9 = int64 (ofE cap used a b) := by
    unfold of_fu ofE
    unfold ofE at he
    by_cases h1 : cap < 1
    · simp [of_0, of_1, of_2, runS, runR, Rs.seq, Rs.block, sv_args, runOps, wanted_no, wanted_sv, ev_tm, ev_vl, sv_setD, setD_none, qev_mov, qev_bin, qev_pick, bin_lss, bin_gtr, opt_some, h1]
    · by_cases h2 : 1048576 < cap
      · simp [of_0, of_1, of_2, runS, runR, Rs.seq, Rs.block, sv_args, runOps, wanted_no, wanted_sv, ev_tm, ev_vl, sv_setD, setD_none, qev_mov, qev_bin, qev_pick, bin_lss, bin_gtr, opt_some, h1, h2]
      · by_cases h3 : used < 0
        · simp [of_0, of_1, of_2, runS, runR, Rs.seq, Rs.block, sv_args, runOps, wanted_no, wanted_sv, ev_tm, ev_vl, sv_setD, setD_none, qev_mov, qev_bin, qev_pick, bin_lss, bin_gtr, opt_some, h1, h2, h3]
        · by_cases h4 : 1 < used
          · simp [of_0, of_1, of_2, runS, runR, Rs.seq, Rs.block, sv_args, runOps, wanted_no, wanted_sv, ev_tm, ev_vl, sv_setD, setD_none, qev_mov, qev_bin, qev_pick, bin_lss, bin_gtr, opt_some, h1, h2, h3, h4]
          · by_cases h5 : cap < (a.length : Int)
            · simp [of_0, of_1, of_3, of_4, runS, runR, Rs.seq, Rs.block, sv_args, runOps, wanted_no, wanted_sv, ev_tm, ev_vl, sv_setD, setD_none, qev_mov, qev_bin, qev_pick, bin_lss, bin_gtr, opt_some, h1, h2, h3, h4, h5, la]
            · have h6 : cap < (b.length : Int) := by
                refine Classical.byContradiction fun h6 => he ?_
                rw [if_neg (by omega), if_neg (by omega)]
              simp [of_0, of_1, of_3, of_4, runS, runR, Rs.seq, Rs.block, sv_args, runOps, wanted_no, wanted_sv, ev_tm, ev_vl, sv_setD, setD_none, qev_mov, qev_bin, qev_pick, bin_lss, bin_gtr, opt_some, h1, h2, h3, h4, h5, h6, la, lb]
  exact AmFn.dos of_code (by simp) (Dos.runRet [] (by simp) e1) (vs := [sv env1 8, sv env1 9]) rfl (by rw [f8, f9]; rfl)

theorem of_ok {cap used : Int} {a b : List UInt8} (he : ofE cap used a b = 0) : (ofD cap used a b).Ok := by
  unfold ofE at he
  split at he
  · cases he
  · split at he
    · cases he
    · unfold ofD
      exact ⟨by constructor <;> (simp only; omega), by simp only; omega, by simp only; omega, by simp only; omega, by simp only; omega, by simp only; omega, by simp only; omega⟩
end Go.Proofs.Ytmifpiglcphmoaa.DPlays

namespace Go.Proofs.Ytmifpiglcphmoaa.DPlays
open Go Go.Proofs.Ytmifpiglcphmoaa.Am Go.Proofs

theorem cellsAgg (l : List AV) : (AV.agg l).cells = l := rfl

/-- Of, where it answers a disk. -/
theorem of_yes (κ : Pos → Nat) (c : Nat) {h : Hp} {cap used : Int} {va vb : AV} {na nb : Nat} {a b : List UInt8} (ra : SlN h 1 va na (byt a)) (rb : SlN h 1 vb nb (byt b)) (he : ofE cap used a b = 0) :
    ∃ κ' h' V' q, AmFn Try.prog 34 [int64 cap, int64 used, va, vb] h (.tup [.ptr q 0 0, int64 0]) h' ∧ Agr h κ κ' ∧ Only [] h h' ∧ DkAt κ' c h' q (ofD cap used a b) V' [] ∧ h.next.num ≤ q.num := by
  have hok := of_ok he
  have ha : na = a.length := by have := ra.length; rw [byt_length] at this; omega
  have hb : nb = b.length := by have := rb.length; rw [byt_length] at this; omega
  subst ha hb
  have hla : (a.length : Int) ≤ cap := hok.a0
  have hlb : (b.length : Int) ≤ cap := hok.a1
  have hcap : 0 < cap ∧ cap ≤ 1048576 := hok.cap
  have hus : used = 0 ∨ used = 1 := hok.us
  have oka : okSize a.length 1 = true := okSize_small' (by omega) (by omega)
  have okb : okSize b.length 1 = true := okSize_small' (by omega) (by omega)
  have la := ra.lenI (P := Try.prog) h
  have lb := rb.lenI (P := Try.prog) h
  obtain ⟨v1, h1, k1, hd1, o1⟩ := clb_fn ra oka
  obtain ⟨v2, h2, k2, hd2, o2⟩ := clb_fn (rb.more o1) okb
  have c1 := hd1.sl.atom
  have c2 := hd2.sl.atom
  have o3 : Only [] h2 (newH h2 fun s => .cells s (Cells.ofL [.nilSl, .nilSl]) 0 0 0 0 false false) := newH_only _ _ _
  have b3 := newH_arr h2 [.nilSl, .nilSl]
  have nw := qev_newL Try.prog
  obtain ⟨h4, st, b4, o4, n4⟩ := storeN_arr Try.prog b3 (xs := [v1, v2]) rfl (by simp) (fun x hx => by
    simp only [List.mem_cons, List.not_mem_nil, or_false] at hx
    rcases hx with q | q <;> subst q
    · exact c1.1
    · exact c2.1)
  simp only [List.length_cons, List.length_nil] at st
  have o24 : Only [] h2 h4 := ((o3.mono (S' := [h2.next]) (by simp)).trans o4).mono fun id hid => .inr (by simp only [List.mem_singleton] at hid; subst hid; exact Nat.le_refl _)
  obtain ⟨env1, e1, s0, s1, s2, s3, s10⟩ : ∃ env', runS Try.prog false of_fu.body [⟨58, [va], h, v1, h1⟩, ⟨58, [vb], h1, v2, h2⟩] (setArgs .e 0 [int64 cap, int64 used, va, vb]) h = some (.upt [.code (.drawn of_6), .code .ret], [], env', h4) ∧ sv env' 0 = int64 cap ∧ sv env' 1 = int64 used ∧ sv env' 2 = va ∧ sv env' 3 = vb ∧ sv env' 10 = .ptr h2.next 0 0 := by
    unfold of_fu
    have q1 : ¬ cap < 1 := by omega
    have q2 : ¬ 1048576 < cap := by omega
    have q3 : ¬ used < 0 := by omega
    have q4 : ¬ 1 < used := by omega
    have q5 : ¬ cap < (a.length : Int) := by omega
    have q6 : ¬ cap < (b.length : Int) := by omega
    simp [of_0, of_1, of_3, of_5, runS, runR, Rs.seq, Rs.block, sv_args, runOps, wanted_no, wanted_sv, ev_tm, ev_vl, sv_setD, setD_none, qev_mov, qev_bin, qev_pick, bin_lss, bin_gtr, opt_some, qev_callv, callA_ok ok58, qev_build, fillA, c1.2, c2.2, nw, st, q1, q2, q3, q4, q5, q6, la, lb, show Nat.ble 1 2 = true from rfl, show Nat.ble 2 2 = true from rfl]
  -- the two areas, and the disk
  have oS := skipH_only h4
  have nS := skipH_next h4
  have o4' : Only [] h (skipH h4) := ((o1.trans o2).trans o24).trans oS
  obtain ⟨v3, h5, k3, hd3, o5⟩ := clb_fn (ra.more o4') oka
  obtain ⟨v4, h6, k4, hd4, o6, hsame⟩ : ∃ v4 h6, AmFn Try.prog 58 [vb] h5 v4 h6 ∧ Held h5.next.num h6 1 v4 b.length (byt b) ∧ Only [] h5 h6 ∧ (vb = va → h5 = skipH h4 → v4 = v3 ∧ h6 = h5) := by
    by_cases same : vb = va ∧ h5 = skipH h4
    · obtain ⟨e1, e2⟩ := same
      have eab : a = b := by
        have qa := ra.str (P := Try.prog) .e (vl va) rfl
        have qb := rb.str (P := Try.prog) .e (vl va) e1.symm
        rw [qa] at qb
        exact strOf_inj (Res.val.inj qb).1
      refine ⟨v3, h5, ?_, ?_, .refl _ _, fun _ _ => ⟨rfl, rfl⟩⟩
      · have := k3
        rw [e1]
        rw [← e2] at this
        exact this
      · rw [← eab]
        have := hd3
        rw [← e2] at this
        exact this
    · obtain ⟨v4, h6, k4, hd4, o6⟩ := clb_fn (rb.more (o4'.trans o5)) okb
      exact ⟨v4, h6, k4, hd4, o6, fun q1 q2 => absurd ⟨q1, q2⟩ same⟩
  have c3 := hd3.sl.atom
  have c4 := hd4.sl.atom
  have hsound := recG_sound (P := Try.prog) (A := [⟨58, [va], skipH h4, v3, h5⟩, ⟨58, [vb], h5, v4, h6⟩]) (by
    intro k hk
    simp only [List.mem_cons, List.not_mem_nil, or_false] at hk
    rcases hk with q | q <;> subst q
    · exact k3
    · exact k4)
  have R1 := recG_hit (P := Try.prog) 58 [va] (skipH h4) v3 h5 [⟨58, [vb], h5, v4, h6⟩]
  have R2 := recG_next (P := Try.prog) (a := ⟨58, [va], skipH h4, v3, h5⟩) (recG_hit (P := Try.prog) 58 [vb] h5 v4 h6 []) (fun q1 q2 => by
    have q3 := congrArg Fr.env q1
    rw [frOf_env k4, frOf_env k3] at q3
    have q4 : vb = va := by
      have := congrArg (fun e => sv e 0) q3
      simpa [sv_args] using this
    obtain ⟨r1, r2⟩ := hsame q4 q2
    rw [r1, r2])
  have bg1 := k3.begins.1
  have bg2 := k4.begins.1
  generalize recG Try.prog [⟨58, [va], skipH h4, v3, h5⟩, ⟨58, [vb], h5, v4, h6⟩] = R at *
  have eS : (⟨h4.heap, h4.next.succ, h4.ser, h4.lim⟩ : Hp) = skipH h4 := rfl
  have ldS := (b4.only oS (by simp)).whole Try.prog (n := 2) rfl
  have ld5 := ((b4.only oS (by simp)).only o5 (by simp)).whole Try.prog (n := 2) rfl
  have ld6 := (((b4.only oS (by simp)).only o5 (by simp)).only o6 (by simp)).whole Try.prog (n := 2) rfl
  have bx : ∀ env ser lim x, ev env x = .agg [int64 cap, int64 used, v3, v4, v1, v2, int64 used, .nilSl] → evalOp Try.prog (.box x) env ⟨.e, h4.next, ser, lim⟩ = .val (.ptr h4.next 0 0) ⟨T.set h4.next (some (.cells ser (Cells.ofL [int64 cap, int64 used, v3, v4, v1, v2, int64 used, .nilSl]) 0 0 0 0 false false)) .e, h4.next.succ, Nat.succ ser, lim⟩ :=
    fun env ser lim x hx => box_resv Try.prog hx
  have hz : ∀ hh : Hp, (⟨hh.heap, hh.next, hh.ser, hh.lim⟩ : Hp) = hh := fun _ => rfl
  have ev2 : eqAV 8 (.agg [v1, v2]) (.agg [v1, v2]) = true := eqAV_agg 7 (fun x hx => by
    simp only [List.mem_cons, List.not_mem_nil, or_false] at hx
    rcases hx with q | q <;> subst q
    · exact hd1.sl.eqv 6
    · exact hd2.sl.eqv 6)
  obtain ⟨env2, acts, lds, e2, f8, f9⟩ : ∃ env2 acts lds, runE Try.prog R 0 of_6 ⟨[], [], [], h4.next, env1, skipH h4⟩ = some ⟨acts, lds, [⟨10, h4.next, .cells h6.ser (Cells.ofL [int64 cap, int64 used, v3, v4, v1, v2, int64 used, .nilSl]) 0 0 0 0 false false⟩], h4.next.succ, env2, h6⟩ ∧ sv env2 8 = .ptr h4.next 0 0 ∧ sv env2 9 = int64 0 := by
    simp [of_6, runE, stepE, stepD, kindOf, lookBack, lookAgain, actO, insT, putT, remAl, bit, wanted_no, ev_tm, ev_vl, sv_setD, setD_none, qev_mov, opt_some, qev_callv, callA_ok ok58, bg1, bg2, R1, R2, qev_build, fillA, cells64, cellsAgg, c3.2, c4.2, s0, s1, s2, s3, s10, hz, ldS, ld5, ld6, ev2, bx, T.get_set, show Nat.ble 1 2 = true from rfl, show Nat.ble 2 2 = true from rfl, show Nat.ble 1 8 = true from rfl, show Nat.ble 2 8 = true from rfl, show Nat.ble 4 8 = true from rfl, show Nat.ble 6 8 = true from rfl, show Nat.ble 7 8 = true from rfl, show Nat.beq 2 2 = true from rfl]
  have d2 : runDrawn Try.prog R of_6 env1 h4 = some (env2, layH h6 h4.next (.cells h6.ser (Cells.ofL [int64 cap, int64 used, v3, v4, v1, v2, int64 used, .nilSl]) 0 0 0 0 false false)) := by
    refine runDrawn_ofE1 (rid := h4.next.succ) (acts := acts) (lds := lds) (a := ⟨10, h4.next, .cells h6.ser (Cells.ofL [int64 cap, int64 used, v3, v4, v1, v2, int64 used, .nilSl]) 0 0 0 0 false false⟩) ?_
    have hsk : skipIds of_6 h4.next = h4.next.succ := by simp [of_6, skipIds, isAlloc, kindOf]
    rw [hsk]
    exact e2
  have n5 := o5.next
  have n6 := o6.next
  have hq : h4.next.num < h6.next.num := by omega
  have bq := layH_arr hq h6.ser [int64 cap, int64 used, v3, v4, v1, v2, int64 used, .nilSl]
  have oq := layH_only h6 h4.next (.cells h6.ser (Cells.ofL [int64 cap, int64 used, v3, v4, v1, v2, int64 used, .nilSl]) 0 0 0 0 false false)
  have n7 : (layH h6 h4.next (.cells h6.ser (Cells.ofL [int64 cap, int64 used, v3, v4, v1, v2, int64 used, .nilSl]) 0 0 0 0 false false)).next = h6.next := rfl
  generalize layH h6 h4.next (.cells h6.ser (Cells.ofL [int64 cap, int64 used, v3, v4, v1, v2, int64 used, .nilSl]) 0 0 0 0 false false) = h7 at *
  -- the kinds
  have g1 := newK'_agr κ h (c + 4)
  have K1 := hd1.new κ (c + 4)
  have K2 : KHd (newK' κ h (c + 4)) (c + 4) h2 1 v2 b.length (byt b) := ⟨hd2.weak (Nat.zero_le _), fun id q => newK'_new κ (c + 4) (by have := (hd2.old q).1; have := o1.next; omega)⟩
  generalize newK' κ h (c + 4) = κ1 at *
  have F1 := (K1.sl.chg (K := fun _ => False) (.of (o2.trans o24)) .refl (fun q => q))
  have F2 := (K2.sl.chg (K := fun _ => False) (.of o24) .refl (fun q => q))
  have g2 := newK'_agr κ1 h4 c
  have kq : newK' κ1 h4 c h4.next = c := newK'_new κ1 c (Nat.le_refl _)
  have F1 := F1.chg (K := fun _ => False) (.of oS) g2 (fun q => q)
  have F2 := F2.chg (K := fun _ => False) (.of oS) g2 (fun q => q)
  generalize newK' κ1 h4 c = κ2 at *
  have g3 := newK'_agr κ2 (skipH h4) (c + 1)
  have K3 := hd3.new κ2 (c + 1)
  have F1 := F1.chg (K := fun _ => False) (.of o5) g3 (fun q => q)
  have F2 := F2.chg (K := fun _ => False) (.of o5) g3 (fun q => q)
  have kq : newK' κ2 (skipH h4) (c + 1) h4.next = c := (g3 _ (by omega)).trans kq
  generalize newK' κ2 (skipH h4) (c + 1) = κ3 at *
  have g4 := newK'_agr κ3 h5 (c + 2)
  have K4 := hd4.new κ3 (c + 2)
  have F1 := F1.chg (K := fun _ => False) (.of o6) g4 (fun q => q)
  have F2 := F2.chg (K := fun _ => False) (.of o6) g4 (fun q => q)
  have K3 := K3.chg (K := fun _ => False) (.of o6) g4 (fun q => q)
  have kq : newK' κ3 h5 (c + 2) h4.next = c := (g4 _ (by omega)).trans kq
  generalize newK' κ3 h5 (c + 2) = κ4 at *
  have cq : Chg κ4 (fun j => j = c) h6 h7 := ⟨[h4.next], oq, fun id m _ => by simp at m; subst m; exact kq⟩
  have F1 := F1.chg cq .refl (by omega)
  have F2 := F2.chg cq .refl (by omega)
  have K3 := K3.chg cq .refl (by omega)
  have K4 := K4.chg cq .refl (by omega)
  have n1 := o1.next
  have n2 := o2.next
  have n24 := o24.next
  refine ⟨κ4, h7, ⟨v3, v4, v1, v2, .nilSl⟩, h4.next, AmFn.dos of_code (by simp) (Dos.run (M := []) _ (fun x hx => ?_) e1 (DosL.more (M := []) (M1 := []) (Dos.drawn hsound d2) (DosL.ret Dos.ret))) (vs := [sv env2 8, sv env2 9]) rfl (by rw [f8, f9]; rfl), ?_, ?_, ?_, by omega⟩
  · simp only [List.mem_cons, List.not_mem_nil, or_false] at hx
    rcases hx with q | q <;> subst q
    · exact k1
    · exact k2
  · exact ((g1.trans g2 (by omega)).trans g3 (by omega)).trans g4 (by omega)
  · exact (((o4'.trans o5).trans o6).mono (S' := [h4.next]) (by simp)).trans oq |>.mono fun id hid => .inr (by simp only [List.mem_singleton] at hid; subst hid; omega)
  · exact ⟨⟨bq, kq⟩, K3, K4, .nil, F1, F2, by simp, rfl, hok⟩
end Go.Proofs.Ytmifpiglcphmoaa.DPlays

namespace Go.Proofs.Ytmifpiglcphmoaa.DPlays
open Go Go.Proofs.Ytmifpiglcphmoaa.Am Go.Proofs

section
variable {κ κ' : Pos → Nat} {c c' : Nat} {h : Hp} {p q : Pos} {d e : Dk} {V V' : Vs} {ws ws' : List (Wr × AV)}

/-- Same, of two disks that are alike. -/
theorem same_yes (a : DkAt κ c h p d V ws) (b : DkAt κ' c' h q e V' ws') (hc : e.cap = d.cap) (hu : e.used = d.used) (h0 : e.a0 = d.a0) (h1 : e.a1 = d.a1) : AmFn Try.prog 41 [.ptr p 0 0, .ptr q 0 0] h (.bool true) h := by
  have ka := there_fn a
  have kb := there_fn b
  have k0 := equal_fn a.v0.hd.sl b.v0.hd.sl
  have k1 := equal_fn a.v1.hd.sl b.v1.hd.sl
  rw [h0, decide_eq_true rfl] at k0
  rw [h1, decide_eq_true rfl] at k1
  have al0 := a.l0
  have al1 := a.l1
  have al2 := a.l2
  have al3 := a.l3
  have bl0 := b.l0
  have bl1 := b.l1
  have bl2 := b.l2
  have bl3 := b.l3
  rw [hc] at bl0
  rw [hu] at bl1
  obtain ⟨env0, e0, s0, s1⟩ : ∃ env', runS Try.prog false same_fu.body [⟨63, [.ptr p 0 0], h, .bool true, h⟩, ⟨63, [.ptr q 0 0], h, .bool true, h⟩] (setArgs .e 0 [.ptr p 0 0, .ptr q 0 0]) h = some (.upt [.code (.drawn same_3), .code .ret], [], env', h) ∧ sv env' 0 = .ptr p 0 0 ∧ sv env' 1 = .ptr q 0 0 := by
    unfold same_fu
    simp [same_0, same_1, runS, runR, Rs.seq, Rs.block, sv_args, runOps, wanted_no, wanted_sv, ev_tm, ev_vl, sv_setD, setD_none, qev_mov, qev_un, un_not, qev_pick, opt_some, qev_callv, callA_ok ok63]
  have hsound := recG_sound (P := Try.prog) (A := [⟨69, [V.v0, V'.v0], h, .bool true, h⟩, ⟨69, [V.v1, V'.v1], h, .bool true, h⟩]) (by
    intro k hk
    simp only [List.mem_cons, List.not_mem_nil, or_false] at hk
    rcases hk with q | q <;> subst q
    · exact k0
    · exact k1)
  have R1 := recG_hit (P := Try.prog) 69 [V.v0, V'.v0] h (.bool true) h [⟨69, [V.v1, V'.v1], h, .bool true, h⟩]
  have R2 := recG_next (P := Try.prog) (a := ⟨69, [V.v0, V'.v0], h, .bool true, h⟩) (recG_hit (P := Try.prog) 69 [V.v1, V'.v1] h (.bool true) h []) (fun _ _ => rfl)
  have bg1 := k0.begins.1
  have bg2 := k1.begins.1
  generalize recG Try.prog [⟨69, [V.v0, V'.v0], h, .bool true, h⟩, ⟨69, [V.v1, V'.v1], h, .bool true, h⟩] = R at *
  have hz : ∀ hh : Hp, (⟨hh.heap, hh.next, hh.ser, hh.lim⟩ : Hp) = hh := fun _ => rfl
  obtain ⟨env1, lds1, e1, L1, f0, f1, f38, f43, f48⟩ : ∃ env1 lds1, runE Try.prog R 0 (same_3.take 31) ⟨[], [], [], h.next, env0, h⟩ = some ⟨[], lds1, [], h.next, env1, h⟩ ∧ (∀ d ∈ lds1, d.i < 31) ∧ sv env1 0 = .ptr p 0 0 ∧ sv env1 1 = .ptr q 0 0 ∧ sv env1 38 = .bool true ∧ sv env1 43 = V.v0 ∧ sv env1 48 = V'.v0 := by
    simp [same_3, runE, stepE, stepD, kindOf, lookBack, wanted_no, wanted_sv, ev_tm, ev_vl, sv_setD, setD_none, qev_mov, qev_bin, qev_pick, opt_some, bin_eql, qev_nilC, nilC_ptr, qev_fld, fldA_ptr, qev_load1, qev_idxArr, idxA2_ptr, s0, s1, al0, al1, al2, bl0, bl1, bl2]
    exact ⟨_, _, ⟨rfl, rfl⟩, by simp, by simp [sv_setD, s0, s1]⟩
  have ag1 : ∀ hh, lookAgain Try.prog hh 2147483647 lds1 = true := fun hh => again_ones (n := 31) (by decide) L1
  obtain ⟨env2, lds2, e2, L2, g51, g56, g61⟩ : ∃ env2 lds2, runE Try.prog R 31 ((same_3.drop 31).take 13) ⟨[], lds1, [], h.next, env1, h⟩ = some ⟨[⟨31, h⟩], lds2, [], h.next, env2, h⟩ ∧ (∀ d ∈ lds2, d.i < 44) ∧ sv env2 51 = .bool true ∧ sv env2 56 = V.v1 ∧ sv env2 61 = V'.v1 := by
    simp [same_3, runE, stepE, stepD, kindOf, actO, insT, putT, remAl, lookBack, bit, wanted_no, wanted_sv, ev_tm, ev_vl, sv_setD, setD_none, qev_mov, qev_bin, qev_pick, opt_some, qev_nilC, nilC_ptr, qev_fld, fldA_ptr, qev_load1, qev_idxArr, idxA2_ptr, qev_callv, callA_ok ok69, f0, f1, f38, f43, f48, al3, bl3, bg1, R1, hz, ag1, show Nat.testBit 274877906943 31 = true from by decide, show Nat.testBit 8263517077503 31 = true from by decide]
    exact ⟨_, _, ⟨rfl, rfl⟩, by simpa using fun d hd => Nat.lt_trans (L1 d hd) (by omega), by simp [sv_setD]⟩
  have ag2 : ∀ hh, lookAgain Try.prog hh 17592186044415 lds2 = true := fun hh => again_ones (n := 44) (by decide) L2
  obtain ⟨env3, acts, e3, g4⟩ : ∃ env3 acts, runE Try.prog R 44 (same_3.drop 44) ⟨[⟨31, h⟩], lds2, [], h.next, env2, h⟩ = some ⟨acts, lds2, [], h.next, env3, h⟩ ∧ sv env3 4 = .bool true := by
    simp [same_3, runE, stepE, stepD, kindOf, actO, insT, putT, remAl, lookBack, bit, wanted_no, wanted_sv, ev_tm, ev_vl, sv_setD, setD_none, qev_mov, qev_pick, opt_some, qev_callv, callA_ok ok69, g51, g56, g61, bg2, R2, hz, ag2]
  have d3 : runDrawn Try.prog R same_3 env0 h = some (env3, h) := by
    refine runDrawn_ofE (rid := h.next) (acts := acts) (lds := lds2) ?_
    have hsk : skipIds same_3 h.next = h.next := by simp [same_3, skipIds, isAlloc, kindOf]
    rw [hsk]
    have es : same_3 = same_3.take 31 ++ ((same_3.drop 31).take 13 ++ same_3.drop 44) := rfl
    rw [es, runE_app e1]
    show runE Try.prog R 31 _ _ = _
    rw [runE_app e2]
    exact e3
  refine AmFn.dos same_code (by simp) (Dos.run (M := []) _ (fun x hx => ?_) e0 (DosL.more (M := []) (M1 := []) (Dos.drawn hsound d3) (DosL.ret Dos.ret))) (vs := [sv env3 4]) rfl g4
  simp only [List.mem_cons, List.not_mem_nil, or_false] at hx
  rcases hx with q | q <;> subst q
  · exact ka
  · exact kb
end
end Go.Proofs.Ytmifpiglcphmoaa.DPlays

namespace Go.Proofs.Ytmifpiglcphmoaa.DPlays
open Go Go.Proofs.Ytmifpiglcphmoaa.Am Go.Proofs

theorem recs_atom {ws : List (Wr × AV)} (h : ∀ x ∈ ws, x.2.atom = true) : ∀ y ∈ recs ws, y.atom = true := fun y hy => by
  obtain ⟨x, hx, hy⟩ := List.mem_flatMap.1 hy
  simp only [rec1, List.mem_cons, List.not_mem_nil, or_false] at hy
  rcases hy with q | q | q <;> subst q
  · rfl
  · rfl
  · exact h x hx

/-- A copy of raw writes. -/
theorem clw_fn {h : Hp} {v : AV} {n : Nat} {ws : List (Wr × AV)} (r : SlN h 3 v n (recs ws)) (hat : ∀ x ∈ ws, x.2.atom = true) (ok : okSize n 40 = true) : ∃ v' h', AmFn Try.prog 66 [v] h v' h' ∧ Held h.next.num h' 3 v' n (recs ws) ∧ Only [] h h' := by
  have q := r.eqlNil (P := Try.prog)
  have hlen := r.length
  cases hn : v.isNil with
  | true =>
    have hv : v = .nilSl := by cases v <;> first | rfl | cases hn
    subst hv
    have r' : n = 0 := by
      generalize recs ws = l at r
      cases r
      rfl
    subst r'
    have e2 : recs ws = [] := List.length_eq_zero_iff.1 (by rw [hlen, Nat.zero_mul])
    rw [e2]
    obtain ⟨env', e, f⟩ : ∃ env', runS Try.prog true clw_fu.body [] (setArgs .e 0 [.nilSl]) h = some (.ret, [], env', h) ∧ sv env' 2 = .nilSl := by
      unfold clw_fu
      simp [clw_0, clw_1, clw_2, runS, runR, Rs.seq, Rs.block, sv_args, runOps, wanted_no, ev_tm, ev_vl, sv_setD, qev_mov, opt_some, q, hn]
    exact ⟨.nilSl, h, AmFn.dos clw_code (by simp) (Dos.runRet [] (by simp) e) (vs := [sv env' 2]) rfl f, .nil, .refl _ _⟩
  | false =>
    obtain ⟨h1, b1, o1, n1⟩ := emptySl Try.prog 3 [int64 0, int64 0, AV.nilSl] (by omega) h
    have hd1 : Held h.next.num h1 3 (.sl h.next 0 0 0 0 true 3) 0 [] := .inl ⟨rfl, rfl, .inr ⟨_, _, _, rfl, Nat.le_refl _, by omega⟩⟩
    obtain ⟨v', h2, S, ap, hd2, o2, hS, hv'⟩ := hd1.push Try.prog (bytes := 40) (r.more o1) (recs_atom hat) (by omega) (by simpa using ok) (by omega)
    obtain ⟨env', e, f⟩ : ∃ env', runS Try.prog true clw_fu.body [] (setArgs .e 0 [v]) h = some (.ret, [], env', h2) ∧ sv env' 2 = v' := by
      unfold clw_fu
      simp [clw_0, clw_1, clw_3, runS, runR, Rs.seq, Rs.block, sv_args, runOps, wanted_no, ev_tm, ev_vl, sv_setD, qev_mov, opt_some, q, hn, b1, ap]
    refine ⟨v', h2, AmFn.dos clw_code (by simp) (Dos.runRet [] (by simp) e) (vs := [sv env' 2]) rfl f, by simpa using hd2, ?_⟩
    exact (o1.mono (S' := S) (by simp)).trans o2 |>.mono fun id q => .inr (by obtain ⟨g, off, m, cap, ex, e⟩ := hS id q; cases e; exact Nat.le_refl _)

/-- What All answers, for its list. -/
theorem all_fn {κ : Pos → Nat} {c : Nat} {h : Hp} {p : Pos} {d : Dk} {V : Vs} {ws : List (Wr × AV)} (a : DkAt κ c h p d V ws) (hl : d.ws.length ≤ 100000) :
    ∃ v' h', AmFn Try.prog 39 [.ptr p 0 0] h (.fn (.func 67) [] [.ptr h.next 0 0]) h' ∧ Box h' h.next v' ∧ Held h.next.num h' 3 v' d.ws.length (recs ws) ∧ Only [] h h' ∧ ¬ InN 3 v' h.next := by
  have ob : Only [] h (newB h .nilSl) := newH_only _ _ _
  have nb : (newB h .nilSl).next.num = h.next.num + 1 := newH_next _ _
  have bb := newB_box h .nilSl
  have A1 := a.more ob .refl
  have k1 := there_fn A1
  have l7 := A1.l7
  obtain ⟨v', h2, k2, hd, o2⟩ := clw_fn A1.vw.hd.sl (fun x hx => (A1.dat x hx).sl.atom.1) (okSize_small (by omega) (by omega))
  have b2 := bb.only o2 (by simp)
  have at1 := hd.sl.atom
  have st := storeR_box b2 v' at1.1 at1.2
  have o3 := putB_only h2 h.next v'
  have b3 := putB_box b2 v'
  have hin : ∀ id, InN 3 v' id → h.next.num + 1 ≤ id.num := fun id q => by have := (hd.old q).1; omega
  obtain ⟨env', e, f⟩ : ∃ env', runS Try.prog true all_fu.body [⟨63, [.ptr p 0 0], newB h .nilSl, .bool true, newB h .nilSl⟩, ⟨66, [V.vw], newB h .nilSl, v', h2⟩] (setArgs .e 0 [.ptr p 0 0]) h = some (.ret, [], env', putB h2 h.next v') ∧ sv env' 2 = .fn (.func 67) [] [.ptr h.next 0 0] := by
    unfold all_fu
    simp [all_0, all_1, all_2, all_3, all_4, runS, runR, Rs.seq, Rs.block, sv_args, runOps, wanted_no, wanted_sv, ev_tm, ev_vl, sv_setD, sv_set, setD_none, qev_mov, qev_bin, qev_un, qev_lenI, qev_pick, qev_load1, qev_idxSl, idx2_sl, idxA2_ptr, opt_some, bin_add, bin_sub, bin_mul, bin_lss, bin_leq, bin_gtr, bin_geq, bin_eql, bin_neq, un_not, un_neg, qev_callv, qev_new1, qev_store1, qev_nilC, nilC_ptr, qev_fld, fldA_ptr, qev_extract, nth0, nth1, nth2, qev_eqPtr, sameP_nil, notIf, callA_ok ok63, callA_ok ok66, l7, st, qev_mkFn]
  refine ⟨v', putB h2 h.next v', AmFn.dos all_code (by simp) (Dos.runRet _ (fun x hx => ?_) e) (vs := [sv env' 2]) rfl f, b3, ?_, ?_, fun q => by have := hin _ q; omega⟩
  · simp only [List.mem_cons, List.not_mem_nil, or_false] at hx
    rcases hx with q | q <;> subst q
    · exact k1
    · exact k2
  · exact (hd.only o3 (fun id q c => by simp only [List.mem_singleton] at c; subst c; have := hin _ q; omega)).weak (by omega)
  · exact ((ob.trans o2).mono (S' := [h.next]) (by simp)).trans o3 |>.mono fun id hid => .inr (by simp only [List.mem_singleton] at hid; subst hid; exact Nat.le_refl _)

/-- What a round of slices.All is told. -/
def toldS (ws : List (Wr × AV)) (i : Nat) (_ : Hp) (ys : List AV) (T : List Pos) : Prop := ∃ hi : i < ws.length, ys = [int64 i, .agg (rec1 ws[i])] ∧ T = []

/-- The memory that a going over reads. -/
def heldN (q : Pos) (v : AV) (id : Pos) : Prop := id = q ∨ InN 3 v id

theorem sall_fn {h : Hp} {v : AV} (hv : v.cells = [v]) : ∃ h', AmFn Try.prog 68 [v] h (.fn (.func 86) [] [.ptr h.next 0 0]) h' ∧ Box h' h.next v ∧ Only [] h h' ∧ h'.next.num = h.next.num + 1 := by
  have nb := newB_box h v
  obtain ⟨env1, e1, f2⟩ : ∃ env', runS Try.prog true sall_fu.body [] (setArgs .e 0 [v]) h = some (.ret, [], env', newB h v) ∧ sv env' 2 = .fn (.func 86) [] [.ptr h.next 0 0] := by
    have hx : ∀ env (x : Opd), ev env x = v → evalOp Try.prog (.box x) env h = .val (.ptr h.next 0 0) (newB h v) := fun env x hx => by
      have q := qev_box Try.prog env h x (by rw [hx]; exact hv)
      rw [hx] at q; exact q
    unfold sall_fu
    simp [sall_0, sall_1, runS, runR, Rs.seq, Rs.block, sv_args, runOps, wanted_no, ev_tm, ev_vl, sv_setD, qev_mov, qev_mkFn, hx]
  exact ⟨_, AmFn.dos sall_code (by simp) (Dos.runRet [] (by simp) e1) (vs := [sv env1 2]) rfl f2, nb, newH_only _ _ _, newH_next _ _⟩

theorem sallf_loop {ws : List (Wr × AV)} (hw : ws.length ≤ 100000) (hat : ∀ x ∈ ws, x.2.atom = true) {l : Pos} {v : AV} {S : List Pos} {J : Nat → Hp → Prop} {Q : Hp → Prop} {K : Nat} {B : Nat} (hK : K ≤ ws.length) (hv : ∀ id, InN 3 v id → id ∉ S)
    (hr : ∀ i hO h1 ys T, i < K → J i hO → B ≤ hO.next.num → Only [] hO h1 → toldS ws i h1 ys T → (∀ id ∈ T, hO.next.num ≤ id.num ∧ id.num < h1.next.num) → ∃ h' S', RoundFn Try.prog l ys h1 (.bool true) h' ∧ J (i + 1) h' ∧ Only S' h1 h' ∧ ∀ id ∈ S', id ∈ S ∨ B ≤ id.num)
    (hq : K = ws.length → ∀ h, J K h → Q h) (hstop : K < ws.length → ∀ hO h1 ys T, J K hO → B ≤ hO.next.num → Only [] hO h1 → toldS ws K h1 ys T → (∀ id ∈ T, hO.next.num ≤ id.num ∧ id.num < h1.next.num) → ∃ h' S', RoundFn Try.prog l ys h1 (.bool false) h' ∧ Q h' ∧ Only S' h1 h' ∧ ∀ id ∈ S', id ∈ S ∨ B ≤ id.num)
    (hvB : ∀ id, InN 3 v id → id.num < B) :
    ∀ (m i : Nat) (env : T AV) (h : Hp), i + m = ws.length → i ≤ K → B ≤ h.next.num → sv env 0 = .yield l → sv env 5 = v → sv env 6 = int64 ws.length → sv env 7 = int64 i → Held 0 h 3 v ws.length (recs ws) → J i h →
      ∃ env' h' o, Loops Try.prog 86 sallf_5 env h o [] env' h' ∧ (o = .exit 0 ∨ o = .ret) ∧ Q h' ∧ ∃ S', Only S' h h' ∧ ∀ id ∈ S', id ∈ S ∨ B ≤ id.num := by
  intro m
  induction m with
  | zero =>
    intro i env h hi hiK hB s0 s5 s6 s7 hs j
    have : i = ws.length := by omega
    subst this
    have hKe : K = ws.length := by omega
    obtain ⟨env1, e1⟩ : ∃ env', runS Try.prog true sallf_5 [] env h = some (.exit 0, [], env', h) := by
      unfold sallf_5
      simp [sallf_1, runS, runR, Rs.seq, Rs.block, runOps, wanted_no, wanted_sv, ev_tm, ev_vl, sv_setD, sv_set, setD_none, qev_mov, qev_bin, qev_un, qev_lenI, qev_pick, qev_load1, qev_idxSl, idx2_sl, idxA2_ptr, opt_some, bin_add, bin_sub, bin_mul, bin_lss, bin_leq, bin_gtr, bin_geq, bin_eql, bin_neq, un_not, un_neg, qev_callv, qev_new1, qev_store1, qev_nilC, nilC_ptr, qev_fld, fldA_ptr, qev_extract, nth0, nth1, nth2, qev_eqPtr, sameP_nil, notIf, s6, s7]
    exact ⟨env1, h, .exit 0, .out (Dos.runExit [] (by simp) e1) (by simp), .inl rfl, hq hKe h (hKe ▸ j), [], .refl _ _, by simp⟩
  | succ m ih =>
    intro i env h hi hiK hB s0 s5 s6 s7 hs j
    have hil : i < ws.length := by omega
    obtain ⟨id, g, cc, hv', rd, rl⟩ := hs.record hil
    rw [recs_get ws hil] at rl
    have ld : ∀ env (x : Opd), ev env x = .ptr id g (i * 3) → evalOp Try.prog (.loadN 3 x) env h = .val (.agg (rec1 ws[i])) h := fun env x hx => by rw [qev_loadN Try.prog hx rd, rl]
    have o1 : Only [] h (newH h fun s => .cells s (Cells.ofL [int64 0, int64 0, .nilSl]) 0 0 0 0 false false) := newH_only _ _ _
    have b1 := newH_arr h [int64 0, int64 0, .nilSl]
    have nw := qev_newL Try.prog
    obtain ⟨h2, st, b2, o2, n2⟩ := storeN_arr Try.prog b1 (xs := rec1 ws[i]) rfl (by simp) (fun y hy => recs_atom hat y (List.mem_flatMap.2 ⟨ws[i], List.getElem_mem hil, hy⟩))
    simp only [List.length_cons, List.length_nil] at st
    have o12 : Only [] h h2 := ((o1.mono (S' := [h.next]) (by simp)).trans o2).mono fun id hid => .inr (by simp only [List.mem_singleton] at hid; subst hid; exact Nat.le_refl _)
    have ld2 := b2.whole Try.prog (n := 3) rfl
    obtain ⟨env1, e1, f8, f0, f5, f6, f7⟩ : ∃ env1, runOps Try.prog sallf_1 env h = some (env1, h) ∧ sv env1 8 = .bool true ∧ sv env1 0 = .yield l ∧ sv env1 5 = v ∧ sv env1 6 = int64 ws.length ∧ sv env1 7 = int64 i := by
      simp [sallf_1, runOps, wanted_no, wanted_sv, ev_tm, ev_vl, sv_setD, sv_set, setD_none, qev_mov, qev_bin, qev_un, qev_lenI, qev_pick, qev_load1, qev_idxSl, idx2_sl, idxA2_ptr, opt_some, bin_add, bin_sub, bin_mul, bin_lss, bin_leq, bin_gtr, bin_geq, bin_eql, bin_neq, un_not, un_neg, qev_callv, qev_new1, qev_store1, qev_nilC, nilC_ptr, qev_fld, fldA_ptr, qev_extract, nth0, nth1, nth2, qev_eqPtr, sameP_nil, notIf, s0, s5, s6, s7, hil]
    obtain ⟨env2, e2, k3, k4, k0, k5, k6, k7⟩ : ∃ env2, runOps Try.prog sallf_2 env1 h = some (env2, h2) ∧ sv env2 3 = int64 i ∧ sv env2 4 = .ptr h.next 0 0 ∧ sv env2 0 = .yield l ∧ sv env2 5 = v ∧ sv env2 6 = int64 ws.length ∧ sv env2 7 = int64 i := by
      rw [hv'] at f5 ⊢
      simp [sallf_2, runOps, wanted_no, wanted_sv, ev_tm, ev_vl, sv_setD, sv_set, setD_none, qev_mov, qev_bin, qev_un, qev_lenI, qev_pick, qev_load1, qev_idxSl, idx2_sl, idxA2_ptr, opt_some, bin_add, bin_sub, bin_mul, bin_lss, bin_leq, bin_gtr, bin_geq, bin_eql, bin_neq, un_not, un_neg, qev_callv, qev_new1, qev_store1, qev_nilC, nilC_ptr, qev_fld, fldA_ptr, qev_extract, nth0, nth1, nth2, qev_eqPtr, sameP_nil, notIf, f0, f5, f6, f7, hil, ld, nw, st]
    obtain ⟨env3, e3, m12, m13, m14, m0, m5, m6, m7⟩ : ∃ env3, runOps Try.prog (sallf_3.take 3) env2 h2 = some (env3, h2) ∧ sv env3 12 = .yield l ∧ sv env3 13 = int64 i ∧ sv env3 14 = .agg (rec1 ws[i]) ∧ sv env3 0 = .yield l ∧ sv env3 5 = v ∧ sv env3 6 = int64 ws.length ∧ sv env3 7 = int64 i := by
      simp [sallf_3, runOps, wanted_no, wanted_sv, ev_tm, ev_vl, sv_setD, sv_set, setD_none, qev_mov, qev_bin, qev_un, qev_lenI, qev_pick, qev_load1, qev_idxSl, idx2_sl, idxA2_ptr, opt_some, bin_add, bin_sub, bin_mul, bin_lss, bin_leq, bin_gtr, bin_geq, bin_eql, bin_neq, un_not, un_neg, qev_callv, qev_new1, qev_store1, qev_nilC, nilC_ptr, qev_fld, fldA_ptr, qev_extract, nth0, nth1, nth2, qev_eqPtr, sameP_nil, notIf, k3, k4, k0, k5, k6, k7, ld2]
    have w1 : wrapA .i64 ((i : Int) + 1) = (i : Int) + 1 := wrap64 (by omega) (by omega)
    have hask : ∀ b h3, RoundFn Try.prog l [int64 i, .agg (rec1 ws[i])] h2 (.bool b) h3 → ∃ env4, Dos Try.prog 86 (.region sallf_3) env2 h2 .go [] env4 h3 ∧ sv env4 16 = .bool (!b) ∧ sv env4 0 = .yield l ∧ sv env4 5 = v ∧ sv env4 6 = int64 ws.length ∧ sv env4 7 = int64 i := by
      intro b h3 hround
      obtain ⟨env4, e4, p16, p0, p5, p6, p7⟩ : ∃ env4, runOps Try.prog (sallf_3.drop 4) (setD env3 (some (Pos.ofNat 15)) (.bool b)) h3 = some (env4, h3) ∧ sv env4 16 = .bool (!b) ∧ sv env4 0 = .yield l ∧ sv env4 5 = v ∧ sv env4 6 = int64 ws.length ∧ sv env4 7 = int64 i := by
        simp [sallf_3, runOps, wanted_no, wanted_sv, ev_tm, ev_vl, sv_setD, sv_set, setD_none, qev_mov, qev_bin, qev_un, qev_lenI, qev_pick, qev_load1, qev_idxSl, idx2_sl, idxA2_ptr, opt_some, bin_add, bin_sub, bin_mul, bin_lss, bin_leq, bin_gtr, bin_geq, bin_eql, bin_neq, un_not, un_neg, qev_callv, qev_new1, qev_store1, qev_nilC, nilC_ptr, qev_fld, fldA_ptr, qev_extract, nth0, nth1, nth2, qev_eqPtr, sameP_nil, notIf, m0, m5, m6, m7]
      exact ⟨env4, Dos.regionY (l1 := sallf_3.take 3) (y := ⟨(some (Pos.ofNat 15)), none, .call (.value (tm 12)) [(tm 13), (tm 14)], true, 0⟩) (l2 := sallf_3.drop 4) (l := l) (args := [int64 i, .agg (rec1 ws[i])]) e3 rfl rfl (by simp [qev_callv, ev_tm, m12, m13, m14]) hround e4, p16, p0, p5, p6, p7⟩
    by_cases hK' : i < K
    · obtain ⟨h3, S3, hround, j2, o3, hS3⟩ := hr i h h2 _ [] hK' j hB o12 ⟨hil, rfl, rfl⟩ (by simp)
      obtain ⟨env4, d3, p16, p0, p5, p6, p7⟩ := hask true h3 hround
      obtain ⟨env5, e5, q0, q5, q6, q7⟩ : ∃ env5, runOps Try.prog sallf_4 env4 h3 = some (env5, h3) ∧ sv env5 0 = .yield l ∧ sv env5 5 = v ∧ sv env5 6 = int64 ws.length ∧ sv env5 7 = int64 ((i + 1 : Nat) : Int) := by
        simp [sallf_4, runOps, wanted_no, wanted_sv, ev_tm, ev_vl, sv_setD, sv_set, setD_none, qev_mov, qev_bin, qev_un, qev_lenI, qev_pick, qev_load1, qev_idxSl, idx2_sl, idxA2_ptr, opt_some, bin_add, bin_sub, bin_mul, bin_lss, bin_leq, bin_gtr, bin_geq, bin_eql, bin_neq, un_not, un_neg, qev_callv, qev_new1, qev_store1, qev_nilC, nilC_ptr, qev_fld, fldA_ptr, qev_extract, nth0, nth1, nth2, qev_eqPtr, sameP_nil, notIf, p0, p5, p6, p7, w1]
      have n12 := o12.next
      have n3 := o3.next
      obtain ⟨env', h', o, L, ho, hQ, S4, oo, hS4⟩ := ih (i + 1) env5 h3 (by omega) (by omega) (by omega) q0 q5 q6 q7 ((hs.more o12).only o3 fun id q c => by rcases hS3 id c with e | e; exact hv id q e; have := hvB id q; omega) j2
      refine ⟨env', h', o, .more (M := []) (M1 := []) ?_ L, ho, hQ, S3 ++ S4, (((o12.mono (S' := S3 ++ S4) (by simp)).trans (o3.mono fun id q => .inl (by simp [q]))).trans (oo.mono fun id q => .inl (by simp [q]))), fun id q => (List.mem_append.1 q).elim (hS3 id) (hS4 id)⟩
      exact Dos.seq (M := []) (M1 := []) (Dos.region e1) (Dos.seq (M := []) (M1 := []) (Dos.cond (t := true) f8 .skip) (Dos.seq (M := []) (M1 := []) (Dos.block (i := 1) (o := .go) (Dos.seq (M := []) (M1 := []) (Dos.region e2) (Dos.seq (M := []) (M1 := []) d3 (Dos.cond (t := false) p16 .skip)))) (Dos.region e5)))
    · have : i = K := by omega
      subst this
      obtain ⟨h3, S3, hround, j2, o3, hS3⟩ := hstop hil h h2 _ [] j hB o12 ⟨hil, rfl, rfl⟩ (by simp)
      obtain ⟨env4, d3, p16, p0, p5, p6, p7⟩ := hask false h3 hround
      refine ⟨env4, h3, .ret, .out ?_ (by simp), .inr rfl, j2, S3, (o12.mono (S' := S3) (by simp)).trans o3, hS3⟩
      exact Dos.seq (M := []) (M1 := []) (Dos.region e1) (Dos.seq (M := []) (M1 := []) (Dos.cond (t := true) f8 .skip) (Dos.left (Dos.block (i := 1) (o := .ret) (Dos.seq (M := []) (M1 := []) (Dos.region e2) (Dos.seq (M := []) (M1 := []) d3 (Dos.cond (t := true) p16 .ret)))) (by simp [Sg.blk])))
end Go.Proofs.Ytmifpiglcphmoaa.DPlays

namespace Go.Proofs.Ytmifpiglcphmoaa.DPlays
open Go Go.Proofs.Ytmifpiglcphmoaa.Am Go.Proofs

/-- What slices.All answers goes over the raw writes. -/
theorem sallf_goes {ws : List (Wr × AV)} (hw : ws.length ≤ 100000) (hat : ∀ x ∈ ws, x.2.atom = true) {h : Hp} {q : Pos} {v : AV} (b : Box h q v) (hd : Held 0 h 3 v ws.length (recs ws)) :
    GoesAll Try.prog 86 [.ptr q 0 0] ws.length (toldS ws) (heldN q v) h := by
  intro l S K h0 hK ho hS
  refine ⟨h0.next.num, Nat.le_refl _, fun J Q hJ hQ hr hfin hstop j0 => ?_⟩
  have b0 := (b.only ho (by simp)).load
  have hs0 := hd.more ho
  have hl := hs0.sl.lenI (P := Try.prog) h0
  obtain ⟨env1, e1, f0, f5, f6, f7⟩ : ∃ env', runS Try.prog true sallf_fu.body [] (setArgs .e 0 [.yield l, .ptr q 0 0]) h0 = some (.upt [.code (.loop sallf_5), .inBlock 0], [], env', h0) ∧ sv env' 0 = .yield l ∧ sv env' 5 = v ∧ sv env' 6 = int64 ws.length ∧ sv env' 7 = int64 ((0 : Nat) : Int) := by
    unfold sallf_fu
    simp [sallf_0, runS, runR, Rs.seq, Rs.block, sv_args, runOps, wanted_no, ev_tm, ev_vl, sv_setD, qev_mov, qev_load1, opt_some, b0, hl]
  obtain ⟨env', h', o, L, hor, hQ', S', o', hS'⟩ := sallf_loop hw hat (l := l) (v := v) (S := S) (J := J) (Q := Q) (K := K) (B := h0.next.num) hK (fun id e c => (hS _ c).1 (.inr e)) hr hfin hstop (fun id q => by have := (hd.old q).2; have := ho.next; omega) ws.length 0 env1 h0 (by omega) (by omega) (Nat.le_refl _) f0 f5 f6 f7 hs0 j0
  refine ⟨h', ?_, hQ', o'.mono fun id q => hS' id q⟩
  rcases hor with e | e
  · subst e
    exact AmFn.dos0 sallf_code (by simp) (o := .go) (fun _ => .inl rfl) (by simp) (Dos.run (M := []) [] (by simp) e1 (.leave (M := []) (M1 := []) (i := 0) (Dos.loop L) rfl .nil))
  · subst e
    exact AmFn.dos0 sallf_code (by simp) (o := .ret) (fun _ => .inr rfl) (by simp) (Dos.run (M := []) [] (by simp) e1 (.ret (Dos.loop L)))

/-- The blocks of a slice. -/
def idsN : AV → List Pos
  | .sl id _ _ _ _ _ _ => [id]
  | _ => []

theorem idsN_in {es : Nat} {v : AV} {id : Pos} (q : InN es v id) : id ∈ idsN v := by
  obtain ⟨g, off, n, cap, ex, e⟩ := q
  subst e
  simp [idsN]

theorem Held.ids {N : Nat} {h : Hp} {es n : Nat} {v : AV} {l : List AV} (o : Held N h es v n l) {id : Pos} (q : id ∈ idsN v) : N ≤ id.num ∧ id.num < h.next.num := by
  rcases o with ⟨_, _, e | ⟨id', g', off', e, q3, q4⟩⟩ | ⟨id', g', q0, e, q3, _⟩
  · subst e; simp [idsN] at q
  · subst e; simp [idsN] at q; subst q; exact ⟨q3, q4⟩
  · subst e; simp [idsN] at q; subst q; exact ⟨q0, q3.old⟩

/-- What a round of All is told: the data are new, and the round's. -/
def toldA (ws : List (Wr × AV)) (i : Nat) (h : Hp) (ys : List AV) (T : List Pos) : Prop :=
  ∃ hi : i < ws.length, ∃ dv, ys = [int64 i, .agg [int64 ws[i].1.kind, int64 ws[i].1.area, dv]] ∧ Held 0 h 1 dv ws[i].1.data.length (byt ws[i].1.data) ∧ T = idsN dv

/-- The data of raw writes. -/
def Dats (h : Hp) (ws : List (Wr × AV)) : Prop := ∀ x ∈ ws, SlN h 1 x.2 x.1.data.length (byt x.1.data)

/-- The memory that All's going over reads. -/
def heldA (q : Pos) (v : AV) (ws : List (Wr × AV)) (id : Pos) : Prop := heldN q v id ∨ ∃ x ∈ ws, InN 1 x.2 id

theorem Dats.only {S : List Pos} {h h' : Hp} {ws : List (Wr × AV)} (a : Dats h ws) (o : Only S h h') (hS : ∀ x ∈ ws, ∀ id, InN 1 x.2 id → id ∉ S) : Dats h' ws := fun x hx => (a x hx).only o (hS x hx)

/-- The body of All's round. -/
theorem yall_body {ws : List (Wr × AV)} {i : Nat} (hi : i < ws.length) (hsz : ws[i].1.data.length ≤ 1048576) {h1 : Hp} {w y l : Pos} {env : T AV} (bw : Arr h1 w (rec1 ws[i])) (by_ : Box h1 y (.yield l)) (hwy : w ≠ y) (hd : SlN h1 1 ws[i].2 ws[i].1.data.length (byt ws[i].1.data)) (s2 : sv env 2 = .ptr y 0 0) (s3 : sv env 3 = int64 i) (s4 : sv env 4 = .ptr w 0 0) :
    ∃ dv h5, Only [w] h1 h5 ∧ Held h1.next.num h5 1 dv ws[i].1.data.length (byt ws[i].1.data) ∧ ∀ b h6, RoundFn Try.prog l [int64 i, .agg [int64 ws[i].1.kind, int64 ws[i].1.area, dv]] h5 (.bool b) h6 →
      ∃ env2, Dos Try.prog 67 yall_7 env h1 (if b then .go else .ret) [] env2 h6 := by
  obtain ⟨dv, h4, k4, hd4, o4⟩ := clb_fn hd (okSize_small' hsz (by omega))
  have l2 : read1 h1 w 0 2 = some ws[i].2 := bw.one (i := 2) (by simp [rec1])
  have b4 := bw.only o4 (by simp)
  have at4 := hd4.sl.atom
  have st := storeR_arr b4 (i := 2) (by simp [rec1]) dv at4.1 at4.2
  have o5 := putA_only h4 w 2 dv
  have b5 : Arr (putA h4 w 2 dv) w [int64 ws[i].1.kind, int64 ws[i].1.area, dv] := putA_arr b4 (i := 2) (by simp [rec1]) dv
  have wold := bw.old
  obtain ⟨env1, e1, f2, f3, f4⟩ : ∃ env', runS Try.prog true (.region yall_5) [⟨58, [ws[i].2], h1, dv, h4⟩] env h1 = some (.upt [], [], env', putA h4 w 2 dv) ∧ sv env' 2 = .ptr y 0 0 ∧ sv env' 3 = int64 i ∧ sv env' 4 = .ptr w 0 0 := by
    simp [yall_5, runS, runR, Rs.seq, Rs.block, runOps, wanted_no, wanted_sv, ev_tm, ev_vl, sv_setD, sv_set, setD_none, qev_mov, qev_bin, qev_un, qev_lenI, qev_pick, qev_load1, qev_idxSl, idx2_sl, idxA2_ptr, opt_some, bin_add, bin_sub, bin_mul, bin_lss, bin_leq, bin_gtr, bin_geq, bin_eql, bin_neq, un_not, un_neg, qev_callv, qev_new1, qev_store1, qev_nilC, nilC_ptr, qev_fld, fldA_ptr, qev_extract, nth0, nth1, nth2, qev_eqPtr, sameP_nil, notIf, callA_ok ok58, s2, s3, s4, l2, st]
  have ly := ((by_.only o4 (by simp)).only o5 (by simpa using fun e => hwy e.symm)).load
  have ld := b5.whole Try.prog (n := 3) rfl
  have hd5 := hd4.only o5 (fun id q c => by simp only [List.mem_singleton] at c; subst c; have := (hd4.old q).1; omega)
  generalize putA h4 w 2 dv = h5 at *
  refine ⟨dv, h5, (o4.mono (S' := [w]) (by simp)).trans o5, hd5, fun b h6 hr => ?_⟩
  obtain ⟨env3, e3, m13, m14, m15⟩ : ∃ env3, runOps Try.prog (yall_6.take 3) env1 h5 = some (env3, h5) ∧ sv env3 13 = .yield l ∧ sv env3 14 = int64 i ∧ sv env3 15 = .agg [int64 ws[i].1.kind, int64 ws[i].1.area, dv] := by
    simp [yall_6, runOps, wanted_no, wanted_sv, ev_tm, ev_vl, sv_setD, sv_set, setD_none, qev_mov, qev_bin, qev_un, qev_lenI, qev_pick, qev_load1, qev_idxSl, idx2_sl, idxA2_ptr, opt_some, bin_add, bin_sub, bin_mul, bin_lss, bin_leq, bin_gtr, bin_geq, bin_eql, bin_neq, un_not, un_neg, qev_callv, qev_new1, qev_store1, qev_nilC, nilC_ptr, qev_fld, fldA_ptr, qev_extract, nth0, nth1, nth2, qev_eqPtr, sameP_nil, notIf, f2, f3, f4, ly, ld]
  obtain ⟨env4, e4, p17⟩ : ∃ env4, runOps Try.prog (yall_6.drop 4) (setD env3 (some (Pos.ofNat 16)) (.bool b)) h6 = some (env4, h6) ∧ sv env4 17 = .bool (!b) := by
    simp [yall_6, runOps, wanted_no, wanted_sv, ev_tm, ev_vl, sv_setD, sv_set, setD_none, qev_mov, qev_bin, qev_un, qev_lenI, qev_pick, qev_load1, qev_idxSl, idx2_sl, idxA2_ptr, opt_some, bin_add, bin_sub, bin_mul, bin_lss, bin_leq, bin_gtr, bin_geq, bin_eql, bin_neq, un_not, un_neg, qev_callv, qev_new1, qev_store1, qev_nilC, nilC_ptr, qev_fld, fldA_ptr, qev_extract, nth0, nth1, nth2, qev_eqPtr, sameP_nil, notIf]
  have d := Dos.regionY (F := 67) (l1 := yall_6.take 3) (y := ⟨(some (Pos.ofNat 16)), none, .call (.value (tm 13)) [(tm 14), (tm 15)], true, 0⟩) (l2 := yall_6.drop 4) (l := l) (args := [int64 i, .agg [int64 ws[i].1.kind, int64 ws[i].1.area, dv]]) e3 rfl rfl (by simp [qev_callv, ev_tm, m13, m14, m15]) hr e4
  have dA := Dos.runGo (F := 67) [⟨58, [ws[i].2], h1, dv, h4⟩] (by intro x hx; simp at hx; subst hx; exact k4) e1
  cases b with
  | true => exact ⟨env4, Dos.block (i := 1) (o := .go) (Dos.seq (M := []) (M1 := []) dA (Dos.seq (M := []) (M1 := []) d (Dos.cond (t := false) p17 .skip)))⟩
  | false => exact ⟨env4, Dos.block (i := 1) (o := .ret) (Dos.seq (M := []) (M1 := []) dA (Dos.seq (M := []) (M1 := []) d (Dos.cond (t := true) p17 .ret)))⟩

/-- What All answers goes over the raw writes, each with data of its own. -/
theorem yall_goes {ws : List (Wr × AV)} (hw : ws.length ≤ 100000) {h : Hp} {q : Pos} {v : AV} (b : Box h q v) (hd : Held 0 h 3 v ws.length (recs ws)) (hdat : Dats h ws) (hold : ∀ x ∈ ws, ∀ id, InN 1 x.2 id → id.num < h.next.num) (hsz : ∀ x ∈ ws, x.1.data.length ≤ 1048576) :
    GoesAll Try.prog 67 [.ptr q 0 0] ws.length (toldA ws) (heldA q v ws) h := by
  intro l S K h0 hK ho hS
  have nh := ho.next
  have ob : Only [] h0 (newB h0 (.yield l)) := newH_only _ _ _
  have nb : (newB h0 (.yield l)).next.num = h0.next.num + 1 := newH_next _ _
  have bb := newB_box h0 (.yield l)
  have b1 := (b.only (ho.trans ob) (by simp)).load
  have hs1 := hd.more (ho.trans ob)
  obtain ⟨h2, k2, b2, o2, n2⟩ := sall_fn (h := newB h0 (.yield l)) hs1.sl.atom.2
  obtain ⟨env1, e1, f2, f6⟩ : ∃ env', runS Try.prog true yall_fu.body [⟨68, [v], newB h0 (.yield l), .fn (.func 86) [] [.ptr (newB h0 (.yield l)).next 0 0], h2⟩] (setArgs .e 0 [.yield l, .ptr q 0 0]) h0 = some (.upt [.code (.rangeFunc (tm 6) [Pos.ofNat 7, Pos.ofNat 8] yall_4 yall_7), .inBlock 0], [], env', h2) ∧
      sv env' 2 = .ptr h0.next 0 0 ∧ sv env' 6 = .fn (.func 86) [] [.ptr (newB h0 (.yield l)).next 0 0] := by
    have hx : ∀ env (x : Opd), ev env x = .yield l → evalOp Try.prog (.box x) env h0 = .val (.ptr h0.next 0 0) (newB h0 (.yield l)) := fun env x hx => by
      have q := qev_box Try.prog env h0 x (by rw [hx]; rfl)
      rw [hx] at q; exact q
    unfold yall_fu
    simp [yall_0, yall_1, runS, runR, Rs.seq, Rs.block, sv_args, runOps, wanted_no, ev_tm, ev_vl, sv_setD, qev_mov, qev_load1, opt_some, qev_callv, callA_ok ok68, hx, b1]
  generalize hqb : (newB h0 (.yield l)).next = qb at *
  have bb2 := bb.only o2 (by simp)
  have o02 := ob.trans o2
  have n02 := o02.next
  have goer := sallf_goes hw (fun x hx => (hdat x hx).atom.1) b2 (hs1.more o2)
  have dat2 : Dats h2 ws := hdat.only (ho.trans o02) (by simp)
  have hqn : qb.num = h0.next.num + 1 := nb
  have kq := b2.old
  have hM : ∀ id, heldN qb v id → id.num < h2.next.num := fun id c => by
    rcases c with c | c
    · subst c; exact kq
    · have := (hd.old c).2; omega
  have hS2 : ∀ id ∈ S, ¬ heldN qb v id ∧ id.num < h2.next.num := fun id hid => by
    obtain ⟨q1, q2⟩ := hS id hid
    refine ⟨fun c => ?_, by omega⟩
    rcases c with c | c
    · subst c; omega
    · exact q1 (.inl (.inr c))
  have qS : h0.next ∉ S := fun c => by have := (hS _ c).2; omega
  obtain ⟨B, hB, over⟩ := Dos.overA (F := 67) (env := env1) (h := h2) (f := tm 6) (params := [Pos.ofNat 7, Pos.ofNat 8]) (assign := yall_4) (body := yall_7) goer hM ok86 f6 hS2 hK (j := .ret) (o := .ret) (.inl ⟨rfl, rfl⟩)
  refine ⟨B, by omega, fun J Q hJ hQ hr hfin hstop j0 => ?_⟩
  -- what holds between rounds
  have clos : ∀ i hA hB S', (J i hA ∧ Box hA h0.next (.yield l) ∧ Dats hA ws) → Only S' hA hB → (∀ id ∈ S', h2.next.num ≤ id.num ∧ id.num < B) → (J i hB ∧ Box hB h0.next (.yield l) ∧ Dats hB ws) := fun i hA hB S' jq oq hS' =>
    ⟨hJ i hA hB S' jq.1 oq fun id hid => by have := hS' id hid; omega, jq.2.1.only oq fun c => by have := hS' _ c; omega, jq.2.2.only oq fun x hx id q c => by have := hS' _ c; have := hold x hx id q; omega⟩
  -- a round's body
  have body : ∀ (b : Bool) (R : Hp → Prop) i env2 T hb, (∃ hO w, (J i hO ∧ Box hO h0.next (.yield l) ∧ Dats hO ws) ∧ B ≤ hO.next.num ∧ Only [] hO hb ∧ (∃ hi : i < ws.length, Arr hb w (rec1 ws[i])) ∧ hO.next.num ≤ w.num ∧ sv env2 2 = .ptr h0.next 0 0 ∧ sv env2 3 = int64 i ∧ sv env2 4 = .ptr w 0 0 ∧ T = ([] : List Pos)) →
      (∀ hO h1 ys T, J i hO → B ≤ hO.next.num → Only [] hO h1 → toldA ws i h1 ys T → (∀ id ∈ T, hO.next.num ≤ id.num ∧ id.num < h1.next.num) → ∃ h' S', RoundFn Try.prog l ys h1 (.bool b) h' ∧ R h' ∧ Only S' h1 h' ∧ ∀ id ∈ S', id ∈ S ∨ B ≤ id.num) →
      ∃ env3 h6 S', Dos Try.prog 67 yall_7 env2 hb (if b then .go else .ret) [] env3 h6 ∧ (R h6 ∧ Box h6 h0.next (.yield l) ∧ Dats h6 ws) ∧ Only S' hb h6 ∧ ∀ id ∈ S', id ∈ S ∨ B ≤ id.num := by
    intro b R i env2 T hb ⟨hO, w, jO, en, oO, ⟨hi, bw⟩, hw0, s2, s3, s4, eT⟩ hround
    have nO := oO.next
    have by1 := jO.2.1.only oO (by simp)
    have d1 := jO.2.2.only oO (by simp)
    have hwy : w ≠ h0.next := num_ne (by omega)
    obtain ⟨dv, h5, o5, hd5, hgo⟩ := yall_body hi (hsz _ (List.getElem_mem hi)) bw by1 hwy (d1 _ (List.getElem_mem hi)) s2 s3 s4
    have oO5 : Only [w] hO h5 := (oO.mono (S' := [w]) (by simp)).trans o5
    obtain ⟨hX, x1, x2, x3⟩ := oO5.back
    have x1 : Only [] hO hX := x1.mono fun id hid => .inr (by simp only [List.mem_singleton] at hid; subst hid; omega)
    obtain ⟨h6, S6, r6, R6, o6, hS6⟩ := hround hX h5 _ _ (hJ i hO hX [] jO.1 x1 (by simp)) (by rw [x3]; omega) x2 ⟨hi, dv, rfl, hd5.weak (Nat.zero_le _), rfl⟩ (fun id hid => by have := Held.ids hd5 hid; rw [x3]; omega)
    obtain ⟨env3, d⟩ := hgo b h6 r6
    have hids : ∀ id ∈ idsN dv, hb.next.num ≤ id.num := fun id hid => (Held.ids hd5 hid).1
    refine ⟨env3, h6, w :: S6, d, ⟨R6, ?_, ?_⟩, (o5.mono fun id hid => .inl (by simp at hid; simp [hid])).trans (o6.mono fun id hid => .inl (by simp [hid])), fun id hid => ?_⟩
    · refine (by1.only o5 (by simpa using fun e => hwy e.symm)).only o6 fun c => ?_
      rcases hS6 _ c with c | c
      · exact qS c
      · omega
    · refine (d1.only o5 fun x hx id q c => ?_).only o6 fun x hx id q c => ?_
      · simp only [List.mem_singleton] at c
        subst c
        have := hold x hx _ q
        omega
      · rcases hS6 _ c with c | c
        · exact (hS _ c).1 (.inr ⟨x, hx, q⟩)
        · have := hold x hx _ q; omega
    · rcases List.mem_cons.1 hid with e | hid
      · subst e; exact .inr (by omega)
      · exact hS6 id hid
  obtain ⟨h3, d, ⟨hQ3, _⟩, o3, ⟨s, hs3⟩, n3⟩ := over (fun i h1 => J i h1 ∧ Box h1 h0.next (.yield l) ∧ Dats h1 ws) (fun h1 => Q h1 ∧ True)
    (fun i env2 T hb => ∃ hO w, (J i hO ∧ Box hO h0.next (.yield l) ∧ Dats hO ws) ∧ B ≤ hO.next.num ∧ Only [] hO hb ∧ (∃ hi : i < ws.length, Arr hb w (rec1 ws[i])) ∧ hO.next.num ≤ w.num ∧ sv env2 2 = .ptr h0.next 0 0 ∧ sv env2 3 = int64 i ∧ sv env2 4 = .ptr w 0 0 ∧ T = ([] : List Pos))
    clos
    (fun h1 h4 S' jq oq hS' => ⟨hQ h1 h4 S' jq.1 oq fun id hid => by have := hS' id hid; omega, trivial⟩)
    (fun i env2 T hA hC id ⟨hO, w, jO, en, oO, ⟨hi, bw⟩, hw0, rest⟩ oc hid1 hid2 _ => by
      have oOc : Only [id] hO hC := (oO.mono (S' := [id]) (by simp)).trans oc
      obtain ⟨hX, x1, x2, x3⟩ := oOc.back
      exact ⟨hX, w, clos i hO hX [id] jO x1 (by intro z hz; simp at hz; subst hz; omega), by rw [x3]; exact en, x2, ⟨hi, bw.only oc (by simp only [List.mem_singleton]; exact num_ne (by omega))⟩, by rw [x3]; exact hw0, rest⟩)
    (fun i hO h1 ys T hiK hin jO hBn oO y hT => by
      obtain ⟨hi, ey, eT⟩ := y
      subst ey
      have j1 := clos i hO h1 [] jO oO (by simp)
      have o1 : Only [] h1 (newH h1 fun s => .cells s (Cells.ofL [int64 0, int64 0, .nilSl]) 0 0 0 0 false false) := newH_only _ _ _
      have b1 := newH_arr h1 [int64 0, int64 0, .nilSl]
      have nw := qev_newL Try.prog
      obtain ⟨h4, st, b4, o4, n4⟩ := storeN_arr Try.prog b1 (xs := rec1 ws[i]) rfl (by simp) (fun y hy => recs_atom (fun x hx => (hdat x hx).atom.1) y (List.mem_flatMap.2 ⟨ws[i], List.getElem_mem hi, hy⟩))
      simp only [List.length_cons, List.length_nil] at st
      have o14 : Only [] h1 h4 := ((o1.mono (S' := [h1.next]) (by simp)).trans o4).mono fun id hid => .inr (by simp only [List.mem_singleton] at hid; subst hid; exact Nat.le_refl _)
      obtain ⟨env3, e3, g2, g3, g4⟩ : ∃ env3, runS Try.prog true yall_4 [] (Am.T.set (Pos.ofNat 8) (some (.agg (rec1 ws[i]))) (Am.T.set (Pos.ofNat 7) (some (int64 i)) env1)) h1 = some (.upt [], [], env3, h4) ∧ sv env3 2 = .ptr h0.next 0 0 ∧ sv env3 3 = int64 i ∧ sv env3 4 = .ptr h1.next 0 0 := by
        unfold yall_4
        simp [yall_2, yall_3, runS, runR, Rs.seq, Rs.block, runOps, wanted_no, wanted_sv, ev_tm, ev_vl, sv_setD, sv_set, setD_none, qev_mov, qev_bin, qev_un, qev_lenI, qev_pick, qev_load1, qev_idxSl, idx2_sl, idxA2_ptr, opt_some, bin_add, bin_sub, bin_mul, bin_lss, bin_leq, bin_gtr, bin_geq, bin_eql, bin_neq, un_not, un_neg, qev_callv, qev_new1, qev_store1, qev_nilC, nilC_ptr, qev_fld, fldA_ptr, qev_extract, nth0, nth1, nth2, qev_eqPtr, sameP_nil, notIf, f2, nw, st]
      exact ⟨_, env3, h4, by simp [setParams, Am.T.setK_eq], Dos.runGo [] (by simp) e3, o14, h1, h1.next, j1, by have := oO.next; omega, o14, ⟨hi, b4⟩, Nat.le_refl _, g2, g3, g4, eT⟩)
    (fun i env2 T hb hi a _ _ => body true (J (i + 1)) i env2 T hb a fun hO h1 ys T jq hn oq y hT => hr i hO h1 ys T hi jq hn oq y hT)
    (fun e h1 jq => ⟨hfin e h1 jq.1, trivial⟩)
    (fun hi env2 T hb a _ _ => by
      obtain ⟨env3, h6, S', d, r, rest⟩ := body false Q K env2 T hb a fun hO h1 ys T jq hn oq y hT => hstop hi hO h1 ys T jq hn oq y hT
      exact ⟨env3, h6, S', d, ⟨r.1, trivial⟩, rest⟩)
    ⟨hJ 0 h0 h2 [] j0 o02 (by simp), bb2, dat2⟩
  have or := remMs_only [h2.next] h3
  refine ⟨remMs h3 [h2.next], ?_, hQ _ _ _ hQ3 or (by simp; omega), ((o02.mono (S' := h2.next :: S) (by simp)).trans ((o3.mono fun id hid => .inl (by simp [hid])).trans (or.mono fun id hid => .inl (by simp at hid; simp [hid])))).mono fun id hid => ?_⟩
  · by_cases e : K = ws.length
    · rw [if_pos e] at d
      exact AmFn.dosE (rs := [h2.next]) (.inl rfl) yall_code (by simp) (Dos.run _ (by intro x hx; simp at hx; subst hx; exact k2) e1 (.more (M := []) d (.inBlock .nil))) (by intro r hr; simp at hr; subst hr; exact ⟨s, hs3⟩) (by simp) (vs := []) rfl rfl
    · rw [if_neg e] at d
      exact AmFn.dosE (rs := [h2.next]) (.inr rfl) yall_code (by simp) (Dos.run _ (by intro x hx; simp at hx; subst hx; exact k2) e1 (.ret d)) (by intro r hr; simp at hr; subst hr; exact ⟨s, hs3⟩) (by simp) (vs := []) rfl rfl
  · rcases List.mem_cons.1 hid with q | q
    · exact .inr (by rw [q]; omega)
    · exact .inl q
end Go.Proofs.Ytmifpiglcphmoaa.DPlays
