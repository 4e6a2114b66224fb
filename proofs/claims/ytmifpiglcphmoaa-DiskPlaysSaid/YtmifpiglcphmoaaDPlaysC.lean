import Derived.Test.YtmifpiglcphmoaaDPlaysB
/- THE WALK'S PARTS, part C: what the functions of the law compute, over the abstract machine that stands beside this text. No condition. -/
set_option linter.unusedSimpArgs false
set_option linter.unusedVariables false
namespace Go.Proofs.Ytmifpiglcphmoaa.DPlays
open Go Go.Proofs.Ytmifpiglcphmoaa.Am Go.Proofs

/-! ### What raw writes make of a disk -/

def Dk.base (d : Dk) : Dk := ofD d.cap d.fr d.f0 d.f1

def play (b : Dk) (ws : List Wr) : Dk := ws.foldl Dk.put b

/-- What may come of a disk that Of answered. -/
inductive Made : Dk → Prop
  | of {cap used : Int} {a b : List UInt8} : ofE cap used a b = 0 → Made (ofD cap used a b)
  | put {d : Dk} {w : Wr} : Made d → w.Ok d → Made (d.put w)

theorem put_fix (d : Dk) (w : Wr) : (d.put w).cap = d.cap ∧ (d.put w).fr = d.fr ∧ (d.put w).f0 = d.f0 ∧ (d.put w).f1 = d.f1 ∧ (d.put w).ws = d.ws ++ [w] := by
  unfold Dk.put Dk.does Dk.lay Dk.emp Dk.turn
  refine ⟨?_, ?_, ?_, ?_, rfl⟩ <;> (split <;> first | (split <;> rfl) | (split <;> first | (split <;> rfl) | rfl))

theorem put_base (d : Dk) (w : Wr) : (d.put w).base = d.base := by
  obtain ⟨h1, h2, h3, h4, _⟩ := put_fix d w
  unfold Dk.base
  rw [h1, h2, h3, h4]

theorem base_fix (d : Dk) : d.base.cap = d.cap ∧ d.base.fr = d.fr ∧ d.base.f0 = d.f0 ∧ d.base.f1 = d.f1 ∧ d.base.ws = [] := ⟨rfl, rfl, rfl, rfl, rfl⟩

theorem play_append (b : Dk) (u v : List Wr) : play b (u ++ v) = play (play b u) v := List.foldl_append

theorem play_fix (ws : List Wr) : ∀ b : Dk, (play b ws).cap = b.cap ∧ (play b ws).fr = b.fr ∧ (play b ws).f0 = b.f0 ∧ (play b ws).f1 = b.f1 ∧ (play b ws).ws = b.ws ++ ws := by
  induction ws with
  | nil => intro b; exact ⟨rfl, rfl, rfl, rfl, (List.append_nil _).symm⟩
  | cons w ws ih =>
    intro b
    obtain ⟨h1, h2, h3, h4, h5⟩ := ih (b.put w)
    obtain ⟨g1, g2, g3, g4, g5⟩ := put_fix b w
    have e : play b (w :: ws) = play (b.put w) ws := rfl
    rw [e]
    exact ⟨h1.trans g1, h2.trans g2, h3.trans g3, h4.trans g4, by rw [h5, g5]; simp⟩

structure Dk.Hist (d : Dk) : Prop where
  of : ofE d.cap d.fr d.f0 d.f1 = 0
  all : d = play d.base d.ws
  each : ∀ (k : Nat) w, d.ws[k]? = some w → w.Ok (play d.base (d.ws.take k))

theorem Made.hist {d : Dk} (m : Made d) : d.Hist := by
  induction m with
  | of h => exact ⟨h, rfl, fun k w e => by cases e⟩
  | put m hw ih =>
    rename_i d w
    obtain ⟨h1, h2, h3, h4, h5⟩ := put_fix d w
    refine ⟨by rw [h1, h2, h3, h4]; exact ih.of, ?_, fun k u e => ?_⟩
    · rw [put_base, h5, play_append, ← ih.all]; rfl
    · rw [put_base, h5] at *
      rcases Nat.lt_trichotomy k d.ws.length with c | c | c
      · rw [List.getElem?_append_left c] at e
        rw [List.take_append_of_le_length (by omega)]
        exact ih.each k u e
      · subst c
        simp at e
        subst e
        rw [List.take_left', ← ih.all]
        · exact hw
        · rfl
      · rw [List.getElem?_eq_none (by simp; omega)] at e; cases e

/-- A cut. -/
def Dk.cut (d : Dk) (n : Nat) : Dk := play d.base (d.ws.take n)

theorem Made.cut {d : Dk} (m : Made d) : ∀ {n : Nat}, n ≤ d.ws.length → Made (d.cut n)
  | 0, _ => .of m.hist.of
  | n + 1, hn => by
    have e : d.cut (n + 1) = (d.cut n).put d.ws[n] := by
      unfold Dk.cut
      rw [List.take_add_one, List.getElem?_eq_getElem hn, Option.toList_some, play_append]
      rfl
    rw [e]
    exact .put (m.cut (n := n) (by omega)) (m.hist.each n _ (List.getElem?_eq_getElem hn))

theorem cut_succ {d : Dk} {n : Nat} (hn : n < d.ws.length) : d.cut (n + 1) = (d.cut n).put d.ws[n] := by
  unfold Dk.cut
  rw [List.take_add_one, List.getElem?_eq_getElem hn, Option.toList_some, play_append]
  rfl

theorem cut_all {d : Dk} (m : Made d) : d.cut d.ws.length = d := by
  unfold Dk.cut
  rw [List.take_length]
  exact m.hist.all.symm

theorem cut_fix (d : Dk) (n : Nat) : (d.cut n).cap = d.cap ∧ (d.cut n).fr = d.fr ∧ (d.cut n).f0 = d.f0 ∧ (d.cut n).f1 = d.f1 ∧ (d.cut n).ws = d.ws.take n := by
  obtain ⟨h1, h2, h3, h4, h5⟩ := play_fix (d.ws.take n) d.base
  exact ⟨h1, h2, h3, h4, by unfold Dk.cut; rw [h5]; exact List.nil_append _⟩

/-- A cut of a cut is a cut. -/
theorem cut_cut {d : Dk} {n m : Nat} (h : m ≤ n) : (d.cut n).cut m = d.cut m := by
  obtain ⟨h1, h2, h3, h4, h5⟩ := cut_fix d n
  have e : (d.cut n).base = d.base := by unfold Dk.base; rw [h1, h2, h3, h4]
  show play (d.cut n).base ((d.cut n).ws.take m) = _
  rw [e, h5, List.take_take, Nat.min_eq_left h]
  rfl

theorem Made.size {d : Dk} (m : Made d) : ∀ w ∈ d.ws, w.data.length ≤ 1048576 := fun w hw => by
  obtain ⟨k, hk, e⟩ := List.getElem_of_mem hw
  exact (m.hist.each k w (by rw [List.getElem?_eq_getElem hk, e])).size

/-! ### Kinds of one's own -/

theorem DkAt.rekind {κ κ' : Pos → Nat} {c c' : Nat} {h : Hp} {p : Pos} {d : Dk} {V : Vs} {ws : List (Wr × AV)} (a : DkAt κ c h p d V ws) (f : ∀ id k, κ id = c + k → k ≤ 4 → id.num < h.next.num → κ' id = c' + k) : DkAt κ' c' h p d V ws :=
  ⟨⟨a.st.arr, f p 0 a.st.k (by omega) a.st.arr.old⟩, ⟨a.v0.hd, fun id q => f id 1 (a.v0.k id q) (by omega) (a.v0.hd.old q).2⟩, ⟨a.v1.hd, fun id q => f id 2 (a.v1.k id q) (by omega) (a.v1.hd.old q).2⟩, ⟨a.vw.hd, fun id q => f id 3 (a.vw.k id q) (by omega) (a.vw.hd.old q).2⟩,
    ⟨a.f0.sl, fun id q => ⟨f id 4 (a.f0.k id q).1 (by omega) (a.f0.k id q).2, (a.f0.k id q).2⟩⟩, ⟨a.f1.sl, fun id q => ⟨f id 4 (a.f1.k id q).1 (by omega) (a.f1.k id q).2, (a.f1.k id q).2⟩⟩,
    fun x hx => ⟨(a.dat x hx).sl, fun id q => ⟨f id 4 ((a.dat x hx).k id q).1 (by omega) ((a.dat x hx).k id q).2, ((a.dat x hx).k id q).2⟩⟩, a.eq, a.ok⟩
end Go.Proofs.Ytmifpiglcphmoaa.DPlays

namespace Go.Proofs.Ytmifpiglcphmoaa.DPlays
open Go Go.Proofs.Ytmifpiglcphmoaa.Am Go.Proofs

section
variable {κ : Pos → Nat} {c : Nat} {h : Hp} {p : Pos} {d : Dk} {V : Vs} {ws : List (Wr × AV)}

/-- The number is looked at. -/
theorem cut_look (a : DkAt κ c h p d V ws) {bn : Pos} {n : Int} (b : Arr h bn [int64 n]) {env : T AV} (s0 : sv env 0 = .ptr p 0 0) (s3 : sv env 3 = .ptr bn 0 0) :
    ∃ env', Dos Try.prog 40 (.drawn cut_3) env h .go [] env' h ∧ sv env' 0 = .ptr p 0 0 ∧ sv env' 3 = .ptr bn 0 0 ∧ sv env' 14 = .bool (decide (n < 0 ∨ (d.ws.length : Int) < n)) := by
  have ln := b.load
  have l7 := a.l7
  have hl := a.vw.hd.sl.lenI (P := Try.prog) h
  by_cases h0 : n < 0
  · obtain ⟨env', acts, lds, e, f0, f3, f14⟩ : ∃ env' acts lds, runD Try.prog noRec 0 cut_3 ⟨[], [], [], h.next, env, h⟩ = some ⟨acts, lds, [], h.next, env', h⟩ ∧ sv env' 0 = .ptr p 0 0 ∧ sv env' 3 = .ptr bn 0 0 ∧ sv env' 14 = .bool (decide (n < 0 ∨ (d.ws.length : Int) < n)) := by
      simp [cut_3, runD, stepD, kindOf, lookBack, wanted_no, wanted_sv, ev_tm, ev_vl, sv_setD, setD_none, qev_mov, qev_bin, qev_pick, bin_lss, opt_some, qev_load1, s0, s3, ln, h0]
    exact ⟨env', Dos.drawn (noRec_sound _) (runDrawn_of (acts := acts) (lds := lds) (by simp [cut_3, skipIds, isAlloc, kindOf]) e), f0, f3, f14⟩
  · obtain ⟨env', acts, lds, e, f0, f3, f14⟩ : ∃ env' acts lds, runD Try.prog noRec 0 cut_3 ⟨[], [], [], h.next, env, h⟩ = some ⟨acts, lds, [], h.next, env', h⟩ ∧ sv env' 0 = .ptr p 0 0 ∧ sv env' 3 = .ptr bn 0 0 ∧ sv env' 14 = .bool (decide (n < 0 ∨ (d.ws.length : Int) < n)) := by
      simp [cut_3, runD, stepD, kindOf, lookBack, wanted_no, wanted_sv, ev_tm, ev_vl, sv_setD, setD_none, qev_mov, qev_bin, qev_pick, bin_lss, bin_gtr, opt_some, qev_load1, qev_nilC, nilC_ptr, qev_fld, fldA_ptr, s0, s3, ln, h0, l7, hl]
    exact ⟨env', Dos.drawn (noRec_sound _) (runDrawn_of (acts := acts) (lds := lds) (by simp [cut_3, skipIds, isAlloc, kindOf]) e), f0, f3, f14⟩

/-- Cut's beginning. -/
theorem cut_start (a : DkAt κ c h p d V ws) (n : Int) : ∃ env', runS Try.prog false cut_fu.body [⟨63, [.ptr p 0 0], newB h (int64 n), .bool true, newB h (int64 n)⟩] (setArgs .e 0 [.ptr p 0 0, int64 n]) h =
      some (.upt [.code (.drawn cut_3), .code (.cond (tm 14) (.seq (.region cut_4) .ret) .skip), .inBlock 0, .code (.seq (.drawn cut_5) (.seq (.seq (.region cut_6) (.block 1 (.rangeFunc (tm 49) [(Pos.ofNat 50), (Pos.ofNat 51)] cut_9 cut_12))) (.seq (.region cut_13) .ret)))], [], env', newB h (int64 n)) ∧
      sv env' 0 = .ptr p 0 0 ∧ sv env' 3 = .ptr h.next 0 0 := by
  have hx : ∀ env (x : Opd), ev env x = int64 n → evalOp Try.prog (.box x) env h = .val (.ptr h.next 0 0) (newB h (int64 n)) := fun env x hx => by
    have q := qev_box Try.prog env h x (by rw [hx]; rfl)
    rw [hx] at q; exact q
  unfold cut_fu
  simp [cut_0, cut_1, runS, runR, Rs.seq, Rs.block, sv_args, runOps, wanted_no, ev_tm, ev_vl, sv_setD, qev_mov, qev_un, un_not, opt_some, qev_callv, callA_ok ok63, hx]

/-- Cut, where there is no such. -/
theorem cut_no (a : DkAt κ c h p d V ws) {n : Int} (hn : n < 0 ∨ (d.ws.length : Int) < n) : ∃ h', AmFn Try.prog 40 [.ptr p 0 0, int64 n] h (.tup [.nilPtr, int64 2]) h' ∧ Only [] h h' := by
  have o1 : Only [] h (newB h (int64 n)) := newH_only _ _ _
  have A1 := a.more o1 .refl
  have k1 := there_fn A1
  obtain ⟨env1, e1, s0, s3⟩ := cut_start a n
  obtain ⟨env2, d2, t0, t3, t14⟩ := cut_look A1 (newB_box h (int64 n)).arr s0 s3
  rw [decide_eq_true hn] at t14
  obtain ⟨env3, e3, f4, f5⟩ : ∃ env', runS Try.prog true (.seq (.region cut_4) .ret) [] env2 (newB h (int64 n)) = some (.ret, [], env', newB h (int64 n)) ∧ sv env' 4 = .nilPtr ∧ sv env' 5 = int64 2 := by
    simp [cut_4, runS, runR, Rs.seq, Rs.block, runOps, wanted_no, wanted_sv, ev_tm, ev_vl, sv_setD, sv_set, setD_none, qev_mov, qev_bin, qev_un, qev_lenI, qev_pick, qev_load1, qev_idxSl, idx2_sl, idxA2_ptr, opt_some, bin_add, bin_sub, bin_mul, bin_lss, bin_leq, bin_gtr, bin_geq, bin_eql, bin_neq, un_not, un_neg, qev_callv, qev_new1, qev_store1, qev_nilC, nilC_ptr, qev_fld, fldA_ptr, qev_extract, nth0, nth1, nth2, qev_eqPtr, sameP_nil, notIf]
  exact ⟨newB h (int64 n), AmFn.dos cut_code (by simp) (Dos.run (M := []) _ (by intro x hx; simp at hx; subst hx; exact k1) e1 (DosL.more (M := []) (M1 := []) d2 (DosL.ret (Dos.cond (t := true) t14 (Dos.runRet [] (by simp) e3))))) (vs := [sv env3 4, sv env3 5]) rfl (by rw [f4, f5]; rfl), o1⟩

theorem ofE_ok (a : d.Ok) : ofE d.cap d.fr d.f0 d.f1 = 0 := by
  have h1 := a.cap
  have h2 := a.fr
  have h3 := a.f0
  have h4 := a.f1
  unfold ofE
  rw [if_neg (by omega), if_neg (by omega)]

/-- The new disk that Cut begins with. -/
theorem cut_new (a : DkAt κ c h p d V ws) {env : T AV} (s0 : sv env 0 = .ptr p 0 0) {bn : AV} (s3 : sv env 3 = bn) :
    ∃ env' h' κ' V' q r, Dos Try.prog 40 (.drawn cut_5) env h .go [] env' h' ∧ Only [] h h' ∧ DkAt κ' 1 h' q d.base V' [] ∧ Arr h' r [.ptr q 0 0] ∧ (∀ id, id.num < h.next.num → κ' id = 0) ∧ κ' r = 0 ∧ h.next.num ≤ q.num ∧ sv env' 0 = .ptr p 0 0 ∧ sv env' 3 = bn ∧ sv env' 6 = .ptr r 0 0 := by
  have oS := skipH_only h
  have nS := skipH_next h
  have AS := a.more oS .refl
  obtain ⟨κ1, h5, V5, q, k5, g5, o5, A5, hq⟩ := of_yes (fun _ => 0) 1 AS.f0.sl AS.f1.sl (ofE_ok a.ok)
  have hsound := recG_sound (P := Try.prog) (A := [⟨34, [int64 d.cap, int64 d.fr, V.f0, V.f1], skipH h, .tup [.ptr q 0 0, int64 0], h5⟩]) (by
    intro k hk
    simp only [List.mem_cons, List.not_mem_nil, or_false] at hk
    subst hk
    exact k5)
  have R1 := recG_hit (P := Try.prog) 34 [int64 d.cap, int64 d.fr, V.f0, V.f1] (skipH h) (.tup [.ptr q 0 0, int64 0]) h5 []
  have bg := k5.begins.1
  generalize recG Try.prog [⟨34, [int64 d.cap, int64 d.fr, V.f0, V.f1], skipH h, .tup [.ptr q 0 0, int64 0], h5⟩] = R at *
  have l0 := AS.l0
  have l6 := AS.l6
  have l4 := AS.l4
  have l5 := AS.l5
  have n5 := o5.next
  have hr : h.next.num < h5.next.num := by omega
  have eL : (⟨T.set h.next (some (.cells h5.ser (Cells.ofL [.nilPtr]) 0 0 0 0 false false)) h5.heap, h5.next, h5.ser, h5.lim⟩ : Hp) = layH h5 h.next (.cells h5.ser (Cells.ofL [.nilPtr]) 0 0 0 0 false false) := rfl
  have bL := layH_arr hr h5.ser [.nilPtr]
  have oL := layH_only h5 h.next (.cells h5.ser (Cells.ofL [.nilPtr]) 0 0 0 0 false false)
  have nL : (layH h5 h.next (.cells h5.ser (Cells.ofL [.nilPtr]) 0 0 0 0 false false)).next = h5.next := rfl
  generalize layH h5 h.next (.cells h5.ser (Cells.ofL [.nilPtr]) 0 0 0 0 false false) = hL at *
  have pu := storeR_arr bL (i := 0) (by simp) (.ptr q 0 0) rfl rfl
  have b6 : Arr (putA hL h.next 0 (.ptr q 0 0)) h.next [.ptr q 0 0] := putA_arr bL (i := 0) (by simp) (.ptr q 0 0)
  have o6 := putA_only hL h.next 0 (.ptr q 0 0)
  have n6 : (putA hL h.next 0 (.ptr q 0 0)).next = hL.next := rfl
  have nr := fun env ser lim => new_resv Try.prog (env := env) (id := h.next) (ser := ser) (lim := lim) .nilPtr
  have hz : ∀ hh : Hp, (⟨hh.heap, hh.next, hh.ser, hh.lim⟩ : Hp) = hh := fun _ => rfl
  obtain ⟨env', acts, lds, e, f0, f3, f6⟩ : ∃ env' acts lds, runE Try.prog R 0 cut_5 ⟨[], [], [], h.next, env, skipH h⟩ = some ⟨acts, lds, [], h.next.succ, env', putA hL h.next 0 (.ptr q 0 0)⟩ ∧ sv env' 0 = .ptr p 0 0 ∧ sv env' 3 = bn ∧ sv env' 6 = .ptr h.next 0 0 := by
    simp [cut_5, runE, stepE, stepD, kindOf, lookBack, lookAgain, actO, insT, putT, remAl, bit, wanted_no, ev_tm, ev_vl, sv_setD, setD_none, qev_mov, opt_some, qev_load1, qev_nilC, nilC_ptr, qev_fld, fldA_ptr, qev_idxArr, idxA2_ptr, qev_callv, callA_ok ok34, qev_extract, nth0, nth1, qev_store1, T.get_set, s0, s3, l0, l6, l4, l5, bg, R1, nr, eL, pu, hz,
      show Nat.testBit 262143 3 = true from by decide, show Nat.testBit 262143 7 = true from by decide, show Nat.testBit 262143 12 = true from by decide, show Nat.testBit 262143 17 = true from by decide,
      show Nat.testBit 6291455 3 = true from by decide, show Nat.testBit 6291455 7 = true from by decide, show Nat.testBit 6291455 12 = true from by decide, show Nat.testBit 6291455 17 = true from by decide, show Nat.testBit 6291455 22 = true from by decide]
  have hsk : skipIds cut_5 h.next = h.next.succ := by simp [cut_5, skipIds, isAlloc, kindOf]
  have dd : runDrawn Try.prog R cut_5 env h = some (env', putA hL h.next 0 (.ptr q 0 0)) := by
    refine runDrawn_ofE (rid := h.next.succ) (acts := acts) (lds := lds) ?_
    rw [hsk]
    exact e
  have oF : Only [h.next] h5 (putA hL h.next 0 (.ptr q 0 0)) := oL.trans o6
  have kr : ∀ id, id.num < (skipH h).next.num → κ1 id = 0 := fun id q => g5 id q
  refine ⟨env', _, κ1, V5, q, h.next, Dos.drawn hsound dd, (((oS.trans o5).mono (S' := [h.next]) (by simp)).trans oF).mono fun id hid => .inr (by simp only [List.mem_singleton] at hid; subst hid; exact Nat.le_refl _), ?_, b6, fun id q => kr id (by omega), kr _ (by omega), by omega, f0, f3, f6⟩
  exact A5.chg (K := fun j => j = 0) ⟨[h.next], oF, fun id hid _ => by simp at hid; subst hid; exact kr _ (by omega)⟩ .refl (by omega)
end
end Go.Proofs.Ytmifpiglcphmoaa.DPlays

namespace Go.Proofs.Ytmifpiglcphmoaa.DPlays
open Go Go.Proofs.Ytmifpiglcphmoaa.Am Go.Proofs

theorem Arr.more {h h' : Hp} {id : Pos} {l : List AV} (a : Arr h id l) (o : Only [] h h') : Arr h' id l := a.only o (by simp)

/-- Cut. -/
theorem cut_fn {κ : Pos → Nat} {c : Nat} {h : Hp} {p : Pos} {d : Dk} {V : Vs} {ws : List (Wr × AV)} (a : DkAt κ c h p d V ws) (m : Made d) (hl : d.ws.length ≤ 100000) {n : Nat} (hn : n ≤ d.ws.length) (κ0 : Pos → Nat) (c' : Nat) :
    ∃ κ' h' V' ws' q, AmFn Try.prog 40 [.ptr p 0 0, int64 n] h (.tup [.ptr q 0 0, int64 0]) h' ∧ Agr h κ0 κ' ∧ Only [] h h' ∧ DkAt κ' c' h' q (d.cut n) V' ws' ∧ h.next.num ≤ q.num := by
  have hwl : ws.length = d.ws.length := by rw [← a.eq, List.length_map]
  have o1 : Only [] h (newB h (int64 n)) := newH_only _ _ _
  have n1 : (newB h (int64 n)).next.num = h.next.num + 1 := newH_next _ _
  have A1 := a.more o1 .refl
  have k1 := there_fn A1
  have bB := (newB_box h (int64 n)).arr
  obtain ⟨env1, e1, s0, s3⟩ := cut_start a n
  obtain ⟨env2, d2, t0, t3, t14⟩ := cut_look A1 bB s0 s3
  rw [decide_eq_false (show ¬ ((n : Int) < 0 ∨ (d.ws.length : Int) < n) by omega)] at t14
  generalize newB h (int64 n) = hB at *
  obtain ⟨env3, h6, κ1, V6, q, r, d3, o6, A6, b6, kz, kr, hq, u0, u3, u6⟩ := cut_new A1 t0 t3
  have AD := a.more (o1.trans o6) .refl
  have bn6 := Arr.more bB o6
  obtain ⟨v', h7, k7, b7, hd7, o7, hv7⟩ := all_fn AD hl
  have n6 := o6.next
  have n7 := o7.next
  have o07 := (o1.trans o6).trans o7
  obtain ⟨env4, e4, w0, w3, w6, w49⟩ : ∃ env', runS Try.prog true (.region cut_6) [⟨39, [.ptr p 0 0], h6, .fn (.func 67) [] [.ptr h6.next 0 0], h7⟩] env3 h6 = some (.upt [], [], env', h7) ∧ sv env' 0 = .ptr p 0 0 ∧ sv env' 3 = .ptr h.next 0 0 ∧ sv env' 6 = .ptr r 0 0 ∧ sv env' 49 = .fn (.func 67) [] [.ptr h6.next 0 0] := by
    simp [cut_6, runS, runR, Rs.seq, Rs.block, runOps, wanted_no, wanted_sv, ev_tm, ev_vl, sv_setD, sv_set, setD_none, qev_mov, qev_bin, qev_un, qev_lenI, qev_pick, qev_load1, qev_idxSl, idx2_sl, idxA2_ptr, opt_some, bin_add, bin_sub, bin_mul, bin_lss, bin_leq, bin_gtr, bin_geq, bin_eql, bin_neq, un_not, un_neg, qev_callv, qev_new1, qev_store1, qev_nilC, nilC_ptr, qev_fld, fldA_ptr, qev_extract, nth0, nth1, nth2, qev_eqPtr, sameP_nil, notIf, callA_ok ok39, u0, u3, u6]
  have rold := b6.old
  have bold := bB.old
  have dold : ∀ x ∈ ws, ∀ id, InN 1 x.2 id → id.num < h.next.num := fun x hx id q => ((a.dat x hx).k id q).2
  rw [← hwl] at hd7
  have goer := yall_goes (by omega) b7 (hd7.weak (Nat.zero_le _)) (fun x hx => ((a.dat x hx).sl.more o07)) (fun x hx id q => by have := dold x hx id q; omega) (fun x hx => m.size x.1 (by rw [← a.eq]; exact List.mem_map_of_mem hx))
  have hM : ∀ id, heldA h6.next v' ws id → id.num < h7.next.num := fun id q => by
    rcases q with (q | q) | ⟨x, hx, q⟩
    · subst q; exact b7.old
    · exact (hd7.old q).2
    · have := dold x hx id q; omega
  obtain ⟨S, hS⟩ := stretch h.next.num h6.next.num
  have hS2 : ∀ id ∈ S, ¬ heldA h6.next v' ws id ∧ id.num < h7.next.num := fun id hid => by
    have hid := (hS id).1 hid
    refine ⟨fun q => ?_, by omega⟩
    rcases q with (q | q) | ⟨x, hx, q⟩
    · subst q; omega
    · have := (hd7.old q).1; omega
    · have := dold x hx id q; omega
  obtain ⟨B, hB7, over⟩ := Dos.overA (F := 40) (env := env4) (h := h7) (f := tm 49) (params := [Pos.ofNat 50, Pos.ofNat 51]) (assign := cut_9) (body := cut_12) goer hM ok67 w49 hS2 (K := ws.length) (Nat.le_refl _) (j := .ret) (o := .ret) (.inl ⟨rfl, rfl⟩)
  -- the kinds
  have g6 := newK'_agr κ1 h6 10
  have k10 : ∀ id, h6.next.num ≤ id.num → newK' κ1 h6 10 id = 10 := fun id q => newK'_new κ1 10 q
  have A6 := A6.more (.refl [] _) g6
  have kz : ∀ id, id.num < hB.next.num → newK' κ1 h6 10 id = 0 := fun id q => (g6 id (by omega)).trans (kz id q)
  have kr : newK' κ1 h6 10 r = 0 := (g6 r rold).trans kr
  generalize newK' κ1 h6 10 = κ6 at *
  have kb : κ6 h.next = 0 := kz _ (by omega)
  have hwin : ∀ id, Wk 1 (κ6 id) → id ∈ S := fun id q => by
    rw [hS]
    rcases Nat.lt_or_ge id.num hB.next.num with e | e
    · rw [kz id e] at q; exact absurd q (by unfold Wk; omega)
    · rcases Nat.lt_or_ge id.num h6.next.num with e2 | e2
      · omega
      · rw [k10 id e2] at q; exact absurd q (by unfold Wk; omega)
  obtain ⟨h8, d8, ⟨κ8, V8, ws8, A8, a8, b8, bn8⟩, o8, ⟨s, hs8⟩, n8⟩ := over
    (fun i h1 => ∃ κ2 V2 ws2, DkAt κ2 1 h1 q (d.cut (min i n)) V2 ws2 ∧ (∀ id, id.num < B → κ2 id = κ6 id) ∧ Arr h1 r [.ptr q 0 0] ∧ Arr h1 h.next [int64 n])
    (fun h1 => ∃ κ2 V2 ws2, DkAt κ2 1 h1 q (d.cut n) V2 ws2 ∧ (∀ id, id.num < B → κ2 id = κ6 id) ∧ Arr h1 r [.ptr q 0 0] ∧ Arr h1 h.next [int64 n])
    (fun i env5 T h1 => ∃ κ2 V2 ws2 w dv, ∃ hi : i < ws.length, DkAt κ2 1 h1 q (d.cut (min i n)) V2 ws2 ∧ (∀ id, id.num < B → κ2 id = κ6 id) ∧ Arr h1 r [.ptr q 0 0] ∧ Arr h1 h.next [int64 n] ∧
      KArr κ2 5 h1 w [int64 ws[i].1.kind, int64 ws[i].1.area, dv] ∧ KSl κ2 5 h1 1 dv ws[i].1.data.length (byt ws[i].1.data) ∧ sv env5 3 = .ptr h.next 0 0 ∧ sv env5 6 = .ptr r 0 0 ∧ sv env5 8 = int64 i ∧ sv env5 9 = .ptr w 0 0)
    (fun i h1 h2 S' ⟨κ2, V2, ws2, A2, a2, b2, bn2⟩ oq hS' => ⟨κ2, V2, ws2, A2.chg (K := fun j => j = 10) ⟨S', oq, fun id hid _ => by have := hS' id hid; rw [a2 id (by omega)]; exact k10 id (by omega)⟩ .refl (by omega), a2, b2.only oq fun c => by have := hS' _ c; omega, bn2.only oq fun c => by have := hS' _ c; omega⟩)
    (fun h1 h2 S' ⟨κ2, V2, ws2, A2, a2, b2, bn2⟩ oq hS' => ⟨κ2, V2, ws2, A2.chg (K := fun j => j = 10) ⟨S', oq, fun id hid _ => by have := hS' id hid; rw [a2 id (by omega)]; exact k10 id (by omega)⟩ .refl (by omega), a2, b2.only oq fun c => by have := hS' _ c; omega, bn2.only oq fun c => by have := hS' _ c; omega⟩)
    (fun i env5 T h1 h2 id ⟨κ2, V2, ws2, w, dv, hi, A2, a2, b2, bn2, kw, kd, rest⟩ oq hid1 hid2 _ => by
      have ch : Chg κ2 (fun j => j = 10) h1 h2 := ⟨[id], oq, fun id' hid _ => by simp at hid; subst hid; rw [a2 id' (by omega)]; exact k10 id' (by omega)⟩
      exact ⟨κ2, V2, ws2, w, dv, hi, A2.chg ch .refl (by omega), a2, b2.only oq (by simp only [List.mem_singleton]; exact num_ne (by omega)), bn2.only oq (by simp only [List.mem_singleton]; exact num_ne (by omega)), kw.chg ch .refl (by omega), kd.chg ch .refl (by omega), rest⟩)
    (fun i hO h1 ys Tl hiK hi ⟨κ2, V2, ws2, A2, a2, b2, bn2⟩ hBO oO ⟨hi', dv, ey, hdv, eT⟩ hT => by
      subst ey
      have oX : Only [] h1 (newH h1 fun s => .cells s (Cells.ofL [int64 0, int64 0, .nilSl]) 0 0 0 0 false false) := newH_only _ _ _
      have bX := newH_arr h1 [int64 0, int64 0, .nilSl]
      have nw := qev_newL Try.prog
      obtain ⟨h2, st, bw, oY, nY⟩ := storeN_arr Try.prog bX (xs := [int64 ws[i].1.kind, int64 ws[i].1.area, dv]) rfl (by simp) (fun x hx => by
        simp only [List.mem_cons, List.not_mem_nil, or_false] at hx
        rcases hx with e | e | e <;> subst e
        · rfl
        · rfl
        · exact hdv.sl.atom.1)
      simp only [List.length_cons, List.length_nil] at st
      have oZ : Only [] h1 h2 := ((oX.mono (S' := [h1.next]) (by simp)).trans oY).mono fun id hid => .inr (by simp only [List.mem_singleton] at hid; subst hid; exact Nat.le_refl _)
      have nO := oO.next
      have g2 := newK'_agr κ2 hO 5
      have g5 : ∀ id, hO.next.num ≤ id.num → newK' κ2 hO 5 id = 5 := fun id q => newK'_new κ2 5 q
      obtain ⟨env5, e5, x3, x6, x8, x9⟩ : ∃ env5, runS Try.prog true cut_9 [] (Am.T.set (Pos.ofNat 51) (some (.agg [int64 ws[i].1.kind, int64 ws[i].1.area, dv])) (Am.T.set (Pos.ofNat 50) (some (int64 i)) env4)) h1 = some (.upt [], [], env5, h2) ∧ sv env5 3 = .ptr h.next 0 0 ∧ sv env5 6 = .ptr r 0 0 ∧ sv env5 8 = int64 i ∧ sv env5 9 = .ptr h1.next 0 0 := by
        unfold cut_9
        simp [cut_7, cut_8, runS, runR, Rs.seq, Rs.block, runOps, wanted_no, wanted_sv, ev_tm, ev_vl, sv_setD, sv_set, setD_none, qev_mov, qev_bin, qev_un, qev_lenI, qev_pick, qev_load1, qev_idxSl, idx2_sl, idxA2_ptr, opt_some, bin_add, bin_sub, bin_mul, bin_lss, bin_leq, bin_gtr, bin_geq, bin_eql, bin_neq, un_not, un_neg, qev_callv, qev_new1, qev_store1, qev_nilC, nilC_ptr, qev_fld, fldA_ptr, qev_extract, nth0, nth1, nth2, qev_eqPtr, sameP_nil, notIf, w3, w6, nw, st]
      have hdv2 := hdv.more oZ
      refine ⟨_, env5, h2, by simp [setParams, Am.T.setK_eq], Dos.runGo [] (by simp) e5, oZ, newK' κ2 hO 5, V2, ws2, h1.next, dv, hi, (A2.more oO g2).more oZ .refl, fun id q => (g2 id (by omega)).trans (a2 id q), (Arr.more b2 (oO.trans oZ)), Arr.more bn2 (oO.trans oZ), ⟨bw, g5 _ nO⟩, ⟨hdv2.sl, fun id q => ⟨g5 id ?_, (hdv2.old q).2⟩⟩, x3, x6, x8, x9⟩
      exact (hT id (eT ▸ idsN_in q)).1)
    (fun i env5 T h1 hiK ⟨κ2, V2, ws2, w, dv, hi, A2, a2, b2, bn2, kw, kd, x3, x6, x8, x9⟩ hB1 _ => by
      have lb := b2.load
      have ln := bn2.load
      have hid : i < d.ws.length := by omega
      have ewi : ws[i].1 = d.ws[i] := by
        have : (ws.map Prod.fst)[i]? = d.ws[i]? := by rw [a.eq]
        rw [List.getElem?_map, List.getElem?_eq_getElem hi, List.getElem?_eq_getElem hid] at this
        exact Option.some.inj this
      by_cases hin : i < n
      · have e0 : min i n = i := by omega
        have e1 : min (i + 1) n = i + 1 := by omega
        rw [e0] at A2
        have hok : (ws[i].1).Ok (d.cut i) := by rw [ewi]; exact m.hist.each i _ (List.getElem?_eq_getElem hid)
        have hlen : (d.cut i).ws.length ≤ 100000 := by rw [(cut_fix d i).2.2.2.2, List.length_take]; omega
        obtain ⟨κ3, h2, V3, k3, g3, ⟨S3, o3, hS3⟩, A3⟩ := do_fn A2 hok kd hlen
        have ld := kw.arr.whole Try.prog (n := 3) rfl
        obtain ⟨env6, e6⟩ : ∃ env6, runS Try.prog true cut_12 [⟨65, [.ptr q 0 0, .agg [int64 ws[i].1.kind, int64 ws[i].1.area, dv]], h1, int64 0, h2⟩] env5 h1 = some (.upt [], [], env6, h2) := by
          unfold cut_12
          have hin' : (i : Int) < n := by omega
          simp [cut_10, cut_11, runS, runR, Rs.seq, Rs.block, runOps, wanted_no, wanted_sv, ev_tm, ev_vl, sv_setD, sv_set, setD_none, qev_mov, qev_bin, qev_un, qev_lenI, qev_pick, qev_load1, qev_idxSl, idx2_sl, idxA2_ptr, opt_some, bin_add, bin_sub, bin_mul, bin_lss, bin_leq, bin_gtr, bin_geq, bin_eql, bin_neq, un_not, un_neg, qev_callv, qev_new1, qev_store1, qev_nilC, nilC_ptr, qev_fld, fldA_ptr, qev_extract, nth0, nth1, nth2, qev_eqPtr, sameP_nil, notIf, callA_ok ok65, x3, x6, x8, x9, ln, lb, ld, hin']
        refine ⟨env6, h2, S3, Dos.runGo _ (by intro x hx; simp at hx; subst hx; exact k3) e6, ⟨κ3, V3, ws2 ++ [(ws[i].1, dv)], ?_, fun id q => (g3 id (by omega)).trans (a2 id q), ?_, ?_⟩, o3, fun id hid => ?_⟩
        · rw [e1, cut_succ hid, ← ewi]; exact A3
        · refine b2.only o3 fun c => ?_
          have := hS3 _ c b2.old
          rw [a2 _ (by omega), kr] at this
          exact absurd this (by unfold Wk; omega)
        · refine bn2.only o3 fun c => ?_
          have := hS3 _ c bn2.old
          rw [a2 _ (by omega), kb] at this
          exact absurd this (by unfold Wk; omega)
        · rcases Nat.lt_or_ge id.num B with e | e
          · have := hS3 id hid (by omega)
            rw [a2 id e] at this
            exact .inl (hwin id this)
          · exact .inr e
      · have e0 : min i n = n := by omega
        have e1 : min (i + 1) n = n := by omega
        obtain ⟨env6, e6⟩ : ∃ env6, runS Try.prog true cut_12 [] env5 h1 = some (.upt [], [], env6, h1) := by
          unfold cut_12
          have hin' : ¬ (i : Int) < n := by omega
          simp [cut_10, runS, runR, Rs.seq, Rs.block, runOps, wanted_no, wanted_sv, ev_tm, ev_vl, sv_setD, sv_set, setD_none, qev_mov, qev_bin, qev_un, qev_lenI, qev_pick, qev_load1, qev_idxSl, idx2_sl, idxA2_ptr, opt_some, bin_add, bin_sub, bin_mul, bin_lss, bin_leq, bin_gtr, bin_geq, bin_eql, bin_neq, un_not, un_neg, qev_callv, qev_new1, qev_store1, qev_nilC, nilC_ptr, qev_fld, fldA_ptr, qev_extract, nth0, nth1, nth2, qev_eqPtr, sameP_nil, notIf, x3, x8, ln, hin']
        refine ⟨env6, h1, [], Dos.runGo _ (by simp) e6, ⟨κ2, V2, ws2, ?_, a2, b2, bn2⟩, .refl _ _, by simp⟩
        rw [e1, ← e0]; exact A2)
    (fun _ h1 jq => by
      have e : min ws.length n = n := by omega
      simp only [e] at jq
      exact jq)
    (fun hK => absurd hK (Nat.lt_irrefl _))
    ⟨κ6, V6, [], by
      have e : d.cut (min 0 n) = d.base := by rw [Nat.zero_min]; rfl
      rw [e]
      exact A6.more o7 .refl, fun id _ => rfl, Arr.more b6 o7, Arr.more bn6 o7⟩
  rw [if_pos rfl] at d8
  have l8 := b8.load
  obtain ⟨env5, e5, f4, f5⟩ : ∃ env', runS Try.prog true (.seq (.region cut_13) .ret) [] env4 h8 = some (.ret, [], env', h8) ∧ sv env' 4 = .ptr q 0 0 ∧ sv env' 5 = int64 0 := by
    simp [cut_13, runS, runR, Rs.seq, Rs.block, runOps, wanted_no, wanted_sv, ev_tm, ev_vl, sv_setD, sv_set, setD_none, qev_mov, qev_bin, qev_un, qev_lenI, qev_pick, qev_load1, qev_idxSl, idx2_sl, idxA2_ptr, opt_some, bin_add, bin_sub, bin_mul, bin_lss, bin_leq, bin_gtr, bin_geq, bin_eql, bin_neq, un_not, un_neg, qev_callv, qev_new1, qev_store1, qev_nilC, nilC_ptr, qev_fld, fldA_ptr, qev_extract, nth0, nth1, nth2, qev_eqPtr, sameP_nil, notIf, w6, l8]
  have or := remMs_only [h7.next] h8
  have n88 := o8.next
  have hh7 : κ8 h7.next = 10 := by rw [a8 _ (by omega)]; exact k10 _ (by omega)
  have A9 := A8.chg (κ' := κ8) (K := fun j => j = 10) ⟨[h7.next], or, fun id hid _ => by simp at hid; subst hid; exact hh7⟩ .refl (by omega)
  refine ⟨fun id => if id.num < h.next.num then κ0 id else c' + (κ8 id - 1), remMs h8 [h7.next], V8, ws8, q, ?_, fun id q => if_pos q, ?_, ?_, by omega⟩
  · refine AmFn.dosM (rs := [h7.next]) (vs := [.ptr q 0 0, int64 0]) cut_code (by simp) (Dos.run (M := [.mark h7.next]) _ (by intro x hx; simp at hx; subst hx; exact k1) e1 (DosL.more (M := [.mark h7.next]) (M1 := []) d2 (DosL.more (M := [.mark h7.next]) (M1 := []) (Dos.cond (t := false) t14 .skip) (DosL.inBlock (DosL.ret (Dos.seq (M := [.mark h7.next]) (M1 := []) d3 (Dos.seq (M := []) (M1 := [.mark h7.next]) (Dos.seq (M := [.mark h7.next]) (M1 := []) (Dos.runGo _ (by intro x hx; simp at hx; subst hx; exact k7) e4) (Dos.block (i := 1) (o := .go) d8)) (Dos.runRet [] (by simp) e5))))))))
      (fun x hx => by simp at hx; subst hx; exact ⟨s, hs8⟩) (by simp) ?_ rfl
    show mapO (result1 env5 _) [.tmp (Pos.ofNat 4), .tmp (Pos.ofNat 5)] = _
    simp [mapO, result1, ev_tm, f4, f5]
  · refine (((o07.mono (S' := h7.next :: S) (by simp)).trans (o8.mono fun id hid => .inl (by simp [hid]))).trans (or.mono fun id hid => .inl (by simp at hid; simp [hid]))).mono fun id hid => .inr ?_
    rcases List.mem_cons.1 hid with e | e
    · subst e; omega
    · exact ((hS id).1 e).1
  · refine A9.rekind fun id k e hk hid => ?_
    have : ¬ id.num < h.next.num := fun c => by
      have := a8 id (by omega)
      rw [e, kz id (by omega)] at this
      omega
    show (if id.num < h.next.num then κ0 id else c' + (κ8 id - 1)) = c' + k
    rw [if_neg this, e]
    omega
end Go.Proofs.Ytmifpiglcphmoaa.DPlays

namespace Go.Proofs.Ytmifpiglcphmoaa.DPlays
open Go Go.Proofs.Ytmifpiglcphmoaa.Am Go.Proofs
attribute [local irreducible] Tree

theorem known_closed : closed Try.prog 35 0 = true := by kernel_rfl

theorem known_fn (h : Hp) : AmFn Try.prog 35 [] h (.bool true) h := closed_fn known_closed h

theorem cells63 : Try.prog.cellsOf 63 = 3 := by kernel_rfl
theorem cells57 : Try.prog.cellsOf 57 = 4 := by kernel_rfl
theorem cells3 : Try.prog.cellsOf 3 = 1 := by kernel_rfl
theorem cells55 : Try.prog.cellsOf 55 = 1 := by kernel_rfl
theorem cells5 : Try.prog.cellsOf 5 = 1 := by kernel_rfl
theorem bytes5 : Try.prog.bytesOf 5 = 1 := by kernel_rfl

/-- Bytes that are handed in. -/
theorem handed_bytes {h : Hp} {v : AV} (a : Tree Try.prog h (0 + 2) 55 [v]) : ∃ b : List UInt8, SlN h 1 v b.length (byt b) ∧ okSize b.length 1 = true := by
  obtain ⟨b, r, ok⟩ := a.bytes (d := 0) Try.underlying55 Try.underlying5 cells5 (by rw [bytes5]; omega)
  rw [bytes5] at ok
  exact ⟨b, r, ok⟩

/-- A record of a number, a number and a slice. -/
theorem rec3_of {P : Program} {h : Hp} {d : Nat} {tr ti ts : TypeId} {f0 f1 f2 : Field} {l : List AV} (hr : P.underlying tr = some (.struct #[f0, f1, f2])) (hc : P.cellsOf tr = 3) (hi : P.underlying ti = some (.int .i64)) (hci : P.cellsOf ti = 1) (hcs : P.cellsOf ts = 1)
    (h0 : f0.type = ti ∧ f0.offset = 0) (h1 : f1.type = ti ∧ f1.offset = 1) (h2 : f2.type = ts ∧ f2.offset = 2) (a : Tree P h (d + 2) tr l) : ∃ kind n vt, l = [int64 kind, int64 n, vt] ∧ Tree P h (d + 1) ts [vt] := by
  obtain ⟨q, qf⟩ := a.of_struct (d := d + 1) hr
  rw [hc] at q
  match l, q with
  | [x, y, z], _ =>
    have q0 := qf f0 (by simp)
    have q1 := qf f1 (by simp)
    have q2 := qf f2 (by simp)
    rw [h0.1, h0.2, hci] at q0
    rw [h1.1, h1.2, hci] at q1
    rw [h2.1, h2.2, hcs] at q2
    simp only [List.drop_zero, List.drop_succ_cons, List.take_succ_cons, List.take_zero] at q0 q1 q2
    obtain ⟨kind, e0, _⟩ := q0.of_int (d := d) hi
    obtain ⟨n, e1, _⟩ := q1.of_int (d := d) hi
    cases e0
    cases e1
    exact ⟨kind, n, z, rfl, q2⟩

/-- A record of two numbers and two slices. -/
theorem rec4_of {P : Program} {h : Hp} {d : Nat} {tr ti ts : TypeId} {f0 f1 f2 f3 : Field} {l : List AV} (hr : P.underlying tr = some (.struct #[f0, f1, f2, f3])) (hc : P.cellsOf tr = 4) (hi : P.underlying ti = some (.int .i64)) (hci : P.cellsOf ti = 1) (hcs : P.cellsOf ts = 1)
    (h0 : f0.type = ti ∧ f0.offset = 0) (h1 : f1.type = ti ∧ f1.offset = 1) (h2 : f2.type = ts ∧ f2.offset = 2) (h3 : f3.type = ts ∧ f3.offset = 3) (a : Tree P h (d + 2) tr l) : ∃ x y va vb, l = [int64 x, int64 y, va, vb] ∧ Tree P h (d + 1) ts [va] ∧ Tree P h (d + 1) ts [vb] := by
  obtain ⟨q, qf⟩ := a.of_struct (d := d + 1) hr
  rw [hc] at q
  match l, q with
  | [x, y, z, u], _ =>
    have q0 := qf f0 (by simp)
    have q1 := qf f1 (by simp)
    have q2 := qf f2 (by simp)
    have q3 := qf f3 (by simp)
    rw [h0.1, h0.2, hci] at q0
    rw [h1.1, h1.2, hci] at q1
    rw [h2.1, h2.2, hcs] at q2
    rw [h3.1, h3.2, hcs] at q3
    simp only [List.drop_zero, List.drop_succ_cons, List.take_succ_cons, List.take_zero] at q0 q1 q2 q3
    obtain ⟨n0, e0, _⟩ := q0.of_int (d := d) hi
    obtain ⟨n1, e1, _⟩ := q1.of_int (d := d) hi
    cases e0
    cases e1
    exact ⟨n0, n1, z, u, rfl, q2, q3⟩

/-- How a disk begins, as it is handed in. -/
theorem start_at {h0 : Hp} {l : List AV} (a : Tree Try.prog h0 (0 + 3) 57 l) : ∃ cap used va vb, ∃ b1 b2 : List UInt8, l = [int64 cap, int64 used, va, vb] ∧ SlN h0 1 va b1.length (byt b1) ∧ okSize b1.length 1 = true ∧ SlN h0 1 vb b2.length (byt b2) ∧ okSize b2.length 1 = true := by
  obtain ⟨x, y, va, vb, e, t1, t2⟩ := rec4_of (d := 1) Try.underlying57 cells57 Try.underlying3 cells3 cells55 ⟨rfl, rfl⟩ ⟨rfl, rfl⟩ ⟨rfl, rfl⟩ ⟨rfl, rfl⟩ a
  obtain ⟨b1, r1, k1⟩ := handed_bytes t1
  obtain ⟨b2, r2, k2⟩ := handed_bytes t2
  exact ⟨x, y, va, vb, b1, b2, e, r1, k1, r2, k2⟩

/-- A step of those that are handed in. -/
theorem step_at {h0 : Hp} {vs : AV} (a : Tree Try.prog h0 (0 + 3 + 1) 58 [vs]) {i : Nat} (hi : i < lenOf vs) :
    ∃ id cap kind n vt, ∃ b : List UInt8, vs = .sl id 0 0 (lenOf vs) cap true 3 ∧ (∀ h, Only [] h0 h → read1 h id 0 (i * 3) = some (int64 kind) ∧ read1 h id 0 (i * 3 + 1) = some (int64 n) ∧ read1 h id 0 (i * 3 + 2) = some vt) ∧ SlN h0 1 vt b.length (byt b) ∧ okSize b.length 1 = true := by
  obtain ⟨id, cap, l, q1, q2, q3⟩ := a.recordOne Try.underlying58 hi
  rw [cells63] at q1 q3
  obtain ⟨kind, n, vt, e, t1⟩ := rec3_of (d := 1) Try.underlying63 cells63 Try.underlying3 cells3 cells55 ⟨rfl, rfl⟩ ⟨rfl, rfl⟩ ⟨rfl, rfl⟩ q2
  obtain ⟨b, r, k⟩ := handed_bytes t1
  subst e
  exact ⟨id, cap, kind, n, vt, b, q1, fun h o => ⟨q3 h o 0 (by simp), q3 h o 1 (by simp), q3 h o 2 (by simp)⟩, r, k⟩

theorem steps_len {h0 : Hp} {vs : AV} (a : Tree Try.prog h0 (0 + 3 + 1) 58 [vs]) (h : Hp) : ∀ env x, ev env x = vs → evalOp Try.prog (.lenL x) env h = .val (int64 (lenOf vs : Nat)) h := a.lenI Try.underlying58 h
end Go.Proofs.Ytmifpiglcphmoaa.DPlays

namespace Go.Proofs.Ytmifpiglcphmoaa.DPlays
open Go Go.Proofs.Ytmifpiglcphmoaa.Am Go.Proofs
attribute [local irreducible] Tree

theorem made_lay {d : Dk} (m : Made d) (ok : d.Ok) (n : Int) (b : List UInt8) : Made (d.layD n b) := by
  unfold Dk.layD
  split
  · rename_i e
    unfold Dk.layE at e
    split at e
    · rename_i hn
      split at e
      · cases e
      · rename_i hr
        have hle := area_le ok n
        have hc := ok.cap
        exact .put m ⟨.inl rfl, hn, fun _ => by show ((d.area n).length : Int) + b.length ≤ d.cap; omega, by show b.length ≤ 1048576; omega, fun q => (by cases q), fun q => (by cases q)⟩
    · cases e
  · exact m

theorem made_clear {d : Dk} (m : Made d) (n : Int) : Made (d.clearD n) := by
  unfold Dk.clearD
  split
  · rename_i e
    unfold Dk.clearE at e
    split at e
    · rename_i hn
      exact .put m ⟨.inr (.inl rfl), hn, fun q => (by cases q), by simp, fun _ => rfl, fun q => (by cases q)⟩
    · cases e
  · exact m

theorem made_turn {d : Dk} (m : Made d) : Made d.turnD := .put m ⟨.inr (.inr rfl), .inl rfl, fun q => (by cases q), by simp, fun q => (by cases q), fun _ => ⟨rfl, rfl⟩⟩

/-- What a call makes of a disk: the same beginning, at most one raw write more. -/
def Next (d d' : Dk) : Prop := d'.base = d.base ∧ d'.ws.length ≤ d.ws.length + 1

theorem next_put (d : Dk) (w : Wr) : Next d (d.put w) := ⟨put_base d w, by rw [(put_fix d w).2.2.2.2]; simp⟩
theorem next_self (d : Dk) : Next d d := ⟨rfl, Nat.le_succ _⟩
theorem next_lay (d : Dk) (n : Int) (b : List UInt8) : Next d (d.layD n b) := by unfold Dk.layD; split; exact next_put _ _; exact next_self _
theorem next_clear (d : Dk) (n : Int) : Next d (d.clearD n) := by unfold Dk.clearD; split; exact next_put _ _; exact next_self _
theorem next_turn (d : Dk) : Next d d.turnD := next_put _ _

end Go.Proofs.Ytmifpiglcphmoaa.DPlays
