import Derived.Test.YtjhgembcdndmkaaGreatDoorAmG
/- THE ABSTRACT MACHINE, part H: a machine over values without block numbers, and the proof that the model's machine does what it does. No condition. -/
set_option linter.unusedSimpArgs false
set_option linter.unusedVariables false
namespace Go.Proofs.YtjhgembcdndmkaaGreatDoor.Am
open Go.RowKit
structure Only (S : List Pos) (h h' : Hp) : Prop where
  next : h.next.num ≤ h'.next.num
  lim : h'.lim = h.lim
  same : ∀ id, id.num < h.next.num → id ∉ S → T.get id h'.heap = T.get id h.heap
theorem Only.refl (S : List Pos) (h : Hp) : Only S h h := ⟨Nat.le_refl _, rfl, fun _ _ _ => rfl⟩
theorem Only.trans {S : List Pos} {h h' h'' : Hp} (a : Only S h h') (b : Only S h' h'') : Only S h h'' :=
  ⟨Nat.le_trans a.next b.next, b.lim.trans a.lim, fun id k q => (b.same id (Nat.lt_of_lt_of_le k a.next) q).trans (a.same id k q)⟩
theorem Only.mono {S S' : List Pos} {h h' : Hp} (a : Only S h h') (hs : ∀ id, id ∈ S → id ∈ S' ∨ h.next.num ≤ id.num) : Only S' h h' :=
  ⟨a.next, a.lim, fun id k q => a.same id k fun c => by rcases hs id c with r | r; exact q r; omega⟩
theorem Only.more {h h' : Hp} (a : Only [] h h') : More h h' := ⟨a.next, fun id k => a.same id k (by simp)⟩
theorem Row.only {S : List Pos} {h h' : Hp} {id : Pos} {g off : Nat} {l : List AV} (r : Row h id g off l) (m : Only S h h') (hs : id ∉ S) : Row h' id g off l :=
  ⟨Nat.lt_of_lt_of_le r.old m.next, by rw [readN_same (m.same id r.old hs)]; exact r.all, fun i hi => by rw [read1_same (m.same id r.old hs)]; exact r.one i hi⟩
structure Box (h : Hp) (id : Pos) (x : AV) : Prop where
  old : id.num < h.next.num
  mem : ∃ ser fz, T.get id h.heap = some (.cells ser (Cells.ofL [x]) 0 0 0 0 false fz)
theorem Box.only {S : List Pos} {h h' : Hp} {id : Pos} {x : AV} (b : Box h id x) (m : Only S h h') (hs : id ∉ S) : Box h' id x :=
  ⟨Nat.lt_of_lt_of_le b.old m.next, by rw [m.same id b.old hs]; exact b.mem⟩
theorem Box.load {h : Hp} {id : Pos} {x : AV} (b : Box h id x) : read1 h id 0 0 = some x := by
  obtain ⟨ser, fz, e⟩ := b.mem
  unfold read1
  obtain ⟨q1, q2, q3⟩ := Cells.ofL_spec [x]
  have s : seeable (Cells.ofL [x]) 0 0 0 0 0 0 1 = true := by
    unfold seeable
    rw [q3]; rfl
  simp only [e, s, cond_true]
  rw [Cells.get_eq q1, q2]; rfl
noncomputable def newH (h : Hp) (b : Nat → Blk) : Hp := ⟨T.set h.next (some (b h.ser)) h.heap, h.next.succ, Nat.succ h.ser, h.lim⟩
theorem newK_newH {β : Type} (h : Hp) (b : Nat → Blk) (k : Pos → Hp → β) : newK h b k = k h.next (newH h b) := newK_eq h b k
theorem newH_only (S : List Pos) (h : Hp) (b : Nat → Blk) : Only S h (newH h b) :=
  ⟨by show _ ≤ h.next.succ.num; rw [Pos.num_succ]; omega, rfl, fun id k _ => by
    show T.get id (T.set h.next _ h.heap) = _
    rw [T.get_set, if_neg fun e => by rw [e] at k; omega]⟩
theorem newH_get (h : Hp) (b : Nat → Blk) : T.get h.next (newH h b).heap = some (b h.ser) := by
  show T.get h.next (T.set h.next _ h.heap) = _
  rw [T.get_set, if_pos rfl]
theorem newH_next (h : Hp) (b : Nat → Blk) : (newH h b).next.num = h.next.num + 1 := Pos.num_succ _
noncomputable def newB (h : Hp) (x : AV) : Hp := newH h fun _ => .cells 0 (Cells.ofL [x]) 0 0 0 0 false false
theorem newB_box (h : Hp) (x : AV) : Box (newB h x) h.next x := ⟨by unfold newB; rw [newH_next]; omega, _, _, newH_get h _⟩
noncomputable def putB (h : Hp) (id : Pos) (x : AV) : Hp :=
  ⟨T.set id ((T.get id h.heap).map fun b => match b with | .cells ser _ lo hi g m ro fz => .cells ser (Cells.ofL [x]) lo hi g m ro fz | b => b) h.heap, h.next, h.ser, h.lim⟩
theorem putB_only (h : Hp) (id : Pos) (x : AV) : Only [id] h (putB h id x) := ⟨Nat.le_refl _, rfl, fun j _ q => by
  show T.get j (T.set id _ h.heap) = _
  rw [T.get_set, if_neg (by simpa using q)]⟩
theorem putB_box {h : Hp} {id : Pos} {x : AV} (b : Box h id x) (y : AV) : Box (putB h id y) id y := by
  obtain ⟨ser, fz, e⟩ := b.mem
  refine ⟨b.old, ser, fz, ?_⟩
  show T.get id (T.set id _ h.heap) = _
  rw [T.get_set, if_pos rfl, e]; rfl
section
variable (P : Program) (env : T AV) (h : Hp)
theorem qev_new1 (x : AV) : evalOp P (.new [x]) env h = .val (.ptr h.next 0 0) (newB h x) := by
  show newCells h (Cells.ofL [x]) _ = _
  unfold newCells
  rw [newK_newH]; rfl
theorem qev_box (x : Opd) (hx : (ev env x).cells = [ev env x]) : evalOp P (.box x) env h = .val (.ptr h.next 0 0) (newB h (ev env x)) := by
  show newCells h (Cells.ofL (ev env x).cells) _ = _
  rw [hx]
  unfold newCells
  rw [newK_newH]; rfl
noncomputable def storeR (a v : AV) (h : Hp) : Res :=
  match a with
  | .ptr id g off => bif Nat.beq v.cells.length 1 then writeN h id g off (Cells.ofL v.cells) fun h => .val .undef h else .fail "store size"
  | _ => .fail "store what"
theorem qev_store1 (a x : Opd) : evalOp P (.store 1 a x) env h = storeR (ev env a) (ev env x) h := rfl
theorem storeR_box {h : Hp} {id : Pos} {x : AV} (b : Box h id x) (y : AV) (ha : y.atom = true) (hc : y.cells = [y]) : storeR (.ptr id 0 0) y h = .val .undef (putB h id y) := by
  obtain ⟨ser, fz, e⟩ := b.mem
  unfold storeR
  simp only [hc]
  unfold writeN putB
  simp only [e, ofL_size1, ofL_atoms ha, T.setK_eq, splice1 (ofL_size1 x) (ofL_size1 y)]
  rfl
end
def RoundFn (P : Program) (l : Pos) (args : List AV) (h : Hp) (v : AV) (h' : Hp) : Prop :=
  ∃ fr, beginRound h l args = some fr ∧ ∀ callers r, AnsO P (backTo v callers h') r → Ans P ⟨fr, callers, h⟩ r
theorem leads_round {P : Program} {cx : Cx} {env : T AV} {h h' : Hp} {k : List Item} {o : O} {rest : List O} {l : Pos} {args : List AV} {v : AV} (ho : o.ok = true) (hw : wantedA o env = true)
    (he : evalOp P o.op env h = .round l args) (hf : RoundFn P l args h v h') : Leads P (sOf cx (.ops (o :: rest) :: k) env h) (sOf cx (.ops rest :: k) (setD env o.dst v) h') := by
  obtain ⟨fr, e1, e2⟩ := hf
  intro r q
  refine Ans.step (noRec_sound P) (s' := ⟨fr, ⟨cx.fn, env, .ops (o :: rest) :: k, cx.defers, .run, cx.dk, cx.round⟩ :: cx.callers, h⟩) ?_ (e2 _ r (back_give ho r q))
  unfold step
  simp only [sOf, ho, hw, he, Bool.not_true, cond_false, cond_true, apply, e1]
def cxR (f : FuncId) (l : Pos) (callers : List Fr) : Cx := ⟨noRec, f, [], false, some l, callers⟩
structure LoopAt (h : Hp) (l : Pos) (st : LState) (fn : FuncId) (env : T AV) (params : List Pos) (assign body : C) : Prop where
  old : l.num < h.next.num
  mem : ∃ ser around, T.get l h.heap = some (.loop ser st none fn env params assign body around)
noncomputable def putL (h : Hp) (l : Pos) (st : LState) : Hp :=
  ⟨T.set l ((T.get l h.heap).map fun b => match b with | .loop ser _ p fn env params assign body around => .loop ser st p fn env params assign body around | b => b) h.heap, h.next, h.ser, h.lim⟩
theorem putL_only (h : Hp) (l : Pos) (st : LState) : Only [l] h (putL h l st) := ⟨Nat.le_refl _, rfl, fun j _ q => by
  show T.get j (T.set l _ h.heap) = _
  rw [T.get_set, if_neg (by simpa using q)]⟩
section
variable {P : Program} {h h' : Hp} {l : Pos} {st : LState} {fn : FuncId} {env : T AV} {params : List Pos} {assign body : C}
theorem LoopAt.only {S : List Pos} (a : LoopAt h l st fn env params assign body) (m : Only S h h') (hs : l ∉ S) : LoopAt h' l st fn env params assign body :=
  ⟨Nat.lt_of_lt_of_le a.old m.next, by rw [m.same l a.old hs]; exact a.mem⟩
theorem LoopAt.put (a : LoopAt h l st fn env params assign body) (st' : LState) : LoopAt (putL h l st') l st' fn env params assign body := by
  obtain ⟨ser, ar, e⟩ := a.mem
  refine ⟨a.old, ser, ar, ?_⟩
  show T.get l (T.set l _ h.heap) = _
  rw [T.get_set, if_pos rfl, e]; rfl
theorem setLoop_at (a : LoopAt h l st fn env params assign body) {ok : LState → Bool} (hok : ok st = true) (st' : LState) {pend : Option C → Option C} (hp : pend none = none) (k : Option C → Hp → Out) :
    setLoop h l ok st' pend k = k none (putL h l st') := by
  obtain ⟨ser, ar, e⟩ := a.mem
  unfold setLoop putL
  simp only [e, hok, cond_true, hp, T.setK_eq]
  rfl
theorem RoundFn.intro {args : List AV} {env0 : T AV} (a : LoopAt h l .ready fn env params assign body) (hs : setParams env params args = some env0)
    (hr : ∀ callers, ∃ env1 h1 env2 h2, Leads P (sOf (cxR fn l callers) [.code assign, .beginRound, .code body] env0 h) (sOf (cxR fn l callers) [.beginRound, .code body] env1 h1) ∧ LoopAt h1 l .ready fn env params assign body ∧
      Leads P (sOf (cxR fn l callers) [.code body] env1 (putL h1 l .busy)) (sOf (cxR fn l callers) [] env2 h2) ∧ LoopAt h2 l .busy fn env params assign body ∧ h' = putL h2 l .ready) : RoundFn P l args h (.bool true) h' := by
  refine ⟨⟨fn, env0, [.code assign, .beginRound, .code body], [], .run, false, some l⟩, ?_, fun callers r q => ?_⟩
  · obtain ⟨ser, ar, e⟩ := a.mem
    unfold beginRound
    simp only [e, hs]
  · obtain ⟨env1, h1, env2, h2, L1, a1, L2, a2, e⟩ := hr callers
    subst e
    refine L1 r (Ans.step (noRec_sound P) (s' := sOf (cxR fn l callers) [.code body] env1 (putL h1 l .busy)) ?_ (L2 r (ans_out (noRec_sound P) ?_)))
    · unfold step
      simp only [sOf, cxR]
      rw [setLoop_at a1 rfl _ rfl]
    · have e : step P noRec (sOf (cxR fn l callers) [] env2 h2) = backTo (.bool true) callers (putL h2 l .ready) := by
        unfold step
        simp only [sOf, cxR, leaveRound]
        rw [setLoop_at a2 rfl _ rfl]
        rfl
      rw [e]; exact q
end
noncomputable def dfrH (h : Hp) : Hp := newH h fun s => .dfr s
noncomputable def loopH (h : Hp) (fn : FuncId) (env : T AV) (params : List Pos) (assign body : C) (around : Pos) : Hp := newH h fun s => .loop s .ready none fn env params assign body around
theorem leads_range {P : Program} {cx : Cx} (hcr : cx.round = none) {env : T AV} {h h3 : Hp} {k : List Item} {f : Opd} {params : List Pos} {assign body : C} {g : FuncId} {first captured : List AV} {v : AV} (hk : okCall P g = true)
    (hf : ev env f = .fn (.func g) first captured)
    (hg : AmFn P g (first ++ (.yield (dfrH h).next :: captured)) (loopH (dfrH h) cx.fn env params assign body h.next) v h3)
    (ha : LoopAt h3 (dfrH h).next .ready cx.fn env params assign body) :
    Leads P (sOf cx (.code (.rangeFunc f params assign body) :: k) env h) (sOf ⟨cx.fall, cx.fn, .mark h.next :: cx.defers, cx.dk, cx.round, cx.callers⟩ k env (putL h3 (dfrH h).next .exhausted)) := by
  obtain ⟨fr, e1, e2⟩ := hg
  intro r q
  have en : enterA P (loopH (dfrH h) cx.fn env params assign body h.next) g (first ++ (.yield (dfrH h).next :: captured)) = .enter g (first ++ (.yield (dfrH h).next :: captured)) (loopH (dfrH h) cx.fn env params assign body h.next) := by
    unfold okCall at hk
    split at hk
    · rename_i fn hfn
      simp only [Bool.and_eq_true, Bool.not_eq_true'] at hk
      unfold enterA
      cases hb : fn.body with
      | none => rw [hb] at hk; cases hk.1
      | some b => simp only [hfn, hb, hk.2, cond_false]
    · cases hk
  refine Ans.step (noRec_sound P) (s' := ⟨fr, ⟨cx.fn, env, .inRange (dfrH h).next :: k, .mark h.next :: cx.defers, .run, cx.dk, cx.round⟩ :: cx.callers, loopH (dfrH h) cx.fn env params assign body h.next⟩) ?_ (e2 _ r ?_)
  · unfold step
    simp only [sOf, hcr, newK_newH, hf]
    have en' := en
    unfold dfrH loopH at en'
    simp only [en', apply]
    unfold dfrH at e1
    simp only [e1]
    rfl
  · show Ans P (sOf ⟨cx.fall, cx.fn, .mark h.next :: cx.defers, cx.dk, cx.round, cx.callers⟩ (.endRange (dfrH h).next :: k) env h3) r
    refine Ans.step (noRec_sound P) (s' := sOf ⟨cx.fall, cx.fn, .mark h.next :: cx.defers, cx.dk, cx.round, cx.callers⟩ k env (putL h3 (dfrH h).next .exhausted)) ?_ q
    unfold step
    simp only [sOf]
    rw [setLoop_at ha rfl _ rfl]
theorem SlR.only {S : List Pos} {h h' : Hp} {v : AV} {l : List AV} (r : SlR h v l) (m : Only S h h') (hs : ∀ id g off n cap ex, v = .sl id g off n cap ex 1 → id ∉ S) : SlR h' v l := by
  cases r with
  | nil => exact .nil
  | emp => exact .emp
  | mk hn r => exact .mk hn (r.only m (hs _ _ _ _ _ _ rfl))
noncomputable def remH (h : Hp) (r : Pos) : Hp := ⟨T.set r none h.heap, h.next, h.ser, h.lim⟩
theorem remH_only (h : Hp) (r : Pos) : Only [r] h (remH h r) := ⟨Nat.le_refl _, rfl, fun j _ q => by
  show T.get j (T.set r _ h.heap) = _
  rw [T.get_set, if_neg (by simpa using q)]⟩
theorem ends_retM {P : Program} {f : FuncId} {callers : List Fr} {k : List Item} {env : T AV} {h : Hp} {fu : Fu} {vs : List AV} {v : AV} {r : Pos} (hc : compFn P f = some fu) (hd : ∃ s, T.get r h.heap = some (.dfr s))
    (hm : mapO (result1 env (remH h r)) fu.results = some vs) (hv : tupleA vs = v) :
    AmEnds P callers (sOf ⟨noRec, f, [.mark r], false, none, callers⟩ (.code .ret :: k) env h) v (remH h r) := by
  intro x q
  obtain ⟨s, hd⟩ := hd
  refine Ans.step (noRec_sound P) (s' := ⟨⟨f, env, .code .ret :: k, [.mark r], .ret, false, none⟩, callers, h⟩) rfl ?_
  refine Ans.step (noRec_sound P) (s' := ⟨⟨f, env, .code .ret :: k, [], .ret, false, none⟩, callers, remH h r⟩) ?_ (ans_out (noRec_sound P) ?_)
  · unfold step
    simp only [unwindA, hd, T.setK_eq]
    rfl
  · have e : step P noRec ⟨⟨f, env, .code .ret :: k, [], .ret, false, none⟩, callers, remH h r⟩ = backTo (tupleA vs) callers (remH h r) := by
      unfold step
      simp only [unwindA, hc, hm, cond_false]
    rw [e, hv]; exact q
theorem Row.nil {h : Hp} {id : Pos} (hid : id.num < h.next.num) (g off : Nat) : Row h id g off [] := ⟨hid, ⟨.lst 0 [], rfl, rfl, rfl⟩, fun i hi => by simp at hi⟩
theorem newH_row {h : Hp} {c : Cells} (hw : c.wf) {ser : Nat → Nat} {fz : Bool} : Row (newH h fun s => .cells (ser s) c 0 0 0 0 false fz) h.next 0 0 c.toL := by
  have q := Row.of_block (h := newH h fun s => .cells (ser s) c 0 0 0 0 false fz) (id := h.next) (off := 0) (n := c.size) (newH_get h _) hw (by rw [newH_next]; omega) (Nat.le_refl _) (by omega)
  rw [List.drop_zero, List.take_of_length_le (by rw [Cells.toL_length hw]; omega)] at q
  exact q
theorem append_new (P : Program) {env : T AV} {h : Hp} {s x : Opd} {v : AV} {l : List AV} {bytes : Nat} (hx : ev env x = v) (hv : SlR h v l) (hl : l.length ≤ 1073741824) (hb : bytes ≤ 4096)
    (hs : ev env s = .nilSl ∨ ∃ id g off, ev env s = .sl id g off 0 0 true 1 ∧ id.num < h.next.num) :
    ∃ v' h', evalOp P (.append 1 bytes s x) env h = .val v' h' ∧ SlR h' v' l ∧ Only [] h h' ∧
      ((l = [] ∧ v' = ev env s ∧ h' = h) ∨ ∃ n, v' = .sl h.next 0 0 n n false 1 ∧ n = l.length ∧ h'.next.num = h.next.num + 1) := by
  have e : evalOp P (.append 1 bytes s x) env h = appendA h 1 bytes (ev env s) (ev env x) := rfl
  rw [e, hx]
  cases hv with
  | nil =>
    rcases hs with hs | ⟨id, g, off, hs, hid⟩
    · exact ⟨_, h, by rw [hs]; rfl, .nil, Only.refl _ _, .inl ⟨rfl, hs.symm, rfl⟩⟩
    · exact ⟨_, h, by rw [hs]; rfl, .mk rfl (Row.nil hid _ _), Only.refl _ _, .inl ⟨rfl, hs.symm, rfl⟩⟩
  | emp =>
    rcases hs with hs | ⟨id, g, off, hs, hid⟩
    · exact ⟨_, h, by rw [hs]; rfl, .nil, Only.refl _ _, .inl ⟨rfl, hs.symm, rfl⟩⟩
    · exact ⟨_, h, by rw [hs]; rfl, .mk rfl (Row.nil hid _ _), Only.refl _ _, .inl ⟨rfl, hs.symm, rfl⟩⟩
  | mk hn r =>
    rename_i id g off n cap ex
    subst hn
    by_cases h0 : l.length = 0
    · have : l = [] := List.length_eq_zero_iff.1 h0
      subst this
      rcases hs with hs | ⟨id, g, off, hs, hid⟩
      · exact ⟨_, h, by rw [hs]; rfl, .nil, Only.refl _ _, .inl ⟨rfl, hs.symm, rfl⟩⟩
      · exact ⟨_, h, by rw [hs]; rfl, .mk rfl (Row.nil hid _ _), Only.refl _ _, .inl ⟨rfl, hs.symm, rfl⟩⟩
    · obtain ⟨c, c1, c2, c3⟩ := r.all
      have hc : c.size = l.length := by rw [← Cells.toL_length c2, c3]
      have src : srcCells h 1 l.length (.sl id g off l.length cap ex 1) = some c := by
        show readN h id g off (l.length * 1) = some c
        rw [Nat.mul_one]; exact c1
      have ok : okSize l.length bytes = true := by
        exact okSize_small hl hb
      have fin : Row (newH h fun _ => .cells (noteB bytes) c 0 0 0 0 false false) h.next 0 0 l := by
        have q := newH_row (h := h) (ser := fun _ => noteB bytes) (fz := false) c2
        rw [c3] at q; exact q
      refine ⟨.sl h.next 0 0 l.length l.length false 1, newH h fun _ => .cells (noteB bytes) c 0 0 0 0 false false, ?_, .mk rfl fin, newH_only _ _ _, .inr ⟨_, rfl, rfl, newH_next _ _⟩⟩
      unfold appendA
      simp only [lenA, beq_false.2 h0, cond_false, src]
      rcases hs with hs | ⟨id', g', off', hs, hid⟩
      · rw [hs]
        unfold appendSeg
        simp only [ok, show Nat.blt 0 1 = true from rfl, Bool.and_true, cond_true]
        unfold newCellsN
        rw [newK_newH]
      · rw [hs]
        unfold appendSeg
        simp only [natK_eq, show Nat.add 0 l.length = l.length from Nat.zero_add _, ok, show Nat.beq 1 1 = true from rfl, show Nat.blt 0 1 = true from rfl, Bool.and_true, Bool.and_self, Bool.not_true, cond_false, cond_true,
          ble_false.2 (show 0 < l.length by omega), show readN h id' g' off' (Nat.mul 0 1) = some (.lst 0 []) from rfl]
        unfold newCellsN
        rw [newK_newH]
        have ea : (Cells.lst 0 []).app c = c := by unfold Cells.app; rfl
        rw [ea]
theorem SlR.atom {h : Hp} {v : AV} {l : List AV} (r : SlR h v l) : v.atom = true ∧ v.cells = [v] := by cases r <;> exact ⟨rfl, rfl⟩
structure Arr (h : Hp) (id : Pos) (l : List AV) : Prop where
  old : id.num < h.next.num
  mem : ∃ ser c fz, T.get id h.heap = some (.cells ser c 0 0 0 0 false fz) ∧ c.wf ∧ c.toL = l
theorem Arr.only {S : List Pos} {h h' : Hp} {id : Pos} {l : List AV} (b : Arr h id l) (m : Only S h h') (hs : id ∉ S) : Arr h' id l :=
  ⟨Nat.lt_of_lt_of_le b.old m.next, by rw [m.same id b.old hs]; exact b.mem⟩
theorem Arr.row {h : Hp} {id : Pos} {l : List AV} (b : Arr h id l) : Row h id 0 0 l := by
  obtain ⟨ser, c, fz, e, hw, hl⟩ := b.mem
  have q := Row.of_block (off := 0) (n := c.size) e hw b.old (Nat.le_refl _) (by omega)
  rw [List.drop_zero, List.take_of_length_le (by rw [Cells.toL_length hw]; omega), hl] at q
  exact q
theorem Arr.one {h : Hp} {id : Pos} {l : List AV} (b : Arr h id l) {i : Nat} (hi : i < l.length) : read1 h id 0 i = some l[i] := by
  have := b.row.one i hi
  rw [Nat.zero_add, List.getElem?_eq_getElem hi] at this
  exact this
noncomputable def putA (h : Hp) (id : Pos) (i : Nat) (x : AV) : Hp :=
  ⟨T.set id ((T.get id h.heap).map fun b => match b with | .cells ser c lo hi g m ro fz => .cells ser (c.splice i (Cells.ofL [x])) lo hi g m ro fz | b => b) h.heap, h.next, h.ser, h.lim⟩
theorem putA_only (h : Hp) (id : Pos) (i : Nat) (x : AV) : Only [id] h (putA h id i x) := ⟨Nat.le_refl _, rfl, fun j _ q => by
  show T.get j (T.set id _ h.heap) = _
  rw [T.get_set, if_neg (by simpa using q)]⟩
theorem putA_arr {h : Hp} {id : Pos} {l : List AV} (b : Arr h id l) {i : Nat} (hi : i < l.length) (y : AV) : Arr (putA h id i y) id (l.set i y) := by
  obtain ⟨ser, c, fz, e, hw, hl⟩ := b.mem
  have hc : c.size = l.length := by rw [← Cells.toL_length hw, hl]
  obtain ⟨p1, p2, p3⟩ := Cells.ofL_spec [y]
  have hsz : i + (Cells.ofL [y]).size ≤ c.size := by rw [p3, hc]; simp; omega
  obtain ⟨q1, q2, q3⟩ := Cells.splice_spec hw p1 hsz
  refine ⟨b.old, ser, c.splice i (Cells.ofL [y]), fz, ?_, q1, ?_⟩
  · show T.get id (T.set id _ h.heap) = _
    rw [T.get_set, if_pos rfl, e]; rfl
  · rw [q2, p2, p3, hl, List.set_eq_take_append_cons_drop, if_pos hi]
    rfl
theorem storeR_arr {h : Hp} {id : Pos} {l : List AV} (b : Arr h id l) {i : Nat} (hi : i < l.length) (y : AV) (ha : y.atom = true) (hc : y.cells = [y]) : storeR (.ptr id 0 i) y h = .val .undef (putA h id i y) := by
  obtain ⟨ser, c, fz, e, hw, hl⟩ := b.mem
  have hz : c.size = l.length := by rw [← Cells.toL_length hw, hl]
  unfold storeR
  simp only [hc]
  unfold writeN putA
  have h1 : Nat.ble (Nat.add i 1) c.size = true := ble_iff.2 (by show i + 1 ≤ _; omega)
  have h2 : Nat.ble 0 i = true := ble_iff.2 (by omega)
  have h3 : Nat.blt i 0 = false := blt_false.2 (by omega)
  simp only [e, h1, h2, h3, ofL_size1, ofL_atoms ha, T.setK_eq]
  rfl
theorem replA_one (z : AV) : ∀ (n : Nat) (acc : List AV), replA n [z] acc = List.replicate n z ++ acc
  | 0, _ => rfl
  | n + 1, acc => by
    show replA n [z] ([z] ++ acc) = _
    rw [replA_one z n, List.replicate_succ', List.append_assoc]
theorem mkSl_arr (P : Program) {env : T AV} {h : Hp} {x y : Opd} {p bytes : Nat} {z : AV} (hx : ev env x = int64 p) (hy : ev env y = int64 p) (hp : p ≤ 1073741824) (hb : bytes ≤ 4096) :
    ∃ h', evalOp P (.mkSl 1 bytes [z] x y) env h = .val (.sl h.next 0 0 p p true 1) h' ∧ Arr h' h.next (List.replicate p z) ∧ Only [] h h' ∧ h'.next.num = h.next.num + 1 := by
  refine ⟨newH h fun _ => .cells 0 (Cells.ofL (replA p [z] [])) 0 0 0 0 false false, ?_, ⟨by rw [newH_next]; omega, _, _, _, newH_get _ _, (Cells.ofL_spec _).1, ?_⟩, newH_only _ _ _, newH_next _ _⟩
  · have e : evalOp P (.mkSl 1 bytes [z] x y) env h = (match ev env x, ev env y with
      | .int _ (.ofNat l), .int _ (.ofNat c) =>
        bif Nat.ble l c && okSize c bytes && Nat.blt 0 1 then newCells h (Cells.ofL (replA c [z] [])) fun id h => .val (.sl id 0 0 l c true 1) h else .fail "mkSl size"
      | _, _ => .fail "mkSl") := rfl
    rw [e, hx, hy]
    have ok : okSize p bytes = true := by
      exact okSize_small hp hb
    show (bif Nat.ble p p && okSize p bytes && Nat.blt 0 1 then newCells h (Cells.ofL (replA p [z] [])) fun id h => Res.val (.sl id 0 0 p p true 1) h else .fail "mkSl size") = _
    rw [ok, ble_iff.2 (Nat.le_refl p)]
    show newCells h (Cells.ofL (replA p [z] [])) _ = _
    unfold newCells
    rw [newK_newH]
  · rw [(Cells.ofL_spec _).2.1, replA_one, List.append_nil]
structure KC where
  f : FuncId
  args : List AV
  h : Hp
  v : AV
  h' : Hp
open Classical in
noncomputable def runC (P : Program) : List KC → List O → T AV → Hp → Option (T AV × Hp)
  | _, [], env, h => some (env, h)
  | A, o :: l, env, h => if o.ok = true then (if wantedA o env = true then (match evalOp P o.op env h with
    | .val v h' => runC P A l (setD env o.dst v) h'
    | .enter f args h0 => (match A with
      | a :: A' => if f = a.f ∧ args = a.args ∧ h0 = a.h ∧ h0 = h then runC P A' l (setD env o.dst a.v) a.h' else none
      | [] => none)
    | _ => none) else runC P A l (setD env o.dst .undef) h) else none
theorem leads_runC {P : Program} {cx : Cx} {k : List Item} {env' : T AV} {h' : Hp} : ∀ {l : List O} {A : List KC} {env : T AV} {h : Hp}, (∀ a ∈ A, AmFn P a.f a.args a.h a.v a.h') → runC P A l env h = some (env', h') →
    Leads P (sOf cx (.ops l :: k) env h) (sOf cx (.ops [] :: k) env' h')
  | [], A, env, h, _, e => by unfold runC at e; cases e; exact .refl _
  | o :: l, A, env, h, hA, e => by
    unfold runC at e
    split at e
    · rename_i ho
      split at e
      · rename_i hw
        split at e
        · rename_i v h1 he
          exact (leads_step (noRec_sound P) (op_step ho hw he)).trans (leads_runC hA e)
        · rename_i f args h0 he
          split at e
          · rename_i a A'
            split at e
            · rename_i c
              obtain ⟨c1, c2, c3, c4⟩ := c
              subst c1 c2 c4
              have q := hA a (by simp)
              rw [← c3] at q
              exact (leads_call ho hw he q).trans (leads_runC (fun x hx => hA x (List.mem_cons_of_mem _ hx)) e)
            · cases e
          · cases e
        · cases e
      · rename_i hw
        exact (leads_step (noRec_sound P) (op_skip ho (by simpa using hw))).trans (leads_runC hA e)
    · cases e
theorem leads_regionC {P : Program} {cx : Cx} {k : List Item} {env env' : T AV} {h h' : Hp} {l : List O} (A : List KC) (hA : ∀ a ∈ A, AmFn P a.f a.args a.h a.v a.h') (e : runC P A l env h = some (env', h')) :
    Leads P (sOf cx (.code (.region l) :: k) env h) (sOf cx k env' h') := leads_enter.trans ((leads_runC hA e).trans leads_opsNil)
theorem append_new' (P : Program) {env : T AV} {h : Hp} {s x : Opd} {v : AV} {l : List AV} {bytes : Nat} (hx : ev env x = v) (hv : SlR h v l) (h0 : l ≠ []) (hl : l.length ≤ 1073741824) (hb : bytes ≤ 4096)
    (hs : ev env s = .nilSl ∨ ∃ id g off, ev env s = .sl id g off 0 0 true 1 ∧ id.num < h.next.num) :
    ∃ h', evalOp P (.append 1 bytes s x) env h = .val (.sl h.next 0 0 l.length l.length false 1) h' ∧ Arr h' h.next l ∧ Only [] h h' ∧ h'.next.num = h.next.num + 1 := by
  have e : evalOp P (.append 1 bytes s x) env h = appendA h 1 bytes (ev env s) (ev env x) := rfl
  rw [e, hx]
  cases hv with
  | nil => exact absurd rfl h0
  | emp => exact absurd rfl h0
  | mk hn r =>
    rename_i id g off n cap ex
    subst hn
    have hpos : 0 < l.length := List.length_pos_iff.2 h0
    obtain ⟨c, c1, c2, c3⟩ := r.all
    have src : srcCells h 1 l.length (.sl id g off l.length cap ex 1) = some c := by
      show readN h id g off (l.length * 1) = some c
      rw [Nat.mul_one]; exact c1
    have ok : okSize l.length bytes = true := by
      exact okSize_small hl hb
    refine ⟨newH h fun _ => .cells (noteB bytes) c 0 0 0 0 false false, ?_, ⟨by rw [newH_next]; omega, _, _, _, newH_get _ _, c2, c3⟩, newH_only _ _ _, newH_next _ _⟩
    unfold appendA
    simp only [lenA, beq_false.2 (show l.length ≠ 0 by omega), cond_false, src]
    rcases hs with hs | ⟨id', g', off', hs, hid⟩
    · rw [hs]
      unfold appendSeg
      simp only [ok, show Nat.blt 0 1 = true from rfl, Bool.and_true, cond_true]
      unfold newCellsN
      rw [newK_newH]
    · rw [hs]
      unfold appendSeg
      simp only [natK_eq, show Nat.add 0 l.length = l.length from Nat.zero_add _, ok, show Nat.beq 1 1 = true from rfl, show Nat.blt 0 1 = true from rfl, Bool.and_true, Bool.and_self, Bool.not_true, cond_false, cond_true,
        ble_false.2 hpos, show readN h id' g' off' (Nat.mul 0 1) = some (.lst 0 []) from rfl]
      unfold newCellsN
      rw [newK_newH]
      have ea : (Cells.lst 0 []).app c = c := by unfold Cells.app; rfl
      rw [ea]
structure Gro (h : Hp) (id : Pos) (g : Nat) (l : List AV) : Prop where
  old : id.num < h.next.num
  mem : ∃ ser c hi m fz, T.get id h.heap = some (.cells ser c 0 hi g m false fz) ∧ c.wf ∧ c.toL = l
theorem Arr.gro {h : Hp} {id : Pos} {l : List AV} (a : Arr h id l) : Gro h id 0 l :=
  let ⟨ser, c, fz, e, hw, hl⟩ := a.mem
  ⟨a.old, ser, c, 0, 0, fz, e, hw, hl⟩
theorem Gro.row {h : Hp} {id : Pos} {g : Nat} {l : List AV} (b : Gro h id g l) : Row h id g 0 l := by
  obtain ⟨ser, c, hi, m, fz, e, hw, hl⟩ := b.mem
  have q := Row.of_block (off := 0) (n := c.size) e hw b.old (Nat.le_refl _) (by omega)
  rw [List.drop_zero, List.take_of_length_le (by rw [Cells.toL_length hw]; omega), hl] at q
  exact q
theorem Gro.only {S : List Pos} {h h' : Hp} {id : Pos} {g : Nat} {l : List AV} (b : Gro h id g l) (m : Only S h h') (hs : id ∉ S) : Gro h' id g l :=
  ⟨Nat.lt_of_lt_of_le b.old m.next, by rw [m.same id b.old hs]; exact b.mem⟩
theorem append_gro (P : Program) {env : T AV} {h : Hp} {s x : Opd} {v : AV} {id : Pos} {g : Nat} {l l2 : List AV} {bytes : Nat} (hs : ev env s = .sl id g 0 l.length l.length false 1) (ha : Gro h id g l) (hx : ev env x = v) (hv : SlR h v l2) (h0 : l2 ≠ [])
    (hl : l.length + l2.length ≤ 1073741824) (hb : bytes ≤ 4096) (hat : ∀ y ∈ l2, y.atom = true) :
    ∃ h', evalOp P (.append 1 bytes s x) env h = .val (.sl id (g + 1) 0 (l.length + l2.length) (l.length + l2.length) false 1) h' ∧ Gro h' id (g + 1) (l ++ l2) ∧ Only [id] h h' ∧ h'.next = h.next := by
  have e : evalOp P (.append 1 bytes s x) env h = appendA h 1 bytes (ev env s) (ev env x) := rfl
  rw [e, hx, hs]
  cases hv with
  | nil => exact absurd rfl h0
  | emp => exact absurd rfl h0
  | mk hn r =>
    rename_i id2 g2 off2 n2 cap2 ex2
    subst hn
    have hpos : 0 < l2.length := List.length_pos_iff.2 h0
    obtain ⟨seg, c1, c2, c3⟩ := r.all
    have src : srcCells h 1 l2.length (.sl id2 g2 off2 l2.length cap2 ex2 1) = some seg := by
      show readN h id2 g2 off2 (l2.length * 1) = some seg
      rw [Nat.mul_one]; exact c1
    have ok : okSize (Nat.add l.length l2.length) bytes = true := by
      exact okSize_small (show Nat.add l.length l2.length ≤ _ from hl) hb
    obtain ⟨ser, c, hi, m, fz, eb, hw, hcl⟩ := ha.mem
    have hcs : c.size = l.length := by rw [← Cells.toL_length hw, hcl]
    have ats : seg.atoms = true := by
      cases seg with
      | byt n v => rfl
      | lst n L =>
        have : L = l2 := c3
        subst this
        show List.all _ _ = true
        rw [List.all_eq_true]
        exact hat
    obtain ⟨q1, q2, q3⟩ := Cells.sub_spec hw (off := 0) (n := l.length) (by omega)
    obtain ⟨p1, p2, p3⟩ := Cells.app_spec q1 c2
    have hn1 : Nat.ble (Nat.add l.length l2.length) l.length = false := ble_false.2 (show l.length < l.length + l2.length by omega)
    have ht : Nat.add 0 (Nat.mul l.length 1) = l.length := by show 0 + l.length * 1 = _; omega
    refine ⟨⟨T.set id (some (.cells (noteG bytes ser) ((c.sub 0 l.length).app seg) 0 (bif Nat.blt m g then (bif Nat.ble hi l.length then hi else l.length) else l.length) (Nat.succ g) m false fz)) h.heap, h.next, h.ser, h.lim⟩, ?_, ⟨ha.old, noteG bytes ser, (c.sub 0 l.length).app seg, (bif Nat.blt m g then (bif Nat.ble hi l.length then hi else l.length) else l.length), m, fz, ?_, p1, ?_⟩, ⟨Nat.le_refl _, rfl, fun j _ q => ?_⟩, rfl⟩
    · unfold appendA
      simp only [lenA, beq_false.2 (show l2.length ≠ 0 by omega), cond_false, src]
      unfold appendSeg
      simp only [natK_eq, ok, show Nat.beq 1 1 = true from rfl, show Nat.blt 0 1 = true from rfl, Bool.and_true, Bool.and_self, Bool.not_true, cond_false, hn1, eb, ht, beq_iff.2 (rfl : g = g), ble_iff.2 (show l.length ≤ c.size by omega), ats, T.setK_eq,
        show Nat.ble 0 0 = true from rfl, Bool.not_false, cond_true]
      rfl
    · show T.get id (T.set id _ h.heap) = _
      rw [T.get_set, if_pos rfl]
    · rw [p2, q2, c3, List.drop_zero, hcl, List.take_length]
    · show T.get j (T.set id _ h.heap) = _
      rw [T.get_set, if_neg (by simpa using q)]
theorem qev_boxL (P : Program) (env : T AV) (h : Hp) (x : Opd) : evalOp P (.box x) env h = .val (.ptr h.next 0 0) (newH h fun _ => .cells 0 (Cells.ofL (ev env x).cells) 0 0 0 0 false false) := by
  show newCells h (Cells.ofL (ev env x).cells) _ = _
  unfold newCells
  rw [newK_newH]
theorem newH_arr (h : Hp) (l : List AV) : Arr (newH h fun _ => .cells 0 (Cells.ofL l) 0 0 0 0 false false) h.next l :=
  ⟨by rw [newH_next]; omega, _, _, _, newH_get _ _, (Cells.ofL_spec l).1, (Cells.ofL_spec l).2.1⟩
end Go.Proofs.YtjhgembcdndmkaaGreatDoor.Am

namespace Go.Proofs.YtjhgembcdndmkaaGreatDoor.Am
open Go.RowKit
theorem AmFn.calls {P : Program} {f : FuncId} {args : List AV} {h h' : Hp} {v : AV} {xs : Array Value} {φ : Phi} {w : World} (hf : AmFn P f args h v h') (hR : HR P φ h w) (hz : h.lim = 0) (ha : RelL φ args xs.toList) :
    Calls P f xs w fun e w' => ∃ φ' x, e = .returned x ∧ Rel φ' v x ∧ HR P φ' h' w' ∧ Adv h w φ h' w' φ' := by
  intro cs
  obtain ⟨fr, hb, an⟩ := hf.ans
  obtain ⟨q1, q2, q3, _⟩ := begin_run (φ := φ) (xs := xs) hb ha
  obtain ⟨w', φ', x, r1, r2, r3, _, r5⟩ := an φ w _ [] cs hR hz q1 .nil
  obtain ⟨g', s1, s2, s3⟩ := r5 q3
  exact ⟨.returned x, w', g', ⟨φ', x, rfl, r3, r1, r2⟩, s1, s2.trans q2, s3⟩
theorem Adv.below {h h' : Hp} {w w' : World} {φ φ' : Phi} (a : Adv h w φ h' w' φ') (hn : ∀ id, ¬ Nonro h id) : Below w.heap.size w w' :=
  ⟨a.os, a.tape, a.output, a.size, fun k hk => a.keep k hk fun id _ _ _ _ => hn id⟩
open Classical in
noncomputable def recF : List KC → (KC → Fr) → St → Out
  | [], _, _ => .fail ""
  | a :: A, fr, s => if a.f = s.cur.fn then (if s = ⟨fr a, [], a.h⟩ then .done a.v a.h' else .fail "") else recF A fr s
theorem recF_sound {P : Program} {fr : KC → Fr} : ∀ {A : List KC}, (∀ a ∈ A, AmFn P a.f a.args a.h a.v a.h' ∧ beginFn P a.f a.args = some (fr a)) → Sound P (recF A fr)
  | [], _ => fun _ _ _ _ _ _ _ _ _ => trivial
  | a :: A, h => fun s φ w g c0 hs hR hz hF => by
    unfold recF
    split
    · split
      · rename_i e
        subst e
        obtain ⟨q1, q2⟩ := h a (by simp)
        obtain ⟨fr', e1, e2⟩ := q1.ans
        rw [q2] at e1
        cases e1
        exact e2 φ w g [] c0 hR hz hF .nil
      · trivial
    · exact recF_sound (fun y hy => h y (List.mem_cons_of_mem _ hy)) s φ w g c0 hs hR hz hF
noncomputable def frOf (P : Program) (f : FuncId) (args : List AV) : Fr :=
  match beginFn P f args with
  | some fr => fr
  | none => default
theorem AmFn.begins {P : Program} {f : FuncId} {args : List AV} {h h' : Hp} {v : AV} (hf : AmFn P f args h v h') : beginFn P f args = some (frOf P f args) ∧ (frOf P f args).fn = f := by
  obtain ⟨fr, e, _⟩ := hf
  have q : frOf P f args = fr := by unfold frOf; rw [e]
  refine ⟨by rw [q]; exact e, ?_⟩
  rw [q]
  unfold beginFn at e
  split at e
  · rename_i fu _
    cases hl : Nat.ble args.length fu.nargs with
    | true => rw [hl] at e; cases e; rfl
    | false => rw [hl] at e; cases e
  · cases e
theorem eqAV_int (n : Nat) (k : IntKind) (a : Int) : eqAV (n + 1) (.int k a) (.int k a) = true := by
  unfold eqAV
  simp only [Bool.and_eq_true]
  exact ⟨eqK_iff.2 rfl, eqI_iff.2 rfl⟩
noncomputable def idxA2 (len es : Nat) (x i : AV) (h : Hp) : Res :=
  match x, i with
  | .ptr id g off, .int _ (.ofNat i) => bif Nat.blt i len then natK (Nat.add off (Nat.mul i es)) fun o => .val (.ptr id g o) h else .fail "idxAddrArr bounds"
  | _, _ => .fail "idxAddrArr"
theorem idxA2_ptr (len es : Nat) (id : Pos) (g off : Nat) (k : IntKind) (z : Int) (h : Hp) :
    idxA2 len es (.ptr id g off) (.int k z) h = if 0 ≤ z ∧ z < (len : Int) then .val (.ptr id g (off + z.toNat * es)) h else .fail (if 0 ≤ z then "idxAddrArr bounds" else "idxAddrArr") := by
  cases z with
  | ofNat n =>
    unfold idxA2
    simp only [natK_eq]
    by_cases c : n < len
    · rw [blt_iff.2 c, if_pos ⟨by simp, by simpa using c⟩]; rfl
    · rw [blt_false.2 (by omega), if_neg fun q => c (by simpa using q.2)]; simp
  | negSucc n =>
    rw [if_neg (by simp), if_neg (by simp)]
    rfl
theorem qev_idxArr (P : Program) (env : T AV) (h : Hp) (len es : Nat) (x i : Opd) : evalOp P (.idxAddrArr len es x i) env h = idxA2 len es (ev env x) (ev env i) h := rfl
noncomputable def actO (P : Program) (rec : St → Out) (op : AOp) (env : T AV) (h : Hp) : Option (AV × Hp) :=
  match evalOp P op env h with
  | .val v h => some (v, h)
  | .enter f args h => (match beginFn P f args with
    | some fr => (match rec ⟨fr, [], h⟩ with
      | .done v h => some (v, h)
      | _ => none)
    | none => none)
  | _ => none
theorem actO_K {P : Program} {rec : St → Out} {op : AOp} {env : T AV} {h h' : Hp} {v : AV} (e : actO P rec op env h = some (v, h')) (k : AV → Hp → Out) : actK P rec op env h k = k v h' := by
  unfold actO at e
  unfold actK
  split at e
  · rename_i v1 h1 he
    cases e
    rw [he]
  · rename_i f args h1 he
    rw [he]
    split at e
    · rename_i fr hb
      simp only [hb]
      split at e
      · rename_i v1 h2 hr
        cases e
        rw [hr]
      · cases e
    · cases e
  · cases e
noncomputable def stepD (P : Program) (rec : St → Out) (i : Nat) (s : DS) (o : O) : Option DS :=
  if wantedA o s.env = true then
    match kindOf o.op with
    | .still => (match evalOp P o.op s.env s.h with
      | .val v _ => some ⟨s.acts, s.lds, s.als, s.rid, setD s.env o.dst v, s.h⟩
      | _ => none)
    | .load => (match evalOp P o.op s.env s.h with
      | .val v _ => if lookBack P o.op s.env v o.before s.acts = true then some ⟨s.acts, ⟨i, o.op, s.env, v⟩ :: s.lds, s.als, s.rid, setD s.env o.dst v, s.h⟩ else none
      | _ => none)
    | .alloc => none
    | .actor => (match actO P rec o.op s.env ⟨insT o.before s.als s.h.heap, s.h.next, s.h.ser, s.h.lim⟩ with
      | some (v, h') => if lookAgain P h' o.before s.lds = true then some ⟨⟨i, s.h⟩ :: s.acts, s.lds, remAl o.before s.als, s.rid, setD s.env o.dst v, h'⟩ else none
      | none => none)
  else match kindOf o.op with
    | .alloc => none
    | _ => some ⟨s.acts, s.lds, s.als, s.rid, setD s.env o.dst .undef, s.h⟩
noncomputable def runD (P : Program) (rec : St → Out) : Nat → List O → DS → Option DS
  | _, [], s => some s
  | i, o :: l, s => match stepD P rec i s o with
    | some s' => runD P rec (i + 1) l s'
    | none => none
theorem stepD_go {P : Program} {rec : St → Out} {K : T AV → Hp → Out} {i : Nat} {s s' : DS} {o : O} (e : stepD P rec i s o = some s') (rest : List O) :
    drawnGo P rec K i s.acts s.lds s.als s.rid s.env s.h (o :: rest) = drawnGo P rec K (i + 1) s'.acts s'.lds s'.als s'.rid s'.env s'.h rest := by
  unfold stepD at e
  rw [show drawnGo P rec K i s.acts s.lds s.als s.rid s.env s.h (o :: rest) = _ from by unfold drawnGo; rfl]
  split at e
  · rename_i hw
    rw [hw]
    cases hk : kindOf o.op with
    | still =>
      rw [hk] at e
      simp only at e
      split at e
      · rename_i v h1 he
        cases e
        simp only [cond_true, he, setDst_eq]
      · cases e
    | load =>
      rw [hk] at e
      simp only at e
      split at e
      · rename_i v h1 he
        split at e
        · rename_i hl
          cases e
          simp only [cond_true, he, hl, setDst_eq]
        · cases e
      · cases e
    | alloc => rw [hk] at e; cases e
    | actor =>
      rw [hk] at e
      simp only at e
      split at e
      · rename_i v h1 he
        split at e
        · rename_i hl
          cases e
          simp only [cond_true, insK_eq, actO_K he, hl, setDst_eq]
        · cases e
      · cases e
  · rename_i hw
    have hw : wantedA o s.env = false := by simpa using hw
    rw [hw]
    cases hk : kindOf o.op with
    | alloc => rw [hk] at e; cases e
    | _ =>
      rw [hk] at e
      cases e
      simp only [cond_false, setDst_eq]
theorem runD_go {P : Program} {rec : St → Out} {K : T AV → Hp → Out} {rest : List O} : ∀ {l : List O} {i : Nat} {s s' : DS}, runD P rec i l s = some s' →
    drawnGo P rec K i s.acts s.lds s.als s.rid s.env s.h (l ++ rest) = drawnGo P rec K (i + l.length) s'.acts s'.lds s'.als s'.rid s'.env s'.h rest
  | [], i, s, s', e => by cases e; rfl
  | o :: l, i, s, s', e => by
    unfold runD at e
    split at e
    · rename_i s1 he
      rw [List.cons_append, stepD_go he, runD_go e, List.length_cons, show i + 1 + l.length = i + (l.length + 1) by omega]
    · cases e
theorem runD_app {P : Program} {rec : St → Out} : ∀ {l r : List O} {i : Nat} {s s1 : DS}, runD P rec i l s = some s1 → runD P rec i (l ++ r) s = runD P rec (i + l.length) r s1
  | [], r, i, s, s1, e => by cases e; rfl
  | o :: l, r, i, s, s1, e => by
    unfold runD at e
    show runD P rec i (o :: (l ++ r)) s = _
    rw [runD]
    split at e
    · rename_i s2 he
      rw [runD_app e, List.length_cons, show i + 1 + l.length = i + (l.length + 1) by omega]
    · cases e
theorem runDrawn_of {P : Program} {rec : St → Out} {l : List O} {env env' : T AV} {h h' : Hp} {acts : List Actor} {lds : List Ld} (hs : skipIds l h.next = h.next) (e : runD P rec 0 l ⟨[], [], [], h.next, env, h⟩ = some ⟨acts, lds, [], h.next, env', h'⟩) :
    runDrawn P rec l env h = some (env', h') := by
  unfold runDrawn
  rw [hs]
  have q := runD_go (K := kD) (rest := []) e
  rw [List.append_nil] at q
  have q : drawnGo P rec kD 0 [] [] [] h.next env h l = drawnGo P rec kD (0 + l.length) acts lds [] h.next env' h' [] := q
  rw [show (⟨h.heap, h.next, h.ser, h.lim⟩ : Hp) = h from rfl, q]
  rfl
theorem lookAgain_all {P : Program} {h : Hp} {m : Nat} : ∀ {l : List Ld}, (∀ d ∈ l, bit m d.i = true) → lookAgain P h m l = true
  | [], _ => rfl
  | d :: l, hd => by
    unfold lookAgain
    rw [hd d (by simp), lookAgain_all fun x hx => hd x (List.mem_cons_of_mem _ hx)]
    rfl
theorem eqAV_int8 (k : IntKind) (a : Int) : eqAV 8 (.int k a) (.int k a) = true := eqAV_int 7 k a
theorem again_ones {P : Program} {h : Hp} {n m : Nat} {l : List Ld} (hm : m = 2 ^ n - 1) (hl : ∀ d ∈ l, d.i < n) : lookAgain P h m l = true :=
  lookAgain_all fun d hd => by rw [bit_eq, hm, Nat.testBit_two_pow_sub_one]; simpa using hl d hd
theorem Gro.front {h : Hp} {id : Pos} {g : Nat} {l l2 : List AV} (b : Gro h id g (l ++ l2)) : Row h id g 0 l := by
  obtain ⟨ser, c, hi, m, fz, e, hw, hl⟩ := b.mem
  have hs : c.size = l.length + l2.length := by rw [← Cells.toL_length hw, hl, List.length_append]
  have q := Row.of_block (off := 0) (n := l.length) e hw b.old (Nat.le_refl _) (by omega)
  rw [List.drop_zero, hl, List.take_left'  rfl] at q
  exact q
theorem slice_to (P : Program) {env : T AV} {h : Hp} {x y : Opd} {id : Pos} {g len cap n : Nat} (hx : ev env x = .sl id g 0 len cap false 1) (hy : ev env y = int64 n) (hn : n ≤ cap) :
    evalOp P (.sliceSl 1 x none (some y) none) env h = .val (.sl id g 0 n cap false 1) h := by
  have e : evalOp P (.sliceSl 1 x none (some y) none) env h = (match ev env x with
    | .nilSl => (match evO env none 0, evO env (some y) 0, evO env none 0 with
      | some 0, some 0, some 0 => .val .nilSl h
      | _, _, _ => .fail "sliceSl nil")
    | .sl id g off len cap ex es' =>
      (match evO env none 0, evO env (some y) len, evO env none cap with
      | some l, some r, some m =>
        bif Nat.beq 1 es' && Nat.ble l r && Nat.ble r m && Nat.ble m cap then
          natK (Nat.sub r l) fun n => natK (Nat.sub m l) fun c => natK (Nat.add off (Nat.mul l 1)) fun off' =>
            .val (.sl id g (bif Nat.beq l m && (bif ex then true else (none : Option Opd).isSome) then off else off') n c (bif ex then true else (none : Option Opd).isSome) 1) h
        else .fail "sliceSl bounds"
      | _, _, _ => .fail "sliceSl")
    | _ => .fail "sliceSl what") := rfl
  have ey : evO env (some y) len = some n := by
    show (match ev env y with | .int _ (.ofNat n) => some n | _ => none) = _
    rw [hy]
  rw [e, hx]
  simp only [ey, show evO env none 0 = some 0 from rfl, show evO env none cap = some cap from rfl, natK_eq, show Nat.ble 0 n = true from ble_iff.2 (Nat.zero_le n), ble_iff.2 hn, ble_iff.2 (Nat.le_refl cap)]
  simp
end Go.Proofs.YtjhgembcdndmkaaGreatDoor.Am

namespace Go.Proofs.YtjhgembcdndmkaaGreatDoor.Am
open Go.RowKit
theorem HR.grown {P : Program} {φ : Phi} {h : Hp} {w w' : World} (hR : HR P φ h w) (hs : w.heap.size ≤ w'.heap.size) (hk : ∀ b, b < w.heap.size → w'.heap[b]? = w.heap[b]?) : HR P φ h w' :=
  ⟨fun id b e => BR.mono (Le.refl φ) (fun _ _ e => e) (fun g b' s n e' => hk b' (hR.inb _ _ _ _ _ e')) (hR.blk id b e), hR.used, hR.dom, hR.sep, fun id g b s n e => Nat.lt_of_lt_of_le (hR.inb _ _ _ _ _ e) hs, hR.glob⟩
theorem Adv.grown {h : Hp} {w w' : World} {φ : Phi} (os : w'.os = w.os) (output : w'.output = w.output) (tape : w'.tape = w.tape) (hs : w.heap.size ≤ w'.heap.size) (hk : ∀ b, b < w.heap.size → w'.heap[b]? = w.heap[b]?) : Adv h w φ h w' φ :=
  ⟨Le.refl φ, os, output, tape, hs, Nat.le_refl _, fun id g b s n e _ => ⟨g, s, n, e⟩, fun _ _ k => k, fun b hb _ => hk b hb, rfl, fun _ _ e => e, fun _ _ _ _ _ e => e⟩
section
variable {P : Program} {φ : Phi} {h : Hp} {w : World} {g : Frame}
theorem ops_enter (hR : HR P φ h w) (hz : h.lim = 0) {fn : FuncId} {env : T AV} {defers : List AD} {dk : Bool} {round : Option Pos} {o' : O} {l : List O} {k : List Item} (hF : FrR P φ ⟨fn, env, .ops (o' :: l) :: k, defers, .run, dk, round⟩ g)
    (ho : o'.ok = true) (hwa : wantedA o' env = true) {f : FuncId} {args : List AV} (he : evalOp P o'.op env h = .enter f args h) :
    ∃ xs, RelL φ args xs.toList ∧ ∀ cs0, Go.step P (lone g cs0 w) = .next (lone (Frame.enter P f xs .normal) (g :: cs0) w) := by
  have htd := hF.todo
  generalize hg : g.todo = gt at htd
  cases htd with
  | @cons x1 y l1 r hx htr =>
    cases y <;> first | (cases hx; done) | skip
    rename_i ops idx
    obtain ⟨h1, h2⟩ := hx
    have hm : (⟨fn, env, .ops (o' :: l) :: k, defers, .run, dk, round⟩ : Fr).mode = .run := rfl
    cases idx with
    | nil => cases h1
    | cons i idx =>
      rw [List.map_cons, List.cons.injEq] at h1
      obtain ⟨h1, _⟩ := h1
      change o' = compOper P (numT P fn) ops 0 (ops.getD i default) at h1
      subst h1
      have hi := h2 i (by simp)
      have hoi : ops[i]? = some (ops.getD i default) := by rw [Array.getD_eq_getD_getElem?, Array.getElem?_eq_getElem hi]; rfl
      generalize hoo : ops.getD i default = o at *
      have hw := wanted_eq hF.env ho
      change _ = wantedA _ env at hw
      rw [hwa] at hw
      cases hco : compAOp P o.op with
      | none =>
        have : (compOper P (numT P fn) ops 0 o).op = .bad (opWhy o) := by simp [compOper, hco]
        rw [this] at he
        cases he
      | some ao =>
        have : (compOper P (numT P fn) ops 0 o).op = ao := by simp [compOper, hco]
        rw [this] at he
        have hres := evalOp_run (a := ⟨g.tmps, g.defers⟩) hR hF.env (.inl hz) hco
        change ResR P φ h w (evalOp P ao env h) _ at hres
        rw [he] at hres
        obtain ⟨_, xs, fn', c, hrun, hf1, hf2, h3⟩ := hres
        have hbad : ¬ ∃ c, o.op = .defer c := by
          rintro ⟨c, hc⟩
          rw [hc] at hco
          unfold compAOp at hco
          simp only at hco
          split at hco
          · split at hco
            · cases hco
              rename_i fo lo _ _
              rcases evalOp_defer P fo lo env h with ⟨f, args, e⟩ | ⟨why, e⟩ <;> rw [e] at he <;> cases he
            · cases hco
          · cases hco
        refine ⟨xs, h3, fun cs0 => step_lone_go ?_⟩
        have hst : stepG P true { frame := g, callers := cs0, status := .running, dying := none } w = stepG.apply P true g cs0 none (execOp (Act.mk g.tmps g.defers).eval o) w := by
          have e := frame_run (hF.run_mode hm)
          rw [hg] at e
          rw [e]
          have q := stepGR_op (P := P) (b := g) (a := ⟨g.tmps, g.defers⟩) (k := r) (cs := cs0) (w := w) (rest := idx) hoi hw
          have hsem : Oper.semAt g.roundOf (Act.mk g.tmps g.defers).eval o = execOp (Act.mk g.tmps g.defers).eval o := by
            cases hro : round with
            | none =>
              subst hro
              rw [roundOf_none hF rfl]
              rfl
            | some l => exact Oper.semAt_eq _ _ _ fun c hc => hbad ⟨c, hc⟩
          rw [hsem] at q
          exact q
        rw [hst]
        simp [stepG.apply, Sem.runT_eq, hrun, GStep.bare_after, hg]
def KitFn (P : Program) (f : FuncId) (args : List AV) (h : Hp) (v : AV) : Prop :=
  ∀ (φ : Phi) (w : World) (xs : Array Value), HR P φ h w → RelL φ args xs.toList → Calls P f xs w fun e w' => ∃ x, e = .returned x ∧ Rel φ v x ∧ Below w.heap.size w w'
theorem give_head {o : O} (K : Fr → Out) {fn : FuncId} {env : T AV} {rest : List O} {k : List Item} {defers : List AD} {dk : Bool} {round : Option Pos} {v : AV} (ho : o.ok = true) :
    give ⟨fn, env, .ops (o :: rest) :: k, defers, .run, dk, round⟩ v K = K ⟨fn, setD env o.dst v, .ops rest :: k, defers, .run, dk, round⟩ := by
  unfold give
  simp only [ho, cond_true]
  cases o.dst with
  | none => rfl
  | some d => simp only [T.setK_eq, setD]
theorem leads_kit {cx : Cx} {k : List Item} {env : T AV} {o : O} {rest : List O} {f : FuncId} {args : List AV} {v : AV} (ho : o.ok = true) (hw : wantedA o env = true) (he : evalOp P o.op env h = .enter f args h) (hf : KitFn P f args h v) :
    Leads P (sOf cx (.ops (o :: rest) :: k) env h) (sOf cx (.ops rest :: k) (setD env o.dst v) h) := by
  intro r q φ w g cs c0 hR hz hF hC
  obtain ⟨xs, hx, hst⟩ := ops_enter hR hz hF ho hw he
  obtain ⟨e, w', fr, ⟨x, rfl, hv, hb⟩, hc, _, hl⟩ := hf φ w xs hR hx (g :: (cs ++ c0))
  have st : Steps P (lone g (cs ++ c0) w) (lone (g.finish x) (cs ++ c0) w') :=
    (Steps.one (hst _)).trans ((show Steps P _ _ from hc).trans (.one (step_leave_returned hl)))
  have hk : ∀ b, b < w.heap.size → w'.heap[b]? = w.heap[b]? := fun b hb' => hb.block b hb'
  have hR' := hR.grown hb.size hk
  have hA : Adv h w φ h w' φ := Adv.grown hb.os hb.output hb.tape hb.size hk
  have hg := give_head (fun fr => Out.next ⟨fr, cx.callers, h⟩) (fn := cx.fn) (env := env) (rest := rest) (k := k) (defers := cx.defers) (dk := cx.dk) (round := cx.round) (v := v) ho
  rcases give_run (fun fr => Out.next ⟨fr, cx.callers, h⟩) (hF.mono hA.le) hv with ⟨why, e⟩ | ⟨fr', e, e1, e2, e3⟩
  · exact absurd (hg.symm.trans e) (by intro q; cases q)
  · have hfr := hg.symm.trans e
    cases hfr
    exact OutR.then (s' := sOf cx (.ops rest :: k) (setD env o.dst v) h) hR hz st hA (by cases hcs : cx.callers <;> simp [bot, sOf, hcs, List.getLast?_cons]) (by cases hcs : cx.callers <;> simp [bot, sOf, hcs, List.getLast?_cons]) (q φ w' (g.finish x) cs c0 hR' hz e1 hC)
inductive CallR (P : Program) (a : KC) : Prop where
  | fn (h : AmFn P a.f a.args a.h a.v a.h')
  | kit (h : KitFn P a.f a.args a.h a.v) (e : a.h' = a.h)
theorem leads_callR {cx : Cx} {k : List Item} {env : T AV} {o : O} {rest : List O} {a : KC} (ho : o.ok = true) (hw : wantedA o env = true) (he : evalOp P o.op env a.h = .enter a.f a.args a.h) (hf : CallR P a) :
    Leads P (sOf cx (.ops (o :: rest) :: k) env a.h) (sOf cx (.ops rest :: k) (setD env o.dst a.v) a.h') := by
  cases hf with
  | fn q => exact leads_call ho hw he q
  | kit q e => rw [e]; exact leads_kit ho hw he q
end
end Go.Proofs.YtjhgembcdndmkaaGreatDoor.Am

namespace Go.Proofs.YtjhgembcdndmkaaGreatDoor.Am
open Go.RowKit
noncomputable def cutP (N : Nat) (φ : Phi) : Phi := fun id g => if id.num < N then φ id g else none
theorem cutP_old {N : Nat} {φ : Phi} {id : Pos} (h : id.num < N) (g : Nat) : cutP N φ id g = φ id g := if_pos h
theorem cutP_le {N : Nat} {φ : Phi} : Le (cutP N φ) φ := fun id g r e => by
  unfold cutP at e
  split at e
  · exact e
  · cases e
theorem cutP_num {N : Nat} {φ : Phi} {id : Pos} {g : Nat} {r : Nat × Int × Nat} (e : cutP N φ id g = some r) : id.num < N := by
  unfold cutP at e
  split at e
  · assumption
  · cases e
section
variable {N : Nat} {φ φ' ψ : Phi}
mutual
theorem Rel.cut (hψ : ∀ id g, id.num < N → ψ id g = φ' id g) (hu : ∀ id g r, φ id g = some r → id.num < N) {v : AV} {x x' : Value} : Rel φ v x → Rel φ' v x' → Rel ψ v x'
  | .bool _, r => by cases r; exact .bool _
  | .int _ _, r => by cases r; exact .int _ _
  | .str _ _, r => by cases r with | str h hv => exact .str h hv
  | .ptr h _ _ _, r => by cases r with | ptr h' hb ho hs => exact .ptr (by rw [hψ _ _ (hu _ _ _ h)]; exact h') hb ho hs
  | .nilPtr, r => by cases r; exact .nilPtr
  | .sl h _ _ _ _ _ _ _, r => by
    cases r with
    | sl h' hb hs hl hc hlc hx ho => exact .sl (by rw [hψ _ _ (hu _ _ _ h)]; exact h') hb hs hl hc hlc hx ho
    | sl0 => exact .sl0
  | .sl0, r => by
    cases r with
    | sl h' hb hs hl hc hlc hx ho =>
      obtain rfl := hx rfl
      exact .sl0
    | sl0 => exact .sl0
  | .nilSl, r => by cases r; exact .nilSl
  | .map h, r => by cases r with | map h' => exact .map (by rw [hψ _ _ (hu _ _ _ h)]; exact h')
  | .nilMap, r => by cases r; exact .nilMap
  | .fn h h', r => by cases r with | fn k k' => exact .fn (RelL.cut hψ hu h k) (RelL.cut hψ hu h' k')
  | .yield h, r => by cases r with | yield h' => exact .yield (by rw [hψ _ _ (hu _ _ _ h)]; exact h')
  | .nilFn, r => by cases r; exact .nilFn
  | .ifc h, r => by cases r with | ifc k => exact .ifc (Rel.cut hψ hu h k)
  | .nilIfc, r => by cases r; exact .nilIfc
  | .agg h, r => by cases r with | agg k => exact .agg (RelL.cut hψ hu h k)
  | .tup h, r => by cases r with | tup k => exact .tup (RelL.cut hψ hu h k)
theorem RelL.cut (hψ : ∀ id g, id.num < N → ψ id g = φ' id g) (hu : ∀ id g r, φ id g = some r → id.num < N) {l : List AV} {r r' : List Value} : RelL φ l r → RelL φ' l r' → RelL ψ l r'
  | .nil, k => by cases k; exact .nil
  | .cons h t, k => by cases k with | cons h' t' => exact .cons (Rel.cut hψ hu h h') (RelL.cut hψ hu t t')
end
theorem EntsR.cut (hψ : ∀ id g, id.num < N → ψ id g = φ' id g) (hu : ∀ id g r, φ id g = some r → id.num < N) {l : List (AV × AV × Nat)} {r : List MapEntry} (h : EntsR φ l r) : ∀ {r' : List MapEntry}, EntsR φ' l r' → EntsR ψ l r' := by
  induction h with
  | nil => intro r' k; cases k; exact .nil
  | cons hk hv _ ih => intro r' k; cases k with | cons hk' hv' t' => exact .cons (hk.cut hψ hu hk') (hv.cut hψ hu hv') (ih t')
theorem BR.cut {P : Program} {w w' : World} (hψ : ∀ id g, id.num < N → ψ id g = φ' id g) (hu : ∀ id g r, φ id g = some r → id.num < N) {id : Pos} (hid : id.num < N) {b : Blk} (h : BR P φ w id b) (k : BR P φ' w' id b) : BR P ψ w' id b := by
  cases b with
  | cells note c lo hi g m ro fz =>
    obtain ⟨⟨a1, a2, a3, a4, a5, a6⟩, _⟩ := h
    obtain ⟨⟨b1, b2, b3, b4, b5, b6⟩, b7⟩ := k
    refine ⟨⟨b1, b2, b3, fun j hj => by rw [hψ _ _ hid]; exact b4 j hj, fun j j' b s n s' n' q1 q2 q3 q4 e1 e2 => b5 j j' b s n s' n' q1 q2 q3 q4 ((hψ _ _ hid).symm.trans e1) ((hψ _ _ hid).symm.trans e2), fun j q1 q2 => ?_⟩, fun j b s n C el fr q1 q2 e => b7 j b s n C el fr q1 q2 ((hψ _ _ hid).symm.trans e)⟩
    obtain ⟨b, s, n, C, el, fr, e1, e2, e3, e4, e5⟩ := b6 j q1 q2
    refine ⟨b, s, n, C, el, fr, by rw [hψ _ _ hid]; exact e1, e2, e3, e4, fun i v i1 i2 hv => ?_⟩
    obtain ⟨o, x, f1, f2, f3⟩ := e5 i v i1 i2 hv
    obtain ⟨_, _, _, _, _, _, _, _, _, _, g5⟩ := a6 j q1 q2
    obtain ⟨_, _, _, _, g3⟩ := g5 i v i1 i2 hv
    exact ⟨o, x, f1, f2, g3.cut hψ hu f3⟩
  | sit _ n v pos =>
    obtain ⟨b, s, e, q⟩ := k
    exact ⟨b, s, by rw [hψ _ _ hid]; exact e, q⟩
  | mit _ mm since seen last =>
    obtain ⟨b0, bm0, _, _, e0⟩ := h
    obtain ⟨b, bm, e, q1, q2⟩ := k
    refine ⟨b, bm, by rw [hψ _ _ hid]; exact e, q1, ?_⟩
    cases mm with
    | none => cases bm <;> exact q2
    | some mm =>
      cases bm with
      | none => exact q2
      | some c =>
        cases bm0 with
        | none => exact e0.elim
        | some c0 => show ψ mm 0 = _; rw [hψ _ _ (hu _ _ _ e0)]; exact q2
  | map _ es clock =>
    obtain ⟨_, _, _, _, t0⟩ := h
    obtain ⟨b, E, e, q, t⟩ := k
    exact ⟨b, E, by rw [hψ _ _ hid]; exact e, q, t0.cut hψ hu t⟩
  | loop _ st pending fn env params assign body around =>
    obtain ⟨_, _, _, _, _, _, _, a0, _, _, _, _, _, c0⟩ := h
    obtain ⟨b, L, e, q1, q2, q3, q4, q5, q6, q7, q8, q9, q10, q11⟩ := k
    exact ⟨b, L, by rw [hψ _ _ hid]; exact e, q1, q2, q3, q4, fun t => (a0 t).cut hψ hu (q5 t), q6, q7, q8, q9, q10, by rw [hψ _ _ (hu _ _ _ c0)]; exact q11⟩
  | dfr _ =>
    obtain ⟨b, e, q⟩ := k
    exact ⟨b, by rw [hψ _ _ hid]; exact e, q⟩
end
section
variable {P : Program} {φ φ' : Phi} {h h' : Hp} {w w' : World}
theorem HR.num (hR : HR P φ h w) (hz : h.lim = 0) : ∀ id g r, φ id g = some r → id.num < h.next.num := fun id g r e => by
  rcases hR.used id g r e with q | ⟨q, _⟩
  · exact q
  · exact absurd hz q
theorem HR.cut (hR : HR P φ h w) (hz : h.lim = 0) (hR' : HR P φ' h' w') (o : Only [] h h') (hA : Adv h w φ h' w' φ') : HR P (cutP h.next.num φ') h w' where
  blk id b e := by
    have hid : id.num < h.next.num := by
      rcases hR.dom id b e with q | ⟨q, _⟩
      · exact q
      · exact absurd hz q
    exact BR.cut (fun _ _ k => cutP_old k _) (hR.num hz) hid (hR.blk id b e) (hR'.blk id b (by rw [o.same id hid (by simp)]; exact e))
  used id g r e := .inl (cutP_num e)
  dom := hR.dom
  sep id g b s n id' g' s' n' e e' := by
    have nr : ∀ {j : Pos}, j.num < h.next.num → Nonro h j → Nonro h' j := fun {j} hj ⟨x, k, q⟩ => ⟨x, by rw [o.same j hj (by simp)]; exact k, q⟩
    rcases hR'.sep id g b s n id' g' s' n' (cutP_le _ _ _ e) (cutP_le _ _ _ e') with q | ⟨q1, q2⟩
    · exact .inl q
    · exact .inr ⟨fun k => q1 (nr (cutP_num e) k), fun k => q2 (nr (cutP_num e') k)⟩
  inb id g b s n e := hR'.inb id g b s n (cutP_le _ _ _ e)
  glob g hg := by rw [cutP_old (hR.num hz _ _ _ (hR.glob g hg))]; exact hA.le _ _ _ (hR.glob g hg)
theorem Adv.cut (hR : HR P φ h w) (hz : h.lim = 0) (hA : Adv h w φ h' w' φ') : Adv h w φ h w' (cutP h.next.num φ') :=
  ⟨fun id g r e => by rw [cutP_old (hR.num hz _ _ _ e)]; exact hA.le _ _ _ e, hA.os, hA.output, hA.tape, hA.size, Nat.le_refl _, fun id g b s n e hb => hA.new id g b s n (cutP_le _ _ _ e) hb, fun _ _ k => k,
    hA.keep, rfl, fun _ _ e => e, fun id g r _ q e => hA.same id g r (.inl (cutP_num e)) q (cutP_le _ _ _ e)⟩
theorem AmFn.renorm {f : FuncId} {args : List AV} {v v2 : AV} {h2 : Hp} (a : AmFn P f args h v h')
    (k : ∀ φ w φ' w', HR P φ h w → h.lim = 0 → HR P φ' h' w' → Adv h w φ h' w' φ' → ∃ φ2, HR P φ2 h2 w' ∧ Adv h w φ h2 w' φ2 ∧ ∀ x, Rel φ' v x → Rel φ2 v2 x) : AmFn P f args h v2 h2 := by
  obtain ⟨fr, e1, e2⟩ := a
  have D := e2 [] _ (rfl : AnsO P (backTo v [] h') (.done v h'))
  refine ⟨fr, e1, fun callers r q φ w g cs c0 hR hz hF hC => ?_⟩
  obtain ⟨w', φ', x, hR', hA, hv, st1, st2⟩ := D φ w g [] (cs ++ c0) hR hz hF .nil
  obtain ⟨φ2, hR2, hA2, hv2⟩ := k φ w φ' w' hR hz hR' hA
  cases callers with
  | nil =>
    cases hC
    change r = .done v2 h2 at q
    subst q
    exact ⟨w', φ2, x, hR2, hA2, hv2 x hv, st1, st2⟩
  | cons c cl =>
    cases hC with
    | cons hc hcl =>
      rename_i y ys
      rcases give_run (fun c => Out.next ⟨c, cl, h2⟩) (hc.mono hA2.le) (hv2 x hv) with ⟨why, e⟩ | ⟨fr', e, f1, f2, f3⟩
      · rw [show backTo v2 (c :: cl) h2 = give c v2 fun c => .next ⟨c, cl, h2⟩ from rfl, e] at q
        exact q.elim
      · rw [show backTo v2 (c :: cl) h2 = give c v2 fun c => .next ⟨c, cl, h2⟩ from rfl, e] at q
        refine OutR.then (s' := ⟨fr', cl, h2⟩) (cs' := ys) hR hz (st1 y (ys ++ c0) rfl) hA2 ?_ ?_ (q φ2 w' (y.finish x) ys c0 hR2 (hA2.lim.trans hz) f1 (hcl.mono hA2.le))
        · cases cl with
          | nil => exact f2
          | cons d l => simp [bot, List.getLast?_cons]
        · cases cl with
          | nil => exact f3
          | cons d l => simp [bot, List.getLast?_cons]
mutual
noncomputable def AV.plain : AV → Bool
  | .bool _ | .int _ _ | .str _ _ | .nilPtr | .nilSl | .nilMap | .nilFn | .nilIfc => true
  | .ifc _ v => AV.plain v
  | .agg l | .tup l => plainL l
  | _ => false
noncomputable def plainL : List AV → Bool
  | [] => true
  | v :: l => AV.plain v && plainL l
end
mutual
theorem Rel.anyφ {φ ψ : Phi} : ∀ {v : AV} {x : Value}, v.plain = true → Rel φ v x → Rel ψ v x
  | .bool _, _, _, r => by cases r; exact .bool _
  | .int _ _, _, _, r => by cases r; exact .int _ _
  | .str _ _, _, _, r => by cases r with | str h hv => exact .str h hv
  | .nilPtr, _, _, r => by cases r; exact .nilPtr
  | .nilSl, _, _, r => by cases r; exact .nilSl
  | .nilMap, _, _, r => by cases r; exact .nilMap
  | .nilFn, _, _, r => by cases r; exact .nilFn
  | .nilIfc, _, _, r => by cases r; exact .nilIfc
  | .ifc _ v, _, p, r => by cases r with | ifc h => exact .ifc (Rel.anyφ (v := v) (by rw [AV.plain] at p; exact p) h)
  | .agg l, _, p, r => by cases r with | agg h => exact .agg (RelL.anyφ (by rw [AV.plain] at p; exact p) h)
  | .tup l, _, p, r => by cases r with | tup h => exact .tup (RelL.anyφ (by rw [AV.plain] at p; exact p) h)
  | .ptr .., _, p, _ => by rw [AV.plain] at p <;> first | cases p | simp
  | .sl .., _, p, _ => by rw [AV.plain] at p <;> first | cases p | simp
  | .map .., _, p, _ => by rw [AV.plain] at p <;> first | cases p | simp
  | .fn .., _, p, _ => by rw [AV.plain] at p <;> first | cases p | simp
  | .yield .., _, p, _ => by rw [AV.plain] at p <;> first | cases p | simp
theorem RelL.anyφ {φ ψ : Phi} : ∀ {l : List AV} {r : List Value}, plainL l = true → RelL φ l r → RelL ψ l r
  | [], _, _, r => by cases r; exact .nil
  | v :: l, _, p, r => by
    rw [plainL, Bool.and_eq_true] at p
    cases r with | cons h t => exact .cons (Rel.anyφ p.1 h) (RelL.anyφ p.2 t)
end
theorem AmFn.plain {f : FuncId} {args : List AV} {v : AV} (a : AmFn P f args h v h') (o : Only [] h h') (hv : v.plain = true) : AmFn P f args h v h :=
  a.renorm fun _ _ _ _ hR hz hR' hA => ⟨_, hR.cut hz hR' o hA, hA.cut hR hz, fun _ q => q.anyφ hv⟩
end
end Go.Proofs.YtjhgembcdndmkaaGreatDoor.Am

namespace Go.Proofs.YtjhgembcdndmkaaGreatDoor.Am
open Go.RowKit
inductive Sg where
  | go
  | exit (i : Nat)
  | ret
def Cx.add (M : List AD) (cx : Cx) : Cx := ⟨cx.fall, cx.fn, M ++ cx.defers, cx.dk, cx.round, cx.callers⟩
def Dos (P : Program) (F : FuncId) (c : C) (env : T AV) (h : Hp) (o : Sg) (M : List AD) (env' : T AV) (h' : Hp) : Prop :=
  ∀ (cx : Cx) (k : List Item), M = [] ∨ (cx.round = none ∧ cx.fn = F) → match o with
    | .go => Leads P (sOf cx (.code c :: k) env h) (sOf (cx.add M) k env' h')
    | .exit i => ∃ k', exitA i k' = exitA i k ∧ Leads P (sOf cx (.code c :: k) env h) (sOf (cx.add M) (.code (.exit i) :: k') env' h')
    | .ret => ∃ k', Leads P (sOf cx (.code c :: k) env h) (sOf (cx.add M) (.code .ret :: k') env' h')
section
variable {P : Program} {F : FuncId} {env env' env1 : T AV} {h h' h1 : Hp} {a b c : C} {o : Sg} {M M1 : List AD}
theorem exitA_cons {i : Nat} {x : Item} {k k' : List Item} (hx : ∀ j, x ≠ .inBlock j) (e : exitA i k' = exitA i (x :: k)) : exitA i k' = exitA i k := by
  rw [e]
  cases x with
  | inBlock j => exact absurd rfl (hx j)
  | _ => rfl
theorem dos_go (hl : ∀ cx k, Leads P (sOf cx (.code c :: k) env h) (sOf cx k env' h')) : Dos P F c env h .go [] env' h' := fun cx k _ => hl cx k
theorem Dos.skip : Dos P F .skip env h .go [] env h := dos_go fun _ _ => leads_skip
theorem Dos.label : Dos P F .label env h .go [] env h := dos_go fun _ _ => leads_label
theorem Dos.ret : Dos P F .ret env h .ret [] env h := fun _ k _ => ⟨k, .refl _⟩
theorem Dos.exit {i : Nat} : Dos P F (.exit i) env h (.exit i) [] env h := fun _ k _ => ⟨k, rfl, .refl _⟩
theorem Dos.region {l : List O} (e : runOps P l env h = some (env', h')) : Dos P F (.region l) env h .go [] env' h' := dos_go fun _ _ => leads_region e
theorem Dos.regionC {l : List O} (A : List KC) (hA : ∀ a ∈ A, AmFn P a.f a.args a.h a.v a.h') (e : runC P A l env h = some (env', h')) : Dos P F (.region l) env h .go [] env' h' := dos_go fun _ _ => leads_regionC A hA e
theorem Dos.drawn {rec : St → Out} (hrec : Sound P rec) {l : List O} (e : runDrawn P rec l env h = some (env', h')) : Dos P F (.drawn l) env h .go [] env' h' := dos_go fun _ _ => leads_drawn hrec e
theorem add_add (M M1 : List AD) (cx : Cx) : (cx.add M1).add M = cx.add (M ++ M1) := by
  unfold Cx.add
  simp
theorem Dos.seq (ha : Dos P F a env h .go M1 env1 h1) (hb : Dos P F b env1 h1 o M env' h') : Dos P F (.seq a b) env h o (M ++ M1) env' h' := by
  intro cx k hr
  have hr1 : M1 = [] ∨ (cx.round = none ∧ cx.fn = F) := hr.imp (fun e => (List.append_eq_nil_iff.1 e).2) id
  have hr2 : M = [] ∨ ((cx.add M1).round = none ∧ (cx.add M1).fn = F) := hr.imp (fun e => (List.append_eq_nil_iff.1 e).1) id
  have l1 := leads_seq.trans (ha cx (.code b :: k) hr1)
  have q := hb (cx.add M1) k hr2
  cases o with
  | go => have q := l1.trans q; rw [add_add] at q; exact q
  | exit i =>
    obtain ⟨k', e, q⟩ := q
    have q := l1.trans q
    rw [add_add] at q
    exact ⟨k', e, q⟩
  | ret =>
    obtain ⟨k', q⟩ := q
    have q := l1.trans q
    rw [add_add] at q
    exact ⟨k', q⟩
theorem Dos.left (ha : Dos P F a env h o M env' h') (ho : o ≠ .go) : Dos P F (.seq a b) env h o M env' h' := by
  intro cx k hr
  have q := ha cx (.code b :: k) hr
  cases o with
  | go => exact absurd rfl ho
  | exit i =>
    obtain ⟨k', e, q⟩ := q
    exact ⟨k', exitA_cons (fun _ => by simp) e, leads_seq.trans q⟩
  | ret =>
    obtain ⟨k', q⟩ := q
    exact ⟨k', leads_seq.trans q⟩
theorem Dos.pre {a : C} (hl : ∀ cx k, Leads P (sOf cx (.code c :: k) env h) (sOf cx (.code a :: k) env1 h1)) (ha : Dos P F a env1 h1 o M env' h') : Dos P F c env h o M env' h' := by
  intro cx k hr
  have q := ha cx k hr
  cases o with
  | go => exact (hl cx k).trans q
  | exit i => obtain ⟨k', e, q⟩ := q; exact ⟨k', e, (hl cx k).trans q⟩
  | ret => obtain ⟨k', q⟩ := q; exact ⟨k', (hl cx k).trans q⟩
theorem Dos.cond {x : Opd} {t : Bool} (e : ev env x = .bool t) (ha : Dos P F (if t = true then a else b) env h o M env' h') : Dos P F (.cond x a b) env h o M env' h' := .pre (fun _ _ => leads_cond e) ha
theorem Dos.within {x : Item} (hx : ∀ j, x ≠ .inBlock j) (h1 : ∀ cx k, Leads P (sOf cx (.code c :: k) env h) (sOf cx (.code a :: x :: k) env h)) (h2 : ∀ cx k, Leads P (sOf cx (x :: k) env' h') (sOf cx k env' h'))
    (ha : Dos P F a env h o M env' h') : Dos P F c env h o M env' h' := by
  intro cx k hr
  have q := ha cx (x :: k) hr
  cases o with
  | go => exact (h1 cx k).trans (q.trans (h2 _ k))
  | exit i => obtain ⟨k', e, q⟩ := q; exact ⟨k', exitA_cons hx e, (h1 cx k).trans q⟩
  | ret => obtain ⟨k', q⟩ := q; exact ⟨k', (h1 cx k).trans q⟩
theorem Dos.scope (ha : Dos P F a env h o M env' h') : Dos P F (.scope a) env h o M env' h' := .within (x := .inScope) (fun _ => by simp) (fun _ _ => leads_scope) (fun _ _ => leads_inScope) ha
def Sg.blk (i : Nat) : Sg → Sg
  | .exit j => if j = i then .go else .exit j
  | o => o
theorem Dos.block {i : Nat} (ha : Dos P F a env h o M env' h') : Dos P F (.block i a) env h (o.blk i) M env' h' := by
  intro cx k hr
  have q := ha cx (.inBlock i :: k) hr
  cases o with
  | go => exact leads_block.trans (q.trans leads_inBlock)
  | exit j =>
    obtain ⟨k', e, q⟩ := q
    by_cases c : j = i
    · subst c
      rw [show Sg.blk j (.exit j) = .go from if_pos rfl]
      have e : exitA j k' = some k := by
        rw [e]
        show (bif Nat.beq j j then some k else exitA j k) = _
        rw [beq_iff.2 rfl]; rfl
      exact leads_block.trans (q.trans (leads_exit e))
    · rw [show Sg.blk i (.exit j) = .exit j from if_neg c]
      have e : exitA j k' = exitA j k := by
        rw [e]
        show (bif Nat.beq i j then some k else exitA j k) = _
        rw [beq_false.2 fun x => c x.symm]; rfl
      exact ⟨k', e, leads_block.trans q⟩
  | ret => obtain ⟨k', q⟩ := q; exact ⟨k', leads_block.trans q⟩
def Loops (P : Program) (F : FuncId) (a : C) (env : T AV) (h : Hp) (o : Sg) (M : List AD) (env' : T AV) (h' : Hp) : Prop :=
  ∀ (cx : Cx) (k : List Item), M = [] ∨ (cx.round = none ∧ cx.fn = F) → match o with
    | .go => False
    | .exit i => ∃ k', exitA i k' = exitA i k ∧ Leads P (sOf cx (.code a :: .inLoop a :: k) env h) (sOf (cx.add M) (.code (.exit i) :: k') env' h')
    | .ret => ∃ k', Leads P (sOf cx (.code a :: .inLoop a :: k) env h) (sOf (cx.add M) (.code .ret :: k') env' h')
theorem Dos.loop (hl : Loops P F a env h o M env' h') : Dos P F (.loop a) env h o M env' h' := by
  intro cx k hr
  have q := hl cx k hr
  cases o with
  | go => exact q.elim
  | exit i => obtain ⟨k', e, q⟩ := q; exact ⟨k', e, leads_loop.trans q⟩
  | ret => obtain ⟨k', q⟩ := q; exact ⟨k', leads_loop.trans q⟩
theorem Loops.more (ha : Dos P F a env h .go M1 env1 h1) (hb : Loops P F a env1 h1 o M env' h') : Loops P F a env h o (M ++ M1) env' h' := by
  intro cx k hr
  have hr1 : M1 = [] ∨ (cx.round = none ∧ cx.fn = F) := hr.imp (fun e => (List.append_eq_nil_iff.1 e).2) id
  have hr2 : M = [] ∨ ((cx.add M1).round = none ∧ (cx.add M1).fn = F) := hr.imp (fun e => (List.append_eq_nil_iff.1 e).1) id
  have l1 := (ha cx (.inLoop a :: k) hr1).trans leads_inLoop
  have q := hb (cx.add M1) k hr2
  cases o with
  | go => exact q.elim
  | exit i =>
    obtain ⟨k', e, q⟩ := q
    have q := l1.trans q
    rw [add_add] at q
    exact ⟨k', e, q⟩
  | ret =>
    obtain ⟨k', q⟩ := q
    have q := l1.trans q
    rw [add_add] at q
    exact ⟨k', q⟩
theorem Loops.out (ha : Dos P F a env h o M env' h') (ho : o ≠ .go) : Loops P F a env h o M env' h' := by
  intro cx k hr
  have q := ha cx (.inLoop a :: k) hr
  cases o with
  | go => exact absurd rfl ho
  | exit i => obtain ⟨k', e, q⟩ := q; exact ⟨k', exitA_cons (fun _ => by simp) e, q⟩
  | ret => exact q
open Classical in
noncomputable def runR (P : Program) : List KC → List O → T AV → Hp → Option (List KC × T AV × Hp)
  | A, [], env, h => some (A, env, h)
  | A, o :: l, env, h => if o.ok = true then (if wantedA o env = true then (match evalOp P o.op env h with
    | .val v h' => runR P A l (setD env o.dst v) h'
    | .enter f args h0 => (match A with
      | a :: A' => if f = a.f ∧ args = a.args ∧ h0 = a.h ∧ h0 = h then runR P A' l (setD env o.dst a.v) a.h' else none
      | [] => none)
    | _ => none) else runR P A l (setD env o.dst .undef) h) else none
theorem leads_runR {cx : Cx} {k : List Item} {A1 : List KC} : ∀ {l : List O} {A : List KC} {env : T AV} {h : Hp}, (∀ a ∈ A, CallR P a) → runR P A l env h = some (A1, env', h') →
    Leads P (sOf cx (.ops l :: k) env h) (sOf cx (.ops [] :: k) env' h') ∧ ∀ a ∈ A1, a ∈ A
  | [], A, env, h, _, e => by unfold runR at e; cases e; exact ⟨.refl _, fun _ q => q⟩
  | o :: l, A, env, h, hA, e => by
    unfold runR at e
    split at e
    · rename_i ho
      split at e
      · rename_i hw
        split at e
        · rename_i v h1 he
          obtain ⟨q1, q2⟩ := leads_runR hA e
          exact ⟨(leads_step (noRec_sound P) (op_step ho hw he)).trans q1, q2⟩
        · rename_i f args h0 he
          split at e
          · rename_i a A'
            split at e
            · rename_i c
              obtain ⟨c1, c2, c3, c4⟩ := c
              subst c1 c2 c4
              subst c3
              have q := hA a (by simp)
              obtain ⟨q1, q2⟩ := leads_runR (fun x hx => hA x (List.mem_cons_of_mem _ hx)) e
              exact ⟨(leads_callR ho hw he q).trans q1, fun x hx => List.mem_cons_of_mem _ (q2 x hx)⟩
            · cases e
          · cases e
        · cases e
      · rename_i hw
        obtain ⟨q1, q2⟩ := leads_runR hA e
        exact ⟨(leads_step (noRec_sound P) (op_skip ho (by simpa using hw))).trans q1, q2⟩
    · cases e
noncomputable def runX (P : Program) : C → List KC → T AV → Hp → Option (Sg × List KC × T AV × Hp)
  | .skip, A, env, h => some (.go, A, env, h)
  | .label, A, env, h => some (.go, A, env, h)
  | .region l, A, env, h => match runR P A l env h with
    | some (A', env', h') => some (.go, A', env', h')
    | none => none
  | .drawn l, A, env, h => match runDrawn P noRec l env h with
    | some (env', h') => some (.go, A, env', h')
    | none => none
  | .seq a b, A, env, h => match runX P a A env h with
    | some (.go, A', env', h') => runX P b A' env' h'
    | r => r
  | .cond x a b, A, env, h => match ev env x with
    | .bool true => runX P a A env h
    | .bool false => runX P b A env h
    | _ => none
  | .block i b, A, env, h => match runX P b A env h with
    | some (o, A', env', h') => some (o.blk i, A', env', h')
    | none => none
  | .scope b, A, env, h => runX P b A env h
  | .exit i, A, env, h => some (.exit i, A, env, h)
  | .ret, A, env, h => some (.ret, A, env, h)
  | _, _, _, _ => none
theorem dos_runX : ∀ {c : C} {A A1 : List KC} {env env' : T AV} {h h' : Hp} {o : Sg}, (∀ a ∈ A, CallR P a) → runX P c A env h = some (o, A1, env', h') → Dos P F c env h o [] env' h' ∧ ∀ a ∈ A1, a ∈ A
  | .skip, _, _, _, _, _, _, _, _, e => by cases e; exact ⟨.skip, fun _ q => q⟩
  | .label, _, _, _, _, _, _, _, _, e => by cases e; exact ⟨.label, fun _ q => q⟩
  | .ret, _, _, _, _, _, _, _, _, e => by cases e; exact ⟨.ret, fun _ q => q⟩
  | .exit _, _, _, _, _, _, _, _, _, e => by cases e; exact ⟨.exit, fun _ q => q⟩
  | .bad _, _, _, _, _, _, _, _, _, e => by cases e
  | .loop _, _, _, _, _, _, _, _, _, e => by cases e
  | .rangeFunc _ _ _ _, _, _, _, _, _, _, _, _, e => by cases e
  | .region l, A, _, env, _, h, _, _, hA, e => by
    unfold runX at e
    split at e
    · rename_i A1 e1 h1 he
      cases e
      exact ⟨dos_go fun cx k => leads_enter.trans ((leads_runR hA he).1.trans leads_opsNil), (leads_runR (cx := cxF 0 []) (k := []) hA he).2⟩
    · cases e
  | .drawn l, A, _, env, _, h, _, _, hA, e => by
    unfold runX at e
    split at e
    · rename_i e1 h1 he
      cases e; exact ⟨.drawn (noRec_sound P) he, fun _ q => q⟩
    · cases e
  | .seq a b, A, A1, env, env', h, h', o, hA, e => by
    unfold runX at e
    split at e
    · rename_i A2 e1 h1 he
      obtain ⟨q1, q2⟩ := dos_runX hA he
      obtain ⟨r1, r2⟩ := dos_runX (fun a ha => hA a (q2 a ha)) e
      exact ⟨Dos.seq (M := []) (M1 := []) q1 r1, fun a ha => q2 a (r2 a ha)⟩
    · rename_i r hne
      obtain ⟨q1, q2⟩ := dos_runX hA e
      exact ⟨Dos.left q1 fun c => by
        subst c
        exact hne _ _ _ e, q2⟩
  | .cond x a b, A, A1, env, env', h, h', o, hA, e => by
    unfold runX at e
    split at e
    · rename_i hx
      obtain ⟨q1, q2⟩ := dos_runX hA e
      exact ⟨Dos.cond (t := true) hx q1, q2⟩
    · rename_i hx
      obtain ⟨q1, q2⟩ := dos_runX hA e
      exact ⟨Dos.cond (t := false) hx (by rw [if_neg (by simp)]; exact q1), q2⟩
    · cases e
  | .block i b, A, A1, env, env', h, h', o, hA, e => by
    unfold runX at e
    split at e
    · rename_i o1 A2 e1 h1 he
      cases e
      obtain ⟨q1, q2⟩ := dos_runX hA he
      exact ⟨.block q1, q2⟩
    · cases e
  | .scope b, A, A1, env, env', h, h', o, hA, e => by
    unfold runX at e
    obtain ⟨q1, q2⟩ := dos_runX hA e
    exact ⟨.scope q1, q2⟩
theorem dosX {A1 : List KC} (e : runX P c [] env h = some (o, A1, env', h')) : Dos P F c env h o [] env' h' := (dos_runX (by simp) e).1
theorem dosC {A1 : List KC} (A : List KC) (hA : ∀ a ∈ A, CallR P a) (e : runX P c A env h = some (o, A1, env', h')) : Dos P F c env h o [] env' h' := (dos_runX hA e).1
theorem AmFn.dos {f : FuncId} {args : List AV} {v : AV} {res : List RV} {n : Nat} {b : C} {vs : List AV} (hc : compFn P f = some ⟨res, n, b⟩) (hl : args.length ≤ n) (hb : Dos P f b (setArgs .e 0 args) h .ret [] env' h')
    (hm : mapO (result1 env' h') res = some vs) (hv : tupleA vs = v) : AmFn P f args h v h' := by
  refine AmFn.ends hc hl fun callers => ?_
  obtain ⟨k', q⟩ := hb (cxF f callers) [] (.inl rfl)
  exact Leads.ends q (ends_ret hc hm hv)
theorem AmFn.dos0 {f : FuncId} {args : List AV} {n : Nat} {b : C} (hc : compFn P f = some ⟨[], n, b⟩) (hl : args.length ≤ n) (ho : o ≠ .exit 0 → o = .go ∨ o = .ret) (hn : o ≠ .exit 0) (hb : Dos P f b (setArgs .e 0 args) h o [] env' h') : AmFn P f args h (.tup []) h' := by
  refine AmFn.ends hc hl fun callers => ?_
  have q := hb (cxF f callers) [] (.inl rfl)
  rcases ho hn with e | e
  · subst e
    exact Leads.ends q (ends_nil hc (vs := []) rfl rfl)
  · subst e
    obtain ⟨k', q⟩ := q
    exact Leads.ends q (ends_ret hc (vs := []) rfl rfl)
structure LoopJ (h : Hp) (l : Pos) (st : LState) (j : C) : Prop where
  old : l.num < h.next.num
  mem : ∃ ser fn env params assign body around, T.get l h.heap = some (.loop ser st (some j) fn env params assign body around)
theorem LoopJ.only {S : List Pos} {l : Pos} {st : LState} {j : C} (a : LoopJ h l st j) (m : Only S h h') (hs : l ∉ S) : LoopJ h' l st j :=
  ⟨Nat.lt_of_lt_of_le a.old m.next, by rw [m.same l a.old hs]; exact a.mem⟩
noncomputable def putJ (h : Hp) (l : Pos) (j : C) : Hp :=
  ⟨T.set l ((T.get l h.heap).map fun b => match b with | .loop ser _ _ fn env params assign body around => .loop ser .done (some j) fn env params assign body around | b => b) h.heap, h.next, h.ser, h.lim⟩
theorem putJ_only (h : Hp) (l : Pos) (j : C) : Only [l] h (putJ h l j) := ⟨Nat.le_refl _, rfl, fun i _ q => by
  show T.get i (T.set l _ h.heap) = _
  rw [T.get_set, if_neg (by simpa using q)]⟩
section
variable {l : Pos} {fn : FuncId} {params : List Pos} {assign body : C} {st : LState}
theorem LoopAt.jump {env : T AV} (x : LoopAt h l st fn env params assign body) (j : C) : LoopJ (putJ h l j) l .done j := by
  obtain ⟨ser, ar, e⟩ := x.mem
  refine ⟨x.old, ser, fn, env, params, assign, body, ar, ?_⟩
  show T.get l (T.set l _ h.heap) = _
  rw [T.get_set, if_pos rfl, e]; rfl
theorem RoundFn.dos {args : List AV} {envS env0 env1 env2 : T AV} {h1 h2 : Hp} (x : LoopAt h l .ready fn envS params assign body) (hs : setParams envS params args = some env0)
    (d1 : Dos P F assign env0 h .go [] env1 h1) (x1 : LoopAt h1 l .ready fn envS params assign body) (d2 : Dos P F body env1 (putL h1 l .busy) .go [] env2 h2) (x2 : LoopAt h2 l .busy fn envS params assign body) :
    RoundFn P l args h (.bool true) (putL h2 l .ready) :=
  RoundFn.intro x hs fun callers => ⟨env1, h1, env2, h2, d1 (cxR fn l callers) _ (.inl rfl), x1, d2 (cxR fn l callers) _ (.inl rfl), x2, rfl⟩
theorem RoundFn.jumps {args : List AV} {envS env0 env1 env2 : T AV} {h1 h2 : Hp} {j : C} (hj : (o = .ret ∧ j = .ret) ∨ ∃ i, o = .exit i ∧ j = .exit i) (x : LoopAt h l .ready fn envS params assign body) (hs : setParams envS params args = some env0)
    (d1 : Dos P F assign env0 h .go [] env1 h1) (x1 : LoopAt h1 l .ready fn envS params assign body) (d2 : Dos P F body env1 (putL h1 l .busy) o [] env2 h2) (x2 : LoopAt h2 l .busy fn envS params assign body) :
    RoundFn P l args h (.bool false) (putJ h2 l j) := by
  refine ⟨⟨fn, env0, [.code assign, .beginRound, .code body], [], .run, false, some l⟩, ?_, fun callers r q => ?_⟩
  · obtain ⟨ser, ar, e⟩ := x.mem
    unfold beginRound
    simp only [e, hs]
  · obtain ⟨ser, ar, e2⟩ := x2.mem
    have hset : ∀ k : Option C → Hp → Out, setLoop h2 l (fun _ => true) .done (fun _ => some j) k = k none (putJ h2 l j) := fun k => by
      unfold setLoop putJ
      simp only [e2, cond_true, T.setK_eq]
      rfl
    refine d1 (cxR fn l callers) [.beginRound, .code body] (.inl rfl) r (Ans.step (noRec_sound P) (s' := sOf (cxR fn l callers) [.code body] env1 (putL h1 l .busy)) ?_ ?_)
    · unfold step
      simp only [sOf, cxR, Cx.add]
      rw [setLoop_at x1 rfl _ rfl]
      rfl
    · have q2 := d2 (cxR fn l callers) [] (.inl rfl)
      rcases hj with ⟨ho, hj⟩ | ⟨i, ho, hj⟩
      · subst ho hj
        obtain ⟨k', q2⟩ := q2
        refine q2 r (ans_out (noRec_sound P) ?_)
        have e : step P noRec (sOf ((cxR fn l callers).add []) (.code .ret :: k') env2 h2) = backTo (.bool false) callers (putJ h2 l .ret) := by
          unfold step
          simp only [sOf, cxR, Cx.add, leaveRound, jumpState, jumpBool]
          rw [hset]
        rw [e]; exact q
      · subst ho hj
        obtain ⟨k', ek, q2⟩ := q2
        refine q2 r (ans_out (noRec_sound P) ?_)
        have ek : exitA i k' = none := ek
        have e : step P noRec (sOf ((cxR fn l callers).add []) (.code (.exit i) :: k') env2 h2) = backTo (.bool false) callers (putJ h2 l (.exit i)) := by
          unfold step
          simp only [sOf, cxR, Cx.add, ek, leaveRound, jumpState, jumpBool]
          rw [hset]
        rw [e]; exact q
theorem Dos.range {f : Opd} {h3 : Hp} {g : FuncId} {first captured : List AV} {v : AV} (hk : okCall P g = true) (hf : ev env f = .fn (.func g) first captured)
    (hg : AmFn P g (first ++ (.yield (dfrH h).next :: captured)) (loopH (dfrH h) F env params assign body h.next) v h3) (ha : LoopAt h3 (dfrH h).next .ready F env params assign body) :
    Dos P F (.rangeFunc f params assign body) env h .go [.mark h.next] env (putL h3 (dfrH h).next .exhausted) := by
  intro cx k hr
  obtain ⟨h1, h2⟩ := hr.resolve_left (by simp)
  subst h2
  exact leads_range h1 hk hf hg ha
def Sg.ofC : C → Sg
  | .exit i => .exit i
  | _ => .ret
theorem Dos.rangeJ {f : Opd} {h3 : Hp} {g : FuncId} {first captured : List AV} {v : AV} {j : C} (hj : j = .ret ∨ ∃ i, j = .exit i) (hk : okCall P g = true) (hf : ev env f = .fn (.func g) first captured)
    (hg : AmFn P g (first ++ (.yield (dfrH h).next :: captured)) (loopH (dfrH h) F env params assign body h.next) v h3) (ha : LoopJ h3 (dfrH h).next .done j) :
    Dos P F (.rangeFunc f params assign body) env h (Sg.ofC j) [.mark h.next] env (putL h3 (dfrH h).next .exhausted) := by
  intro cx k hr
  obtain ⟨hcr, hfn⟩ := hr.resolve_left (by simp)
  subst hfn
  have L : Leads P (sOf cx (.code (.rangeFunc f params assign body) :: k) env h) (sOf (cx.add [.mark h.next]) (.code j :: k) env (putL h3 (dfrH h).next .exhausted)) := by
    obtain ⟨fr, e1, e2⟩ := hg
    intro r q
    have en : enterA P (loopH (dfrH h) cx.fn env params assign body h.next) g (first ++ (.yield (dfrH h).next :: captured)) = .enter g (first ++ (.yield (dfrH h).next :: captured)) (loopH (dfrH h) cx.fn env params assign body h.next) := by
      unfold okCall at hk
      split at hk
      · rename_i fn hfn
        simp only [Bool.and_eq_true, Bool.not_eq_true'] at hk
        unfold enterA
        cases hb : fn.body with
        | none => rw [hb] at hk; cases hk.1
        | some b => simp only [hfn, hb, hk.2, cond_false]
      · cases hk
    refine Ans.step (noRec_sound P) (s' := ⟨fr, ⟨cx.fn, env, .inRange (dfrH h).next :: k, .mark h.next :: cx.defers, .run, cx.dk, cx.round⟩ :: cx.callers, loopH (dfrH h) cx.fn env params assign body h.next⟩) ?_ (e2 _ r ?_)
    · unfold step
      simp only [sOf, hcr, newK_newH, hf]
      have en' := en
      unfold dfrH loopH at en'
      simp only [en', apply]
      unfold dfrH at e1
      simp only [e1]
      rfl
    · show Ans P (sOf (cx.add [.mark h.next]) (.endRange (dfrH h).next :: k) env h3) r
      refine Ans.step (noRec_sound P) (s' := sOf (cx.add [.mark h.next]) (.code j :: k) env (putL h3 (dfrH h).next .exhausted)) ?_ q
      obtain ⟨ser, fn, envS, ps, as, bd, ar, el⟩ := ha.mem
      unfold step
      simp only [sOf]
      unfold setLoop putL
      simp only [el, cond_true, T.setK_eq, id]
      rfl
  rcases hj with e | ⟨i, e⟩
  · subst e
    exact ⟨k, L⟩
  · subst e
    exact ⟨k, rfl, L⟩
end
noncomputable def remMs (h : Hp) : List Pos → Hp
  | [] => h
  | r :: rs => remMs (remH h r) rs
theorem remMs_only : ∀ (rs : List Pos) (h : Hp), Only rs h (remMs h rs)
  | [], h => .refl _ _
  | r :: rs, h => ((remH_only h r).mono fun id hid => .inl (by simp at hid; simp [hid])).trans ((remMs_only rs (remH h r)).mono fun id hid => .inl (by simp [hid]))
theorem AmFn.dosM {f : FuncId} {args : List AV} {v : AV} {res : List RV} {n : Nat} {b : C} {vs : List AV} {rs : List Pos} (hc : compFn P f = some ⟨res, n, b⟩) (hl : args.length ≤ n)
    (hb : Dos P f b (setArgs .e 0 args) h .ret (rs.map AD.mark) env' h') (hd : ∀ r ∈ rs, ∃ s, T.get r h'.heap = some (.dfr s)) (hn : rs.Nodup)
    (hm : mapO (result1 env' (remMs h' rs)) res = some vs) (hv : tupleA vs = v) : AmFn P f args h v (remMs h' rs) := by
  refine AmFn.ends hc hl fun callers => ?_
  obtain ⟨k', q⟩ := hb (cxF f callers) [] (.inr ⟨rfl, rfl⟩)
  refine Leads.ends q ?_
  intro x qx
  refine Ans.step (noRec_sound P) (s' := ⟨⟨f, env', .code .ret :: k', rs.map AD.mark ++ [], .ret, false, none⟩, callers, h'⟩) rfl ?_
  clear q hb
  induction rs generalizing h' with
  | nil =>
    refine ans_out (noRec_sound P) ?_
    have e : step P noRec ⟨⟨f, env', .code .ret :: k', [], .ret, false, none⟩, callers, h'⟩ = backTo (tupleA vs) callers h' := by
      unfold step
      simp only [unwindA, hc, show mapO (result1 env' h') res = some vs from hm, cond_false]
    rw [show (([] : List Pos).map AD.mark ++ []) = [] from rfl, e, hv]; exact qx
  | cons r rs ih =>
    obtain ⟨s, hs⟩ := hd r (by simp)
    have hn' := List.nodup_cons.1 hn
    refine Ans.step (noRec_sound P) (s' := ⟨⟨f, env', .code .ret :: k', rs.map AD.mark ++ [], .ret, false, none⟩, callers, remH h' r⟩) ?_ (ih (fun r' hr' => ?_) hn'.2 hm qx)
    · show step P noRec ⟨⟨f, env', .code .ret :: k', AD.mark r :: (rs.map AD.mark ++ []), .ret, false, none⟩, callers, h'⟩ = _
      unfold step
      simp only [unwindA, hs, T.setK_eq]
      rfl
    · obtain ⟨s', hs'⟩ := hd r' (by simp [hr'])
      refine ⟨s', ?_⟩
      show T.get r' (T.set r none h'.heap) = _
      rw [T.get_set, if_neg (show ¬ r' = r from fun c => hn'.1 (by rw [← c]; exact hr'))]
      exact hs'
end
end Go.Proofs.YtjhgembcdndmkaaGreatDoor.Am

namespace Go.Proofs.YtjhgembcdndmkaaGreatDoor.Am
open Go.RowKit
def DosL (P : Program) (F : FuncId) (l : List Item) (env : T AV) (h : Hp) (o : Sg) (M : List AD) (env' : T AV) (h' : Hp) : Prop :=
  ∀ (cx : Cx) (k : List Item), M = [] ∨ (cx.round = none ∧ cx.fn = F) → match o with
    | .go => Leads P (sOf cx (l ++ k) env h) (sOf (cx.add M) k env' h')
    | .exit i => ∃ k', exitA i k' = exitA i k ∧ Leads P (sOf cx (l ++ k) env h) (sOf (cx.add M) (.code (.exit i) :: k') env' h')
    | .ret => ∃ k', Leads P (sOf cx (l ++ k) env h) (sOf (cx.add M) (.code .ret :: k') env' h')
section
variable {P : Program} {F : FuncId} {env env' env1 env2 : T AV} {h h' h1 h2 : Hp} {a b c c' : C} {o : Sg} {M M1 : List AD} {l l' : List Item}
theorem DosL.dos (d : DosL P F [.code c] env h o M env' h') : Dos P F c env h o M env' h' := d
theorem Dos.one (d : Dos P F c env h o M env' h') : DosL P F [.code c] env h o M env' h' := d
theorem DosL.nil : DosL P F [] env h .go [] env h := fun _ _ _ => .refl _
theorem DosL.after (hl : ∀ cx k, M1 = [] ∨ (cx.round = none ∧ cx.fn = F) → Leads P (sOf cx (l ++ k) env h) (sOf (cx.add M1) (l' ++ k) env1 h1)) (d : DosL P F l' env1 h1 o M env' h') : DosL P F l env h o (M ++ M1) env' h' := by
  intro cx k hr
  have hr1 : M1 = [] ∨ (cx.round = none ∧ cx.fn = F) := hr.imp (fun e => (List.append_eq_nil_iff.1 e).2) id
  have hr2 : M = [] ∨ ((cx.add M1).round = none ∧ (cx.add M1).fn = F) := hr.imp (fun e => (List.append_eq_nil_iff.1 e).1) id
  have q := d (cx.add M1) k hr2
  have l1 := hl cx k hr1
  cases o with
  | go => have q := l1.trans q; rw [add_add] at q; exact q
  | exit i =>
    obtain ⟨k', e, q⟩ := q
    have q := l1.trans q
    rw [add_add] at q
    exact ⟨k', e, q⟩
  | ret =>
    obtain ⟨k', q⟩ := q
    have q := l1.trans q
    rw [add_add] at q
    exact ⟨k', q⟩
theorem exitA_app {i : Nat} : ∀ {l l' : List Item}, exitA i l = some l' → ∀ k, exitA i (l ++ k) = some (l' ++ k)
  | [], _, e, _ => by cases e
  | x :: l, l', e, k => by
    cases x with
    | inBlock j =>
      have e : (bif Nat.beq j i then some l else exitA i l) = some l' := e
      show (bif Nat.beq j i then some (l ++ k) else exitA i (l ++ k)) = _
      cases hb : Nat.beq j i with
      | true => rw [hb] at e; cases e; rfl
      | false => rw [hb] at e; exact exitA_app e k
    | _ => exact exitA_app (l := l) e k
theorem exitA_none {i : Nat} : ∀ {l : List Item}, exitA i l = none → ∀ k, exitA i (l ++ k) = exitA i k
  | [], _, _ => rfl
  | x :: l, e, k => by
    cases x with
    | inBlock j =>
      have e : (bif Nat.beq j i then some l else exitA i l) = none := e
      show (bif Nat.beq j i then some (l ++ k) else exitA i (l ++ k)) = _
      cases hb : Nat.beq j i with
      | true => rw [hb] at e; cases e
      | false => rw [hb] at e; exact exitA_none e k
    | _ => exact exitA_none (l := l) e k
theorem DosL.more (d : Dos P F c env h .go M1 env1 h1) (r : DosL P F l env1 h1 o M env' h') : DosL P F (.code c :: l) env h o (M ++ M1) env' h' :=
  .after (l' := l) (fun cx k hr => d cx (l ++ k) hr) r
theorem DosL.leave {i : Nat} (d : Dos P F c env h (.exit i) M1 env1 h1) (e : exitA i l = some l') (r : DosL P F l' env1 h1 o M env' h') : DosL P F (.code c :: l) env h o (M ++ M1) env' h' :=
  .after (l' := l') (fun cx k hr => by
    obtain ⟨k', ek, q⟩ := d cx (l ++ k) hr
    exact q.trans (leads_exit (ek.trans (exitA_app e k)))) r
theorem DosL.out {i : Nat} (d : Dos P F c env h (.exit i) M env' h') (hl : exitA i l = none) : DosL P F (.code c :: l) env h (.exit i) M env' h' := fun cx k hr => by
  obtain ⟨k', ek, q⟩ := d cx (l ++ k) hr
  exact ⟨k', ek.trans (exitA_none hl k), q⟩
theorem DosL.ret (d : Dos P F c env h .ret M env' h') : DosL P F (.code c :: l) env h .ret M env' h' := fun cx k hr => d cx (l ++ k) hr
theorem DosL.inBlock {i : Nat} (r : DosL P F l env h o M env' h') : DosL P F (.inBlock i :: l) env h o M env' h' := by
  have q := DosL.after (M1 := []) (l := .inBlock i :: l) (l' := l) (fun _ _ _ => leads_inBlock) r
  rw [List.append_nil] at q
  exact q
inductive Rs where
  | upt (l : List Item)
  | exit (i : Nat)
  | ret
def Upto (P : Program) (c : C) (env : T AV) (h : Hp) (r : Rs) (env' : T AV) (h' : Hp) : Prop :=
  ∀ (cx : Cx) (k : List Item), match r with
    | .upt l => Leads P (sOf cx (.code c :: k) env h) (sOf cx (l ++ k) env' h')
    | .exit i => ∃ k', exitA i k' = exitA i k ∧ Leads P (sOf cx (.code c :: k) env h) (sOf cx (.code (.exit i) :: k') env' h')
    | .ret => ∃ k', Leads P (sOf cx (.code c :: k) env h) (sOf cx (.code .ret :: k') env' h')
noncomputable def Rs.seq (b : C) : Rs → Rs
  | .upt l => .upt (l ++ [.code b])
  | r => r
noncomputable def Rs.block (i : Nat) : Rs → Rs
  | .upt [] => .upt []
  | .upt (x :: l) => .upt (x :: l ++ [.inBlock i])
  | .exit j => if j = i then .upt [] else .exit j
  | .ret => .ret
noncomputable def runS (P : Program) (dr : Bool) : C → List KC → T AV → Hp → Option (Rs × List KC × T AV × Hp)
  | .skip, A, env, h => some (.upt [], A, env, h)
  | .label, A, env, h => some (.upt [], A, env, h)
  | .region l, A, env, h => match runR P A l env h with
    | some (A', env', h') => some (.upt [], A', env', h')
    | none => none
  | .drawn l, A, env, h => if dr = true then (match runDrawn P noRec l env h with
    | some (env', h') => some (.upt [], A, env', h')
    | none => none) else some (.upt [.code (.drawn l)], A, env, h)
  | .seq a b, A, env, h => match runS P dr a A env h with
    | some (.upt [], A', env', h') => runS P dr b A' env' h'
    | some (r, A', env', h') => some (r.seq b, A', env', h')
    | none => none
  | .cond x a b, A, env, h => match ev env x with
    | .bool true => runS P dr a A env h
    | .bool false => runS P dr b A env h
    | _ => none
  | .block i b, A, env, h => match runS P dr b A env h with
    | some (r, A', env', h') => some (r.block i, A', env', h')
    | none => none
  | .exit i, A, env, h => some (.exit i, A, env, h)
  | .ret, A, env, h => some (.ret, A, env, h)
  | c, A, env, h => some (.upt [.code c], A, env, h)
theorem Upto.pre {r : Rs} (u : Upto P a env1 h1 r env' h') (hl : ∀ cx k, Leads P (sOf cx (.code c :: k) env h) (sOf cx (.code a :: k) env1 h1)) : Upto P c env h r env' h' := fun cx k => by
  have q := u cx k
  cases r with
  | upt l => exact (hl cx k).trans q
  | ret => obtain ⟨k', q⟩ := q; exact ⟨k', (hl cx k).trans q⟩
  | exit i => obtain ⟨k', e, q⟩ := q; exact ⟨k', e, (hl cx k).trans q⟩
theorem Upto.self : Upto P c env h (.upt [.code c]) env h := fun _ _ => .refl _
theorem upto_run {dr : Bool} : ∀ {c : C} {A A1 : List KC} {env env' : T AV} {h h' : Hp} {r : Rs}, (∀ a ∈ A, CallR P a) → runS P dr c A env h = some (r, A1, env', h') → Upto P c env h r env' h' ∧ ∀ a ∈ A1, a ∈ A
  | .skip, _, _, _, _, _, _, _, _, e => by cases e; exact ⟨fun _ _ => leads_skip, fun _ q => q⟩
  | .label, _, _, _, _, _, _, _, _, e => by cases e; exact ⟨fun _ _ => leads_label, fun _ q => q⟩
  | .ret, _, _, _, _, _, _, _, _, e => by cases e; exact ⟨fun _ k => ⟨k, .refl _⟩, fun _ q => q⟩
  | .exit _, _, _, _, _, _, _, _, _, e => by cases e; exact ⟨fun _ k => ⟨k, rfl, .refl _⟩, fun _ q => q⟩
  | .bad _, _, _, _, _, _, _, _, _, e => by cases e; exact ⟨.self, fun _ q => q⟩
  | .loop _, _, _, _, _, _, _, _, _, e => by cases e; exact ⟨.self, fun _ q => q⟩
  | .scope _, _, _, _, _, _, _, _, _, e => by cases e; exact ⟨.self, fun _ q => q⟩
  | .rangeFunc _ _ _ _, _, _, _, _, _, _, _, _, e => by cases e; exact ⟨.self, fun _ q => q⟩
  | .region l, A, _, env, _, h, _, _, hA, e => by
    unfold runS at e
    split at e
    · rename_i A1 e1 h1 he
      cases e
      exact ⟨fun cx k => leads_enter.trans ((leads_runR hA he).1.trans leads_opsNil), (leads_runR (cx := cxF 0 []) (k := []) hA he).2⟩
    · cases e
  | .drawn l, A, _, env, _, h, _, _, hA, e => by
    unfold runS at e
    split at e
    · split at e
      · rename_i e1 h1 he
        cases e; exact ⟨fun _ _ => leads_drawn (noRec_sound P) he, fun _ q => q⟩
      · cases e
    · cases e; exact ⟨.self, fun _ q => q⟩
  | .seq a b, A, A1, env, env', h, h', r, hA, e => by
    unfold runS at e
    split at e
    · rename_i A2 e1 h1 he
      obtain ⟨q1, q2⟩ := upto_run hA he
      obtain ⟨r1, r2⟩ := upto_run (fun a ha => hA a (q2 a ha)) e
      refine ⟨fun cx k => ?_, fun a ha => q2 a (r2 a ha)⟩
      have l1 := leads_seq.trans (q1 cx (.code b :: k))
      have x := r1 cx k
      cases r with
      | upt l => exact l1.trans x
      | ret => obtain ⟨k', x⟩ := x; exact ⟨k', l1.trans x⟩
      | exit i => obtain ⟨k', e, x⟩ := x; exact ⟨k', e, l1.trans x⟩
    · rename_i r1 A2 e1 h1 hne he
      cases e
      obtain ⟨q1, q2⟩ := upto_run hA he
      refine ⟨fun cx k => ?_, q2⟩
      have x := q1 cx (.code b :: k)
      cases r1 with
      | upt l =>
        show Leads P _ (sOf cx ((l ++ [.code b]) ++ k) _ _)
        rw [List.append_assoc]
        exact leads_seq.trans x
      | ret => obtain ⟨k', x⟩ := x; exact ⟨k', leads_seq.trans x⟩
      | exit i => obtain ⟨k', e, x⟩ := x; exact ⟨k', exitA_cons (fun _ => by simp) e, leads_seq.trans x⟩
    · cases e
  | .cond x a b, A, A1, env, env', h, h', r, hA, e => by
    unfold runS at e
    split at e
    · rename_i hx
      obtain ⟨q1, q2⟩ := upto_run hA e
      exact ⟨q1.pre fun _ _ => leads_cond (t := true) hx, q2⟩
    · rename_i hx
      obtain ⟨q1, q2⟩ := upto_run hA e
      exact ⟨q1.pre fun _ _ => (leads_cond (t := false) hx).trans (by rw [if_neg (by simp)]; exact .refl _), q2⟩
    · cases e
  | .block i b, A, A1, env, env', h, h', r, hA, e => by
    unfold runS at e
    split at e
    · rename_i r1 A2 e1 h1 he
      cases e
      obtain ⟨q1, q2⟩ := upto_run hA he
      refine ⟨fun cx k => ?_, q2⟩
      have x := q1 cx (.inBlock i :: k)
      cases r1 with
      | upt l =>
        cases l with
        | nil => exact leads_block.trans (Leads.trans x leads_inBlock)
        | cons y l =>
          show Leads P _ (sOf cx ((y :: l ++ [.inBlock i]) ++ k) _ _)
          rw [List.append_assoc]
          exact leads_block.trans x
      | ret => obtain ⟨k', x⟩ := x; exact ⟨k', leads_block.trans x⟩
      | exit j =>
        obtain ⟨k', e, x⟩ := x
        by_cases c : j = i
        · subst c
          rw [show Rs.block j (.exit j) = .upt [] from if_pos rfl]
          have e : exitA j k' = some k := by
            rw [e]
            show (bif Nat.beq j j then some k else exitA j k) = _
            rw [beq_iff.2 rfl]; rfl
          exact leads_block.trans (x.trans (leads_exit e))
        · rw [show Rs.block i (.exit j) = .exit j from if_neg c]
          have e : exitA j k' = exitA j k := by
            rw [e]
            show (bif Nat.beq i j then some k else exitA j k) = _
            rw [beq_false.2 fun x => c x.symm]; rfl
          exact ⟨k', e, leads_block.trans x⟩
    · cases e
theorem Dos.run {dr : Bool} {A1 : List KC} (A : List KC) (hA : ∀ a ∈ A, CallR P a) (e : runS P dr c A env h = some (.upt l, A1, env1, h1)) (d : DosL P F l env1 h1 o M env' h') : Dos P F c env h o M env' h' := by
  have q := DosL.after (M1 := []) (l := [.code c]) (l' := l) (fun cx k _ => (upto_run hA e).1 cx k) d
  rw [List.append_nil] at q
  exact q
theorem Dos.runGo {dr : Bool} {A1 : List KC} (A : List KC) (hA : ∀ a ∈ A, CallR P a) (e : runS P dr c A env h = some (.upt [], A1, env', h')) : Dos P F c env h .go [] env' h' := fun cx k _ => (upto_run hA e).1 cx k
theorem Dos.runRet {dr : Bool} {A1 : List KC} (A : List KC) (hA : ∀ a ∈ A, CallR P a) (e : runS P dr c A env h = some (.ret, A1, env', h')) : Dos P F c env h .ret [] env' h' := fun cx k _ => (upto_run hA e).1 cx k
theorem Dos.runExit {dr : Bool} {A1 : List KC} {i : Nat} (A : List KC) (hA : ∀ a ∈ A, CallR P a) (e : runS P dr c A env h = some (.exit i, A1, env', h')) : Dos P F c env h (.exit i) [] env' h' := fun cx k _ => (upto_run hA e).1 cx k
end
structure Fix (h : Hp) (id : Pos) (l : List AV) : Prop where
  old : id.num < h.next.num
  mem : ∃ ser c hi m ro fz, T.get id h.heap = some (.cells ser c 0 hi 0 m ro fz) ∧ c.wf ∧ c.toL = l
theorem Fix.only {S : List Pos} {h h' : Hp} {id : Pos} {l : List AV} (b : Fix h id l) (m : Only S h h') (hs : id ∉ S) : Fix h' id l :=
  ⟨Nat.lt_of_lt_of_le b.old m.next, by rw [m.same id b.old hs]; exact b.mem⟩
theorem Fix.part {h : Hp} {id : Pos} {l : List AV} (b : Fix h id l) {off n : Nat} (hn : off + n ≤ l.length) : Row h id 0 off ((l.drop off).take n) := by
  obtain ⟨ser, c, hi, m, ro, fz, e, hw, hl⟩ := b.mem
  have hs : c.size = l.length := by rw [← Cells.toL_length hw, hl]
  have q := Row.of_block (off := off) (n := n) e hw b.old (Nat.zero_le _) (by omega)
  rw [hl] at q
  exact q
def ArgS (h : Hp) (v : AV) (l : List AV) : Prop :=
  (v = .nilSl ∧ l = []) ∨ ∃ id off cap ex L, v = .sl id 0 off l.length cap ex 1 ∧ l.length ≤ cap ∧ Fix h id L ∧ (L.drop off).take l.length = l ∧ off + l.length ≤ L.length
theorem ArgS.sl {h : Hp} {v : AV} {l : List AV} (a : ArgS h v l) : SlR h v l := by
  rcases a with ⟨q1, q2⟩ | ⟨id, off, cap, ex, L, q1, q2, q3, q4, q5⟩
  · subst q1 q2; exact .nil
  · subst q1
    have r := q3.part q5
    rw [q4] at r
    exact .mk rfl r
theorem ArgS.only {S : List Pos} {h h' : Hp} {v : AV} {l : List AV} (a : ArgS h v l) (m : Only S h h') {N : Nat} (hS : ∀ id ∈ S, N ≤ id.num) (hv : ∀ id g off n cap ex, v = .sl id g off n cap ex 1 → id.num < N) : ArgS h' v l := by
  rcases a with q | ⟨id, off, cap, ex, L, q1, q2, q3, q4, q5⟩
  · exact .inl q
  · exact .inr ⟨id, off, cap, ex, L, q1, q2, q3.only m fun c => by have := hS _ c; have := hv _ _ _ _ _ _ q1; omega, q4, q5⟩
theorem ArgS.more {h h' : Hp} {v : AV} {l : List AV} (a : ArgS h v l) (m : Only [] h h') : ArgS h' v l := by
  rcases a with q | ⟨id, off, cap, ex, L, q1, q2, q3, q4, q5⟩
  · exact .inl q
  · exact .inr ⟨id, off, cap, ex, L, q1, q2, q3.only m (by simp), q4, q5⟩
theorem ArgS.old {h : Hp} {v : AV} {l : List AV} (a : ArgS h v l) : ∀ id g off n cap ex, v = .sl id g off n cap ex 1 → id.num < h.next.num := by
  intro id g off n cap ex e
  rcases a with ⟨q1, _⟩ | ⟨id', off', cap', ex', L, q1, q2, q3, q4, q5⟩
  · rw [e] at q1; cases q1
  · rw [e] at q1; cases q1; exact q3.old
theorem ArgS.front {h : Hp} {v : AV} {l : List AV} (a : ArgS h v l) (P : Program) {n : Nat} (h0 : 0 < n) (hn : n ≤ l.length) :
    ∃ w, (∀ env x y, ev env x = v → ev env y = int64 n → evalOp P (.sliceSl 1 x none (some y) none) env h = .val w h) ∧ SlR h w (l.take n) := by
  rcases a with ⟨q1, q2⟩ | ⟨id, off, cap, ex, L, q1, q2, q3, q4, q5⟩
  · subst q2; simp at hn; omega
  · subst q1
    refine ⟨.sl id 0 off n cap ex 1, fun env x y hx hy => ?_, .mk (by simp; omega) ?_⟩
    · have e : evalOp P (.sliceSl 1 x none (some y) none) env h = (match ev env x with
        | .nilSl => (match evO env none 0, evO env (some y) 0, evO env none 0 with
          | some 0, some 0, some 0 => .val .nilSl h
          | _, _, _ => .fail "sliceSl nil")
        | .sl id g off len cap ex es' =>
          (match evO env none 0, evO env (some y) len, evO env none cap with
          | some l, some r, some m =>
            bif Nat.beq 1 es' && Nat.ble l r && Nat.ble r m && Nat.ble m cap then
              natK (Nat.sub r l) fun n => natK (Nat.sub m l) fun c => natK (Nat.add off (Nat.mul l 1)) fun off' =>
                .val (.sl id g (bif Nat.beq l m && (bif ex then true else (none : Option Opd).isSome) then off else off') n c (bif ex then true else (none : Option Opd).isSome) 1) h
            else .fail "sliceSl bounds"
          | _, _, _ => .fail "sliceSl")
        | _ => .fail "sliceSl what") := rfl
      have ey : ∀ d, evO env (some y) d = some n := fun d => by
        show (match ev env y with | .int _ (.ofNat n) => some n | _ => none) = _
        rw [hy]
      rw [e, hx]
      simp only [ey, show evO env none 0 = some 0 from rfl, show evO env none cap = some cap from rfl, natK_eq, show Nat.ble 0 n = true from ble_iff.2 (Nat.zero_le n), ble_iff.2 (show n ≤ cap by omega), ble_iff.2 (Nat.le_refl cap)]
      cases ex <;> simp
    · have r := q3.part (off := off) (n := n) (by omega)
      have : (L.drop off).take n = l.take n := by
        rw [← q4, List.take_take, Nat.min_eq_left hn]
      rw [this] at r
      exact r
end Go.Proofs.YtjhgembcdndmkaaGreatDoor.Am
