import Derived.Below
import Derived.ProofKit
import Derived.Test.YtpbhlpajhdlemaaGreatDoorAmJ
/- THE ABSTRACT MACHINE, part K: a machine over values without block numbers, run by the kernel, and the proof that the model's machine does what it does. No condition. -/
set_option linter.unusedSimpArgs false
set_option linter.unusedVariables false
namespace Go.Proofs.YtpbhlpajhdlemaaGreatDoor.Am

theorem Order.lt {ops : Array Oper} {D l : List Nat} (h : Order ops D l) : ∀ i ∈ l, i < ops.size := by
  induction h with
  | nil _ => intro i hi; simp at hi
  | cons hi _ _ _ ih =>
    intro j hj
    rcases List.mem_cons.1 hj with e | hj
    · subst e; exact (Array.getElem?_eq_some_iff.1 hi).1
    · exact ih j hj

theorem HRF.up {P : Program} {φ : Phi} {F : Pos → Option Blk} {nx nx' : Nat} {w : World} (h : HRF P φ F nx 0 w) (hn : nx ≤ nx') : HRF P φ F nx' 0 w := by
  have up : ∀ {id}, Old nx 0 id → Old nx' 0 id := fun {id} o => by
    rcases o with q | q
    · exact .inl (by omega)
    · exact absurd rfl q.1
  exact ⟨h.blk, fun id g r e => up (h.used id g r e), fun id b e => up (h.dom id b e), h.sep, h.inb, h.glob⟩

theorem HRF.toR {P : Program} {φ : Phi} {h : Hp} {w : World} (k : HRF P φ (fun id => T.get id h.heap) h.next.num 0 w) (hz : h.lim = 0) : HR P φ h w :=
  ⟨k.blk, fun id g r e => by rw [hz]; exact k.used id g r e, fun id b e => by rw [hz]; exact k.dom id b e, k.sep, k.inb, k.glob⟩

theorem skipIds_le : ∀ (l : List O) (p : Pos), p.num ≤ (skipIds l p).num
  | [], p => Nat.le_refl _
  | o :: l, p => by
    unfold skipIds
    cases isAlloc o.op with
    | true => rw [cond_true]; exact Nat.le_trans (by rw [Pos.num_succ]; omega) (skipIds_le l p.succ)
    | false => rw [cond_false]; exact skipIds_le l p

theorem compDrawn_cases (P : Program) (n : Nat) (ops : Array Oper) : (∃ why, compDrawn P n ops = .bad why) ∨ (compDrawn P n ops = .drawn (drawnL P n ops) ∧ okModes P ops = true ∧ okRegion (drawnL P n ops) = true) := by
  have e : compDrawn P n ops = bif okModes P ops then (bif okRegion (drawnL P n ops) then .drawn (drawnL P n ops) else .bad "drawn order") else .bad "drawn modes" := rfl
  rw [e]
  cases okModes P ops with
  | false => exact .inl ⟨_, rfl⟩
  | true =>
    cases okRegion (drawnL P n ops) with
    | false => exact .inl ⟨_, rfl⟩
    | true => exact .inr ⟨rfl, rfl, rfl⟩

section
variable {P : Program} {φ : Phi} {w : World} {g : Frame} {cs c0 : List Frame}

theorem drawn_run {s : St} {rec : St → Out} (hrec : Sound P rec) (hR : HR P φ s.hp w) (hz : s.hp.lim = 0) (hF : FrR P φ s.cur g) (hC : FrsR P φ s.callers cs) {id : Nat} {ops : Array Oper} {k : List Item}
    (hm : s.cur.mode = .run) (ht : s.cur.todo = .code (comp P (numT P s.cur.fn) (.region id ops true)) :: k) {k' : List Go.Item} (hg : g.todo = .code (.region id ops true) :: k') (hk : ItemsR P φ (numT P s.cur.fn) k k') :
    OutR P c0 φ s g cs w (step P rec s) := by
  obtain ⟨fr, callers, h⟩ := s
  obtain ⟨fn, env, todo, defers, mode, dk, round⟩ := fr
  simp only at hm ht hR hz hF hC hk
  subst hm
  subst ht
  unfold step
  simp only
  have hc : comp P (numT P fn) (.region id ops true) = compDrawn P (numT P fn) ops := rfl
  rw [hc]
  rcases compDrawn_cases P (numT P fn) ops with ⟨why, q⟩ | ⟨q, hmo, hor⟩
  · rw [q]; trivial
  rw [q]
  simp only
  generalize hL : drawnL P (numT P fn) ops = L at q hor ⊢
  have hlen : L.length = ops.size := by rw [← hL]; exact drawn_len
  rcases drawnGo_trace P (recJ P rec) (fun env h' => Out.next ⟨⟨fn, env, k, defers, .run, dk, round⟩, callers, h'⟩) L 0 ⟨[], [], [], h.next, env, ⟨h.heap, skipIds L h.next, h.ser, h.lim⟩⟩ with ⟨why, r⟩ | ⟨S, v, r1, r2, r3⟩
  · rw [r]; trivial
  rw [r3]
  clear r3
  simp only [Nat.zero_add] at r2 ⊢
  have t : Tr P (recJ P rec) L S v := ⟨okRegion_sound hor, r2, by rw [r1], by rw [r1], by rw [r1]⟩
  have hlast := t.rid_last
  have e0 : (S 0).rid = h.next := by rw [r1]
  have e1 : (S 0).h = ⟨h.heap, skipIds L h.next, h.ser, h.lim⟩ := by rw [r1]
  have e2 : (S 0).env = env := by rw [r1]
  rw [e0] at hlast
  have old : ∀ {i : Pos}, Old h.next.num h.lim i → i.num < h.next.num := fun {i} o => by
    rcases o with q | q
    · exact q
    · exact absurd hz q.1
  have h0u : ∀ i gg r, φ i gg = some r → i.num < h.next.num := fun i gg r e => old (hR.used i gg r e)
  have hle := skipIds_le L h.next
  have hFD : FD P L S v [] 0 = fun i => T.get i h.heap := by
    funext i
    rw [FD_else fun b ⟨j, hj, _⟩ => by simp at hj, e1]
  have hw1 : HRF P φ (fun i => T.get i h.heap) h.next.num 0 { w with drawn := w.drawn + 1 } := by
    have := hR.toF
    rw [hz] at this
    exact ⟨this.blk, this.used, this.dom, this.sep, this.inb, this.glob⟩
  have ha0 : AdvF h w φ (fun i => T.get i h.heap) (skipIds L h.next).num { w with drawn := w.drawn + 1 } φ := by
    have a := Adv.refl_F h w φ hle
    exact ⟨a.le, a.os, a.output, a.tape, a.size, a.next, a.new, a.old, a.keep, a.hid, a.same⟩
  have I0 : Inv P L S v h w φ env [] 0 φ { w with drawn := w.drawn + 1 } env := by
    refine ⟨Nat.zero_le _, fun i o _ => ⟨fun hi => by simp at hi, fun hi => by omega⟩, fun j hj => by simp at hj, ?_, ?_, ?_, ?_, fun i id' b hA _ => ?_, fun i id' b hA _ gg => ?_, ⟨fun j o p hj => by simp at hj, fun p _ => rfl⟩⟩
    · rw [hFD, e1]; exact hw1.up hle
    · rw [hFD, e1]; exact ha0
    · rw [hlast, e1]; exact Nat.le_refl _
    · rw [e1]; exact hz
    · have := (IsAl.range t hA).1
      rw [e0] at this
      rw [e1]
      cases q : T.get id' h.heap with
      | none => rfl
      | some b' => have := old (hR.dom id' b' q); omega
    · have := (IsAl.range t hA).1
      rw [e0] at this
      cases q : φ id' gg with
      | none => rfl
      | some r => have := h0u id' gg r q; omega
  have horder := order_schedule hmo (w.tape w.drawn (.order g.fn id))
  generalize hidx : Region.schedule (P.follows .mixedOrders) ops (w.tape w.drawn (.order g.fn id)) = idx at horder
  have hF0 : FrR P φ (inReg P ops fn k defers dk round env idx) (g.atR ⟨g.tmps, g.defers⟩ (.inRegion ops idx :: k')) := by
    exact hF.setTodo (k := .ops (idx.map fun i => compOper P (numT P fn) ops 0 (ops.getD i default)) :: k) (.cons ⟨rfl, horder.lt⟩ hk) rfl
  have st0 : Go.step P (lone g (cs ++ c0) w) = .next (lone (g.atR ⟨g.tmps, g.defers⟩ (.inRegion ops idx :: k')) (cs ++ c0) { w with drawn := w.drawn + 1 }) := by
    refine step_at hF rfl hg ?_
    rw [← hidx]
    exact stepR_region_draw
  subst hL
  obtain ⟨g', D', φ', w', x', env', s1, s2, s3, s4, s5⟩ := draw_ops (r := k') (recJ_sound hrec) t (by rw [e0]; exact Nat.le_refl _) h0u e2.symm (cs ++ c0) idx [] 0 φ _ env _ horder I0 hF0 (by simp [Frame.atR])
  have I := s3.move t (x' := (drawnL P (numT P fn) ops).length) (Nat.le_refl _) fun i o hk => by
    have hl := (List.getElem?_eq_some_iff.1 hk.1).1
    exact ⟨fun _ => hl, fun _ => s2 i (by omega)⟩
  have hals := t.als _ (Nat.le_refl _)
  generalize hn : (drawnL P (numT P fn) ops).length = n at *
  have hlt : ∀ {i : Nat} {o : O}, (drawnL P (numT P fn) ops)[i]? = some o → i < n := fun {i o} e => by
    have := (List.getElem?_eq_some_iff.1 e).1; omega
  have hFE : FD P (drawnL P (numT P fn) ops) S v D' n = fun i => T.get i (allT (S n).als (S n).h.heap) := by
    funext i
    by_cases hp : ∃ b, Pend P (drawnL P (numT P fn) ops) S v D' n i b
    · obtain ⟨b, hp⟩ := hp
      rw [FD_pend t hp]
      obtain ⟨j, q1, q2, q3⟩ := hp
      have q2' := q2
      obtain ⟨o', _, hk', _⟩ := q2'
      rw [putT_mem (b := b) (fun al ha _ he => ?_) (.inl ⟨⟨j, i, b⟩, (hals _).2 ⟨hlt hk'.1, q2, q3⟩, rfl, rfl⟩)]
      have := ((hals al).1 ha).2.1
      rw [he] at this
      exact (IsAl.same t this q2).2
    · rw [FD_else fun b q => hp ⟨b, q⟩, putT_other fun al ha _ he => hp ⟨al.b, al.i, ?_⟩]
      obtain ⟨q1, q2, q3⟩ := (hals al).1 ha
      subst he
      exact ⟨s2 al.i (by omega), q2, q3⟩
  have hend := I.heap
  have hadv := I.adv
  have hlm := I.lim
  rw [hFE] at hend hadv
  have hev : ∀ p, ev env' (.tmp p) = ev (S n).env (.tmp p) := by
    intro p
    have q := t.env n (by omega)
    rw [e2] at q
    by_cases c : ∃ (j : Nat) (oj : O), (drawnL P (numT P fn) ops)[j]? = some oj ∧ oj.dst = some p
    · obtain ⟨j, oj, ej, dj⟩ := c
      rw [I.env.1 j oj p (s2 j (by have := hlt ej; omega)) ej dj, q.1 j oj p (hlt ej) ej dj]
    · have c' : ∀ (D : Nat → Prop) (j : Nat) (o : O), D j → (drawnL P (numT P fn) ops)[j]? = some o → o.dst ≠ some p := fun D j oj _ ej dj => c ⟨j, oj, ej, dj⟩
      rw [I.env.2 p (c' _), q.2 p (c' _)]
  have hle : Le φ φ' := hadv.le
  have st1 : Go.step P (lone g' (cs ++ c0) w') = .next (lone (g'.atR ⟨g'.tmps, g'.defers⟩ k') (cs ++ c0) w') := step_at s4 rfl s5 stepR_region_end
  have hF' : FrR P φ' ⟨fn, (S n).env, k, defers, .run, dk, round⟩ (g'.atR ⟨g'.tmps, g'.defers⟩ k') := by
    have q := s4.setTodo (hk.mono hle) rfl
    refine ⟨q.fn, fun tt => ?_, q.size, q.todo, q.defers, q.mode, q.kind, q.round⟩
    rw [← hev]
    exact q.env tt
  have hb := bot_eq (fr := ⟨fn, env, .code (.drawn (drawnL P (numT P fn) ops)) :: k, defers, .run, dk, round⟩) (fr' := ⟨fn, (S n).env, k, defers, .run, dk, round⟩) rfl rfl callers h ⟨allT (S n).als (S n).h.heap, (S n).h.next, (S n).h.ser, (S n).h.lim⟩
  exact ⟨_, cs, w', φ', (Steps.one st0).trans (s1.trans (.one st1)), HRF.toR (h := ⟨allT (S n).als (S n).h.heap, (S n).h.next, (S n).h.ser, (S n).h.lim⟩) hend hlm, hF', hC.mono hle,
    AdvF.toAdv (h := ⟨allT (S n).als (S n).h.heap, (S n).h.next, (S n).h.ser, (S n).h.lim⟩) hadv (hlm.trans hz.symm), hb.1, hb.2⟩

/-- One step. -/
theorem step_sound {s : St} {rec : St → Out} (hrec : Sound P rec) (hR : HR P φ s.hp w) (hz : s.hp.lim = 0) (hF : FrR P φ s.cur g) (hC : FrsR P φ s.callers cs) : OutR P c0 φ s g cs w (step P rec s) :=
  step_run hrec hR hz hF hC fun _ _ _ hm ht _ hg hk => drawn_run hrec hR hz hF hC hm ht hg hk
end
end Go.Proofs.YtpbhlpajhdlemaaGreatDoor.Am

namespace Go.Proofs.YtpbhlpajhdlemaaGreatDoor.Am
open Go.RowKit

/-- As 'Sound', whatever frames there are. -/
def Sounds (P : Program) (st : St → Out) : Prop :=
  ∀ (s : St) (φ : Phi) (w : World) (g : Frame) (cs c0 : List Frame), HR P φ s.hp w → s.hp.lim = 0 → FrR P φ s.cur g → FrsR P φ s.callers cs → OutR P c0 φ s g cs w (st s)

theorem Sounds.sound {P : Program} {st : St → Out} (h : Sounds P st) : Sound P st := h

theorem pow_sounds {P : Program} {st : St → Out} (h : Sounds P st) : ∀ n, Sounds P (pow st n)
  | 0 => h
  | n + 1 => fun s φ w g cs c0 hR hz hF hC => by
    have q := pow_sounds h n s φ w g cs c0 hR hz hF hC
    unfold pow
    split
    · rename_i s' e
      rw [e] at q
      obtain ⟨g', cs', w', φ', q1, q2, q3, q4, q5, q6, q7⟩ := q
      exact OutR.then hR hz q1 q5 q6 q7 (pow_sounds h n s' φ' w' g' cs' c0 q2 (q5.lim.trans hz) q3 q4)
    · exact q

theorem run_sounds (P : Program) : ∀ d, Sounds P (run P d)
  | 0 => fun _ _ _ _ _ _ _ _ _ _ => trivial
  | d + 1 => pow_sounds (fun _ _ _ _ _ _ hR hz hF hC => step_sound (run_sounds P d).sound hR hz hF hC) 30

/-- The package's variables, and nothing else. -/
noncomputable def phi0 (P : Program) : Phi := fun id gen => if gen = 0 ∧ id.num ≤ globN P then some (id.num - 1, 0, 0) else none

theorem start_rel {P : Program} {w : World} (hw : globN P ≤ w.heap.size) : HR P (phi0 P) ⟨.e, Pos.ofNat (globN P), 0, 0⟩ w := by
  have key : ∀ {id g b s n}, phi0 P id g = some (b, s, n) → id.num ≤ globN P ∧ b = id.num - 1 := fun {id g b s n} e => by
    unfold phi0 at e
    split at e
    · rename_i h
      cases e
      exact ⟨h.2, rfl⟩
    · cases e
  refine ⟨fun id b e => (by rw [T.get_e] at e; cases e), fun id g r e => ?_, fun id b e => (by rw [T.get_e] at e; cases e), fun id g b s n id' g' s' n' e e' => ?_, fun id g b s n e => ?_, fun g hg => ⟨0, ?_⟩⟩
  · obtain ⟨b, s, n⟩ := r
    have := (key e).1
    exact .inl (by rw [Pos.num_ofNat]; omega)
  · left
    have := key e
    have := key e'
    have := Pos.num_pos id
    have := Pos.num_pos id'
    exact Pos.num_inj (by omega)
  · have := key e
    have := Pos.num_pos id
    omega
  · unfold phi0
    rw [Pos.num_ofNat, if_pos ⟨rfl, by omega⟩]
    rfl

/-- ████ What a closed run says: the call returns true, and what was there stays. ████ -/
theorem closed_calls {P : Program} {f : FuncId} (h : closed P f 0 = true) (w : World) :
    Calls P f #[] w fun e w' => e = .returned (.bool true) ∧ Below w.heap.size w w' := by
  intro cs
  have hw : globN P ≤ w.heap.size := Nat.zero_le _
  have h : closed P f (globN P) = true := h
  unfold closed at h
  split at h
  · rename_i s hs
    unfold start at hs
    split at hs
    · rename_i fr hb
      cases hs
      obtain ⟨q1, q2, q3, _⟩ := begin_run (φ := phi0 P) (xs := #[]) hb .nil
      have hR := start_rel (P := P) hw
      have ho := run_sounds P 40 ⟨fr, [], ⟨.e, Pos.ofNat (globN P), 0, 0⟩⟩ (phi0 P) w _ [] cs hR rfl q1 .nil
      generalize run P 40 ⟨fr, [], ⟨.e, Pos.ofNat (globN P), 0, 0⟩⟩ = r at h ho
      unfold isTrue at h
      split at h
      · rename_i h'
        obtain ⟨w', φ', x, r1, r2, r3, _, r5⟩ := ho
        obtain ⟨g', s1, s2, s3⟩ := r5 q3
        cases r3
        refine ⟨.returned (.bool true), w', g', ⟨rfl, ?_⟩, s1, s2.trans q2, s3⟩
        refine ⟨r2.os, r2.tape, r2.output, r2.size, fun k hk => r2.keep k hk fun id g s n _ ⟨b, e, _⟩ => ?_⟩
        rw [T.get_e] at e
        cases e
      · cases h
    · cases hs
  · cases h
end Go.Proofs.YtpbhlpajhdlemaaGreatDoor.Am

namespace Go.Proofs.YtpbhlpajhdlemaaGreatDoor.Am
open Go.RowKit Go.ChangeShapes Go.WideShapes Go.ChangeAt

theorem post_of_below {P : Program} {H : Type} {enc : TypeId × Value → H} {f : Func} {s : ChangeSpec} {apart fresh handsOn again : Bool} {W W' : World} {args : Array Value} {v : Value} {ds gs : List (DataW H)} {before pa pv : List MemPlace}
    (hW : DataW.Whole enc P f.params.toList s.vars apart W args.toList ds gs before)
    (hres : ∀ (b : Nat) (sp : Nat → Bool) (hd : Bool), DataW.TrodAll enc P W' b sp hd f.resultTypes.toList (v.resultList f.resultTypes.size) (s.fn H (ds ++ gs)).results [])
    (hargs : ∀ sp : Nat → Bool, (∀ p ∈ before, sp p.block = true) → DataW.TrodAll enc P W' 0 sp true f.params.toList args.toList (s.fn H (ds ++ gs)).args pa)
    (hvars : ∀ sp : Nat → Bool, (∀ p ∈ before, sp p.block = true) → DataW.TrodVars enc P W' sp s.vars (s.fn H (ds ++ gs)).vars pv)
    (hps : before = pa ++ pv) (hb : Below W.heap.size W W')
    (hok : ∀ (j : Nat) (t : TypeId) (r : Value), f.resultTypes[j]? = some t → (v.resultList f.resultTypes.size)[j]? = some r → Value.okWide P W' .any 0 t r) :
    s.post enc P f apart fresh handsOn again W args v W' := by
  have hold : ∀ p ∈ before, (fun b => decide (b < W.heap.size)) p.block = true := fun p hp => by simpa using hW.lt p hp
  refine ⟨ds, gs, before, [], pa, pv, hW, hres _ _ _, hargs _ hold, hvars _ hold, World.keptBut_mono (fun p hp => ⟨hp, ?_⟩) (hb.frame (· ∈ before)), fun _ => ?_⟩
  · rw [hps, List.mem_append] at hp
    exact Or.inr hp
  · have hlt := hW.lt
    obtain ⟨_, _, _, _, _, hz, hn⟩ := hW
    refine ⟨hok, _, _, ([] ++ pa) ++ pv, ⟨[] ++ pa, pv, trodAll_append (hargs _ (fun _ _ => rfl)) (hres _ _ _), hvars _ (fun _ _ => rfl), rfl, ?_, ?_⟩, ?_⟩
    · intro b off hp
      have hm : MemPlace.cell b off ∈ before := by rw [hps]; simpa using hp
      rw [hb.frozen (p := { block := b, off := off }) (hlt _ hm)]
      exact hz b off hm
    · intro ha
      have := hn ha
      rw [hps] at this
      simpa using this
    · intro p hp _
      rw [hps]
      simpa using hp
end Go.Proofs.YtpbhlpajhdlemaaGreatDoor.Am

namespace Go.Proofs.YtpbhlpajhdlemaaGreatDoor.Am

noncomputable def get1V (x : D8) : N8 (Option AV) → Option AV :=
  D8.rec (motive := fun _ => N8 (Option AV) → Option AV)
    (fun n => n.c0)
    (fun n => n.c1)
    (fun n => n.c2)
    (fun n => n.c3)
    (fun n => n.c4)
    (fun n => n.c5)
    (fun n => n.c6)
    (fun n => n.c7) x

noncomputable def get2V (x : D8) : N8 (N8 (Option AV)) → N8 (Option AV) :=
  D8.rec (motive := fun _ => N8 (N8 (Option AV)) → N8 (Option AV))
    (fun n => n.c0)
    (fun n => n.c1)
    (fun n => n.c2)
    (fun n => n.c3)
    (fun n => n.c4)
    (fun n => n.c5)
    (fun n => n.c6)
    (fun n => n.c7) x

noncomputable def get3V (x : D8) : N8 (N8 (N8 (Option AV))) → N8 (N8 (Option AV)) :=
  D8.rec (motive := fun _ => N8 (N8 (N8 (Option AV))) → N8 (N8 (Option AV)))
    (fun n => n.c0)
    (fun n => n.c1)
    (fun n => n.c2)
    (fun n => n.c3)
    (fun n => n.c4)
    (fun n => n.c5)
    (fun n => n.c6)
    (fun n => n.c7) x

noncomputable def get4V (x : D8) : N8 (N8 (N8 (N8 (Option AV)))) → N8 (N8 (N8 (Option AV))) :=
  D8.rec (motive := fun _ => N8 (N8 (N8 (N8 (Option AV)))) → N8 (N8 (N8 (Option AV))))
    (fun n => n.c0)
    (fun n => n.c1)
    (fun n => n.c2)
    (fun n => n.c3)
    (fun n => n.c4)
    (fun n => n.c5)
    (fun n => n.c6)
    (fun n => n.c7) x

noncomputable def get5V (x : D8) : N8 (N8 (N8 (N8 (N8 (Option AV))))) → N8 (N8 (N8 (N8 (Option AV)))) :=
  D8.rec (motive := fun _ => N8 (N8 (N8 (N8 (N8 (Option AV))))) → N8 (N8 (N8 (N8 (Option AV)))))
    (fun n => n.c0)
    (fun n => n.c1)
    (fun n => n.c2)
    (fun n => n.c3)
    (fun n => n.c4)
    (fun n => n.c5)
    (fun n => n.c6)
    (fun n => n.c7) x

noncomputable def get6V (x : D8) : N8 (N8 (N8 (N8 (N8 (N8 (Option AV)))))) → N8 (N8 (N8 (N8 (N8 (Option AV))))) :=
  D8.rec (motive := fun _ => N8 (N8 (N8 (N8 (N8 (N8 (Option AV)))))) → N8 (N8 (N8 (N8 (N8 (Option AV))))))
    (fun n => n.c0)
    (fun n => n.c1)
    (fun n => n.c2)
    (fun n => n.c3)
    (fun n => n.c4)
    (fun n => n.c5)
    (fun n => n.c6)
    (fun n => n.c7) x

noncomputable def getV (x : Pos) : T AV → Option AV :=
  Pos.rec (motive := fun _ => T AV → Option AV)
    (fun x y t => get1V y (get2V x t.a))
    (fun x y z w t => get1V w (get2V z (get3V y (get4V x t.b))))
    (fun x y z w u r t => get1V r (get2V u (get3V w (get4V z (get5V y (get6V x t.c))))))
    (fun q t => BT.get q t.s) x

noncomputable def set1V (x : D8) : N8 (Option AV) → Option AV → (N8 (Option AV) → Out) → Out :=
  D8.rec (motive := fun _ => N8 (Option AV) → Option AV → (N8 (Option AV) → Out) → Out)
    (fun n v k => N8.rec (motive := fun _ => Option AV → (N8 (Option AV) → Out) → Out) (fun _ c1 c2 c3 c4 c5 c6 c7 v k => k ⟨v, c1, c2, c3, c4, c5, c6, c7⟩) n  v k)
    (fun n v k => N8.rec (motive := fun _ => Option AV → (N8 (Option AV) → Out) → Out) (fun c0 _ c2 c3 c4 c5 c6 c7 v k => k ⟨c0, v, c2, c3, c4, c5, c6, c7⟩) n  v k)
    (fun n v k => N8.rec (motive := fun _ => Option AV → (N8 (Option AV) → Out) → Out) (fun c0 c1 _ c3 c4 c5 c6 c7 v k => k ⟨c0, c1, v, c3, c4, c5, c6, c7⟩) n  v k)
    (fun n v k => N8.rec (motive := fun _ => Option AV → (N8 (Option AV) → Out) → Out) (fun c0 c1 c2 _ c4 c5 c6 c7 v k => k ⟨c0, c1, c2, v, c4, c5, c6, c7⟩) n  v k)
    (fun n v k => N8.rec (motive := fun _ => Option AV → (N8 (Option AV) → Out) → Out) (fun c0 c1 c2 c3 _ c5 c6 c7 v k => k ⟨c0, c1, c2, c3, v, c5, c6, c7⟩) n  v k)
    (fun n v k => N8.rec (motive := fun _ => Option AV → (N8 (Option AV) → Out) → Out) (fun c0 c1 c2 c3 c4 _ c6 c7 v k => k ⟨c0, c1, c2, c3, c4, v, c6, c7⟩) n  v k)
    (fun n v k => N8.rec (motive := fun _ => Option AV → (N8 (Option AV) → Out) → Out) (fun c0 c1 c2 c3 c4 c5 _ c7 v k => k ⟨c0, c1, c2, c3, c4, c5, v, c7⟩) n  v k)
    (fun n v k => N8.rec (motive := fun _ => Option AV → (N8 (Option AV) → Out) → Out) (fun c0 c1 c2 c3 c4 c5 c6 _ v k => k ⟨c0, c1, c2, c3, c4, c5, c6, v⟩) n  v k) x

noncomputable def set2V (x : D8) : N8 (N8 (Option AV)) → D8 → Option AV → (N8 (N8 (Option AV)) → Out) → Out :=
  D8.rec (motive := fun _ => N8 (N8 (Option AV)) → D8 → Option AV → (N8 (N8 (Option AV)) → Out) → Out)
    (fun n e0 v k => N8.rec (motive := fun _ => D8 → Option AV → (N8 (N8 (Option AV)) → Out) → Out) (fun c0 c1 c2 c3 c4 c5 c6 c7 e0 v k => set1V e0 c0  v fun y => k ⟨y, c1, c2, c3, c4, c5, c6, c7⟩) n e0 v k)
    (fun n e0 v k => N8.rec (motive := fun _ => D8 → Option AV → (N8 (N8 (Option AV)) → Out) → Out) (fun c0 c1 c2 c3 c4 c5 c6 c7 e0 v k => set1V e0 c1  v fun y => k ⟨c0, y, c2, c3, c4, c5, c6, c7⟩) n e0 v k)
    (fun n e0 v k => N8.rec (motive := fun _ => D8 → Option AV → (N8 (N8 (Option AV)) → Out) → Out) (fun c0 c1 c2 c3 c4 c5 c6 c7 e0 v k => set1V e0 c2  v fun y => k ⟨c0, c1, y, c3, c4, c5, c6, c7⟩) n e0 v k)
    (fun n e0 v k => N8.rec (motive := fun _ => D8 → Option AV → (N8 (N8 (Option AV)) → Out) → Out) (fun c0 c1 c2 c3 c4 c5 c6 c7 e0 v k => set1V e0 c3  v fun y => k ⟨c0, c1, c2, y, c4, c5, c6, c7⟩) n e0 v k)
    (fun n e0 v k => N8.rec (motive := fun _ => D8 → Option AV → (N8 (N8 (Option AV)) → Out) → Out) (fun c0 c1 c2 c3 c4 c5 c6 c7 e0 v k => set1V e0 c4  v fun y => k ⟨c0, c1, c2, c3, y, c5, c6, c7⟩) n e0 v k)
    (fun n e0 v k => N8.rec (motive := fun _ => D8 → Option AV → (N8 (N8 (Option AV)) → Out) → Out) (fun c0 c1 c2 c3 c4 c5 c6 c7 e0 v k => set1V e0 c5  v fun y => k ⟨c0, c1, c2, c3, c4, y, c6, c7⟩) n e0 v k)
    (fun n e0 v k => N8.rec (motive := fun _ => D8 → Option AV → (N8 (N8 (Option AV)) → Out) → Out) (fun c0 c1 c2 c3 c4 c5 c6 c7 e0 v k => set1V e0 c6  v fun y => k ⟨c0, c1, c2, c3, c4, c5, y, c7⟩) n e0 v k)
    (fun n e0 v k => N8.rec (motive := fun _ => D8 → Option AV → (N8 (N8 (Option AV)) → Out) → Out) (fun c0 c1 c2 c3 c4 c5 c6 c7 e0 v k => set1V e0 c7  v fun y => k ⟨c0, c1, c2, c3, c4, c5, c6, y⟩) n e0 v k) x

noncomputable def set3V (x : D8) : N8 (N8 (N8 (Option AV))) → D8 → D8 → Option AV → (N8 (N8 (N8 (Option AV))) → Out) → Out :=
  D8.rec (motive := fun _ => N8 (N8 (N8 (Option AV))) → D8 → D8 → Option AV → (N8 (N8 (N8 (Option AV))) → Out) → Out)
    (fun n e0 e1 v k => N8.rec (motive := fun _ => D8 → D8 → Option AV → (N8 (N8 (N8 (Option AV))) → Out) → Out) (fun c0 c1 c2 c3 c4 c5 c6 c7 e0 e1 v k => set2V e0 c0 e1 v fun y => k ⟨y, c1, c2, c3, c4, c5, c6, c7⟩) n e0 e1 v k)
    (fun n e0 e1 v k => N8.rec (motive := fun _ => D8 → D8 → Option AV → (N8 (N8 (N8 (Option AV))) → Out) → Out) (fun c0 c1 c2 c3 c4 c5 c6 c7 e0 e1 v k => set2V e0 c1 e1 v fun y => k ⟨c0, y, c2, c3, c4, c5, c6, c7⟩) n e0 e1 v k)
    (fun n e0 e1 v k => N8.rec (motive := fun _ => D8 → D8 → Option AV → (N8 (N8 (N8 (Option AV))) → Out) → Out) (fun c0 c1 c2 c3 c4 c5 c6 c7 e0 e1 v k => set2V e0 c2 e1 v fun y => k ⟨c0, c1, y, c3, c4, c5, c6, c7⟩) n e0 e1 v k)
    (fun n e0 e1 v k => N8.rec (motive := fun _ => D8 → D8 → Option AV → (N8 (N8 (N8 (Option AV))) → Out) → Out) (fun c0 c1 c2 c3 c4 c5 c6 c7 e0 e1 v k => set2V e0 c3 e1 v fun y => k ⟨c0, c1, c2, y, c4, c5, c6, c7⟩) n e0 e1 v k)
    (fun n e0 e1 v k => N8.rec (motive := fun _ => D8 → D8 → Option AV → (N8 (N8 (N8 (Option AV))) → Out) → Out) (fun c0 c1 c2 c3 c4 c5 c6 c7 e0 e1 v k => set2V e0 c4 e1 v fun y => k ⟨c0, c1, c2, c3, y, c5, c6, c7⟩) n e0 e1 v k)
    (fun n e0 e1 v k => N8.rec (motive := fun _ => D8 → D8 → Option AV → (N8 (N8 (N8 (Option AV))) → Out) → Out) (fun c0 c1 c2 c3 c4 c5 c6 c7 e0 e1 v k => set2V e0 c5 e1 v fun y => k ⟨c0, c1, c2, c3, c4, y, c6, c7⟩) n e0 e1 v k)
    (fun n e0 e1 v k => N8.rec (motive := fun _ => D8 → D8 → Option AV → (N8 (N8 (N8 (Option AV))) → Out) → Out) (fun c0 c1 c2 c3 c4 c5 c6 c7 e0 e1 v k => set2V e0 c6 e1 v fun y => k ⟨c0, c1, c2, c3, c4, c5, y, c7⟩) n e0 e1 v k)
    (fun n e0 e1 v k => N8.rec (motive := fun _ => D8 → D8 → Option AV → (N8 (N8 (N8 (Option AV))) → Out) → Out) (fun c0 c1 c2 c3 c4 c5 c6 c7 e0 e1 v k => set2V e0 c7 e1 v fun y => k ⟨c0, c1, c2, c3, c4, c5, c6, y⟩) n e0 e1 v k) x

noncomputable def set4V (x : D8) : N8 (N8 (N8 (N8 (Option AV)))) → D8 → D8 → D8 → Option AV → (N8 (N8 (N8 (N8 (Option AV)))) → Out) → Out :=
  D8.rec (motive := fun _ => N8 (N8 (N8 (N8 (Option AV)))) → D8 → D8 → D8 → Option AV → (N8 (N8 (N8 (N8 (Option AV)))) → Out) → Out)
    (fun n e0 e1 e2 v k => N8.rec (motive := fun _ => D8 → D8 → D8 → Option AV → (N8 (N8 (N8 (N8 (Option AV)))) → Out) → Out) (fun c0 c1 c2 c3 c4 c5 c6 c7 e0 e1 e2 v k => set3V e0 c0 e1 e2 v fun y => k ⟨y, c1, c2, c3, c4, c5, c6, c7⟩) n e0 e1 e2 v k)
    (fun n e0 e1 e2 v k => N8.rec (motive := fun _ => D8 → D8 → D8 → Option AV → (N8 (N8 (N8 (N8 (Option AV)))) → Out) → Out) (fun c0 c1 c2 c3 c4 c5 c6 c7 e0 e1 e2 v k => set3V e0 c1 e1 e2 v fun y => k ⟨c0, y, c2, c3, c4, c5, c6, c7⟩) n e0 e1 e2 v k)
    (fun n e0 e1 e2 v k => N8.rec (motive := fun _ => D8 → D8 → D8 → Option AV → (N8 (N8 (N8 (N8 (Option AV)))) → Out) → Out) (fun c0 c1 c2 c3 c4 c5 c6 c7 e0 e1 e2 v k => set3V e0 c2 e1 e2 v fun y => k ⟨c0, c1, y, c3, c4, c5, c6, c7⟩) n e0 e1 e2 v k)
    (fun n e0 e1 e2 v k => N8.rec (motive := fun _ => D8 → D8 → D8 → Option AV → (N8 (N8 (N8 (N8 (Option AV)))) → Out) → Out) (fun c0 c1 c2 c3 c4 c5 c6 c7 e0 e1 e2 v k => set3V e0 c3 e1 e2 v fun y => k ⟨c0, c1, c2, y, c4, c5, c6, c7⟩) n e0 e1 e2 v k)
    (fun n e0 e1 e2 v k => N8.rec (motive := fun _ => D8 → D8 → D8 → Option AV → (N8 (N8 (N8 (N8 (Option AV)))) → Out) → Out) (fun c0 c1 c2 c3 c4 c5 c6 c7 e0 e1 e2 v k => set3V e0 c4 e1 e2 v fun y => k ⟨c0, c1, c2, c3, y, c5, c6, c7⟩) n e0 e1 e2 v k)
    (fun n e0 e1 e2 v k => N8.rec (motive := fun _ => D8 → D8 → D8 → Option AV → (N8 (N8 (N8 (N8 (Option AV)))) → Out) → Out) (fun c0 c1 c2 c3 c4 c5 c6 c7 e0 e1 e2 v k => set3V e0 c5 e1 e2 v fun y => k ⟨c0, c1, c2, c3, c4, y, c6, c7⟩) n e0 e1 e2 v k)
    (fun n e0 e1 e2 v k => N8.rec (motive := fun _ => D8 → D8 → D8 → Option AV → (N8 (N8 (N8 (N8 (Option AV)))) → Out) → Out) (fun c0 c1 c2 c3 c4 c5 c6 c7 e0 e1 e2 v k => set3V e0 c6 e1 e2 v fun y => k ⟨c0, c1, c2, c3, c4, c5, y, c7⟩) n e0 e1 e2 v k)
    (fun n e0 e1 e2 v k => N8.rec (motive := fun _ => D8 → D8 → D8 → Option AV → (N8 (N8 (N8 (N8 (Option AV)))) → Out) → Out) (fun c0 c1 c2 c3 c4 c5 c6 c7 e0 e1 e2 v k => set3V e0 c7 e1 e2 v fun y => k ⟨c0, c1, c2, c3, c4, c5, c6, y⟩) n e0 e1 e2 v k) x

noncomputable def set5V (x : D8) : N8 (N8 (N8 (N8 (N8 (Option AV))))) → D8 → D8 → D8 → D8 → Option AV → (N8 (N8 (N8 (N8 (N8 (Option AV))))) → Out) → Out :=
  D8.rec (motive := fun _ => N8 (N8 (N8 (N8 (N8 (Option AV))))) → D8 → D8 → D8 → D8 → Option AV → (N8 (N8 (N8 (N8 (N8 (Option AV))))) → Out) → Out)
    (fun n e0 e1 e2 e3 v k => N8.rec (motive := fun _ => D8 → D8 → D8 → D8 → Option AV → (N8 (N8 (N8 (N8 (N8 (Option AV))))) → Out) → Out) (fun c0 c1 c2 c3 c4 c5 c6 c7 e0 e1 e2 e3 v k => set4V e0 c0 e1 e2 e3 v fun y => k ⟨y, c1, c2, c3, c4, c5, c6, c7⟩) n e0 e1 e2 e3 v k)
    (fun n e0 e1 e2 e3 v k => N8.rec (motive := fun _ => D8 → D8 → D8 → D8 → Option AV → (N8 (N8 (N8 (N8 (N8 (Option AV))))) → Out) → Out) (fun c0 c1 c2 c3 c4 c5 c6 c7 e0 e1 e2 e3 v k => set4V e0 c1 e1 e2 e3 v fun y => k ⟨c0, y, c2, c3, c4, c5, c6, c7⟩) n e0 e1 e2 e3 v k)
    (fun n e0 e1 e2 e3 v k => N8.rec (motive := fun _ => D8 → D8 → D8 → D8 → Option AV → (N8 (N8 (N8 (N8 (N8 (Option AV))))) → Out) → Out) (fun c0 c1 c2 c3 c4 c5 c6 c7 e0 e1 e2 e3 v k => set4V e0 c2 e1 e2 e3 v fun y => k ⟨c0, c1, y, c3, c4, c5, c6, c7⟩) n e0 e1 e2 e3 v k)
    (fun n e0 e1 e2 e3 v k => N8.rec (motive := fun _ => D8 → D8 → D8 → D8 → Option AV → (N8 (N8 (N8 (N8 (N8 (Option AV))))) → Out) → Out) (fun c0 c1 c2 c3 c4 c5 c6 c7 e0 e1 e2 e3 v k => set4V e0 c3 e1 e2 e3 v fun y => k ⟨c0, c1, c2, y, c4, c5, c6, c7⟩) n e0 e1 e2 e3 v k)
    (fun n e0 e1 e2 e3 v k => N8.rec (motive := fun _ => D8 → D8 → D8 → D8 → Option AV → (N8 (N8 (N8 (N8 (N8 (Option AV))))) → Out) → Out) (fun c0 c1 c2 c3 c4 c5 c6 c7 e0 e1 e2 e3 v k => set4V e0 c4 e1 e2 e3 v fun y => k ⟨c0, c1, c2, c3, y, c5, c6, c7⟩) n e0 e1 e2 e3 v k)
    (fun n e0 e1 e2 e3 v k => N8.rec (motive := fun _ => D8 → D8 → D8 → D8 → Option AV → (N8 (N8 (N8 (N8 (N8 (Option AV))))) → Out) → Out) (fun c0 c1 c2 c3 c4 c5 c6 c7 e0 e1 e2 e3 v k => set4V e0 c5 e1 e2 e3 v fun y => k ⟨c0, c1, c2, c3, c4, y, c6, c7⟩) n e0 e1 e2 e3 v k)
    (fun n e0 e1 e2 e3 v k => N8.rec (motive := fun _ => D8 → D8 → D8 → D8 → Option AV → (N8 (N8 (N8 (N8 (N8 (Option AV))))) → Out) → Out) (fun c0 c1 c2 c3 c4 c5 c6 c7 e0 e1 e2 e3 v k => set4V e0 c6 e1 e2 e3 v fun y => k ⟨c0, c1, c2, c3, c4, c5, y, c7⟩) n e0 e1 e2 e3 v k)
    (fun n e0 e1 e2 e3 v k => N8.rec (motive := fun _ => D8 → D8 → D8 → D8 → Option AV → (N8 (N8 (N8 (N8 (N8 (Option AV))))) → Out) → Out) (fun c0 c1 c2 c3 c4 c5 c6 c7 e0 e1 e2 e3 v k => set4V e0 c7 e1 e2 e3 v fun y => k ⟨c0, c1, c2, c3, c4, c5, c6, y⟩) n e0 e1 e2 e3 v k) x

noncomputable def set6V (x : D8) : N8 (N8 (N8 (N8 (N8 (N8 (Option AV)))))) → D8 → D8 → D8 → D8 → D8 → Option AV → (N8 (N8 (N8 (N8 (N8 (N8 (Option AV)))))) → Out) → Out :=
  D8.rec (motive := fun _ => N8 (N8 (N8 (N8 (N8 (N8 (Option AV)))))) → D8 → D8 → D8 → D8 → D8 → Option AV → (N8 (N8 (N8 (N8 (N8 (N8 (Option AV)))))) → Out) → Out)
    (fun n e0 e1 e2 e3 e4 v k => N8.rec (motive := fun _ => D8 → D8 → D8 → D8 → D8 → Option AV → (N8 (N8 (N8 (N8 (N8 (N8 (Option AV)))))) → Out) → Out) (fun c0 c1 c2 c3 c4 c5 c6 c7 e0 e1 e2 e3 e4 v k => set5V e0 c0 e1 e2 e3 e4 v fun y => k ⟨y, c1, c2, c3, c4, c5, c6, c7⟩) n e0 e1 e2 e3 e4 v k)
    (fun n e0 e1 e2 e3 e4 v k => N8.rec (motive := fun _ => D8 → D8 → D8 → D8 → D8 → Option AV → (N8 (N8 (N8 (N8 (N8 (N8 (Option AV)))))) → Out) → Out) (fun c0 c1 c2 c3 c4 c5 c6 c7 e0 e1 e2 e3 e4 v k => set5V e0 c1 e1 e2 e3 e4 v fun y => k ⟨c0, y, c2, c3, c4, c5, c6, c7⟩) n e0 e1 e2 e3 e4 v k)
    (fun n e0 e1 e2 e3 e4 v k => N8.rec (motive := fun _ => D8 → D8 → D8 → D8 → D8 → Option AV → (N8 (N8 (N8 (N8 (N8 (N8 (Option AV)))))) → Out) → Out) (fun c0 c1 c2 c3 c4 c5 c6 c7 e0 e1 e2 e3 e4 v k => set5V e0 c2 e1 e2 e3 e4 v fun y => k ⟨c0, c1, y, c3, c4, c5, c6, c7⟩) n e0 e1 e2 e3 e4 v k)
    (fun n e0 e1 e2 e3 e4 v k => N8.rec (motive := fun _ => D8 → D8 → D8 → D8 → D8 → Option AV → (N8 (N8 (N8 (N8 (N8 (N8 (Option AV)))))) → Out) → Out) (fun c0 c1 c2 c3 c4 c5 c6 c7 e0 e1 e2 e3 e4 v k => set5V e0 c3 e1 e2 e3 e4 v fun y => k ⟨c0, c1, c2, y, c4, c5, c6, c7⟩) n e0 e1 e2 e3 e4 v k)
    (fun n e0 e1 e2 e3 e4 v k => N8.rec (motive := fun _ => D8 → D8 → D8 → D8 → D8 → Option AV → (N8 (N8 (N8 (N8 (N8 (N8 (Option AV)))))) → Out) → Out) (fun c0 c1 c2 c3 c4 c5 c6 c7 e0 e1 e2 e3 e4 v k => set5V e0 c4 e1 e2 e3 e4 v fun y => k ⟨c0, c1, c2, c3, y, c5, c6, c7⟩) n e0 e1 e2 e3 e4 v k)
    (fun n e0 e1 e2 e3 e4 v k => N8.rec (motive := fun _ => D8 → D8 → D8 → D8 → D8 → Option AV → (N8 (N8 (N8 (N8 (N8 (N8 (Option AV)))))) → Out) → Out) (fun c0 c1 c2 c3 c4 c5 c6 c7 e0 e1 e2 e3 e4 v k => set5V e0 c5 e1 e2 e3 e4 v fun y => k ⟨c0, c1, c2, c3, c4, y, c6, c7⟩) n e0 e1 e2 e3 e4 v k)
    (fun n e0 e1 e2 e3 e4 v k => N8.rec (motive := fun _ => D8 → D8 → D8 → D8 → D8 → Option AV → (N8 (N8 (N8 (N8 (N8 (N8 (Option AV)))))) → Out) → Out) (fun c0 c1 c2 c3 c4 c5 c6 c7 e0 e1 e2 e3 e4 v k => set5V e0 c6 e1 e2 e3 e4 v fun y => k ⟨c0, c1, c2, c3, c4, c5, y, c7⟩) n e0 e1 e2 e3 e4 v k)
    (fun n e0 e1 e2 e3 e4 v k => N8.rec (motive := fun _ => D8 → D8 → D8 → D8 → D8 → Option AV → (N8 (N8 (N8 (N8 (N8 (N8 (Option AV)))))) → Out) → Out) (fun c0 c1 c2 c3 c4 c5 c6 c7 e0 e1 e2 e3 e4 v k => set5V e0 c7 e1 e2 e3 e4 v fun y => k ⟨c0, c1, c2, c3, c4, c5, c6, y⟩) n e0 e1 e2 e3 e4 v k) x

noncomputable def setV (x : Pos) : Option AV → T AV → (T AV → Out) → Out :=
  Pos.rec (motive := fun _ => Option AV → T AV → (T AV → Out) → Out)
    (fun x y v t k => T.rec (motive := fun _ => D8 → D8 → Option AV → (T AV → Out) → Out) (fun a b c s x y v k => set2V x a y v fun a => k ⟨a, b, c, s⟩) t x y v k)
    (fun x y z w v t k => T.rec (motive := fun _ => D8 → D8 → D8 → D8 → Option AV → (T AV → Out) → Out) (fun a b c s x y z w v k => set4V x b y z w v fun b => k ⟨a, b, c, s⟩) t x y z w v k)
    (fun x y z w u r v t k => T.rec (motive := fun _ => D8 → D8 → D8 → D8 → D8 → D8 → Option AV → (T AV → Out) → Out) (fun a b c s x y z w u r v k => set6V x c y z w u r v fun c => k ⟨a, b, c, s⟩) t x y z w u r v k)
    (fun q v t k => k ⟨t.a, t.b, t.c, t.s.set q v⟩) x

theorem get1V_eq (d : D8) (n : N8 (Option AV)) : get1V d n = n.get d := by cases d <;> rfl

theorem get2V_eq (d : D8) (n : N8 (N8 (Option AV))) : get2V d n = n.get d := by cases d <;> rfl

theorem get3V_eq (d : D8) (n : N8 (N8 (N8 (Option AV)))) : get3V d n = n.get d := by cases d <;> rfl

theorem get4V_eq (d : D8) (n : N8 (N8 (N8 (N8 (Option AV))))) : get4V d n = n.get d := by cases d <;> rfl

theorem get5V_eq (d : D8) (n : N8 (N8 (N8 (N8 (N8 (Option AV)))))) : get5V d n = n.get d := by cases d <;> rfl

theorem get6V_eq (d : D8) (n : N8 (N8 (N8 (N8 (N8 (N8 (Option AV))))))) : get6V d n = n.get d := by cases d <;> rfl

theorem getV_eq (p : Pos) (t : T AV) : getV p t = T.get p t := by
  cases p <;> (try rfl)
  · show get1V _ (get2V _ _) = _
    rw [get1V_eq, get2V_eq]; rfl
  · show get1V _ (get2V _ (get3V _ (get4V _ _))) = _
    rw [get1V_eq, get2V_eq, get3V_eq, get4V_eq]; rfl
  · show get1V _ (get2V _ (get3V _ (get4V _ (get5V _ (get6V _ _))))) = _
    rw [get1V_eq, get2V_eq, get3V_eq, get4V_eq, get5V_eq, get6V_eq]; rfl

theorem set1V_eq (x : D8) (n : N8 (Option AV)) (v : Option AV) (k : N8 (Option AV) → Out) : set1V x n  v k = k (n.set x v) := by
  obtain ⟨c0, c1, c2, c3, c4, c5, c6, c7⟩ := n
  cases x <;> rfl

theorem set2V_eq (x : D8) (n : N8 (N8 (Option AV))) (e0 : D8) (v : Option AV) (k : N8 (N8 (Option AV)) → Out) : set2V x n e0 v k = k (set2 x e0 v n) := by
  obtain ⟨c0, c1, c2, c3, c4, c5, c6, c7⟩ := n
  cases x <;> exact set1V_eq e0 _  v _

theorem set3V_eq (x : D8) (n : N8 (N8 (N8 (Option AV)))) (e0 e1 : D8) (v : Option AV) (k : N8 (N8 (N8 (Option AV))) → Out) : set3V x n e0 e1 v k = k (n.set x (set2 e0 e1 v (n.get x))) := by
  obtain ⟨c0, c1, c2, c3, c4, c5, c6, c7⟩ := n
  cases x <;> exact set2V_eq e0 _ e1 v _

theorem set4V_eq (x : D8) (n : N8 (N8 (N8 (N8 (Option AV))))) (e0 e1 e2 : D8) (v : Option AV) (k : N8 (N8 (N8 (N8 (Option AV)))) → Out) : set4V x n e0 e1 e2 v k = k (set4 x e0 e1 e2 v n) := by
  obtain ⟨c0, c1, c2, c3, c4, c5, c6, c7⟩ := n
  cases x <;> exact set3V_eq e0 _ e1 e2 v _

theorem set5V_eq (x : D8) (n : N8 (N8 (N8 (N8 (N8 (Option AV)))))) (e0 e1 e2 e3 : D8) (v : Option AV) (k : N8 (N8 (N8 (N8 (N8 (Option AV))))) → Out) : set5V x n e0 e1 e2 e3 v k = k (n.set x (set4 e0 e1 e2 e3 v (n.get x))) := by
  obtain ⟨c0, c1, c2, c3, c4, c5, c6, c7⟩ := n
  cases x <;> exact set4V_eq e0 _ e1 e2 e3 v _

theorem set6V_eq (x : D8) (n : N8 (N8 (N8 (N8 (N8 (N8 (Option AV))))))) (e0 e1 e2 e3 e4 : D8) (v : Option AV) (k : N8 (N8 (N8 (N8 (N8 (N8 (Option AV)))))) → Out) : set6V x n e0 e1 e2 e3 e4 v k = k (set6 x e0 e1 e2 e3 e4 v n) := by
  obtain ⟨c0, c1, c2, c3, c4, c5, c6, c7⟩ := n
  cases x <;> exact set5V_eq e0 _ e1 e2 e3 e4 v _

theorem setV_eq (p : Pos) (v : Option AV) (t : T AV) (k : T AV → Out) : setV p v t k = k (T.set p v t) := by
  obtain ⟨a, b, c, s⟩ := t
  cases p with
  | a x y => exact set2V_eq x a y v _
  | b x y z w => exact set4V_eq x b y z w v _
  | c x y z w u r => exact set6V_eq x c y z w u r v _
  | s q => rfl

noncomputable def get1B (x : D8) : N8 (Option Blk) → Option Blk :=
  D8.rec (motive := fun _ => N8 (Option Blk) → Option Blk)
    (fun n => n.c0)
    (fun n => n.c1)
    (fun n => n.c2)
    (fun n => n.c3)
    (fun n => n.c4)
    (fun n => n.c5)
    (fun n => n.c6)
    (fun n => n.c7) x

noncomputable def get2B (x : D8) : N8 (N8 (Option Blk)) → N8 (Option Blk) :=
  D8.rec (motive := fun _ => N8 (N8 (Option Blk)) → N8 (Option Blk))
    (fun n => n.c0)
    (fun n => n.c1)
    (fun n => n.c2)
    (fun n => n.c3)
    (fun n => n.c4)
    (fun n => n.c5)
    (fun n => n.c6)
    (fun n => n.c7) x

noncomputable def get3B (x : D8) : N8 (N8 (N8 (Option Blk))) → N8 (N8 (Option Blk)) :=
  D8.rec (motive := fun _ => N8 (N8 (N8 (Option Blk))) → N8 (N8 (Option Blk)))
    (fun n => n.c0)
    (fun n => n.c1)
    (fun n => n.c2)
    (fun n => n.c3)
    (fun n => n.c4)
    (fun n => n.c5)
    (fun n => n.c6)
    (fun n => n.c7) x

noncomputable def get4B (x : D8) : N8 (N8 (N8 (N8 (Option Blk)))) → N8 (N8 (N8 (Option Blk))) :=
  D8.rec (motive := fun _ => N8 (N8 (N8 (N8 (Option Blk)))) → N8 (N8 (N8 (Option Blk))))
    (fun n => n.c0)
    (fun n => n.c1)
    (fun n => n.c2)
    (fun n => n.c3)
    (fun n => n.c4)
    (fun n => n.c5)
    (fun n => n.c6)
    (fun n => n.c7) x

noncomputable def get5B (x : D8) : N8 (N8 (N8 (N8 (N8 (Option Blk))))) → N8 (N8 (N8 (N8 (Option Blk)))) :=
  D8.rec (motive := fun _ => N8 (N8 (N8 (N8 (N8 (Option Blk))))) → N8 (N8 (N8 (N8 (Option Blk)))))
    (fun n => n.c0)
    (fun n => n.c1)
    (fun n => n.c2)
    (fun n => n.c3)
    (fun n => n.c4)
    (fun n => n.c5)
    (fun n => n.c6)
    (fun n => n.c7) x

noncomputable def get6B (x : D8) : N8 (N8 (N8 (N8 (N8 (N8 (Option Blk)))))) → N8 (N8 (N8 (N8 (N8 (Option Blk))))) :=
  D8.rec (motive := fun _ => N8 (N8 (N8 (N8 (N8 (N8 (Option Blk)))))) → N8 (N8 (N8 (N8 (N8 (Option Blk))))))
    (fun n => n.c0)
    (fun n => n.c1)
    (fun n => n.c2)
    (fun n => n.c3)
    (fun n => n.c4)
    (fun n => n.c5)
    (fun n => n.c6)
    (fun n => n.c7) x

noncomputable def getB (x : Pos) : T Blk → Option Blk :=
  Pos.rec (motive := fun _ => T Blk → Option Blk)
    (fun x y t => get1B y (get2B x t.a))
    (fun x y z w t => get1B w (get2B z (get3B y (get4B x t.b))))
    (fun x y z w u r t => get1B r (get2B u (get3B w (get4B z (get5B y (get6B x t.c))))))
    (fun q t => BT.get q t.s) x

noncomputable def set1B (x : D8) : N8 (Option Blk) → Option Blk → (N8 (Option Blk) → Out) → Out :=
  D8.rec (motive := fun _ => N8 (Option Blk) → Option Blk → (N8 (Option Blk) → Out) → Out)
    (fun n v k => N8.rec (motive := fun _ => Option Blk → (N8 (Option Blk) → Out) → Out) (fun _ c1 c2 c3 c4 c5 c6 c7 v k => k ⟨v, c1, c2, c3, c4, c5, c6, c7⟩) n  v k)
    (fun n v k => N8.rec (motive := fun _ => Option Blk → (N8 (Option Blk) → Out) → Out) (fun c0 _ c2 c3 c4 c5 c6 c7 v k => k ⟨c0, v, c2, c3, c4, c5, c6, c7⟩) n  v k)
    (fun n v k => N8.rec (motive := fun _ => Option Blk → (N8 (Option Blk) → Out) → Out) (fun c0 c1 _ c3 c4 c5 c6 c7 v k => k ⟨c0, c1, v, c3, c4, c5, c6, c7⟩) n  v k)
    (fun n v k => N8.rec (motive := fun _ => Option Blk → (N8 (Option Blk) → Out) → Out) (fun c0 c1 c2 _ c4 c5 c6 c7 v k => k ⟨c0, c1, c2, v, c4, c5, c6, c7⟩) n  v k)
    (fun n v k => N8.rec (motive := fun _ => Option Blk → (N8 (Option Blk) → Out) → Out) (fun c0 c1 c2 c3 _ c5 c6 c7 v k => k ⟨c0, c1, c2, c3, v, c5, c6, c7⟩) n  v k)
    (fun n v k => N8.rec (motive := fun _ => Option Blk → (N8 (Option Blk) → Out) → Out) (fun c0 c1 c2 c3 c4 _ c6 c7 v k => k ⟨c0, c1, c2, c3, c4, v, c6, c7⟩) n  v k)
    (fun n v k => N8.rec (motive := fun _ => Option Blk → (N8 (Option Blk) → Out) → Out) (fun c0 c1 c2 c3 c4 c5 _ c7 v k => k ⟨c0, c1, c2, c3, c4, c5, v, c7⟩) n  v k)
    (fun n v k => N8.rec (motive := fun _ => Option Blk → (N8 (Option Blk) → Out) → Out) (fun c0 c1 c2 c3 c4 c5 c6 _ v k => k ⟨c0, c1, c2, c3, c4, c5, c6, v⟩) n  v k) x

noncomputable def set2B (x : D8) : N8 (N8 (Option Blk)) → D8 → Option Blk → (N8 (N8 (Option Blk)) → Out) → Out :=
  D8.rec (motive := fun _ => N8 (N8 (Option Blk)) → D8 → Option Blk → (N8 (N8 (Option Blk)) → Out) → Out)
    (fun n e0 v k => N8.rec (motive := fun _ => D8 → Option Blk → (N8 (N8 (Option Blk)) → Out) → Out) (fun c0 c1 c2 c3 c4 c5 c6 c7 e0 v k => set1B e0 c0  v fun y => k ⟨y, c1, c2, c3, c4, c5, c6, c7⟩) n e0 v k)
    (fun n e0 v k => N8.rec (motive := fun _ => D8 → Option Blk → (N8 (N8 (Option Blk)) → Out) → Out) (fun c0 c1 c2 c3 c4 c5 c6 c7 e0 v k => set1B e0 c1  v fun y => k ⟨c0, y, c2, c3, c4, c5, c6, c7⟩) n e0 v k)
    (fun n e0 v k => N8.rec (motive := fun _ => D8 → Option Blk → (N8 (N8 (Option Blk)) → Out) → Out) (fun c0 c1 c2 c3 c4 c5 c6 c7 e0 v k => set1B e0 c2  v fun y => k ⟨c0, c1, y, c3, c4, c5, c6, c7⟩) n e0 v k)
    (fun n e0 v k => N8.rec (motive := fun _ => D8 → Option Blk → (N8 (N8 (Option Blk)) → Out) → Out) (fun c0 c1 c2 c3 c4 c5 c6 c7 e0 v k => set1B e0 c3  v fun y => k ⟨c0, c1, c2, y, c4, c5, c6, c7⟩) n e0 v k)
    (fun n e0 v k => N8.rec (motive := fun _ => D8 → Option Blk → (N8 (N8 (Option Blk)) → Out) → Out) (fun c0 c1 c2 c3 c4 c5 c6 c7 e0 v k => set1B e0 c4  v fun y => k ⟨c0, c1, c2, c3, y, c5, c6, c7⟩) n e0 v k)
    (fun n e0 v k => N8.rec (motive := fun _ => D8 → Option Blk → (N8 (N8 (Option Blk)) → Out) → Out) (fun c0 c1 c2 c3 c4 c5 c6 c7 e0 v k => set1B e0 c5  v fun y => k ⟨c0, c1, c2, c3, c4, y, c6, c7⟩) n e0 v k)
    (fun n e0 v k => N8.rec (motive := fun _ => D8 → Option Blk → (N8 (N8 (Option Blk)) → Out) → Out) (fun c0 c1 c2 c3 c4 c5 c6 c7 e0 v k => set1B e0 c6  v fun y => k ⟨c0, c1, c2, c3, c4, c5, y, c7⟩) n e0 v k)
    (fun n e0 v k => N8.rec (motive := fun _ => D8 → Option Blk → (N8 (N8 (Option Blk)) → Out) → Out) (fun c0 c1 c2 c3 c4 c5 c6 c7 e0 v k => set1B e0 c7  v fun y => k ⟨c0, c1, c2, c3, c4, c5, c6, y⟩) n e0 v k) x

noncomputable def set3B (x : D8) : N8 (N8 (N8 (Option Blk))) → D8 → D8 → Option Blk → (N8 (N8 (N8 (Option Blk))) → Out) → Out :=
  D8.rec (motive := fun _ => N8 (N8 (N8 (Option Blk))) → D8 → D8 → Option Blk → (N8 (N8 (N8 (Option Blk))) → Out) → Out)
    (fun n e0 e1 v k => N8.rec (motive := fun _ => D8 → D8 → Option Blk → (N8 (N8 (N8 (Option Blk))) → Out) → Out) (fun c0 c1 c2 c3 c4 c5 c6 c7 e0 e1 v k => set2B e0 c0 e1 v fun y => k ⟨y, c1, c2, c3, c4, c5, c6, c7⟩) n e0 e1 v k)
    (fun n e0 e1 v k => N8.rec (motive := fun _ => D8 → D8 → Option Blk → (N8 (N8 (N8 (Option Blk))) → Out) → Out) (fun c0 c1 c2 c3 c4 c5 c6 c7 e0 e1 v k => set2B e0 c1 e1 v fun y => k ⟨c0, y, c2, c3, c4, c5, c6, c7⟩) n e0 e1 v k)
    (fun n e0 e1 v k => N8.rec (motive := fun _ => D8 → D8 → Option Blk → (N8 (N8 (N8 (Option Blk))) → Out) → Out) (fun c0 c1 c2 c3 c4 c5 c6 c7 e0 e1 v k => set2B e0 c2 e1 v fun y => k ⟨c0, c1, y, c3, c4, c5, c6, c7⟩) n e0 e1 v k)
    (fun n e0 e1 v k => N8.rec (motive := fun _ => D8 → D8 → Option Blk → (N8 (N8 (N8 (Option Blk))) → Out) → Out) (fun c0 c1 c2 c3 c4 c5 c6 c7 e0 e1 v k => set2B e0 c3 e1 v fun y => k ⟨c0, c1, c2, y, c4, c5, c6, c7⟩) n e0 e1 v k)
    (fun n e0 e1 v k => N8.rec (motive := fun _ => D8 → D8 → Option Blk → (N8 (N8 (N8 (Option Blk))) → Out) → Out) (fun c0 c1 c2 c3 c4 c5 c6 c7 e0 e1 v k => set2B e0 c4 e1 v fun y => k ⟨c0, c1, c2, c3, y, c5, c6, c7⟩) n e0 e1 v k)
    (fun n e0 e1 v k => N8.rec (motive := fun _ => D8 → D8 → Option Blk → (N8 (N8 (N8 (Option Blk))) → Out) → Out) (fun c0 c1 c2 c3 c4 c5 c6 c7 e0 e1 v k => set2B e0 c5 e1 v fun y => k ⟨c0, c1, c2, c3, c4, y, c6, c7⟩) n e0 e1 v k)
    (fun n e0 e1 v k => N8.rec (motive := fun _ => D8 → D8 → Option Blk → (N8 (N8 (N8 (Option Blk))) → Out) → Out) (fun c0 c1 c2 c3 c4 c5 c6 c7 e0 e1 v k => set2B e0 c6 e1 v fun y => k ⟨c0, c1, c2, c3, c4, c5, y, c7⟩) n e0 e1 v k)
    (fun n e0 e1 v k => N8.rec (motive := fun _ => D8 → D8 → Option Blk → (N8 (N8 (N8 (Option Blk))) → Out) → Out) (fun c0 c1 c2 c3 c4 c5 c6 c7 e0 e1 v k => set2B e0 c7 e1 v fun y => k ⟨c0, c1, c2, c3, c4, c5, c6, y⟩) n e0 e1 v k) x

noncomputable def set4B (x : D8) : N8 (N8 (N8 (N8 (Option Blk)))) → D8 → D8 → D8 → Option Blk → (N8 (N8 (N8 (N8 (Option Blk)))) → Out) → Out :=
  D8.rec (motive := fun _ => N8 (N8 (N8 (N8 (Option Blk)))) → D8 → D8 → D8 → Option Blk → (N8 (N8 (N8 (N8 (Option Blk)))) → Out) → Out)
    (fun n e0 e1 e2 v k => N8.rec (motive := fun _ => D8 → D8 → D8 → Option Blk → (N8 (N8 (N8 (N8 (Option Blk)))) → Out) → Out) (fun c0 c1 c2 c3 c4 c5 c6 c7 e0 e1 e2 v k => set3B e0 c0 e1 e2 v fun y => k ⟨y, c1, c2, c3, c4, c5, c6, c7⟩) n e0 e1 e2 v k)
    (fun n e0 e1 e2 v k => N8.rec (motive := fun _ => D8 → D8 → D8 → Option Blk → (N8 (N8 (N8 (N8 (Option Blk)))) → Out) → Out) (fun c0 c1 c2 c3 c4 c5 c6 c7 e0 e1 e2 v k => set3B e0 c1 e1 e2 v fun y => k ⟨c0, y, c2, c3, c4, c5, c6, c7⟩) n e0 e1 e2 v k)
    (fun n e0 e1 e2 v k => N8.rec (motive := fun _ => D8 → D8 → D8 → Option Blk → (N8 (N8 (N8 (N8 (Option Blk)))) → Out) → Out) (fun c0 c1 c2 c3 c4 c5 c6 c7 e0 e1 e2 v k => set3B e0 c2 e1 e2 v fun y => k ⟨c0, c1, y, c3, c4, c5, c6, c7⟩) n e0 e1 e2 v k)
    (fun n e0 e1 e2 v k => N8.rec (motive := fun _ => D8 → D8 → D8 → Option Blk → (N8 (N8 (N8 (N8 (Option Blk)))) → Out) → Out) (fun c0 c1 c2 c3 c4 c5 c6 c7 e0 e1 e2 v k => set3B e0 c3 e1 e2 v fun y => k ⟨c0, c1, c2, y, c4, c5, c6, c7⟩) n e0 e1 e2 v k)
    (fun n e0 e1 e2 v k => N8.rec (motive := fun _ => D8 → D8 → D8 → Option Blk → (N8 (N8 (N8 (N8 (Option Blk)))) → Out) → Out) (fun c0 c1 c2 c3 c4 c5 c6 c7 e0 e1 e2 v k => set3B e0 c4 e1 e2 v fun y => k ⟨c0, c1, c2, c3, y, c5, c6, c7⟩) n e0 e1 e2 v k)
    (fun n e0 e1 e2 v k => N8.rec (motive := fun _ => D8 → D8 → D8 → Option Blk → (N8 (N8 (N8 (N8 (Option Blk)))) → Out) → Out) (fun c0 c1 c2 c3 c4 c5 c6 c7 e0 e1 e2 v k => set3B e0 c5 e1 e2 v fun y => k ⟨c0, c1, c2, c3, c4, y, c6, c7⟩) n e0 e1 e2 v k)
    (fun n e0 e1 e2 v k => N8.rec (motive := fun _ => D8 → D8 → D8 → Option Blk → (N8 (N8 (N8 (N8 (Option Blk)))) → Out) → Out) (fun c0 c1 c2 c3 c4 c5 c6 c7 e0 e1 e2 v k => set3B e0 c6 e1 e2 v fun y => k ⟨c0, c1, c2, c3, c4, c5, y, c7⟩) n e0 e1 e2 v k)
    (fun n e0 e1 e2 v k => N8.rec (motive := fun _ => D8 → D8 → D8 → Option Blk → (N8 (N8 (N8 (N8 (Option Blk)))) → Out) → Out) (fun c0 c1 c2 c3 c4 c5 c6 c7 e0 e1 e2 v k => set3B e0 c7 e1 e2 v fun y => k ⟨c0, c1, c2, c3, c4, c5, c6, y⟩) n e0 e1 e2 v k) x

noncomputable def set5B (x : D8) : N8 (N8 (N8 (N8 (N8 (Option Blk))))) → D8 → D8 → D8 → D8 → Option Blk → (N8 (N8 (N8 (N8 (N8 (Option Blk))))) → Out) → Out :=
  D8.rec (motive := fun _ => N8 (N8 (N8 (N8 (N8 (Option Blk))))) → D8 → D8 → D8 → D8 → Option Blk → (N8 (N8 (N8 (N8 (N8 (Option Blk))))) → Out) → Out)
    (fun n e0 e1 e2 e3 v k => N8.rec (motive := fun _ => D8 → D8 → D8 → D8 → Option Blk → (N8 (N8 (N8 (N8 (N8 (Option Blk))))) → Out) → Out) (fun c0 c1 c2 c3 c4 c5 c6 c7 e0 e1 e2 e3 v k => set4B e0 c0 e1 e2 e3 v fun y => k ⟨y, c1, c2, c3, c4, c5, c6, c7⟩) n e0 e1 e2 e3 v k)
    (fun n e0 e1 e2 e3 v k => N8.rec (motive := fun _ => D8 → D8 → D8 → D8 → Option Blk → (N8 (N8 (N8 (N8 (N8 (Option Blk))))) → Out) → Out) (fun c0 c1 c2 c3 c4 c5 c6 c7 e0 e1 e2 e3 v k => set4B e0 c1 e1 e2 e3 v fun y => k ⟨c0, y, c2, c3, c4, c5, c6, c7⟩) n e0 e1 e2 e3 v k)
    (fun n e0 e1 e2 e3 v k => N8.rec (motive := fun _ => D8 → D8 → D8 → D8 → Option Blk → (N8 (N8 (N8 (N8 (N8 (Option Blk))))) → Out) → Out) (fun c0 c1 c2 c3 c4 c5 c6 c7 e0 e1 e2 e3 v k => set4B e0 c2 e1 e2 e3 v fun y => k ⟨c0, c1, y, c3, c4, c5, c6, c7⟩) n e0 e1 e2 e3 v k)
    (fun n e0 e1 e2 e3 v k => N8.rec (motive := fun _ => D8 → D8 → D8 → D8 → Option Blk → (N8 (N8 (N8 (N8 (N8 (Option Blk))))) → Out) → Out) (fun c0 c1 c2 c3 c4 c5 c6 c7 e0 e1 e2 e3 v k => set4B e0 c3 e1 e2 e3 v fun y => k ⟨c0, c1, c2, y, c4, c5, c6, c7⟩) n e0 e1 e2 e3 v k)
    (fun n e0 e1 e2 e3 v k => N8.rec (motive := fun _ => D8 → D8 → D8 → D8 → Option Blk → (N8 (N8 (N8 (N8 (N8 (Option Blk))))) → Out) → Out) (fun c0 c1 c2 c3 c4 c5 c6 c7 e0 e1 e2 e3 v k => set4B e0 c4 e1 e2 e3 v fun y => k ⟨c0, c1, c2, c3, y, c5, c6, c7⟩) n e0 e1 e2 e3 v k)
    (fun n e0 e1 e2 e3 v k => N8.rec (motive := fun _ => D8 → D8 → D8 → D8 → Option Blk → (N8 (N8 (N8 (N8 (N8 (Option Blk))))) → Out) → Out) (fun c0 c1 c2 c3 c4 c5 c6 c7 e0 e1 e2 e3 v k => set4B e0 c5 e1 e2 e3 v fun y => k ⟨c0, c1, c2, c3, c4, y, c6, c7⟩) n e0 e1 e2 e3 v k)
    (fun n e0 e1 e2 e3 v k => N8.rec (motive := fun _ => D8 → D8 → D8 → D8 → Option Blk → (N8 (N8 (N8 (N8 (N8 (Option Blk))))) → Out) → Out) (fun c0 c1 c2 c3 c4 c5 c6 c7 e0 e1 e2 e3 v k => set4B e0 c6 e1 e2 e3 v fun y => k ⟨c0, c1, c2, c3, c4, c5, y, c7⟩) n e0 e1 e2 e3 v k)
    (fun n e0 e1 e2 e3 v k => N8.rec (motive := fun _ => D8 → D8 → D8 → D8 → Option Blk → (N8 (N8 (N8 (N8 (N8 (Option Blk))))) → Out) → Out) (fun c0 c1 c2 c3 c4 c5 c6 c7 e0 e1 e2 e3 v k => set4B e0 c7 e1 e2 e3 v fun y => k ⟨c0, c1, c2, c3, c4, c5, c6, y⟩) n e0 e1 e2 e3 v k) x

noncomputable def set6B (x : D8) : N8 (N8 (N8 (N8 (N8 (N8 (Option Blk)))))) → D8 → D8 → D8 → D8 → D8 → Option Blk → (N8 (N8 (N8 (N8 (N8 (N8 (Option Blk)))))) → Out) → Out :=
  D8.rec (motive := fun _ => N8 (N8 (N8 (N8 (N8 (N8 (Option Blk)))))) → D8 → D8 → D8 → D8 → D8 → Option Blk → (N8 (N8 (N8 (N8 (N8 (N8 (Option Blk)))))) → Out) → Out)
    (fun n e0 e1 e2 e3 e4 v k => N8.rec (motive := fun _ => D8 → D8 → D8 → D8 → D8 → Option Blk → (N8 (N8 (N8 (N8 (N8 (N8 (Option Blk)))))) → Out) → Out) (fun c0 c1 c2 c3 c4 c5 c6 c7 e0 e1 e2 e3 e4 v k => set5B e0 c0 e1 e2 e3 e4 v fun y => k ⟨y, c1, c2, c3, c4, c5, c6, c7⟩) n e0 e1 e2 e3 e4 v k)
    (fun n e0 e1 e2 e3 e4 v k => N8.rec (motive := fun _ => D8 → D8 → D8 → D8 → D8 → Option Blk → (N8 (N8 (N8 (N8 (N8 (N8 (Option Blk)))))) → Out) → Out) (fun c0 c1 c2 c3 c4 c5 c6 c7 e0 e1 e2 e3 e4 v k => set5B e0 c1 e1 e2 e3 e4 v fun y => k ⟨c0, y, c2, c3, c4, c5, c6, c7⟩) n e0 e1 e2 e3 e4 v k)
    (fun n e0 e1 e2 e3 e4 v k => N8.rec (motive := fun _ => D8 → D8 → D8 → D8 → D8 → Option Blk → (N8 (N8 (N8 (N8 (N8 (N8 (Option Blk)))))) → Out) → Out) (fun c0 c1 c2 c3 c4 c5 c6 c7 e0 e1 e2 e3 e4 v k => set5B e0 c2 e1 e2 e3 e4 v fun y => k ⟨c0, c1, y, c3, c4, c5, c6, c7⟩) n e0 e1 e2 e3 e4 v k)
    (fun n e0 e1 e2 e3 e4 v k => N8.rec (motive := fun _ => D8 → D8 → D8 → D8 → D8 → Option Blk → (N8 (N8 (N8 (N8 (N8 (N8 (Option Blk)))))) → Out) → Out) (fun c0 c1 c2 c3 c4 c5 c6 c7 e0 e1 e2 e3 e4 v k => set5B e0 c3 e1 e2 e3 e4 v fun y => k ⟨c0, c1, c2, y, c4, c5, c6, c7⟩) n e0 e1 e2 e3 e4 v k)
    (fun n e0 e1 e2 e3 e4 v k => N8.rec (motive := fun _ => D8 → D8 → D8 → D8 → D8 → Option Blk → (N8 (N8 (N8 (N8 (N8 (N8 (Option Blk)))))) → Out) → Out) (fun c0 c1 c2 c3 c4 c5 c6 c7 e0 e1 e2 e3 e4 v k => set5B e0 c4 e1 e2 e3 e4 v fun y => k ⟨c0, c1, c2, c3, y, c5, c6, c7⟩) n e0 e1 e2 e3 e4 v k)
    (fun n e0 e1 e2 e3 e4 v k => N8.rec (motive := fun _ => D8 → D8 → D8 → D8 → D8 → Option Blk → (N8 (N8 (N8 (N8 (N8 (N8 (Option Blk)))))) → Out) → Out) (fun c0 c1 c2 c3 c4 c5 c6 c7 e0 e1 e2 e3 e4 v k => set5B e0 c5 e1 e2 e3 e4 v fun y => k ⟨c0, c1, c2, c3, c4, y, c6, c7⟩) n e0 e1 e2 e3 e4 v k)
    (fun n e0 e1 e2 e3 e4 v k => N8.rec (motive := fun _ => D8 → D8 → D8 → D8 → D8 → Option Blk → (N8 (N8 (N8 (N8 (N8 (N8 (Option Blk)))))) → Out) → Out) (fun c0 c1 c2 c3 c4 c5 c6 c7 e0 e1 e2 e3 e4 v k => set5B e0 c6 e1 e2 e3 e4 v fun y => k ⟨c0, c1, c2, c3, c4, c5, y, c7⟩) n e0 e1 e2 e3 e4 v k)
    (fun n e0 e1 e2 e3 e4 v k => N8.rec (motive := fun _ => D8 → D8 → D8 → D8 → D8 → Option Blk → (N8 (N8 (N8 (N8 (N8 (N8 (Option Blk)))))) → Out) → Out) (fun c0 c1 c2 c3 c4 c5 c6 c7 e0 e1 e2 e3 e4 v k => set5B e0 c7 e1 e2 e3 e4 v fun y => k ⟨c0, c1, c2, c3, c4, c5, c6, y⟩) n e0 e1 e2 e3 e4 v k) x

noncomputable def setB (x : Pos) : Option Blk → T Blk → (T Blk → Out) → Out :=
  Pos.rec (motive := fun _ => Option Blk → T Blk → (T Blk → Out) → Out)
    (fun x y v t k => T.rec (motive := fun _ => D8 → D8 → Option Blk → (T Blk → Out) → Out) (fun a b c s x y v k => set2B x a y v fun a => k ⟨a, b, c, s⟩) t x y v k)
    (fun x y z w v t k => T.rec (motive := fun _ => D8 → D8 → D8 → D8 → Option Blk → (T Blk → Out) → Out) (fun a b c s x y z w v k => set4B x b y z w v fun b => k ⟨a, b, c, s⟩) t x y z w v k)
    (fun x y z w u r v t k => T.rec (motive := fun _ => D8 → D8 → D8 → D8 → D8 → D8 → Option Blk → (T Blk → Out) → Out) (fun a b c s x y z w u r v k => set6B x c y z w u r v fun c => k ⟨a, b, c, s⟩) t x y z w u r v k)
    (fun q v t k => k ⟨t.a, t.b, t.c, t.s.set q v⟩) x

theorem get1B_eq (d : D8) (n : N8 (Option Blk)) : get1B d n = n.get d := by cases d <;> rfl

theorem get2B_eq (d : D8) (n : N8 (N8 (Option Blk))) : get2B d n = n.get d := by cases d <;> rfl

theorem get3B_eq (d : D8) (n : N8 (N8 (N8 (Option Blk)))) : get3B d n = n.get d := by cases d <;> rfl

theorem get4B_eq (d : D8) (n : N8 (N8 (N8 (N8 (Option Blk))))) : get4B d n = n.get d := by cases d <;> rfl

theorem get5B_eq (d : D8) (n : N8 (N8 (N8 (N8 (N8 (Option Blk)))))) : get5B d n = n.get d := by cases d <;> rfl

theorem get6B_eq (d : D8) (n : N8 (N8 (N8 (N8 (N8 (N8 (Option Blk))))))) : get6B d n = n.get d := by cases d <;> rfl

theorem getB_eq (p : Pos) (t : T Blk) : getB p t = T.get p t := by
  cases p <;> (try rfl)
  · show get1B _ (get2B _ _) = _
    rw [get1B_eq, get2B_eq]; rfl
  · show get1B _ (get2B _ (get3B _ (get4B _ _))) = _
    rw [get1B_eq, get2B_eq, get3B_eq, get4B_eq]; rfl
  · show get1B _ (get2B _ (get3B _ (get4B _ (get5B _ (get6B _ _))))) = _
    rw [get1B_eq, get2B_eq, get3B_eq, get4B_eq, get5B_eq, get6B_eq]; rfl

theorem set1B_eq (x : D8) (n : N8 (Option Blk)) (v : Option Blk) (k : N8 (Option Blk) → Out) : set1B x n  v k = k (n.set x v) := by
  obtain ⟨c0, c1, c2, c3, c4, c5, c6, c7⟩ := n
  cases x <;> rfl

theorem set2B_eq (x : D8) (n : N8 (N8 (Option Blk))) (e0 : D8) (v : Option Blk) (k : N8 (N8 (Option Blk)) → Out) : set2B x n e0 v k = k (set2 x e0 v n) := by
  obtain ⟨c0, c1, c2, c3, c4, c5, c6, c7⟩ := n
  cases x <;> exact set1B_eq e0 _  v _

theorem set3B_eq (x : D8) (n : N8 (N8 (N8 (Option Blk)))) (e0 e1 : D8) (v : Option Blk) (k : N8 (N8 (N8 (Option Blk))) → Out) : set3B x n e0 e1 v k = k (n.set x (set2 e0 e1 v (n.get x))) := by
  obtain ⟨c0, c1, c2, c3, c4, c5, c6, c7⟩ := n
  cases x <;> exact set2B_eq e0 _ e1 v _

theorem set4B_eq (x : D8) (n : N8 (N8 (N8 (N8 (Option Blk))))) (e0 e1 e2 : D8) (v : Option Blk) (k : N8 (N8 (N8 (N8 (Option Blk)))) → Out) : set4B x n e0 e1 e2 v k = k (set4 x e0 e1 e2 v n) := by
  obtain ⟨c0, c1, c2, c3, c4, c5, c6, c7⟩ := n
  cases x <;> exact set3B_eq e0 _ e1 e2 v _

theorem set5B_eq (x : D8) (n : N8 (N8 (N8 (N8 (N8 (Option Blk)))))) (e0 e1 e2 e3 : D8) (v : Option Blk) (k : N8 (N8 (N8 (N8 (N8 (Option Blk))))) → Out) : set5B x n e0 e1 e2 e3 v k = k (n.set x (set4 e0 e1 e2 e3 v (n.get x))) := by
  obtain ⟨c0, c1, c2, c3, c4, c5, c6, c7⟩ := n
  cases x <;> exact set4B_eq e0 _ e1 e2 e3 v _

theorem set6B_eq (x : D8) (n : N8 (N8 (N8 (N8 (N8 (N8 (Option Blk))))))) (e0 e1 e2 e3 e4 : D8) (v : Option Blk) (k : N8 (N8 (N8 (N8 (N8 (N8 (Option Blk)))))) → Out) : set6B x n e0 e1 e2 e3 e4 v k = k (set6 x e0 e1 e2 e3 e4 v n) := by
  obtain ⟨c0, c1, c2, c3, c4, c5, c6, c7⟩ := n
  cases x <;> exact set5B_eq e0 _ e1 e2 e3 e4 v _

theorem setB_eq (p : Pos) (v : Option Blk) (t : T Blk) (k : T Blk → Out) : setB p v t k = k (T.set p v t) := by
  obtain ⟨a, b, c, s⟩ := t
  cases p with
  | a x y => exact set2B_eq x a y v _
  | b x y z w => exact set4B_eq x b y z w v _
  | c x y z w u r => exact set6B_eq x c y z w u r v _
  | s q => rfl

noncomputable def set1R (x : D8) : N8 (Option Blk) → Option Blk → (N8 (Option Blk) → Res) → Res :=
  D8.rec (motive := fun _ => N8 (Option Blk) → Option Blk → (N8 (Option Blk) → Res) → Res)
    (fun n v k => N8.rec (motive := fun _ => Option Blk → (N8 (Option Blk) → Res) → Res) (fun _ c1 c2 c3 c4 c5 c6 c7 v k => k ⟨v, c1, c2, c3, c4, c5, c6, c7⟩) n  v k)
    (fun n v k => N8.rec (motive := fun _ => Option Blk → (N8 (Option Blk) → Res) → Res) (fun c0 _ c2 c3 c4 c5 c6 c7 v k => k ⟨c0, v, c2, c3, c4, c5, c6, c7⟩) n  v k)
    (fun n v k => N8.rec (motive := fun _ => Option Blk → (N8 (Option Blk) → Res) → Res) (fun c0 c1 _ c3 c4 c5 c6 c7 v k => k ⟨c0, c1, v, c3, c4, c5, c6, c7⟩) n  v k)
    (fun n v k => N8.rec (motive := fun _ => Option Blk → (N8 (Option Blk) → Res) → Res) (fun c0 c1 c2 _ c4 c5 c6 c7 v k => k ⟨c0, c1, c2, v, c4, c5, c6, c7⟩) n  v k)
    (fun n v k => N8.rec (motive := fun _ => Option Blk → (N8 (Option Blk) → Res) → Res) (fun c0 c1 c2 c3 _ c5 c6 c7 v k => k ⟨c0, c1, c2, c3, v, c5, c6, c7⟩) n  v k)
    (fun n v k => N8.rec (motive := fun _ => Option Blk → (N8 (Option Blk) → Res) → Res) (fun c0 c1 c2 c3 c4 _ c6 c7 v k => k ⟨c0, c1, c2, c3, c4, v, c6, c7⟩) n  v k)
    (fun n v k => N8.rec (motive := fun _ => Option Blk → (N8 (Option Blk) → Res) → Res) (fun c0 c1 c2 c3 c4 c5 _ c7 v k => k ⟨c0, c1, c2, c3, c4, c5, v, c7⟩) n  v k)
    (fun n v k => N8.rec (motive := fun _ => Option Blk → (N8 (Option Blk) → Res) → Res) (fun c0 c1 c2 c3 c4 c5 c6 _ v k => k ⟨c0, c1, c2, c3, c4, c5, c6, v⟩) n  v k) x

noncomputable def set2R (x : D8) : N8 (N8 (Option Blk)) → D8 → Option Blk → (N8 (N8 (Option Blk)) → Res) → Res :=
  D8.rec (motive := fun _ => N8 (N8 (Option Blk)) → D8 → Option Blk → (N8 (N8 (Option Blk)) → Res) → Res)
    (fun n e0 v k => N8.rec (motive := fun _ => D8 → Option Blk → (N8 (N8 (Option Blk)) → Res) → Res) (fun c0 c1 c2 c3 c4 c5 c6 c7 e0 v k => set1R e0 c0  v fun y => k ⟨y, c1, c2, c3, c4, c5, c6, c7⟩) n e0 v k)
    (fun n e0 v k => N8.rec (motive := fun _ => D8 → Option Blk → (N8 (N8 (Option Blk)) → Res) → Res) (fun c0 c1 c2 c3 c4 c5 c6 c7 e0 v k => set1R e0 c1  v fun y => k ⟨c0, y, c2, c3, c4, c5, c6, c7⟩) n e0 v k)
    (fun n e0 v k => N8.rec (motive := fun _ => D8 → Option Blk → (N8 (N8 (Option Blk)) → Res) → Res) (fun c0 c1 c2 c3 c4 c5 c6 c7 e0 v k => set1R e0 c2  v fun y => k ⟨c0, c1, y, c3, c4, c5, c6, c7⟩) n e0 v k)
    (fun n e0 v k => N8.rec (motive := fun _ => D8 → Option Blk → (N8 (N8 (Option Blk)) → Res) → Res) (fun c0 c1 c2 c3 c4 c5 c6 c7 e0 v k => set1R e0 c3  v fun y => k ⟨c0, c1, c2, y, c4, c5, c6, c7⟩) n e0 v k)
    (fun n e0 v k => N8.rec (motive := fun _ => D8 → Option Blk → (N8 (N8 (Option Blk)) → Res) → Res) (fun c0 c1 c2 c3 c4 c5 c6 c7 e0 v k => set1R e0 c4  v fun y => k ⟨c0, c1, c2, c3, y, c5, c6, c7⟩) n e0 v k)
    (fun n e0 v k => N8.rec (motive := fun _ => D8 → Option Blk → (N8 (N8 (Option Blk)) → Res) → Res) (fun c0 c1 c2 c3 c4 c5 c6 c7 e0 v k => set1R e0 c5  v fun y => k ⟨c0, c1, c2, c3, c4, y, c6, c7⟩) n e0 v k)
    (fun n e0 v k => N8.rec (motive := fun _ => D8 → Option Blk → (N8 (N8 (Option Blk)) → Res) → Res) (fun c0 c1 c2 c3 c4 c5 c6 c7 e0 v k => set1R e0 c6  v fun y => k ⟨c0, c1, c2, c3, c4, c5, y, c7⟩) n e0 v k)
    (fun n e0 v k => N8.rec (motive := fun _ => D8 → Option Blk → (N8 (N8 (Option Blk)) → Res) → Res) (fun c0 c1 c2 c3 c4 c5 c6 c7 e0 v k => set1R e0 c7  v fun y => k ⟨c0, c1, c2, c3, c4, c5, c6, y⟩) n e0 v k) x

noncomputable def set3R (x : D8) : N8 (N8 (N8 (Option Blk))) → D8 → D8 → Option Blk → (N8 (N8 (N8 (Option Blk))) → Res) → Res :=
  D8.rec (motive := fun _ => N8 (N8 (N8 (Option Blk))) → D8 → D8 → Option Blk → (N8 (N8 (N8 (Option Blk))) → Res) → Res)
    (fun n e0 e1 v k => N8.rec (motive := fun _ => D8 → D8 → Option Blk → (N8 (N8 (N8 (Option Blk))) → Res) → Res) (fun c0 c1 c2 c3 c4 c5 c6 c7 e0 e1 v k => set2R e0 c0 e1 v fun y => k ⟨y, c1, c2, c3, c4, c5, c6, c7⟩) n e0 e1 v k)
    (fun n e0 e1 v k => N8.rec (motive := fun _ => D8 → D8 → Option Blk → (N8 (N8 (N8 (Option Blk))) → Res) → Res) (fun c0 c1 c2 c3 c4 c5 c6 c7 e0 e1 v k => set2R e0 c1 e1 v fun y => k ⟨c0, y, c2, c3, c4, c5, c6, c7⟩) n e0 e1 v k)
    (fun n e0 e1 v k => N8.rec (motive := fun _ => D8 → D8 → Option Blk → (N8 (N8 (N8 (Option Blk))) → Res) → Res) (fun c0 c1 c2 c3 c4 c5 c6 c7 e0 e1 v k => set2R e0 c2 e1 v fun y => k ⟨c0, c1, y, c3, c4, c5, c6, c7⟩) n e0 e1 v k)
    (fun n e0 e1 v k => N8.rec (motive := fun _ => D8 → D8 → Option Blk → (N8 (N8 (N8 (Option Blk))) → Res) → Res) (fun c0 c1 c2 c3 c4 c5 c6 c7 e0 e1 v k => set2R e0 c3 e1 v fun y => k ⟨c0, c1, c2, y, c4, c5, c6, c7⟩) n e0 e1 v k)
    (fun n e0 e1 v k => N8.rec (motive := fun _ => D8 → D8 → Option Blk → (N8 (N8 (N8 (Option Blk))) → Res) → Res) (fun c0 c1 c2 c3 c4 c5 c6 c7 e0 e1 v k => set2R e0 c4 e1 v fun y => k ⟨c0, c1, c2, c3, y, c5, c6, c7⟩) n e0 e1 v k)
    (fun n e0 e1 v k => N8.rec (motive := fun _ => D8 → D8 → Option Blk → (N8 (N8 (N8 (Option Blk))) → Res) → Res) (fun c0 c1 c2 c3 c4 c5 c6 c7 e0 e1 v k => set2R e0 c5 e1 v fun y => k ⟨c0, c1, c2, c3, c4, y, c6, c7⟩) n e0 e1 v k)
    (fun n e0 e1 v k => N8.rec (motive := fun _ => D8 → D8 → Option Blk → (N8 (N8 (N8 (Option Blk))) → Res) → Res) (fun c0 c1 c2 c3 c4 c5 c6 c7 e0 e1 v k => set2R e0 c6 e1 v fun y => k ⟨c0, c1, c2, c3, c4, c5, y, c7⟩) n e0 e1 v k)
    (fun n e0 e1 v k => N8.rec (motive := fun _ => D8 → D8 → Option Blk → (N8 (N8 (N8 (Option Blk))) → Res) → Res) (fun c0 c1 c2 c3 c4 c5 c6 c7 e0 e1 v k => set2R e0 c7 e1 v fun y => k ⟨c0, c1, c2, c3, c4, c5, c6, y⟩) n e0 e1 v k) x

noncomputable def set4R (x : D8) : N8 (N8 (N8 (N8 (Option Blk)))) → D8 → D8 → D8 → Option Blk → (N8 (N8 (N8 (N8 (Option Blk)))) → Res) → Res :=
  D8.rec (motive := fun _ => N8 (N8 (N8 (N8 (Option Blk)))) → D8 → D8 → D8 → Option Blk → (N8 (N8 (N8 (N8 (Option Blk)))) → Res) → Res)
    (fun n e0 e1 e2 v k => N8.rec (motive := fun _ => D8 → D8 → D8 → Option Blk → (N8 (N8 (N8 (N8 (Option Blk)))) → Res) → Res) (fun c0 c1 c2 c3 c4 c5 c6 c7 e0 e1 e2 v k => set3R e0 c0 e1 e2 v fun y => k ⟨y, c1, c2, c3, c4, c5, c6, c7⟩) n e0 e1 e2 v k)
    (fun n e0 e1 e2 v k => N8.rec (motive := fun _ => D8 → D8 → D8 → Option Blk → (N8 (N8 (N8 (N8 (Option Blk)))) → Res) → Res) (fun c0 c1 c2 c3 c4 c5 c6 c7 e0 e1 e2 v k => set3R e0 c1 e1 e2 v fun y => k ⟨c0, y, c2, c3, c4, c5, c6, c7⟩) n e0 e1 e2 v k)
    (fun n e0 e1 e2 v k => N8.rec (motive := fun _ => D8 → D8 → D8 → Option Blk → (N8 (N8 (N8 (N8 (Option Blk)))) → Res) → Res) (fun c0 c1 c2 c3 c4 c5 c6 c7 e0 e1 e2 v k => set3R e0 c2 e1 e2 v fun y => k ⟨c0, c1, y, c3, c4, c5, c6, c7⟩) n e0 e1 e2 v k)
    (fun n e0 e1 e2 v k => N8.rec (motive := fun _ => D8 → D8 → D8 → Option Blk → (N8 (N8 (N8 (N8 (Option Blk)))) → Res) → Res) (fun c0 c1 c2 c3 c4 c5 c6 c7 e0 e1 e2 v k => set3R e0 c3 e1 e2 v fun y => k ⟨c0, c1, c2, y, c4, c5, c6, c7⟩) n e0 e1 e2 v k)
    (fun n e0 e1 e2 v k => N8.rec (motive := fun _ => D8 → D8 → D8 → Option Blk → (N8 (N8 (N8 (N8 (Option Blk)))) → Res) → Res) (fun c0 c1 c2 c3 c4 c5 c6 c7 e0 e1 e2 v k => set3R e0 c4 e1 e2 v fun y => k ⟨c0, c1, c2, c3, y, c5, c6, c7⟩) n e0 e1 e2 v k)
    (fun n e0 e1 e2 v k => N8.rec (motive := fun _ => D8 → D8 → D8 → Option Blk → (N8 (N8 (N8 (N8 (Option Blk)))) → Res) → Res) (fun c0 c1 c2 c3 c4 c5 c6 c7 e0 e1 e2 v k => set3R e0 c5 e1 e2 v fun y => k ⟨c0, c1, c2, c3, c4, y, c6, c7⟩) n e0 e1 e2 v k)
    (fun n e0 e1 e2 v k => N8.rec (motive := fun _ => D8 → D8 → D8 → Option Blk → (N8 (N8 (N8 (N8 (Option Blk)))) → Res) → Res) (fun c0 c1 c2 c3 c4 c5 c6 c7 e0 e1 e2 v k => set3R e0 c6 e1 e2 v fun y => k ⟨c0, c1, c2, c3, c4, c5, y, c7⟩) n e0 e1 e2 v k)
    (fun n e0 e1 e2 v k => N8.rec (motive := fun _ => D8 → D8 → D8 → Option Blk → (N8 (N8 (N8 (N8 (Option Blk)))) → Res) → Res) (fun c0 c1 c2 c3 c4 c5 c6 c7 e0 e1 e2 v k => set3R e0 c7 e1 e2 v fun y => k ⟨c0, c1, c2, c3, c4, c5, c6, y⟩) n e0 e1 e2 v k) x

noncomputable def set5R (x : D8) : N8 (N8 (N8 (N8 (N8 (Option Blk))))) → D8 → D8 → D8 → D8 → Option Blk → (N8 (N8 (N8 (N8 (N8 (Option Blk))))) → Res) → Res :=
  D8.rec (motive := fun _ => N8 (N8 (N8 (N8 (N8 (Option Blk))))) → D8 → D8 → D8 → D8 → Option Blk → (N8 (N8 (N8 (N8 (N8 (Option Blk))))) → Res) → Res)
    (fun n e0 e1 e2 e3 v k => N8.rec (motive := fun _ => D8 → D8 → D8 → D8 → Option Blk → (N8 (N8 (N8 (N8 (N8 (Option Blk))))) → Res) → Res) (fun c0 c1 c2 c3 c4 c5 c6 c7 e0 e1 e2 e3 v k => set4R e0 c0 e1 e2 e3 v fun y => k ⟨y, c1, c2, c3, c4, c5, c6, c7⟩) n e0 e1 e2 e3 v k)
    (fun n e0 e1 e2 e3 v k => N8.rec (motive := fun _ => D8 → D8 → D8 → D8 → Option Blk → (N8 (N8 (N8 (N8 (N8 (Option Blk))))) → Res) → Res) (fun c0 c1 c2 c3 c4 c5 c6 c7 e0 e1 e2 e3 v k => set4R e0 c1 e1 e2 e3 v fun y => k ⟨c0, y, c2, c3, c4, c5, c6, c7⟩) n e0 e1 e2 e3 v k)
    (fun n e0 e1 e2 e3 v k => N8.rec (motive := fun _ => D8 → D8 → D8 → D8 → Option Blk → (N8 (N8 (N8 (N8 (N8 (Option Blk))))) → Res) → Res) (fun c0 c1 c2 c3 c4 c5 c6 c7 e0 e1 e2 e3 v k => set4R e0 c2 e1 e2 e3 v fun y => k ⟨c0, c1, y, c3, c4, c5, c6, c7⟩) n e0 e1 e2 e3 v k)
    (fun n e0 e1 e2 e3 v k => N8.rec (motive := fun _ => D8 → D8 → D8 → D8 → Option Blk → (N8 (N8 (N8 (N8 (N8 (Option Blk))))) → Res) → Res) (fun c0 c1 c2 c3 c4 c5 c6 c7 e0 e1 e2 e3 v k => set4R e0 c3 e1 e2 e3 v fun y => k ⟨c0, c1, c2, y, c4, c5, c6, c7⟩) n e0 e1 e2 e3 v k)
    (fun n e0 e1 e2 e3 v k => N8.rec (motive := fun _ => D8 → D8 → D8 → D8 → Option Blk → (N8 (N8 (N8 (N8 (N8 (Option Blk))))) → Res) → Res) (fun c0 c1 c2 c3 c4 c5 c6 c7 e0 e1 e2 e3 v k => set4R e0 c4 e1 e2 e3 v fun y => k ⟨c0, c1, c2, c3, y, c5, c6, c7⟩) n e0 e1 e2 e3 v k)
    (fun n e0 e1 e2 e3 v k => N8.rec (motive := fun _ => D8 → D8 → D8 → D8 → Option Blk → (N8 (N8 (N8 (N8 (N8 (Option Blk))))) → Res) → Res) (fun c0 c1 c2 c3 c4 c5 c6 c7 e0 e1 e2 e3 v k => set4R e0 c5 e1 e2 e3 v fun y => k ⟨c0, c1, c2, c3, c4, y, c6, c7⟩) n e0 e1 e2 e3 v k)
    (fun n e0 e1 e2 e3 v k => N8.rec (motive := fun _ => D8 → D8 → D8 → D8 → Option Blk → (N8 (N8 (N8 (N8 (N8 (Option Blk))))) → Res) → Res) (fun c0 c1 c2 c3 c4 c5 c6 c7 e0 e1 e2 e3 v k => set4R e0 c6 e1 e2 e3 v fun y => k ⟨c0, c1, c2, c3, c4, c5, y, c7⟩) n e0 e1 e2 e3 v k)
    (fun n e0 e1 e2 e3 v k => N8.rec (motive := fun _ => D8 → D8 → D8 → D8 → Option Blk → (N8 (N8 (N8 (N8 (N8 (Option Blk))))) → Res) → Res) (fun c0 c1 c2 c3 c4 c5 c6 c7 e0 e1 e2 e3 v k => set4R e0 c7 e1 e2 e3 v fun y => k ⟨c0, c1, c2, c3, c4, c5, c6, y⟩) n e0 e1 e2 e3 v k) x

noncomputable def set6R (x : D8) : N8 (N8 (N8 (N8 (N8 (N8 (Option Blk)))))) → D8 → D8 → D8 → D8 → D8 → Option Blk → (N8 (N8 (N8 (N8 (N8 (N8 (Option Blk)))))) → Res) → Res :=
  D8.rec (motive := fun _ => N8 (N8 (N8 (N8 (N8 (N8 (Option Blk)))))) → D8 → D8 → D8 → D8 → D8 → Option Blk → (N8 (N8 (N8 (N8 (N8 (N8 (Option Blk)))))) → Res) → Res)
    (fun n e0 e1 e2 e3 e4 v k => N8.rec (motive := fun _ => D8 → D8 → D8 → D8 → D8 → Option Blk → (N8 (N8 (N8 (N8 (N8 (N8 (Option Blk)))))) → Res) → Res) (fun c0 c1 c2 c3 c4 c5 c6 c7 e0 e1 e2 e3 e4 v k => set5R e0 c0 e1 e2 e3 e4 v fun y => k ⟨y, c1, c2, c3, c4, c5, c6, c7⟩) n e0 e1 e2 e3 e4 v k)
    (fun n e0 e1 e2 e3 e4 v k => N8.rec (motive := fun _ => D8 → D8 → D8 → D8 → D8 → Option Blk → (N8 (N8 (N8 (N8 (N8 (N8 (Option Blk)))))) → Res) → Res) (fun c0 c1 c2 c3 c4 c5 c6 c7 e0 e1 e2 e3 e4 v k => set5R e0 c1 e1 e2 e3 e4 v fun y => k ⟨c0, y, c2, c3, c4, c5, c6, c7⟩) n e0 e1 e2 e3 e4 v k)
    (fun n e0 e1 e2 e3 e4 v k => N8.rec (motive := fun _ => D8 → D8 → D8 → D8 → D8 → Option Blk → (N8 (N8 (N8 (N8 (N8 (N8 (Option Blk)))))) → Res) → Res) (fun c0 c1 c2 c3 c4 c5 c6 c7 e0 e1 e2 e3 e4 v k => set5R e0 c2 e1 e2 e3 e4 v fun y => k ⟨c0, c1, y, c3, c4, c5, c6, c7⟩) n e0 e1 e2 e3 e4 v k)
    (fun n e0 e1 e2 e3 e4 v k => N8.rec (motive := fun _ => D8 → D8 → D8 → D8 → D8 → Option Blk → (N8 (N8 (N8 (N8 (N8 (N8 (Option Blk)))))) → Res) → Res) (fun c0 c1 c2 c3 c4 c5 c6 c7 e0 e1 e2 e3 e4 v k => set5R e0 c3 e1 e2 e3 e4 v fun y => k ⟨c0, c1, c2, y, c4, c5, c6, c7⟩) n e0 e1 e2 e3 e4 v k)
    (fun n e0 e1 e2 e3 e4 v k => N8.rec (motive := fun _ => D8 → D8 → D8 → D8 → D8 → Option Blk → (N8 (N8 (N8 (N8 (N8 (N8 (Option Blk)))))) → Res) → Res) (fun c0 c1 c2 c3 c4 c5 c6 c7 e0 e1 e2 e3 e4 v k => set5R e0 c4 e1 e2 e3 e4 v fun y => k ⟨c0, c1, c2, c3, y, c5, c6, c7⟩) n e0 e1 e2 e3 e4 v k)
    (fun n e0 e1 e2 e3 e4 v k => N8.rec (motive := fun _ => D8 → D8 → D8 → D8 → D8 → Option Blk → (N8 (N8 (N8 (N8 (N8 (N8 (Option Blk)))))) → Res) → Res) (fun c0 c1 c2 c3 c4 c5 c6 c7 e0 e1 e2 e3 e4 v k => set5R e0 c5 e1 e2 e3 e4 v fun y => k ⟨c0, c1, c2, c3, c4, y, c6, c7⟩) n e0 e1 e2 e3 e4 v k)
    (fun n e0 e1 e2 e3 e4 v k => N8.rec (motive := fun _ => D8 → D8 → D8 → D8 → D8 → Option Blk → (N8 (N8 (N8 (N8 (N8 (N8 (Option Blk)))))) → Res) → Res) (fun c0 c1 c2 c3 c4 c5 c6 c7 e0 e1 e2 e3 e4 v k => set5R e0 c6 e1 e2 e3 e4 v fun y => k ⟨c0, c1, c2, c3, c4, c5, y, c7⟩) n e0 e1 e2 e3 e4 v k)
    (fun n e0 e1 e2 e3 e4 v k => N8.rec (motive := fun _ => D8 → D8 → D8 → D8 → D8 → Option Blk → (N8 (N8 (N8 (N8 (N8 (N8 (Option Blk)))))) → Res) → Res) (fun c0 c1 c2 c3 c4 c5 c6 c7 e0 e1 e2 e3 e4 v k => set5R e0 c7 e1 e2 e3 e4 v fun y => k ⟨c0, c1, c2, c3, c4, c5, c6, y⟩) n e0 e1 e2 e3 e4 v k) x

noncomputable def setR (x : Pos) : Option Blk → T Blk → (T Blk → Res) → Res :=
  Pos.rec (motive := fun _ => Option Blk → T Blk → (T Blk → Res) → Res)
    (fun x y v t k => T.rec (motive := fun _ => D8 → D8 → Option Blk → (T Blk → Res) → Res) (fun a b c s x y v k => set2R x a y v fun a => k ⟨a, b, c, s⟩) t x y v k)
    (fun x y z w v t k => T.rec (motive := fun _ => D8 → D8 → D8 → D8 → Option Blk → (T Blk → Res) → Res) (fun a b c s x y z w v k => set4R x b y z w v fun b => k ⟨a, b, c, s⟩) t x y z w v k)
    (fun x y z w u r v t k => T.rec (motive := fun _ => D8 → D8 → D8 → D8 → D8 → D8 → Option Blk → (T Blk → Res) → Res) (fun a b c s x y z w u r v k => set6R x c y z w u r v fun c => k ⟨a, b, c, s⟩) t x y z w u r v k)
    (fun q v t k => k ⟨t.a, t.b, t.c, t.s.set q v⟩) x

theorem set1R_eq (x : D8) (n : N8 (Option Blk)) (v : Option Blk) (k : N8 (Option Blk) → Res) : set1R x n  v k = k (n.set x v) := by
  obtain ⟨c0, c1, c2, c3, c4, c5, c6, c7⟩ := n
  cases x <;> rfl

theorem set2R_eq (x : D8) (n : N8 (N8 (Option Blk))) (e0 : D8) (v : Option Blk) (k : N8 (N8 (Option Blk)) → Res) : set2R x n e0 v k = k (set2 x e0 v n) := by
  obtain ⟨c0, c1, c2, c3, c4, c5, c6, c7⟩ := n
  cases x <;> exact set1R_eq e0 _  v _

theorem set3R_eq (x : D8) (n : N8 (N8 (N8 (Option Blk)))) (e0 e1 : D8) (v : Option Blk) (k : N8 (N8 (N8 (Option Blk))) → Res) : set3R x n e0 e1 v k = k (n.set x (set2 e0 e1 v (n.get x))) := by
  obtain ⟨c0, c1, c2, c3, c4, c5, c6, c7⟩ := n
  cases x <;> exact set2R_eq e0 _ e1 v _

theorem set4R_eq (x : D8) (n : N8 (N8 (N8 (N8 (Option Blk))))) (e0 e1 e2 : D8) (v : Option Blk) (k : N8 (N8 (N8 (N8 (Option Blk)))) → Res) : set4R x n e0 e1 e2 v k = k (set4 x e0 e1 e2 v n) := by
  obtain ⟨c0, c1, c2, c3, c4, c5, c6, c7⟩ := n
  cases x <;> exact set3R_eq e0 _ e1 e2 v _

theorem set5R_eq (x : D8) (n : N8 (N8 (N8 (N8 (N8 (Option Blk)))))) (e0 e1 e2 e3 : D8) (v : Option Blk) (k : N8 (N8 (N8 (N8 (N8 (Option Blk))))) → Res) : set5R x n e0 e1 e2 e3 v k = k (n.set x (set4 e0 e1 e2 e3 v (n.get x))) := by
  obtain ⟨c0, c1, c2, c3, c4, c5, c6, c7⟩ := n
  cases x <;> exact set4R_eq e0 _ e1 e2 e3 v _

theorem set6R_eq (x : D8) (n : N8 (N8 (N8 (N8 (N8 (N8 (Option Blk))))))) (e0 e1 e2 e3 e4 : D8) (v : Option Blk) (k : N8 (N8 (N8 (N8 (N8 (N8 (Option Blk)))))) → Res) : set6R x n e0 e1 e2 e3 e4 v k = k (set6 x e0 e1 e2 e3 e4 v n) := by
  obtain ⟨c0, c1, c2, c3, c4, c5, c6, c7⟩ := n
  cases x <;> exact set5R_eq e0 _ e1 e2 e3 e4 v _

theorem setR_eq (p : Pos) (v : Option Blk) (t : T Blk) (k : T Blk → Res) : setR p v t k = k (T.set p v t) := by
  obtain ⟨a, b, c, s⟩ := t
  cases p with
  | a x y => exact set2R_eq x a y v _
  | b x y z w => exact set4R_eq x b y z w v _
  | c x y z w u r => exact set6R_eq x c y z w u r v _
  | s q => rfl

noncomputable def unO (x : Option AV) : AV :=
  Option.rec (motive := fun _ => AV)
    (AV.undef)
    (fun v => v) x

noncomputable def evM (x : Opd) : T AV → AV :=
  Opd.rec (motive := fun _ => T AV → AV)
    (fun p env => unO (getV p env))
    (fun v _ => v) x

noncomputable def evE (env : T AV) (x : Opd) : AV := evM x env

theorem unO_get (env : T AV) (p : Pos) : unO (getV p env) = ev env (.tmp p) := by
  rw [getV_eq]
  show unO _ = (match T.get p env with | some v => v | none => .undef)
  cases T.get p env <;> rfl

theorem evM_eq (x : Opd) (env : T AV) : evM x env = ev env x := by
  cases x with
  | tmp p => exact unO_get env p
  | val v => rfl

theorem evE_eq (env : T AV) : evE env = ev env := funext fun x => evM_eq x env

end Go.Proofs.YtpbhlpajhdlemaaGreatDoor.Am
