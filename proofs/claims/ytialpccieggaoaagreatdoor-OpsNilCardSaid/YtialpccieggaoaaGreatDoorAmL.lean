import Derived.Below
import Derived.ProofKit
import Derived.Test.YtialpccieggaoaaGreatDoorAmK
/- THE ABSTRACT MACHINE, part L: a machine over values without block numbers, run by the kernel, and the proof that the model's machine does what it does. No condition. -/
set_option linter.unusedSimpArgs false
set_option linter.unusedVariables false
namespace Go.Proofs.YtialpccieggaoaaGreatDoor.Am

section
variable {P : Program} {φ : Phi} {h : Hp} {w : World} {fr : Fr} {callers : List Fr} {g : Frame} {cs c0 : List Frame}

/-- A value handed to an operation of a region. -/
theorem give_ops {fn : FuncId} {env : T AV} {o : O} {rest : List O} {k : List Item} {defers : List AD} {dk : Bool} {round : Option Pos} {v : AV} {x : Value}
    (hF : FrR P φ ⟨fn, env, .ops (o :: rest) :: k, defers, .run, dk, round⟩ g) (hv : Rel φ v x) (hok : o.ok = true) : FrR P φ ⟨fn, setD env o.dst v, .ops rest :: k, defers, .run, dk, round⟩ (g.finish x) := by
  have e : give ⟨fn, env, .ops (o :: rest) :: k, defers, .run, dk, round⟩ v (fun c => Out.next ⟨c, [], ⟨.e, Pos.first, 0, 0⟩⟩) = Out.next ⟨⟨fn, setD env o.dst v, .ops rest :: k, defers, .run, dk, round⟩, [], ⟨.e, Pos.first, 0, 0⟩⟩ := by
    unfold give
    simp only [hok, cond_true]
    cases hd : o.dst with
    | none => rfl
    | some d => simp only [T.setK_eq, setD]
  rcases give_run (fun c => Out.next ⟨c, [], ⟨.e, Pos.first, 0, 0⟩⟩) hF hv with ⟨why, q⟩ | ⟨fr', q, q1, _⟩
  · rw [e] at q; cases q
  · rw [e] at q
    simp only [Out.next.injEq, St.mk.injEq, and_true] at q
    rw [q]; exact q1

/-- What the model's machine does at an operation of a region. -/
theorem op_steps {ops : Array Oper} {i : Nat} {idx : List Nat} {r : List Go.Item} {o : Oper} (hm : g.mode = .run) (hg : g.todo = .inRegion ops (i :: idx) :: r) (hoi : ops[i]? = some o)
    (hw : Region.wanted o (yielded ops g.tmps) = true) (hnd : ∀ c, o.op ≠ .defer c) :
    (∀ nx x w', NV nx x → (execOp (Act.mk g.tmps g.defers).eval o).run P w = .ok nx w' → ∀ cs0, Go.step P (lone g cs0 w) = .next (lone (g.finish x) cs0 w')) ∧
    (∀ f xs, (execOp (Act.mk g.tmps g.defers).eval o).run P w = .ok (.enter f xs) w → ∀ cs0, Go.step P (lone g cs0 w) = .next (lone (Frame.enter P f xs .normal) (g :: cs0) w)) ∧
    (∀ b f tmps assign body, (execOp (Act.mk g.tmps g.defers).eval o).run P w = .ok (.round b f tmps assign body) w → ∀ cs0, Go.step P (lone g cs0 w) = .next (lone (Frame.round b f tmps assign body .normal) (g :: cs0) w)) := by
  have hst : ∀ cs0, stepG P true { frame := g, callers := cs0, status := .running, dying := none } w = stepG.apply P true g cs0 none (execOp (Act.mk g.tmps g.defers).eval o) w := by
    intro cs0
    have e := frame_run hm
    rw [hg] at e
    rw [e]
    have q := stepGR_op (P := P) (b := g) (a := ⟨g.tmps, g.defers⟩) (k := r) (cs := cs0) (w := w) (rest := idx) hoi hw
    rw [Oper.semAt_eq _ _ _ hnd] at q
    exact q
  refine ⟨fun nx x w' hn he cs0 => ?_, fun f xs he cs0 => ?_, fun b f tmps assign body he cs0 => ?_⟩
  · refine step_lone_go ?_
    rw [hst]
    rcases hn with rfl | ⟨rfl, rfl⟩
    · simp [stepG.apply, Sem.runT_eq, he, GStep.bare_after]
    · simp [stepG.apply, Sem.runT_eq, he, GStep.bare_after]
  · refine step_lone_go ?_
    rw [hst]
    simp [stepG.apply, Sem.runT_eq, he, GStep.bare_after, hg]
  · refine step_lone_go ?_
    rw [hst]
    simp [stepG.apply, Sem.runT_eq, he, GStep.bare_after]
end

section
variable {P : Program} {rec : St → Out} {ops : Array Oper} {S : Nat → DS} {v : Nat → AV} {fn : FuncId} {k : List Item} {defers : List AD} {dk : Bool} {round : Option Pos}
variable {h0 : Hp} {w0 : World} {φ0 : Phi} {env0 : T AV}

/-- What an actor sees is there. -/
theorem Inv.seen {L : List O} (t : Tr P rec L S v) {D : List Nat} {φ : Phi} {w : World} {env : T AV} {i : Nat} {c : O} (I : Inv P L S v h0 w0 φ0 env0 D i φ w env) (e : L[i]? = some c) (hb : ∀ k, c.before.testBit k = true → k ∈ D) :
    ∀ id b, T.get id (insT c.before (S i).als (S i).h.heap) = some b → FD P L S v D i id = some b := by
  intro id b q
  have hals := t.als i I.hx
  by_cases hp : ∃ al ∈ (S i).als, c.before.testBit al.i = true ∧ al.id = id
  · obtain ⟨al, q1, q2, q3⟩ := hp
    obtain ⟨r1, r2, r3⟩ := (hals al).1 q1
    subst q3
    rw [putT_mem (b := al.b) (fun al' ha _ he => ?_) (.inl ⟨al, q1, q2, rfl⟩)] at q
    · cases q
      exact FD_pend t ⟨al.i, hb _ q2, r2, r3⟩
    · have := ((hals al').1 ha).2.1
      rw [he] at this
      exact (IsAl.same t this r2).2
  · rw [putT_other fun al ha hbit he => hp ⟨al, ha, hbit, he⟩] at q
    exact I.sub id b q

/-- The frame within the region. -/
noncomputable def inReg (P : Program) (ops : Array Oper) (fn : FuncId) (k : List Item) (defers : List AD) (dk : Bool) (round : Option Pos) (env : T AV) (idx : List Nat) : Fr :=
  ⟨fn, env, .ops (idx.map fun i => compOper P (numT P fn) ops 0 (ops.getD i default)) :: k, defers, .run, dk, round⟩

theorem finish_todo {g : Frame} {i : Nat} {idx : List Nat} {r : List Go.Item} (hg : g.todo = .inRegion ops (i :: idx) :: r) (x : Value) : (g.finish x).todo = .inRegion ops idx :: r := by
  simp only [Frame.finish, hg]

theorem draw_op {L : List O} (hrec : Sound P rec) (t : Tr P rec L S v) (h0n : h0.next.num ≤ (S 0).rid.num) (h0u : ∀ id g r, φ0 id g = some r → id.num < h0.next.num) (he0 : env0 = (S 0).env)
    {D : List Nat} {x : Nat} {φ : Phi} {w : World} {env : T AV} {g : Frame} (I : Inv P L S v h0 w0 φ0 env0 D x φ w env) {i : Nat} {idx : List Nat} {o : Oper} (hoi : ops[i]? = some o) (hi : i ∉ D)
    (hLi : L[i]? = (drawnL P (numT P fn) ops)[i]?) (hb : ∀ (c : O) (k : Nat), (drawnL P (numT P fn) ops)[i]? = some c → c.before.testBit k = true → k ∈ D) (hF : FrR P φ (inReg P ops fn k defers dk round env (i :: idx)) g) {r : List Go.Item} (hg : g.todo = .inRegion ops (i :: idx) :: r) (cs : List Frame) :
    ∃ y φ' w' x' env', Steps P (lone g cs w) (lone (g.finish y) cs w') ∧ Inv P L S v h0 w0 φ0 env0 (i :: D) x' φ' w' env' ∧ FrR P φ' (inReg P ops fn k defers dk round env' idx) (g.finish y) := by
  subst he0
  have hod : ops.getD i default = o := by rw [Array.getD_eq_getD_getElem?, hoi]; rfl
  have hgot := drawn_get (P := P) (n := numT P fn) hoi
  generalize hmask : maskOf ((masks ops.toList []).take i) o.after.toList 0 = m at hgot
  generalize hcc : compOper P (numT P fn) ops m o = c at hgot
  have e := hLi.trans hgot
  have hb := fun k => hb c k hgot
  have hl := (List.getElem?_eq_some_iff.1 e).1
  have hok := t.ok.ok i c e
  have hdst : (compOper P (numT P fn) ops 0 o).dst = c.dst := by rw [← hcc]; rfl
  have hok0 : (compOper P (numT P fn) ops 0 o).ok = true := by rw [← hcc] at hok; exact hok
  have hwn : wantedA (compOper P (numT P fn) ops 0 o) env = wantedA c env := by rw [← hcc]; rfl
  have hop : c.op = match compAOp P o.op with | some a => a | none => .bad (opWhy o) := by rw [← hcc]; rfl
  have hF1 : FrR P φ ⟨fn, env, .ops (compOper P (numT P fn) ops 0 o :: idx.map fun i => compOper P (numT P fn) ops 0 (ops.getD i default)) :: k, defers, .run, dk, round⟩ g := by
    have := hF; unfold inReg at this; rw [List.map_cons, hod] at this; exact this
  have hgm : g.mode = .run := hF1.run_mode rfl
  have hS : Same (looks c) env (S i).env := EnvAt.same t.ok I.env (t.env i (by omega)) e (fun k hk => ⟨hb k hk, t.ok.less e hk⟩) fun k ok ek hk => ⟨fun hd => hi (I.down k hd ok i ek hk), fun hd => by have := t.ok.less ek hk; omega⟩
  have hw : Region.wanted o (yielded ops g.tmps) = wantedA c (S i).env := by
    rw [wanted_eq (bef := 0) hF1.env hok0, hwn, wanted_congr hS]
  have hgive : ∀ {φ' : Phi} {z : Value}, Le φ φ' → Rel φ' (v i) z → FrR P φ' (inReg P ops fn k defers dk round (setD env c.dst (v i)) idx) (g.finish z) := by
    intro φ' z hle hv
    rw [← hdst]
    exact give_ops (hF1.mono hle) hv hok0
  have q := t.turn i c e
  have one : ∀ kd, IsK L S kd i c → ∀ (kd' : DK) (oj : O), kd' ≠ kd → ¬ IsK L S kd' i oj := fun kd hk kd' oj hne hk' => by
    have := hk'.1; rw [e] at this; cases this
    exact hne (hk'.2.1.symm.trans hk.2.1)
  cases hwi : wantedA c (S i).env with
  | false =>
    rw [hwi] at hw
    have nk : ∀ kd oj, ¬ IsK L S kd i oj := fun kd oj hk => by
      have := hk.1; rw [e] at this; cases this
      rw [hk.2.2] at hwi; cases hwi
    have hv : v i = .undef := by
      generalize S (i + 1) = s' at q
      generalize v i = vy at q ⊢
      cases q <;> first | rfl | simp_all
    have hR := I.heap.sub (V := (S x).h) I.sub (fun id g r k => by rw [I.lim]; exact I.heap.used id g r k) (fun id b k => by rw [I.lim]; exact I.heap.dom id b (I.sub id b k))
    refine ⟨Go.undef, φ, w, x, _, .one ?_, I.calm t h0n h0u e hb (fun id b ⟨o', _, hk, _⟩ => nk _ _ hk) (nk _) hR (Adv.refl _ _ _), hgive (Le.refl φ) (by rw [hv]; exact Rel.undef)⟩
    have hfin : g.finish Go.undef = g.atR (Act.put ⟨g.tmps, g.defers⟩ ((ops[i]?).bind (·.dst)) Go.undef) (.inRegion ops idx :: r) := by
      rw [← Frame.finish_atR, ← hg, ← frame_run hgm]
    rw [hfin]
    have ef := frame_run hgm
    rw [hg] at ef
    have st := stepR_op_skip (P := P) (b := g) (a := ⟨g.tmps, g.defers⟩) (k := r) (cs := cs) (w := w) (ops := ops) (i := i) (rest := idx) (by rw [hoi]; exact hw)
    rw [← ef] at st
    exact st
  | true =>
    rw [hwi] at hw
    have hE : ∀ V, evalOp P c.op env V = evalOp P c.op (S i).env V := fun V => evalOp_congr P (looks_op hS) V
    cases hco : compAOp P o.op with
    | none =>
      rw [hco] at hop
      simp only at hop
      have hbad : ∀ V, evalOp P c.op (S i).env V = .fail (opWhy o) := fun V => by rw [hop]; rfl
      have hka : kindOf c.op = .actor := by rw [hop]; rfl
      have r := (q.of_actor hka hwi).1
      cases r with
      | val e' => rw [hbad] at e'; cases e'
      | memo e' _ _ => rw [hbad] at e'; cases e'
      | enter e' _ _ => rw [hbad] at e'; cases e'
      | round e' _ _ => rw [hbad] at e'; cases e'
    | some ao =>
      rw [hco] at hop
      simp only at hop
      have hnd : ∀ cc, o.op ≠ .defer cc := fun cc hc => by
        rw [hc] at hco
        unfold compAOp at hco
        simp only at hco
        split at hco
        · split at hco
          · cases hco
            rename_i fo lo _ _
            have hka : kindOf c.op = .actor := by rw [hop]; rfl
            have r := (q.of_actor hka hwi).1
            rw [hop] at r
            cases r with
            | val e' => rcases evalOp_defer P fo lo (S i).env ⟨insT c.before (S i).als (S i).h.heap, (S i).h.next, (S i).h.ser, (S i).h.lim⟩ with ⟨_, _, z⟩ | ⟨_, z⟩ <;> (rw [z] at e'; cases e')
            | memo e' _ _ => rcases evalOp_defer P fo lo (S i).env ⟨insT c.before (S i).als (S i).h.heap, (S i).h.next, (S i).h.ser, (S i).h.lim⟩ with ⟨_, _, z⟩ | ⟨_, z⟩ <;> (rw [z] at e'; cases e')
            | enter e' _ _ => rcases evalOp_defer P fo lo (S i).env ⟨insT c.before (S i).als (S i).h.heap, (S i).h.next, (S i).h.ser, (S i).h.lim⟩ with ⟨_, _, z⟩ | ⟨_, z⟩ <;> (rw [z] at e'; cases e')
            | round e' _ _ => rcases evalOp_defer P fo lo (S i).env ⟨insT c.before (S i).als (S i).h.heap, (S i).h.next, (S i).h.ser, (S i).h.lim⟩ with ⟨_, _, z⟩ | ⟨_, z⟩ <;> (rw [z] at e'; cases e')
          · cases hco
        · cases hco
      obtain ⟨st1, st2, st3⟩ := op_steps (P := P) (w := w) hgm hg hoi hw hnd
      have hres : ∀ V, HR P φ V w → Room V → ResR P φ V w (evalOp P c.op (S i).env V) ((execOp (Act.mk g.tmps g.defers).eval o).run P w) := fun V hR hm => by
        rw [← hE, hop]
        exact evalOp_run (a := ⟨g.tmps, g.defers⟩) hR hF1.env hm hco
      have hRx := I.heap.sub (V := (S x).h) I.sub (fun id g r k => by rw [I.lim]; exact I.heap.used id g r k) (fun id b k => by rw [I.lim]; exact I.heap.dom id b (I.sub id b k))
      have calm : ∀ h', evalOp P c.op (S i).env (S x).h = .val (v i) h' → h' = (S x).h → (kindOf c.op = .still ∨ kindOf c.op = .load) →
          ∃ y φ' w' x' env', Steps P (lone g cs w) (lone (g.finish y) cs w') ∧ Inv P L S v h0 w0 φ0 (S 0).env (i :: D) x' φ' w' env' ∧ FrR P φ' (inReg P ops fn k defers dk round env' idx) (g.finish y) := by
        intro h' ev eh hkd
        subst eh
        have hr := hres _ hRx (.inl I.lim)
        rw [ev] at hr
        obtain ⟨nx, z, w', φ', r1, r2, r3, r4, r5⟩ := hr
        refine ⟨z, φ', w', x, _, .one (st1 nx z w' r2 r1 cs), I.calm t h0n h0u e hb (fun id b ⟨o', _, hk, _⟩ => ?_) (fun oj hk => ?_) r3 r4, hgive r4.le r5⟩
        · have := hk.1; rw [e] at this; cases this
          rcases hkd with q | q <;> (have := hk.2.1; rw [q] at this; cases this)
        · have := hk.1; rw [e] at this; cases this
          rcases hkd with q | q <;> (have := hk.2.1; rw [q] at this; cases this)
      cases hkd : kindOf c.op with
      | still =>
        obtain ⟨h', ev⟩ := q.of_still hkd hwi
        exact calm _ ((still_same hkd ev).2 _) rfl (.inl hkd)
      | load =>
        obtain ⟨h', ev⟩ := t.window ⟨e, hkd, hwi⟩ x I.hx (fun j oj hk hbit => (I.acts j oj hk).1 (hb j hbit)) (fun j oj hk hj => I.notyet hi j oj hj hk)
        exact calm h' ev (load_same hkd ev) (.inr hkd)
      | alloc =>
        obtain ⟨h', b, ev, eb, _⟩ := q.of_alloc hkd hwi
        have hA : IsAl P L S v i (S i).rid b := ⟨c, h', ⟨e, hkd, hwi⟩, rfl, ev, eb⟩
        obtain ⟨b', hs⟩ := alloc_shape hkd ev
        have : b' = b := by
          rw [hs] at eb
          simp only at eb
          rw [T.get_set, if_pos rfl] at eb
          cases eb; rfl
        subst this
        have hRe : HR P φ ⟨.e, (S i).rid, (S i).h.ser, (S i).rid.num + 1⟩ w := by
          refine I.heap.sub (fun id b k => by rw [T.get_e] at k; cases k) (fun id gg rr k => ?_) (fun id b k => by rw [T.get_e] at k; cases k)
          by_cases c1 : id = (S i).rid
          · subst c1
            rw [I.later i _ _ hA hi] at k
            cases k
          · have : id.num ≠ (S i).rid.num := fun q => c1 (Pos.num_inj q)
            by_cases c2 : id.num < (S i).rid.num
            · exact .inl c2
            · exact .inr ⟨by simp, by simp only; omega⟩
        have hr := hres _ hRe (.inr (by simp))
        rw [ev] at hr
        obtain ⟨nx, z, w', φ', r1, r2, r3, r4, r5⟩ := hr
        exact ⟨z, φ', w', x, _, .one (st1 nx z w' r2 r1 cs), I.alloc t h0n h0u e hi hb hA (by rw [hs]) (by rw [hs]) r3 r4, hgive r4.le r5⟩
      | actor =>
        have hK : IsK L S .actor i c := ⟨e, hkd, hwi⟩
        have hact : ∀ (j : Nat) (oj : O), IsK L S .actor j oj → (j ∈ D ↔ j < i) := by
          intro j oj hk
          have ia : isActor c.op = true := by unfold isActor; rw [hkd]
          have ja : isActor oj.op = true := by unfold isActor; rw [hk.2.1]
          refine ⟨fun hj => ?_, fun hj => hb j (t.ok.chain i j c oj e hk.1 hj ia ja)⟩
          by_cases c1 : j < i
          · exact c1
          · by_cases c2 : j = i
            · subst c2; exact absurd hj hi
            · exact absurd (I.down j hj oj i hk.1 (t.ok.chain j i oj c hk.1 e (by omega) ja ia)) hi
        have I := I.move t (x' := i) (by omega) hact
        have r := (q.of_actor hkd hwi).1
        have sub : ∀ id b, T.get id (insT c.before (S i).als (S i).h.heap) = some b → FD P L S v D i id = some b := I.seen t e hb
        have hRV : HR P φ ⟨insT c.before (S i).als (S i).h.heap, (S i).h.next, (S i).h.ser, (S i).h.lim⟩ w :=
          I.heap.sub sub (fun id g r k => by simp only [I.lim]; exact I.heap.used id g r k) (fun id b k => by simp only [I.lim]; exact I.heap.dom id b (sub id b k))
        have hr := hres _ hRV (.inl I.lim)
        cases r with
        | val ev =>
          rw [ev] at hr
          obtain ⟨nx, z, w', φ', r1, r2, r3, r4, r5⟩ := hr
          exact ⟨z, φ', w', i + 1, _, .one (st1 nx z w' r2 r1 cs), I.actor t h0n h0u hK hi hb r3 r4, hgive r4.le r5⟩
        | @memo f args ev hpl hmm =>
          rw [ev] at hr
          obtain ⟨hV, xs, fn', c', r1, r2, r3, r4⟩ := hr
          obtain ⟨w', z, s1, s2, s3, s4⟩ := memo_steps hrec hRV r4 hpl hmm g cs
          rw [← hV] at s1
          rw [show Adv (⟨insT c.before (S i).als (S i).h.heap, (S i).h.next, (S i).h.ser, (S i).h.lim⟩ : Hp) w φ ⟨insT c.before (S i).als (S i).h.heap, (S i).h.next, (S i).h.ser, (S i).h.lim⟩ w' φ = Adv ⟨insT c.before (S i).als (S i).h.heap, (S i).h.next, (S i).h.ser, (S i).h.lim⟩ w φ (S (i + 1)).h w' φ by rw [hV]] at s2
          exact ⟨z, φ, w', i + 1, _, (Steps.one (st2 f xs r1 cs)).trans s4, I.actor t h0n h0u hK hi hb s1 s2, hgive (Le.refl φ) s3⟩
        | @enter f args h1 fr ev hbf hrr =>
          rw [ev] at hr
          obtain ⟨rfl, xs, fn', c', r1, r2, r3, r4⟩ := hr
          obtain ⟨q1, q2, q3, _⟩ := begin_run hbf r4
          have ho := hrec ⟨fr, [], _⟩ φ w _ [] (g :: cs) hRV I.lim q1 .nil
          rw [hrr] at ho
          obtain ⟨w', φ', z, s1, s2, s3, s4, _⟩ := ho
          exact ⟨z, φ', w', i + 1, _, (Steps.one (st2 f xs r1 cs)).trans (s4 g cs rfl), I.actor t h0n h0u hK hi hb s1 s2, hgive s2.le s3⟩
        | @round l args fr ev hbf hrr =>
          rw [ev] at hr
          obtain ⟨bb, xs, hφ, hx, r1⟩ := hr
          obtain ⟨f, tmps, assign, body, e1, e2, e3⟩ := round_run hRV hφ hx hbf
          have ho := hrec ⟨fr, [], _⟩ φ w _ [] (g :: cs) hRV I.lim e2 .nil
          rw [hrr] at ho
          obtain ⟨w', φ', z, s1, s2, s3, s4, _⟩ := ho
          exact ⟨z, φ', w', i + 1, _, (Steps.one (st3 bb f tmps assign body (r1.trans e1) cs)).trans (s4 g cs rfl), I.actor t h0n h0u hK hi hb s1 s2, hgive s2.le s3⟩

theorem draw_ops (hrec : Sound P rec) (t : Tr P rec (drawnL P (numT P fn) ops) S v) (h0n : h0.next.num ≤ (S 0).rid.num) (h0u : ∀ id g r, φ0 id g = some r → id.num < h0.next.num) (he0 : env0 = (S 0).env) (cs : List Frame) {r : List Go.Item} :
    ∀ (idx : List Nat) (D : List Nat) (x : Nat) (φ : Phi) (w : World) (env : T AV) (g : Frame), Order ops D idx → Inv P (drawnL P (numT P fn) ops) S v h0 w0 φ0 env0 D x φ w env →
    FrR P φ (inReg P ops fn k defers dk round env idx) g → g.todo = .inRegion ops idx :: r →
    ∃ g' D' φ' w' x' env', Steps P (lone g cs w) (lone g' cs w') ∧ (∀ i, i < ops.size → i ∈ D') ∧ Inv P (drawnL P (numT P fn) ops) S v h0 w0 φ0 env0 D' x' φ' w' env' ∧ FrR P φ' (inReg P ops fn k defers dk round env' []) g' ∧ g'.todo = .inRegion ops [] :: r := by
  intro idx
  induction idx with
  | nil =>
    intro D x φ w env g ho I hF hg
    cases ho with
    | nil h => exact ⟨g, D, φ, w, x, env, .refl _ _, h, I, hF, hg⟩
  | cons i idx ih =>
    intro D x φ w env g ho I hF hg
    cases ho with
    | @cons _ _ _ o hi hn he hrest =>
      have hb := order_bits (P := P) (n := numT P fn) I.down hi he
      obtain ⟨y, φ', w', x', env', s1, s2, s3⟩ := draw_op hrec t h0n h0u he0 I hi hn rfl hb hF hg cs
      obtain ⟨g', D', φ'', w'', x'', env'', z1, z2, z3, z4, z5⟩ := ih (i :: D) x' φ' w' env' (g.finish y) hrest s2 s3 (finish_todo hg y)
      exact ⟨g', D', φ'', w'', x'', env'', s1.trans z1, z2, z3, z4, z5⟩

theorem EnvAt.same2 {L : List O} (ok : OkL L) {D D' : Nat → Prop} {env env' : T AV} (h : EnvAt L v env0 D env) (h' : EnvAt L v env0 D' env') {X : List Pos}
    (hx : ∀ (j : Nat) (oj : O) (p : Pos), L[j]? = some oj → oj.dst = some p → p ∈ X → (D j ∧ D' j) ∨ (¬ D j ∧ ¬ D' j)) : Same X env env' := by
  intro p hp
  by_cases c : ∃ (j : Nat) (oj : O), L[j]? = some oj ∧ oj.dst = some p
  · obtain ⟨j, oj, ej, dj⟩ := c
    rcases hx j oj p ej dj hp with q | q
    · rw [h.1 j oj p q.1 ej dj, h'.1 j oj p q.2 ej dj]
    · have only : ∀ (D : Nat → Prop), ¬ D j → ∀ (k : Nat) (ok : O), D k → L[k]? = some ok → ok.dst ≠ some p := fun D nd k ok' dk ek dk' => by
        have := ok.dst k j ok' oj p ek ej dk' dj
        subst this
        exact nd dk
      rw [h.2 p (only D q.1), h'.2 p (only D' q.2)]
  · have c' : ∀ (D : Nat → Prop) (j : Nat) (o : O), D j → L[j]? = some o → o.dst ≠ some p := fun D j oj _ ej dj => c ⟨j, oj, ej, dj⟩
    rw [h.2 p (c' D), h'.2 p (c' D')]

theorem mute_ok {L : List O} (h : OkL L) (i0 : Nat) : OkL (muteF i0 0 L) := by
  have get : ∀ {y : Nat} {o : O}, (muteF i0 0 L)[y]? = some o → ∃ o', L[y]? = some o' ∧ o = mute i0 y o' := fun {y o} e => by
    rw [muteF_get, Nat.zero_add] at e
    cases q : L[y]? with
    | none => rw [q] at e; cases e
    | some o' => rw [q] at e; cases e; exact ⟨o', rfl, rfl⟩
  refine ⟨fun i o e => ?_, fun i o e => ?_, fun i j oi oj p ei ej di dj => ?_, fun i j oi oj p ei ej dj hl => ?_, fun i j oi oj ei ej hlt ai aj => ?_⟩
  · obtain ⟨o', e', rfl⟩ := get e; rw [(mute_dst i0 i o').2.1]; exact h.lt i o' e'
  · obtain ⟨o', e', rfl⟩ := get e; rw [(mute_dst i0 i o').2.2]; exact h.ok i o' e'
  · obtain ⟨o', e', rfl⟩ := get ei
    obtain ⟨o'', e'', rfl⟩ := get ej
    rw [(mute_dst i0 i o').1] at di
    rw [(mute_dst i0 j o'').1] at dj
    exact h.dst i j o' o'' p e' e'' di dj
  · obtain ⟨o', e', rfl⟩ := get ei
    obtain ⟨o'', e'', rfl⟩ := get ej
    rw [(mute_dst i0 j o'').1] at dj
    rw [(mute_dst i0 i o').2.1, (mute_dst i0 j o'').2.1]
    refine h.look i j o' o'' p e' e'' dj ?_
    by_cases c : i = i0 ∨ (i0 < i ∧ o'.before.testBit i0 = true)
    · rw [mute_then c] at hl
      simp [looks, slotsOf, slotsO] at hl
    · rw [mute_else c] at hl; exact hl
  · obtain ⟨o', e', rfl⟩ := get ei
    obtain ⟨o'', e'', rfl⟩ := get ej
    rw [(mute_dst i0 i o').2.1]
    have un : ∀ {y : Nat} {o : O}, isActor (mute i0 y o).op = true → isActor o.op = true := fun {y o} q => by
      by_cases c : y = i0 ∨ (i0 < y ∧ o.before.testBit i0 = true)
      · rw [mute_then c] at q; cases q
      · rw [mute_else c] at q; exact q
    exact h.chain i j o' o'' e' e'' hlt (un ai) (un aj)

/-- An operation of a region that panics. -/
theorem draw_pan (hrec : Sound P rec) (okL : OkL (drawnL P (numT P fn) ops)) {i : Nat} (t : Tr P rec (muteF i 0 (drawnL P (numT P fn) ops)) S v) (h0n : h0.next.num ≤ (S 0).rid.num) (h0u : ∀ id g r, φ0 id g = some r → id.num < h0.next.num) (he0 : env0 = (S 0).env)
    {D : List Nat} {x : Nat} {φ : Phi} {w : World} {env : T AV} {g : Frame} (I : Inv P (muteF i 0 (drawnL P (numT P fn) ops)) S v h0 w0 φ0 env0 D x φ w env) {idx : List Nat} {o : Oper} (hoi : ops[i]? = some o) (hi : i ∉ D)
    (hb : ∀ (c : O) (k : Nat), (drawnL P (numT P fn) ops)[i]? = some c → c.before.testBit k = true → k ∈ D) (hF : FrR P φ (inReg P ops fn k defers dk round env (i :: idx)) g) {r : List Go.Item} (hg : g.todo = .inRegion ops (i :: idx) :: r) (cs : List Frame)
    {c : O} (hgot : (drawnL P (numT P fn) ops)[i]? = some c) {pv : AV} {h' : Hp} (hp : PanAt P rec c (S i) pv h') :
    ∃ z φ' w', Steps P (lone g cs w) (lone (g.raise [{ v := z, recovered := false }]) cs w') ∧ HRF P φ' (fun id => T.get id h'.heap) h'.next.num 0 w' ∧ AdvF h0 w0 φ0 (fun id => T.get id h'.heap) h'.next.num w' φ' ∧ Le φ φ' ∧ Rel φ' pv z ∧ h'.lim = 0 := by
  subst he0
  have hod : ops.getD i default = o := by rw [Array.getD_eq_getD_getElem?, hoi]; rfl
  have hgot' := drawn_get (P := P) (n := numT P fn) hoi
  rw [hgot] at hgot'
  have hcc := Option.some.inj hgot'
  generalize hmask : maskOf ((masks ops.toList []).take i) o.after.toList 0 = m at hcc
  have hb := fun k => hb c k hgot
  have e : (muteF i 0 (drawnL P (numT P fn) ops))[i]? = some (mute i i c) := by rw [muteF_get, Nat.zero_add, hgot]; rfl
  have hl := (List.getElem?_eq_some_iff.1 e).1
  have hok0 : (compOper P (numT P fn) ops 0 o).ok = true := by have := okL.ok i c hgot; rw [hcc] at this; exact this
  have hwn : wantedA (compOper P (numT P fn) ops 0 o) env = wantedA c env := by rw [hcc]; rfl
  have hop : c.op = match compAOp P o.op with | some a => a | none => .bad (opWhy o) := by rw [hcc]; rfl
  have hF1 : FrR P φ ⟨fn, env, .ops (compOper P (numT P fn) ops 0 o :: idx.map fun i => compOper P (numT P fn) ops 0 (ops.getD i default)) :: k, defers, .run, dk, round⟩ g := by
    have := hF; unfold inReg at this; rw [List.map_cons, hod] at this; exact this
  have hgm : g.mode = .run := hF1.run_mode rfl
  have get : ∀ {y : Nat} {o : O}, (muteF i 0 (drawnL P (numT P fn) ops))[y]? = some o → ∃ o', (drawnL P (numT P fn) ops)[y]? = some o' ∧ o = mute i y o' := fun {y o} e => by
    rw [muteF_get, Nat.zero_add] at e
    cases q : (drawnL P (numT P fn) ops)[y]? with
    | none => rw [q] at e; cases e
    | some o' => rw [q] at e; cases e; exact ⟨o', rfl, rfl⟩
  have hS : Same (looks c) env (S i).env := by
    refine EnvAt.same2 t.ok I.env (t.env i (by omega)) fun j oj p ej dj hp => ?_
    obtain ⟨oj', ej', rfl⟩ := get ej
    rw [(mute_dst i j oj').1] at dj
    rcases okL.look i j c oj' p hgot ej' dj hp with q | q
    · exact .inl ⟨hb j q, okL.less hgot q⟩
    · refine .inr ⟨fun hd => hi (I.down j hd _ i ej (by rw [(mute_dst i j oj').2.1]; exact q)), fun hd => ?_⟩
      have := okL.less ej' q; omega
  have hw : Region.wanted o (yielded ops g.tmps) = true := by
    rw [wanted_eq (bef := 0) hF1.env hok0, hwn, wanted_congr hS]; exact hp.want
  have hE : ∀ V, evalOp P c.op env V = evalOp P c.op (S i).env V := fun V => evalOp_congr P (looks_op hS) V
  have hka : isActor c.op = true := by unfold isActor; rw [hp.kind]
  have I := I.move t (x' := i) (by omega) fun j oj hk => by
    obtain ⟨oj', ej', rfl⟩ := get hk.1
    by_cases c1 : j = i ∨ (i < j ∧ oj'.before.testBit i = true)
    · have := hk.2.1; rw [mute_then c1] at this; cases this
    · have hkj := hk.2.1
      rw [mute_else c1] at hkj
      have ja : isActor oj'.op = true := by unfold isActor; rw [hkj]
      have hji : j < i := by
        by_cases c2 : i < j
        · exact absurd (.inr ⟨c2, okL.chain j i oj' c ej' hgot c2 ja hka⟩) c1
        · by_cases c3 : j = i
          · exact absurd (.inl c3) c1
          · omega
      exact ⟨fun _ => hji, fun _ => hb j (okL.chain i j c oj' hgot ej' hji hka ja)⟩
  have sub : ∀ id b, T.get id (insT c.before (S i).als (S i).h.heap) = some b → FD P (muteF i 0 (drawnL P (numT P fn) ops)) S v D i id = some b := by
    have := I.seen t e (by rw [(mute_dst i i c).2.1]; exact hb)
    rw [(mute_dst i i c).2.1] at this
    exact this
  have hRV : HR P φ ⟨insT c.before (S i).als (S i).h.heap, (S i).h.next, (S i).h.ser, (S i).h.lim⟩ w :=
    I.heap.sub sub (fun id g r k => by simp only [I.lim]; exact I.heap.used id g r k) (fun id b k => by simp only [I.lim]; exact I.heap.dom id b (sub id b k))
  have fin : ∀ {w' : World} {φ' : Phi}, HR P φ' h' w' → Adv ⟨insT c.before (S i).als (S i).h.heap, (S i).h.next, (S i).h.ser, (S i).h.lim⟩ w φ h' w' φ' →
      HRF P φ' (fun id => T.get id h'.heap) h'.next.num 0 w' ∧ AdvF h0 w0 φ0 (fun id => T.get id h'.heap) h'.next.num w' φ' ∧ Le φ φ' ∧ h'.lim = 0 := by
    intro w' φ' hR' a
    have hr := t.rid_mono (x := 0) (muteF i 0 (drawnL P (numT P fn) ops)).length (Nat.zero_le _) (Nat.le_refl _)
    have room := I.room
    have hlim : h'.lim = 0 := a.lim.trans I.lim
    obtain ⟨m1, m2⟩ := merge (nx' := h'.next.num) (F' := fun id => T.get id h'.heap) I.heap I.adv h0u hR' a sub (by show h0.next.num ≤ (S i).h.next.num; omega) (Nat.le_refl _) a.next (fun id k1 k2 => by
      have k1 : (S i).h.next.num ≤ id.num := k1
      cases q : FD P (muteF i 0 (drawnL P (numT P fn) ops)) S v D i id with
      | none => rfl
      | some b =>
        rcases I.heap.dom id b q with q | q
        · omega
        · exact absurd rfl q.1) (fun id b q => .inl q)
    exact ⟨m1, m2, a.le, hlim⟩
  have ha := hp.acts
  cases hco : compAOp P o.op with
  | none =>
    rw [hco] at hop
    simp only at hop
    have hbad : ∀ V, evalOp P c.op (S i).env V = .fail (opWhy o) := fun V => by rw [hop]; rfl
    cases ha with
    | enter e' _ _ => rw [hbad] at e'; cases e'
    | round e' _ _ => rw [hbad] at e'; cases e'
  | some ao =>
    rw [hco] at hop
    simp only at hop
    have hnd : ∀ cc, o.op ≠ .defer cc := fun cc hc => by
      rw [hc] at hco
      unfold compAOp at hco
      simp only at hco
      split at hco
      · split at hco
        · cases hco
          rename_i fo lo _ _
          rw [hop] at ha
          cases ha with
          | enter e' _ _ => rcases evalOp_defer P fo lo (S i).env ⟨insT c.before (S i).als (S i).h.heap, (S i).h.next, (S i).h.ser, (S i).h.lim⟩ with ⟨_, _, z⟩ | ⟨_, z⟩ <;> (rw [z] at e'; cases e')
          | round e' _ _ => rcases evalOp_defer P fo lo (S i).env ⟨insT c.before (S i).als (S i).h.heap, (S i).h.next, (S i).h.ser, (S i).h.lim⟩ with ⟨_, _, z⟩ | ⟨_, z⟩ <;> (rw [z] at e'; cases e')
        · cases hco
      · cases hco
    obtain ⟨st1, st2, st3⟩ := op_steps (P := P) (w := w) hgm hg hoi hw hnd
    have hr : ResR P φ ⟨insT c.before (S i).als (S i).h.heap, (S i).h.next, (S i).h.ser, (S i).h.lim⟩ w (evalOp P c.op (S i).env ⟨insT c.before (S i).als (S i).h.heap, (S i).h.next, (S i).h.ser, (S i).h.lim⟩) ((execOp (Act.mk g.tmps g.defers).eval o).run P w) := by
      rw [← hE, hop]
      exact evalOp_run (a := ⟨g.tmps, g.defers⟩) hRV hF1.env (.inl I.lim) hco
    cases ha with
    | @enter f args h1 fr ev hbf hrr =>
      rw [ev] at hr
      obtain ⟨rfl, xs, fn', c', r1, r2, r3, r4⟩ := hr
      obtain ⟨q1, q2, q3, _⟩ := begin_run hbf r4
      have ho := hrec ⟨fr, [], _⟩ φ w _ [] (g :: cs) hRV I.lim q1 .nil
      rw [hrr] at ho
      obtain ⟨w', φ', z, s1, s2, s3, s4⟩ := ho
      obtain ⟨f1, f2, f3, f4⟩ := fin s1 s2
      exact ⟨z, φ', w', (Steps.one (st2 f xs r1 cs)).trans (s4 g cs rfl), f1, f2, f3, s3, f4⟩
    | @round l args fr ev hbf hrr =>
      rw [ev] at hr
      obtain ⟨bb, xs, hφ, hx, r1⟩ := hr
      obtain ⟨f, tmps, assign, body, e1, e2, e3⟩ := round_run hRV hφ hx hbf
      have ho := hrec ⟨fr, [], _⟩ φ w _ [] (g :: cs) hRV I.lim e2 .nil
      rw [hrr] at ho
      obtain ⟨w', φ', z, s1, s2, s3, s4⟩ := ho
      obtain ⟨f1, f2, f3, f4⟩ := fin s1 s2
      exact ⟨z, φ', w', (Steps.one (st3 bb f tmps assign body (r1.trans e1) cs)).trans (s4 g cs rfl), f1, f2, f3, s3, f4⟩

/-- Up to the operation that panics. -/
theorem draw_opsP (hrec : Sound P rec) {i0 : Nat} (hi0 : i0 < ops.size) (t : Tr P rec (muteF i0 0 (drawnL P (numT P fn) ops)) S v) (h0n : h0.next.num ≤ (S 0).rid.num) (h0u : ∀ id g r, φ0 id g = some r → id.num < h0.next.num) (he0 : env0 = (S 0).env) (cs : List Frame) {r : List Go.Item} :
    ∀ (idx : List Nat) (D : List Nat) (x : Nat) (φ : Phi) (w : World) (env : T AV) (g : Frame), Order ops D idx → i0 ∉ D → Inv P (muteF i0 0 (drawnL P (numT P fn) ops)) S v h0 w0 φ0 env0 D x φ w env →
    FrR P φ (inReg P ops fn k defers dk round env idx) g → g.todo = .inRegion ops idx :: r →
    ∃ g' D' φ' w' x' env' idx', Steps P (lone g cs w) (lone g' cs w') ∧ i0 ∉ D' ∧ (∀ (c : O) (k : Nat), (drawnL P (numT P fn) ops)[i0]? = some c → c.before.testBit k = true → k ∈ D') ∧
      Inv P (muteF i0 0 (drawnL P (numT P fn) ops)) S v h0 w0 φ0 env0 D' x' φ' w' env' ∧ FrR P φ' (inReg P ops fn k defers dk round env' (i0 :: idx')) g' ∧ g'.todo = .inRegion ops (i0 :: idx') :: r := by
  intro idx
  have hdn : ∀ {D : List Nat}, (∀ j ∈ D, ∀ (c : O) (k : Nat), (muteF i0 0 (drawnL P (numT P fn) ops))[j]? = some c → c.before.testBit k = true → k ∈ D) → ∀ j ∈ D, ∀ (c : O) (k : Nat), (drawnL P (numT P fn) ops)[j]? = some c → c.before.testBit k = true → k ∈ D := by
    intro D h j hj c k e hk
    refine h j hj (mute i0 j c) k (by rw [muteF_get, Nat.zero_add, e]; rfl) (by rw [(mute_dst i0 j c).2.1]; exact hk)
  induction idx with
  | nil =>
    intro D x φ w env g ho hn I hF hg
    cases ho with
    | nil h => exact absurd (h i0 hi0) hn
  | cons i idx ih =>
    intro D x φ w env g ho hn0 I hF hg
    cases ho with
    | @cons _ _ _ o hi hn he hrest =>
      have hb := order_bits (P := P) (n := numT P fn) (hdn I.down) hi he
      by_cases ci : i = i0
      · subst ci
        exact ⟨g, D, φ, w, x, env, idx, .refl _ _, hn0, hb, I, hF, hg⟩
      · have hLi : (muteF i0 0 (drawnL P (numT P fn) ops))[i]? = (drawnL P (numT P fn) ops)[i]? := by
          have e := drawn_get (P := P) (n := numT P fn) hi
          rw [muteF_get, Nat.zero_add, e]
          simp only [Option.map_some]
          rw [mute_else]
          rintro (q | ⟨_, q⟩)
          · exact ci q
          · exact hn0 (hb _ i0 e q)
        obtain ⟨y, φ', w', x', env', s1, s2, s3⟩ := draw_op hrec t h0n h0u he0 I hi hn hLi hb hF hg cs
        obtain ⟨g', D', φ'', w'', x'', env'', idx', z1, z2, z3, z4, z5, z6⟩ := ih (i :: D) x' φ' w' env' (g.finish y) hrest (by rw [List.mem_cons, not_or]; exact ⟨fun e => ci e.symm, hn0⟩) s2 s3 (finish_todo hg y)
        exact ⟨g', D', φ'', w'', x'', env'', idx', s1.trans z1, z2, z3, z4, z5, z6⟩
end
end Go.Proofs.YtialpccieggaoaaGreatDoor.Am

namespace Go.Proofs.YtialpccieggaoaaGreatDoor.Am

theorem Order.lt {ops : Array Oper} {D l : List Nat} (h : Order ops D l) : ∀ i ∈ l, i < ops.size := by
  induction h with
  | nil _ => intro i hi; simp at hi
  | cons hi _ _ _ ih =>
    intro j hj
    rcases List.mem_cons.1 hj with e | hj
    · subst e; exact (Array.getElem?_eq_some_iff.1 hi).1
    · exact ih j hj

theorem HRF.up {P : Program} {φ : Phi} {F : Pos → Option Blk} {nx nx' : Nat} {w : World} (h : HRF P φ F nx 0 w) (hn : nx ≤ nx') : HRF P φ F nx' 0 w := by
  have up : ∀ {id}, Old nx 0 id → Old nx' 0 id := fun {id} o => by
    rcases o with q | q
    · exact .inl (by omega)
    · exact absurd rfl q.1
  exact ⟨h.blk, fun id g r e => up (h.used id g r e), fun id b e => up (h.dom id b e), h.sep, h.inb, h.glob⟩

theorem HRF.toR {P : Program} {φ : Phi} {h : Hp} {w : World} (k : HRF P φ (fun id => T.get id h.heap) h.next.num 0 w) (hz : h.lim = 0) : HR P φ h w :=
  ⟨k.blk, fun id g r e => by rw [hz]; exact k.used id g r e, fun id b e => by rw [hz]; exact k.dom id b e, k.sep, k.inb, k.glob⟩

theorem skipIds_le : ∀ (l : List O) (p : Pos), p.num ≤ (skipIds l p).num
  | [], p => Nat.le_refl _
  | o :: l, p => by
    unfold skipIds
    cases isAlloc o.op with
    | true => rw [cond_true]; exact Nat.le_trans (by rw [Pos.num_succ]; omega) (skipIds_le l p.succ)
    | false => rw [cond_false]; exact skipIds_le l p

theorem compDrawn_cases (P : Program) (n : Nat) (ops : Array Oper) : (∃ why, compDrawn P n ops = .bad why) ∨ (compDrawn P n ops = .drawn (drawnL P n ops) ∧ okModes P ops = true ∧ okRegion (drawnL P n ops) = true) := by
  have e : compDrawn P n ops = bif okModes P ops then (bif okRegion (drawnL P n ops) then .drawn (drawnL P n ops) else .bad "drawn order") else .bad "drawn modes" := rfl
  rw [e]
  cases okModes P ops with
  | false => exact .inl ⟨_, rfl⟩
  | true =>
    cases okRegion (drawnL P n ops) with
    | false => exact .inl ⟨_, rfl⟩
    | true => exact .inr ⟨rfl, rfl, rfl⟩

noncomputable def dropT (env : T AV) : List O → T AV
  | [] => env
  | o :: l => dropT (match o.dst with | some d => T.set d none env | none => env) l

theorem dropD_eq : ∀ (l : List O) (env : T AV) (k : T AV → Out), dropD env l k = k (dropT env l)
  | [], env, k => rfl
  | o :: l, env, k => by
    unfold dropD dropT
    cases o.dst with
    | none => exact dropD_eq l env k
    | some d => simp only [T.setK_eq]; exact dropD_eq l _ k

theorem get_dropT {p : Pos} {u : AV} : ∀ (l : List O) (env : T AV), T.get p (dropT env l) = some u → (∀ o ∈ l, o.dst ≠ some p) ∧ T.get p env = some u
  | [], env, h => ⟨fun o h => by simp at h, h⟩
  | o :: l, env, h => by
    unfold dropT at h
    obtain ⟨h1, h2⟩ := get_dropT l _ h
    cases hd : o.dst with
    | none =>
      rw [hd] at h2
      refine ⟨fun o' ho => ?_, h2⟩
      rcases List.mem_cons.1 ho with e | e
      · subst e; rw [hd]; simp
      · exact h1 o' e
    | some d =>
      rw [hd] at h2
      simp only at h2
      rw [T.get_set] at h2
      by_cases c : p = d
      · rw [if_pos c] at h2; cases h2
      · rw [if_neg c] at h2
        refine ⟨fun o' ho => ?_, h2⟩
        rcases List.mem_cons.1 ho with e | e
        · subst e; rw [hd]; intro q; cases q; exact c rfl
        · exact h1 o' e

theorem skipIds_mute {i0 : Nat} : ∀ (l : List O) (j : Nat) (p q : Pos), p.num ≤ q.num → (skipIds (muteF i0 j l) p).num ≤ (skipIds l q).num
  | [], j, p, q, h => h
  | o :: l, j, p, q, h => by
    unfold muteF skipIds
    have hq : q.num ≤ q.succ.num := by rw [Pos.num_succ]; omega
    have hpq : p.succ.num ≤ q.succ.num := by rw [Pos.num_succ, Pos.num_succ]; omega
    by_cases c : j = i0 ∨ (i0 < j ∧ o.before.testBit i0 = true)
    · rw [mute_then c]
      show (skipIds (muteF i0 (j + 1) l) p).num ≤ _
      cases isAlloc o.op with
      | true => rw [cond_true]; exact skipIds_mute l _ _ _ (by omega)
      | false => rw [cond_false]; exact skipIds_mute l _ _ _ h
    · rw [mute_else c]
      cases isAlloc o.op with
      | true => rw [cond_true, cond_true]; exact skipIds_mute l _ _ _ hpq
      | false => rw [cond_false, cond_false]; exact skipIds_mute l _ _ _ h

section
variable {P : Program} {rec : St → Out} {S : Nat → DS} {v : Nat → AV} {φ : Phi} {h : Hp} {w : World} {env : T AV}

theorem old_lt (hz : h.lim = 0) {i : Pos} (o : Old h.next.num h.lim i) : i.num < h.next.num := by
  rcases o with q | q
  · exact q
  · exact absurd hz q.1

/-- Ahead of a region's operations. -/
theorem inv0 {L : List O} (t : Tr P rec L S v) (hR : HR P φ h w) (hz : h.lim = 0) (e0 : (S 0).rid = h.next) {nx : Pos} (e1 : (S 0).h = ⟨h.heap, nx, h.ser, h.lim⟩) (hle : h.next.num ≤ nx.num) (hroom : (S L.length).rid.num ≤ nx.num) :
    Inv P L S v h w φ env [] 0 φ { w with drawn := w.drawn + 1 } env := by
  have hFD : FD P L S v [] 0 = fun i => T.get i h.heap := by
    funext i
    rw [FD_else fun b ⟨j, hj, _⟩ => by simp at hj, e1]
  have hw1 : HRF P φ (fun i => T.get i h.heap) h.next.num 0 { w with drawn := w.drawn + 1 } := by
    have := hR.toF
    rw [hz] at this
    exact ⟨this.blk, this.used, this.dom, this.sep, this.inb, this.glob⟩
  have ha0 : AdvF h w φ (fun i => T.get i h.heap) nx.num { w with drawn := w.drawn + 1 } φ := by
    have a := Adv.refl_F h w φ hle
    exact ⟨a.le, a.os, a.output, a.tape, a.size, a.next, a.new, a.old, a.keep, a.hid, a.same⟩
  refine ⟨Nat.zero_le _, fun i o _ => ⟨fun hi => by simp at hi, fun hi => by omega⟩, fun j hj => by simp at hj, ?_, ?_, ?_, ?_, fun i id' b hA _ => ?_, fun i id' b hA _ gg => ?_, ⟨fun j o p hj => by simp at hj, fun p _ => rfl⟩⟩
  · rw [hFD, e1]; exact hw1.up hle
  · rw [hFD, e1]; exact ha0
  · rw [e1]; exact hroom
  · rw [e1]; exact hz
  · have := (IsAl.range t hA).1
    rw [e0] at this
    rw [e1]
    cases q : T.get id' h.heap with
    | none => rfl
    | some b' => have := old_lt hz (hR.dom id' b' q); omega
  · have := (IsAl.range t hA).1
    rw [e0] at this
    cases q : φ id' gg with
    | none => rfl
    | some r => have := old_lt hz (hR.used id' gg r q); omega
end

section
variable {P : Program} {φ : Phi} {w : World} {g : Frame} {cs c0 : List Frame}

theorem drawn_run {s : St} {rec : St → Out} (hrec : Sound P rec) (hR : HR P φ s.hp w) (hz : s.hp.lim = 0) (hF : FrR P φ s.cur g) (hC : FrsR P φ s.callers cs) {id : Nat} {ops : Array Oper} {k : List Item}
    (hm : s.cur.mode = .run) (ht : s.cur.todo = .code (comp P (numT P s.cur.fn) (.region id ops true)) :: k) {k' : List Go.Item} (hg : g.todo = .code (.region id ops true) :: k') (hk : ItemsR P φ (numT P s.cur.fn) k k') :
    OutR P c0 φ s g cs w (step P rec s) := by
  obtain ⟨fr, callers, h⟩ := s
  obtain ⟨fn, env, todo, defers, mode, dk, round⟩ := fr
  simp only at hm ht hR hz hF hC hk
  subst hm
  subst ht
  unfold step
  simp only
  have hc : comp P (numT P fn) (.region id ops true) = compDrawn P (numT P fn) ops := rfl
  rw [hc]
  rcases compDrawn_cases P (numT P fn) ops with ⟨why, q⟩ | ⟨q, hmo, hor⟩
  · rw [q]; trivial
  rw [q]
  simp only
  generalize hL : drawnL P (numT P fn) ops = L at q hor ⊢
  have hlen : L.length = ops.size := by rw [← hL]; exact drawn_len
  have hle := skipIds_le L h.next
  have h0u : ∀ i gg r, φ i gg = some r → i.num < h.next.num := fun i gg r e => old_lt hz (hR.used i gg r e)
  have horder := order_schedule hmo (w.tape w.drawn (.order g.fn id))
  generalize hidx : Region.schedule (P.follows .mixedOrders) ops (w.tape w.drawn (.order g.fn id)) = idx at horder
  have hF0 : FrR P φ (inReg P ops fn k defers dk round env idx) (g.atR ⟨g.tmps, g.defers⟩ (.inRegion ops idx :: k')) := by
    exact hF.setTodo (k := .ops (idx.map fun i => compOper P (numT P fn) ops 0 (ops.getD i default)) :: k) (.cons ⟨rfl, horder.lt⟩ hk) rfl
  have st0 : Go.step P (lone g (cs ++ c0) w) = .next (lone (g.atR ⟨g.tmps, g.defers⟩ (.inRegion ops idx :: k')) (cs ++ c0) { w with drawn := w.drawn + 1 }) := by
    refine step_at hF rfl hg ?_
    rw [← hidx]
    exact stepR_region_draw
  rcases drawnGo_trace P (recJ P rec) (fun env h' => Out.next ⟨⟨fn, env, k, defers, .run, dk, round⟩, callers, h'⟩) (fun v h' => dropD env L fun env => Out.next ⟨⟨fn, env, .code (.bad "panic") :: k, defers, .pan v false, dk, round⟩, callers, h'⟩) L 0 ⟨[], [], [], h.next, env, ⟨h.heap, skipIds L h.next, h.ser, h.lim⟩⟩ with ⟨why, r⟩ | ⟨S, v, r1, r2, r3⟩ | ⟨y0, o0, pv, h', S, v, z1, z2, z3, z4, z5⟩
  · rw [r]; trivial
  rotate_left
  · rw [z5]
    simp only [dropD_eq]
    clear z5
    simp only [Nat.zero_add] at z2 z4
    have okL := okRegion_sound hor
    have t : Tr P (recJ P rec) (muteF y0 0 L) S v := ⟨mute_ok okL y0, fun y o e => by
      rw [muteF_get, Nat.zero_add] at e
      cases q : L[y]? with
      | none => rw [q] at e; cases e
      | some o' => rw [q] at e; cases e; exact z4 y o' q, by rw [z3], by rw [z3], by rw [z3]⟩
    have hlast := t.rid_last
    have e0 : (S 0).rid = h.next := by rw [z3]
    have e1 : (S 0).h = ⟨h.heap, skipIds L h.next, h.ser, h.lim⟩ := by rw [z3]
    have e2 : (S 0).env = env := by rw [z3]
    rw [e0] at hlast
    have hy0 : y0 < ops.size := by rw [← hlen]; exact (List.getElem?_eq_some_iff.1 z1).1
    have I0 := inv0 (env := env) t hR hz e0 e1 hle (by rw [hlast]; exact skipIds_mute L 0 _ _ (Nat.le_refl _))
    subst hL
    obtain ⟨g', D', φ', w', x', env', idx', s1, s2, s3, s4, s5, s6⟩ := draw_opsP (r := k') (recJ_sound hrec) hy0 t (by rw [e0]; exact Nat.le_refl _) h0u e2.symm (cs ++ c0) idx [] 0 φ _ env _ horder (by simp) I0 hF0 (by simp [Frame.atR])
    obtain ⟨o, ho⟩ : ∃ o, ops[y0]? = some o := ⟨_, Array.getElem?_eq_getElem hy0⟩
    obtain ⟨z, φ2, w2, q1, q2, q3, q4, q5, q6⟩ := draw_pan (recJ_sound hrec) okL t (by rw [e0]; exact Nat.le_refl _) h0u e2.symm s4 ho s2 s3 s5 s6 (cs ++ c0) z1 z2
    have hgm : g'.mode = .run := s5.run_mode rfl
    have hra : g'.raise [{ v := z, recovered := false }] = { g' with mode := .panicking [{ v := z, recovered := false }] } := by simp [Frame.raise, hgm]
    have hle2 : Le φ φ2 := q3.le
    have hF' : FrR P φ2 ⟨fn, dropT env (drawnL P (numT P fn) ops), .code (.bad "panic") :: k, defers, .pan pv false, dk, round⟩ (g'.raise [{ v := z, recovered := false }]) := by
      rw [hra]
      have hm := s5.mono q4
      refine ⟨hm.fn, fun tt u hu => ?_, hm.size, ?_, hm.defers, ⟨q5, rfl, rfl⟩, hm.kind, hm.round⟩
      · obtain ⟨h1, h2⟩ := get_dropT _ _ hu
        have := s4.env.2 (Pos.ofNat tt) fun j o hj ej dj => by
          rw [muteF_get, Nat.zero_add] at ej
          cases q : (drawnL P (numT P fn) ops)[j]? with
          | none => rw [q] at ej; cases ej
          | some o' =>
            rw [q] at ej
            cases ej
            rw [(mute_dst y0 j o').1] at dj
            exact h1 o' (List.mem_of_getElem? q) dj
        have hr : Rel φ2 (ev env' (.tmp (Pos.ofNat tt))) (g'.tmps.getD tt Go.undef) := (hm.env.run rfl) tt
        rw [this] at hr
        have e3 : ev env (.tmp (Pos.ofNat tt)) = u := by simp only [ev, h2]
        rw [e3] at hr
        exact hr
      · show ItemsR P φ2 (numT P fn) (.code (.bad "panic") :: k) g'.todo
        rw [s6]
        exact .cons trivial (hk.mono hle2)
    have hb := bot_eq (fr := ⟨fn, env, .code (.drawn (drawnL P (numT P fn) ops)) :: k, defers, .run, dk, round⟩) (fr' := ⟨fn, dropT env (drawnL P (numT P fn) ops), .code (.bad "panic") :: k, defers, .pan pv false, dk, round⟩) rfl rfl callers h h'
    exact ⟨_, cs, w2, φ2, (Steps.one st0).trans (s1.trans q1), HRF.toR q2 q6, hF', hC.mono hle2, AdvF.toAdv q3 (q6.trans hz.symm), hb.1, hb.2⟩
  rw [r3]
  clear r3
  simp only [Nat.zero_add] at r2 ⊢
  have t : Tr P (recJ P rec) L S v := ⟨okRegion_sound hor, r2, by rw [r1], by rw [r1], by rw [r1]⟩
  have hlast := t.rid_last
  have e0 : (S 0).rid = h.next := by rw [r1]
  have e1 : (S 0).h = ⟨h.heap, skipIds L h.next, h.ser, h.lim⟩ := by rw [r1]
  have e2 : (S 0).env = env := by rw [r1]
  rw [e0] at hlast
  have I0 := inv0 (env := env) t hR hz e0 e1 hle (by rw [hlast]; exact Nat.le_refl _)
  subst hL
  obtain ⟨g', D', φ', w', x', env', s1, s2, s3, s4, s5⟩ := draw_ops (r := k') (recJ_sound hrec) t (by rw [e0]; exact Nat.le_refl _) h0u e2.symm (cs ++ c0) idx [] 0 φ _ env _ horder I0 hF0 (by simp [Frame.atR])
  have I := s3.move t (x' := (drawnL P (numT P fn) ops).length) (Nat.le_refl _) fun i o hk => by
    have hl := (List.getElem?_eq_some_iff.1 hk.1).1
    exact ⟨fun _ => hl, fun _ => s2 i (by omega)⟩
  have hals := t.als _ (Nat.le_refl _)
  generalize hn : (drawnL P (numT P fn) ops).length = n at *
  have hlt : ∀ {i : Nat} {o : O}, (drawnL P (numT P fn) ops)[i]? = some o → i < n := fun {i o} e => by
    have := (List.getElem?_eq_some_iff.1 e).1; omega
  have hFE : FD P (drawnL P (numT P fn) ops) S v D' n = fun i => T.get i (allT (S n).als (S n).h.heap) := by
    funext i
    by_cases hp : ∃ b, Pend P (drawnL P (numT P fn) ops) S v D' n i b
    · obtain ⟨b, hp⟩ := hp
      rw [FD_pend t hp]
      obtain ⟨j, q1, q2, q3⟩ := hp
      have q2' := q2
      obtain ⟨o', _, hk', _⟩ := q2'
      rw [putT_mem (b := b) (fun al ha _ he => ?_) (.inl ⟨⟨j, i, b⟩, (hals _).2 ⟨hlt hk'.1, q2, q3⟩, rfl, rfl⟩)]
      have := ((hals al).1 ha).2.1
      rw [he] at this
      exact (IsAl.same t this q2).2
    · rw [FD_else fun b q => hp ⟨b, q⟩, putT_other fun al ha _ he => hp ⟨al.b, al.i, ?_⟩]
      obtain ⟨q1, q2, q3⟩ := (hals al).1 ha
      subst he
      exact ⟨s2 al.i (by omega), q2, q3⟩
  have hend := I.heap
  have hadv := I.adv
  have hlm := I.lim
  rw [hFE] at hend hadv
  have hev : ∀ p, ev env' (.tmp p) = ev (S n).env (.tmp p) := by
    intro p
    have q := t.env n (by omega)
    rw [e2] at q
    by_cases c : ∃ (j : Nat) (oj : O), (drawnL P (numT P fn) ops)[j]? = some oj ∧ oj.dst = some p
    · obtain ⟨j, oj, ej, dj⟩ := c
      rw [I.env.1 j oj p (s2 j (by have := hlt ej; omega)) ej dj, q.1 j oj p (hlt ej) ej dj]
    · have c' : ∀ (D : Nat → Prop) (j : Nat) (o : O), D j → (drawnL P (numT P fn) ops)[j]? = some o → o.dst ≠ some p := fun D j oj _ ej dj => c ⟨j, oj, ej, dj⟩
      rw [I.env.2 p (c' _), q.2 p (c' _)]
  have hle : Le φ φ' := hadv.le
  have st1 : Go.step P (lone g' (cs ++ c0) w') = .next (lone (g'.atR ⟨g'.tmps, g'.defers⟩ k') (cs ++ c0) w') := step_at s4 rfl s5 stepR_region_end
  have hF' : FrR P φ' ⟨fn, (S n).env, k, defers, .run, dk, round⟩ (g'.atR ⟨g'.tmps, g'.defers⟩ k') := by
    have q := s4.setTodo (hk.mono hle) rfl
    refine ⟨q.fn, fun tt => ?_, q.size, q.todo, q.defers, q.mode, q.kind, q.round⟩
    rw [← hev]
    exact q.env tt
  have hb := bot_eq (fr := ⟨fn, env, .code (.drawn (drawnL P (numT P fn) ops)) :: k, defers, .run, dk, round⟩) (fr' := ⟨fn, (S n).env, k, defers, .run, dk, round⟩) rfl rfl callers h ⟨allT (S n).als (S n).h.heap, (S n).h.next, (S n).h.ser, (S n).h.lim⟩
  exact ⟨_, cs, w', φ', (Steps.one st0).trans (s1.trans (.one st1)), HRF.toR (h := ⟨allT (S n).als (S n).h.heap, (S n).h.next, (S n).h.ser, (S n).h.lim⟩) hend hlm, hF', hC.mono hle,
    AdvF.toAdv (h := ⟨allT (S n).als (S n).h.heap, (S n).h.next, (S n).h.ser, (S n).h.lim⟩) hadv (hlm.trans hz.symm), hb.1, hb.2⟩

/-- One step. -/
theorem step_sound {s : St} {rec : St → Out} (hrec : Sound P rec) (hR : HR P φ s.hp w) (hz : s.hp.lim = 0) (hF : FrR P φ s.cur g) (hC : FrsR P φ s.callers cs) : OutR P c0 φ s g cs w (step P rec s) :=
  step_run hrec hR hz hF hC fun _ _ _ hm ht _ hg hk => drawn_run hrec hR hz hF hC hm ht hg hk
end
end Go.Proofs.YtialpccieggaoaaGreatDoor.Am

namespace Go.Proofs.YtialpccieggaoaaGreatDoor.Am
open Go.RowKit

/-- As 'Sound', whatever frames there are. -/
def Sounds (P : Program) (st : St → Out) : Prop :=
  ∀ (s : St) (φ : Phi) (w : World) (g : Frame) (cs c0 : List Frame), HR P φ s.hp w → s.hp.lim = 0 → FrR P φ s.cur g → FrsR P φ s.callers cs → OutR P c0 φ s g cs w (st s)

theorem Sounds.sound {P : Program} {st : St → Out} (h : Sounds P st) : Sound P st := h

theorem pow_sounds {P : Program} {st : St → Out} (h : Sounds P st) : ∀ n, Sounds P (pow st n)
  | 0 => h
  | n + 1 => fun s φ w g cs c0 hR hz hF hC => by
    have q := pow_sounds h n s φ w g cs c0 hR hz hF hC
    unfold pow
    split
    · rename_i s' e
      rw [e] at q
      obtain ⟨g', cs', w', φ', q1, q2, q3, q4, q5, q6, q7⟩ := q
      exact OutR.then hR hz q1 q5 q6 q7 (pow_sounds h n s' φ' w' g' cs' c0 q2 (q5.lim.trans hz) q3 q4)
    · exact q

theorem run_sounds (P : Program) : ∀ d, Sounds P (run P d)
  | 0 => fun _ _ _ _ _ _ _ _ _ _ => trivial
  | d + 1 => pow_sounds (fun _ _ _ _ _ _ hR hz hF hC => step_sound (run_sounds P d).sound hR hz hF hC) 30

noncomputable def mkB : List (Pos × Blk) → T Blk
  | [] => .e
  | x :: l => T.set x.1 (some x.2) (mkB l)

theorem mkB_get : ∀ {bs : List (Pos × Blk)} {id : Pos} {b : Blk}, T.get id (mkB bs) = some b → (id, b) ∈ bs
  | [], id, b, e => by rw [show mkB [] = .e from rfl, T.get_e] at e; cases e
  | x :: l, id, b, e => by
    unfold mkB at e
    rw [T.get_set] at e
    by_cases c : id = x.1
    · rw [if_pos c] at e; cases e; rw [c]; exact List.mem_cons_self
    · rw [if_neg c] at e; exact List.mem_cons_of_mem _ (mkB_get e)

/-- The heap that a call begins with: what is known of the package variables. -/
noncomputable def heap0 (vs : List (Nat × Cells)) : Hp := ⟨mkB (vs.map fun x => (Pos.ofNat x.1, .cells 0 x.2 0 0 0 0 true false)), Pos.ofNat globTop, 0, 0⟩

/-- A package variable, as it is when the call begins: its first cells. -/
def VarR (w : World) (g : Nat) (c : Cells) : Prop := c.wf ∧ ∃ C el fr, w.heap[g]? = some (.cells C el fr) ∧ ∀ (i : Nat) (v : AV), i < c.size → c.toL[i]? = some v → ∃ x, C[i]? = some x ∧ ∀ φ, Rel φ v x

noncomputable def startW (P : Program) (f : FuncId) (vs : List (Nat × Cells)) : Option St :=
  match beginFn P f [] with
  | some fr => some ⟨fr, [], heap0 vs⟩
  | none => none

/-- The package's variables, and nothing else. -/
noncomputable def phi0 (w : World) : Phi := fun id gen => if gen = 0 ∧ id.num ≤ globTop ∧ globOk (id.num - 1) = true then (match w.heap[id.num - 1]? with | some (.cells C _ _) => some (id.num - 1, 0, C.size) | _ => none) else none

theorem phi0_some {w : World} {id : Pos} {g : Nat} {b : Nat} {s : Int} {n : Nat} (e : phi0 w id g = some (b, s, n)) : g = 0 ∧ id.num ≤ globTop ∧ b = id.num - 1 ∧ s = 0 ∧ ∃ C el fr, w.heap[b]? = some (.cells C el fr) ∧ n = C.size := by
  unfold phi0 at e
  split at e
  · rename_i h
    split at e
    · rename_i C el fr hc
      cases e
      exact ⟨h.1, h.2.1, rfl, rfl, C, el, fr, hc, rfl⟩
    · cases e
  · cases e

theorem phi0_at {w : World} {g : Nat} (hg : globOk g = true) {C : Array Value} {el : TypeId} {fr : Nat × Nat} (h : w.heap[g]? = some (.cells C el fr)) : phi0 w (Pos.ofNat g) 0 = some (g, 0, C.size) := by
  unfold phi0
  have := globOk_lt hg
  rw [Pos.num_ofNat, if_pos ⟨rfl, by omega, hg⟩, show g + 1 - 1 = g by omega, h]

theorem heap0_nonro (vs : List (Nat × Cells)) (id : Pos) : ¬ Nonro (heap0 vs) id := by
  rintro ⟨b, e, f⟩
  have := mkB_get e
  obtain ⟨x, _, hx⟩ := List.mem_map.1 this
  cases hx
  cases f

theorem start_rel {P : Program} {w : World} {vs : List (Nat × Cells)} (hall : ∀ g, globOk g = true → ∃ c, (g, c) ∈ vs) (hvs : ∀ x ∈ vs, globOk x.1 = true ∧ VarR w x.1 x.2) : HR P (phi0 w) (heap0 vs) w := by
  refine ⟨fun id b e => ?_, fun id g r e => ?_, fun id b e => ?_, fun id g b s n id' g' s' n' e e' => .inr ⟨heap0_nonro vs id, heap0_nonro vs id'⟩, fun id g b s n e => ?_, fun g hg => ?_⟩
  · obtain ⟨x, hx, he⟩ := List.mem_map.1 (mkB_get e)
    cases he
    obtain ⟨h1, h2, C, el, fr, h3, h4⟩ := hvs x hx
    have hat := phi0_at h1 h3
    refine ⟨⟨h2, Nat.le_refl _, fun k => absurd k (Nat.lt_irrefl _), fun j hj => ?_, fun j j' b s n s' n' _ a2 _ a4 k k' => ?_, fun j _ hj => ?_⟩, fun j b s n C el fr _ _ _ _ => .inl rfl⟩
    · cases q : phi0 w (Pos.ofNat x.1) j with
      | none => rfl
      | some r => obtain ⟨b, s, n⟩ := r; have := (phi0_some q).1; omega
    · have := (phi0_some k).2.2.2.1
      have := (phi0_some k').2.2.2.1
      omega
    · have : j = 0 := by omega
      subst this
      refine ⟨x.1, 0, C.size, C, el, fr, hat, h3, rfl, (fun q => by cases q), fun i v _ hi hv => ?_⟩
      rw [if_pos rfl] at hi
      obtain ⟨y, y1, y2⟩ := h4 i v hi hv
      exact ⟨i, y, by omega, y1, y2 _⟩
  · obtain ⟨b, s, n⟩ := r
    have := (phi0_some e).2.1
    exact .inl (by show id.num < (Pos.ofNat globTop).num; rw [Pos.num_ofNat]; omega)
  · obtain ⟨x, hx, he⟩ := List.mem_map.1 (mkB_get e)
    cases he
    have := globOk_lt (hvs x hx).1
    exact .inl (by show (Pos.ofNat x.1).num < (Pos.ofNat globTop).num; rw [Pos.num_ofNat, Pos.num_ofNat]; omega)
  · obtain ⟨_, _, _, _, C, el, fr, h, _⟩ := phi0_some e
    exact heap_lt h
  · obtain ⟨c, hc⟩ := hall g hg
    obtain ⟨_, _, C, el, fr, h3, _⟩ := hvs _ hc
    exact ⟨_, phi0_at hg h3⟩
end Go.Proofs.YtialpccieggaoaaGreatDoor.Am

namespace Go.Proofs.YtialpccieggaoaaGreatDoor.Am
open Go.RowKit Go.ChangeShapes Go.WideShapes Go.ChangeAt

theorem post_of_below {P : Program} {H : Type} {enc : TypeId × Value → H} {f : Func} {s : ChangeSpec} {apart fresh handsOn again : Bool} {W W' : World} {args : Array Value} {v : Value} {ds gs : List (DataW H)} {before pa pv : List MemPlace}
    (hW : DataW.Whole enc P f.params.toList s.vars apart W args.toList ds gs before)
    (hres : ∀ (b : Nat) (sp : Nat → Bool) (hd : Bool), DataW.TrodAll enc P W' b sp hd f.resultTypes.toList (v.resultList f.resultTypes.size) (s.fn H (ds ++ gs)).results [])
    (hargs : ∀ sp : Nat → Bool, (∀ p ∈ before, sp p.block = true) → DataW.TrodAll enc P W' 0 sp true f.params.toList args.toList (s.fn H (ds ++ gs)).args pa)
    (hvars : ∀ sp : Nat → Bool, (∀ p ∈ before, sp p.block = true) → DataW.TrodVars enc P W' sp s.vars (s.fn H (ds ++ gs)).vars pv)
    (hps : before = pa ++ pv) (hb : Below W.heap.size W W')
    (hok : ∀ (j : Nat) (t : TypeId) (r : Value), f.resultTypes[j]? = some t → (v.resultList f.resultTypes.size)[j]? = some r → Value.okWide P W' .any 0 t r) :
    s.post enc P f apart fresh handsOn again W args v W' := by
  have hold : ∀ p ∈ before, (fun b => decide (b < W.heap.size)) p.block = true := fun p hp => by simpa using hW.lt p hp
  refine ⟨ds, gs, before, [], pa, pv, hW, hres _ _ _, hargs _ hold, hvars _ hold, World.keptBut_mono (fun p hp => ⟨hp, ?_⟩) (hb.frame (· ∈ before)), fun _ => ?_⟩
  · rw [hps, List.mem_append] at hp
    exact Or.inr hp
  · have hlt := hW.lt
    obtain ⟨_, _, _, _, _, hz, hn⟩ := hW
    refine ⟨hok, _, _, ([] ++ pa) ++ pv, ⟨[] ++ pa, pv, trodAll_append (hargs _ (fun _ _ => rfl)) (hres _ _ _), hvars _ (fun _ _ => rfl), rfl, ?_, ?_⟩, ?_⟩
    · intro b off hp
      have hm : MemPlace.cell b off ∈ before := by rw [hps]; simpa using hp
      rw [hb.frozen (p := { block := b, off := off }) (hlt _ hm)]
      exact hz b off hm
    · intro ha
      have := hn ha
      rw [hps] at this
      simpa using this
    · intro p hp _
      rw [hps]
      simpa using hp
end Go.Proofs.YtialpccieggaoaaGreatDoor.Am
