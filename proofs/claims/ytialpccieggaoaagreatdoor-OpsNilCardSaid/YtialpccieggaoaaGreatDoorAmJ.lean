import Derived.Orders
import Derived.Test.YtialpccieggaoaaGreatDoorAmI
/- THE ABSTRACT MACHINE, part J: a machine over values without block numbers, run by the kernel, and the proof that the model's machine does what it does. No condition. -/
set_option linter.unusedSimpArgs false
set_option linter.unusedVariables false
namespace Go.Proofs.YtialpccieggaoaaGreatDoor.Am

/-- The step where what is ranged over is another loop's yield. -/
theorem stepR_rangeFunc_round {P : Program} {b : Frame} {a : Act} {k : List Go.Item} {cs : List Frame} {w : World} {g : Operand} {ps : Array Tmp} {assign body : Code} {l : Nat} {mark : List Deferred} {w₁ w₁' w₂ : World} {d : Deferred}
    {l' : Nat} {f : FuncId} {tmps : Array Value} {assign' body' : Code}
    (he : (Instr.enterLoop b.fn a.tmps ps assign body b.roundOf).run P w = .ok (l, mark) w₁)
    (hres : (resolve a.eval (rangeCall g l) 0).run P w₁ = .ok d w₁') (hinv : (invoke d.target d.args).run P w₁' = .ok (.round l' f tmps assign' body') w₂) :
    Go.step P (lone (b.atR a (.code (.rangeFunc g ps assign body) :: k)) cs w) =
      .next (lone (Frame.round l' f tmps assign' body' .normal) (b.atR { a with defers := mark ++ a.defers } (.inRangeFunc l :: k) :: cs) w₂) :=
  step_lone_go (by
    have hev := Frame.eval_atR b { a with defers := mark ++ a.defers } (.inRangeFunc l :: k)
    simp only [Frame.atR] at hev
    have hres' : Sem.run P (resolve ({ tmps := a.tmps, defers := mark ++ a.defers } : Act).eval { callee := .value g, args := #[.const (.func (.yield l) #[] #[])], argTypes := #[] } 0) w₁ = .ok d w₁' := hres
    simp [stepG, stepG.exec, Frame.atR, Sem.runT_eq, he, GStep.bare_after, stepG.apply, hev, Sem.run_bind, hres', hinv, Result.andThen])

section
variable {P : Program} {φ : Phi} {h : Hp} {w : World} {fr : Fr} {callers : List Fr} {g : Frame} {cs c0 : List Frame}

theorem roundOf_some (hF : FrR P φ fr g) {l : Pos} (hr : fr.round = some l) : ∃ b, g.roundOf = some b ∧ φ l 0 = some (b, 0, 0) := by
  have := hF.round
  rw [hr] at this
  cases hq : g.roundOf <;> rw [hq] at this <;> first | exact ⟨_, rfl, this⟩ | (cases this)

/-- A range over a function begins. -/
theorem range_run (hR : HR P φ h w) (hz : h.lim = 0) (hF : FrR P φ fr g) (hC : FrsR P φ callers cs) (hm : fr.mode = .run) {f : Operand} {f' : Opd} {ps : Array Tmp} {assign body : Code} {k : List Item} {k' : List Go.Item}
    (hg : g.todo = .code (.rangeFunc f ps assign body) :: k') (hk : ItemsR P φ (numT P fr.fn) k k') (hf : compOpd P f = some f') (hps : ∀ t ∈ ps.toList, t < numT P fr.fn)
    {φ1 : Phi} {h1 : Hp} {w1 : World} {around : Pos} {dfr : Nat} {mark : List Deferred} {defers : List AD} (hR1 : HR P φ1 h1 w1) (hA1 : Adv h w φ h1 w1 φ1) (har : φ1 around 0 = some (dfr, 0, 0)) (hd : DefsR φ1 defers (mark ++ g.defers))
    (hrun : (Instr.enterLoop g.fn g.tmps ps assign body g.roundOf).run P w = .ok (w1.heap.size, mark) (w1.alloc (.loop { state := .ready, pending := none, fn := g.fn, tmps := g.tmps, params := ps, assign := assign, body := body, defers := dfr }))) :
    OutR P c0 φ ⟨fr, callers, h⟩ g cs w
      (newK h1 (fun ser => .loop ser .ready none fr.fn fr.env (ps.toList.map Pos.ofNat) (comp P (numT P fr.fn) assign) (comp P (numT P fr.fn) body) around) fun l h =>
            let s : St := ⟨{ fr with todo := .inRange l :: k, defers := defers }, callers, h⟩
            match ev fr.env f' with
            | .fn (.func g) first captured => apply P s (enterA P h g (first ++ (.yield l :: captured)))
            | .yield l' => apply P s (.round l' [.yield l])
            | _ => .fail "rangeFunc what") := by
  rw [newK_eq]
  simp only
  obtain ⟨q1, q2⟩ := newLoop_run (fn := fr.fn) (env := fr.env) (around := around) hR1 (.inl (hA1.lim.trans hz)) h1.ser (Nat.succ h1.ser)
    (L := { state := .ready, pending := none, fn := g.fn, tmps := g.tmps, params := ps, assign := assign, body := body, defers := dfr }) rfl rfl hF.fn ((hF.env.run hm).mono hA1.le) hF.size rfl hps rfl rfl har
  generalize hw2 : w1.alloc _ = w2 at *
  generalize hφ2 : φ1.put h1.next 0 (w1.heap.size, 0, 0) = φ2 at *
  have hl : φ2 h1.next 0 = some (w1.heap.size, 0, 0) := by rw [← hφ2]; exact Phi.put_same _ _ _ _
  generalize hh2 : (⟨_, _, _, _⟩ : Hp) = h2 at *
  have hA : Adv h w φ h2 w2 φ2 := hA1.trans hR q2 (Room.was0 hz)
  have hF2 : FrR P φ2 { fr with todo := .inRange h1.next :: k, defers := defers } (g.atR ⟨g.tmps, mark ++ g.defers⟩ (.inRangeFunc w1.heap.size :: k')) :=
    ⟨hF.fn, hF.env.mono hA.le, hF.size, .cons hl (hk.mono hA.le), hd.mono q2.le, by show ModeR _ fr.mode .run; rw [hm]; trivial, hF.kind, hF.round.mono hA.le⟩
  have rf : Rel φ2 (ev fr.env f') ((Act.mk g.tmps g.defers).eval f) := opd_rel (P := P) (h := h2) (w := w2) q1 (a := ⟨g.tmps, g.defers⟩) ((hF.env.run hm).mono hA.le) hf
  generalize hX : (Act.mk g.tmps g.defers).eval f = X at rf
  split
  · rename_i gg first captured e
    rw [e] at rf
    cases rf with
    | @fn _ _ _ X Y k1 k2 =>
    have hres : (resolve (Act.mk g.tmps g.defers).eval (rangeCall f w1.heap.size) 0).run P w2 = .ok { target := .fn (.func gg) Y, args := X ++ #[Value.func (.yield w1.heap.size) #[] #[]] } w2 := by
      simp only [resolve, hX, rangeCall, List.map_toArray, List.map_cons, List.map_nil]
      rfl
    have hxs : RelL φ2 (first ++ (.yield h1.next :: captured)) ((X ++ #[Value.func (.yield w1.heap.size) #[] #[]]) ++ Y).toList := by
      simp only [Array.toList_append, List.append_assoc]
      exact k1.append (.cons (.yield hl) k2)
    have hen := enter_run (P := P) (φ := φ2) (h := h2) (w := w2) (f := gg) hxs
    unfold apply
    cases hent : enterA P h2 gg (first ++ (.yield h1.next :: captured)) with
    | enter f3 args3 h3 =>
      rw [hent] at hen
      obtain ⟨rfl, xs, fn3, c3, r1, r2, r3, r4⟩ := hen
      simp only
      split
      · rename_i fr' hb
        obtain ⟨z1, z2, z3, _⟩ := begin_run hb r4
        refine enter_out hA q1 hF2 hC rfl rfl z1 ?_
        exact step_at hF hm hg (stepR_rangeFunc hrun hres r1)
      · trivial
    | val v h' => unfold enterA at hent; split at hent <;> (try split at hent) <;> first | (cases hent; done) | (cases hq : (Func.name _ == "runtime.NumGoroutine") <;> rw [hq] at hent <;> cases hent)
    | round => unfold enterA at hent; split at hent <;> (try split at hent) <;> first | (cases hent; done) | (cases hq : (Func.name _ == "runtime.NumGoroutine") <;> rw [hq] at hent <;> cases hent)
    | defer => unfold enterA at hent; split at hent <;> (try split at hent) <;> first | (cases hent; done) | (cases hq : (Func.name _ == "runtime.NumGoroutine") <;> rw [hq] at hent <;> cases hent)
    | recover => unfold enterA at hent; split at hent <;> (try split at hent) <;> first | (cases hent; done) | (cases hq : (Func.name _ == "runtime.NumGoroutine") <;> rw [hq] at hent <;> cases hent)
    | fork => trivial
    | panic => unfold enterA at hent; split at hent <;> (try split at hent) <;> first | (cases hent; done) | (cases hq : (Func.name _ == "runtime.NumGoroutine") <;> rw [hq] at hent <;> cases hent)
    | fail => trivial
  · rename_i l' e
    rw [e] at rf
    cases rf with
    | @yield _ b' k1 =>
    have hres : (resolve (Act.mk g.tmps g.defers).eval (rangeCall f w1.heap.size) 0).run P w2 = .ok { target := .fn (.yield b') #[], args := #[] ++ #[Value.func (.yield w1.heap.size) #[] #[]] } w2 := by
      simp only [resolve, hX, rangeCall, List.map_toArray, List.map_cons, List.map_nil]
      rfl
    unfold apply
    simp only
    split
    · rename_i fr' hb
      obtain ⟨f4, tmps4, assign4, body4, e1, e2, e3⟩ := round_run (xs := #[] ++ #[Value.func (.yield w1.heap.size) #[] #[]]) q1 k1 (.cons (.yield hl) .nil) hb
      refine enter_out hA q1 hF2 hC rfl rfl e2 ?_
      exact step_at hF hm hg (stepR_rangeFunc_round hrun hres e1)
    · trivial
  · trivial
end
end Go.Proofs.YtialpccieggaoaaGreatDoor.Am

namespace Go.Proofs.YtialpccieggaoaaGreatDoor.Am

section
variable {P : Program} {φ : Phi} {h : Hp} {w : World} {callers : List Fr} {g : Frame} {cs c0 : List Frame}

theorem ItemsR.code {n : Nat} {k : List Item} {k' : List Go.Item} (c : Code) (hk : ItemsR P φ n k k') : ItemsR P φ n (.code (comp P n c) :: k) (.code c :: k') :=
  .cons (y := .code c) (show comp P n c = comp P n c from rfl) hk
theorem ItemsR.blk {n : Nat} {k : List Item} {k' : List Go.Item} (id : Nat) (hk : ItemsR P φ n k k') : ItemsR P φ n (.inBlock id :: k) (.inBlock id :: k') :=
  .cons (y := .inBlock id) (show id = id from rfl) hk
theorem ItemsR.lop {n : Nat} {k : List Item} {k' : List Go.Item} (c : Code) (hk : ItemsR P φ n k k') : ItemsR P φ n (.inLoop (comp P n c) :: k) (.inLoop c :: k') :=
  .cons (y := .inLoop c) (show comp P n c = comp P n c from rfl) hk
theorem ItemsR.scp {n : Nat} {k : List Item} {k' : List Go.Item} (c : Code) (hk : ItemsR P φ n k k') : ItemsR P φ n (.inScope (comp P n c) :: k) (.inScope c :: k') :=
  .cons (y := .inScope c) rfl hk

/-- An item of code. -/
theorem code_run {fn : FuncId} {env : T AV} {defers : List AD} {dk : Bool} {round : Option Pos} {c : Code} {k : List Item} {k' : List Go.Item} (rec : St → Out) (hR : HR P φ h w) (hz : h.lim = 0)
    (hF : FrR P φ ⟨fn, env, .code (comp P (numT P fn) c) :: k, defers, .run, dk, round⟩ g) (hC : FrsR P φ callers cs) (hg : g.todo = .code c :: k') (hk : ItemsR P φ (numT P fn) k k')
    (hdrawn : ∀ id ops, c = .region id ops true → OutR P c0 φ ⟨⟨fn, env, .code (comp P (numT P fn) c) :: k, defers, .run, dk, round⟩, callers, h⟩ g cs w (step P rec ⟨⟨fn, env, .code (comp P (numT P fn) c) :: k, defers, .run, dk, round⟩, callers, h⟩)) :
    OutR P c0 φ ⟨⟨fn, env, .code (comp P (numT P fn) c) :: k, defers, .run, dk, round⟩, callers, h⟩ g cs w (step P rec ⟨⟨fn, env, .code (comp P (numT P fn) c) :: k, defers, .run, dk, round⟩, callers, h⟩) := by
  cases c with
  | skip => exact OutR.to hR hF hC rfl hg hk (fun b a cs _ _ => stepR_skip)
  | label l => exact OutR.to hR hF hC rfl hg hk (fun b a cs _ _ => stepR_label)
  | seq a b => exact OutR.to hR hF hC rfl hg (.code a (.code b hk)) (fun b a cs _ _ => stepR_seq)
  | block id b => exact OutR.to hR hF hC rfl hg (.code b (.blk id hk)) (fun b a cs _ _ => stepR_block)
  | loop b => exact OutR.to hR hF hC rfl hg (.code b (.lop b hk)) (fun b a cs _ _ => stepR_loop)
  | scope b => exact OutR.to hR hF hC rfl hg (.code b (.scp b hk)) (fun b a cs _ _ => stepR_scope)
  | region id ops draw =>
    cases draw with
    | true => exact hdrawn id ops rfl
    | false =>
      refine OutR.to hR hF hC rfl hg (.cons (y := .inRegion ops (List.range ops.size)) (show _ ∧ _ from ⟨?_, fun i hi => by simpa using hi⟩) hk) (fun b a cs _ _ => stepR_region)
      apply List.ext_getElem?
      intro i
      simp only [List.getElem?_map]
      by_cases hi : i < ops.size
      · rw [List.getElem?_range hi, Array.getElem?_toList, Array.getElem?_eq_getElem hi]
        simp [Array.getD_eq_getD_getElem?, hi]
      · rw [List.getElem?_eq_none (by simpa using hi), List.getElem?_eq_none (by simpa using hi)]; rfl
  | goto l =>
    unfold step
    simp only [comp]
    cases hx : gotoA l k with
    | some r =>
      obtain ⟨r', y1, y2⟩ := gotoA_spec hk l r hx
      exact OutR.to hR hF hC rfl hg y2 (fun b a cs _ _ => stepR_goto y1)
    | none => trivial
  | refuse why => trivial
  | cond c a b =>
    simp only [comp] at *
    cases hc : compOpd P c with
    | none => trivial
    | some c' =>
      rw [hc] at hF
      simp only at hF ⊢
      unfold step
      simp only
      split
      · rename_i e
        have := cond_run (a := ⟨g.tmps, g.defers⟩) hR hF.env hc e
        exact OutR.to hR hF hC rfl hg (.code a hk) (fun b a cs h1 h2 => by rw [stepR_cond (t := true) (by rw [h2]; exact this)]; rfl)
      · rename_i e
        have := cond_run (a := ⟨g.tmps, g.defers⟩) hR hF.env hc e
        exact OutR.to hR hF hC rfl hg (.code b hk) (fun b a cs h1 h2 => by rw [stepR_cond (t := false) (by rw [h2]; exact this)]; rfl)
      · trivial
  | ret =>
    unfold step
    simp only [comp]
    cases round with
    | none => exact ret_out hR hF hC rfl fun cs0 => step_at hF rfl hg (by rw [stepR_ret (roundOf_none hF rfl), ← hg, ← frame_run (hF.run_mode rfl)])
    | some l =>
      obtain ⟨b, e1, e2⟩ := roundOf_some hF rfl
      refine leave_run (jump' := some .ret) hR hC e2 rfl (fun L _ => fun _ _ => rfl) fun v w' c cs1 hr => step_at hF rfl hg (stepR_round_ret e1 (kind_round hF rfl) hr)
  | exit id =>
    unfold step
    simp only [comp]
    obtain ⟨x1, x2⟩ := exitA_spec hk id
    cases hx : exitA id k with
    | some r =>
      obtain ⟨r', y1, y2⟩ := x1 r hx
      exact OutR.to hR hF hC rfl hg y2 (fun b a cs _ _ => stepR_exit y1)
    | none =>
      have hx' := x2 hx
      cases round with
      | none => trivial
      | some l =>
        obtain ⟨b, e1, e2⟩ := roundOf_some hF rfl
        exact leave_run (jump' := some (.exit id)) hR hC e2 rfl (fun L _ => fun _ _ => rfl) fun v w' c cs1 hr => step_at hF rfl hg (stepR_round_exit e1 (kind_round hF rfl) hx' hr)
  | rangeFunc f ps assign body =>
    simp only [comp] at *
    cases hf : compOpd P f with
    | none => trivial
    | some f' =>
      rw [hf] at hF
      simp only at hF ⊢
      cases hps : (ps.toList.all fun t => Nat.blt t (numT P fn)) with
      | false => trivial
      | true =>
        rw [hps, cond_true] at hF
        rw [cond_true]
        have hps' : ∀ t ∈ ps.toList, t < numT P fn := fun t ht => blt_iff.1 (List.all_eq_true.1 hps t ht)
        unfold step
        simp only
        cases round with
        | none =>
          have e1 := roundOf_none hF rfl
          simp only
          rw [newK_eq]
          obtain ⟨q1, q2⟩ := newDfr_run hR (.inl hz) h.ser (Nat.succ h.ser)
          refine range_run (around := h.next) (dfr := w.heap.size) (mark := [{ target := .collected w.heap.size, args := #[] }]) hR hz hF hC rfl hg hk hf hps' q1 q2 (Phi.put_same _ _ _ _) (.mark (Phi.put_same _ _ _ _) (hF.defers.mono q2.le)) ?_
          simp only [Instr.enterLoop, e1, Sem.run_bind, run_newObj, Sem.run_pure, Result.andThen_ok]
          rfl
        | some l =>
          obtain ⟨b, e1, e2⟩ := roundOf_some hF rfl
          simp only
          split
          · rename_i hid
            obtain ⟨b', L, z1, z2, _, _, _, _, _, _, _, _, _, z12⟩ := hR.blk _ _ hid
            rw [e2, Option.some.injEq, Prod.mk.injEq] at z1
            obtain ⟨rfl, _⟩ := z1
            refine range_run (mark := []) hR hz hF hC rfl hg hk hf hps' hR (Adv.refl h w φ) z12 hF.defers ?_
            simp only [Instr.enterLoop, e1, Sem.run_bind, run_getLoop z2, run_newObj, Sem.run_pure, Result.andThen_ok]
            rfl
          · trivial

theorem beginRound_out {fn : FuncId} {env : T AV} {defers : List AD} {dk : Bool} {l : Pos} {k : List Item} {k' : List Go.Item} (hR : HR P φ h w)
    (hF : FrR P φ ⟨fn, env, .beginRound :: k, defers, .run, dk, some l⟩ g) (hC : FrsR P φ callers cs) (hg : g.todo = .beginRound :: k') (hk : ItemsR P φ (numT P fn) k k') (ok : LState → Bool) (hok : ∀ st, ok st = true → st = .ready) :
    OutR P c0 φ ⟨⟨fn, env, .beginRound :: k, defers, .run, dk, some l⟩, callers, h⟩ g cs w (setLoop h l ok .busy id fun _ h => .next ⟨⟨fn, env, k, defers, .run, dk, some l⟩, callers, h⟩) := by
  obtain ⟨b, e1, e2⟩ := roundOf_some hF rfl
  rcases setLoop_run hR e2 ok .busy id (fun _ h => Out.next ⟨⟨fn, env, k, defers, .run, dk, some l⟩, callers, h⟩) with ⟨why, e⟩ | ⟨p, h', L, st0, e, z1, z2, z3, z4, z5, z6⟩
  · rw [e]; trivial
  · rw [e]
    have hst : L.state = .ready := by
      have := hok st0 z2
      subst this
      cases hq : L.state <;> rw [hq] at z3 <;> first | rfl | (cases z3)
    obtain ⟨q1, q2⟩ := z6 { L with state := .busy } rfl rfl rfl rfl rfl rfl trivial z4
    have hrun : (Instr.beginRound b).run P w = .ok () (putO w b (.loop { L with state := .busy })) := by
      unfold Instr.beginRound
      rw [Sem.run_bind, run_getLoop z1, Result.andThen_ok, Sem.run_bind, run_setLoop z1, Result.andThen_ok, hst]
      rfl
    have hF' : FrR P φ ⟨fn, env, k, defers, .run, dk, some l⟩ (g.atR ⟨g.tmps, g.defers⟩ k') := hF.setTodo hk rfl
    have hb := bot_eq (fr := ⟨fn, env, .beginRound :: k, defers, .run, dk, some l⟩) (fr' := ⟨fn, env, k, defers, .run, dk, some l⟩) rfl rfl callers h h'
    exact ⟨_, cs, _, φ, .one (step_at hF rfl hg (stepR_beginRound e1 hrun)), q1, hF', hC, q2, hb.1, hb.2⟩

theorem endRange_out {fn : FuncId} {env : T AV} {defers : List AD} {dk : Bool} {l : Pos} {b : Nat} {round : Option Pos} {k : List Item} {k' : List Go.Item} (hR : HR P φ h w)
    (hF : FrR P φ ⟨fn, env, .endRange l :: k, defers, .run, dk, round⟩ g) (hC : FrsR P φ callers cs) (hl : φ l 0 = some (b, 0, 0)) (hg : g.todo = .endRangeFunc b :: k') (hk : ItemsR P φ (numT P fn) k k') (ok : LState → Bool)
    (kk : Option C → List Item) (hok : ∀ st, ok st = true → st ≠ .busy) (hk0 : kk none = k) (hk1 : ∀ c, kk (some c) = .code c :: k) :
    OutR P c0 φ ⟨⟨fn, env, .endRange l :: k, defers, .run, dk, round⟩, callers, h⟩ g cs w (setLoop h l ok .exhausted id fun p h => .next ⟨⟨fn, env, kk p, defers, .run, dk, round⟩, callers, h⟩) := by
  rcases setLoop_run hR hl ok .exhausted id (fun p h => Out.next ⟨⟨fn, env, kk p, defers, .run, dk, round⟩, callers, h⟩) with ⟨why, e⟩ | ⟨p, h', L, st0, e, z1, z2, z3, z4, z5, z6⟩
  · rw [e]; trivial
  · rw [e]
    have hst : (L.state == .busy) = false := by
      have := hok st0 z2
      cases hq : L.state <;> rw [hq] at z3 <;> first | rfl | skip
      cases st0 <;> first | (exact absurd rfl this) | (cases z3)
    obtain ⟨q1, q2⟩ := z6 { L with state := .exhausted } rfl rfl rfl rfl rfl rfl trivial z4
    have hrun : (Instr.endLoop b).run P w = .ok L.pending (putO w b (.loop { L with state := .exhausted })) := by
      unfold Instr.endLoop
      rw [Sem.run_bind, run_getLoop z1, Result.andThen_ok, hst]
      simp only [Bool.false_eq_true, if_false, Sem.run_bind, Sem.run_pure, Result.andThen_ok, run_setLoop z1]
    have ht : ItemsR P φ (numT P fn) (kk p) ((L.pending.map Go.Item.code).toList ++ k') := by
      cases p with
      | none =>
        cases hq : L.pending with
        | none => rw [hk0]; exact hk
        | some c => rw [hq] at z4; cases z4
      | some c =>
        cases hq : L.pending with
        | none => rw [hq] at z4; cases z4
        | some c' =>
          rw [hq] at z4
          rw [hk1]
          have z4 : ∀ m, numT P L.fn ≤ numT P L.fn + m → c = comp P m c' := z4
          rw [z4 (numT P fn) (Nat.le_add_right _ _)]
          exact .code c' hk
    have hF' : FrR P φ ⟨fn, env, kk p, defers, .run, dk, round⟩ (g.atR ⟨g.tmps, g.defers⟩ ((L.pending.map Go.Item.code).toList ++ k')) := hF.setTodo ht rfl
    have hb := bot_eq (fr := ⟨fn, env, .endRange l :: k, defers, .run, dk, round⟩) (fr' := ⟨fn, env, kk p, defers, .run, dk, round⟩) rfl rfl callers h h'
    exact ⟨_, cs, _, φ, .one (step_at hF rfl hg (stepR_endRangeFunc hrun)), q1, hF', hC, q2, hb.1, hb.2⟩

/-- One step. -/
theorem step_run {s : St} {rec : St → Out} (hrec : Sound P rec) (hR : HR P φ s.hp w) (hz : s.hp.lim = 0) (hF : FrR P φ s.cur g) (hC : FrsR P φ s.callers cs)
    (hdrawn : ∀ id ops k, s.cur.mode = .run → s.cur.todo = .code (comp P (numT P s.cur.fn) (.region id ops true)) :: k → ∀ k', g.todo = .code (.region id ops true) :: k' → ItemsR P φ (numT P s.cur.fn) k k' → OutR P c0 φ s g cs w (step P rec s)) :
    OutR P c0 φ s g cs w (step P rec s) := by
  obtain ⟨fr, callers, h⟩ := s
  obtain ⟨fn, env, todo, defers, mode, dk, round⟩ := fr
  simp only at hR hz hF hC hdrawn
  cases mode with
  | ret => exact unwind_run hR hF hC rfl
  | pan v r => exact pan_run hR hF hC rfl
  | run =>
    have htd := hF.todo
    cases todo with
    | nil =>
      generalize hg : g.todo = gt at htd
      cases htd
      unfold step
      simp only
      cases round with
      | none => exact ret_out hR hF hC rfl fun cs0 => step_at hF rfl hg (by rw [stepR_end (roundOf_none hF rfl), ← hg, ← frame_run (hF.run_mode rfl)])
      | some l =>
        obtain ⟨b, e1, e2⟩ := roundOf_some hF rfl
        exact leave_run (jump' := none) hR hC e2 rfl (fun L _ => trivial) fun v w' c cs1 hr => step_at hF rfl hg (stepR_round_end e1 (kind_round hF rfl) hr)
    | cons x k =>
      generalize hg : g.todo = gt at htd
      cases htd with
      | @cons _ y _ k' hx hk =>
      cases x <;> cases y <;> first | (cases hx; done) | skip
      case code.code c c' =>
        have hx : c = comp P (numT P fn) c' := hx
        subst hx
        exact code_run rec hR hz hF hC hg hk (fun id ops e => by subst e; exact hdrawn id ops k rfl rfl k' hg hk)
      case code.inRegion c ops idx =>
        obtain ⟨why, rfl⟩ := hx.code_region
        trivial
      case inBlock.inBlock => exact OutR.to hR hF hC rfl hg hk (fun b a cs _ _ => stepR_inBlock)
      case inScope.inScope => exact OutR.to hR hF hC rfl hg hk (fun b a cs _ _ => stepR_inScope)
      case inLoop.inLoop c c' =>
        have hx : c = comp P (numT P fn) c' := hx
        subst hx
        exact OutR.to hR hF hC rfl hg (.code c' (.lop c' hk)) (fun b a cs _ _ => stepR_inLoop)
      case ops.inRegion => exact ops_run hR hz hF hC rfl rfl hrec
      case beginRound.beginRound =>
        unfold step
        simp only
        cases round with
        | none => trivial
        | some l => exact beginRound_out hR hF hC hg hk _ (fun st e => by cases st <;> first | rfl | (cases e))
      case inRange.inRangeFunc => trivial
      case endRange.endRangeFunc l b =>
        unfold step
        simp only
        exact endRange_out hR hF hC hx hg hk _ _ (fun st e => by cases st <;> first | (cases e; done) | (intro q; cases q)) rfl (fun _ => rfl)
end
end Go.Proofs.YtialpccieggaoaaGreatDoor.Am

namespace Go.Proofs.YtialpccieggaoaaGreatDoor.Am

theorem bit_eq (m i : Nat) : bit m i = m.testBit i := by
  rw [Nat.testBit_eq_decide_div_mod_eq]
  show Nat.beq (m / 2 ^ i % 2) 1 = _
  rw [Bool.eq_iff_iff, beq_iff, decide_eq_true_iff]

theorem opt_two (h h2 : Hp) (why : String) (r : Option AV) : (∃ v, opt h why r = .val v h ∧ opt h2 why r = .val v h2) ∨ ∃ w, opt h why r = .fail w ∧ opt h2 why r = .fail w := by
  cases r with
  | some v => exact .inl ⟨v, rfl, rfl⟩
  | none => exact .inr ⟨why, rfl, rfl⟩

/-- An operation that does not look at the heap. -/
theorem still_two (P : Program) {o : AOp} (env : T AV) (h h2 : Hp) (hk : kindOf o = .still) : (∃ v, evalOp P o env h = .val v h ∧ evalOp P o env h2 = .val v h2) ∨ ∃ w, evalOp P o env h = .fail w ∧ evalOp P o env h2 = .fail w := by
  cases o <;> first | (cases hk; done) | skip
  all_goals (unfold evalOp; simp only [natK_eq, intK_eq])
  case bin => exact opt_two ..
  case un => exact opt_two ..
  case mov => exact .inl ⟨_, rfl, rfl⟩
  case mkIfc => exact .inl ⟨_, rfl, rfl⟩
  case mkFn => exact .inl ⟨_, rfl, rfl⟩
  case lenArr => exact .inl ⟨_, rfl, rfl⟩
  case pick c a b => cases ev env c with
    | bool b => cases b <;> exact .inl ⟨_, rfl, rfl⟩
    | _ => exact .inr ⟨_, rfl, rfl⟩
  case build z p => cases fillA env z p with
    | some l => exact .inl ⟨_, rfl, rfl⟩
    | none => exact .inr ⟨_, rfl, rfl⟩
  case nilCheck x => cases ev env x with
    | fn f a b => cases f <;> first | exact .inl ⟨_, rfl, rfl⟩ | exact .inr ⟨_, rfl, rfl⟩
    | _ => first | exact .inl ⟨_, rfl, rfl⟩ | exact .inr ⟨_, rfl, rfl⟩
  all_goals (try simp only [Bool.cond_eq_ite])
  case part1 | extract => split <;> first | exact opt_two .. | exact .inr ⟨_, rfl, rfl⟩
  case idxArr => (repeat' split) <;> first | exact opt_two .. | exact .inl ⟨_, rfl, rfl⟩ | exact .inr ⟨_, rfl, rfl⟩ | (simp_all; done)
  all_goals ((repeat' split) <;> first | exact .inl ⟨_, rfl, rfl⟩ | exact .inr ⟨_, rfl, rfl⟩ | (simp_all; done))

theorem still_same {P : Program} {o : AOp} {env : T AV} {h h' : Hp} {v : AV} (hk : kindOf o = .still) (e : evalOp P o env h = .val v h') : h' = h ∧ ∀ h2, evalOp P o env h2 = .val v h2 := by
  refine ⟨?_, fun h2 => ?_⟩
  · rcases still_two P env h h hk with ⟨u, e1, _⟩ | ⟨u, e1, _⟩ <;> rw [e1] at e <;> cases e
    rfl
  · rcases still_two P env h h2 hk with ⟨u, e1, e2⟩ | ⟨u, e1, _⟩ <;> rw [e1] at e <;> cases e
    exact e2

/-- An operation that looks at the heap, and no more. -/
theorem load_same {P : Program} {o : AOp} {env : T AV} {h h' : Hp} {v : AV} (hk : kindOf o = .load) (e : evalOp P o env h = .val v h') : h' = h := by
  cases o <;> first | (cases hk; done) | skip
  all_goals (unfold evalOp at e; simp only [natK_eq, Bool.cond_eq_ite, opt] at e)
  all_goals ((repeat' split at e) <;> first | (cases e; done) | (cases e; rfl))

/-- An operation that makes one new block. -/
theorem alloc_shape {P : Program} {o : AOp} {env : T AV} {h h' : Hp} {v : AV} (hk : kindOf o = .alloc) (e : evalOp P o env h = .val v h') : ∃ b, h' = ⟨T.set h.next (some b) h.heap, h.next.succ, Nat.succ h.ser, h.lim⟩ := by
  cases o <;> first | (cases hk; done) | skip
  all_goals (unfold evalOp at e; simp only [newCells, newCellsN_eq, newK_eq, Bool.cond_eq_ite] at e)
  all_goals ((repeat' split at e) <;> first | (cases e; done) | (cases e; exact ⟨_, rfl⟩))
end Go.Proofs.YtialpccieggaoaaGreatDoor.Am

namespace Go.Proofs.YtialpccieggaoaaGreatDoor.Am

def Same (l : List Pos) (env env' : T AV) : Prop := ∀ p ∈ l, ev env (.tmp p) = ev env' (.tmp p)

theorem Same.left {l r : List Pos} {env env' : T AV} (h : Same (l ++ r) env env') : Same l env env' := fun p hp => h p (List.mem_append_left _ hp)
theorem Same.right {l r : List Pos} {env env' : T AV} (h : Same (l ++ r) env env') : Same r env env' := fun p hp => h p (List.mem_append_right _ hp)

variable {env env' : T AV}

theorem ev_congr {x : Opd} (h : Same (slotsO x) env env') : ev env x = ev env' x := by
  cases x with
  | tmp p => exact h p (by simp [slotsO])
  | val v => rfl

theorem evO_congr {x : Option Opd} (h : Same (slotsOO x) env env') (d : Nat) : evO env x d = evO env' x d := by
  cases x with
  | none => rfl
  | some x => unfold evO; simp only [ev_congr (x := x) h]

theorem evL_congr {l : List Opd} (h : Same (slotsL l) env env') : l.map (ev env) = l.map (ev env') := by
  induction l with
  | nil => rfl
  | cons x l ih =>
    have h : Same (slotsO x ++ slotsL l) env env' := h
    rw [List.map_cons, List.map_cons, ev_congr h.left, ih h.right]

theorem fill_congr {l : List (Nat × Nat × Opd)} (h : Same (slotsP l) env env') (cells : List AV) : fillA env cells l = fillA env' cells l := by
  induction l generalizing cells with
  | nil => rfl
  | cons x l ih =>
    obtain ⟨off, size, x⟩ := x
    have h : Same (slotsO x ++ slotsP l) env env' := h
    unfold fillA
    simp only [ev_congr h.left, ih h.right]

theorem evalOp_congr (P : Program) {o : AOp} (h : Same (slotsOf o) env env') (hp : Hp) : evalOp P o env hp = evalOp P o env' hp := by
  cases o with
  | mov x | box x | load1 x | loadG x | nilCheck x | convStr x | strBytes x | bytesStr x | rangeStr x | nextStr x | rangeMap x | nextMap x | entry x | toUnsafe x | sliceData x | panic x | lenS x | lenL x | lenM x | cap x =>
    have e : ev env x = ev env' x := ev_congr h
    unfold evalOp; simp only [e]
  | loadN _ x | un _ x | convInt _ x | mkIfc _ x | fieldAddr _ x | part1 _ x | fromUnsafe _ x =>
    have e : ev env x = ev env' x := ev_congr h
    unfold evalOp; simp only [e]
  | partN _ _ x | clearSl _ _ x =>
    have e : ev env x = ev env' x := ev_congr h
    unfold evalOp; simp only [e]
  | assertT _ _ _ x =>
    have e : ev env x = ev env' x := ev_congr h
    unfold evalOp; simp only [e]
  | extract x _ =>
    have e : ev env x = ev env' x := ev_congr h
    unfold evalOp; simp only [e]
  | pick c a b =>
    have h : Same (slotsO c ++ (slotsO a ++ slotsO b)) env env' := h
    unfold evalOp; simp only [ev_congr h.left, ev_congr h.right.left, ev_congr h.right.right]
  | update _ c a b =>
    have h : Same (slotsO c ++ (slotsO a ++ slotsO b)) env env' := h
    unfold evalOp; simp only [ev_congr h.left, ev_congr h.right.left, ev_congr h.right.right]
  | build _ parts =>
    have h : Same (slotsP parts) env env' := h
    unfold evalOp; simp only [fill_congr h]
  | buildSl _ _ _ parts =>
    have h : Same (slotsP parts) env env' := h
    unfold evalOp; simp only [fill_congr h]
  | store _ x y | idxAddrSl _ x y | copy _ x y | eqPtr _ x y | delete _ x y =>
    have h : Same (slotsO x ++ slotsO y) env env' := h
    unfold evalOp; simp only [ev_congr h.left, ev_congr h.right]
  | eqIfc _ _ x y =>
    have h : Same (slotsO x ++ slotsO y) env env' := h
    unfold evalOp; simp only [ev_congr h.left, ev_congr h.right]
  | bin _ _ _ x y | idxArr _ _ _ x y | mkSl _ _ _ x y | appendZ _ _ _ x y | lookup _ _ _ x y =>
    have h : Same (slotsO x ++ slotsO y) env env' := h
    unfold evalOp; simp only [ev_congr h.left, ev_congr h.right]
  | idxAddrArr _ _ x y | append _ _ x y =>
    have h : Same (slotsO x ++ slotsO y) env env' := h
    unfold evalOp; simp only [ev_congr h.left, ev_congr h.right]
  | idxStr x y | unsafeStr x y | bmin x y | bmax x y =>
    have h : Same (slotsO x ++ slotsO y) env env' := h
    unfold evalOp; simp only [ev_congr h.left, ev_congr h.right]
  | mkFn _ a b =>
    have h : Same (slotsL a ++ slotsL b) env env' := h
    unfold evalOp; simp only [evL_congr h.left, evL_congr h.right]
  | sliceStr x lo hi =>
    have h : Same (slotsO x ++ (slotsOO lo ++ slotsOO hi)) env env' := h
    unfold evalOp; simp only [ev_congr h.left, evO_congr h.right.left, evO_congr h.right.right]
  | sliceSl _ x lo hi mx =>
    have h : Same (slotsO x ++ (slotsOO lo ++ (slotsOO hi ++ slotsOO mx))) env env' := h
    unfold evalOp; simp only [ev_congr h.left, evO_congr h.right.left, evO_congr h.right.right.left, evO_congr h.right.right.right]
  | sliceArr _ _ x lo hi mx =>
    have h : Same (slotsO x ++ (slotsOO lo ++ (slotsOO hi ++ slotsOO mx))) env env' := h
    unfold evalOp; simp only [ev_congr h.left, evO_congr h.right.left, evO_congr h.right.right.left, evO_congr h.right.right.right]
  | ext _ args =>
    have h : Same (slotsL args) env env' := h
    unfold evalOp; simp only [evL_congr h]
  | defer f args =>
    have h : Same (slotsO f ++ slotsL args) env env' := h
    unfold evalOp; simp only [ev_congr h.left, evL_congr h.right]
  | call c args =>
    cases c with
    | value f =>
      have h : Same (slotsO f ++ slotsL args) env env' := h
      unfold evalOp; simp only [ev_congr h.left, evL_congr h.right]
    | invoke r name =>
      have h : Same (slotsO r ++ slotsL args) env env' := h
      unfold evalOp; simp only [ev_congr h.left, evL_congr h.right]
  | new _ | newT _ _ | mkMap | recover | lenArr _ | bad _ => rfl

theorem wanted_congr {o : O} (h : Same (looks o) env env') : wantedA o env = wantedA o env' := by
  unfold wantedA
  cases hg : o.guard with
  | none => rfl
  | some x =>
    obtain ⟨p, b⟩ := x
    have e : ev env (.tmp p) = ev env' (.tmp p) := h p (by simp [looks, hg])
    have key : ∀ env : T AV, (match T.get p env with | some (.bool c) => bif b then c else !c | _ => false) = (match ev env (.tmp p) with | .bool c => bif b then c else !c | _ => false) := by
      intro env
      unfold ev
      simp only
      cases hq : T.get p env with
      | none => rfl
      | some v => cases v <;> rfl
    refine (key env).trans (Eq.trans ?_ (key env').symm)
    rw [e]

theorem looks_op {o : O} (h : Same (looks o) env env') : Same (slotsOf o.op) env env' := by
  intro p hp
  refine h p ?_
  unfold looks
  cases o.guard with
  | none => exact hp
  | some x => exact List.mem_cons_of_mem _ hp
end Go.Proofs.YtialpccieggaoaaGreatDoor.Am

namespace Go.Proofs.YtialpccieggaoaaGreatDoor.Am

def NonroF (F : Pos → Option Blk) (id : Pos) : Prop := ∃ b, F id = some b ∧ b.free

structure HRF (P : Program) (φ : Phi) (F : Pos → Option Blk) (nx lim : Nat) (w : World) : Prop where
  blk : ∀ id b, F id = some b → BR P φ w id b
  used : ∀ id g r, φ id g = some r → Old nx lim id
  dom : ∀ id b, F id = some b → Old nx lim id
  sep : ∀ id g b s n id' g' s' n', φ id g = some (b, s, n) → φ id' g' = some (b, s', n') → id = id' ∨ (¬ NonroF F id ∧ ¬ NonroF F id')
  inb : ∀ id g b s n, φ id g = some (b, s, n) → b < w.heap.size
  glob : ∀ g, globOk g = true → ∃ n, φ (Pos.ofNat g) 0 = some (g, 0, n)

structure AdvF (h : Hp) (w : World) (φ : Phi) (F : Pos → Option Blk) (nx : Nat) (w' : World) (φ' : Phi) : Prop where
  le : Le φ φ'
  os : w'.os = w.os
  output : w'.output = w.output
  tape : w'.tape = w.tape
  size : w.heap.size ≤ w'.heap.size
  next : h.next.num ≤ nx
  new : ∀ id g b s n, φ' id g = some (b, s, n) → b < w.heap.size → ∃ g₀ s₀ n₀, φ id g₀ = some (b, s₀, n₀)
  old : ∀ id, (id.num < h.next.num ∨ nx ≤ id.num) → NonroF F id → Nonro h id
  keep : ∀ b, b < w.heap.size → (∀ id g s n, φ id g = some (b, s, n) → ¬ Nonro h id) → w'.heap[b]? = w.heap[b]?
  hid : ∀ id, (id.num < h.next.num ∨ nx ≤ id.num) → T.get id h.heap = none → F id = none
  same : ∀ id g r, (id.num < h.next.num ∨ nx ≤ id.num) → ¬ Nonro h id → φ' id g = some r → φ id g = some r

variable {P : Program} {φ φ' φ0 : Phi} {w w' w0 : World} {F F' : Pos → Option Blk} {nx nx' : Nat} {h h0 V V' : Hp}

theorem HR.toF (hR : HR P φ h w) : HRF P φ (fun id => T.get id h.heap) h.next.num h.lim w := ⟨hR.blk, hR.used, hR.dom, hR.sep, hR.inb, hR.glob⟩

theorem HRF.sub {lim : Nat} (hR : HRF P φ F nx lim w) (sub : ∀ id b, T.get id V.heap = some b → F id = some b) (hu : ∀ id g r, φ id g = some r → Old V.next.num V.lim id)
    (hd : ∀ id b, T.get id V.heap = some b → Old V.next.num V.lim id) : HR P φ V w :=
  ⟨fun id b e => hR.blk id b (sub id b e), hu, hd, fun id g b s n id' g' s' n' k k' => (hR.sep id g b s n id' g' s' n' k k').imp _root_.id fun q => ⟨fun ⟨b, e, r⟩ => q.1 ⟨b, sub _ b e, r⟩, fun ⟨b, e, r⟩ => q.2 ⟨b, sub _ b e, r⟩⟩, hR.inb, hR.glob⟩

theorem Adv.refl_F (h : Hp) (w : World) (φ : Phi) {nx : Nat} (hn : h.next.num ≤ nx) : AdvF h w φ (fun id => T.get id h.heap) nx w φ :=
  ⟨Le.refl φ, rfl, rfl, rfl, Nat.le_refl _, hn, fun _ g _ s n e _ => ⟨g, s, n, e⟩, fun _ _ k => k, fun _ _ _ => rfl, fun _ _ e => e, fun _ _ _ _ _ e => e⟩

theorem AdvF.toAdv (a : AdvF h0 w0 φ0 (fun id => T.get id h.heap) h.next.num w φ) (hl : h.lim = h0.lim) : Adv h0 w0 φ0 h w φ :=
  ⟨a.le, a.os, a.output, a.tape, a.size, a.next, a.new, a.old, a.keep, hl, a.hid, a.same⟩

theorem Nonro.toF (sub : ∀ id b, T.get id V.heap = some b → F id = some b) {id : Pos} (k : Nonro V id) : NonroF F id :=
  let ⟨b, e, q⟩ := k
  ⟨b, sub id b e, q⟩

theorem merge (hR : HRF P φ F nx 0 w) (A : AdvF h0 w0 φ0 F nx w φ) (h0u : ∀ id g r, φ0 id g = some r → id.num < h0.next.num) (hR' : HR P φ' V' w') (a : Adv V w φ V' w' φ')
    (sub : ∀ id b, T.get id V.heap = some b → F id = some b) (n1 : h0.next.num ≤ V.next.num) (n2 : V'.next.num ≤ nx') (n3 : nx ≤ nx')
    (fresh : ∀ id, V.next.num ≤ id.num → id.num < V'.next.num → F id = none)
    (spec : ∀ id b, F' id = some b → T.get id V'.heap = some b ∨ (T.get id V.heap = none ∧ F id = some b)) : HRF P φ' F' nx' 0 w' ∧ AdvF h0 w0 φ0 F' nx' w' φ' := by
  have old0 : ∀ {m : Nat} {id : Pos}, Old m 0 id → id.num < m := fun {m id} k => by
    rcases k with k | ⟨k, _⟩
    · exact k
    · exact absurd rfl k
  have hwas : ∀ id b, F id = some b → Was V V' id := fun id b e => by
    by_cases c : id.num < V.next.num
    · exact .inl c
    · by_cases c' : id.num < V'.next.num
      · rw [fresh id (by omega) c'] at e; cases e
      · exact .inr (by omega)
  have hu : ∀ id g r, φ' id g = some r → id.num < nx' := fun id g r e => by
    by_cases hn : Nonro V id
    · obtain ⟨b, e1, _⟩ := hn
      have := old0 (hR.dom id b (sub id b e1))
      omega
    · by_cases c : id.num < V.next.num
      · have := old0 (hR.used id g r (a.same id g r (.inl c) hn e)); omega
      · by_cases c' : id.num < V'.next.num
        · omega
        · have := old0 (hR.used id g r (a.same id g r (.inr (by omega)) hn e)); omega
  have w1 : ∀ {id : Pos}, (id.num < h0.next.num ∨ nx' ≤ id.num) → Was V V' id := fun {id} k => by
    rcases k with k | k
    · exact .inl (by omega)
    · exact .inr (by omega)
  have w2 : ∀ {id : Pos}, (id.num < h0.next.num ∨ nx' ≤ id.num) → (id.num < h0.next.num ∨ nx ≤ id.num) := fun {id} k => by omega
  have part : ∀ {id g b s n id' g' s' n'}, φ' id g = some (b, s, n) → φ' id' g' = some (b, s', n') → ¬ Nonro V' id → NonroF F' id → id = id' := fun {id g b s n id' g' s' n'} k k' q ⟨b0, e0, r0⟩ => by
    rcases spec id b0 e0 with e1 | ⟨e1, e2⟩
    · exact absurd ⟨b0, e1, r0⟩ q
    · have hn : ¬ Nonro V id := fun ⟨b', q, _⟩ => by rw [e1] at q; cases q
      have k1 := a.same id g _ (hwas id b0 e2) hn k
      have hb := hR.inb _ _ _ _ _ k1
      obtain ⟨g1, s1, n1, k2⟩ := a.new id' g' b s' n' k' hb
      rcases hR.sep _ _ _ _ _ _ _ _ _ k1 k2 with e | e
      · exact e
      · exact absurd ⟨b0, e2, r0⟩ e.1
  refine ⟨⟨fun id b e => ?_, fun id g r e => .inl (hu id g r e), fun id b e => ?_, fun id g b s n id' g' s' n' k k' => ?_, hR'.inb, hR'.glob⟩, ?_⟩
  · rcases spec id b e with e' | ⟨e1, e2⟩
    · exact hR'.blk id b e'
    · have hn : ¬ Nonro V id := fun ⟨b', q, _⟩ => by rw [e1] at q; cases q
      refine BR.mono a.le (fun g r k => a.same id g r (hwas id b e2) hn k) (fun g y s n k => ?_) (hR.blk id b e2)
      refine a.keep y (hR.inb _ _ _ _ _ k) fun id' g' s' n' k' hn' => ?_
      rcases hR.sep _ _ _ _ _ _ _ _ _ k k' with this | this
      · subst this
        exact hn hn'
      · exact this.2 (hn'.toF sub)
  · rcases spec id b e with e' | ⟨e1, e2⟩
    · by_cases c : id.num < V.next.num ∨ V'.next.num ≤ id.num
      · cases q : T.get id V.heap with
        | none => rw [a.hid id c q] at e'; cases e'
        | some b' => have := old0 (hR.dom id b' (sub id b' q)); exact .inl (by omega)
      · exact .inl (by omega)
    · have := old0 (hR.dom id b e2); exact .inl (by omega)
  · rcases hR'.sep _ _ _ _ _ _ _ _ _ k k' with q | ⟨q, q'⟩
    · exact .inl q
    · by_cases c : NonroF F' id
      · exact .inl (part k k' q c)
      · by_cases c' : NonroF F' id'
        · exact .inl (part k' k q' c').symm
        · exact .inr ⟨c, c'⟩
  · refine ⟨A.le.trans a.le, a.os.trans A.os, a.output.trans A.output, a.tape.trans A.tape, Nat.le_trans A.size a.size, Nat.le_trans A.next n3, fun id g b s n e hb => ?_, fun id hw k => ?_, fun b hb k => ?_, fun id hw e => ?_, fun id g r hw hn e => ?_⟩
    · obtain ⟨g1, s1, n1, e1⟩ := a.new id g b s n e (Nat.lt_of_lt_of_le hb A.size)
      exact A.new id g1 b s1 n1 e1 hb
    · obtain ⟨b, e, q⟩ := k
      rcases spec id b e with e' | ⟨_, e2⟩
      · exact A.old id (w2 hw) ((a.old id (w1 hw) ⟨b, e', q⟩).toF sub)
      · exact A.old id (w2 hw) ⟨b, e2, q⟩
    · rw [← A.keep b hb k]
      refine a.keep b (Nat.lt_of_lt_of_le hb A.size) fun id g s n e hn => ?_
      obtain ⟨g1, s1, n1, e1⟩ := A.new id g b s n e hb
      exact k id g1 s1 n1 e1 (A.old id (.inl (h0u id g1 _ e1)) (hn.toF sub))
    · cases q : F' id with
      | none => rfl
      | some b =>
        have e1 := A.hid id (w2 hw) e
        rcases spec id b q with e' | ⟨_, e2⟩
        · have e3 : T.get id V.heap = none := by
            cases q' : T.get id V.heap with
            | none => rfl
            | some b' => rw [sub id b' q'] at e1; cases e1
          rw [a.hid id (w1 hw) e3] at e'; cases e'
        · rw [e1] at e2; cases e2
    · exact A.same id g r (w2 hw) hn (a.same id g r (w1 hw) (fun k => hn (A.old id (w2 hw) (k.toF sub))) e)
end Go.Proofs.YtialpccieggaoaaGreatDoor.Am

namespace Go.Proofs.YtialpccieggaoaaGreatDoor.Am

inductive Order (ops : Array Oper) : List Nat → List Nat → Prop where
  | nil {D : List Nat} (h : ∀ i, i < ops.size → i ∈ D) : Order ops D []
  | cons {D : List Nat} {i : Nat} {l : List Nat} {o : Oper} (hi : ops[i]? = some o) (hn : i ∉ D) (he : ∀ e ∈ o.after.toList, Region.binds .any e = true → e.on ∈ D) (t : Order ops (i :: D) l) : Order ops D (i :: l)

theorem filter_less {α : Type} {p q : α → Bool} (hle : ∀ x, q x = true → p x = true) {l : List α} {a : α} (ha : a ∈ l) (hp : p a = true) (hq : q a = false) : (l.filter q).length < (l.filter p).length := by
  have mono : ∀ l : List α, (l.filter q).length ≤ (l.filter p).length := by
    intro l
    induction l with
    | nil => exact Nat.le_refl _
    | cons x l ih =>
      rw [List.filter_cons, List.filter_cons]
      cases hqx : q x with
      | false => cases hpx : p x <;> simp <;> omega
      | true => rw [hle x hqx]; simp; omega
  induction l with
  | nil => cases ha
  | cons x l ih =>
    rw [List.filter_cons, List.filter_cons]
    rcases List.mem_cons.1 ha with rfl | ha
    · rw [hp, hq]
      have := mono l
      simp; omega
    · have := ih ha
      cases hqx : q x with
      | false => cases hpx : p x <;> simp <;> omega
      | true => rw [hle x hqx]; simp; omega

theorem edgesIn_mem {md : Region.Mode} {m : Nat} {l : List Edge} (h : edgesIn md m l = true) : ∀ e ∈ l, Region.binds md e = true → m.testBit e.on = true := by
  induction l with
  | nil => intro e he; cases he
  | cons x l ih =>
    simp only [edgesIn, Bool.and_eq_true, Bool.or_eq_true, Bool.not_eq_true'] at h
    intro e he hb
    rcases List.mem_cons.1 he with rfl | he
    · rcases h.1 with k | k
      · rw [hb] at k; cases k
      · rw [bit_eq] at k; exact k
    · exact ih h.2 e he hb

theorem ref_all {md : Region.Mode} {ops : Array Oper} {listed : Array Bool} (hsz : listed.size = ops.size) (hr : Region.ready md ops listed = []) : ∀ (ref : List Nat) (m : Nat), okRef md ops ref m = true →
    (∀ i, m.testBit i = true → listed.getD i false = true) → ∀ i, i < ops.size → listed.getD i false = true
  | [], m, h, hm, i, hi => by
    simp only [okRef] at h
    have h := beq_iff.1 h
    refine hm i ?_
    rw [h]
    show (2 ^ ops.size - 1).testBit i = true
    rw [Nat.testBit_two_pow_sub_one]; simpa using hi
  | j :: ref, m, h, hm, i, hi => by
    simp only [okRef, Bool.and_eq_true] at h
    obtain ⟨h1, _, h3⟩ := h
    refine ref_all hsz hr ref _ h3 (fun k hk => ?_) i hi
    change (m ||| 2 ^ j).testBit k = true at hk
    rw [Nat.testBit_or] at hk
    cases hq : m.testBit k with
    | true => exact hm k hq
    | false =>
      rw [hq, Bool.false_or] at hk
      rw [Nat.testBit_two_pow] at hk
      have : j = k := by simpa using hk
      subst this
      split at h1
      · rename_i o ho
        have he := edgesIn_mem h1
        have hj : j < ops.size := (Array.getElem?_eq_some_iff.1 ho).1
        cases hl : listed.getD j false with
        | true => rfl
        | false =>
          exfalso
          have hmem : j ∈ Region.ready md ops listed := by
            unfold Region.ready
            rw [List.mem_filter]
            refine ⟨List.mem_range.2 hj, ?_⟩
            have : listed.getD j true = false := by
              rw [Array.getD_eq_getD_getElem?, Array.getElem?_eq_getElem (by omega)] at hl ⊢
              exact hl
            rw [this, ho]
            simp only [Bool.not_false, Bool.true_and, Option.map_some, Option.getD_some]
            rw [Array.all_eq_true']
            intro e hmem
            cases hb : Region.binds md e with
            | false => rfl
            | true => simp [hm _ (he e (by simpa using hmem) hb)]
          rw [hr] at hmem
          cases hmem
      · cases h1

theorem order_go {md : Region.Mode} {ops : Array Oper} {ref : List Nat} (href : okRef md ops ref 0 = true) (hmd : ∀ e : Edge, Region.binds .any e = true → Region.binds md e = true) : ∀ (fuel t : Nat) (listed : Array Bool) (D : List Nat),
    listed.size = ops.size → (∀ i, listed.getD i false = true ↔ i ∈ D) → ((List.range ops.size).filter fun i => !listed.getD i false).length ≤ fuel → Order ops D (Region.linearise.go md ops fuel t listed []) := by
  intro fuel
  induction fuel with
  | zero =>
    intro t listed D hsz hD hf
    refine .nil fun i hi => ?_
    have : (List.range ops.size).filter (fun i => !listed.getD i false) = [] := List.eq_nil_of_length_eq_zero (by omega)
    rw [List.filter_eq_nil_iff] at this
    have := this i (List.mem_range.2 hi)
    rw [← hD]
    simpa using this
  | succ fuel ih =>
    intro t listed D hsz hD hf
    simp only [Region.linearise.go]
    change Order ops D (match (Region.ready md ops listed)[t % (Region.ready md ops listed).length]? with
      | some i => Region.linearise.go md ops fuel (t / (Region.ready md ops listed).length) (listed.setIfInBounds i true) [i]
      | none => [].reverse)
    cases hi : (Region.ready md ops listed)[t % (Region.ready md ops listed).length]? with
    | none =>
      have hnil : Region.ready md ops listed = [] := by
        cases hr : Region.ready md ops listed with
        | nil => rfl
        | cons x xs =>
          rw [hr] at hi
          have hlt : t % (x :: xs).length < (x :: xs).length := Nat.mod_lt _ (by simp)
          simp at hi
          simp at hlt
          omega
      refine .nil fun i hi => (hD i).1 (ref_all hsz hnil ref 0 href (fun k hk => by simp at hk) i hi)
    | some i =>
      simp only []
      rw [linearise_go_acc, List.reverse_singleton, List.singleton_append]
      have hm := List.mem_of_getElem? hi
      unfold Region.ready at hm
      rw [List.mem_filter] at hm
      obtain ⟨h1, h2⟩ := hm
      have h1 := List.mem_range.1 h1
      rw [Bool.and_eq_true] at h2
      obtain ⟨h2, h3⟩ := h2
      have ho : ops[i]? = some ops[i] := Array.getElem?_eq_getElem h1
      rw [ho, Option.map_some, Option.getD_some, Array.all_eq_true'] at h3
      have hli : listed.getD i false = false := by
        rw [Array.getD_eq_getD_getElem?, Array.getElem?_eq_getElem (by omega)] at h2 ⊢
        simpa using h2
      refine .cons ho (fun q => ?_) (fun e he hb => ?_) (ih _ _ _ (by simpa using hsz) (fun j => ?_) ?_)
      · rw [← hD, hli] at q; cases q
      · have := h3 e (by simpa using he)
        rw [hmd e hb] at this
        rw [← hD]
        simpa using this
      · rw [Array.getD_eq_getD_getElem?, Array.getElem?_setIfInBounds]
        by_cases e : i = j
        · subst e
          rw [if_pos rfl, if_pos (by omega)]
          simp
        · rw [if_neg e, ← Array.getD_eq_getD_getElem?, hD, List.mem_cons]
          exact ⟨.inr, fun k => k.resolve_left (fun q => e q.symm)⟩
      · refine Nat.le_of_lt_succ (Nat.lt_of_lt_of_le (filter_less (a := i) (fun x hx => ?_) (List.mem_range.2 h1) (by rw [hli]; rfl) ?_) hf)
        · rw [Array.getD_eq_getD_getElem?, Array.getElem?_setIfInBounds] at hx
          by_cases e : i = x
          · subst e
            rw [hli]; rfl
          · rw [if_neg e, ← Array.getD_eq_getD_getElem?] at hx; exact hx
        · rw [Array.getD_eq_getD_getElem?, Array.getElem?_setIfInBounds, if_pos rfl, if_pos (by omega)]
          rfl

theorem order_schedule {P : Program} {ops : Array Oper} (hok : okModes P ops = true) (t : Nat) : Order ops [] (Region.schedule (P.follows .mixedOrders) ops t) := by
  have key : ∀ (md : Region.Mode) (ref : List Nat) (t : Nat), okRef md ops ref 0 = true → (∀ e : Edge, Region.binds .any e = true → Region.binds md e = true) → Order ops [] (Region.linearise md ops t) := by
    intro md ref t h1 h2
    refine order_go h1 h2 ops.size t _ [] (by simp) (fun i => ?_) ?_
    · rw [Array.getD_eq_getD_getElem?, Array.getElem?_replicate]
      by_cases e : i < ops.size
      · rw [if_pos e]; simp
      · rw [if_neg e]; simp
    · exact Nat.le_trans (List.length_filter_le _ _) (by simp)
  have hb : ∀ (md : Region.Mode) (e : Edge), Region.binds .any e = true → Region.binds md e = true := by
    intro md e h
    unfold Region.binds at h ⊢
    cases hg : e.ground <;> rw [hg] at h <;> first | rfl | (cases h)
  unfold okModes at hok
  unfold Region.schedule
  cases hm : (P.follows .mixedOrders || !Region.departs ops) with
  | true =>
    rw [hm, cond_true] at hok
    rw [if_pos rfl]
    exact key _ _ _ hok (hb .any)
  | false =>
    rw [hm, cond_false, Bool.and_eq_true] at hok
    rw [if_neg (by simp)]
    split
    · exact key _ _ _ hok.1 (hb .text)
    · exact key _ _ _ hok.2 (hb .gc)
end Go.Proofs.YtialpccieggaoaaGreatDoor.Am

namespace Go.Proofs.YtialpccieggaoaaGreatDoor.Am

theorem maskL_mem {p : Pos} : ∀ {l : List Pos}, p ∈ l → (maskL l).testBit p.num = true
  | [], h => by cases h
  | q :: l, h => by
    show (2 ^ q.num ||| maskL l).testBit p.num = true
    rw [Nat.testBit_or]
    rcases List.mem_cons.1 h with h | h
    · subst h; rw [Nat.testBit_two_pow_self]; rfl
    · rw [maskL_mem h, Bool.or_true]

theorem okTwo_sound {y x : OI} (h : okTwo y x = true) : Nat.land x.d y.d = 0 ∧ (x.b.testBit y.i = true ∨ (Nat.land y.d x.l = 0 ∧ Nat.land x.d y.l = 0 ∧ (x.act = true → y.act = false))) := by
  unfold okTwo at h
  cases h1 : Nat.beq (Nat.land x.d y.d) 0 with
  | false => rw [h1] at h; cases h
  | true =>
    refine ⟨beq_iff.1 h1, ?_⟩
    rw [h1, cond_true, bit_eq] at h
    cases h2 : x.b.testBit y.i with
    | true => exact .inl rfl
    | false =>
      rw [h2, cond_false] at h
      cases h3 : Nat.beq (Nat.lor (Nat.land y.d x.l) (Nat.land x.d y.l)) 0 with
      | false => rw [h3] at h; cases h
      | true =>
        rw [h3, cond_true] at h
        have h3 : (Nat.land y.d x.l ||| Nat.land x.d y.l) = 0 := beq_iff.1 h3
        refine .inr ⟨(Nat.or_eq_zero_iff.1 h3).1, (Nat.or_eq_zero_iff.1 h3).2, fun ha => ?_⟩
        rw [ha] at h
        cases e : y.act with
        | false => rfl
        | true => rw [e] at h; cases h

theorem okAcc_sound {x : OI} : ∀ {l : List OI}, okAcc l x = true → ∀ y ∈ l, okTwo y x = true
  | [], _, y, h => by cases h
  | z :: l, h, y, hy => by
    have h : (bif okTwo z x then okAcc l x else false) = true := h
    cases e : okTwo z x with
    | false => rw [e] at h; cases h
    | true =>
      rw [e, cond_true] at h
      rcases List.mem_cons.1 hy with q | q
      · subst q; exact e
      · exact okAcc_sound h y q

theorem okAll_sound : ∀ {l : List O} {i : Nat} {acc : List OI}, okAll l i acc = true → ∀ (k : Nat) (o : O), l[k]? = some o →
    o.before < 2 ^ (i + k) ∧ o.ok = true ∧ Nat.land (oiOf (i + k) o).d (oiOf (i + k) o).l = 0 ∧ (∀ y ∈ acc, okTwo y (oiOf (i + k) o) = true) ∧ ∀ (j : Nat) (oj : O), j < k → l[j]? = some oj → okTwo (oiOf (i + j) oj) (oiOf (i + k) o) = true
  | [], _, _, _, k, o, e => by simp at e
  | x :: l, i, acc, h, k, o, e => by
    have h : (bif Nat.blt x.before (Nat.pow 2 i) && x.ok && Nat.beq (Nat.land (oiOf i x).d (oiOf i x).l) 0 && okAcc acc (oiOf i x) then okAll l (i + 1) (oiOf i x :: acc) else false) = true := h
    cases c : (Nat.blt x.before (Nat.pow 2 i) && x.ok && Nat.beq (Nat.land (oiOf i x).d (oiOf i x).l) 0 && okAcc acc (oiOf i x)) with
    | false => rw [c] at h; cases h
    | true =>
      rw [c, cond_true] at h
      simp only [Bool.and_eq_true] at c
      cases k with
      | zero =>
        simp at e; subst e
        exact ⟨blt_iff.1 c.1.1.1, c.1.1.2, beq_iff.1 c.1.2, okAcc_sound c.2, fun j oj hj => by omega⟩
      | succ k =>
        obtain ⟨q1, q2, q3, q4, q5⟩ := okAll_sound h k o (by simpa using e)
        rw [show i + 1 + k = i + (k + 1) by omega] at q1 q3 q4 q5
        refine ⟨q1, q2, q3, fun y hy => q4 y (List.mem_cons_of_mem _ hy), fun j oj hj ej => ?_⟩
        cases j with
        | zero => simp at ej; subst ej; exact q4 _ (by simp)
        | succ j =>
          have := q5 j oj (by omega) (by simpa using ej)
          rw [show i + (j + 1) = i + 1 + j by omega]; exact this

structure OkL (L : List O) : Prop where
  lt : ∀ (i : Nat) (o : O), L[i]? = some o → o.before < 2 ^ i
  ok : ∀ (i : Nat) (o : O), L[i]? = some o → o.ok = true
  dst : ∀ (i j : Nat) (oi oj : O) (p : Pos), L[i]? = some oi → L[j]? = some oj → oi.dst = some p → oj.dst = some p → i = j
  look : ∀ (i j : Nat) (oi oj : O) (p : Pos), L[i]? = some oi → L[j]? = some oj → oj.dst = some p → p ∈ looks oi → oi.before.testBit j = true ∨ oj.before.testBit i = true
  chain : ∀ (i j : Nat) (oi oj : O), L[i]? = some oi → L[j]? = some oj → j < i → isActor oi.op = true → isActor oj.op = true → oi.before.testBit j = true

theorem OkL.less {L : List O} (h : OkL L) {i j : Nat} {o : O} (e : L[i]? = some o) (b : o.before.testBit j = true) : j < i := by
  by_cases c : j < i
  · exact c
  · rw [Nat.testBit_lt_two_pow (Nat.lt_of_lt_of_le (h.lt i o e) (Nat.pow_le_pow_right (by omega) (by omega)))] at b
    cases b

theorem oiOf_d {i : Nat} {o : O} {p : Pos} (h : o.dst = some p) : (oiOf i o).d = 2 ^ p.num := by unfold oiOf; rw [h]; rfl

theorem land_bit {a b n : Nat} (h : Nat.land a b = 0) (ha : a.testBit n = true) (hb : b.testBit n = true) : False := by
  have h : a &&& b = 0 := h
  have := congrArg (fun x => x.testBit n) h
  simp only [Nat.testBit_and, ha, hb, Nat.zero_testBit] at this
  cases this

theorem okRegion_sound {L : List O} (h : okRegion L = true) : OkL L := by
  have h1 := okAll_sound (l := L) (i := 0) (acc := []) h
  simp only [Nat.zero_add] at h1
  refine ⟨fun i o e => (h1 i o e).1, fun i o e => (h1 i o e).2.1, fun i j oi oj p ei ej di dj => ?_, fun i j oi oj p ei ej dj hl => ?_, fun i j oi oj ei ej hlt ai aj => ?_⟩
  · have key : ∀ (i j : Nat) (oi oj : O), L[i]? = some oi → L[j]? = some oj → oi.dst = some p → oj.dst = some p → j < i → False := by
      intro i j oi oj ei ej di dj hlt
      have q := (okTwo_sound ((h1 i oi ei).2.2.2.2 j oj hlt ej)).1
      rw [oiOf_d di, oiOf_d dj] at q
      exact land_bit q (Nat.testBit_two_pow_self ..) (Nat.testBit_two_pow_self ..)
    rcases Nat.lt_trichotomy i j with c | c | c
    · exact (key j i oj oi ej ei dj di c).elim
    · exact c
    · exact (key i j oi oj ei ej di dj c).elim
  · have hm : (oiOf i oi).l.testBit p.num = true := maskL_mem hl
    rcases Nat.lt_trichotomy i j with c | c | c
    · rcases (okTwo_sound ((h1 j oj ej).2.2.2.2 i oi c ei)).2 with q | q
      · exact .inr q
      · have q := q.2.1
        rw [oiOf_d dj] at q
        exact (land_bit q (Nat.testBit_two_pow_self ..) hm).elim
    · subst c
      rw [ei] at ej; cases ej
      have q := (h1 i oi ei).2.2.1
      rw [oiOf_d dj] at q
      exact (land_bit q (Nat.testBit_two_pow_self ..) hm).elim
    · rcases (okTwo_sound ((h1 i oi ei).2.2.2.2 j oj c ej)).2 with q | q
      · exact .inl q
      · have q := q.1
        rw [oiOf_d dj] at q
        exact (land_bit q (Nat.testBit_two_pow_self ..) hm).elim
  · rcases (okTwo_sound ((h1 i oi ei).2.2.2.2 j oj hlt ej)).2 with q | q
    · exact q
    · have := q.2.2 ai
      have aj' : (oiOf j oj).act = true := aj
      rw [aj'] at this; cases this

theorem masks_get : ∀ (l : List Oper) (acc : List Nat), (masks l acc).length = acc.length + l.length ∧ (masks l acc).take acc.length = acc ∧
    ∀ (i : Nat) (o : Oper), l[i]? = some o → (masks l acc)[acc.length + i]? = some (maskOf ((masks l acc).take (acc.length + i)) o.after.toList 0)
  | [], acc => ⟨by simp [masks], by simp [masks], fun i o e => by simp at e⟩
  | x :: l, acc => by
    obtain ⟨h1, h2, h3⟩ := masks_get l (acc ++ [maskOf acc x.after.toList 0])
    have hm : masks (x :: l) acc = masks l (acc ++ [maskOf acc x.after.toList 0]) := rfl
    rw [hm]
    generalize masks l (acc ++ [maskOf acc x.after.toList 0]) = M at *
    simp only [List.length_append, List.length_singleton] at h1 h2 h3
    have h4 : M.take acc.length = acc := by
      have := congrArg (List.take acc.length) h2
      rw [List.take_take, Nat.min_eq_left (by omega), List.take_left'  rfl] at this
      exact this
    refine ⟨by simp [h1]; omega, h4, fun i o e => ?_⟩
    cases i with
    | zero =>
      simp at e; subst e
      rw [Nat.add_zero, h4]
      have h5 : M[acc.length]? = (M.take (acc.length + 1))[acc.length]? := by rw [List.getElem?_take_of_lt (by omega)]
      rw [h5, h2]
      simp
    | succ i =>
      have := h3 i o (by simpa using e)
      rw [show acc.length + (i + 1) = acc.length + 1 + i by omega]; exact this

theorem maskOf_bit {acc : List Nat} : ∀ {l : List Edge} {s k : Nat}, (maskOf acc l s).testBit k = true → s.testBit k = true ∨ ∃ e ∈ l, Region.binds .any e = true ∧ (k = e.on ∨ (nthD acc e.on).testBit k = true)
  | [], s, k, h => .inl h
  | e :: l, s, k, h => by
    unfold maskOf at h
    rcases maskOf_bit h with h | ⟨e', q1, q2, q3⟩
    · cases hb : Region.binds .any e with
      | false => rw [hb] at h; exact .inl h
      | true =>
        rw [hb, cond_true] at h
        have h : (s ||| (2 ^ e.on ||| nthD acc e.on)).testBit k = true := h
        simp only [Nat.testBit_or, Bool.or_eq_true, Nat.testBit_two_pow, decide_eq_true_eq] at h
        rcases h with h | h | h
        · exact .inl h
        · exact .inr ⟨e, by simp, hb, .inl h.symm⟩
        · exact .inr ⟨e, by simp, hb, .inr h⟩
    · exact .inr ⟨e', List.mem_cons_of_mem _ q1, q2, q3⟩

theorem zipO_get {P : Program} {n : Nat} {ops : Array Oper} : ∀ {l : List Oper} {r : List Nat}, l.length = r.length → (zipO P n ops l r).length = l.length ∧
    ∀ (i : Nat) (x : Oper) (m : Nat), l[i]? = some x → r[i]? = some m → (zipO P n ops l r)[i]? = some (compOper P n ops m x)
  | [], r, h => ⟨by cases r <;> simp [zipO], fun i x m e _ => by simp at e⟩
  | o :: l, [], h => by simp at h
  | o :: l, m :: r, h => by
    obtain ⟨h1, h2⟩ := zipO_get (P := P) (n := n) (ops := ops) (l := l) (r := r) (by simpa using h)
    refine ⟨by simp [zipO, h1], fun i x m' e e' => ?_⟩
    cases i with
    | zero => simp at e e'; subst e; subst e'; rfl
    | succ i => simp only [zipO, List.getElem?_cons_succ] at e e' ⊢; exact h2 i x m' e e'

/-- The operations of a drawn region. -/
noncomputable def drawnL (P : Program) (n : Nat) (ops : Array Oper) : List O := zipO P n ops ops.toList (masks ops.toList [])

section
variable {P : Program} {n : Nat} {ops : Array Oper}

theorem drawn_len : (drawnL P n ops).length = ops.size := by
  have := (zipO_get (P := P) (n := n) (ops := ops) (l := ops.toList) (r := masks ops.toList []) (by rw [(masks_get _ _).1]; simp)).1
  simpa [drawnL] using this

theorem drawn_get {i : Nat} {o : Oper} (e : ops[i]? = some o) : (drawnL P n ops)[i]? = some (compOper P n ops (maskOf ((masks ops.toList []).take i) o.after.toList 0) o) := by
  have hl : ops.toList[i]? = some o := by rw [Array.getElem?_toList]; exact e
  refine (zipO_get (P := P) (n := n) (ops := ops) (l := ops.toList) (r := masks ops.toList []) (by rw [(masks_get _ _).1]; simp)).2 i o _ hl ?_
  have := (masks_get ops.toList []).2.2 i o hl
  simpa using this

theorem drawn_before {i k : Nat} {o : Oper} {c : O} (e : ops[i]? = some o) (ec : (drawnL P n ops)[i]? = some c) (h : c.before.testBit k = true) :
    ∃ e ∈ o.after.toList, Region.binds .any e = true ∧ (k = e.on ∨ ∃ c', (drawnL P n ops)[e.on]? = some c' ∧ c'.before.testBit k = true) := by
  rw [drawn_get e] at ec
  cases ec
  have h : (maskOf ((masks ops.toList []).take i) o.after.toList 0).testBit k = true := h
  rcases maskOf_bit h with h | ⟨e1, q1, q2, q3⟩
  · simp at h
  · refine ⟨e1, q1, q2, ?_⟩
    rcases q3 with q3 | q3
    · exact .inl q3
    · refine .inr ?_
      unfold nthD at q3
      rw [nth_eq] at q3
      split at q3
      · rename_i x hx
        rw [List.getElem?_take] at hx
        split at hx
        · have hlt : e1.on < ops.size := by
            have := (List.getElem?_eq_some_iff.1 hx).1
            rw [(masks_get ops.toList []).1] at this
            simpa using this
          have he : ops[e1.on]? = some ops[e1.on] := Array.getElem?_eq_getElem hlt
          refine ⟨_, drawn_get he, ?_⟩
          have hl : ops.toList[e1.on]? = some ops[e1.on] := by rw [Array.getElem?_toList]; exact he
          have := (masks_get ops.toList []).2.2 e1.on _ hl
          simp only [List.length_nil, Nat.zero_add] at this
          rw [this] at hx
          cases hx
          exact q3
        · cases hx
      · simp at q3

theorem order_bits {D : List Nat} (hc : ∀ j ∈ D, ∀ (c : O) (k : Nat), (drawnL P n ops)[j]? = some c → c.before.testBit k = true → k ∈ D) {i : Nat} {o : Oper} (ho : ops[i]? = some o)
    (he : ∀ e ∈ o.after.toList, Region.binds .any e = true → e.on ∈ D) : ∀ (c : O) (k : Nat), (drawnL P n ops)[i]? = some c → c.before.testBit k = true → k ∈ D := by
  intro c k ec h
  obtain ⟨e, q1, q2, q3⟩ := drawn_before ho ec h
  have hm := he e q1 q2
  rcases q3 with q3 | ⟨c', q4, q5⟩
  · rw [q3]; exact hm
  · exact hc _ hm c' k q4 q5
end
end Go.Proofs.YtialpccieggaoaaGreatDoor.Am
