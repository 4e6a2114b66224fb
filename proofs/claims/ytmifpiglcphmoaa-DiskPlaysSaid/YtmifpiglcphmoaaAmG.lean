import Derived.RangeFuncIn
import Derived.Test.YtmifpiglcphmoaaAmF
/- THE ABSTRACT MACHINE, part G: a machine over values without block numbers, run by the kernel, and the proof that the model's machine does what it does. No condition. -/
set_option linter.unusedSimpArgs false
set_option linter.unusedVariables false
namespace Go.Proofs.Ytmifpiglcphmoaa.Am

theorem run_getLoop {P : Program} {w : World} {b : Nat} {L : Loop} (h : w.heap[b]? = some (.loop L)) : (Instr.getLoop b).run P w = .ok L w := by
  simp [Instr.getLoop, getObj, Sem.run, h, Bind.bind, Sem.bind, Pure.pure]

theorem run_setLoop {P : Program} {w : World} {b : Nat} {L : Loop} (h : w.heap[b]? = some (.loop L)) (o : Obj) : (setObj b o).run P w = .ok () (putO w b o) := by
  simp [setObj, Sem.run, h, putO]

section
variable {P : Program} {φ : Phi} {h : Hp} {w : World}

/-- A loop's state is changed. -/
theorem setLoop_run (hR : HR P φ h w) {l : Pos} {b : Nat} (hφ : φ l 0 = some (b, 0, 0)) (ok : LState → Bool) (st : LState) (pend : Option C → Option C) (k : Option C → Hp → Out) :
    (∃ why, setLoop h l ok st pend k = .fail why) ∨ ∃ p h' L st0, setLoop h l ok st pend k = k p h' ∧ w.heap[b]? = some (.loop L) ∧ ok st0 = true ∧ LSR st0 L.state ∧ PendR P (numT P L.fn) p L.pending ∧
      h'.next = h.next ∧ ∀ L' : Loop, L'.fn = L.fn → L'.tmps = L.tmps → L'.params = L.params → L'.assign = L.assign → L'.body = L.body → L'.defers = L.defers → LSR st L'.state → PendR P (numT P L.fn) (pend p) L'.pending →
        HR P φ h' (putO w b (.loop L')) ∧ Adv h w φ h' (putO w b (.loop L')) φ := by
  unfold setLoop
  split
  · rename_i ser st0 p fn env params assign body around hid
    cases hc : ok st0 with
    | false => exact .inl ⟨_, rfl⟩
    | true =>
      rw [cond_true, T.setK_eq]
      obtain ⟨b', L, e1, e2, e3, e4, e5, e6, e7, e8, e9, e10, e11, e12⟩ := hR.blk _ _ hid
      rw [hφ, Option.some.injEq, Prod.mk.injEq] at e1
      obtain ⟨rfl, _⟩ := e1
      subst e5
      refine .inr ⟨p, _, L, st0, rfl, e2, hc, e3, e4, rfl, fun L' q1 q2 q3 q4 q5 q6 q7 q8 => ?_⟩
      have u : Upd h w φ l h.next (putO w b (.loop L')) φ := Upd.same hR hid (by simp [putO]) (fun y hy kk => putO_ne (fun c => kk 0 0 0 (by rw [c]; exact hφ))) rfl rfl rfl
      refine ⟨hR.update u (.inr ⟨_, hid, fun _ _ _ _ _ _ _ _ kk => by cases kk⟩) fun x hx => ?_, Adv.update hR u (.inr ⟨_, hid, fun _ _ _ _ _ _ _ _ kk => by cases kk⟩)⟩
      cases hx
      exact ⟨b, L', hφ, putO_same e2, q7, by rw [q1] at *; exact q8, q1, by rw [q2]; exact e6, by rw [q2]; exact e7, by rw [q3]; exact e8, e9 |> fun z => by rw [q3]; exact z, by rw [q4]; exact e10, by rw [q5]; exact e11, by rw [q6]; exact e12⟩
  · exact .inl ⟨_, rfl⟩

theorem setParams_run {env env' : T AV} {tmps : Array Value} (hE : EnvR φ env tmps) : ∀ (ts : List Tmp) (l : List AV) (xs : List Value) (env : T AV) (tmps : Array Value), EnvR φ env tmps → RelL φ l xs → (∀ t ∈ ts, t < tmps.size) →
    setParams env (ts.map Pos.ofNat) l = some env' → ts.length = xs.length ∧ EnvR φ env' ((ts.zip xs).foldl (fun tmps p => tmps.setIfInBounds p.1 p.2) tmps) ∧ ((ts.zip xs).foldl (fun tmps p => tmps.setIfInBounds p.1 p.2) tmps).size = tmps.size := by
  clear hE
  intro ts
  induction ts with
  | nil =>
    intro l xs env tmps hE hx _ h
    cases l with
    | nil =>
      simp only [List.map_nil, setParams, Option.some.injEq] at h
      cases hx; subst h
      exact ⟨rfl, hE, rfl⟩
    | cons v l => simp [setParams] at h
  | cons t ts ih =>
    intro l xs env tmps hE hx hlt h
    cases hx with
    | nil => simp [setParams] at h
    | @cons v x l xs hv hx =>
      simp only [List.map_cons, setParams, T.setK_eq] at h
      have := hE.set hv (hlt t (by simp))
      obtain ⟨r1, r2, r3⟩ := ih l xs _ _ this hx (fun u hu => by have := hlt u (by simp [hu]); simpa using this) h
      exact ⟨by simp [r1], r2, by simpa using r3⟩

/-- A round begins. -/
theorem round_run (hR : HR P φ h w) {l : Pos} {b : Nat} (hφ : φ l 0 = some (b, 0, 0)) {args : List AV} {xs : Array Value} (hx : RelL φ args xs.toList) {fr : Fr} (hb : beginRound h l args = some fr) :
    ∃ f tmps assign body, (Instr.yield b xs).run P w = .ok (.round b f tmps assign body) w ∧ FrR P φ fr (Frame.round b f tmps assign body .normal) ∧ fr.round = some l := by
  unfold beginRound at hb
  split at hb
  · rename_i ser st p fn env params assign body around hid
    split at hb
    · rename_i env' he
      cases hb
      obtain ⟨b', L, e1, e2, e3, e4, e5, e6, e7, e8, e9, e10, e11, e12⟩ := hR.blk _ _ hid
      rw [hφ, Option.some.injEq, Prod.mk.injEq] at e1
      obtain ⟨rfl, _⟩ := e1
      rw [← e8] at he
      obtain ⟨r1, r2, r3⟩ := setParams_run e6 L.params.toList args xs.toList env L.tmps e6 hx (fun t ht => Nat.lt_of_lt_of_le (e9 t ht) e7) he
      have hsz : ¬ (xs.size ≠ L.params.size) := by
        rw [Array.length_toList, Array.length_toList] at r1; simp [r1]
      have hfold : (L.params.zip xs).foldl (fun tmps (x : Tmp × Value) => tmps.setIfInBounds x.1 x.2) L.tmps = (L.params.toList.zip xs.toList).foldl (fun tmps p => tmps.setIfInBounds p.1 p.2) L.tmps := by
        rw [← Array.foldl_toList, Array.toList_zip]
      refine ⟨L.fn, (L.params.zip xs).foldl (fun tmps (x : Tmp × Value) => tmps.setIfInBounds x.1 x.2) L.tmps, L.assign, L.body, ?_, ⟨e5, ?_, ?_, ?_, .nil, trivial, rfl, hφ⟩, rfl⟩
      · unfold Instr.yield
        rw [Sem.run_bind, run_getLoop e2, Result.andThen_ok]
        rw [if_neg hsz]
        rfl
      · show EnvR φ env' ((L.params.zip xs).foldl (fun tmps (x : Tmp × Value) => tmps.setIfInBounds x.1 x.2) L.tmps)
        rw [hfold]; exact r2
      · show numT P fn ≤ ((L.params.zip xs).foldl (fun tmps (x : Tmp × Value) => tmps.setIfInBounds x.1 x.2) L.tmps).size
        rw [hfold, r3]; exact e7
      · exact .cons e10 (.cons trivial (.cons e11 .nil))
    · cases hb
  · cases hb
end

section
variable {P : Program} {φ : Phi} {h : Hp} {w : World} {fr : Fr} {g : Frame}

/-- What is handed back at a frame's end, where the model's machine takes one step. -/
theorem backTo_run {v : AV} {x : Value} {callers : List Fr} {cs c0 : List Frame} {φ0 : Phi} {h0 : Hp} {w0 : World} (hR : HR P φ h w) (hC : FrsR P φ callers cs) (hv : Rel φ v x) (hA : Adv h0 w0 φ0 h w φ)
    (hs : ∀ c cs1, cs ++ c0 = c :: cs1 → Steps P (lone g (cs ++ c0) w0) (lone (c.finish x) cs1 w))
    (hl : fr.round = none → callers = [] → ∃ g', Steps P (lone g (cs ++ c0) w0) (lone g' c0 w) ∧ g'.fn = fr.fn ∧ g'.leaving P w (.returned x)) :
    OutR P c0 φ0 ⟨fr, callers, h0⟩ g cs w0 (backTo v callers h) := by
  cases hC with
  | nil =>
    refine ⟨w, φ, x, hR, hA, hv, fun c cs1 e => hs c cs1 (by simpa using e), fun hr => ?_⟩
    have := hl hr rfl
    simpa [bot] using this
  | @cons c y l r hc ht =>
    unfold backTo
    simp only
    have hstep := hs y (r ++ c0) rfl
    rcases give_run (fun c => Out.next ⟨c, l, h⟩) hc hv with ⟨why, e⟩ | ⟨fr', e, e1, e2, e3⟩
    · rw [e]; trivial
    · rw [e]
      refine ⟨y.finish x, r, w, φ, hstep, hR, e1, ht, hA, ?_, ?_⟩
      · rw [bot_cons c l fr h0 h]
        cases l with
        | nil => exact e2
        | cons d ds => simp [bot, List.getLast?_cons]
      · rw [bot_cons c l fr h0 h]
        cases l with
        | nil => exact e3
        | cons d ds => simp [bot, List.getLast?_cons]

/-- Behind a function's body. -/
theorem unwind_run {callers : List Fr} {cs c0 : List Frame} (hR : HR P φ h w) (hF : FrR P φ fr g) (hC : FrsR P φ callers cs) (hm : fr.mode = .ret) : OutR P c0 φ ⟨fr, callers, h⟩ g cs w (unwindA P ⟨fr, callers, h⟩) := by
  have hgm : g.mode = .returning := by
    have := hF.mode
    rw [hm] at this
    cases hq : g.mode <;> rw [hq] at this <;> first | rfl | (cases this)
  have hd := hF.defers
  unfold unwindA
  simp only
  split
  · rename_i id ds hds
    rw [hds] at hd
    generalize hgd : g.defers = gd at hd
    cases hd with
    | @mark _ b _ r hφ ht =>
      split
      · rename_i ser hid
        rw [T.setK_eq]
        obtain ⟨b', e1, e2⟩ := hR.blk _ _ hid
        rw [hφ, Option.some.injEq, Prod.mk.injEq] at e1
        obtain ⟨rfl, _⟩ := e1
        have u : Upd h w φ id h.next (putO w b (.deferred none)) φ := Upd.same hR hid (by simp [putO]) (fun y hy kk => putO_ne (fun c => kk 0 0 0 (by rw [c]; exact hφ))) rfl rfl rfl
        have hrun : (Instr.takeDeferred b).run P w = .ok [] (putO w b (.deferred none)) := by
          simp [Instr.takeDeferred, getObj, setObj, Sem.run, e2, Bind.bind, Sem.bind, Pure.pure, putO]
        have hst := step_collected (P := P) (fr := g) (cs := cs ++ c0) (w := w) (w' := putO w b (.deferred none)) (d := { target := .collected b, args := #[] }) (r := b) (ds := r) (calls := [])
          (by rw [hgm]; simp) hgd rfl hrun
        refine ⟨_, cs, _, φ, .one hst, hR.update u (.inr ⟨_, hid, fun _ _ _ _ _ _ _ _ kk => (by cases kk)⟩) fun x hx => (by cases hx), ⟨hF.fn, hF.env, hF.size, hF.todo, ?_, hF.mode, hF.kind, hF.round⟩, hC,
          Adv.update hR u (.inr ⟨_, hid, fun _ _ _ _ _ _ _ _ kk => (by cases kk)⟩), ?_, ?_⟩
        · exact ht
        · cases callers with
          | nil => rfl
          | cons c l => simp [bot, List.getLast?_cons]
        · cases callers with
          | nil => rfl
          | cons c l => simp [bot, List.getLast?_cons]
      · trivial
  · rename_i f args ds hds
    rw [hds] at hd
    generalize hgd : g.defers = gd at hd
    cases hd with
    | @call _ _ d _ r hdef ht =>
      obtain ⟨Y, d1, d2⟩ := hdef
      obtain ⟨tg, ag⟩ := d
      simp only at d1 d2
      subst d1
      split
      · rename_i f' args' h' hent
        have he := enter_run (P := P) (φ := φ) (h := h) (w := w) (f := f) d2
        rw [hent] at he
        obtain ⟨_, xs, fn, c, e1, e2, e3, e4⟩ := he
        split
        · rename_i fr' hb
          obtain ⟨q1, q2, q3, _⟩ := begin_run hb e4
          have hinv : (invoke (.fn (.func f) Y) ag).run P w = .ok (.enter f' xs) w := e1
          have hst : ∀ cs0, Go.step P (lone g cs0 w) = .next (lone (Frame.enter P f' xs .deferred) ({ g with defers := r } :: cs0) w) := by
            intro cs0
            refine step_lone_go ?_
            simp [stepG, unwind, hgm, hgd, callDeferred, Sem.runT_eq, hinv, GStep.bare_after]
          have hF' : FrR P φ { fr' with dk := true } (Frame.enter P f' xs .deferred) :=
            ⟨q1.fn, q1.env, q1.size, q1.todo, q1.defers, q1.mode, by rw [if_pos ⟨rfl, q3⟩]; rfl, q1.round⟩
          have hF2 : FrR P φ { fr with defers := ds } { g with defers := r } := ⟨hF.fn, hF.env, hF.size, hF.todo, ht, hF.mode, hF.kind, hF.round⟩
          refine ⟨_, { g with defers := r } :: cs, w, φ, .one (hst _), hR, hF', .cons hF2 hC, Adv.refl h w φ, ?_, ?_⟩
          · rw [bot_cons { fr with defers := ds } callers { fr' with dk := true } h h]
            cases callers with
            | nil => rfl
            | cons c l => simp [bot, List.getLast?_cons]
          · rw [bot_cons { fr with defers := ds } callers { fr' with dk := true } h h]
            cases callers with
            | nil => rfl
            | cons c l => simp [bot, List.getLast?_cons]
        · trivial
      · trivial
  · rename_i hds
    rw [hds] at hd
    have hgd : g.defers = [] := by cases hq : g.defers <;> rw [hq] at hd <;> first | rfl | (cases hd)
    split
    · rename_i fu hfu
      split
      · rename_i vs hvs
        obtain ⟨fn, b, h1, h2, h3, h4, h5, h6⟩ := compFn_spec hfu
        obtain ⟨x, e1, e2⟩ := results_run hR hF.env h3 hvs
        have hkind := hF.kind
        split
        · rename_i hro
          cases hdk : fr.dk with
          | false =>
            rw [hdk] at hkind
            have hlv : g.leaving P w (.returned x) := ⟨hgm, hgd, by simpa using hkind, fn, by rw [hF.fn]; exact h1, e1⟩
            rw [cond_false]
            refine backTo_run hR hC e2 (Adv.refl h w φ) (fun c cs1 e => ?_) (fun _ hcl => ⟨g, ?_, hF.fn, hlv⟩)
            · rw [e]; exact .one (step_leave_returned hlv)
            · subst hcl; cases hC; exact Steps.refl _ _
          | true =>
            rw [hdk, hro] at hkind
            have hkind : g.kind = .deferred := by simpa using hkind
            rw [cond_true]
            cases hC with
            | nil => trivial
            | @cons c y l r hc ht =>
              simp only
              cases hmode : c.mode with
              | run => trivial
              | pan v rec => trivial
              | ret =>
                have hym : y.mode = .returning := by
                  have := hc.mode
                  rw [hmode] at this
                  cases hq : y.mode <;> rw [hq] at this <;> first | rfl | (cases this)
                have hfn : P.funcs[g.fn]? = some fn := by rw [hF.fn]; exact h1
                have hst : ∀ cs0, Go.step P (lone g (y :: cs0) w) = .next (lone y cs0 w) := by
                  intro cs0
                  refine step_lone_go ?_
                  simp [stepG, unwind, hgm, hgd, doReturn, Sem.runT_eq, hfn, e1, hkind, hym, GStep.bare_after]
                refine ⟨y, r, w, φ, .one (hst _), hR, hc, ht, Adv.refl h w φ, ?_, ?_⟩
                · rw [bot_cons c l fr h h]
                · rw [bot_cons c l fr h h]
        · trivial
      · trivial
    · trivial

/-- A round is left. -/
theorem leave_run {callers : List Fr} {cs c0 : List Frame} {l : Pos} {b : Nat} {jump : Option C} {jump' : Option Code} (hR : HR P φ h w) (hC : FrsR P φ callers cs) (hφ : φ l 0 = some (b, 0, 0)) (hro : fr.round = some l)
    (hj : ∀ L : Loop, w.heap[b]? = some (.loop L) → PendR P (numT P L.fn) jump jump')
    (hs : ∀ (v : Value) (w' : World) (c : Frame) (cs1 : List Frame), (Instr.endRound b jump').run P w = .ok v w' → Go.step P (lone g (c :: cs1) w) = .next (lone (c.finish v) cs1 w')) :
    OutR P c0 φ ⟨fr, callers, h⟩ g cs w (leaveRound ⟨fr, callers, h⟩ l jump) := by
  unfold leaveRound
  rcases setLoop_run hR hφ (fun _ => true) (jumpState jump) (fun _ => jump) (fun _ h => backTo (.bool (jumpBool jump)) callers h) with
    ⟨why, e⟩ | ⟨p, h', L, st0, e, e1, e2, e3, e4, e5, e6⟩
  · rw [e]; trivial
  · rw [e]
    have hjl := hj L e1
    have hn : jump'.isNone = jumpBool jump := by
      cases jump <;> cases jump' <;> first | rfl | (cases hjl)
    obtain ⟨q1, q2⟩ := e6 { L with state := if jump'.isNone then .ready else .done, pending := jump' } rfl rfl rfl rfl rfl rfl (by
      cases jump <;> cases jump' <;> first | trivial | (cases hjl)) hjl
    have hrun : (Instr.endRound b jump').run P w = .ok (.bool jump'.isNone) (putO w b (.loop { L with state := if jump'.isNone then .ready else .done, pending := jump' })) := by
      unfold Instr.endRound
      rw [Sem.run_bind, run_getLoop e1, Result.andThen_ok, Sem.run_bind, run_setLoop e1, Result.andThen_ok]
      rfl
    refine backTo_run q1 (hC.mono q2.le) (x := .bool jump'.isNone) (by rw [hn]; exact .bool _) q2 (fun c cs1 ee => ?_) (fun hr => ?_)
    · rw [ee]; exact .one (hs _ _ c cs1 hrun)
    · rw [hro] at hr; cases hr
end

section
variable {P : Program} {φ : Phi} {h : Hp} {w : World} {fr : Fr} {g : Frame}

theorem bot_push (x : Fr) (c : Fr) (cs : List Fr) (h h' : Hp) : bot ⟨x, c :: cs, h⟩ = bot ⟨c, cs, h'⟩ := bot_cons c cs x h h'

/-- An operation's result is taken over. -/
theorem apply_run {callers : List Fr} {cs c0 : List Frame} {res : Res} {R : Result Next} (hR : HR P φ h w) (hF : FrR P φ fr g) (hC : FrsR P φ callers cs) (hres : ResR P φ h w res R)
    (hval : ∀ nx x w', NV nx x → R = .ok nx w' → ∀ cs0, Go.step P (lone g cs0 w) = .next (lone (g.finish x) cs0 w'))
    (hent : ∀ f xs, R = .ok (.enter f xs) w → ∀ cs0, Go.step P (lone g cs0 w) = .next (lone (Frame.enter P f xs .normal) (g :: cs0) w))
    (hrnd : ∀ b f tmps assign body, R = .ok (.round b f tmps assign body) w → ∀ cs0, Go.step P (lone g cs0 w) = .next (lone (Frame.round b f tmps assign body .normal) (g :: cs0) w))
    (hdef : fr.round = none → ∀ d, R = .ok (.defer d) w → ∀ cs0, Go.step P (lone g cs0 w) = .next (lone ({ g with defers := d :: g.defers }.finish Go.undef) cs0 w))
    (hrcv : fr.round = none → R = .ok .recover w → ∀ cs0, tryRecover g cs0 = none → Go.step P (lone g cs0 w) = .next (lone (g.finish .nilIface) cs0 w)) :
    OutR P c0 φ ⟨fr, callers, h⟩ g cs w (apply P ⟨fr, callers, h⟩ res) := by
  unfold apply
  cases res with
  | val v h' =>
    obtain ⟨nx, x, w', φ', rfl, hn, hR', hA, hv⟩ := hres
    simp only
    rcases give_run (fun fr => Out.next ⟨fr, callers, h'⟩) (hF.mono hA.le) hv with ⟨why, e⟩ | ⟨fr', e, e1, e2, e3⟩
    · rw [e]; trivial
    · rw [e]
      refine ⟨g.finish x, cs, w', φ', .one (hval nx x w' hn rfl _), hR', e1, hC.mono hA.le, hA, ?_, ?_⟩
      · cases callers with
        | nil => exact e2
        | cons c l => simp [bot, List.getLast?_cons]
      · cases callers with
        | nil => exact e3
        | cons c l => simp [bot, List.getLast?_cons]
  | enter f args h' =>
    obtain ⟨rfl, xs, fn, c, rfl, h1, h2, h3⟩ := hres
    simp only
    split
    · rename_i fr' hb
      obtain ⟨q1, q2, q3, _⟩ := begin_run hb h3
      refine ⟨_, g :: cs, w, φ, .one (hent f xs rfl _), hR, q1, .cons hF hC, Adv.refl h' w φ, ?_, ?_⟩
      · rw [bot_push fr' fr callers h' h']
      · rw [bot_push fr' fr callers h' h']
    · trivial
  | round l args =>
    obtain ⟨b, xs, hφ, hx, rfl⟩ := hres
    simp only
    split
    · rename_i fr' hb
      obtain ⟨f, tmps, assign, body, e1, e2, e3⟩ := round_run hR hφ hx hb
      refine ⟨_, g :: cs, w, φ, .one (hrnd b f tmps assign body e1 _), hR, e2, .cons hF hC, Adv.refl h w φ, ?_, ?_⟩
      · rw [bot_push fr' fr callers h h]
      · rw [bot_push fr' fr callers h h]
    · trivial
  | defer f args =>
    obtain ⟨d, rfl, hd⟩ := hres
    simp only
    split
    · rename_i hro
      have hF' : FrR P φ { fr with defers := .call f args :: fr.defers } { g with defers := d :: g.defers } := ⟨hF.fn, hF.env, hF.size, hF.todo, .call hd hF.defers, hF.mode, hF.kind, hF.round⟩
      rcases give_run (fun fr => Out.next ⟨fr, callers, h⟩) hF' (v := .undef) (x := Go.undef) Rel.undef with ⟨why, e⟩ | ⟨fr', e, e1, e2, e3⟩
      · rw [e]; trivial
      · rw [e]
        refine ⟨_, cs, w, φ, .one (hdef hro d rfl _), hR, e1, hC, Adv.refl h w φ, ?_, ?_⟩
        · cases callers with
          | nil => exact e2
          | cons c l => simp [bot, List.getLast?_cons]
        · cases callers with
          | nil => exact e3
          | cons c l => simp [bot, List.getLast?_cons]
    · trivial
  | recover =>
    have hres : R = .ok .recover w := hres
    subst hres
    simp only
    split
    · rename_i hro
      have fin : tryRecover g (cs ++ c0) = none → OutR P c0 φ ⟨fr, callers, h⟩ g cs w (give fr .nilIfc fun fr => .next ⟨fr, callers, h⟩) := by
        intro htr
        rcases give_run (fun fr => Out.next ⟨fr, callers, h⟩) hF (v := .nilIfc) (x := .nilIface) .nilIfc with ⟨why, e⟩ | ⟨fr', e, e1, e2, e3⟩
        · rw [e]; trivial
        · rw [e]
          exact OutR.plain hR e1 hC (.one (hrcv hro rfl _ htr)) e2 e3
      have hkind := hF.kind
      cases hdk : fr.dk with
      | false =>
        rw [hdk] at hkind
        have hkind : g.kind = .normal := by simpa using hkind
        rw [cond_false]
        refine fin ?_
        unfold tryRecover
        rw [hkind]
      | true =>
        rw [hdk, hro] at hkind
        have hkind : g.kind = .deferred := by simpa using hkind
        rw [cond_true]
        cases hC with
        | nil => trivial
        | @cons c y l r hc ht =>
          simp only
          cases hmode : c.mode with
          | run => trivial
          | pan v rec => trivial
          | ret =>
            have hym : y.mode = .returning := by
              have := hc.mode
              rw [hmode] at this
              cases hq : y.mode <;> rw [hq] at this <;> first | rfl | (cases this)
            refine fin ?_
            unfold tryRecover
            rw [hkind]
            simp only [List.cons_append, hym]
    · trivial
  | panic v => trivial
  | fail why => trivial
end

end Go.Proofs.Ytmifpiglcphmoaa.Am

namespace Go.Proofs.Ytmifpiglcphmoaa.Am

theorem stepR_scope {P : Program} {b : Frame} {a : Act} {k : List Go.Item} {cs : List Frame} {w : World} {c : Code} :
    Go.step P (lone (b.atR a (.code (.scope c) :: k)) cs w) = .next (lone (b.atR a (.code c :: .inScope c :: k)) cs w) :=
  step_lone_go (by simp [stepG, stepG.exec, Frame.atR])

theorem stepR_inScope {P : Program} {b : Frame} {a : Act} {k : List Go.Item} {cs : List Frame} {w : World} {c : Code} :
    Go.step P (lone (b.atR a (.inScope c :: k)) cs w) = .next (lone (b.atR a k) cs w) :=
  step_lone_go (by simp [stepG, stepG.exec, Frame.atR])

/-- A new loop's record. -/
theorem newDfr_run {P : Program} {φ : Phi} {h : Hp} {w : World} (hR : HR P φ h w) (hm : Room h) (ser ser' : Nat) :
    HR P (φ.put h.next 0 (w.heap.size, 0, 0)) ⟨T.set h.next (some (.dfr ser)) h.heap, h.next.succ, ser', h.lim⟩ (w.alloc (.deferred (some []))) ∧
    Adv h w φ ⟨T.set h.next (some (.dfr ser)) h.heap, h.next.succ, ser', h.lim⟩ (w.alloc (.deferred (some []))) (φ.put h.next 0 (w.heap.size, 0, 0)) := by
  have u := Upd.alloc hR hm (.deferred (some [])) 0
  refine ⟨hR.update u (.inl ⟨Nat.le_refl _, by rw [Pos.num_succ]; omega, hR.next_none hm⟩) fun x hx => ?_, Adv.update hR u (.inl ⟨Nat.le_refl _, by rw [Pos.num_succ]; omega, hR.next_none hm⟩)⟩
  cases hx
  exact ⟨w.heap.size, Phi.put_same _ _ _ _, alloc_new _ _⟩

theorem newLoop_run {P : Program} {φ : Phi} {h : Hp} {w : World} (hR : HR P φ h w) (hm : Room h) (ser ser' : Nat) {fn : FuncId} {env : T AV} {params : List Pos} {assign body : C} {around : Pos} {L : Loop}
    (h1 : L.state = .ready) (h2 : L.pending = none) (h3 : L.fn = fn) (h4 : EnvR φ env L.tmps) (h5 : numT P fn ≤ L.tmps.size) (h6 : L.params.toList.map Pos.ofNat = params) (h7 : ∀ t ∈ L.params.toList, t < numT P fn)
    (h8 : assign = comp P (numT P fn) L.assign) (h9 : body = comp P (numT P fn) L.body) (h10 : φ around 0 = some (L.defers, 0, 0)) :
    HR P (φ.put h.next 0 (w.heap.size, 0, 0)) ⟨T.set h.next (some (.loop ser .ready none fn env params assign body around)) h.heap, h.next.succ, ser', h.lim⟩ (w.alloc (.loop L)) ∧
    Adv h w φ ⟨T.set h.next (some (.loop ser .ready none fn env params assign body around)) h.heap, h.next.succ, ser', h.lim⟩ (w.alloc (.loop L)) (φ.put h.next 0 (w.heap.size, 0, 0)) := by
  have u := Upd.alloc hR hm (.loop L) 0
  refine ⟨hR.update u (.inl ⟨Nat.le_refl _, by rw [Pos.num_succ]; omega, hR.next_none hm⟩) fun x hx => ?_, Adv.update hR u (.inl ⟨Nat.le_refl _, by rw [Pos.num_succ]; omega, hR.next_none hm⟩)⟩
  cases hx
  exact ⟨w.heap.size, L, Phi.put_same _ _ _ _, alloc_new _ _, by rw [h1]; trivial, by rw [h2]; trivial, h3, h4.mono u.le, h5, h6, h7, h8, h9, u.le _ _ _ h10⟩

section
variable {P : Program} {φ : Phi} {h : Hp} {w : World} {fr : Fr} {callers : List Fr} {g : Frame} {cs c0 : List Frame}

theorem bot_eq {fr fr' : Fr} (f1 : fr'.fn = fr.fn) (f2 : fr'.round = fr.round) (callers : List Fr) (h h' : Hp) : (bot ⟨fr', callers, h'⟩).fn = (bot ⟨fr, callers, h⟩).fn ∧ (bot ⟨fr', callers, h'⟩).round = (bot ⟨fr, callers, h⟩).round := by
  cases callers with
  | nil => exact ⟨f1, f2⟩
  | cons c l => simp [bot, List.getLast?_cons]

/-- A frame is begun. -/
theorem enter_out {φ0 : Phi} {h0 : Hp} {w0 : World} {fr0 fr' : Fr} {g0 g' : Frame} (hA : Adv h0 w0 φ0 h w φ) (hR : HR P φ h w) (hF : FrR P φ fr g) (hC : FrsR P φ0 callers cs) (f1 : fr.fn = fr0.fn) (f2 : fr.round = fr0.round)
    (hF' : FrR P φ fr' g') (hs : Go.step P (lone g0 (cs ++ c0) w0) = .next (lone g' (g :: (cs ++ c0)) w)) : OutR P c0 φ0 ⟨fr0, callers, h0⟩ g0 cs w0 (.next ⟨fr', fr :: callers, h⟩) := by
  obtain ⟨q1, q2⟩ := bot_eq f1 f2 callers h0 h0
  refine ⟨g', g :: cs, w, φ, .one hs, hR, hF', .cons hF (hC.mono hA.le), hA, ?_, ?_⟩
  · rw [bot_push fr' fr callers h h0]; exact q1
  · rw [bot_push fr' fr callers h h0]; exact q2

theorem FrR.run_mode (hF : FrR P φ fr g) (hm : fr.mode = .run) : g.mode = .run := by
  have := hF.mode
  rw [hm] at this
  cases hgm : g.mode <;> rw [hgm] at this <;> first | rfl | (cases this)

/-- A step of the frame as it stands. -/
theorem step_at (hF : FrR P φ fr g) (hm : fr.mode = .run) {td : List Go.Item} (hg : g.todo = td) {m : Machine} {cs : List Frame} (hs : Go.step P (lone (g.atR ⟨g.tmps, g.defers⟩ td) cs w) = .next m) : Go.step P (lone g cs w) = .next m := by
  have e := frame_run (hF.run_mode hm)
  rw [hg] at e
  rw [e]; exact hs

theorem ret_out (hR : HR P φ h w) (hF : FrR P φ fr g) (hC : FrsR P φ callers cs) (hro : fr.round = none) (hs : ∀ cs0, Go.step P (lone g cs0 w) = .next (lone { g with mode := .returning } cs0 w)) :
    OutR P c0 φ ⟨fr, callers, h⟩ g cs w (.next ⟨{ fr with mode := .ret }, callers, h⟩) :=
  OutR.plain (g' := { g with mode := .returning }) hR (FrR.mk (fr := { fr with mode := .ret }) (g := { g with mode := .returning }) hF.fn hF.env hF.size hF.todo hF.defers trivial hF.kind hF.round) hC (.one (hs _)) rfl rfl

theorem kind_round (hF : FrR P φ fr g) {l : Pos} (hr : fr.round = some l) : g.kind = .normal := by
  rw [hF.kind, if_neg (fun q => by rw [hr] at q; cases q.2)]

theorem roundOf_none (hF : FrR P φ fr g) (hr : fr.round = none) : g.roundOf = none := by
  have := hF.round
  rw [hr] at this
  cases hq : g.roundOf <;> rw [hq] at this <;> first | rfl | (cases this)

theorem evalOp_defer (P : Program) (f : Opd) (l : List Opd) (env : T AV) (h : Hp) : (∃ f' args, evalOp P (.defer f l) env h = .defer f' args) ∨ ∃ why, evalOp P (.defer f l) env h = .fail why := by
  unfold evalOp
  simp only
  split
  · exact .inl ⟨_, _, rfl⟩
  · exact .inr ⟨_, rfl⟩

theorem wanted_eq {n : Nat} {ops : Array Oper} {o : Oper} {env : T AV} {tmps : Array Value} {bef : Nat} (hE : EnvR φ env tmps) (hk : (compOper P n ops bef o).ok = true) :
    Region.wanted o (yielded ops tmps) = wantedA (compOper P n ops bef o) env := by
  unfold wantedA Region.wanted
  simp only [compOper, Bool.and_eq_true] at hk ⊢
  cases hgd : o.guard with
  | none => rfl
  | some x =>
    obtain ⟨j, want⟩ := x
    have hg := hk.2
    rw [hgd] at hg
    simp only [okGuard] at hg
    split at hg
    · rename_i oj hj
      cases hd : oj.dst with
      | none => rw [hd] at hg; cases hg
      | some d =>
        simp only [Option.map_some, hj, Option.bind_some, hd, Option.getD_some, yielded]
        have hr := hE d
        rw [Array.getD_eq_getD_getElem?] at hr
        unfold ev at hr
        simp only at hr
        cases hv : T.get (Pos.ofNat d) env with
        | none =>
          rw [hv] at hr
          simp only at hr
          cases hx : tmps[d]? with
          | none => rfl
          | some x => rw [hx] at hr; cases hr; rfl
        | some v =>
          rw [hv] at hr
          simp only at hr
          cases hx : tmps[d]? with
          | none => rw [hx] at hr; cases hr; rfl
          | some x =>
            rw [hx] at hr
            simp only [Option.getD_some] at hr
            cases hr <;> first | rfl | skip
            rename_i b
            cases b <;> cases want <;> rfl
    · cases hg
end
end Go.Proofs.Ytmifpiglcphmoaa.Am

namespace Go.Proofs.Ytmifpiglcphmoaa.Am

section
variable {P : Program} {φ : Phi} {h : Hp} {w : World} {fr : Fr} {callers : List Fr} {g : Frame} {cs c0 : List Frame}

theorem cond_run {c : Operand} {c' : Opd} {a : Act} (hR : HR P φ h w) {env : T AV} (hE : EnvR φ env a.tmps) (hc : compOpd P c = some c') {b : Bool} (hv : ev env c' = .bool b) : a.eval c = .bool b := by
  have := opd_rel hR hE hc
  rw [hv] at this
  cases hx : a.eval c <;> rw [hx] at this <;> cases this
  rfl

/-- The operations of a region that does not draw. -/
theorem ops_run (hR : HR P φ h w) (hz : h.lim = 0) (hF : FrR P φ fr g) (hC : FrsR P φ callers cs) (hm : fr.mode = .run) {l : List O} {k : List Item} (ht : fr.todo = .ops l :: k) (rec : St → Out) :
    OutR P c0 φ ⟨fr, callers, h⟩ g cs w (step P rec ⟨fr, callers, h⟩) := by
  obtain ⟨fn, env, todo, defers, mode, dk, round⟩ := fr
  simp only at hm ht
  subst hm
  subst ht
  have htd := hF.todo
  generalize hg : g.todo = gt at htd
  cases htd with
  | @cons x1 y l1 r hx htr =>
    cases y <;> first | (cases hx; done) | skip
    rename_i ops idx
    obtain ⟨h1, h2⟩ := hx
    have hm : (⟨fn, env, .ops l :: k, defers, .run, dk, round⟩ : Fr).mode = .run := rfl
    cases idx with
    | nil =>
      rw [List.map_nil] at h1
      subst h1
      exact OutR.to hR hF hC rfl hg htr (fun b a cs _ _ => stepR_region_end)
    | cons i idx =>
      rw [List.map_cons] at h1
      change l = compOper P (numT P fn) ops 0 (ops.getD i default) :: idx.map (fun i => compOper P (numT P fn) ops 0 (ops.getD i default)) at h1
      subst h1
      have hi := h2 i (by simp)
      have hoi : ops[i]? = some (ops.getD i default) := by rw [Array.getD_eq_getD_getElem?, Array.getElem?_eq_getElem hi]; rfl
      generalize hoo : ops.getD i default = o at *
      unfold step
      simp only
      cases hok : (compOper P (numT P fn) ops 0 o).ok with
      | false => trivial
      | true =>
        simp only [Bool.not_true, cond_false]
        have hw := wanted_eq hF.env hok
        cases hwa : wantedA (compOper P (numT P fn) ops 0 o) env with
        | false =>
          rw [hwa] at hw
          rw [cond_false]
          rcases give_run (fun fr => Out.next ⟨fr, callers, h⟩) hF (v := .undef) (x := Go.undef) Rel.undef with ⟨why, e⟩ | ⟨fr', e, e1, e2, e3⟩
          · rw [e]; trivial
          · rw [e]
            have hfin : g.finish Go.undef = g.atR (Act.put ⟨g.tmps, g.defers⟩ ((ops[i]?).bind (·.dst)) Go.undef) (.inRegion ops idx :: r) := by
              rw [← Frame.finish_atR, ← hg, ← frame_run (hF.run_mode hm)]
            refine OutR.plain hR e1 hC (.one ?_) e2 e3
            rw [hfin]
            refine step_at hF hm hg (stepR_op_skip ?_)
            rw [hoi]; exact hw
        | true =>
          rw [hwa] at hw
          rw [cond_true]
          cases hco : compAOp P o.op with
          | none =>
            have : (compOper P (numT P fn) ops 0 o).op = .bad (opWhy o) := by simp [compOper, hco]
            rw [this]
            trivial
          | some ao =>
            have : (compOper P (numT P fn) ops 0 o).op = ao := by simp [compOper, hco]
            rw [this]
            have hres := evalOp_run (a := ⟨g.tmps, g.defers⟩) hR hF.env (.inl hz) hco
            by_cases hbad : (∃ l, round = some l) ∧ ∃ c, o.op = .defer c
            · obtain ⟨⟨l, rfl⟩, c, hc⟩ := hbad
              rw [hc] at hco
              unfold compAOp at hco
              simp only at hco
              split at hco
              · split at hco
                · cases hco
                  rename_i fo lo _ _
                  rcases evalOp_defer P fo lo env h with ⟨f, args, e⟩ | ⟨why, e⟩ <;> rw [e] <;> trivial
                · cases hco
              · cases hco
            have hst : ∀ cs0, stepG P true { frame := g, callers := cs0, status := .running, dying := none } w = stepG.apply P true g cs0 none (execOp (Act.mk g.tmps g.defers).eval o) w := by
              intro cs0
              have e := frame_run (hF.run_mode hm)
              rw [hg] at e
              rw [e]
              have q := stepGR_op (P := P) (b := g) (a := ⟨g.tmps, g.defers⟩) (k := r) (cs := cs0) (w := w) (rest := idx) hoi hw
              have hsem : Oper.semAt g.roundOf (Act.mk g.tmps g.defers).eval o = execOp (Act.mk g.tmps g.defers).eval o := by
                cases hro : round with
                | none =>
                  subst hro
                  rw [roundOf_none hF rfl]
                  rfl
                | some l => exact Oper.semAt_eq _ _ _ fun c hc => hbad ⟨⟨l, hro⟩, c, hc⟩
              rw [hsem] at q
              exact q
            have hkd : (match g.todo with | .call _ true _ _ :: _ => CallKind.wrapped | _ => CallKind.normal) = .normal := by rw [hg]
            refine apply_run hR hF hC hres ?_ ?_ ?_ ?_ ?_
            · intro nx x w' hn he cs0
              refine step_lone_go ?_
              rw [hst]
              rcases hn with rfl | ⟨rfl, rfl⟩
              · simp [stepG.apply, Sem.runT_eq, he, GStep.bare_after]
              · simp [stepG.apply, Sem.runT_eq, he, GStep.bare_after]
            · intro f xs he cs0
              refine step_lone_go ?_
              rw [hst]
              simp [stepG.apply, Sem.runT_eq, he, GStep.bare_after, hg]
            · intro b f tmps assign body he cs0
              refine step_lone_go ?_
              rw [hst]
              simp [stepG.apply, Sem.runT_eq, he, GStep.bare_after]
            · intro hro d he cs0
              refine step_lone_go ?_
              rw [hst]
              simp [stepG.apply, Sem.runT_eq, he, GStep.bare_after]
            · intro hro he cs0 hnot
              have hro : round = none := hro
              subst hro
              have hgr := roundOf_none hF rfl
              refine step_lone_go ?_
              rw [hst]
              simp [stepG.apply, Sem.runT_eq, he, GStep.bare_after, hgr, hnot]
end
end Go.Proofs.Ytmifpiglcphmoaa.Am

namespace Go.Proofs.Ytmifpiglcphmoaa.Am

/-- The step where what is ranged over is another loop's yield. -/
theorem stepR_rangeFunc_round {P : Program} {b : Frame} {a : Act} {k : List Go.Item} {cs : List Frame} {w : World} {g : Operand} {ps : Array Tmp} {assign body : Code} {l : Nat} {mark : List Deferred} {w₁ w₁' w₂ : World} {d : Deferred}
    {l' : Nat} {f : FuncId} {tmps : Array Value} {assign' body' : Code}
    (he : (Instr.enterLoop b.fn a.tmps ps assign body b.roundOf).run P w = .ok (l, mark) w₁)
    (hres : (resolve a.eval (rangeCall g l) 0).run P w₁ = .ok d w₁') (hinv : (invoke d.target d.args).run P w₁' = .ok (.round l' f tmps assign' body') w₂) :
    Go.step P (lone (b.atR a (.code (.rangeFunc g ps assign body) :: k)) cs w) =
      .next (lone (Frame.round l' f tmps assign' body' .normal) (b.atR { a with defers := mark ++ a.defers } (.inRangeFunc l :: k) :: cs) w₂) :=
  step_lone_go (by
    have hev := Frame.eval_atR b { a with defers := mark ++ a.defers } (.inRangeFunc l :: k)
    simp only [Frame.atR] at hev
    have hres' : Sem.run P (resolve ({ tmps := a.tmps, defers := mark ++ a.defers } : Act).eval { callee := .value g, args := #[.const (.func (.yield l) #[] #[])], argTypes := #[] } 0) w₁ = .ok d w₁' := hres
    simp [stepG, stepG.exec, Frame.atR, Sem.runT_eq, he, GStep.bare_after, stepG.apply, hev, Sem.run_bind, hres', hinv, Result.andThen])

section
variable {P : Program} {φ : Phi} {h : Hp} {w : World} {fr : Fr} {callers : List Fr} {g : Frame} {cs c0 : List Frame}

theorem roundOf_some (hF : FrR P φ fr g) {l : Pos} (hr : fr.round = some l) : ∃ b, g.roundOf = some b ∧ φ l 0 = some (b, 0, 0) := by
  have := hF.round
  rw [hr] at this
  cases hq : g.roundOf <;> rw [hq] at this <;> first | exact ⟨_, rfl, this⟩ | (cases this)

/-- A range over a function begins. -/
theorem range_run (hR : HR P φ h w) (hz : h.lim = 0) (hF : FrR P φ fr g) (hC : FrsR P φ callers cs) (hm : fr.mode = .run) {f : Operand} {f' : Opd} {ps : Array Tmp} {assign body : Code} {k : List Item} {k' : List Go.Item}
    (hg : g.todo = .code (.rangeFunc f ps assign body) :: k') (hk : ItemsR P φ (numT P fr.fn) k k') (hf : compOpd P f = some f') (hps : ∀ t ∈ ps.toList, t < numT P fr.fn)
    {φ1 : Phi} {h1 : Hp} {w1 : World} {around : Pos} {dfr : Nat} {mark : List Deferred} {defers : List AD} (hR1 : HR P φ1 h1 w1) (hA1 : Adv h w φ h1 w1 φ1) (har : φ1 around 0 = some (dfr, 0, 0)) (hd : DefsR φ1 defers (mark ++ g.defers))
    (hrun : (Instr.enterLoop g.fn g.tmps ps assign body g.roundOf).run P w = .ok (w1.heap.size, mark) (w1.alloc (.loop { state := .ready, pending := none, fn := g.fn, tmps := g.tmps, params := ps, assign := assign, body := body, defers := dfr }))) :
    OutR P c0 φ ⟨fr, callers, h⟩ g cs w
      (newK h1 (fun ser => .loop ser .ready none fr.fn fr.env (ps.toList.map Pos.ofNat) (comp P (numT P fr.fn) assign) (comp P (numT P fr.fn) body) around) fun l h =>
            let s : St := ⟨{ fr with todo := .inRange l :: k, defers := defers }, callers, h⟩
            match ev fr.env f' with
            | .fn (.func g) first captured => apply P s (enterA P h g (first ++ (.yield l :: captured)))
            | .yield l' => apply P s (.round l' [.yield l])
            | _ => .fail "rangeFunc what") := by
  rw [newK_eq]
  simp only
  obtain ⟨q1, q2⟩ := newLoop_run (fn := fr.fn) (env := fr.env) (around := around) hR1 (.inl (hA1.lim.trans hz)) h1.ser (Nat.succ h1.ser)
    (L := { state := .ready, pending := none, fn := g.fn, tmps := g.tmps, params := ps, assign := assign, body := body, defers := dfr }) rfl rfl hF.fn (hF.env.mono hA1.le) hF.size rfl hps rfl rfl har
  generalize hw2 : w1.alloc _ = w2 at *
  generalize hφ2 : φ1.put h1.next 0 (w1.heap.size, 0, 0) = φ2 at *
  have hl : φ2 h1.next 0 = some (w1.heap.size, 0, 0) := by rw [← hφ2]; exact Phi.put_same _ _ _ _
  generalize hh2 : (⟨_, _, _, _⟩ : Hp) = h2 at *
  have hA : Adv h w φ h2 w2 φ2 := hA1.trans hR q2 (Room.was0 hz)
  have hF2 : FrR P φ2 { fr with todo := .inRange h1.next :: k, defers := defers } (g.atR ⟨g.tmps, mark ++ g.defers⟩ (.inRangeFunc w1.heap.size :: k')) :=
    ⟨hF.fn, hF.env.mono hA.le, hF.size, .cons hl (hk.mono hA.le), hd.mono q2.le, by show ModeR fr.mode .run; rw [hm]; trivial, hF.kind, hF.round.mono hA.le⟩
  have rf : Rel φ2 (ev fr.env f') ((Act.mk g.tmps g.defers).eval f) := opd_rel (P := P) (h := h2) (w := w2) q1 (a := ⟨g.tmps, g.defers⟩) (hF.env.mono hA.le) hf
  generalize hX : (Act.mk g.tmps g.defers).eval f = X at rf
  split
  · rename_i gg first captured e
    rw [e] at rf
    cases rf with
    | @fn _ _ _ X Y k1 k2 =>
    have hres : (resolve (Act.mk g.tmps g.defers).eval (rangeCall f w1.heap.size) 0).run P w2 = .ok { target := .fn (.func gg) Y, args := X ++ #[Value.func (.yield w1.heap.size) #[] #[]] } w2 := by
      simp only [resolve, hX, rangeCall, List.map_toArray, List.map_cons, List.map_nil]
      rfl
    have hxs : RelL φ2 (first ++ (.yield h1.next :: captured)) ((X ++ #[Value.func (.yield w1.heap.size) #[] #[]]) ++ Y).toList := by
      simp only [Array.toList_append, List.append_assoc]
      exact k1.append (.cons (.yield hl) k2)
    have hen := enter_run (P := P) (φ := φ2) (h := h2) (w := w2) (f := gg) hxs
    unfold apply
    cases hent : enterA P h2 gg (first ++ (.yield h1.next :: captured)) with
    | enter f3 args3 h3 =>
      rw [hent] at hen
      obtain ⟨rfl, xs, fn3, c3, r1, r2, r3, r4⟩ := hen
      simp only
      split
      · rename_i fr' hb
        obtain ⟨z1, z2, z3, _⟩ := begin_run hb r4
        refine enter_out hA q1 hF2 hC rfl rfl z1 ?_
        exact step_at hF hm hg (stepR_rangeFunc hrun hres r1)
      · trivial
    | val v h' => unfold enterA at hent; split at hent <;> (try split at hent) <;> first | (cases hent; done) | (cases hq : (Func.name _ == "runtime.NumGoroutine") <;> rw [hq] at hent <;> cases hent)
    | round => unfold enterA at hent; split at hent <;> (try split at hent) <;> first | (cases hent; done) | (cases hq : (Func.name _ == "runtime.NumGoroutine") <;> rw [hq] at hent <;> cases hent)
    | defer => unfold enterA at hent; split at hent <;> (try split at hent) <;> first | (cases hent; done) | (cases hq : (Func.name _ == "runtime.NumGoroutine") <;> rw [hq] at hent <;> cases hent)
    | recover => unfold enterA at hent; split at hent <;> (try split at hent) <;> first | (cases hent; done) | (cases hq : (Func.name _ == "runtime.NumGoroutine") <;> rw [hq] at hent <;> cases hent)
    | panic => trivial
    | fail => trivial
  · rename_i l' e
    rw [e] at rf
    cases rf with
    | @yield _ b' k1 =>
    have hres : (resolve (Act.mk g.tmps g.defers).eval (rangeCall f w1.heap.size) 0).run P w2 = .ok { target := .fn (.yield b') #[], args := #[] ++ #[Value.func (.yield w1.heap.size) #[] #[]] } w2 := by
      simp only [resolve, hX, rangeCall, List.map_toArray, List.map_cons, List.map_nil]
      rfl
    unfold apply
    simp only
    split
    · rename_i fr' hb
      obtain ⟨f4, tmps4, assign4, body4, e1, e2, e3⟩ := round_run (xs := #[] ++ #[Value.func (.yield w1.heap.size) #[] #[]]) q1 k1 (.cons (.yield hl) .nil) hb
      refine enter_out hA q1 hF2 hC rfl rfl e2 ?_
      exact step_at hF hm hg (stepR_rangeFunc_round hrun hres e1)
    · trivial
  · trivial
end
end Go.Proofs.Ytmifpiglcphmoaa.Am

namespace Go.Proofs.Ytmifpiglcphmoaa.Am

section
variable {P : Program} {φ : Phi} {h : Hp} {w : World} {callers : List Fr} {g : Frame} {cs c0 : List Frame}

theorem ItemsR.code {n : Nat} {k : List Item} {k' : List Go.Item} (c : Code) (hk : ItemsR P φ n k k') : ItemsR P φ n (.code (comp P n c) :: k) (.code c :: k') :=
  .cons (y := .code c) (show comp P n c = comp P n c from rfl) hk
theorem ItemsR.blk {n : Nat} {k : List Item} {k' : List Go.Item} (id : Nat) (hk : ItemsR P φ n k k') : ItemsR P φ n (.inBlock id :: k) (.inBlock id :: k') :=
  .cons (y := .inBlock id) (show id = id from rfl) hk
theorem ItemsR.lop {n : Nat} {k : List Item} {k' : List Go.Item} (c : Code) (hk : ItemsR P φ n k k') : ItemsR P φ n (.inLoop (comp P n c) :: k) (.inLoop c :: k') :=
  .cons (y := .inLoop c) (show comp P n c = comp P n c from rfl) hk
theorem ItemsR.scp {n : Nat} {k : List Item} {k' : List Go.Item} (c : Code) (hk : ItemsR P φ n k k') : ItemsR P φ n (.inScope :: k) (.inScope c :: k') :=
  .cons (y := .inScope c) trivial hk

/-- An item of code. -/
theorem code_run {fn : FuncId} {env : T AV} {defers : List AD} {dk : Bool} {round : Option Pos} {c : Code} {k : List Item} {k' : List Go.Item} (rec : St → Out) (hR : HR P φ h w) (hz : h.lim = 0)
    (hF : FrR P φ ⟨fn, env, .code (comp P (numT P fn) c) :: k, defers, .run, dk, round⟩ g) (hC : FrsR P φ callers cs) (hg : g.todo = .code c :: k') (hk : ItemsR P φ (numT P fn) k k')
    (hdrawn : ∀ id ops, c = .region id ops true → OutR P c0 φ ⟨⟨fn, env, .code (comp P (numT P fn) c) :: k, defers, .run, dk, round⟩, callers, h⟩ g cs w (step P rec ⟨⟨fn, env, .code (comp P (numT P fn) c) :: k, defers, .run, dk, round⟩, callers, h⟩)) :
    OutR P c0 φ ⟨⟨fn, env, .code (comp P (numT P fn) c) :: k, defers, .run, dk, round⟩, callers, h⟩ g cs w (step P rec ⟨⟨fn, env, .code (comp P (numT P fn) c) :: k, defers, .run, dk, round⟩, callers, h⟩) := by
  cases c with
  | skip => exact OutR.to hR hF hC rfl hg hk (fun b a cs _ _ => stepR_skip)
  | label l => exact OutR.to hR hF hC rfl hg hk (fun b a cs _ _ => stepR_label)
  | seq a b => exact OutR.to hR hF hC rfl hg (.code a (.code b hk)) (fun b a cs _ _ => stepR_seq)
  | block id b => exact OutR.to hR hF hC rfl hg (.code b (.blk id hk)) (fun b a cs _ _ => stepR_block)
  | loop b => exact OutR.to hR hF hC rfl hg (.code b (.lop b hk)) (fun b a cs _ _ => stepR_loop)
  | scope b => exact OutR.to hR hF hC rfl hg (.code b (.scp b hk)) (fun b a cs _ _ => stepR_scope)
  | region id ops draw =>
    cases draw with
    | true => exact hdrawn id ops rfl
    | false =>
      refine OutR.to hR hF hC rfl hg (.cons (y := .inRegion ops (List.range ops.size)) (show _ ∧ _ from ⟨?_, fun i hi => by simpa using hi⟩) hk) (fun b a cs _ _ => stepR_region)
      apply List.ext_getElem?
      intro i
      simp only [List.getElem?_map]
      by_cases hi : i < ops.size
      · rw [List.getElem?_range hi, Array.getElem?_toList, Array.getElem?_eq_getElem hi]
        simp [Array.getD_eq_getD_getElem?, hi]
      · rw [List.getElem?_eq_none (by simpa using hi), List.getElem?_eq_none (by simpa using hi)]; rfl
  | goto l => trivial
  | refuse why => trivial
  | cond c a b =>
    simp only [comp] at *
    cases hc : compOpd P c with
    | none => trivial
    | some c' =>
      rw [hc] at hF
      simp only at hF ⊢
      unfold step
      simp only
      split
      · rename_i e
        have := cond_run (a := ⟨g.tmps, g.defers⟩) hR hF.env hc e
        exact OutR.to hR hF hC rfl hg (.code a hk) (fun b a cs h1 h2 => by rw [stepR_cond (t := true) (by rw [h2]; exact this)]; rfl)
      · rename_i e
        have := cond_run (a := ⟨g.tmps, g.defers⟩) hR hF.env hc e
        exact OutR.to hR hF hC rfl hg (.code b hk) (fun b a cs h1 h2 => by rw [stepR_cond (t := false) (by rw [h2]; exact this)]; rfl)
      · trivial
  | ret =>
    unfold step
    simp only [comp]
    cases round with
    | none => exact ret_out hR hF hC rfl fun cs0 => step_at hF rfl hg (by rw [stepR_ret (roundOf_none hF rfl), ← hg, ← frame_run (hF.run_mode rfl)])
    | some l =>
      obtain ⟨b, e1, e2⟩ := roundOf_some hF rfl
      refine leave_run (jump' := some .ret) hR hC e2 rfl (fun L _ => fun _ _ => rfl) fun v w' c cs1 hr => step_at hF rfl hg (stepR_round_ret e1 (kind_round hF rfl) hr)
  | exit id =>
    unfold step
    simp only [comp]
    obtain ⟨x1, x2⟩ := exitA_spec hk id
    cases hx : exitA id k with
    | some r =>
      obtain ⟨r', y1, y2⟩ := x1 r hx
      exact OutR.to hR hF hC rfl hg y2 (fun b a cs _ _ => stepR_exit y1)
    | none =>
      have hx' := x2 hx
      cases round with
      | none => trivial
      | some l =>
        obtain ⟨b, e1, e2⟩ := roundOf_some hF rfl
        exact leave_run (jump' := some (.exit id)) hR hC e2 rfl (fun L _ => fun _ _ => rfl) fun v w' c cs1 hr => step_at hF rfl hg (stepR_round_exit e1 (kind_round hF rfl) hx' hr)
  | rangeFunc f ps assign body =>
    simp only [comp] at *
    cases hf : compOpd P f with
    | none => trivial
    | some f' =>
      rw [hf] at hF
      simp only at hF ⊢
      cases hps : (ps.toList.all fun t => Nat.blt t (numT P fn)) with
      | false => trivial
      | true =>
        rw [hps, cond_true] at hF
        rw [cond_true]
        have hps' : ∀ t ∈ ps.toList, t < numT P fn := fun t ht => blt_iff.1 (List.all_eq_true.1 hps t ht)
        unfold step
        simp only
        cases round with
        | none =>
          have e1 := roundOf_none hF rfl
          simp only
          rw [newK_eq]
          obtain ⟨q1, q2⟩ := newDfr_run hR (.inl hz) h.ser (Nat.succ h.ser)
          refine range_run (around := h.next) (dfr := w.heap.size) (mark := [{ target := .collected w.heap.size, args := #[] }]) hR hz hF hC rfl hg hk hf hps' q1 q2 (Phi.put_same _ _ _ _) (.mark (Phi.put_same _ _ _ _) (hF.defers.mono q2.le)) ?_
          simp only [Instr.enterLoop, e1, Sem.run_bind, run_newObj, Sem.run_pure, Result.andThen_ok]
          rfl
        | some l =>
          obtain ⟨b, e1, e2⟩ := roundOf_some hF rfl
          simp only
          split
          · rename_i hid
            obtain ⟨b', L, z1, z2, _, _, _, _, _, _, _, _, _, z12⟩ := hR.blk _ _ hid
            rw [e2, Option.some.injEq, Prod.mk.injEq] at z1
            obtain ⟨rfl, _⟩ := z1
            refine range_run (mark := []) hR hz hF hC rfl hg hk hf hps' hR (Adv.refl h w φ) z12 hF.defers ?_
            simp only [Instr.enterLoop, e1, Sem.run_bind, run_getLoop z2, run_newObj, Sem.run_pure, Result.andThen_ok]
            rfl
          · trivial

theorem beginRound_out {fn : FuncId} {env : T AV} {defers : List AD} {dk : Bool} {l : Pos} {k : List Item} {k' : List Go.Item} (hR : HR P φ h w)
    (hF : FrR P φ ⟨fn, env, .beginRound :: k, defers, .run, dk, some l⟩ g) (hC : FrsR P φ callers cs) (hg : g.todo = .beginRound :: k') (hk : ItemsR P φ (numT P fn) k k') (ok : LState → Bool) (hok : ∀ st, ok st = true → st = .ready) :
    OutR P c0 φ ⟨⟨fn, env, .beginRound :: k, defers, .run, dk, some l⟩, callers, h⟩ g cs w (setLoop h l ok .busy id fun _ h => .next ⟨⟨fn, env, k, defers, .run, dk, some l⟩, callers, h⟩) := by
  obtain ⟨b, e1, e2⟩ := roundOf_some hF rfl
  rcases setLoop_run hR e2 ok .busy id (fun _ h => Out.next ⟨⟨fn, env, k, defers, .run, dk, some l⟩, callers, h⟩) with ⟨why, e⟩ | ⟨p, h', L, st0, e, z1, z2, z3, z4, z5, z6⟩
  · rw [e]; trivial
  · rw [e]
    have hst : L.state = .ready := by
      have := hok st0 z2
      subst this
      cases hq : L.state <;> rw [hq] at z3 <;> first | rfl | (cases z3)
    obtain ⟨q1, q2⟩ := z6 { L with state := .busy } rfl rfl rfl rfl rfl rfl trivial z4
    have hrun : (Instr.beginRound b).run P w = .ok () (putO w b (.loop { L with state := .busy })) := by
      unfold Instr.beginRound
      rw [Sem.run_bind, run_getLoop z1, Result.andThen_ok, Sem.run_bind, run_setLoop z1, Result.andThen_ok, hst]
      rfl
    have hF' : FrR P φ ⟨fn, env, k, defers, .run, dk, some l⟩ (g.atR ⟨g.tmps, g.defers⟩ k') := hF.setTodo hk rfl
    have hb := bot_eq (fr := ⟨fn, env, .beginRound :: k, defers, .run, dk, some l⟩) (fr' := ⟨fn, env, k, defers, .run, dk, some l⟩) rfl rfl callers h h'
    exact ⟨_, cs, _, φ, .one (step_at hF rfl hg (stepR_beginRound e1 hrun)), q1, hF', hC, q2, hb.1, hb.2⟩

theorem endRange_out {fn : FuncId} {env : T AV} {defers : List AD} {dk : Bool} {l : Pos} {b : Nat} {round : Option Pos} {k : List Item} {k' : List Go.Item} (hR : HR P φ h w)
    (hF : FrR P φ ⟨fn, env, .endRange l :: k, defers, .run, dk, round⟩ g) (hC : FrsR P φ callers cs) (hl : φ l 0 = some (b, 0, 0)) (hg : g.todo = .endRangeFunc b :: k') (hk : ItemsR P φ (numT P fn) k k') (ok : LState → Bool)
    (kk : Option C → List Item) (hok : ∀ st, ok st = true → st ≠ .busy) (hk0 : kk none = k) (hk1 : ∀ c, kk (some c) = .code c :: k) :
    OutR P c0 φ ⟨⟨fn, env, .endRange l :: k, defers, .run, dk, round⟩, callers, h⟩ g cs w (setLoop h l ok .exhausted id fun p h => .next ⟨⟨fn, env, kk p, defers, .run, dk, round⟩, callers, h⟩) := by
  rcases setLoop_run hR hl ok .exhausted id (fun p h => Out.next ⟨⟨fn, env, kk p, defers, .run, dk, round⟩, callers, h⟩) with ⟨why, e⟩ | ⟨p, h', L, st0, e, z1, z2, z3, z4, z5, z6⟩
  · rw [e]; trivial
  · rw [e]
    have hst : (L.state == .busy) = false := by
      have := hok st0 z2
      cases hq : L.state <;> rw [hq] at z3 <;> first | rfl | skip
      cases st0 <;> first | (exact absurd rfl this) | (cases z3)
    obtain ⟨q1, q2⟩ := z6 { L with state := .exhausted } rfl rfl rfl rfl rfl rfl trivial z4
    have hrun : (Instr.endLoop b).run P w = .ok L.pending (putO w b (.loop { L with state := .exhausted })) := by
      unfold Instr.endLoop
      rw [Sem.run_bind, run_getLoop z1, Result.andThen_ok, hst]
      simp only [Bool.false_eq_true, if_false, Sem.run_bind, Sem.run_pure, Result.andThen_ok, run_setLoop z1]
    have ht : ItemsR P φ (numT P fn) (kk p) ((L.pending.map Go.Item.code).toList ++ k') := by
      cases p with
      | none =>
        cases hq : L.pending with
        | none => rw [hk0]; exact hk
        | some c => rw [hq] at z4; cases z4
      | some c =>
        cases hq : L.pending with
        | none => rw [hq] at z4; cases z4
        | some c' =>
          rw [hq] at z4
          rw [hk1]
          have z4 : ∀ m, numT P L.fn ≤ numT P L.fn + m → c = comp P m c' := z4
          rw [z4 (numT P fn) (Nat.le_add_right _ _)]
          exact .code c' hk
    have hF' : FrR P φ ⟨fn, env, kk p, defers, .run, dk, round⟩ (g.atR ⟨g.tmps, g.defers⟩ ((L.pending.map Go.Item.code).toList ++ k')) := hF.setTodo ht rfl
    have hb := bot_eq (fr := ⟨fn, env, .endRange l :: k, defers, .run, dk, round⟩) (fr' := ⟨fn, env, kk p, defers, .run, dk, round⟩) rfl rfl callers h h'
    exact ⟨_, cs, _, φ, .one (step_at hF rfl hg (stepR_endRangeFunc hrun)), q1, hF', hC, q2, hb.1, hb.2⟩

/-- One step. -/
theorem step_run {s : St} (rec : St → Out) (hR : HR P φ s.hp w) (hz : s.hp.lim = 0) (hF : FrR P φ s.cur g) (hC : FrsR P φ s.callers cs)
    (hdrawn : ∀ id ops k, s.cur.mode = .run → s.cur.todo = .code (comp P (numT P s.cur.fn) (.region id ops true)) :: k → ∀ k', g.todo = .code (.region id ops true) :: k' → ItemsR P φ (numT P s.cur.fn) k k' → OutR P c0 φ s g cs w (step P rec s)) :
    OutR P c0 φ s g cs w (step P rec s) := by
  obtain ⟨fr, callers, h⟩ := s
  obtain ⟨fn, env, todo, defers, mode, dk, round⟩ := fr
  simp only at hR hz hF hC hdrawn
  cases mode with
  | ret => exact unwind_run hR hF hC rfl
  | pan v r => trivial
  | run =>
    have htd := hF.todo
    cases todo with
    | nil =>
      generalize hg : g.todo = gt at htd
      cases htd
      unfold step
      simp only
      cases round with
      | none => exact ret_out hR hF hC rfl fun cs0 => step_at hF rfl hg (by rw [stepR_end (roundOf_none hF rfl), ← hg, ← frame_run (hF.run_mode rfl)])
      | some l =>
        obtain ⟨b, e1, e2⟩ := roundOf_some hF rfl
        exact leave_run (jump' := none) hR hC e2 rfl (fun L _ => trivial) fun v w' c cs1 hr => step_at hF rfl hg (stepR_round_end e1 (kind_round hF rfl) hr)
    | cons x k =>
      generalize hg : g.todo = gt at htd
      cases htd with
      | @cons _ y _ k' hx hk =>
      cases x <;> cases y <;> first | (cases hx; done) | skip
      case code.code c c' =>
        have hx : c = comp P (numT P fn) c' := hx
        subst hx
        exact code_run rec hR hz hF hC hg hk (fun id ops e => by subst e; exact hdrawn id ops k rfl rfl k' hg hk)
      case inBlock.inBlock => exact OutR.to hR hF hC rfl hg hk (fun b a cs _ _ => stepR_inBlock)
      case inScope.inScope => exact OutR.to hR hF hC rfl hg hk (fun b a cs _ _ => stepR_inScope)
      case inLoop.inLoop c c' =>
        have hx : c = comp P (numT P fn) c' := hx
        subst hx
        exact OutR.to hR hF hC rfl hg (.code c' (.lop c' hk)) (fun b a cs _ _ => stepR_inLoop)
      case ops.inRegion => exact ops_run hR hz hF hC rfl rfl rec
      case beginRound.beginRound =>
        unfold step
        simp only
        cases round with
        | none => trivial
        | some l => exact beginRound_out hR hF hC hg hk _ (fun st e => by cases st <;> first | rfl | (cases e))
      case inRange.inRangeFunc => trivial
      case endRange.endRangeFunc l b =>
        unfold step
        simp only
        exact endRange_out hR hF hC hx hg hk _ _ (fun st e => by cases st <;> first | (cases e; done) | (intro q; cases q)) rfl (fun _ => rfl)
end
end Go.Proofs.Ytmifpiglcphmoaa.Am

namespace Go.Proofs.Ytmifpiglcphmoaa.Am

theorem bit_eq (m i : Nat) : bit m i = m.testBit i := by
  rw [Nat.testBit_eq_decide_div_mod_eq]
  show Nat.beq (m / 2 ^ i % 2) 1 = _
  rw [Bool.eq_iff_iff, beq_iff, decide_eq_true_iff]

theorem eqP_iff {p q : Pos} : eqP p q = true ↔ p = q := samePos_iff

theorem eqB_iff {a b : Bool} : eqB a b = true ↔ a = b := by cases a <;> cases b <;> decide
theorem eqI_iff {a b : Int} : eqI a b = true ↔ a = b := by
  cases a <;> cases b
  · show Nat.beq _ _ = true ↔ _
    rw [beq_iff]; exact ⟨fun h => by rw [h], fun h => by cases h; rfl⟩
  · exact ⟨fun h => (by cases h), fun h => (by cases h)⟩
  · exact ⟨fun h => (by cases h), fun h => (by cases h)⟩
  · show Nat.beq _ _ = true ↔ _
    rw [beq_iff]; exact ⟨fun h => by rw [h], fun h => by cases h; rfl⟩
theorem eqK_iff {a b : IntKind} : eqK a b = true ↔ a = b := by simp [eqK]

theorem eqLs_sound {f : AV → AV → Bool} (h : ∀ x y, f x y = true → x = y) : ∀ {l r : List AV}, eqLs f l r = true → l = r
  | [], [], _ => rfl
  | [], _ :: _, e => by cases e
  | _ :: _, [], e => by cases e
  | x :: l, y :: r, e => by
    simp only [eqLs, Bool.and_eq_true] at e
    rw [h x y e.1, eqLs_sound h e.2]

theorem eqAV_sound : ∀ (n : Nat) {x y : AV}, eqAV n x y = true → x = y
  | 0, _, _, e => by cases e
  | n + 1, x, y, e => by
    have ih := fun x y => eqAV_sound n (x := x) (y := y)
    unfold eqAV at e
    split at e <;> (try simp only [Bool.and_eq_true, eqB_iff, eqI_iff, eqK_iff, eqP_iff, beq_iff] at e)
    all_goals first
      | rfl
      | (cases e; done)
      | (subst e; rfl)
      | (obtain ⟨rfl, rfl⟩ := e; rfl)
      | (obtain ⟨⟨rfl, rfl⟩, rfl⟩ := e; rfl)
      | (obtain ⟨⟨⟨⟨⟨⟨rfl, rfl⟩, rfl⟩, rfl⟩, rfl⟩, rfl⟩, rfl⟩ := e; rfl)
      | (obtain ⟨⟨rfl, e1⟩, e2⟩ := e; rw [eqLs_sound ih e1, eqLs_sound ih e2])
      | (obtain ⟨rfl, e1⟩ := e; rw [ih _ _ e1])
      | (rw [eqLs_sound ih e])

theorem opt_two (h h2 : Hp) (why : String) (r : Option AV) : (∃ v, opt h why r = .val v h ∧ opt h2 why r = .val v h2) ∨ ∃ w, opt h why r = .fail w ∧ opt h2 why r = .fail w := by
  cases r with
  | some v => exact .inl ⟨v, rfl, rfl⟩
  | none => exact .inr ⟨why, rfl, rfl⟩

/-- An operation that does not look at the heap. -/
theorem still_two (P : Program) {o : AOp} (env : T AV) (h h2 : Hp) (hk : kindOf o = .still) : (∃ v, evalOp P o env h = .val v h ∧ evalOp P o env h2 = .val v h2) ∨ ∃ w, evalOp P o env h = .fail w ∧ evalOp P o env h2 = .fail w := by
  cases o <;> first | (cases hk; done) | skip
  all_goals (unfold evalOp; simp only [natK_eq, intK_eq])
  case bin => exact opt_two ..
  case un => exact opt_two ..
  case mov => exact .inl ⟨_, rfl, rfl⟩
  case mkIfc => exact .inl ⟨_, rfl, rfl⟩
  case mkFn => exact .inl ⟨_, rfl, rfl⟩
  case lenArr => exact .inl ⟨_, rfl, rfl⟩
  case pick c a b => cases ev env c with
    | bool b => cases b <;> exact .inl ⟨_, rfl, rfl⟩
    | _ => exact .inr ⟨_, rfl, rfl⟩
  case build z p => cases fillA env z p with
    | some l => exact .inl ⟨_, rfl, rfl⟩
    | none => exact .inr ⟨_, rfl, rfl⟩
  case nilCheck x => cases ev env x with
    | fn f a b => cases f <;> first | exact .inl ⟨_, rfl, rfl⟩ | exact .inr ⟨_, rfl, rfl⟩
    | _ => first | exact .inl ⟨_, rfl, rfl⟩ | exact .inr ⟨_, rfl, rfl⟩
  all_goals (try simp only [Bool.cond_eq_ite])
  case part1 | extract => split <;> first | exact opt_two .. | exact .inr ⟨_, rfl, rfl⟩
  case idxArr => (repeat' split) <;> first | exact opt_two .. | exact .inl ⟨_, rfl, rfl⟩ | exact .inr ⟨_, rfl, rfl⟩ | (simp_all; done)
  all_goals ((repeat' split) <;> first | exact .inl ⟨_, rfl, rfl⟩ | exact .inr ⟨_, rfl, rfl⟩ | (simp_all; done))

theorem still_same {P : Program} {o : AOp} {env : T AV} {h h' : Hp} {v : AV} (hk : kindOf o = .still) (e : evalOp P o env h = .val v h') : h' = h ∧ ∀ h2, evalOp P o env h2 = .val v h2 := by
  refine ⟨?_, fun h2 => ?_⟩
  · rcases still_two P env h h hk with ⟨u, e1, _⟩ | ⟨u, e1, _⟩ <;> rw [e1] at e <;> cases e
    rfl
  · rcases still_two P env h h2 hk with ⟨u, e1, e2⟩ | ⟨u, e1, _⟩ <;> rw [e1] at e <;> cases e
    exact e2

/-- An operation that looks at the heap, and no more. -/
theorem load_same {P : Program} {o : AOp} {env : T AV} {h h' : Hp} {v : AV} (hk : kindOf o = .load) (e : evalOp P o env h = .val v h') : h' = h := by
  cases o <;> first | (cases hk; done) | skip
  all_goals (unfold evalOp at e; simp only [natK_eq, Bool.cond_eq_ite, opt] at e)
  all_goals ((repeat' split at e) <;> first | (cases e; done) | (cases e; rfl))

/-- An operation that makes one new block. -/
theorem alloc_shape {P : Program} {o : AOp} {env : T AV} {h h' : Hp} {v : AV} (hk : kindOf o = .alloc) (e : evalOp P o env h = .val v h') : ∃ b, h' = ⟨T.set h.next (some b) h.heap, h.next.succ, Nat.succ h.ser, h.lim⟩ := by
  cases o <;> first | (cases hk; done) | skip
  all_goals (unfold evalOp at e; simp only [newCells, newK_eq, Bool.cond_eq_ite] at e)
  all_goals ((repeat' split at e) <;> first | (cases e; done) | (cases e; exact ⟨_, rfl⟩))
end Go.Proofs.Ytmifpiglcphmoaa.Am

namespace Go.Proofs.Ytmifpiglcphmoaa.Am

def Same (l : List Pos) (env env' : T AV) : Prop := ∀ p ∈ l, ev env (.tmp p) = ev env' (.tmp p)

theorem Same.left {l r : List Pos} {env env' : T AV} (h : Same (l ++ r) env env') : Same l env env' := fun p hp => h p (List.mem_append_left _ hp)
theorem Same.right {l r : List Pos} {env env' : T AV} (h : Same (l ++ r) env env') : Same r env env' := fun p hp => h p (List.mem_append_right _ hp)

variable {env env' : T AV}

theorem ev_congr {x : Opd} (h : Same (slotsO x) env env') : ev env x = ev env' x := by
  cases x with
  | tmp p => exact h p (by simp [slotsO])
  | val v => rfl

theorem evO_congr {x : Option Opd} (h : Same (slotsOO x) env env') (d : Nat) : evO env x d = evO env' x d := by
  cases x with
  | none => rfl
  | some x => unfold evO; simp only [ev_congr (x := x) h]

theorem evL_congr {l : List Opd} (h : Same (slotsL l) env env') : l.map (ev env) = l.map (ev env') := by
  induction l with
  | nil => rfl
  | cons x l ih =>
    have h : Same (slotsO x ++ slotsL l) env env' := h
    rw [List.map_cons, List.map_cons, ev_congr h.left, ih h.right]

theorem fill_congr {l : List (Nat × Nat × Opd)} (h : Same (slotsP l) env env') (cells : List AV) : fillA env cells l = fillA env' cells l := by
  induction l generalizing cells with
  | nil => rfl
  | cons x l ih =>
    obtain ⟨off, size, x⟩ := x
    have h : Same (slotsO x ++ slotsP l) env env' := h
    unfold fillA
    simp only [ev_congr h.left, ih h.right]

theorem evalOp_congr (P : Program) {o : AOp} (h : Same (slotsOf o) env env') (hp : Hp) : evalOp P o env hp = evalOp P o env' hp := by
  cases o with
  | mov x | box x | load1 x | nilCheck x | convStr x | strBytes x | bytesStr x | rangeStr x | nextStr x | rangeMap x | nextMap x | entry x | toUnsafe x | sliceData x | panic x | lenS x | lenL x | lenM x | cap x =>
    have e : ev env x = ev env' x := ev_congr h
    unfold evalOp; simp only [e]
  | loadN _ x | un _ x | convInt _ x | mkIfc _ x | fieldAddr _ x | part1 _ x | fromUnsafe _ x =>
    have e : ev env x = ev env' x := ev_congr h
    unfold evalOp; simp only [e]
  | partN _ _ x =>
    have e : ev env x = ev env' x := ev_congr h
    unfold evalOp; simp only [e]
  | assertT _ _ _ x =>
    have e : ev env x = ev env' x := ev_congr h
    unfold evalOp; simp only [e]
  | extract x _ =>
    have e : ev env x = ev env' x := ev_congr h
    unfold evalOp; simp only [e]
  | pick c a b =>
    have h : Same (slotsO c ++ (slotsO a ++ slotsO b)) env env' := h
    unfold evalOp; simp only [ev_congr h.left, ev_congr h.right.left, ev_congr h.right.right]
  | update _ c a b =>
    have h : Same (slotsO c ++ (slotsO a ++ slotsO b)) env env' := h
    unfold evalOp; simp only [ev_congr h.left, ev_congr h.right.left, ev_congr h.right.right]
  | build _ parts =>
    have h : Same (slotsP parts) env env' := h
    unfold evalOp; simp only [fill_congr h]
  | buildSl _ _ _ parts =>
    have h : Same (slotsP parts) env env' := h
    unfold evalOp; simp only [fill_congr h]
  | store _ x y | idxAddrSl _ x y | copy _ x y | eqPtr _ x y | delete _ x y =>
    have h : Same (slotsO x ++ slotsO y) env env' := h
    unfold evalOp; simp only [ev_congr h.left, ev_congr h.right]
  | bin _ _ _ x y | idxArr _ _ _ x y | mkSl _ _ _ x y | appendZ _ _ _ x y | lookup _ _ _ x y =>
    have h : Same (slotsO x ++ slotsO y) env env' := h
    unfold evalOp; simp only [ev_congr h.left, ev_congr h.right]
  | idxAddrArr _ _ x y | append _ _ x y =>
    have h : Same (slotsO x ++ slotsO y) env env' := h
    unfold evalOp; simp only [ev_congr h.left, ev_congr h.right]
  | idxStr x y | unsafeStr x y | bmin x y | bmax x y =>
    have h : Same (slotsO x ++ slotsO y) env env' := h
    unfold evalOp; simp only [ev_congr h.left, ev_congr h.right]
  | mkFn _ a b =>
    have h : Same (slotsL a ++ slotsL b) env env' := h
    unfold evalOp; simp only [evL_congr h.left, evL_congr h.right]
  | sliceStr x lo hi =>
    have h : Same (slotsO x ++ (slotsOO lo ++ slotsOO hi)) env env' := h
    unfold evalOp; simp only [ev_congr h.left, evO_congr h.right.left, evO_congr h.right.right]
  | sliceSl _ x lo hi mx =>
    have h : Same (slotsO x ++ (slotsOO lo ++ (slotsOO hi ++ slotsOO mx))) env env' := h
    unfold evalOp; simp only [ev_congr h.left, evO_congr h.right.left, evO_congr h.right.right.left, evO_congr h.right.right.right]
  | sliceArr _ _ x lo hi mx =>
    have h : Same (slotsO x ++ (slotsOO lo ++ (slotsOO hi ++ slotsOO mx))) env env' := h
    unfold evalOp; simp only [ev_congr h.left, evO_congr h.right.left, evO_congr h.right.right.left, evO_congr h.right.right.right]
  | ext _ args =>
    have h : Same (slotsL args) env env' := h
    unfold evalOp; simp only [evL_congr h]
  | defer f args =>
    have h : Same (slotsO f ++ slotsL args) env env' := h
    unfold evalOp; simp only [ev_congr h.left, evL_congr h.right]
  | call c args =>
    cases c with
    | value f =>
      have h : Same (slotsO f ++ slotsL args) env env' := h
      unfold evalOp; simp only [ev_congr h.left, evL_congr h.right]
    | invoke r name =>
      have h : Same (slotsO r ++ slotsL args) env env' := h
      unfold evalOp; simp only [ev_congr h.left, evL_congr h.right]
  | new _ | mkMap | recover | lenArr _ | bad _ => rfl

theorem wanted_congr {o : O} (h : Same (looks o) env env') : wantedA o env = wantedA o env' := by
  unfold wantedA
  cases hg : o.guard with
  | none => rfl
  | some x =>
    obtain ⟨p, b⟩ := x
    have e : ev env (.tmp p) = ev env' (.tmp p) := h p (by simp [looks, hg])
    have key : ∀ env : T AV, (match T.get p env with | some (.bool c) => bif b then c else !c | _ => false) = (match ev env (.tmp p) with | .bool c => bif b then c else !c | _ => false) := by
      intro env
      unfold ev
      simp only
      cases hq : T.get p env with
      | none => rfl
      | some v => cases v <;> rfl
    refine (key env).trans (Eq.trans ?_ (key env').symm)
    rw [e]

theorem looks_op {o : O} (h : Same (looks o) env env') : Same (slotsOf o.op) env env' := by
  intro p hp
  refine h p ?_
  unfold looks
  cases o.guard with
  | none => exact hp
  | some x => exact List.mem_cons_of_mem _ hp
end Go.Proofs.Ytmifpiglcphmoaa.Am

namespace Go.Proofs.Ytmifpiglcphmoaa.Am

def NonroF (F : Pos → Option Blk) (id : Pos) : Prop := ∃ b, F id = some b ∧ ∀ s c lo hi g m ro fz, b = .cells s c lo hi g m ro fz → ro = false

structure HRF (P : Program) (φ : Phi) (F : Pos → Option Blk) (nx lim : Nat) (w : World) : Prop where
  blk : ∀ id b, F id = some b → BR P φ w id b
  used : ∀ id g r, φ id g = some r → Old nx lim id
  dom : ∀ id b, F id = some b → Old nx lim id
  sep : ∀ id g b s n id' g' s' n', φ id g = some (b, s, n) → φ id' g' = some (b, s', n') → id = id' ∨ (¬ NonroF F id ∧ ¬ NonroF F id')
  inb : ∀ id g b s n, φ id g = some (b, s, n) → b < w.heap.size
  glob : ∀ g, g < globN P → ∃ n, φ (Pos.ofNat g) 0 = some (g, 0, n)

structure AdvF (h : Hp) (w : World) (φ : Phi) (F : Pos → Option Blk) (nx : Nat) (w' : World) (φ' : Phi) : Prop where
  le : Le φ φ'
  os : w'.os = w.os
  output : w'.output = w.output
  tape : w'.tape = w.tape
  size : w.heap.size ≤ w'.heap.size
  next : h.next.num ≤ nx
  new : ∀ id g b s n, φ' id g = some (b, s, n) → b < w.heap.size → ∃ g₀ s₀ n₀, φ id g₀ = some (b, s₀, n₀)
  old : ∀ id, (id.num < h.next.num ∨ nx ≤ id.num) → NonroF F id → Nonro h id
  keep : ∀ b, b < w.heap.size → (∀ id g s n, φ id g = some (b, s, n) → ¬ Nonro h id) → w'.heap[b]? = w.heap[b]?
  hid : ∀ id, (id.num < h.next.num ∨ nx ≤ id.num) → T.get id h.heap = none → F id = none
  same : ∀ id g r, (id.num < h.next.num ∨ nx ≤ id.num) → ¬ Nonro h id → φ' id g = some r → φ id g = some r

variable {P : Program} {φ φ' φ0 : Phi} {w w' w0 : World} {F F' : Pos → Option Blk} {nx nx' : Nat} {h h0 V V' : Hp}

theorem HR.toF (hR : HR P φ h w) : HRF P φ (fun id => T.get id h.heap) h.next.num h.lim w := ⟨hR.blk, hR.used, hR.dom, hR.sep, hR.inb, hR.glob⟩

theorem HRF.sub {lim : Nat} (hR : HRF P φ F nx lim w) (sub : ∀ id b, T.get id V.heap = some b → F id = some b) (hu : ∀ id g r, φ id g = some r → Old V.next.num V.lim id)
    (hd : ∀ id b, T.get id V.heap = some b → Old V.next.num V.lim id) : HR P φ V w :=
  ⟨fun id b e => hR.blk id b (sub id b e), hu, hd, fun id g b s n id' g' s' n' k k' => (hR.sep id g b s n id' g' s' n' k k').imp _root_.id fun q => ⟨fun ⟨b, e, r⟩ => q.1 ⟨b, sub _ b e, r⟩, fun ⟨b, e, r⟩ => q.2 ⟨b, sub _ b e, r⟩⟩, hR.inb, hR.glob⟩

theorem Adv.refl_F (h : Hp) (w : World) (φ : Phi) {nx : Nat} (hn : h.next.num ≤ nx) : AdvF h w φ (fun id => T.get id h.heap) nx w φ :=
  ⟨Le.refl φ, rfl, rfl, rfl, Nat.le_refl _, hn, fun _ g _ s n e _ => ⟨g, s, n, e⟩, fun _ _ k => k, fun _ _ _ => rfl, fun _ _ e => e, fun _ _ _ _ _ e => e⟩

theorem AdvF.toAdv (a : AdvF h0 w0 φ0 (fun id => T.get id h.heap) h.next.num w φ) (hl : h.lim = h0.lim) : Adv h0 w0 φ0 h w φ :=
  ⟨a.le, a.os, a.output, a.tape, a.size, a.next, a.new, a.old, a.keep, hl, a.hid, a.same⟩

theorem Nonro.toF (sub : ∀ id b, T.get id V.heap = some b → F id = some b) {id : Pos} (k : Nonro V id) : NonroF F id :=
  let ⟨b, e, q⟩ := k
  ⟨b, sub id b e, q⟩

theorem merge (hR : HRF P φ F nx 0 w) (A : AdvF h0 w0 φ0 F nx w φ) (h0u : ∀ id g r, φ0 id g = some r → id.num < h0.next.num) (hR' : HR P φ' V' w') (a : Adv V w φ V' w' φ')
    (sub : ∀ id b, T.get id V.heap = some b → F id = some b) (n1 : h0.next.num ≤ V.next.num) (n2 : V'.next.num ≤ nx') (n3 : nx ≤ nx')
    (fresh : ∀ id, V.next.num ≤ id.num → id.num < V'.next.num → F id = none)
    (spec : ∀ id b, F' id = some b → T.get id V'.heap = some b ∨ (T.get id V.heap = none ∧ F id = some b)) : HRF P φ' F' nx' 0 w' ∧ AdvF h0 w0 φ0 F' nx' w' φ' := by
  have old0 : ∀ {m : Nat} {id : Pos}, Old m 0 id → id.num < m := fun {m id} k => by
    rcases k with k | ⟨k, _⟩
    · exact k
    · exact absurd rfl k
  have hwas : ∀ id b, F id = some b → Was V V' id := fun id b e => by
    by_cases c : id.num < V.next.num
    · exact .inl c
    · by_cases c' : id.num < V'.next.num
      · rw [fresh id (by omega) c'] at e; cases e
      · exact .inr (by omega)
  have hu : ∀ id g r, φ' id g = some r → id.num < nx' := fun id g r e => by
    by_cases hn : Nonro V id
    · obtain ⟨b, e1, _⟩ := hn
      have := old0 (hR.dom id b (sub id b e1))
      omega
    · by_cases c : id.num < V.next.num
      · have := old0 (hR.used id g r (a.same id g r (.inl c) hn e)); omega
      · by_cases c' : id.num < V'.next.num
        · omega
        · have := old0 (hR.used id g r (a.same id g r (.inr (by omega)) hn e)); omega
  have w1 : ∀ {id : Pos}, (id.num < h0.next.num ∨ nx' ≤ id.num) → Was V V' id := fun {id} k => by
    rcases k with k | k
    · exact .inl (by omega)
    · exact .inr (by omega)
  have w2 : ∀ {id : Pos}, (id.num < h0.next.num ∨ nx' ≤ id.num) → (id.num < h0.next.num ∨ nx ≤ id.num) := fun {id} k => by omega
  have part : ∀ {id g b s n id' g' s' n'}, φ' id g = some (b, s, n) → φ' id' g' = some (b, s', n') → ¬ Nonro V' id → NonroF F' id → id = id' := fun {id g b s n id' g' s' n'} k k' q ⟨b0, e0, r0⟩ => by
    rcases spec id b0 e0 with e1 | ⟨e1, e2⟩
    · exact absurd ⟨b0, e1, r0⟩ q
    · have hn : ¬ Nonro V id := fun ⟨b', q, _⟩ => by rw [e1] at q; cases q
      have k1 := a.same id g _ (hwas id b0 e2) hn k
      have hb := hR.inb _ _ _ _ _ k1
      obtain ⟨g1, s1, n1, k2⟩ := a.new id' g' b s' n' k' hb
      rcases hR.sep _ _ _ _ _ _ _ _ _ k1 k2 with e | e
      · exact e
      · exact absurd ⟨b0, e2, r0⟩ e.1
  refine ⟨⟨fun id b e => ?_, fun id g r e => .inl (hu id g r e), fun id b e => ?_, fun id g b s n id' g' s' n' k k' => ?_, hR'.inb, hR'.glob⟩, ?_⟩
  · rcases spec id b e with e' | ⟨e1, e2⟩
    · exact hR'.blk id b e'
    · have hn : ¬ Nonro V id := fun ⟨b', q, _⟩ => by rw [e1] at q; cases q
      refine BR.mono a.le (fun g r k => a.same id g r (hwas id b e2) hn k) (fun g y s n k => ?_) (hR.blk id b e2)
      refine a.keep y (hR.inb _ _ _ _ _ k) fun id' g' s' n' k' hn' => ?_
      rcases hR.sep _ _ _ _ _ _ _ _ _ k k' with this | this
      · subst this
        exact hn hn'
      · exact this.2 (hn'.toF sub)
  · rcases spec id b e with e' | ⟨e1, e2⟩
    · by_cases c : id.num < V.next.num ∨ V'.next.num ≤ id.num
      · cases q : T.get id V.heap with
        | none => rw [a.hid id c q] at e'; cases e'
        | some b' => have := old0 (hR.dom id b' (sub id b' q)); exact .inl (by omega)
      · exact .inl (by omega)
    · have := old0 (hR.dom id b e2); exact .inl (by omega)
  · rcases hR'.sep _ _ _ _ _ _ _ _ _ k k' with q | ⟨q, q'⟩
    · exact .inl q
    · by_cases c : NonroF F' id
      · exact .inl (part k k' q c)
      · by_cases c' : NonroF F' id'
        · exact .inl (part k' k q' c').symm
        · exact .inr ⟨c, c'⟩
  · refine ⟨A.le.trans a.le, a.os.trans A.os, a.output.trans A.output, a.tape.trans A.tape, Nat.le_trans A.size a.size, Nat.le_trans A.next n3, fun id g b s n e hb => ?_, fun id hw k => ?_, fun b hb k => ?_, fun id hw e => ?_, fun id g r hw hn e => ?_⟩
    · obtain ⟨g1, s1, n1, e1⟩ := a.new id g b s n e (Nat.lt_of_lt_of_le hb A.size)
      exact A.new id g1 b s1 n1 e1 hb
    · obtain ⟨b, e, q⟩ := k
      rcases spec id b e with e' | ⟨_, e2⟩
      · exact A.old id (w2 hw) ((a.old id (w1 hw) ⟨b, e', q⟩).toF sub)
      · exact A.old id (w2 hw) ⟨b, e2, q⟩
    · rw [← A.keep b hb k]
      refine a.keep b (Nat.lt_of_lt_of_le hb A.size) fun id g s n e hn => ?_
      obtain ⟨g1, s1, n1, e1⟩ := A.new id g b s n e hb
      exact k id g1 s1 n1 e1 (A.old id (.inl (h0u id g1 _ e1)) (hn.toF sub))
    · cases q : F' id with
      | none => rfl
      | some b =>
        have e1 := A.hid id (w2 hw) e
        rcases spec id b q with e' | ⟨_, e2⟩
        · have e3 : T.get id V.heap = none := by
            cases q' : T.get id V.heap with
            | none => rfl
            | some b' => rw [sub id b' q'] at e1; cases e1
          rw [a.hid id (w1 hw) e3] at e'; cases e'
        · rw [e1] at e2; cases e2
    · exact A.same id g r (w2 hw) hn (a.same id g r (w1 hw) (fun k => hn (A.old id (w2 hw) (k.toF sub))) e)
end Go.Proofs.Ytmifpiglcphmoaa.Am
