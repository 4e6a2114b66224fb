import Derived.RangeFuncIn
import Derived.Orders
import Derived.Test.YtjhgembcdndmkaaGreatDoorAmE
/- THE ABSTRACT MACHINE, part F: a machine over values without block numbers, and the proof that the model's machine does what it does. No condition. -/
set_option linter.unusedSimpArgs false
set_option linter.unusedVariables false
namespace Go.Proofs.YtjhgembcdndmkaaGreatDoor.Am
theorem run_getLoop {P : Program} {w : World} {b : Nat} {L : Loop} (h : w.heap[b]? = some (.loop L)) : (Instr.getLoop b).run P w = .ok L w := by
  simp [Instr.getLoop, getObj, Sem.run, h, Bind.bind, Sem.bind, Pure.pure]
theorem run_setLoop {P : Program} {w : World} {b : Nat} {L : Loop} (h : w.heap[b]? = some (.loop L)) (o : Obj) : (setObj b o).run P w = .ok () (putO w b o) := by
  simp [setObj, Sem.run, h, putO]
section
variable {P : Program} {φ : Phi} {h : Hp} {w : World}
theorem setLoop_run (hR : HR P φ h w) {l : Pos} {b : Nat} (hφ : φ l 0 = some (b, 0, 0)) (ok : LState → Bool) (st : LState) (pend : Option C → Option C) (k : Option C → Hp → Out) :
    (∃ why, setLoop h l ok st pend k = .fail why) ∨ ∃ p h' L st0, setLoop h l ok st pend k = k p h' ∧ w.heap[b]? = some (.loop L) ∧ ok st0 = true ∧ LSR st0 L.state ∧ PendR P (numT P L.fn) p L.pending ∧
      h'.next = h.next ∧ ∀ L' : Loop, L'.fn = L.fn → L'.tmps = L.tmps → L'.params = L.params → L'.assign = L.assign → L'.body = L.body → L'.defers = L.defers → LSR st L'.state → PendR P (numT P L.fn) (pend p) L'.pending →
        HR P φ h' (putO w b (.loop L')) ∧ Adv h w φ h' (putO w b (.loop L')) φ := by
  unfold setLoop
  split
  · rename_i ser st0 p fn env params assign body around hid
    cases hc : ok st0 with
    | false => exact .inl ⟨_, rfl⟩
    | true =>
      rw [cond_true, T.setK_eq]
      obtain ⟨b', L, e1, e2, e3, e4, e5, e6, e7, e8, e9, e10, e11, e12⟩ := hR.blk _ _ hid
      rw [hφ, Option.some.injEq, Prod.mk.injEq] at e1
      obtain ⟨rfl, _⟩ := e1
      subst e5
      refine .inr ⟨p, _, L, st0, rfl, e2, hc, e3, e4, rfl, fun L' q1 q2 q3 q4 q5 q6 q7 q8 => ?_⟩
      have u : Upd h w φ l h.next (putO w b (.loop L')) φ := Upd.same hR hid (by simp [putO]) (fun y hy kk => putO_ne (fun c => kk 0 0 0 (by rw [c]; exact hφ))) rfl rfl rfl
      refine ⟨hR.update u (.inr ⟨_, hid, fun _ _ _ _ _ _ _ _ kk => by cases kk⟩) fun x hx => ?_, Adv.update hR u (.inr ⟨_, hid, fun _ _ _ _ _ _ _ _ kk => by cases kk⟩)⟩
      cases hx
      exact ⟨b, L', hφ, putO_same e2, q7, by rw [q1] at *; exact q8, q1, by rw [q2]; exact e6, by rw [q2]; exact e7, by rw [q3]; exact e8, e9 |> fun z => by rw [q3]; exact z, by rw [q4]; exact e10, by rw [q5]; exact e11, by rw [q6]; exact e12⟩
  · exact .inl ⟨_, rfl⟩
theorem setParams_run {env env' : T AV} {tmps : Array Value} (hE : EnvR φ env tmps) : ∀ (ts : List Tmp) (l : List AV) (xs : List Value) (env : T AV) (tmps : Array Value), EnvR φ env tmps → RelL φ l xs → (∀ t ∈ ts, t < tmps.size) →
    setParams env (ts.map Pos.ofNat) l = some env' → ts.length = xs.length ∧ EnvR φ env' ((ts.zip xs).foldl (fun tmps p => tmps.setIfInBounds p.1 p.2) tmps) ∧ ((ts.zip xs).foldl (fun tmps p => tmps.setIfInBounds p.1 p.2) tmps).size = tmps.size := by
  clear hE
  intro ts
  induction ts with
  | nil =>
    intro l xs env tmps hE hx _ h
    cases l with
    | nil =>
      simp only [List.map_nil, setParams, Option.some.injEq] at h
      cases hx; subst h
      exact ⟨rfl, hE, rfl⟩
    | cons v l => simp [setParams] at h
  | cons t ts ih =>
    intro l xs env tmps hE hx hlt h
    cases hx with
    | nil => simp [setParams] at h
    | @cons v x l xs hv hx =>
      simp only [List.map_cons, setParams, T.setK_eq] at h
      have := hE.set hv (hlt t (by simp))
      obtain ⟨r1, r2, r3⟩ := ih l xs _ _ this hx (fun u hu => by have := hlt u (by simp [hu]); simpa using this) h
      exact ⟨by simp [r1], r2, by simpa using r3⟩
theorem round_run (hR : HR P φ h w) {l : Pos} {b : Nat} (hφ : φ l 0 = some (b, 0, 0)) {args : List AV} {xs : Array Value} (hx : RelL φ args xs.toList) {fr : Fr} (hb : beginRound h l args = some fr) :
    ∃ f tmps assign body, (Instr.yield b xs).run P w = .ok (.round b f tmps assign body) w ∧ FrR P φ fr (Frame.round b f tmps assign body .normal) ∧ fr.round = some l := by
  unfold beginRound at hb
  split at hb
  · rename_i ser st p fn env params assign body around hid
    split at hb
    · rename_i env' he
      cases hb
      obtain ⟨b', L, e1, e2, e3, e4, e5, e6, e7, e8, e9, e10, e11, e12⟩ := hR.blk _ _ hid
      rw [hφ, Option.some.injEq, Prod.mk.injEq] at e1
      obtain ⟨rfl, _⟩ := e1
      rw [← e8] at he
      obtain ⟨r1, r2, r3⟩ := setParams_run e6 L.params.toList args xs.toList env L.tmps e6 hx (fun t ht => Nat.lt_of_lt_of_le (e9 t ht) e7) he
      have hsz : ¬ (xs.size ≠ L.params.size) := by
        rw [Array.length_toList, Array.length_toList] at r1; simp [r1]
      have hfold : (L.params.zip xs).foldl (fun tmps (x : Tmp × Value) => tmps.setIfInBounds x.1 x.2) L.tmps = (L.params.toList.zip xs.toList).foldl (fun tmps p => tmps.setIfInBounds p.1 p.2) L.tmps := by
        rw [← Array.foldl_toList, Array.toList_zip]
      refine ⟨L.fn, (L.params.zip xs).foldl (fun tmps (x : Tmp × Value) => tmps.setIfInBounds x.1 x.2) L.tmps, L.assign, L.body, ?_, ⟨e5, ?_, ?_, ?_, .nil, trivial, rfl, hφ⟩, rfl⟩
      · unfold Instr.yield
        rw [Sem.run_bind, run_getLoop e2, Result.andThen_ok]
        rw [if_neg hsz]
        rfl
      · show EnvR φ env' ((L.params.zip xs).foldl (fun tmps (x : Tmp × Value) => tmps.setIfInBounds x.1 x.2) L.tmps)
        rw [hfold]; exact r2
      · show numT P fn ≤ ((L.params.zip xs).foldl (fun tmps (x : Tmp × Value) => tmps.setIfInBounds x.1 x.2) L.tmps).size
        rw [hfold, r3]; exact e7
      · exact .cons e10 (.cons trivial (.cons e11 .nil))
    · cases hb
  · cases hb
end
section
variable {P : Program} {φ : Phi} {h : Hp} {w : World} {fr : Fr} {g : Frame}
theorem backTo_run {v : AV} {x : Value} {callers : List Fr} {cs c0 : List Frame} {φ0 : Phi} {h0 : Hp} {w0 : World} (hR : HR P φ h w) (hC : FrsR P φ callers cs) (hv : Rel φ v x) (hA : Adv h0 w0 φ0 h w φ)
    (hs : ∀ c cs1, cs ++ c0 = c :: cs1 → Steps P (lone g (cs ++ c0) w0) (lone (c.finish x) cs1 w))
    (hl : fr.round = none → callers = [] → ∃ g', Steps P (lone g (cs ++ c0) w0) (lone g' c0 w) ∧ g'.fn = fr.fn ∧ g'.leaving P w (.returned x)) :
    OutR P c0 φ0 ⟨fr, callers, h0⟩ g cs w0 (backTo v callers h) := by
  cases hC with
  | nil =>
    refine ⟨w, φ, x, hR, hA, hv, fun c cs1 e => hs c cs1 (by simpa using e), fun hr => ?_⟩
    have := hl hr rfl
    simpa [bot] using this
  | @cons c y l r hc ht =>
    unfold backTo
    simp only
    have hstep := hs y (r ++ c0) rfl
    rcases give_run (fun c => Out.next ⟨c, l, h⟩) hc hv with ⟨why, e⟩ | ⟨fr', e, e1, e2, e3⟩
    · rw [e]; trivial
    · rw [e]
      refine ⟨y.finish x, r, w, φ, hstep, hR, e1, ht, hA, ?_, ?_⟩
      · rw [bot_cons c l fr h0 h]
        cases l with
        | nil => exact e2
        | cons d ds => simp [bot, List.getLast?_cons]
      · rw [bot_cons c l fr h0 h]
        cases l with
        | nil => exact e3
        | cons d ds => simp [bot, List.getLast?_cons]
theorem unwind_run {callers : List Fr} {cs c0 : List Frame} (hR : HR P φ h w) (hF : FrR P φ fr g) (hC : FrsR P φ callers cs) (hm : fr.mode = .ret) : OutR P c0 φ ⟨fr, callers, h⟩ g cs w (unwindA P ⟨fr, callers, h⟩) := by
  have hgm : g.mode = .returning := by
    have := hF.mode
    rw [hm] at this
    cases hq : g.mode <;> rw [hq] at this <;> first | rfl | (cases this)
  have hd := hF.defers
  unfold unwindA
  simp only
  split
  · rename_i id ds hds
    rw [hds] at hd
    generalize hgd : g.defers = gd at hd
    cases hd with
    | @mark _ b _ r hφ ht =>
      split
      · rename_i ser hid
        rw [T.setK_eq]
        obtain ⟨b', e1, e2⟩ := hR.blk _ _ hid
        rw [hφ, Option.some.injEq, Prod.mk.injEq] at e1
        obtain ⟨rfl, _⟩ := e1
        have u : Upd h w φ id h.next (putO w b (.deferred none)) φ := Upd.same hR hid (by simp [putO]) (fun y hy kk => putO_ne (fun c => kk 0 0 0 (by rw [c]; exact hφ))) rfl rfl rfl
        have hrun : (Instr.takeDeferred b).run P w = .ok [] (putO w b (.deferred none)) := by
          simp [Instr.takeDeferred, getObj, setObj, Sem.run, e2, Bind.bind, Sem.bind, Pure.pure, putO]
        have hst := step_collected (P := P) (fr := g) (cs := cs ++ c0) (w := w) (w' := putO w b (.deferred none)) (d := { target := .collected b, args := #[] }) (r := b) (ds := r) (calls := [])
          (by rw [hgm]; simp) hgd rfl hrun
        refine ⟨_, cs, _, φ, .one hst, hR.update u (.inr ⟨_, hid, fun _ _ _ _ _ _ _ _ kk => (by cases kk)⟩) fun x hx => (by cases hx), ⟨hF.fn, hF.env, hF.size, hF.todo, ?_, hF.mode, hF.kind, hF.round⟩, hC,
          Adv.update hR u (.inr ⟨_, hid, fun _ _ _ _ _ _ _ _ kk => (by cases kk)⟩), ?_, ?_⟩
        · exact ht
        · cases callers with
          | nil => rfl
          | cons c l => simp [bot, List.getLast?_cons]
        · cases callers with
          | nil => rfl
          | cons c l => simp [bot, List.getLast?_cons]
      · trivial
  · rename_i f args ds hds
    rw [hds] at hd
    generalize hgd : g.defers = gd at hd
    cases hd with
    | @call _ _ d _ r hdef ht =>
      obtain ⟨Y, d1, d2⟩ := hdef
      obtain ⟨tg, ag⟩ := d
      simp only at d1 d2
      subst d1
      split
      · rename_i f' args' h' hent
        have he := enter_run (P := P) (φ := φ) (h := h) (w := w) (f := f) d2
        rw [hent] at he
        obtain ⟨_, xs, fn, c, e1, e2, e3, e4⟩ := he
        split
        · rename_i fr' hb
          obtain ⟨q1, q2, q3, _⟩ := begin_run hb e4
          have hinv : (invoke (.fn (.func f) Y) ag).run P w = .ok (.enter f' xs) w := e1
          have hst : ∀ cs0, Go.step P (lone g cs0 w) = .next (lone (Frame.enter P f' xs .deferred) ({ g with defers := r } :: cs0) w) := by
            intro cs0
            refine step_lone_go ?_
            simp [stepG, unwind, hgm, hgd, callDeferred, Sem.runT_eq, hinv, GStep.bare_after]
          have hF' : FrR P φ { fr' with dk := true } (Frame.enter P f' xs .deferred) :=
            ⟨q1.fn, q1.env, q1.size, q1.todo, q1.defers, q1.mode, by rw [if_pos ⟨rfl, q3⟩]; rfl, q1.round⟩
          have hF2 : FrR P φ { fr with defers := ds } { g with defers := r } := ⟨hF.fn, hF.env, hF.size, hF.todo, ht, hF.mode, hF.kind, hF.round⟩
          refine ⟨_, { g with defers := r } :: cs, w, φ, .one (hst _), hR, hF', .cons hF2 hC, Adv.refl h w φ, ?_, ?_⟩
          · rw [bot_cons { fr with defers := ds } callers { fr' with dk := true } h h]
            cases callers with
            | nil => rfl
            | cons c l => simp [bot, List.getLast?_cons]
          · rw [bot_cons { fr with defers := ds } callers { fr' with dk := true } h h]
            cases callers with
            | nil => rfl
            | cons c l => simp [bot, List.getLast?_cons]
        · trivial
      · trivial
  · rename_i hds
    rw [hds] at hd
    have hgd : g.defers = [] := by cases hq : g.defers <;> rw [hq] at hd <;> first | rfl | (cases hd)
    split
    · rename_i fu hfu
      split
      · rename_i vs hvs
        obtain ⟨fn, b, h1, h2, h3, h4, h5, h6⟩ := compFn_spec hfu
        obtain ⟨x, e1, e2⟩ := results_run hR hF.env h3 hvs
        have hkind := hF.kind
        split
        · rename_i hro
          cases hdk : fr.dk with
          | false =>
            rw [hdk] at hkind
            have hlv : g.leaving P w (.returned x) := ⟨hgm, hgd, by simpa using hkind, fn, by rw [hF.fn]; exact h1, e1⟩
            rw [cond_false]
            refine backTo_run hR hC e2 (Adv.refl h w φ) (fun c cs1 e => ?_) (fun _ hcl => ⟨g, ?_, hF.fn, hlv⟩)
            · rw [e]; exact .one (step_leave_returned hlv)
            · subst hcl; cases hC; exact Steps.refl _ _
          | true =>
            rw [hdk, hro] at hkind
            have hkind : g.kind = .deferred := by simpa using hkind
            rw [cond_true]
            cases hC with
            | nil => trivial
            | @cons c y l r hc ht =>
              simp only
              cases hmode : c.mode with
              | run => trivial
              | pan v rec => trivial
              | ret =>
                have hym : y.mode = .returning := by
                  have := hc.mode
                  rw [hmode] at this
                  cases hq : y.mode <;> rw [hq] at this <;> first | rfl | (cases this)
                have hfn : P.funcs[g.fn]? = some fn := by rw [hF.fn]; exact h1
                have hst : ∀ cs0, Go.step P (lone g (y :: cs0) w) = .next (lone y cs0 w) := by
                  intro cs0
                  refine step_lone_go ?_
                  simp [stepG, unwind, hgm, hgd, doReturn, Sem.runT_eq, hfn, e1, hkind, hym, GStep.bare_after]
                refine ⟨y, r, w, φ, .one (hst _), hR, hc, ht, Adv.refl h w φ, ?_, ?_⟩
                · rw [bot_cons c l fr h h]
                · rw [bot_cons c l fr h h]
        · trivial
      · trivial
    · trivial
theorem leave_run {callers : List Fr} {cs c0 : List Frame} {l : Pos} {b : Nat} {jump : Option C} {jump' : Option Code} (hR : HR P φ h w) (hC : FrsR P φ callers cs) (hφ : φ l 0 = some (b, 0, 0)) (hro : fr.round = some l)
    (hj : ∀ L : Loop, w.heap[b]? = some (.loop L) → PendR P (numT P L.fn) jump jump')
    (hs : ∀ (v : Value) (w' : World) (c : Frame) (cs1 : List Frame), (Instr.endRound b jump').run P w = .ok v w' → Go.step P (lone g (c :: cs1) w) = .next (lone (c.finish v) cs1 w')) :
    OutR P c0 φ ⟨fr, callers, h⟩ g cs w (leaveRound ⟨fr, callers, h⟩ l jump) := by
  unfold leaveRound
  rcases setLoop_run hR hφ (fun _ => true) (jumpState jump) (fun _ => jump) (fun _ h => backTo (.bool (jumpBool jump)) callers h) with
    ⟨why, e⟩ | ⟨p, h', L, st0, e, e1, e2, e3, e4, e5, e6⟩
  · rw [e]; trivial
  · rw [e]
    have hjl := hj L e1
    have hn : jump'.isNone = jumpBool jump := by
      cases jump <;> cases jump' <;> first | rfl | (cases hjl)
    obtain ⟨q1, q2⟩ := e6 { L with state := if jump'.isNone then .ready else .done, pending := jump' } rfl rfl rfl rfl rfl rfl (by
      cases jump <;> cases jump' <;> first | trivial | (cases hjl)) hjl
    have hrun : (Instr.endRound b jump').run P w = .ok (.bool jump'.isNone) (putO w b (.loop { L with state := if jump'.isNone then .ready else .done, pending := jump' })) := by
      unfold Instr.endRound
      rw [Sem.run_bind, run_getLoop e1, Result.andThen_ok, Sem.run_bind, run_setLoop e1, Result.andThen_ok]
      rfl
    refine backTo_run q1 (hC.mono q2.le) (x := .bool jump'.isNone) (by rw [hn]; exact .bool _) q2 (fun c cs1 ee => ?_) (fun hr => ?_)
    · rw [ee]; exact .one (hs _ _ c cs1 hrun)
    · rw [hro] at hr; cases hr
end
section
variable {P : Program} {φ : Phi} {h : Hp} {w : World} {fr : Fr} {g : Frame}
theorem bot_push (x : Fr) (c : Fr) (cs : List Fr) (h h' : Hp) : bot ⟨x, c :: cs, h⟩ = bot ⟨c, cs, h'⟩ := bot_cons c cs x h h'
theorem apply_run {callers : List Fr} {cs c0 : List Frame} {res : Res} {R : Result Next} (hR : HR P φ h w) (hF : FrR P φ fr g) (hC : FrsR P φ callers cs) (hres : ResR P φ h w res R)
    (hval : ∀ nx x w', NV nx x → R = .ok nx w' → ∀ cs0, Go.step P (lone g cs0 w) = .next (lone (g.finish x) cs0 w'))
    (hent : ∀ f xs, R = .ok (.enter f xs) w → ∀ cs0, Go.step P (lone g cs0 w) = .next (lone (Frame.enter P f xs .normal) (g :: cs0) w))
    (hrnd : ∀ b f tmps assign body, R = .ok (.round b f tmps assign body) w → ∀ cs0, Go.step P (lone g cs0 w) = .next (lone (Frame.round b f tmps assign body .normal) (g :: cs0) w))
    (hdef : fr.round = none → ∀ d, R = .ok (.defer d) w → ∀ cs0, Go.step P (lone g cs0 w) = .next (lone ({ g with defers := d :: g.defers }.finish Go.undef) cs0 w))
    (hrcv : fr.round = none → R = .ok .recover w → ∀ cs0, tryRecover g cs0 = none → Go.step P (lone g cs0 w) = .next (lone (g.finish .nilIface) cs0 w)) :
    OutR P c0 φ ⟨fr, callers, h⟩ g cs w (apply P ⟨fr, callers, h⟩ res) := by
  unfold apply
  cases res with
  | val v h' =>
    obtain ⟨nx, x, w', φ', rfl, hn, hR', hA, hv⟩ := hres
    simp only
    rcases give_run (fun fr => Out.next ⟨fr, callers, h'⟩) (hF.mono hA.le) hv with ⟨why, e⟩ | ⟨fr', e, e1, e2, e3⟩
    · rw [e]; trivial
    · rw [e]
      refine ⟨g.finish x, cs, w', φ', .one (hval nx x w' hn rfl _), hR', e1, hC.mono hA.le, hA, ?_, ?_⟩
      · cases callers with
        | nil => exact e2
        | cons c l => simp [bot, List.getLast?_cons]
      · cases callers with
        | nil => exact e3
        | cons c l => simp [bot, List.getLast?_cons]
  | enter f args h' =>
    obtain ⟨rfl, xs, fn, c, rfl, h1, h2, h3⟩ := hres
    simp only
    split
    · rename_i fr' hb
      obtain ⟨q1, q2, q3, _⟩ := begin_run hb h3
      refine ⟨_, g :: cs, w, φ, .one (hent f xs rfl _), hR, q1, .cons hF hC, Adv.refl h' w φ, ?_, ?_⟩
      · rw [bot_push fr' fr callers h' h']
      · rw [bot_push fr' fr callers h' h']
    · trivial
  | round l args =>
    obtain ⟨b, xs, hφ, hx, rfl⟩ := hres
    simp only
    split
    · rename_i fr' hb
      obtain ⟨f, tmps, assign, body, e1, e2, e3⟩ := round_run hR hφ hx hb
      refine ⟨_, g :: cs, w, φ, .one (hrnd b f tmps assign body e1 _), hR, e2, .cons hF hC, Adv.refl h w φ, ?_, ?_⟩
      · rw [bot_push fr' fr callers h h]
      · rw [bot_push fr' fr callers h h]
    · trivial
  | defer f args =>
    obtain ⟨d, rfl, hd⟩ := hres
    simp only
    split
    · rename_i hro
      have hF' : FrR P φ { fr with defers := .call f args :: fr.defers } { g with defers := d :: g.defers } := ⟨hF.fn, hF.env, hF.size, hF.todo, .call hd hF.defers, hF.mode, hF.kind, hF.round⟩
      rcases give_run (fun fr => Out.next ⟨fr, callers, h⟩) hF' (v := .undef) (x := Go.undef) Rel.undef with ⟨why, e⟩ | ⟨fr', e, e1, e2, e3⟩
      · rw [e]; trivial
      · rw [e]
        refine ⟨_, cs, w, φ, .one (hdef hro d rfl _), hR, e1, hC, Adv.refl h w φ, ?_, ?_⟩
        · cases callers with
          | nil => exact e2
          | cons c l => simp [bot, List.getLast?_cons]
        · cases callers with
          | nil => exact e3
          | cons c l => simp [bot, List.getLast?_cons]
    · trivial
  | recover =>
    have hres : R = .ok .recover w := hres
    subst hres
    simp only
    split
    · rename_i hro
      have fin : tryRecover g (cs ++ c0) = none → OutR P c0 φ ⟨fr, callers, h⟩ g cs w (give fr .nilIfc fun fr => .next ⟨fr, callers, h⟩) := by
        intro htr
        rcases give_run (fun fr => Out.next ⟨fr, callers, h⟩) hF (v := .nilIfc) (x := .nilIface) .nilIfc with ⟨why, e⟩ | ⟨fr', e, e1, e2, e3⟩
        · rw [e]; trivial
        · rw [e]
          exact OutR.plain hR e1 hC (.one (hrcv hro rfl _ htr)) e2 e3
      have hkind := hF.kind
      cases hdk : fr.dk with
      | false =>
        rw [hdk] at hkind
        have hkind : g.kind = .normal := by simpa using hkind
        rw [cond_false]
        refine fin ?_
        unfold tryRecover
        rw [hkind]
      | true =>
        rw [hdk, hro] at hkind
        have hkind : g.kind = .deferred := by simpa using hkind
        rw [cond_true]
        cases hC with
        | nil => trivial
        | @cons c y l r hc ht =>
          simp only
          cases hmode : c.mode with
          | run => trivial
          | pan v rec => trivial
          | ret =>
            have hym : y.mode = .returning := by
              have := hc.mode
              rw [hmode] at this
              cases hq : y.mode <;> rw [hq] at this <;> first | rfl | (cases this)
            refine fin ?_
            unfold tryRecover
            rw [hkind]
            simp only [List.cons_append, hym]
    · trivial
  | panic v => trivial
  | fail why => trivial
end
end Go.Proofs.YtjhgembcdndmkaaGreatDoor.Am

namespace Go.Proofs.YtjhgembcdndmkaaGreatDoor.Am
theorem stepR_scope {P : Program} {b : Frame} {a : Act} {k : List Go.Item} {cs : List Frame} {w : World} {c : Code} :
    Go.step P (lone (b.atR a (.code (.scope c) :: k)) cs w) = .next (lone (b.atR a (.code c :: .inScope c :: k)) cs w) :=
  step_lone_go (by simp [stepG, stepG.exec, Frame.atR])
theorem stepR_inScope {P : Program} {b : Frame} {a : Act} {k : List Go.Item} {cs : List Frame} {w : World} {c : Code} :
    Go.step P (lone (b.atR a (.inScope c :: k)) cs w) = .next (lone (b.atR a k) cs w) :=
  step_lone_go (by simp [stepG, stepG.exec, Frame.atR])
theorem newDfr_run {P : Program} {φ : Phi} {h : Hp} {w : World} (hR : HR P φ h w) (hm : Room h) (ser ser' : Nat) :
    HR P (φ.put h.next 0 (w.heap.size, 0, 0)) ⟨T.set h.next (some (.dfr ser)) h.heap, h.next.succ, ser', h.lim⟩ (w.alloc (.deferred (some []))) ∧
    Adv h w φ ⟨T.set h.next (some (.dfr ser)) h.heap, h.next.succ, ser', h.lim⟩ (w.alloc (.deferred (some []))) (φ.put h.next 0 (w.heap.size, 0, 0)) := by
  have u := Upd.alloc hR hm (.deferred (some [])) 0
  refine ⟨hR.update u (.inl ⟨Nat.le_refl _, by rw [Pos.num_succ]; omega, hR.next_none hm⟩) fun x hx => ?_, Adv.update hR u (.inl ⟨Nat.le_refl _, by rw [Pos.num_succ]; omega, hR.next_none hm⟩)⟩
  cases hx
  exact ⟨w.heap.size, Phi.put_same _ _ _ _, alloc_new _ _⟩
theorem newLoop_run {P : Program} {φ : Phi} {h : Hp} {w : World} (hR : HR P φ h w) (hm : Room h) (ser ser' : Nat) {fn : FuncId} {env : T AV} {params : List Pos} {assign body : C} {around : Pos} {L : Loop}
    (h1 : L.state = .ready) (h2 : L.pending = none) (h3 : L.fn = fn) (h4 : EnvR φ env L.tmps) (h5 : numT P fn ≤ L.tmps.size) (h6 : L.params.toList.map Pos.ofNat = params) (h7 : ∀ t ∈ L.params.toList, t < numT P fn)
    (h8 : assign = comp P (numT P fn) L.assign) (h9 : body = comp P (numT P fn) L.body) (h10 : φ around 0 = some (L.defers, 0, 0)) :
    HR P (φ.put h.next 0 (w.heap.size, 0, 0)) ⟨T.set h.next (some (.loop ser .ready none fn env params assign body around)) h.heap, h.next.succ, ser', h.lim⟩ (w.alloc (.loop L)) ∧
    Adv h w φ ⟨T.set h.next (some (.loop ser .ready none fn env params assign body around)) h.heap, h.next.succ, ser', h.lim⟩ (w.alloc (.loop L)) (φ.put h.next 0 (w.heap.size, 0, 0)) := by
  have u := Upd.alloc hR hm (.loop L) 0
  refine ⟨hR.update u (.inl ⟨Nat.le_refl _, by rw [Pos.num_succ]; omega, hR.next_none hm⟩) fun x hx => ?_, Adv.update hR u (.inl ⟨Nat.le_refl _, by rw [Pos.num_succ]; omega, hR.next_none hm⟩)⟩
  cases hx
  exact ⟨w.heap.size, L, Phi.put_same _ _ _ _, alloc_new _ _, by rw [h1]; trivial, by rw [h2]; trivial, h3, h4.mono u.le, h5, h6, h7, h8, h9, u.le _ _ _ h10⟩
section
variable {P : Program} {φ : Phi} {h : Hp} {w : World} {fr : Fr} {callers : List Fr} {g : Frame} {cs c0 : List Frame}
theorem bot_eq {fr fr' : Fr} (f1 : fr'.fn = fr.fn) (f2 : fr'.round = fr.round) (callers : List Fr) (h h' : Hp) : (bot ⟨fr', callers, h'⟩).fn = (bot ⟨fr, callers, h⟩).fn ∧ (bot ⟨fr', callers, h'⟩).round = (bot ⟨fr, callers, h⟩).round := by
  cases callers with
  | nil => exact ⟨f1, f2⟩
  | cons c l => simp [bot, List.getLast?_cons]
theorem enter_out {φ0 : Phi} {h0 : Hp} {w0 : World} {fr0 fr' : Fr} {g0 g' : Frame} (hA : Adv h0 w0 φ0 h w φ) (hR : HR P φ h w) (hF : FrR P φ fr g) (hC : FrsR P φ0 callers cs) (f1 : fr.fn = fr0.fn) (f2 : fr.round = fr0.round)
    (hF' : FrR P φ fr' g') (hs : Go.step P (lone g0 (cs ++ c0) w0) = .next (lone g' (g :: (cs ++ c0)) w)) : OutR P c0 φ0 ⟨fr0, callers, h0⟩ g0 cs w0 (.next ⟨fr', fr :: callers, h⟩) := by
  obtain ⟨q1, q2⟩ := bot_eq f1 f2 callers h0 h0
  refine ⟨g', g :: cs, w, φ, .one hs, hR, hF', .cons hF (hC.mono hA.le), hA, ?_, ?_⟩
  · rw [bot_push fr' fr callers h h0]; exact q1
  · rw [bot_push fr' fr callers h h0]; exact q2
theorem FrR.run_mode (hF : FrR P φ fr g) (hm : fr.mode = .run) : g.mode = .run := by
  have := hF.mode
  rw [hm] at this
  cases hgm : g.mode <;> rw [hgm] at this <;> first | rfl | (cases this)
theorem step_at (hF : FrR P φ fr g) (hm : fr.mode = .run) {td : List Go.Item} (hg : g.todo = td) {m : Machine} {cs : List Frame} (hs : Go.step P (lone (g.atR ⟨g.tmps, g.defers⟩ td) cs w) = .next m) : Go.step P (lone g cs w) = .next m := by
  have e := frame_run (hF.run_mode hm)
  rw [hg] at e
  rw [e]; exact hs
theorem ret_out (hR : HR P φ h w) (hF : FrR P φ fr g) (hC : FrsR P φ callers cs) (hro : fr.round = none) (hs : ∀ cs0, Go.step P (lone g cs0 w) = .next (lone { g with mode := .returning } cs0 w)) :
    OutR P c0 φ ⟨fr, callers, h⟩ g cs w (.next ⟨{ fr with mode := .ret }, callers, h⟩) :=
  OutR.plain (g' := { g with mode := .returning }) hR (FrR.mk (fr := { fr with mode := .ret }) (g := { g with mode := .returning }) hF.fn hF.env hF.size hF.todo hF.defers trivial hF.kind hF.round) hC (.one (hs _)) rfl rfl
theorem kind_round (hF : FrR P φ fr g) {l : Pos} (hr : fr.round = some l) : g.kind = .normal := by
  rw [hF.kind, if_neg (fun q => by rw [hr] at q; cases q.2)]
theorem roundOf_none (hF : FrR P φ fr g) (hr : fr.round = none) : g.roundOf = none := by
  have := hF.round
  rw [hr] at this
  cases hq : g.roundOf <;> rw [hq] at this <;> first | rfl | (cases this)
theorem evalOp_defer (P : Program) (f : Opd) (l : List Opd) (env : T AV) (h : Hp) : (∃ f' args, evalOp P (.defer f l) env h = .defer f' args) ∨ ∃ why, evalOp P (.defer f l) env h = .fail why := by
  unfold evalOp
  simp only
  split
  · exact .inl ⟨_, _, rfl⟩
  · exact .inr ⟨_, rfl⟩
theorem wanted_eq {n : Nat} {ops : Array Oper} {o : Oper} {env : T AV} {tmps : Array Value} {bef : Nat} (hE : EnvR φ env tmps) (hk : (compOper P n ops bef o).ok = true) :
    Region.wanted o (yielded ops tmps) = wantedA (compOper P n ops bef o) env := by
  unfold wantedA Region.wanted
  simp only [compOper, Bool.and_eq_true] at hk ⊢
  cases hgd : o.guard with
  | none => rfl
  | some x =>
    obtain ⟨j, want⟩ := x
    have hg := hk.2
    rw [hgd] at hg
    simp only [okGuard] at hg
    split at hg
    · rename_i oj hj
      cases hd : oj.dst with
      | none => rw [hd] at hg; cases hg
      | some d =>
        simp only [Option.map_some, hj, Option.bind_some, hd, Option.getD_some, yielded]
        have hr := hE d
        rw [Array.getD_eq_getD_getElem?] at hr
        unfold ev at hr
        simp only at hr
        cases hv : T.get (Pos.ofNat d) env with
        | none =>
          rw [hv] at hr
          simp only at hr
          cases hx : tmps[d]? with
          | none => rfl
          | some x => rw [hx] at hr; cases hr; rfl
        | some v =>
          rw [hv] at hr
          simp only at hr
          cases hx : tmps[d]? with
          | none => rw [hx] at hr; cases hr; rfl
          | some x =>
            rw [hx] at hr
            simp only [Option.getD_some] at hr
            cases hr <;> first | rfl | skip
            rename_i b
            cases b <;> cases want <;> rfl
    · cases hg
end
end Go.Proofs.YtjhgembcdndmkaaGreatDoor.Am

namespace Go.Proofs.YtjhgembcdndmkaaGreatDoor.Am
section
variable {P : Program} {φ : Phi} {h : Hp} {w : World} {fr : Fr} {callers : List Fr} {g : Frame} {cs c0 : List Frame}
theorem cond_run {c : Operand} {c' : Opd} {a : Act} (hR : HR P φ h w) {env : T AV} (hE : EnvR φ env a.tmps) (hc : compOpd P c = some c') {b : Bool} (hv : ev env c' = .bool b) : a.eval c = .bool b := by
  have := opd_rel hR hE hc
  rw [hv] at this
  cases hx : a.eval c <;> rw [hx] at this <;> cases this
  rfl
theorem ops_run (hR : HR P φ h w) (hz : h.lim = 0) (hF : FrR P φ fr g) (hC : FrsR P φ callers cs) (hm : fr.mode = .run) {l : List O} {k : List Item} (ht : fr.todo = .ops l :: k) (rec : St → Out) :
    OutR P c0 φ ⟨fr, callers, h⟩ g cs w (step P rec ⟨fr, callers, h⟩) := by
  obtain ⟨fn, env, todo, defers, mode, dk, round⟩ := fr
  simp only at hm ht
  subst hm
  subst ht
  have htd := hF.todo
  generalize hg : g.todo = gt at htd
  cases htd with
  | @cons x1 y l1 r hx htr =>
    cases y <;> first | (cases hx; done) | skip
    rename_i ops idx
    obtain ⟨h1, h2⟩ := hx
    have hm : (⟨fn, env, .ops l :: k, defers, .run, dk, round⟩ : Fr).mode = .run := rfl
    cases idx with
    | nil =>
      rw [List.map_nil] at h1
      subst h1
      exact OutR.to hR hF hC rfl hg htr (fun b a cs _ _ => stepR_region_end)
    | cons i idx =>
      rw [List.map_cons] at h1
      change l = compOper P (numT P fn) ops 0 (ops.getD i default) :: idx.map (fun i => compOper P (numT P fn) ops 0 (ops.getD i default)) at h1
      subst h1
      have hi := h2 i (by simp)
      have hoi : ops[i]? = some (ops.getD i default) := by rw [Array.getD_eq_getD_getElem?, Array.getElem?_eq_getElem hi]; rfl
      generalize hoo : ops.getD i default = o at *
      unfold step
      simp only
      cases hok : (compOper P (numT P fn) ops 0 o).ok with
      | false => trivial
      | true =>
        simp only [Bool.not_true, cond_false]
        have hw := wanted_eq hF.env hok
        cases hwa : wantedA (compOper P (numT P fn) ops 0 o) env with
        | false =>
          rw [hwa] at hw
          rw [cond_false]
          rcases give_run (fun fr => Out.next ⟨fr, callers, h⟩) hF (v := .undef) (x := Go.undef) Rel.undef with ⟨why, e⟩ | ⟨fr', e, e1, e2, e3⟩
          · rw [e]; trivial
          · rw [e]
            have hfin : g.finish Go.undef = g.atR (Act.put ⟨g.tmps, g.defers⟩ ((ops[i]?).bind (·.dst)) Go.undef) (.inRegion ops idx :: r) := by
              rw [← Frame.finish_atR, ← hg, ← frame_run (hF.run_mode hm)]
            refine OutR.plain hR e1 hC (.one ?_) e2 e3
            rw [hfin]
            refine step_at hF hm hg (stepR_op_skip ?_)
            rw [hoi]; exact hw
        | true =>
          rw [hwa] at hw
          rw [cond_true]
          cases hco : compAOp P o.op with
          | none =>
            have : (compOper P (numT P fn) ops 0 o).op = .bad (opWhy o) := by simp [compOper, hco]
            rw [this]
            trivial
          | some ao =>
            have : (compOper P (numT P fn) ops 0 o).op = ao := by simp [compOper, hco]
            rw [this]
            have hres := evalOp_run (a := ⟨g.tmps, g.defers⟩) hR hF.env (.inl hz) hco
            by_cases hbad : (∃ l, round = some l) ∧ ∃ c, o.op = .defer c
            · obtain ⟨⟨l, rfl⟩, c, hc⟩ := hbad
              rw [hc] at hco
              unfold compAOp at hco
              simp only at hco
              split at hco
              · split at hco
                · cases hco
                  rename_i fo lo _ _
                  rcases evalOp_defer P fo lo env h with ⟨f, args, e⟩ | ⟨why, e⟩ <;> rw [e] <;> trivial
                · cases hco
              · cases hco
            have hst : ∀ cs0, stepG P true { frame := g, callers := cs0, status := .running, dying := none } w = stepG.apply P true g cs0 none (execOp (Act.mk g.tmps g.defers).eval o) w := by
              intro cs0
              have e := frame_run (hF.run_mode hm)
              rw [hg] at e
              rw [e]
              have q := stepGR_op (P := P) (b := g) (a := ⟨g.tmps, g.defers⟩) (k := r) (cs := cs0) (w := w) (rest := idx) hoi hw
              have hsem : Oper.semAt g.roundOf (Act.mk g.tmps g.defers).eval o = execOp (Act.mk g.tmps g.defers).eval o := by
                cases hro : round with
                | none =>
                  subst hro
                  rw [roundOf_none hF rfl]
                  rfl
                | some l => exact Oper.semAt_eq _ _ _ fun c hc => hbad ⟨⟨l, hro⟩, c, hc⟩
              rw [hsem] at q
              exact q
            have hkd : (match g.todo with | .call _ true _ _ :: _ => CallKind.wrapped | _ => CallKind.normal) = .normal := by rw [hg]
            refine apply_run hR hF hC hres ?_ ?_ ?_ ?_ ?_
            · intro nx x w' hn he cs0
              refine step_lone_go ?_
              rw [hst]
              rcases hn with rfl | ⟨rfl, rfl⟩
              · simp [stepG.apply, Sem.runT_eq, he, GStep.bare_after]
              · simp [stepG.apply, Sem.runT_eq, he, GStep.bare_after]
            · intro f xs he cs0
              refine step_lone_go ?_
              rw [hst]
              simp [stepG.apply, Sem.runT_eq, he, GStep.bare_after, hg]
            · intro b f tmps assign body he cs0
              refine step_lone_go ?_
              rw [hst]
              simp [stepG.apply, Sem.runT_eq, he, GStep.bare_after]
            · intro hro d he cs0
              refine step_lone_go ?_
              rw [hst]
              simp [stepG.apply, Sem.runT_eq, he, GStep.bare_after]
            · intro hro he cs0 hnot
              have hro : round = none := hro
              subst hro
              have hgr := roundOf_none hF rfl
              refine step_lone_go ?_
              rw [hst]
              simp [stepG.apply, Sem.runT_eq, he, GStep.bare_after, hgr, hnot]
end
end Go.Proofs.YtjhgembcdndmkaaGreatDoor.Am

namespace Go.Proofs.YtjhgembcdndmkaaGreatDoor.Am
theorem stepR_rangeFunc_round {P : Program} {b : Frame} {a : Act} {k : List Go.Item} {cs : List Frame} {w : World} {g : Operand} {ps : Array Tmp} {assign body : Code} {l : Nat} {mark : List Deferred} {w₁ w₁' w₂ : World} {d : Deferred}
    {l' : Nat} {f : FuncId} {tmps : Array Value} {assign' body' : Code}
    (he : (Instr.enterLoop b.fn a.tmps ps assign body b.roundOf).run P w = .ok (l, mark) w₁)
    (hres : (resolve a.eval (rangeCall g l) 0).run P w₁ = .ok d w₁') (hinv : (invoke d.target d.args).run P w₁' = .ok (.round l' f tmps assign' body') w₂) :
    Go.step P (lone (b.atR a (.code (.rangeFunc g ps assign body) :: k)) cs w) =
      .next (lone (Frame.round l' f tmps assign' body' .normal) (b.atR { a with defers := mark ++ a.defers } (.inRangeFunc l :: k) :: cs) w₂) :=
  step_lone_go (by
    have hev := Frame.eval_atR b { a with defers := mark ++ a.defers } (.inRangeFunc l :: k)
    simp only [Frame.atR] at hev
    have hres' : Sem.run P (resolve ({ tmps := a.tmps, defers := mark ++ a.defers } : Act).eval { callee := .value g, args := #[.const (.func (.yield l) #[] #[])], argTypes := #[] } 0) w₁ = .ok d w₁' := hres
    simp [stepG, stepG.exec, Frame.atR, Sem.runT_eq, he, GStep.bare_after, stepG.apply, hev, Sem.run_bind, hres', hinv, Result.andThen])
section
variable {P : Program} {φ : Phi} {h : Hp} {w : World} {fr : Fr} {callers : List Fr} {g : Frame} {cs c0 : List Frame}
theorem roundOf_some (hF : FrR P φ fr g) {l : Pos} (hr : fr.round = some l) : ∃ b, g.roundOf = some b ∧ φ l 0 = some (b, 0, 0) := by
  have := hF.round
  rw [hr] at this
  cases hq : g.roundOf <;> rw [hq] at this <;> first | exact ⟨_, rfl, this⟩ | (cases this)
theorem range_run (hR : HR P φ h w) (hz : h.lim = 0) (hF : FrR P φ fr g) (hC : FrsR P φ callers cs) (hm : fr.mode = .run) {f : Operand} {f' : Opd} {ps : Array Tmp} {assign body : Code} {k : List Item} {k' : List Go.Item}
    (hg : g.todo = .code (.rangeFunc f ps assign body) :: k') (hk : ItemsR P φ (numT P fr.fn) k k') (hf : compOpd P f = some f') (hps : ∀ t ∈ ps.toList, t < numT P fr.fn)
    {φ1 : Phi} {h1 : Hp} {w1 : World} {around : Pos} {dfr : Nat} {mark : List Deferred} {defers : List AD} (hR1 : HR P φ1 h1 w1) (hA1 : Adv h w φ h1 w1 φ1) (har : φ1 around 0 = some (dfr, 0, 0)) (hd : DefsR φ1 defers (mark ++ g.defers))
    (hrun : (Instr.enterLoop g.fn g.tmps ps assign body g.roundOf).run P w = .ok (w1.heap.size, mark) (w1.alloc (.loop { state := .ready, pending := none, fn := g.fn, tmps := g.tmps, params := ps, assign := assign, body := body, defers := dfr }))) :
    OutR P c0 φ ⟨fr, callers, h⟩ g cs w
      (newK h1 (fun ser => .loop ser .ready none fr.fn fr.env (ps.toList.map Pos.ofNat) (comp P (numT P fr.fn) assign) (comp P (numT P fr.fn) body) around) fun l h =>
            let s : St := ⟨{ fr with todo := .inRange l :: k, defers := defers }, callers, h⟩
            match ev fr.env f' with
            | .fn (.func g) first captured => apply P s (enterA P h g (first ++ (.yield l :: captured)))
            | .yield l' => apply P s (.round l' [.yield l])
            | _ => .fail "rangeFunc what") := by
  rw [newK_eq]
  simp only
  obtain ⟨q1, q2⟩ := newLoop_run (fn := fr.fn) (env := fr.env) (around := around) hR1 (.inl (hA1.lim.trans hz)) h1.ser (Nat.succ h1.ser)
    (L := { state := .ready, pending := none, fn := g.fn, tmps := g.tmps, params := ps, assign := assign, body := body, defers := dfr }) rfl rfl hF.fn (hF.env.mono hA1.le) hF.size rfl hps rfl rfl har
  generalize hw2 : w1.alloc _ = w2 at *
  generalize hφ2 : φ1.put h1.next 0 (w1.heap.size, 0, 0) = φ2 at *
  have hl : φ2 h1.next 0 = some (w1.heap.size, 0, 0) := by rw [← hφ2]; exact Phi.put_same _ _ _ _
  generalize hh2 : (⟨_, _, _, _⟩ : Hp) = h2 at *
  have hA : Adv h w φ h2 w2 φ2 := hA1.trans hR q2 (Room.was0 hz)
  have hF2 : FrR P φ2 { fr with todo := .inRange h1.next :: k, defers := defers } (g.atR ⟨g.tmps, mark ++ g.defers⟩ (.inRangeFunc w1.heap.size :: k')) :=
    ⟨hF.fn, hF.env.mono hA.le, hF.size, .cons hl (hk.mono hA.le), hd.mono q2.le, by show ModeR fr.mode .run; rw [hm]; trivial, hF.kind, hF.round.mono hA.le⟩
  have rf : Rel φ2 (ev fr.env f') ((Act.mk g.tmps g.defers).eval f) := opd_rel (P := P) (h := h2) (w := w2) q1 (a := ⟨g.tmps, g.defers⟩) (hF.env.mono hA.le) hf
  generalize hX : (Act.mk g.tmps g.defers).eval f = X at rf
  split
  · rename_i gg first captured e
    rw [e] at rf
    cases rf with
    | @fn _ _ _ X Y k1 k2 =>
    have hres : (resolve (Act.mk g.tmps g.defers).eval (rangeCall f w1.heap.size) 0).run P w2 = .ok { target := .fn (.func gg) Y, args := X ++ #[Value.func (.yield w1.heap.size) #[] #[]] } w2 := by
      simp only [resolve, hX, rangeCall, List.map_toArray, List.map_cons, List.map_nil]
      rfl
    have hxs : RelL φ2 (first ++ (.yield h1.next :: captured)) ((X ++ #[Value.func (.yield w1.heap.size) #[] #[]]) ++ Y).toList := by
      simp only [Array.toList_append, List.append_assoc]
      exact k1.append (.cons (.yield hl) k2)
    have hen := enter_run (P := P) (φ := φ2) (h := h2) (w := w2) (f := gg) hxs
    unfold apply
    cases hent : enterA P h2 gg (first ++ (.yield h1.next :: captured)) with
    | enter f3 args3 h3 =>
      rw [hent] at hen
      obtain ⟨rfl, xs, fn3, c3, r1, r2, r3, r4⟩ := hen
      simp only
      split
      · rename_i fr' hb
        obtain ⟨z1, z2, z3, _⟩ := begin_run hb r4
        refine enter_out hA q1 hF2 hC rfl rfl z1 ?_
        exact step_at hF hm hg (stepR_rangeFunc hrun hres r1)
      · trivial
    | val v h' => unfold enterA at hent; split at hent <;> (try split at hent) <;> first | (cases hent; done) | (cases hq : (Func.name _ == "runtime.NumGoroutine") <;> rw [hq] at hent <;> cases hent)
    | round => unfold enterA at hent; split at hent <;> (try split at hent) <;> first | (cases hent; done) | (cases hq : (Func.name _ == "runtime.NumGoroutine") <;> rw [hq] at hent <;> cases hent)
    | defer => unfold enterA at hent; split at hent <;> (try split at hent) <;> first | (cases hent; done) | (cases hq : (Func.name _ == "runtime.NumGoroutine") <;> rw [hq] at hent <;> cases hent)
    | recover => unfold enterA at hent; split at hent <;> (try split at hent) <;> first | (cases hent; done) | (cases hq : (Func.name _ == "runtime.NumGoroutine") <;> rw [hq] at hent <;> cases hent)
    | panic => trivial
    | fail => trivial
  · rename_i l' e
    rw [e] at rf
    cases rf with
    | @yield _ b' k1 =>
    have hres : (resolve (Act.mk g.tmps g.defers).eval (rangeCall f w1.heap.size) 0).run P w2 = .ok { target := .fn (.yield b') #[], args := #[] ++ #[Value.func (.yield w1.heap.size) #[] #[]] } w2 := by
      simp only [resolve, hX, rangeCall, List.map_toArray, List.map_cons, List.map_nil]
      rfl
    unfold apply
    simp only
    split
    · rename_i fr' hb
      obtain ⟨f4, tmps4, assign4, body4, e1, e2, e3⟩ := round_run (xs := #[] ++ #[Value.func (.yield w1.heap.size) #[] #[]]) q1 k1 (.cons (.yield hl) .nil) hb
      refine enter_out hA q1 hF2 hC rfl rfl e2 ?_
      exact step_at hF hm hg (stepR_rangeFunc_round hrun hres e1)
    · trivial
  · trivial
end
end Go.Proofs.YtjhgembcdndmkaaGreatDoor.Am

namespace Go.Proofs.YtjhgembcdndmkaaGreatDoor.Am
section
variable {P : Program} {φ : Phi} {h : Hp} {w : World} {callers : List Fr} {g : Frame} {cs c0 : List Frame}
theorem ItemsR.code {n : Nat} {k : List Item} {k' : List Go.Item} (c : Code) (hk : ItemsR P φ n k k') : ItemsR P φ n (.code (comp P n c) :: k) (.code c :: k') :=
  .cons (y := .code c) (show comp P n c = comp P n c from rfl) hk
theorem ItemsR.blk {n : Nat} {k : List Item} {k' : List Go.Item} (id : Nat) (hk : ItemsR P φ n k k') : ItemsR P φ n (.inBlock id :: k) (.inBlock id :: k') :=
  .cons (y := .inBlock id) (show id = id from rfl) hk
theorem ItemsR.lop {n : Nat} {k : List Item} {k' : List Go.Item} (c : Code) (hk : ItemsR P φ n k k') : ItemsR P φ n (.inLoop (comp P n c) :: k) (.inLoop c :: k') :=
  .cons (y := .inLoop c) (show comp P n c = comp P n c from rfl) hk
theorem ItemsR.scp {n : Nat} {k : List Item} {k' : List Go.Item} (c : Code) (hk : ItemsR P φ n k k') : ItemsR P φ n (.inScope :: k) (.inScope c :: k') :=
  .cons (y := .inScope c) trivial hk
theorem code_run {fn : FuncId} {env : T AV} {defers : List AD} {dk : Bool} {round : Option Pos} {c : Code} {k : List Item} {k' : List Go.Item} (rec : St → Out) (hR : HR P φ h w) (hz : h.lim = 0)
    (hF : FrR P φ ⟨fn, env, .code (comp P (numT P fn) c) :: k, defers, .run, dk, round⟩ g) (hC : FrsR P φ callers cs) (hg : g.todo = .code c :: k') (hk : ItemsR P φ (numT P fn) k k')
    (hdrawn : ∀ id ops, c = .region id ops true → OutR P c0 φ ⟨⟨fn, env, .code (comp P (numT P fn) c) :: k, defers, .run, dk, round⟩, callers, h⟩ g cs w (step P rec ⟨⟨fn, env, .code (comp P (numT P fn) c) :: k, defers, .run, dk, round⟩, callers, h⟩)) :
    OutR P c0 φ ⟨⟨fn, env, .code (comp P (numT P fn) c) :: k, defers, .run, dk, round⟩, callers, h⟩ g cs w (step P rec ⟨⟨fn, env, .code (comp P (numT P fn) c) :: k, defers, .run, dk, round⟩, callers, h⟩) := by
  cases c with
  | skip => exact OutR.to hR hF hC rfl hg hk (fun b a cs _ _ => stepR_skip)
  | label l => exact OutR.to hR hF hC rfl hg hk (fun b a cs _ _ => stepR_label)
  | seq a b => exact OutR.to hR hF hC rfl hg (.code a (.code b hk)) (fun b a cs _ _ => stepR_seq)
  | block id b => exact OutR.to hR hF hC rfl hg (.code b (.blk id hk)) (fun b a cs _ _ => stepR_block)
  | loop b => exact OutR.to hR hF hC rfl hg (.code b (.lop b hk)) (fun b a cs _ _ => stepR_loop)
  | scope b => exact OutR.to hR hF hC rfl hg (.code b (.scp b hk)) (fun b a cs _ _ => stepR_scope)
  | region id ops draw =>
    cases draw with
    | true => exact hdrawn id ops rfl
    | false =>
      refine OutR.to hR hF hC rfl hg (.cons (y := .inRegion ops (List.range ops.size)) (show _ ∧ _ from ⟨?_, fun i hi => by simpa using hi⟩) hk) (fun b a cs _ _ => stepR_region)
      apply List.ext_getElem?
      intro i
      simp only [List.getElem?_map]
      by_cases hi : i < ops.size
      · rw [List.getElem?_range hi, Array.getElem?_toList, Array.getElem?_eq_getElem hi]
        simp [Array.getD_eq_getD_getElem?, hi]
      · rw [List.getElem?_eq_none (by simpa using hi), List.getElem?_eq_none (by simpa using hi)]; rfl
  | goto l => trivial
  | refuse why => trivial
  | cond c a b =>
    simp only [comp] at *
    cases hc : compOpd P c with
    | none => trivial
    | some c' =>
      rw [hc] at hF
      simp only at hF ⊢
      unfold step
      simp only
      split
      · rename_i e
        have := cond_run (a := ⟨g.tmps, g.defers⟩) hR hF.env hc e
        exact OutR.to hR hF hC rfl hg (.code a hk) (fun b a cs h1 h2 => by rw [stepR_cond (t := true) (by rw [h2]; exact this)]; rfl)
      · rename_i e
        have := cond_run (a := ⟨g.tmps, g.defers⟩) hR hF.env hc e
        exact OutR.to hR hF hC rfl hg (.code b hk) (fun b a cs h1 h2 => by rw [stepR_cond (t := false) (by rw [h2]; exact this)]; rfl)
      · trivial
  | ret =>
    unfold step
    simp only [comp]
    cases round with
    | none => exact ret_out hR hF hC rfl fun cs0 => step_at hF rfl hg (by rw [stepR_ret (roundOf_none hF rfl), ← hg, ← frame_run (hF.run_mode rfl)])
    | some l =>
      obtain ⟨b, e1, e2⟩ := roundOf_some hF rfl
      refine leave_run (jump' := some .ret) hR hC e2 rfl (fun L _ => fun _ _ => rfl) fun v w' c cs1 hr => step_at hF rfl hg (stepR_round_ret e1 (kind_round hF rfl) hr)
  | exit id =>
    unfold step
    simp only [comp]
    obtain ⟨x1, x2⟩ := exitA_spec hk id
    cases hx : exitA id k with
    | some r =>
      obtain ⟨r', y1, y2⟩ := x1 r hx
      exact OutR.to hR hF hC rfl hg y2 (fun b a cs _ _ => stepR_exit y1)
    | none =>
      have hx' := x2 hx
      cases round with
      | none => trivial
      | some l =>
        obtain ⟨b, e1, e2⟩ := roundOf_some hF rfl
        exact leave_run (jump' := some (.exit id)) hR hC e2 rfl (fun L _ => fun _ _ => rfl) fun v w' c cs1 hr => step_at hF rfl hg (stepR_round_exit e1 (kind_round hF rfl) hx' hr)
  | rangeFunc f ps assign body =>
    simp only [comp] at *
    cases hf : compOpd P f with
    | none => trivial
    | some f' =>
      rw [hf] at hF
      simp only at hF ⊢
      cases hps : (ps.toList.all fun t => Nat.blt t (numT P fn)) with
      | false => trivial
      | true =>
        rw [hps, cond_true] at hF
        rw [cond_true]
        have hps' : ∀ t ∈ ps.toList, t < numT P fn := fun t ht => blt_iff.1 (List.all_eq_true.1 hps t ht)
        unfold step
        simp only
        cases round with
        | none =>
          have e1 := roundOf_none hF rfl
          simp only
          rw [newK_eq]
          obtain ⟨q1, q2⟩ := newDfr_run hR (.inl hz) h.ser (Nat.succ h.ser)
          refine range_run (around := h.next) (dfr := w.heap.size) (mark := [{ target := .collected w.heap.size, args := #[] }]) hR hz hF hC rfl hg hk hf hps' q1 q2 (Phi.put_same _ _ _ _) (.mark (Phi.put_same _ _ _ _) (hF.defers.mono q2.le)) ?_
          simp only [Instr.enterLoop, e1, Sem.run_bind, run_newObj, Sem.run_pure, Result.andThen_ok]
          rfl
        | some l =>
          obtain ⟨b, e1, e2⟩ := roundOf_some hF rfl
          simp only
          split
          · rename_i hid
            obtain ⟨b', L, z1, z2, _, _, _, _, _, _, _, _, _, z12⟩ := hR.blk _ _ hid
            rw [e2, Option.some.injEq, Prod.mk.injEq] at z1
            obtain ⟨rfl, _⟩ := z1
            refine range_run (mark := []) hR hz hF hC rfl hg hk hf hps' hR (Adv.refl h w φ) z12 hF.defers ?_
            simp only [Instr.enterLoop, e1, Sem.run_bind, run_getLoop z2, run_newObj, Sem.run_pure, Result.andThen_ok]
            rfl
          · trivial
theorem beginRound_out {fn : FuncId} {env : T AV} {defers : List AD} {dk : Bool} {l : Pos} {k : List Item} {k' : List Go.Item} (hR : HR P φ h w)
    (hF : FrR P φ ⟨fn, env, .beginRound :: k, defers, .run, dk, some l⟩ g) (hC : FrsR P φ callers cs) (hg : g.todo = .beginRound :: k') (hk : ItemsR P φ (numT P fn) k k') (ok : LState → Bool) (hok : ∀ st, ok st = true → st = .ready) :
    OutR P c0 φ ⟨⟨fn, env, .beginRound :: k, defers, .run, dk, some l⟩, callers, h⟩ g cs w (setLoop h l ok .busy id fun _ h => .next ⟨⟨fn, env, k, defers, .run, dk, some l⟩, callers, h⟩) := by
  obtain ⟨b, e1, e2⟩ := roundOf_some hF rfl
  rcases setLoop_run hR e2 ok .busy id (fun _ h => Out.next ⟨⟨fn, env, k, defers, .run, dk, some l⟩, callers, h⟩) with ⟨why, e⟩ | ⟨p, h', L, st0, e, z1, z2, z3, z4, z5, z6⟩
  · rw [e]; trivial
  · rw [e]
    have hst : L.state = .ready := by
      have := hok st0 z2
      subst this
      cases hq : L.state <;> rw [hq] at z3 <;> first | rfl | (cases z3)
    obtain ⟨q1, q2⟩ := z6 { L with state := .busy } rfl rfl rfl rfl rfl rfl trivial z4
    have hrun : (Instr.beginRound b).run P w = .ok () (putO w b (.loop { L with state := .busy })) := by
      unfold Instr.beginRound
      rw [Sem.run_bind, run_getLoop z1, Result.andThen_ok, Sem.run_bind, run_setLoop z1, Result.andThen_ok, hst]
      rfl
    have hF' : FrR P φ ⟨fn, env, k, defers, .run, dk, some l⟩ (g.atR ⟨g.tmps, g.defers⟩ k') := hF.setTodo hk rfl
    have hb := bot_eq (fr := ⟨fn, env, .beginRound :: k, defers, .run, dk, some l⟩) (fr' := ⟨fn, env, k, defers, .run, dk, some l⟩) rfl rfl callers h h'
    exact ⟨_, cs, _, φ, .one (step_at hF rfl hg (stepR_beginRound e1 hrun)), q1, hF', hC, q2, hb.1, hb.2⟩
theorem endRange_out {fn : FuncId} {env : T AV} {defers : List AD} {dk : Bool} {l : Pos} {b : Nat} {round : Option Pos} {k : List Item} {k' : List Go.Item} (hR : HR P φ h w)
    (hF : FrR P φ ⟨fn, env, .endRange l :: k, defers, .run, dk, round⟩ g) (hC : FrsR P φ callers cs) (hl : φ l 0 = some (b, 0, 0)) (hg : g.todo = .endRangeFunc b :: k') (hk : ItemsR P φ (numT P fn) k k') (ok : LState → Bool)
    (kk : Option C → List Item) (hok : ∀ st, ok st = true → st ≠ .busy) (hk0 : kk none = k) (hk1 : ∀ c, kk (some c) = .code c :: k) :
    OutR P c0 φ ⟨⟨fn, env, .endRange l :: k, defers, .run, dk, round⟩, callers, h⟩ g cs w (setLoop h l ok .exhausted id fun p h => .next ⟨⟨fn, env, kk p, defers, .run, dk, round⟩, callers, h⟩) := by
  rcases setLoop_run hR hl ok .exhausted id (fun p h => Out.next ⟨⟨fn, env, kk p, defers, .run, dk, round⟩, callers, h⟩) with ⟨why, e⟩ | ⟨p, h', L, st0, e, z1, z2, z3, z4, z5, z6⟩
  · rw [e]; trivial
  · rw [e]
    have hst : (L.state == .busy) = false := by
      have := hok st0 z2
      cases hq : L.state <;> rw [hq] at z3 <;> first | rfl | skip
      cases st0 <;> first | (exact absurd rfl this) | (cases z3)
    obtain ⟨q1, q2⟩ := z6 { L with state := .exhausted } rfl rfl rfl rfl rfl rfl trivial z4
    have hrun : (Instr.endLoop b).run P w = .ok L.pending (putO w b (.loop { L with state := .exhausted })) := by
      unfold Instr.endLoop
      rw [Sem.run_bind, run_getLoop z1, Result.andThen_ok, hst]
      simp only [Bool.false_eq_true, if_false, Sem.run_bind, Sem.run_pure, Result.andThen_ok, run_setLoop z1]
    have ht : ItemsR P φ (numT P fn) (kk p) ((L.pending.map Go.Item.code).toList ++ k') := by
      cases p with
      | none =>
        cases hq : L.pending with
        | none => rw [hk0]; exact hk
        | some c => rw [hq] at z4; cases z4
      | some c =>
        cases hq : L.pending with
        | none => rw [hq] at z4; cases z4
        | some c' =>
          rw [hq] at z4
          rw [hk1]
          have z4 : ∀ m, numT P L.fn ≤ numT P L.fn + m → c = comp P m c' := z4
          rw [z4 (numT P fn) (Nat.le_add_right _ _)]
          exact .code c' hk
    have hF' : FrR P φ ⟨fn, env, kk p, defers, .run, dk, round⟩ (g.atR ⟨g.tmps, g.defers⟩ ((L.pending.map Go.Item.code).toList ++ k')) := hF.setTodo ht rfl
    have hb := bot_eq (fr := ⟨fn, env, .endRange l :: k, defers, .run, dk, round⟩) (fr' := ⟨fn, env, kk p, defers, .run, dk, round⟩) rfl rfl callers h h'
    exact ⟨_, cs, _, φ, .one (step_at hF rfl hg (stepR_endRangeFunc hrun)), q1, hF', hC, q2, hb.1, hb.2⟩
theorem step_run {s : St} (rec : St → Out) (hR : HR P φ s.hp w) (hz : s.hp.lim = 0) (hF : FrR P φ s.cur g) (hC : FrsR P φ s.callers cs)
    (hdrawn : ∀ id ops k, s.cur.mode = .run → s.cur.todo = .code (comp P (numT P s.cur.fn) (.region id ops true)) :: k → ∀ k', g.todo = .code (.region id ops true) :: k' → ItemsR P φ (numT P s.cur.fn) k k' → OutR P c0 φ s g cs w (step P rec s)) :
    OutR P c0 φ s g cs w (step P rec s) := by
  obtain ⟨fr, callers, h⟩ := s
  obtain ⟨fn, env, todo, defers, mode, dk, round⟩ := fr
  simp only at hR hz hF hC hdrawn
  cases mode with
  | ret => exact unwind_run hR hF hC rfl
  | pan v r => trivial
  | run =>
    have htd := hF.todo
    cases todo with
    | nil =>
      generalize hg : g.todo = gt at htd
      cases htd
      unfold step
      simp only
      cases round with
      | none => exact ret_out hR hF hC rfl fun cs0 => step_at hF rfl hg (by rw [stepR_end (roundOf_none hF rfl), ← hg, ← frame_run (hF.run_mode rfl)])
      | some l =>
        obtain ⟨b, e1, e2⟩ := roundOf_some hF rfl
        exact leave_run (jump' := none) hR hC e2 rfl (fun L _ => trivial) fun v w' c cs1 hr => step_at hF rfl hg (stepR_round_end e1 (kind_round hF rfl) hr)
    | cons x k =>
      generalize hg : g.todo = gt at htd
      cases htd with
      | @cons _ y _ k' hx hk =>
      cases x <;> cases y <;> first | (cases hx; done) | skip
      case code.code c c' =>
        have hx : c = comp P (numT P fn) c' := hx
        subst hx
        exact code_run rec hR hz hF hC hg hk (fun id ops e => by subst e; exact hdrawn id ops k rfl rfl k' hg hk)
      case inBlock.inBlock => exact OutR.to hR hF hC rfl hg hk (fun b a cs _ _ => stepR_inBlock)
      case inScope.inScope => exact OutR.to hR hF hC rfl hg hk (fun b a cs _ _ => stepR_inScope)
      case inLoop.inLoop c c' =>
        have hx : c = comp P (numT P fn) c' := hx
        subst hx
        exact OutR.to hR hF hC rfl hg (.code c' (.lop c' hk)) (fun b a cs _ _ => stepR_inLoop)
      case ops.inRegion => exact ops_run hR hz hF hC rfl rfl rec
      case beginRound.beginRound =>
        unfold step
        simp only
        cases round with
        | none => trivial
        | some l => exact beginRound_out hR hF hC hg hk _ (fun st e => by cases st <;> first | rfl | (cases e))
      case inRange.inRangeFunc => trivial
      case endRange.endRangeFunc l b =>
        unfold step
        simp only
        exact endRange_out hR hF hC hx hg hk _ _ (fun st e => by cases st <;> first | (cases e; done) | (intro q; cases q)) rfl (fun _ => rfl)
end
end Go.Proofs.YtjhgembcdndmkaaGreatDoor.Am

namespace Go.Proofs.YtjhgembcdndmkaaGreatDoor.Am
theorem bit_eq (m i : Nat) : bit m i = m.testBit i := by
  rw [Nat.testBit_eq_decide_div_mod_eq]
  show Nat.beq (m / 2 ^ i % 2) 1 = _
  rw [Bool.eq_iff_iff, beq_iff, decide_eq_true_iff]
theorem eqP_iff {p q : Pos} : eqP p q = true ↔ p = q := samePos_iff
theorem eqB_iff {a b : Bool} : eqB a b = true ↔ a = b := by cases a <;> cases b <;> decide
theorem eqI_iff {a b : Int} : eqI a b = true ↔ a = b := by
  cases a <;> cases b
  · show Nat.beq _ _ = true ↔ _
    rw [beq_iff]; exact ⟨fun h => by rw [h], fun h => by cases h; rfl⟩
  · exact ⟨fun h => (by cases h), fun h => (by cases h)⟩
  · exact ⟨fun h => (by cases h), fun h => (by cases h)⟩
  · show Nat.beq _ _ = true ↔ _
    rw [beq_iff]; exact ⟨fun h => by rw [h], fun h => by cases h; rfl⟩
theorem eqK_iff {a b : IntKind} : eqK a b = true ↔ a = b := by simp [eqK]
theorem eqLs_sound {f : AV → AV → Bool} (h : ∀ x y, f x y = true → x = y) : ∀ {l r : List AV}, eqLs f l r = true → l = r
  | [], [], _ => rfl
  | [], _ :: _, e => by cases e
  | _ :: _, [], e => by cases e
  | x :: l, y :: r, e => by
    simp only [eqLs, Bool.and_eq_true] at e
    rw [h x y e.1, eqLs_sound h e.2]
theorem eqAV_sound : ∀ (n : Nat) {x y : AV}, eqAV n x y = true → x = y
  | 0, _, _, e => by cases e
  | n + 1, x, y, e => by
    have ih := fun x y => eqAV_sound n (x := x) (y := y)
    unfold eqAV at e
    split at e <;> (try simp only [Bool.and_eq_true, eqB_iff, eqI_iff, eqK_iff, eqP_iff, beq_iff] at e)
    all_goals first
      | rfl
      | (cases e; done)
      | (subst e; rfl)
      | (obtain ⟨rfl, rfl⟩ := e; rfl)
      | (obtain ⟨⟨rfl, rfl⟩, rfl⟩ := e; rfl)
      | (obtain ⟨⟨⟨⟨⟨⟨rfl, rfl⟩, rfl⟩, rfl⟩, rfl⟩, rfl⟩, rfl⟩ := e; rfl)
      | (obtain ⟨⟨rfl, e1⟩, e2⟩ := e; rw [eqLs_sound ih e1, eqLs_sound ih e2])
      | (obtain ⟨rfl, e1⟩ := e; rw [ih _ _ e1])
      | (rw [eqLs_sound ih e])
theorem opt_two (h h2 : Hp) (why : String) (r : Option AV) : (∃ v, opt h why r = .val v h ∧ opt h2 why r = .val v h2) ∨ ∃ w, opt h why r = .fail w ∧ opt h2 why r = .fail w := by
  cases r with
  | some v => exact .inl ⟨v, rfl, rfl⟩
  | none => exact .inr ⟨why, rfl, rfl⟩
theorem still_two (P : Program) {o : AOp} (env : T AV) (h h2 : Hp) (hk : kindOf o = .still) : (∃ v, evalOp P o env h = .val v h ∧ evalOp P o env h2 = .val v h2) ∨ ∃ w, evalOp P o env h = .fail w ∧ evalOp P o env h2 = .fail w := by
  cases o <;> first | (cases hk; done) | skip
  all_goals (unfold evalOp; simp only [natK_eq, intK_eq])
  case bin => exact opt_two ..
  case un => exact opt_two ..
  case mov => exact .inl ⟨_, rfl, rfl⟩
  case mkIfc => exact .inl ⟨_, rfl, rfl⟩
  case mkFn => exact .inl ⟨_, rfl, rfl⟩
  case lenArr => exact .inl ⟨_, rfl, rfl⟩
  case pick c a b => cases ev env c with
    | bool b => cases b <;> exact .inl ⟨_, rfl, rfl⟩
    | _ => exact .inr ⟨_, rfl, rfl⟩
  case build z p => cases fillA env z p with
    | some l => exact .inl ⟨_, rfl, rfl⟩
    | none => exact .inr ⟨_, rfl, rfl⟩
  case nilCheck x => cases ev env x with
    | fn f a b => cases f <;> first | exact .inl ⟨_, rfl, rfl⟩ | exact .inr ⟨_, rfl, rfl⟩
    | _ => first | exact .inl ⟨_, rfl, rfl⟩ | exact .inr ⟨_, rfl, rfl⟩
  all_goals (try simp only [Bool.cond_eq_ite])
  case part1 | extract => split <;> first | exact opt_two .. | exact .inr ⟨_, rfl, rfl⟩
  case idxArr => (repeat' split) <;> first | exact opt_two .. | exact .inl ⟨_, rfl, rfl⟩ | exact .inr ⟨_, rfl, rfl⟩ | (simp_all; done)
  all_goals ((repeat' split) <;> first | exact .inl ⟨_, rfl, rfl⟩ | exact .inr ⟨_, rfl, rfl⟩ | (simp_all; done))
theorem still_same {P : Program} {o : AOp} {env : T AV} {h h' : Hp} {v : AV} (hk : kindOf o = .still) (e : evalOp P o env h = .val v h') : h' = h ∧ ∀ h2, evalOp P o env h2 = .val v h2 := by
  refine ⟨?_, fun h2 => ?_⟩
  · rcases still_two P env h h hk with ⟨u, e1, _⟩ | ⟨u, e1, _⟩ <;> rw [e1] at e <;> cases e
    rfl
  · rcases still_two P env h h2 hk with ⟨u, e1, e2⟩ | ⟨u, e1, _⟩ <;> rw [e1] at e <;> cases e
    exact e2
theorem load_same {P : Program} {o : AOp} {env : T AV} {h h' : Hp} {v : AV} (hk : kindOf o = .load) (e : evalOp P o env h = .val v h') : h' = h := by
  cases o <;> first | (cases hk; done) | skip
  all_goals (unfold evalOp at e; simp only [natK_eq, Bool.cond_eq_ite, opt] at e)
  all_goals ((repeat' split at e) <;> first | (cases e; done) | (cases e; rfl))
theorem alloc_shape {P : Program} {o : AOp} {env : T AV} {h h' : Hp} {v : AV} (hk : kindOf o = .alloc) (e : evalOp P o env h = .val v h') : ∃ b, h' = ⟨T.set h.next (some b) h.heap, h.next.succ, Nat.succ h.ser, h.lim⟩ := by
  cases o <;> first | (cases hk; done) | skip
  all_goals (unfold evalOp at e; simp only [newCells, newCellsN_eq, newK_eq, Bool.cond_eq_ite] at e)
  all_goals ((repeat' split at e) <;> first | (cases e; done) | (cases e; exact ⟨_, rfl⟩))
end Go.Proofs.YtjhgembcdndmkaaGreatDoor.Am

namespace Go.Proofs.YtjhgembcdndmkaaGreatDoor.Am
def Same (l : List Pos) (env env' : T AV) : Prop := ∀ p ∈ l, ev env (.tmp p) = ev env' (.tmp p)
theorem Same.left {l r : List Pos} {env env' : T AV} (h : Same (l ++ r) env env') : Same l env env' := fun p hp => h p (List.mem_append_left _ hp)
theorem Same.right {l r : List Pos} {env env' : T AV} (h : Same (l ++ r) env env') : Same r env env' := fun p hp => h p (List.mem_append_right _ hp)
variable {env env' : T AV}
theorem ev_congr {x : Opd} (h : Same (slotsO x) env env') : ev env x = ev env' x := by
  cases x with
  | tmp p => exact h p (by simp [slotsO])
  | val v => rfl
theorem evO_congr {x : Option Opd} (h : Same (slotsOO x) env env') (d : Nat) : evO env x d = evO env' x d := by
  cases x with
  | none => rfl
  | some x => unfold evO; simp only [ev_congr (x := x) h]
theorem evL_congr {l : List Opd} (h : Same (slotsL l) env env') : l.map (ev env) = l.map (ev env') := by
  induction l with
  | nil => rfl
  | cons x l ih =>
    have h : Same (slotsO x ++ slotsL l) env env' := h
    rw [List.map_cons, List.map_cons, ev_congr h.left, ih h.right]
theorem fill_congr {l : List (Nat × Nat × Opd)} (h : Same (slotsP l) env env') (cells : List AV) : fillA env cells l = fillA env' cells l := by
  induction l generalizing cells with
  | nil => rfl
  | cons x l ih =>
    obtain ⟨off, size, x⟩ := x
    have h : Same (slotsO x ++ slotsP l) env env' := h
    unfold fillA
    simp only [ev_congr h.left, ih h.right]
theorem evalOp_congr (P : Program) {o : AOp} (h : Same (slotsOf o) env env') (hp : Hp) : evalOp P o env hp = evalOp P o env' hp := by
  cases o with
  | mov x | box x | load1 x | nilCheck x | convStr x | strBytes x | bytesStr x | rangeStr x | nextStr x | rangeMap x | nextMap x | entry x | toUnsafe x | sliceData x | panic x | lenS x | lenL x | lenM x | cap x =>
    have e : ev env x = ev env' x := ev_congr h
    unfold evalOp; simp only [e]
  | loadN _ x | un _ x | convInt _ x | mkIfc _ x | fieldAddr _ x | part1 _ x | fromUnsafe _ x =>
    have e : ev env x = ev env' x := ev_congr h
    unfold evalOp; simp only [e]
  | clear _ _ x =>
    have e : ev env x = ev env' x := ev_congr h
    unfold evalOp; simp only [e]
  | partN _ _ x =>
    have e : ev env x = ev env' x := ev_congr h
    unfold evalOp; simp only [e]
  | assertT _ _ _ x =>
    have e : ev env x = ev env' x := ev_congr h
    unfold evalOp; simp only [e]
  | extract x _ =>
    have e : ev env x = ev env' x := ev_congr h
    unfold evalOp; simp only [e]
  | pick c a b =>
    have h : Same (slotsO c ++ (slotsO a ++ slotsO b)) env env' := h
    unfold evalOp; simp only [ev_congr h.left, ev_congr h.right.left, ev_congr h.right.right]
  | update _ c a b =>
    have h : Same (slotsO c ++ (slotsO a ++ slotsO b)) env env' := h
    unfold evalOp; simp only [ev_congr h.left, ev_congr h.right.left, ev_congr h.right.right]
  | build _ parts =>
    have h : Same (slotsP parts) env env' := h
    unfold evalOp; simp only [fill_congr h]
  | buildSl _ _ _ parts =>
    have h : Same (slotsP parts) env env' := h
    unfold evalOp; simp only [fill_congr h]
  | store _ x y | idxAddrSl _ x y | copy _ x y | eqPtr _ x y | delete _ x y =>
    have h : Same (slotsO x ++ slotsO y) env env' := h
    unfold evalOp; simp only [ev_congr h.left, ev_congr h.right]
  | eqIfc _ _ x y =>
    have h : Same (slotsO x ++ slotsO y) env env' := h
    unfold evalOp; simp only [ev_congr h.left, ev_congr h.right]
  | bin _ _ _ x y | idxArr _ _ _ x y | mkSl _ _ _ x y | appendZ _ _ _ x y | lookup _ _ _ x y =>
    have h : Same (slotsO x ++ slotsO y) env env' := h
    unfold evalOp; simp only [ev_congr h.left, ev_congr h.right]
  | idxAddrArr _ _ x y | append _ _ x y =>
    have h : Same (slotsO x ++ slotsO y) env env' := h
    unfold evalOp; simp only [ev_congr h.left, ev_congr h.right]
  | idxStr x y | unsafeStr x y | bmin x y | bmax x y =>
    have h : Same (slotsO x ++ slotsO y) env env' := h
    unfold evalOp; simp only [ev_congr h.left, ev_congr h.right]
  | mkFn _ a b =>
    have h : Same (slotsL a ++ slotsL b) env env' := h
    unfold evalOp; simp only [evL_congr h.left, evL_congr h.right]
  | sliceStr x lo hi =>
    have h : Same (slotsO x ++ (slotsOO lo ++ slotsOO hi)) env env' := h
    unfold evalOp; simp only [ev_congr h.left, evO_congr h.right.left, evO_congr h.right.right]
  | sliceSl _ x lo hi mx =>
    have h : Same (slotsO x ++ (slotsOO lo ++ (slotsOO hi ++ slotsOO mx))) env env' := h
    unfold evalOp; simp only [ev_congr h.left, evO_congr h.right.left, evO_congr h.right.right.left, evO_congr h.right.right.right]
  | sliceArr _ _ x lo hi mx =>
    have h : Same (slotsO x ++ (slotsOO lo ++ (slotsOO hi ++ slotsOO mx))) env env' := h
    unfold evalOp; simp only [ev_congr h.left, evO_congr h.right.left, evO_congr h.right.right.left, evO_congr h.right.right.right]
  | ext _ args =>
    have h : Same (slotsL args) env env' := h
    unfold evalOp; simp only [evL_congr h]
  | defer f args =>
    have h : Same (slotsO f ++ slotsL args) env env' := h
    unfold evalOp; simp only [ev_congr h.left, evL_congr h.right]
  | call c args =>
    cases c with
    | value f =>
      have h : Same (slotsO f ++ slotsL args) env env' := h
      unfold evalOp; simp only [ev_congr h.left, evL_congr h.right]
    | invoke r name =>
      have h : Same (slotsO r ++ slotsL args) env env' := h
      unfold evalOp; simp only [ev_congr h.left, evL_congr h.right]
  | new _ | newT _ _ | mkMap | recover | lenArr _ | bad _ => rfl
theorem wanted_congr {o : O} (h : Same (looks o) env env') : wantedA o env = wantedA o env' := by
  unfold wantedA
  cases hg : o.guard with
  | none => rfl
  | some x =>
    obtain ⟨p, b⟩ := x
    have e : ev env (.tmp p) = ev env' (.tmp p) := h p (by simp [looks, hg])
    have key : ∀ env : T AV, (match T.get p env with | some (.bool c) => bif b then c else !c | _ => false) = (match ev env (.tmp p) with | .bool c => bif b then c else !c | _ => false) := by
      intro env
      unfold ev
      simp only
      cases hq : T.get p env with
      | none => rfl
      | some v => cases v <;> rfl
    refine (key env).trans (Eq.trans ?_ (key env').symm)
    rw [e]
theorem looks_op {o : O} (h : Same (looks o) env env') : Same (slotsOf o.op) env env' := by
  intro p hp
  refine h p ?_
  unfold looks
  cases o.guard with
  | none => exact hp
  | some x => exact List.mem_cons_of_mem _ hp
end Go.Proofs.YtjhgembcdndmkaaGreatDoor.Am

namespace Go.Proofs.YtjhgembcdndmkaaGreatDoor.Am
def NonroF (F : Pos → Option Blk) (id : Pos) : Prop := ∃ b, F id = some b ∧ ∀ s c lo hi g m ro fz, b = .cells s c lo hi g m ro fz → ro = false
structure HRF (P : Program) (φ : Phi) (F : Pos → Option Blk) (nx lim : Nat) (w : World) : Prop where
  blk : ∀ id b, F id = some b → BR P φ w id b
  used : ∀ id g r, φ id g = some r → Old nx lim id
  dom : ∀ id b, F id = some b → Old nx lim id
  sep : ∀ id g b s n id' g' s' n', φ id g = some (b, s, n) → φ id' g' = some (b, s', n') → id = id' ∨ (¬ NonroF F id ∧ ¬ NonroF F id')
  inb : ∀ id g b s n, φ id g = some (b, s, n) → b < w.heap.size
  glob : ∀ g, g < globN P → φ (Pos.ofNat g) 0 = some (g, 0, globSz g)
structure AdvF (h : Hp) (w : World) (φ : Phi) (F : Pos → Option Blk) (nx : Nat) (w' : World) (φ' : Phi) : Prop where
  le : Le φ φ'
  os : w'.os = w.os
  output : w'.output = w.output
  tape : w'.tape = w.tape
  size : w.heap.size ≤ w'.heap.size
  next : h.next.num ≤ nx
  new : ∀ id g b s n, φ' id g = some (b, s, n) → b < w.heap.size → ∃ g₀ s₀ n₀, φ id g₀ = some (b, s₀, n₀)
  old : ∀ id, (id.num < h.next.num ∨ nx ≤ id.num) → NonroF F id → Nonro h id
  keep : ∀ b, b < w.heap.size → (∀ id g s n, φ id g = some (b, s, n) → ¬ Nonro h id) → w'.heap[b]? = w.heap[b]?
  hid : ∀ id, (id.num < h.next.num ∨ nx ≤ id.num) → T.get id h.heap = none → F id = none
  same : ∀ id g r, (id.num < h.next.num ∨ nx ≤ id.num) → ¬ Nonro h id → φ' id g = some r → φ id g = some r
variable {P : Program} {φ φ' φ0 : Phi} {w w' w0 : World} {F F' : Pos → Option Blk} {nx nx' : Nat} {h h0 V V' : Hp}
theorem HR.toF (hR : HR P φ h w) : HRF P φ (fun id => T.get id h.heap) h.next.num h.lim w := ⟨hR.blk, hR.used, hR.dom, hR.sep, hR.inb, hR.glob⟩
theorem HRF.sub {lim : Nat} (hR : HRF P φ F nx lim w) (sub : ∀ id b, T.get id V.heap = some b → F id = some b) (hu : ∀ id g r, φ id g = some r → Old V.next.num V.lim id)
    (hd : ∀ id b, T.get id V.heap = some b → Old V.next.num V.lim id) : HR P φ V w :=
  ⟨fun id b e => hR.blk id b (sub id b e), hu, hd, fun id g b s n id' g' s' n' k k' => (hR.sep id g b s n id' g' s' n' k k').imp _root_.id fun q => ⟨fun ⟨b, e, r⟩ => q.1 ⟨b, sub _ b e, r⟩, fun ⟨b, e, r⟩ => q.2 ⟨b, sub _ b e, r⟩⟩, hR.inb, hR.glob⟩
theorem Adv.refl_F (h : Hp) (w : World) (φ : Phi) {nx : Nat} (hn : h.next.num ≤ nx) : AdvF h w φ (fun id => T.get id h.heap) nx w φ :=
  ⟨Le.refl φ, rfl, rfl, rfl, Nat.le_refl _, hn, fun _ g _ s n e _ => ⟨g, s, n, e⟩, fun _ _ k => k, fun _ _ _ => rfl, fun _ _ e => e, fun _ _ _ _ _ e => e⟩
theorem AdvF.toAdv (a : AdvF h0 w0 φ0 (fun id => T.get id h.heap) h.next.num w φ) (hl : h.lim = h0.lim) : Adv h0 w0 φ0 h w φ :=
  ⟨a.le, a.os, a.output, a.tape, a.size, a.next, a.new, a.old, a.keep, hl, a.hid, a.same⟩
theorem Nonro.toF (sub : ∀ id b, T.get id V.heap = some b → F id = some b) {id : Pos} (k : Nonro V id) : NonroF F id :=
  let ⟨b, e, q⟩ := k
  ⟨b, sub id b e, q⟩
theorem merge (hR : HRF P φ F nx 0 w) (A : AdvF h0 w0 φ0 F nx w φ) (h0u : ∀ id g r, φ0 id g = some r → id.num < h0.next.num) (hR' : HR P φ' V' w') (a : Adv V w φ V' w' φ')
    (sub : ∀ id b, T.get id V.heap = some b → F id = some b) (n1 : h0.next.num ≤ V.next.num) (n2 : V'.next.num ≤ nx') (n3 : nx ≤ nx')
    (fresh : ∀ id, V.next.num ≤ id.num → id.num < V'.next.num → F id = none)
    (spec : ∀ id b, F' id = some b → T.get id V'.heap = some b ∨ (T.get id V.heap = none ∧ F id = some b)) : HRF P φ' F' nx' 0 w' ∧ AdvF h0 w0 φ0 F' nx' w' φ' := by
  have old0 : ∀ {m : Nat} {id : Pos}, Old m 0 id → id.num < m := fun {m id} k => by
    rcases k with k | ⟨k, _⟩
    · exact k
    · exact absurd rfl k
  have hwas : ∀ id b, F id = some b → Was V V' id := fun id b e => by
    by_cases c : id.num < V.next.num
    · exact .inl c
    · by_cases c' : id.num < V'.next.num
      · rw [fresh id (by omega) c'] at e; cases e
      · exact .inr (by omega)
  have hu : ∀ id g r, φ' id g = some r → id.num < nx' := fun id g r e => by
    by_cases hn : Nonro V id
    · obtain ⟨b, e1, _⟩ := hn
      have := old0 (hR.dom id b (sub id b e1))
      omega
    · by_cases c : id.num < V.next.num
      · have := old0 (hR.used id g r (a.same id g r (.inl c) hn e)); omega
      · by_cases c' : id.num < V'.next.num
        · omega
        · have := old0 (hR.used id g r (a.same id g r (.inr (by omega)) hn e)); omega
  have w1 : ∀ {id : Pos}, (id.num < h0.next.num ∨ nx' ≤ id.num) → Was V V' id := fun {id} k => by
    rcases k with k | k
    · exact .inl (by omega)
    · exact .inr (by omega)
  have w2 : ∀ {id : Pos}, (id.num < h0.next.num ∨ nx' ≤ id.num) → (id.num < h0.next.num ∨ nx ≤ id.num) := fun {id} k => by omega
  have part : ∀ {id g b s n id' g' s' n'}, φ' id g = some (b, s, n) → φ' id' g' = some (b, s', n') → ¬ Nonro V' id → NonroF F' id → id = id' := fun {id g b s n id' g' s' n'} k k' q ⟨b0, e0, r0⟩ => by
    rcases spec id b0 e0 with e1 | ⟨e1, e2⟩
    · exact absurd ⟨b0, e1, r0⟩ q
    · have hn : ¬ Nonro V id := fun ⟨b', q, _⟩ => by rw [e1] at q; cases q
      have k1 := a.same id g _ (hwas id b0 e2) hn k
      have hb := hR.inb _ _ _ _ _ k1
      obtain ⟨g1, s1, n1, k2⟩ := a.new id' g' b s' n' k' hb
      rcases hR.sep _ _ _ _ _ _ _ _ _ k1 k2 with e | e
      · exact e
      · exact absurd ⟨b0, e2, r0⟩ e.1
  refine ⟨⟨fun id b e => ?_, fun id g r e => .inl (hu id g r e), fun id b e => ?_, fun id g b s n id' g' s' n' k k' => ?_, hR'.inb, hR'.glob⟩, ?_⟩
  · rcases spec id b e with e' | ⟨e1, e2⟩
    · exact hR'.blk id b e'
    · have hn : ¬ Nonro V id := fun ⟨b', q, _⟩ => by rw [e1] at q; cases q
      refine BR.mono a.le (fun g r k => a.same id g r (hwas id b e2) hn k) (fun g y s n k => ?_) (hR.blk id b e2)
      refine a.keep y (hR.inb _ _ _ _ _ k) fun id' g' s' n' k' hn' => ?_
      rcases hR.sep _ _ _ _ _ _ _ _ _ k k' with this | this
      · subst this
        exact hn hn'
      · exact this.2 (hn'.toF sub)
  · rcases spec id b e with e' | ⟨e1, e2⟩
    · by_cases c : id.num < V.next.num ∨ V'.next.num ≤ id.num
      · cases q : T.get id V.heap with
        | none => rw [a.hid id c q] at e'; cases e'
        | some b' => have := old0 (hR.dom id b' (sub id b' q)); exact .inl (by omega)
      · exact .inl (by omega)
    · have := old0 (hR.dom id b e2); exact .inl (by omega)
  · rcases hR'.sep _ _ _ _ _ _ _ _ _ k k' with q | ⟨q, q'⟩
    · exact .inl q
    · by_cases c : NonroF F' id
      · exact .inl (part k k' q c)
      · by_cases c' : NonroF F' id'
        · exact .inl (part k' k q' c').symm
        · exact .inr ⟨c, c'⟩
  · refine ⟨A.le.trans a.le, a.os.trans A.os, a.output.trans A.output, a.tape.trans A.tape, Nat.le_trans A.size a.size, Nat.le_trans A.next n3, fun id g b s n e hb => ?_, fun id hw k => ?_, fun b hb k => ?_, fun id hw e => ?_, fun id g r hw hn e => ?_⟩
    · obtain ⟨g1, s1, n1, e1⟩ := a.new id g b s n e (Nat.lt_of_lt_of_le hb A.size)
      exact A.new id g1 b s1 n1 e1 hb
    · obtain ⟨b, e, q⟩ := k
      rcases spec id b e with e' | ⟨_, e2⟩
      · exact A.old id (w2 hw) ((a.old id (w1 hw) ⟨b, e', q⟩).toF sub)
      · exact A.old id (w2 hw) ⟨b, e2, q⟩
    · rw [← A.keep b hb k]
      refine a.keep b (Nat.lt_of_lt_of_le hb A.size) fun id g s n e hn => ?_
      obtain ⟨g1, s1, n1, e1⟩ := A.new id g b s n e hb
      exact k id g1 s1 n1 e1 (A.old id (.inl (h0u id g1 _ e1)) (hn.toF sub))
    · cases q : F' id with
      | none => rfl
      | some b =>
        have e1 := A.hid id (w2 hw) e
        rcases spec id b q with e' | ⟨_, e2⟩
        · have e3 : T.get id V.heap = none := by
            cases q' : T.get id V.heap with
            | none => rfl
            | some b' => rw [sub id b' q'] at e1; cases e1
          rw [a.hid id (w1 hw) e3] at e'; cases e'
        · rw [e1] at e2; cases e2
    · exact A.same id g r (w2 hw) hn (a.same id g r (w1 hw) (fun k => hn (A.old id (w2 hw) (k.toF sub))) e)
end Go.Proofs.YtjhgembcdndmkaaGreatDoor.Am

namespace Go.Proofs.YtjhgembcdndmkaaGreatDoor.Am
inductive Order (ops : Array Oper) : List Nat → List Nat → Prop where
  | nil {D : List Nat} (h : ∀ i, i < ops.size → i ∈ D) : Order ops D []
  | cons {D : List Nat} {i : Nat} {l : List Nat} {o : Oper} (hi : ops[i]? = some o) (hn : i ∉ D) (he : ∀ e ∈ o.after.toList, Region.binds .any e = true → e.on ∈ D) (t : Order ops (i :: D) l) : Order ops D (i :: l)
theorem filter_less {α : Type} {p q : α → Bool} (hle : ∀ x, q x = true → p x = true) {l : List α} {a : α} (ha : a ∈ l) (hp : p a = true) (hq : q a = false) : (l.filter q).length < (l.filter p).length := by
  have mono : ∀ l : List α, (l.filter q).length ≤ (l.filter p).length := by
    intro l
    induction l with
    | nil => exact Nat.le_refl _
    | cons x l ih =>
      rw [List.filter_cons, List.filter_cons]
      cases hqx : q x with
      | false => cases hpx : p x <;> simp <;> omega
      | true => rw [hle x hqx]; simp; omega
  induction l with
  | nil => cases ha
  | cons x l ih =>
    rw [List.filter_cons, List.filter_cons]
    rcases List.mem_cons.1 ha with rfl | ha
    · rw [hp, hq]
      have := mono l
      simp; omega
    · have := ih ha
      cases hqx : q x with
      | false => cases hpx : p x <;> simp <;> omega
      | true => rw [hle x hqx]; simp; omega
theorem edgesIn_mem {md : Region.Mode} {m : Nat} {l : List Edge} (h : edgesIn md m l = true) : ∀ e ∈ l, Region.binds md e = true → m.testBit e.on = true := by
  induction l with
  | nil => intro e he; cases he
  | cons x l ih =>
    simp only [edgesIn, Bool.and_eq_true, Bool.or_eq_true, Bool.not_eq_true'] at h
    intro e he hb
    rcases List.mem_cons.1 he with rfl | he
    · rcases h.1 with k | k
      · rw [hb] at k; cases k
      · rw [bit_eq] at k; exact k
    · exact ih h.2 e he hb
theorem ref_all {md : Region.Mode} {ops : Array Oper} {listed : Array Bool} (hsz : listed.size = ops.size) (hr : Region.ready md ops listed = []) : ∀ (ref : List Nat) (m : Nat), okRef md ops ref m = true →
    (∀ i, m.testBit i = true → listed.getD i false = true) → ∀ i, i < ops.size → listed.getD i false = true
  | [], m, h, hm, i, hi => by
    simp only [okRef] at h
    have h := beq_iff.1 h
    refine hm i ?_
    rw [h]
    show (2 ^ ops.size - 1).testBit i = true
    rw [Nat.testBit_two_pow_sub_one]; simpa using hi
  | j :: ref, m, h, hm, i, hi => by
    simp only [okRef, Bool.and_eq_true] at h
    obtain ⟨h1, _, h3⟩ := h
    refine ref_all hsz hr ref _ h3 (fun k hk => ?_) i hi
    change (m ||| 2 ^ j).testBit k = true at hk
    rw [Nat.testBit_or] at hk
    cases hq : m.testBit k with
    | true => exact hm k hq
    | false =>
      rw [hq, Bool.false_or] at hk
      rw [Nat.testBit_two_pow] at hk
      have : j = k := by simpa using hk
      subst this
      split at h1
      · rename_i o ho
        have he := edgesIn_mem h1
        have hj : j < ops.size := (Array.getElem?_eq_some_iff.1 ho).1
        cases hl : listed.getD j false with
        | true => rfl
        | false =>
          exfalso
          have hmem : j ∈ Region.ready md ops listed := by
            unfold Region.ready
            rw [List.mem_filter]
            refine ⟨List.mem_range.2 hj, ?_⟩
            have : listed.getD j true = false := by
              rw [Array.getD_eq_getD_getElem?, Array.getElem?_eq_getElem (by omega)] at hl ⊢
              exact hl
            rw [this, ho]
            simp only [Bool.not_false, Bool.true_and, Option.map_some, Option.getD_some]
            rw [Array.all_eq_true']
            intro e hmem
            cases hb : Region.binds md e with
            | false => rfl
            | true => simp [hm _ (he e (by simpa using hmem) hb)]
          rw [hr] at hmem
          cases hmem
      · cases h1
theorem order_go {md : Region.Mode} {ops : Array Oper} {ref : List Nat} (href : okRef md ops ref 0 = true) (hmd : ∀ e : Edge, Region.binds .any e = true → Region.binds md e = true) : ∀ (fuel t : Nat) (listed : Array Bool) (D : List Nat),
    listed.size = ops.size → (∀ i, listed.getD i false = true ↔ i ∈ D) → ((List.range ops.size).filter fun i => !listed.getD i false).length ≤ fuel → Order ops D (Region.linearise.go md ops fuel t listed []) := by
  intro fuel
  induction fuel with
  | zero =>
    intro t listed D hsz hD hf
    refine .nil fun i hi => ?_
    have : (List.range ops.size).filter (fun i => !listed.getD i false) = [] := List.eq_nil_of_length_eq_zero (by omega)
    rw [List.filter_eq_nil_iff] at this
    have := this i (List.mem_range.2 hi)
    rw [← hD]
    simpa using this
  | succ fuel ih =>
    intro t listed D hsz hD hf
    simp only [Region.linearise.go]
    change Order ops D (match (Region.ready md ops listed)[t % (Region.ready md ops listed).length]? with
      | some i => Region.linearise.go md ops fuel (t / (Region.ready md ops listed).length) (listed.setIfInBounds i true) [i]
      | none => [].reverse)
    cases hi : (Region.ready md ops listed)[t % (Region.ready md ops listed).length]? with
    | none =>
      have hnil : Region.ready md ops listed = [] := by
        cases hr : Region.ready md ops listed with
        | nil => rfl
        | cons x xs =>
          rw [hr] at hi
          have hlt : t % (x :: xs).length < (x :: xs).length := Nat.mod_lt _ (by simp)
          simp at hi
          simp at hlt
          omega
      refine .nil fun i hi => (hD i).1 (ref_all hsz hnil ref 0 href (fun k hk => by simp at hk) i hi)
    | some i =>
      simp only []
      rw [linearise_go_acc, List.reverse_singleton, List.singleton_append]
      have hm := List.mem_of_getElem? hi
      unfold Region.ready at hm
      rw [List.mem_filter] at hm
      obtain ⟨h1, h2⟩ := hm
      have h1 := List.mem_range.1 h1
      rw [Bool.and_eq_true] at h2
      obtain ⟨h2, h3⟩ := h2
      have ho : ops[i]? = some ops[i] := Array.getElem?_eq_getElem h1
      rw [ho, Option.map_some, Option.getD_some, Array.all_eq_true'] at h3
      have hli : listed.getD i false = false := by
        rw [Array.getD_eq_getD_getElem?, Array.getElem?_eq_getElem (by omega)] at h2 ⊢
        simpa using h2
      refine .cons ho (fun q => ?_) (fun e he hb => ?_) (ih _ _ _ (by simpa using hsz) (fun j => ?_) ?_)
      · rw [← hD, hli] at q; cases q
      · have := h3 e (by simpa using he)
        rw [hmd e hb] at this
        rw [← hD]
        simpa using this
      · rw [Array.getD_eq_getD_getElem?, Array.getElem?_setIfInBounds]
        by_cases e : i = j
        · subst e
          rw [if_pos rfl, if_pos (by omega)]
          simp
        · rw [if_neg e, ← Array.getD_eq_getD_getElem?, hD, List.mem_cons]
          exact ⟨.inr, fun k => k.resolve_left (fun q => e q.symm)⟩
      · refine Nat.le_of_lt_succ (Nat.lt_of_lt_of_le (filter_less (a := i) (fun x hx => ?_) (List.mem_range.2 h1) (by rw [hli]; rfl) ?_) hf)
        · rw [Array.getD_eq_getD_getElem?, Array.getElem?_setIfInBounds] at hx
          by_cases e : i = x
          · subst e
            rw [hli]; rfl
          · rw [if_neg e, ← Array.getD_eq_getD_getElem?] at hx; exact hx
        · rw [Array.getD_eq_getD_getElem?, Array.getElem?_setIfInBounds, if_pos rfl, if_pos (by omega)]
          rfl
theorem order_schedule {P : Program} {ops : Array Oper} (hok : okModes P ops = true) (t : Nat) : Order ops [] (Region.schedule (P.follows .mixedOrders) ops t) := by
  have key : ∀ (md : Region.Mode) (ref : List Nat) (t : Nat), okRef md ops ref 0 = true → (∀ e : Edge, Region.binds .any e = true → Region.binds md e = true) → Order ops [] (Region.linearise md ops t) := by
    intro md ref t h1 h2
    refine order_go h1 h2 ops.size t _ [] (by simp) (fun i => ?_) ?_
    · rw [Array.getD_eq_getD_getElem?, Array.getElem?_replicate]
      by_cases e : i < ops.size
      · rw [if_pos e]; simp
      · rw [if_neg e]; simp
    · exact Nat.le_trans (List.length_filter_le _ _) (by simp)
  have hb : ∀ (md : Region.Mode) (e : Edge), Region.binds .any e = true → Region.binds md e = true := by
    intro md e h
    unfold Region.binds at h ⊢
    cases hg : e.ground <;> rw [hg] at h <;> first | rfl | (cases h)
  unfold okModes at hok
  unfold Region.schedule
  cases hm : (P.follows .mixedOrders || !Region.departs ops) with
  | true =>
    rw [hm, cond_true] at hok
    rw [if_pos rfl]
    exact key _ _ _ hok (hb .any)
  | false =>
    rw [hm, cond_false, Bool.and_eq_true] at hok
    rw [if_neg (by simp)]
    split
    · exact key _ _ _ hok.1 (hb .text)
    · exact key _ _ _ hok.2 (hb .gc)
end Go.Proofs.YtjhgembcdndmkaaGreatDoor.Am

namespace Go.Proofs.YtjhgembcdndmkaaGreatDoor.Am
theorem maskL_mem {p : Pos} : ∀ {l : List Pos}, p ∈ l → (maskL l).testBit p.num = true
  | [], h => by cases h
  | q :: l, h => by
    show (2 ^ q.num ||| maskL l).testBit p.num = true
    rw [Nat.testBit_or]
    rcases List.mem_cons.1 h with h | h
    · subst h; rw [Nat.testBit_two_pow_self]; rfl
    · rw [maskL_mem h, Bool.or_true]
theorem okTwo_sound {y x : OI} (h : okTwo y x = true) : Nat.land x.d y.d = 0 ∧ (x.b.testBit y.i = true ∨ (Nat.land y.d x.l = 0 ∧ Nat.land x.d y.l = 0 ∧ (x.act = true → y.act = false))) := by
  unfold okTwo at h
  cases h1 : Nat.beq (Nat.land x.d y.d) 0 with
  | false => rw [h1] at h; cases h
  | true =>
    refine ⟨beq_iff.1 h1, ?_⟩
    rw [h1, cond_true, bit_eq] at h
    cases h2 : x.b.testBit y.i with
    | true => exact .inl rfl
    | false =>
      rw [h2, cond_false] at h
      cases h3 : Nat.beq (Nat.lor (Nat.land y.d x.l) (Nat.land x.d y.l)) 0 with
      | false => rw [h3] at h; cases h
      | true =>
        rw [h3, cond_true] at h
        have h3 : (Nat.land y.d x.l ||| Nat.land x.d y.l) = 0 := beq_iff.1 h3
        refine .inr ⟨(Nat.or_eq_zero_iff.1 h3).1, (Nat.or_eq_zero_iff.1 h3).2, fun ha => ?_⟩
        rw [ha] at h
        cases e : y.act with
        | false => rfl
        | true => rw [e] at h; cases h
theorem okAcc_sound {x : OI} : ∀ {l : List OI}, okAcc l x = true → ∀ y ∈ l, okTwo y x = true
  | [], _, y, h => by cases h
  | z :: l, h, y, hy => by
    have h : (bif okTwo z x then okAcc l x else false) = true := h
    cases e : okTwo z x with
    | false => rw [e] at h; cases h
    | true =>
      rw [e, cond_true] at h
      rcases List.mem_cons.1 hy with q | q
      · subst q; exact e
      · exact okAcc_sound h y q
theorem okAll_sound : ∀ {l : List O} {i : Nat} {acc : List OI}, okAll l i acc = true → ∀ (k : Nat) (o : O), l[k]? = some o →
    o.before < 2 ^ (i + k) ∧ o.ok = true ∧ Nat.land (oiOf (i + k) o).d (oiOf (i + k) o).l = 0 ∧ (∀ y ∈ acc, okTwo y (oiOf (i + k) o) = true) ∧ ∀ (j : Nat) (oj : O), j < k → l[j]? = some oj → okTwo (oiOf (i + j) oj) (oiOf (i + k) o) = true
  | [], _, _, _, k, o, e => by simp at e
  | x :: l, i, acc, h, k, o, e => by
    have h : (bif Nat.blt x.before (Nat.pow 2 i) && x.ok && Nat.beq (Nat.land (oiOf i x).d (oiOf i x).l) 0 && okAcc acc (oiOf i x) then okAll l (i + 1) (oiOf i x :: acc) else false) = true := h
    cases c : (Nat.blt x.before (Nat.pow 2 i) && x.ok && Nat.beq (Nat.land (oiOf i x).d (oiOf i x).l) 0 && okAcc acc (oiOf i x)) with
    | false => rw [c] at h; cases h
    | true =>
      rw [c, cond_true] at h
      simp only [Bool.and_eq_true] at c
      cases k with
      | zero =>
        simp at e; subst e
        exact ⟨blt_iff.1 c.1.1.1, c.1.1.2, beq_iff.1 c.1.2, okAcc_sound c.2, fun j oj hj => by omega⟩
      | succ k =>
        obtain ⟨q1, q2, q3, q4, q5⟩ := okAll_sound h k o (by simpa using e)
        rw [show i + 1 + k = i + (k + 1) by omega] at q1 q3 q4 q5
        refine ⟨q1, q2, q3, fun y hy => q4 y (List.mem_cons_of_mem _ hy), fun j oj hj ej => ?_⟩
        cases j with
        | zero => simp at ej; subst ej; exact q4 _ (by simp)
        | succ j =>
          have := q5 j oj (by omega) (by simpa using ej)
          rw [show i + (j + 1) = i + 1 + j by omega]; exact this
structure OkL (L : List O) : Prop where
  lt : ∀ (i : Nat) (o : O), L[i]? = some o → o.before < 2 ^ i
  ok : ∀ (i : Nat) (o : O), L[i]? = some o → o.ok = true
  dst : ∀ (i j : Nat) (oi oj : O) (p : Pos), L[i]? = some oi → L[j]? = some oj → oi.dst = some p → oj.dst = some p → i = j
  look : ∀ (i j : Nat) (oi oj : O) (p : Pos), L[i]? = some oi → L[j]? = some oj → oj.dst = some p → p ∈ looks oi → oi.before.testBit j = true ∨ oj.before.testBit i = true
  chain : ∀ (i j : Nat) (oi oj : O), L[i]? = some oi → L[j]? = some oj → j < i → isActor oi.op = true → isActor oj.op = true → oi.before.testBit j = true
theorem OkL.less {L : List O} (h : OkL L) {i j : Nat} {o : O} (e : L[i]? = some o) (b : o.before.testBit j = true) : j < i := by
  by_cases c : j < i
  · exact c
  · rw [Nat.testBit_lt_two_pow (Nat.lt_of_lt_of_le (h.lt i o e) (Nat.pow_le_pow_right (by omega) (by omega)))] at b
    cases b
theorem oiOf_d {i : Nat} {o : O} {p : Pos} (h : o.dst = some p) : (oiOf i o).d = 2 ^ p.num := by unfold oiOf; rw [h]; rfl
theorem land_bit {a b n : Nat} (h : Nat.land a b = 0) (ha : a.testBit n = true) (hb : b.testBit n = true) : False := by
  have h : a &&& b = 0 := h
  have := congrArg (fun x => x.testBit n) h
  simp only [Nat.testBit_and, ha, hb, Nat.zero_testBit] at this
  cases this
theorem okRegion_sound {L : List O} (h : okRegion L = true) : OkL L := by
  have h1 := okAll_sound (l := L) (i := 0) (acc := []) h
  simp only [Nat.zero_add] at h1
  refine ⟨fun i o e => (h1 i o e).1, fun i o e => (h1 i o e).2.1, fun i j oi oj p ei ej di dj => ?_, fun i j oi oj p ei ej dj hl => ?_, fun i j oi oj ei ej hlt ai aj => ?_⟩
  · have key : ∀ (i j : Nat) (oi oj : O), L[i]? = some oi → L[j]? = some oj → oi.dst = some p → oj.dst = some p → j < i → False := by
      intro i j oi oj ei ej di dj hlt
      have q := (okTwo_sound ((h1 i oi ei).2.2.2.2 j oj hlt ej)).1
      rw [oiOf_d di, oiOf_d dj] at q
      exact land_bit q (Nat.testBit_two_pow_self ..) (Nat.testBit_two_pow_self ..)
    rcases Nat.lt_trichotomy i j with c | c | c
    · exact (key j i oj oi ej ei dj di c).elim
    · exact c
    · exact (key i j oi oj ei ej di dj c).elim
  · have hm : (oiOf i oi).l.testBit p.num = true := maskL_mem hl
    rcases Nat.lt_trichotomy i j with c | c | c
    · rcases (okTwo_sound ((h1 j oj ej).2.2.2.2 i oi c ei)).2 with q | q
      · exact .inr q
      · have q := q.2.1
        rw [oiOf_d dj] at q
        exact (land_bit q (Nat.testBit_two_pow_self ..) hm).elim
    · subst c
      rw [ei] at ej; cases ej
      have q := (h1 i oi ei).2.2.1
      rw [oiOf_d dj] at q
      exact (land_bit q (Nat.testBit_two_pow_self ..) hm).elim
    · rcases (okTwo_sound ((h1 i oi ei).2.2.2.2 j oj c ej)).2 with q | q
      · exact .inl q
      · have q := q.1
        rw [oiOf_d dj] at q
        exact (land_bit q (Nat.testBit_two_pow_self ..) hm).elim
  · rcases (okTwo_sound ((h1 i oi ei).2.2.2.2 j oj hlt ej)).2 with q | q
    · exact q
    · have := q.2.2 ai
      have aj' : (oiOf j oj).act = true := aj
      rw [aj'] at this; cases this
theorem masks_get : ∀ (l : List Oper) (acc : List Nat), (masks l acc).length = acc.length + l.length ∧ (masks l acc).take acc.length = acc ∧
    ∀ (i : Nat) (o : Oper), l[i]? = some o → (masks l acc)[acc.length + i]? = some (maskOf ((masks l acc).take (acc.length + i)) o.after.toList 0)
  | [], acc => ⟨by simp [masks], by simp [masks], fun i o e => by simp at e⟩
  | x :: l, acc => by
    obtain ⟨h1, h2, h3⟩ := masks_get l (acc ++ [maskOf acc x.after.toList 0])
    have hm : masks (x :: l) acc = masks l (acc ++ [maskOf acc x.after.toList 0]) := rfl
    rw [hm]
    generalize masks l (acc ++ [maskOf acc x.after.toList 0]) = M at *
    simp only [List.length_append, List.length_singleton] at h1 h2 h3
    have h4 : M.take acc.length = acc := by
      have := congrArg (List.take acc.length) h2
      rw [List.take_take, Nat.min_eq_left (by omega), List.take_left'  rfl] at this
      exact this
    refine ⟨by simp [h1]; omega, h4, fun i o e => ?_⟩
    cases i with
    | zero =>
      simp at e; subst e
      rw [Nat.add_zero, h4]
      have h5 : M[acc.length]? = (M.take (acc.length + 1))[acc.length]? := by rw [List.getElem?_take_of_lt (by omega)]
      rw [h5, h2]
      simp
    | succ i =>
      have := h3 i o (by simpa using e)
      rw [show acc.length + (i + 1) = acc.length + 1 + i by omega]; exact this
theorem maskOf_bit {acc : List Nat} : ∀ {l : List Edge} {s k : Nat}, (maskOf acc l s).testBit k = true → s.testBit k = true ∨ ∃ e ∈ l, Region.binds .any e = true ∧ (k = e.on ∨ (nthD acc e.on).testBit k = true)
  | [], s, k, h => .inl h
  | e :: l, s, k, h => by
    unfold maskOf at h
    rcases maskOf_bit h with h | ⟨e', q1, q2, q3⟩
    · cases hb : Region.binds .any e with
      | false => rw [hb] at h; exact .inl h
      | true =>
        rw [hb, cond_true] at h
        have h : (s ||| (2 ^ e.on ||| nthD acc e.on)).testBit k = true := h
        simp only [Nat.testBit_or, Bool.or_eq_true, Nat.testBit_two_pow, decide_eq_true_eq] at h
        rcases h with h | h | h
        · exact .inl h
        · exact .inr ⟨e, by simp, hb, .inl h.symm⟩
        · exact .inr ⟨e, by simp, hb, .inr h⟩
    · exact .inr ⟨e', List.mem_cons_of_mem _ q1, q2, q3⟩
theorem zipO_get {P : Program} {n : Nat} {ops : Array Oper} : ∀ {l : List Oper} {r : List Nat}, l.length = r.length → (zipO P n ops l r).length = l.length ∧
    ∀ (i : Nat) (x : Oper) (m : Nat), l[i]? = some x → r[i]? = some m → (zipO P n ops l r)[i]? = some (compOper P n ops m x)
  | [], r, h => ⟨by cases r <;> simp [zipO], fun i x m e _ => by simp at e⟩
  | o :: l, [], h => by simp at h
  | o :: l, m :: r, h => by
    obtain ⟨h1, h2⟩ := zipO_get (P := P) (n := n) (ops := ops) (l := l) (r := r) (by simpa using h)
    refine ⟨by simp [zipO, h1], fun i x m' e e' => ?_⟩
    cases i with
    | zero => simp at e e'; subst e; subst e'; rfl
    | succ i => simp only [zipO, List.getElem?_cons_succ] at e e' ⊢; exact h2 i x m' e e'
noncomputable def drawnL (P : Program) (n : Nat) (ops : Array Oper) : List O := zipO P n ops ops.toList (masks ops.toList [])
section
variable {P : Program} {n : Nat} {ops : Array Oper}
theorem drawn_len : (drawnL P n ops).length = ops.size := by
  have := (zipO_get (P := P) (n := n) (ops := ops) (l := ops.toList) (r := masks ops.toList []) (by rw [(masks_get _ _).1]; simp)).1
  simpa [drawnL] using this
theorem drawn_get {i : Nat} {o : Oper} (e : ops[i]? = some o) : (drawnL P n ops)[i]? = some (compOper P n ops (maskOf ((masks ops.toList []).take i) o.after.toList 0) o) := by
  have hl : ops.toList[i]? = some o := by rw [Array.getElem?_toList]; exact e
  refine (zipO_get (P := P) (n := n) (ops := ops) (l := ops.toList) (r := masks ops.toList []) (by rw [(masks_get _ _).1]; simp)).2 i o _ hl ?_
  have := (masks_get ops.toList []).2.2 i o hl
  simpa using this
theorem drawn_before {i k : Nat} {o : Oper} {c : O} (e : ops[i]? = some o) (ec : (drawnL P n ops)[i]? = some c) (h : c.before.testBit k = true) :
    ∃ e ∈ o.after.toList, Region.binds .any e = true ∧ (k = e.on ∨ ∃ c', (drawnL P n ops)[e.on]? = some c' ∧ c'.before.testBit k = true) := by
  rw [drawn_get e] at ec
  cases ec
  have h : (maskOf ((masks ops.toList []).take i) o.after.toList 0).testBit k = true := h
  rcases maskOf_bit h with h | ⟨e1, q1, q2, q3⟩
  · simp at h
  · refine ⟨e1, q1, q2, ?_⟩
    rcases q3 with q3 | q3
    · exact .inl q3
    · refine .inr ?_
      unfold nthD at q3
      rw [nth_eq] at q3
      split at q3
      · rename_i x hx
        rw [List.getElem?_take] at hx
        split at hx
        · have hlt : e1.on < ops.size := by
            have := (List.getElem?_eq_some_iff.1 hx).1
            rw [(masks_get ops.toList []).1] at this
            simpa using this
          have he : ops[e1.on]? = some ops[e1.on] := Array.getElem?_eq_getElem hlt
          refine ⟨_, drawn_get he, ?_⟩
          have hl : ops.toList[e1.on]? = some ops[e1.on] := by rw [Array.getElem?_toList]; exact he
          have := (masks_get ops.toList []).2.2 e1.on _ hl
          simp only [List.length_nil, Nat.zero_add] at this
          rw [this] at hx
          cases hx
          exact q3
        · cases hx
      · simp at q3
theorem order_bits {D : List Nat} (hc : ∀ j ∈ D, ∀ (c : O) (k : Nat), (drawnL P n ops)[j]? = some c → c.before.testBit k = true → k ∈ D) {i : Nat} {o : Oper} (ho : ops[i]? = some o)
    (he : ∀ e ∈ o.after.toList, Region.binds .any e = true → e.on ∈ D) : ∀ (c : O) (k : Nat), (drawnL P n ops)[i]? = some c → c.before.testBit k = true → k ∈ D := by
  intro c k ec h
  obtain ⟨e, q1, q2, q3⟩ := drawn_before ho ec h
  have hm := he e q1 q2
  rcases q3 with q3 | ⟨c', q4, q5⟩
  · rw [q3]; exact hm
  · exact hc _ hm c' k q4 q5
end
end Go.Proofs.YtjhgembcdndmkaaGreatDoor.Am

namespace Go.Proofs.YtjhgembcdndmkaaGreatDoor.Am
structure DS where
  acts : List Actor
  lds : List Ld
  als : List Al
  rid : Pos
  env : T AV
  h : Hp
noncomputable def setD (env : T AV) (d : Option Pos) (v : AV) : T AV :=
  match d with
  | some d => T.set d (some v) env
  | none => env
noncomputable def putT (p : Al → Bool) : List Al → T Blk → T Blk
  | [], t => t
  | a :: l, t => putT p l (if p a = true then T.set a.id (some a.b) t else t)
noncomputable abbrev insT (m : Nat) (l : List Al) (t : T Blk) : T Blk := putT (fun a => m.testBit a.i) l t
noncomputable abbrev allT (l : List Al) (t : T Blk) : T Blk := putT (fun _ => true) l t
theorem putT_other {p : Al → Bool} {id : Pos} : ∀ {l : List Al} {t : T Blk}, (∀ a ∈ l, p a = true → a.id ≠ id) → T.get id (putT p l t) = T.get id t
  | [], t, _ => rfl
  | a :: l, t, h => by
    unfold putT
    rw [putT_other fun x hx => h x (List.mem_cons_of_mem _ hx)]
    split
    · rename_i hp
      rw [T.get_set, if_neg fun e => h a (by simp) hp e.symm]
    · rfl
theorem putT_mem {p : Al → Bool} {id : Pos} {b : Blk} : ∀ {l : List Al} {t : T Blk}, (∀ a ∈ l, p a = true → a.id = id → a.b = b) → ((∃ a ∈ l, p a = true ∧ a.id = id) ∨ T.get id t = some b) → T.get id (putT p l t) = some b
  | [], t, _, h => by
    rcases h with ⟨a, h, _⟩ | h
    · simp at h
    · exact h
  | a :: l, t, h, h' => by
    unfold putT
    refine putT_mem (fun x hx => h x (List.mem_cons_of_mem _ hx)) ?_
    by_cases c : p a = true ∧ a.id = id
    · rw [if_pos c.1, T.get_set, if_pos c.2.symm, h a (by simp) c.1 c.2]
      exact .inr rfl
    · rcases h' with ⟨a', q1, q2⟩ | h'
      · rcases List.mem_cons.1 q1 with q | q
        · subst q; exact absurd q2 c
        · exact .inl ⟨a', q, q2⟩
      · right
        split
        · rename_i hp
          rw [T.get_set, if_neg fun e => c ⟨hp, e.symm⟩]; exact h'
        · exact h'
theorem setDst_eq (env : T AV) (d : Option Pos) (v : AV) (k : T AV → Out) : setDst env d v k = k (setD env d v) := by
  cases d with
  | none => rfl
  | some d => exact T.setK_eq _ _ _ _
theorem insK_eq (m : Nat) : ∀ (l : List Al) (t : T Blk) (k : T Blk → Out), insK m l t k = k (insT m l t)
  | [], t, k => rfl
  | a :: l, t, k => by
    unfold insK insT putT
    rw [bit_eq]
    cases hb : m.testBit a.i with
    | true => rw [cond_true, T.setK_eq, insK_eq m l, if_pos rfl]
    | false => rw [cond_false, insK_eq m l, if_neg (by simp)]
theorem insAll_eq : ∀ (l : List Al) (t : T Blk) (k : T Blk → Out), insAll l t k = k (allT l t)
  | [], t, k => rfl
  | a :: l, t, k => by
    unfold insAll allT putT
    rw [T.setK_eq, insAll_eq l, if_pos rfl]
inductive Acts (P : Program) (rec : St → Out) (op : AOp) (env : T AV) (h : Hp) (v : AV) (h' : Hp) : Prop where
  | val (e : evalOp P op env h = .val v h')
  | enter {f : FuncId} {args : List AV} {h1 : Hp} {fr : Fr} (e : evalOp P op env h = .enter f args h1) (hb : beginFn P f args = some fr) (hr : rec ⟨fr, [], h1⟩ = .done v h')
  | round {l : Pos} {args : List AV} {fr : Fr} (e : evalOp P op env h = .round l args) (hb : beginRound h l args = some fr) (hr : rec ⟨fr, [], h⟩ = .done v h')
theorem actK_eq (P : Program) (rec : St → Out) (op : AOp) (env : T AV) (h : Hp) (k : AV → Hp → Out) :
    (∃ why, actK P rec op env h k = .fail why) ∨ ∃ v h', Acts P rec op env h v h' ∧ actK P rec op env h k = k v h' := by
  unfold actK
  split
  · rename_i v h' e
    exact .inr ⟨v, h', .val e, rfl⟩
  · rename_i f args h1 e
    split
    · rename_i fr hb
      split
      · rename_i v h' hr
        exact .inr ⟨v, h', .enter e hb hr, rfl⟩
      · exact .inl ⟨_, rfl⟩
      · exact .inl ⟨_, rfl⟩
    · exact .inl ⟨_, rfl⟩
  · rename_i l args e
    split
    · rename_i fr hb
      split
      · rename_i v h' hr
        exact .inr ⟨v, h', .round e hb hr, rfl⟩
      · exact .inl ⟨_, rfl⟩
      · exact .inl ⟨_, rfl⟩
    · exact .inl ⟨_, rfl⟩
  all_goals exact .inl ⟨_, rfl⟩
inductive Turn (P : Program) (rec : St → Out) (i : Nat) (o : O) (s : DS) : AV → DS → Prop where
  | skip (hw : wantedA o s.env = false) : Turn P rec i o s .undef ⟨s.acts, s.lds, s.als, if isAlloc o.op = true then s.rid.succ else s.rid, setD s.env o.dst .undef, s.h⟩
  | still {v : AV} {h' : Hp} (hk : kindOf o.op = .still) (hw : wantedA o s.env = true) (e : evalOp P o.op s.env s.h = .val v h') :
      Turn P rec i o s v ⟨s.acts, s.lds, s.als, s.rid, setD s.env o.dst v, s.h⟩
  | load {v : AV} {h' : Hp} (hk : kindOf o.op = .load) (hw : wantedA o s.env = true) (e : evalOp P o.op s.env s.h = .val v h') (hb : lookBack P o.op s.env v o.before s.acts = true) :
      Turn P rec i o s v ⟨s.acts, ⟨i, o.op, s.env, v⟩ :: s.lds, s.als, s.rid, setD s.env o.dst v, s.h⟩
  | alloc {v : AV} {h' : Hp} {b : Blk} (hk : kindOf o.op = .alloc) (hw : wantedA o s.env = true) (e : evalOp P o.op s.env ⟨.e, s.rid, s.h.ser, s.rid.num + 1⟩ = .val v h') (hb : T.get s.rid h'.heap = some b) :
      Turn P rec i o s v ⟨s.acts, s.lds, ⟨i, s.rid, b⟩ :: s.als, s.rid.succ, setD s.env o.dst v, s.h⟩
  | actor {v : AV} {h' : Hp} (hk : kindOf o.op = .actor) (hw : wantedA o s.env = true) (e : Acts P rec o.op s.env ⟨insT o.before s.als s.h.heap, s.h.next, s.h.ser, s.h.lim⟩ v h')
      (hl : lookAgain P h' o.before s.lds = true) : Turn P rec i o s v ⟨⟨i, s.h⟩ :: s.acts, s.lds, remAl o.before s.als, s.rid, setD s.env o.dst v, h'⟩
theorem drawnGo_one (P : Program) (rec : St → Out) (k : T AV → Hp → Out) (i : Nat) (s : DS) (o : O) (rest : List O) {X : Out} (hX : X = drawnGo P rec k i s.acts s.lds s.als s.rid s.env s.h (o :: rest)) :
    (∃ why, X = .fail why) ∨
    ∃ v s', Turn P rec i o s v s' ∧ X = drawnGo P rec k (i + 1) s'.acts s'.lds s'.als s'.rid s'.env s'.h rest := by
  unfold drawnGo at hX
  have hsk : ∀ q, isAlloc o.op = false → wantedA o s.env = false → X = drawnGo P rec k (i + 1) s.acts s.lds s.als q (setD s.env o.dst .undef) s.h rest → q = s.rid → 
      (∃ why, X = .fail why) ∨ ∃ v s', Turn P rec i o s v s' ∧ X = drawnGo P rec k (i + 1) s'.acts s'.lds s'.als s'.rid s'.env s'.h rest := by
    intro q ia hw hX e
    subst e
    have q := Turn.skip (P := P) (rec := rec) (i := i) hw
    rw [ia] at q
    exact .inr ⟨_, _, q, hX⟩
  split at hX
  · rename_i hk
    cases hw : wantedA o s.env with
    | false =>
      rw [hw, cond_false, setDst_eq] at hX
      exact hsk _ (by unfold isAlloc; rw [hk]) hw hX rfl
    | true =>
      rw [hw, cond_true] at hX
      split at hX
      · rename_i v h' e
        rw [setDst_eq] at hX
        exact .inr ⟨_, _, .still hk hw e, hX⟩
      · exact .inl ⟨_, hX⟩
  · rename_i hk
    cases hw : wantedA o s.env with
    | false =>
      rw [hw, cond_false, setDst_eq] at hX
      exact hsk _ (by unfold isAlloc; rw [hk]) hw hX rfl
    | true =>
      rw [hw, cond_true] at hX
      split at hX
      · rename_i v h' e
        cases hb : lookBack P o.op s.env v o.before s.acts with
        | false => rw [hb] at hX; exact .inl ⟨_, hX⟩
        | true => rw [hb, cond_true, setDst_eq] at hX; exact .inr ⟨_, _, .load hk hw e hb, hX⟩
      · exact .inl ⟨_, hX⟩
  · rename_i hk
    cases hw : wantedA o s.env with
    | false =>
      rw [hw, cond_false, setDst_eq] at hX
      have q := Turn.skip (P := P) (rec := rec) (i := i) hw
      have ia : isAlloc o.op = true := by unfold isAlloc; rw [hk]
      rw [ia] at q
      exact .inr ⟨_, _, q, hX⟩
    | true =>
      rw [hw, cond_true] at hX
      split at hX
      · rename_i v h' e
        split at hX
        · rename_i b hb
          rw [setDst_eq] at hX
          exact .inr ⟨_, _, .alloc hk hw e hb, hX⟩
        · rename_i hb
          obtain ⟨b, q⟩ := alloc_shape hk e
          rw [q] at hb
          simp only at hb
          rw [T.get_set, if_pos rfl] at hb
          cases hb
      · exact .inl ⟨_, hX⟩
  · rename_i hk
    cases hw : wantedA o s.env with
    | false =>
      rw [hw, cond_false, setDst_eq] at hX
      exact hsk _ (by unfold isAlloc; rw [hk]) hw hX rfl
    | true =>
      rw [hw, cond_true, insK_eq] at hX
      rcases actK_eq P rec o.op s.env ⟨insT o.before s.als s.h.heap, s.h.next, s.h.ser, s.h.lim⟩ (fun v h' =>
          bif lookAgain P h' o.before s.lds then setDst s.env o.dst v fun env => drawnGo P rec k (i + 1) (⟨i, s.h⟩ :: s.acts) s.lds (remAl o.before s.als) s.rid env h' rest else .fail "drawn a look again") with ⟨why, q⟩ | ⟨v, h', q1, q2⟩
      · exact .inl ⟨why, hX.trans q⟩
      · have hX := hX.trans q2
        cases hl : lookAgain P h' o.before s.lds with
        | false => rw [hl] at hX; exact .inl ⟨_, hX⟩
        | true => rw [hl, cond_true, setDst_eq] at hX; exact .inr ⟨_, _, .actor hk hw q1 hl, hX⟩
theorem drawnGo_trace (P : Program) (rec : St → Out) (k : T AV → Hp → Out) : ∀ (rest : List O) (i : Nat) (s : DS),
    (∃ why, drawnGo P rec k i s.acts s.lds s.als s.rid s.env s.h rest = .fail why) ∨
    ∃ (S : Nat → DS) (v : Nat → AV), S i = s ∧ (∀ (y : Nat) (o : O), rest[y]? = some o → Turn P rec (i + y) o (S (i + y)) (v (i + y)) (S (i + y + 1))) ∧
      drawnGo P rec k i s.acts s.lds s.als s.rid s.env s.h rest = k (S (i + rest.length)).env ⟨allT (S (i + rest.length)).als (S (i + rest.length)).h.heap, (S (i + rest.length)).h.next, (S (i + rest.length)).h.ser, (S (i + rest.length)).h.lim⟩
  | [], i, s => by
    refine .inr ⟨fun _ => s, fun _ => .undef, rfl, fun y o e => by simp at e, ?_⟩
    unfold drawnGo
    rw [insAll_eq]
  | o :: rest, i, s => by
    rcases drawnGo_one P rec k i s o rest rfl with q | ⟨v, s', q1, q2⟩
    · exact .inl q
    · rw [q2]
      rcases drawnGo_trace P rec k rest (i + 1) s' with q | ⟨S, V, r1, r2, r3⟩
      · exact .inl q
      · refine .inr ⟨fun y => if y = i then s else S y, fun y => if y = i then v else V y, by simp, fun y o' e => ?_, ?_⟩
        · cases y with
          | zero =>
            simp at e; subst e
            have n1 : ¬ i + 0 + 1 = i := by omega
            simp only [Nat.add_zero, if_true] at n1 ⊢
            rw [if_neg n1, r1]
            exact q1
          | succ y =>
            have := r2 y o' (by simpa using e)
            have n1 : ¬ i + (y + 1) = i := by omega
            have n2 : ¬ i + (y + 1) + 1 = i := by omega
            simp only [if_neg n1, if_neg n2]
            rw [show i + (y + 1) = i + 1 + y by omega]
            exact this
        · rw [r3]
          have n1 : ¬ i + (o :: rest).length = i := by simp
          simp only [if_neg n1]
          rw [show i + (o :: rest).length = i + 1 + rest.length by simp; omega]
end Go.Proofs.YtjhgembcdndmkaaGreatDoor.Am
