import Derived.RangeFuncIn
import Derived.Test.YtialpccieggaoaaGreatDoorAmH
/- THE ABSTRACT MACHINE, part I: a machine over values without block numbers, run by the kernel, and the proof that the model's machine does what it does. No condition. -/
set_option linter.unusedSimpArgs false
set_option linter.unusedVariables false
namespace Go.Proofs.YtialpccieggaoaaGreatDoor.Am

theorem compFn_spec {P : Program} {f : FuncId} {fu : Fu} (h : compFn P f = some fu) :
    ∃ fn b, P.funcs[f]? = some fn ∧ fn.body = some b ∧ mapO (compRV P) fn.results.toList = some fu.results ∧ fu.nargs = fn.ntmps ∧ fu.body = comp P fn.ntmps b ∧ numT P f = fn.ntmps := by
  unfold compFn at h
  split at h
  · cases h
  · rename_i fn hf
    split at h
    · cases h
    · rename_i b hb
      split at h
      · rename_i r hr
        cases h
        exact ⟨fn, b, hf, hb, hr, rfl, rfl, by simp [numT, hf]⟩
      · cases h

theorem ev_setArgs (l : List AV) (env : T AV) (i t : Nat) : ev (setArgs env i l) (.tmp (Pos.ofNat t)) = if i ≤ t ∧ t < i + l.length then l.getD (t - i) .undef else ev env (.tmp (Pos.ofNat t)) := by
  induction l generalizing env i with
  | nil => rw [setArgs, if_neg (by simp only [List.length_nil]; omega)]
  | cons v l ih =>
    unfold setArgs
    rw [T.setK_eq, ih, ev_set]
    by_cases h1 : i + 1 ≤ t ∧ t < i + 1 + l.length
    · rw [if_pos h1, if_pos ⟨by omega, by simp; omega⟩, show t - i = (t - (i + 1)) + 1 by omega]; rfl
    · rw [if_neg h1]
      by_cases h2 : t = i
      · subst h2
        rw [if_pos rfl, if_pos ⟨Nat.le_refl _, by simp⟩, Nat.sub_self]; rfl
      · rw [if_neg (fun q => h2 (Pos.ofNat_inj q)), if_neg (by simp; omega)]

theorem ev_empty (x : Pos) : ev .e (.tmp x) = .undef := by simp [ev, T.get_e]

theorem begin_run {P : Program} {φ : Phi} {f : FuncId} {args : List AV} {xs : Array Value} {fr : Fr} (h : beginFn P f args = some fr) (hx : RelL φ args xs.toList) :
    FrR P φ fr (Frame.enter P f xs .normal) ∧ fr.fn = f ∧ fr.round = none ∧ ∃ fn b, P.funcs[f]? = some fn ∧ fn.body = some b := by
  unfold beginFn at h
  split at h
  · rename_i fu hfu
    obtain ⟨fn, b, h1, h2, h3, h4, h5, h6⟩ := compFn_spec hfu
    cases hb : Nat.ble args.length fu.nargs with
    | false => rw [hb] at h; cases h
    | true =>
      rw [hb, cond_true, Option.some.injEq] at h
      have hb := ble_iff.1 hb
      rw [h4] at hb
      have hl : args.length = xs.size := by rw [hx.length, Array.length_toList]
      subst h
      have ht : (Frame.enter P f xs .normal).tmps = xs ++ Array.replicate (fn.ntmps - xs.size) Go.undef := by simp [Frame.enter, h1]
      refine ⟨⟨rfl, ?_, ?_, ?_, .nil, trivial, rfl, trivial⟩, rfl, rfl, fn, b, h1, h2⟩
      · intro t
        rw [ev_setArgs, ht, Array.getD_eq_getD_getElem?, Array.getElem?_append, ev_empty]
        by_cases c : t < args.length
        · rw [if_pos ⟨Nat.zero_le _, by omega⟩, if_pos (by omega), Nat.sub_zero, List.getD_eq_getElem?_getD]
          obtain ⟨x, e1, e2⟩ := hx.get (List.getElem?_eq_getElem c)
          rw [Array.getElem?_toList] at e1
          rw [e1, List.getElem?_eq_getElem c]
          exact e2
        · rw [if_neg (by omega), if_neg (by omega), Array.getElem?_replicate]
          by_cases c2 : t - xs.size < fn.ntmps - xs.size
          · rw [if_pos c2]; exact Rel.undef
          · rw [if_neg c2]; exact Rel.undef
      · rw [ht, h6]; simp; omega
      · have e : (Frame.enter P f xs .normal).todo = [.code b] := by simp [Frame.enter, h1, h2]
        rw [e]
        exact .cons (by show fu.body = _; rw [h5, h6]) .nil
  · cases h

theorem okDst_lt {n d : Nat} (h : okDst n (some d) = true) : d < n := blt_iff.1 h

section
variable {P : Program} {φ : Phi} {fr : Fr} {g : Frame}

/-- A value handed to a frame. -/
theorem give_run {v : AV} {x : Value} (k : Fr → Out) (hF : FrR P φ fr g) (hv : Rel φ v x) :
    (∃ why, give fr v k = .fail why) ∨ ∃ fr', give fr v k = k fr' ∧ FrR P φ fr' (g.finish x) ∧ fr'.fn = fr.fn ∧ fr'.round = fr.round := by
  have ht := hF.todo
  unfold give
  split
  · rename_i o rest td e
    rw [e] at ht
    cases hok : o.ok with
    | false => exact .inl ⟨_, rfl⟩
    | true =>
      rw [cond_true]
      generalize hg : g.todo = gt at ht
      cases ht with
      | @cons x1 y l r hx ht =>
        cases y <;> first | (cases hx; done) | skip
        rename_i ops idx
        obtain ⟨h1, h2⟩ := hx
        cases idx with
        | nil => cases h1
        | cons i idx =>
          rw [List.map_cons, List.cons.injEq] at h1
          obtain ⟨h1, h3⟩ := h1
          have hi := h2 i (by simp)
          have hoi : ops[i]? = some (ops.getD i default) := by rw [Array.getD_eq_getD_getElem?, Array.getElem?_eq_getElem hi]; rfl
          have hitem : ItemR P φ (numT P fr.fn) (.ops rest) (.inRegion ops idx) := ⟨h3, fun j hj => h2 j (by simp [hj])⟩
          have hfin : g.finish x = { g with tmps := (match (ops.getD i default).dst with | some d => g.tmps.setIfInBounds d x | none => g.tmps), todo := .inRegion ops idx :: r } := by
            simp only [Frame.finish, hg, hoi, Option.bind_some]
            cases (ops.getD i default).dst <;> rfl
          have hdst : o.dst = (ops.getD i default).dst.map Pos.ofNat := by rw [h1]; rfl
          have hokd : okDst (numT P fr.fn) (ops.getD i default).dst = true := by
            rw [h1] at hok
            simp only [compOper, Bool.and_eq_true] at hok
            exact hok.1
          rw [hfin]
          cases hd : (ops.getD i default).dst with
          | none =>
            rw [hd, Option.map_none] at hdst
            rw [hdst]
            exact .inr ⟨_, rfl, ⟨hF.fn, hF.env, hF.size, .cons hitem ht, hF.defers, hF.mode, hF.kind, hF.round⟩, rfl, rfl⟩
          | some d =>
            rw [hd, Option.map_some] at hdst
            rw [hdst]
            simp only [T.setK_eq]
            rw [hd] at hokd
            have hdl := okDst_lt hokd
            have := hF.size
            refine .inr ⟨_, rfl, ⟨hF.fn, hF.env.set hv (by omega), ?_, .cons hitem ht, hF.defers, hF.mode, hF.kind, hF.round⟩, rfl, rfl⟩
            simpa using hF.size
  · rename_i l td e
    rw [e] at ht
    generalize hg : g.todo = gt at ht
    cases ht with
    | @cons x1 y l r hx ht =>
      cases y <;> first | (cases hx; done) | skip
      rename_i b
      have hfin : g.finish x = { g with todo := .endRangeFunc b :: r } := by simp only [Frame.finish, hg]
      rw [hfin]
      exact .inr ⟨_, rfl, ⟨hF.fn, hF.env, hF.size, .cons hx ht, hF.defers, hF.mode, hF.kind, hF.round⟩, rfl, rfl⟩
  · exact .inl ⟨_, rfl⟩

theorem result_run {h : Hp} {w : World} (hR : HR P φ h w) {m : Md} {env : T AV} {tmps : Array Value} (hE : EnvM φ m env tmps) {r : ResultVar} {rv : RV} {v : AV} (hc : compRV P r = some rv) (hv : result1 env h rv = some v) :
    ∃ x, ((match r with | .tmp t => pure (tmps.getD t Go.undef) | .cell a t => do loadVar t (← asAddr (tmps.getD a Go.undef)) : Sem Value)).run P w = .ok x w ∧ Rel φ v x := by
  cases r with
  | tmp t =>
    simp only [compRV, Option.some.injEq] at hc
    subst hc
    exact ⟨_, rfl, hE.at hv⟩
  | cell a t =>
    simp only [compRV] at hc
    cases hk : okT P t with
    | false => rw [hk] at hc; cases hc
    | true =>
      rw [hk, cond_true, Option.some.injEq] at hc
      subst hc
      obtain ⟨d, hd⟩ := okT_desc hk
      have ha : ∀ {u : AV}, ev env (.tmp (Pos.ofNat a)) = u → u ≠ .undef → Rel φ u (tmps.getD a Go.undef) := fun {u} e hn => by
        refine hE.at ?_
        unfold ev at e
        simp only at e
        split at e
        · rename_i q; rw [q, e]
        · exact absurd e.symm hn
      cases hg : isAggT P t with
      | true =>
        rw [hg, cond_true] at hv
        simp only [result1] at hv
        split at hv
        · rename_i id gg off e
          have ha := ha e (fun q => by cases q)
          obtain ⟨ad, b, s, n, hX, k1, k2, k3, k4⟩ := rel_ptr ha
          split at hv
          · rename_i c hc
            cases hv
            obtain ⟨xs, e1, e2, e3, e4⟩ := readN_run hR hc k1 k2 k3 (fun _ => k4)
            refine ⟨.agg xs.toArray, ?_, .agg (by simpa using e2)⟩
            simp only [hX, asAddr, loadVar, Sem.run_bind, Sem.run_pure, Result.andThen_ok, run_isAgg' hd, hg, if_true, run_sizeOf' hk, e1]
          · cases hv
        · cases hv
      | false =>
        rw [hg, cond_false] at hv
        simp only [result1] at hv
        split at hv
        · rename_i id gg off e
          have ha := ha e (fun q => by cases q)
          obtain ⟨ad, b, s, n, hX, k1, k2, k3, k4⟩ := rel_ptr ha
          obtain ⟨y, e1, e2⟩ := read1_run hR hv k1 k2 k3 k4
          refine ⟨y, ?_, e2⟩
          simp only [hX, asAddr, loadVar, Sem.run_bind, Sem.run_pure, Result.andThen_ok, run_isAgg' hd, hg, Bool.false_eq_true, if_false, run_load, e1]
        · cases hv

theorem results_run {h : Hp} {w : World} (hR : HR P φ h w) {m : Md} {env : T AV} {tmps : Array Value} (hE : EnvM φ m env tmps) {fn : Func} {rvs : List RV} {vs : List AV} (hc : mapO (compRV P) fn.results.toList = some rvs)
    (hv : mapO (result1 env h) rvs = some vs) : ∃ x, (results fn tmps).run P w = .ok x w ∧ Rel φ (tupleA vs) x := by
  have key : ∀ (rs : List ResultVar) (rvs : List RV) (vs : List AV), mapO (compRV P) rs = some rvs → mapO (result1 env h) rvs = some vs →
      ∃ xs, (rs.mapM (m := Sem) fun | .tmp t => pure (tmps.getD t Go.undef) | .cell a t => do loadVar t (← asAddr (tmps.getD a Go.undef))).run P w = .ok xs w ∧ RelL φ vs xs := by
    intro rs
    induction rs with
    | nil =>
      intro rvs vs h1 h2
      simp only [mapO, Option.some.injEq] at h1
      subst h1
      simp only [mapO, Option.some.injEq] at h2
      subst h2
      exact ⟨[], by simp, .nil⟩
    | cons r rs ih =>
      intro rvs vs h1 h2
      unfold mapO at h1
      split at h1
      · rename_i rv hrv
        split at h1
        · rename_i rvs' hrs
          cases h1
          unfold mapO at h2
          split at h2
          · rename_i v hv1
            split at h2
            · rename_i vs' hvs
              cases h2
              obtain ⟨x, e1, e2⟩ := result_run hR hE hrv hv1
              obtain ⟨xs, e3, e4⟩ := ih rvs' vs' hrs hvs
              refine ⟨x :: xs, ?_, .cons e2 e4⟩
              rw [List.mapM_cons, Sem.run_bind]
              refine (congrArg (fun q => Result.andThen q _) e1).trans ?_
              rw [Result.andThen_ok, Sem.run_bind]
              refine (congrArg (fun q => Result.andThen q _) e3).trans ?_
              rfl
            · cases h2
          · cases h2
        · cases h1
      · cases h1
  obtain ⟨xs, e1, e2⟩ := key fn.results.toList rvs vs hc hv
  unfold results
  rw [Sem.run_bind, Array.mapM_eq_mapM_toList, Sem.run_map]
  have e1' := congrArg (fun q => Result.andThen q fun a w' => Result.ok (List.toArray a) w') e1
  refine ⟨if h : xs.toArray.size = 1 then xs.toArray[0] else .tuple xs.toArray, ?_, ?_⟩
  · refine (congrArg (fun q => Result.andThen q _) e1').trans ?_
    rfl
  · cases e2 with
    | nil => exact .tup .nil
    | cons h t =>
      cases t with
      | nil => exact h
      | cons h2 t2 =>
        rw [dif_neg (by simp)]
        exact .tup (.cons h (.cons h2 t2))
end

end Go.Proofs.YtialpccieggaoaaGreatDoor.Am

namespace Go.Proofs.YtialpccieggaoaaGreatDoor.Am

theorem run_getLoop {P : Program} {w : World} {b : Nat} {L : Loop} (h : w.heap[b]? = some (.loop L)) : (Instr.getLoop b).run P w = .ok L w := by
  simp [Instr.getLoop, getObj, Sem.run, h, Bind.bind, Sem.bind, Pure.pure]

theorem run_setLoop {P : Program} {w : World} {b : Nat} {L : Loop} (h : w.heap[b]? = some (.loop L)) (o : Obj) : (setObj b o).run P w = .ok () (putO w b o) := by
  simp [setObj, Sem.run, h, putO]

section
variable {P : Program} {φ : Phi} {h : Hp} {w : World}

/-- A loop's state is changed. -/
theorem setLoop_run (hR : HR P φ h w) {l : Pos} {b : Nat} (hφ : φ l 0 = some (b, 0, 0)) (ok : LState → Bool) (st : LState) (pend : Option C → Option C) (k : Option C → Hp → Out) :
    (∃ why, setLoop h l ok st pend k = .fail why) ∨ ∃ p h' L st0, setLoop h l ok st pend k = k p h' ∧ w.heap[b]? = some (.loop L) ∧ ok st0 = true ∧ LSR st0 L.state ∧ PendR P (numT P L.fn) p L.pending ∧
      h'.next = h.next ∧ ∀ L' : Loop, L'.fn = L.fn → L'.tmps = L.tmps → L'.params = L.params → L'.assign = L.assign → L'.body = L.body → L'.defers = L.defers → LSR st L'.state → PendR P (numT P L.fn) (pend p) L'.pending →
        HR P φ h' (putO w b (.loop L')) ∧ Adv h w φ h' (putO w b (.loop L')) φ := by
  unfold setLoop
  split
  · rename_i ser st0 p fn env params assign body around hid
    cases hc : ok st0 with
    | false => exact .inl ⟨_, rfl⟩
    | true =>
      rw [cond_true, T.setK_eq]
      obtain ⟨b', L, e1, e2, e3, e4, e5, e6, e7, e8, e9, e10, e11, e12⟩ := hR.blk _ _ hid
      rw [hφ, Option.some.injEq, Prod.mk.injEq] at e1
      obtain ⟨rfl, _⟩ := e1
      subst e5
      refine .inr ⟨p, _, L, st0, rfl, e2, hc, e3, e4, rfl, fun L' q1 q2 q3 q4 q5 q6 q7 q8 => ?_⟩
      have u : Upd h w φ l h.next (putO w b (.loop L')) φ := Upd.same hR hid (by simp [putO]) (fun y hy kk => putO_ne (fun c => kk 0 0 0 (by rw [c]; exact hφ))) rfl rfl rfl
      refine ⟨hR.update u (.inr ⟨_, hid, trivial⟩) fun x hx => ?_, Adv.update hR u (.inr ⟨_, hid, trivial⟩)⟩
      cases hx
      exact ⟨b, L', hφ, putO_same e2, q7, by rw [q1] at *; exact q8, q1, by rw [q2]; exact e6, by rw [q2]; exact e7, by rw [q3]; exact e8, e9 |> fun z => by rw [q3]; exact z, by rw [q4]; exact e10, by rw [q5]; exact e11, by rw [q6]; exact e12⟩
  · exact .inl ⟨_, rfl⟩

theorem setParams_run {env env' : T AV} {tmps : Array Value} (hE : EnvR φ env tmps) : ∀ (ts : List Tmp) (l : List AV) (xs : List Value) (env : T AV) (tmps : Array Value), EnvR φ env tmps → RelL φ l xs → (∀ t ∈ ts, t < tmps.size) →
    setParams env (ts.map Pos.ofNat) l = some env' → ts.length = xs.length ∧ EnvR φ env' ((ts.zip xs).foldl (fun tmps p => tmps.setIfInBounds p.1 p.2) tmps) ∧ ((ts.zip xs).foldl (fun tmps p => tmps.setIfInBounds p.1 p.2) tmps).size = tmps.size := by
  clear hE
  intro ts
  induction ts with
  | nil =>
    intro l xs env tmps hE hx _ h
    cases l with
    | nil =>
      simp only [List.map_nil, setParams, Option.some.injEq] at h
      cases hx; subst h
      exact ⟨rfl, hE, rfl⟩
    | cons v l => simp [setParams] at h
  | cons t ts ih =>
    intro l xs env tmps hE hx hlt h
    cases hx with
    | nil => simp [setParams] at h
    | @cons v x l xs hv hx =>
      simp only [List.map_cons, setParams, T.setK_eq] at h
      have := hE.set hv (hlt t (by simp))
      obtain ⟨r1, r2, r3⟩ := ih l xs _ _ this hx (fun u hu => by have := hlt u (by simp [hu]); simpa using this) h
      exact ⟨by simp [r1], r2, by simpa using r3⟩

/-- A round begins. -/
theorem round_run (hR : HR P φ h w) {l : Pos} {b : Nat} (hφ : φ l 0 = some (b, 0, 0)) {args : List AV} {xs : Array Value} (hx : RelL φ args xs.toList) {fr : Fr} (hb : beginRound h l args = some fr) :
    ∃ f tmps assign body, (Instr.yield b xs).run P w = .ok (.round b f tmps assign body) w ∧ FrR P φ fr (Frame.round b f tmps assign body .normal) ∧ fr.round = some l := by
  unfold beginRound at hb
  split at hb
  · rename_i ser st p fn env params assign body around hid
    split at hb
    · rename_i env' he
      cases hb
      obtain ⟨b', L, e1, e2, e3, e4, e5, e6, e7, e8, e9, e10, e11, e12⟩ := hR.blk _ _ hid
      rw [hφ, Option.some.injEq, Prod.mk.injEq] at e1
      obtain ⟨rfl, _⟩ := e1
      rw [← e8] at he
      obtain ⟨r1, r2, r3⟩ := setParams_run e6 L.params.toList args xs.toList env L.tmps e6 hx (fun t ht => Nat.lt_of_lt_of_le (e9 t ht) e7) he
      have hsz : ¬ (xs.size ≠ L.params.size) := by
        rw [Array.length_toList, Array.length_toList] at r1; simp [r1]
      have hfold : (L.params.zip xs).foldl (fun tmps (x : Tmp × Value) => tmps.setIfInBounds x.1 x.2) L.tmps = (L.params.toList.zip xs.toList).foldl (fun tmps p => tmps.setIfInBounds p.1 p.2) L.tmps := by
        rw [← Array.foldl_toList, Array.toList_zip]
      refine ⟨L.fn, (L.params.zip xs).foldl (fun tmps (x : Tmp × Value) => tmps.setIfInBounds x.1 x.2) L.tmps, L.assign, L.body, ?_, ⟨e5, ?_, ?_, ?_, .nil, trivial, rfl, hφ⟩, rfl⟩
      · unfold Instr.yield
        rw [Sem.run_bind, run_getLoop e2, Result.andThen_ok]
        rw [if_neg hsz]
        rfl
      · show EnvR φ env' ((L.params.zip xs).foldl (fun tmps (x : Tmp × Value) => tmps.setIfInBounds x.1 x.2) L.tmps)
        rw [hfold]; exact r2
      · show numT P fn ≤ ((L.params.zip xs).foldl (fun tmps (x : Tmp × Value) => tmps.setIfInBounds x.1 x.2) L.tmps).size
        rw [hfold, r3]; exact e7
      · exact .cons e10 (.cons trivial (.cons e11 .nil))
    · cases hb
  · cases hb
end

section
variable {P : Program} {φ : Phi} {h : Hp} {w : World} {fr : Fr} {g : Frame}

/-- What is handed back at a frame's end, where the model's machine takes one step. -/
theorem backTo_run {v : AV} {x : Value} {callers : List Fr} {cs c0 : List Frame} {φ0 : Phi} {h0 : Hp} {w0 : World} (hR : HR P φ h w) (hC : FrsR P φ callers cs) (hv : Rel φ v x) (hA : Adv h0 w0 φ0 h w φ)
    (hs : ∀ c cs1, cs ++ c0 = c :: cs1 → Steps P (lone g (cs ++ c0) w0) (lone (c.finish x) cs1 w))
    (hl : fr.round = none → callers = [] → ∃ g', Steps P (lone g (cs ++ c0) w0) (lone g' c0 w) ∧ g'.fn = fr.fn ∧ g'.leaving P w (.returned x)) :
    OutR P c0 φ0 ⟨fr, callers, h0⟩ g cs w0 (backTo v callers h) := by
  cases hC with
  | nil =>
    refine ⟨w, φ, x, hR, hA, hv, fun c cs1 e => hs c cs1 (by simpa using e), fun hr => ?_⟩
    have := hl hr rfl
    simpa [bot] using this
  | @cons c y l r hc ht =>
    unfold backTo
    simp only
    have hstep := hs y (r ++ c0) rfl
    rcases give_run (fun c => Out.next ⟨c, l, h⟩) hc hv with ⟨why, e⟩ | ⟨fr', e, e1, e2, e3⟩
    · rw [e]; trivial
    · rw [e]
      refine ⟨y.finish x, r, w, φ, hstep, hR, e1, ht, hA, ?_, ?_⟩
      · rw [bot_cons c l fr h0 h]
        cases l with
        | nil => exact e2
        | cons d ds => simp [bot, List.getLast?_cons]
      · rw [bot_cons c l fr h0 h]
        cases l with
        | nil => exact e3
        | cons d ds => simp [bot, List.getLast?_cons]

/-- Behind a function's body. -/
theorem unwind_run {callers : List Fr} {cs c0 : List Frame} (hR : HR P φ h w) (hF : FrR P φ fr g) (hC : FrsR P φ callers cs) (hm : fr.mode = .ret) : OutR P c0 φ ⟨fr, callers, h⟩ g cs w (unwindA P ⟨fr, callers, h⟩) := by
  have hgm : g.mode = .returning := by
    have := hF.mode
    rw [hm] at this
    cases hq : g.mode <;> rw [hq] at this <;> first | rfl | (cases this)
  have hd := hF.defers
  unfold unwindA
  simp only
  split
  · rename_i id ds hds
    rw [hds] at hd
    generalize hgd : g.defers = gd at hd
    cases hd with
    | @mark _ b _ r hφ ht =>
      split
      · rename_i ser hid
        rw [T.setK_eq]
        obtain ⟨b', e1, e2⟩ := hR.blk _ _ hid
        rw [hφ, Option.some.injEq, Prod.mk.injEq] at e1
        obtain ⟨rfl, _⟩ := e1
        have u : Upd h w φ id h.next (putO w b (.deferred none)) φ := Upd.same hR hid (by simp [putO]) (fun y hy kk => putO_ne (fun c => kk 0 0 0 (by rw [c]; exact hφ))) rfl rfl rfl
        have hrun : (Instr.takeDeferred b).run P w = .ok [] (putO w b (.deferred none)) := by
          simp [Instr.takeDeferred, getObj, setObj, Sem.run, e2, Bind.bind, Sem.bind, Pure.pure, putO]
        have hst := step_collected (P := P) (fr := g) (cs := cs ++ c0) (w := w) (w' := putO w b (.deferred none)) (d := { target := .collected b, args := #[] }) (r := b) (ds := r) (calls := [])
          (by rw [hgm]; simp) hgd rfl hrun
        refine ⟨_, cs, _, φ, .one hst, hR.update u (.inr ⟨_, hid, trivial⟩) fun x hx => (by cases hx), ⟨hF.fn, hF.env, hF.size, hF.todo, ?_, hF.mode, hF.kind, hF.round⟩, hC,
          Adv.update hR u (.inr ⟨_, hid, trivial⟩), ?_, ?_⟩
        · exact ht
        · cases callers with
          | nil => rfl
          | cons c l => simp [bot, List.getLast?_cons]
        · cases callers with
          | nil => rfl
          | cons c l => simp [bot, List.getLast?_cons]
      · trivial
  · rename_i f args ds hds
    rw [hds] at hd
    generalize hgd : g.defers = gd at hd
    cases hd with
    | @call _ _ d _ r hdef ht =>
      obtain ⟨Y, d1, d2⟩ := hdef
      obtain ⟨tg, ag⟩ := d
      simp only at d1 d2
      subst d1
      split
      · rename_i f' args' h' hent
        have he := enter_run (P := P) (φ := φ) (h := h) (w := w) (f := f) d2
        rw [hent] at he
        obtain ⟨_, xs, fn, c, e1, e2, e3, e4⟩ := he
        split
        · rename_i fr' hb
          obtain ⟨q1, q2, q3, _⟩ := begin_run hb e4
          have hinv : (invoke (.fn (.func f) Y) ag).run P w = .ok (.enter f' xs) w := e1
          have hst : ∀ cs0, Go.step P (lone g cs0 w) = .next (lone (Frame.enter P f' xs .deferred) ({ g with defers := r } :: cs0) w) := by
            intro cs0
            refine step_lone_go ?_
            simp [stepG, unwind, hgm, hgd, callDeferred, Sem.runT_eq, hinv, GStep.bare_after]
          have hF' : FrR P φ { fr' with dk := true } (Frame.enter P f' xs .deferred) :=
            ⟨q1.fn, q1.env, q1.size, q1.todo, q1.defers, q1.mode, by rw [if_pos ⟨rfl, q3⟩]; rfl, q1.round⟩
          have hF2 : FrR P φ { fr with defers := ds } { g with defers := r } := ⟨hF.fn, hF.env, hF.size, hF.todo, ht, hF.mode, hF.kind, hF.round⟩
          refine ⟨_, { g with defers := r } :: cs, w, φ, .one (hst _), hR, hF', .cons hF2 hC, Adv.refl h w φ, ?_, ?_⟩
          · rw [bot_cons { fr with defers := ds } callers { fr' with dk := true } h h]
            cases callers with
            | nil => rfl
            | cons c l => simp [bot, List.getLast?_cons]
          · rw [bot_cons { fr with defers := ds } callers { fr' with dk := true } h h]
            cases callers with
            | nil => rfl
            | cons c l => simp [bot, List.getLast?_cons]
        · trivial
      · trivial
  · rename_i hds
    rw [hds] at hd
    have hgd : g.defers = [] := by cases hq : g.defers <;> rw [hq] at hd <;> first | rfl | (cases hd)
    split
    · rename_i fu hfu
      split
      · rename_i vs hvs
        obtain ⟨fn, b, h1, h2, h3, h4, h5, h6⟩ := compFn_spec hfu
        obtain ⟨x, e1, e2⟩ := results_run hR hF.env h3 hvs
        have hkind := hF.kind
        split
        · rename_i hro
          cases hdk : fr.dk with
          | false =>
            rw [hdk] at hkind
            have hlv : g.leaving P w (.returned x) := ⟨hgm, hgd, by simpa using hkind, fn, by rw [hF.fn]; exact h1, e1⟩
            rw [cond_false]
            refine backTo_run hR hC e2 (Adv.refl h w φ) (fun c cs1 e => ?_) (fun _ hcl => ⟨g, ?_, hF.fn, hlv⟩)
            · rw [e]; exact .one (step_leave_returned hlv)
            · subst hcl; cases hC; exact Steps.refl _ _
          | true =>
            rw [hdk, hro] at hkind
            have hkind : g.kind = .deferred := by simpa using hkind
            rw [cond_true]
            cases hC with
            | nil => trivial
            | @cons c y l r hc ht =>
              simp only
              cases hmode : c.mode with
              | run => trivial
              | pan v rr =>
                have hmo := hc.mode
                rw [hmode] at hmo
                obtain ⟨x0, hym, hx0⟩ := hmo.pan
                have hfn : P.funcs[g.fn]? = some fn := by rw [hF.fn]; exact h1
                simp only
                cases rr with
                | true =>
                  have hst : ∀ cs0, Go.step P (lone g (y :: cs0) w) = .next (lone { y with mode := .returning } cs0 w) := by
                    intro cs0
                    refine step_lone_go ?_
                    simp [stepG, unwind, hgm, hgd, doReturn, Sem.runT_eq, hfn, e1, hkind, hym, GStep.bare_after]
                  rw [cond_true]
                  have hb := bot_same (fr := c) (fr' := { c with mode := .ret }) rfl rfl l h h
                  refine ⟨{ y with mode := .returning }, r, w, φ, .one (hst _), hR, ⟨hc.fn, hc.env.ret, hc.size, hc.todo, hc.defers, trivial, hc.kind, hc.round⟩, ht, Adv.refl h w φ, ?_, ?_⟩
                  · rw [bot_cons c l fr h h]; exact hb.1
                  · rw [bot_cons c l fr h h]; exact hb.2
                | false =>
                  have hst : ∀ cs0, Go.step P (lone g (y :: cs0) w) = .next (lone y cs0 w) := by
                    intro cs0
                    refine step_lone_go ?_
                    simp [stepG, unwind, hgm, hgd, doReturn, Sem.runT_eq, hfn, e1, hkind, hym, GStep.bare_after]
                  rw [cond_false]
                  refine ⟨y, r, w, φ, .one (hst _), hR, hc, ht, Adv.refl h w φ, ?_, ?_⟩
                  · rw [bot_cons c l fr h h]
                  · rw [bot_cons c l fr h h]
              | ret =>
                have hym : y.mode = .returning := by
                  have := hc.mode
                  rw [hmode] at this
                  cases hq : y.mode <;> rw [hq] at this <;> first | rfl | (cases this)
                have hfn : P.funcs[g.fn]? = some fn := by rw [hF.fn]; exact h1
                have hst : ∀ cs0, Go.step P (lone g (y :: cs0) w) = .next (lone y cs0 w) := by
                  intro cs0
                  refine step_lone_go ?_
                  simp [stepG, unwind, hgm, hgd, doReturn, Sem.runT_eq, hfn, e1, hkind, hym, GStep.bare_after]
                refine ⟨y, r, w, φ, .one (hst _), hR, hc, ht, Adv.refl h w φ, ?_, ?_⟩
                · rw [bot_cons c l fr h h]
                · rw [bot_cons c l fr h h]
        · trivial
      · trivial
    · trivial

/-- A frame that panics. -/
theorem pan_run {callers : List Fr} {cs c0 : List Frame} {v : AV} {rr : Bool} (hR : HR P φ h w) (hF : FrR P φ fr g) (hC : FrsR P φ callers cs) (hm : fr.mode = .pan v rr) : OutR P c0 φ ⟨fr, callers, h⟩ g cs w (panA P ⟨fr, callers, h⟩ v rr) := by
  have hmo := hF.mode
  rw [hm] at hmo
  obtain ⟨x0, hgm, hx0⟩ := hmo.pan
  have hd := hF.defers
  unfold panA
  simp only
  split
  · rename_i id ds hds
    rw [hds] at hd
    generalize hgd : g.defers = gd at hd
    cases hd with
    | @mark _ b _ r hφ ht =>
      split
      · rename_i ser hid
        rw [T.setK_eq]
        obtain ⟨b', e1, e2⟩ := hR.blk _ _ hid
        rw [hφ, Option.some.injEq, Prod.mk.injEq] at e1
        obtain ⟨rfl, _⟩ := e1
        have u : Upd h w φ id h.next (putO w b (.deferred none)) φ := Upd.same hR hid (by simp [putO]) (fun y hy kk => putO_ne (fun c => kk 0 0 0 (by rw [c]; exact hφ))) rfl rfl rfl
        have hrun : (Instr.takeDeferred b).run P w = .ok [] (putO w b (.deferred none)) := by
          simp [Instr.takeDeferred, getObj, setObj, Sem.run, e2, Bind.bind, Sem.bind, Pure.pure, putO]
        have hst := step_collected (P := P) (fr := g) (cs := cs ++ c0) (w := w) (w' := putO w b (.deferred none)) (d := { target := .collected b, args := #[] }) (r := b) (ds := r) (calls := [])
          (by rw [hgm]; simp) hgd rfl hrun
        refine ⟨_, cs, _, φ, .one hst, hR.update u (.inr ⟨_, hid, trivial⟩) fun x hx => (by cases hx), ⟨hF.fn, hF.env, hF.size, hF.todo, ?_, hF.mode, hF.kind, hF.round⟩, hC,
          Adv.update hR u (.inr ⟨_, hid, trivial⟩), ?_, ?_⟩
        · exact ht
        · cases callers with
          | nil => rfl
          | cons c l => simp [bot, List.getLast?_cons]
        · cases callers with
          | nil => rfl
          | cons c l => simp [bot, List.getLast?_cons]
      · trivial
  · rename_i f args ds hds
    rw [hds] at hd
    generalize hgd : g.defers = gd at hd
    cases hd with
    | @call _ _ d _ r hdef ht =>
      obtain ⟨Y, d1, d2⟩ := hdef
      obtain ⟨tg, ag⟩ := d
      simp only at d1 d2
      subst d1
      split
      · rename_i f' args' h' hent
        have he := enter_run (P := P) (φ := φ) (h := h) (w := w) (f := f) d2
        rw [hent] at he
        obtain ⟨_, xs, fn, c, e1, e2, e3, e4⟩ := he
        split
        · rename_i fr' hb
          obtain ⟨q1, q2, q3, _⟩ := begin_run hb e4
          have hinv : (invoke (.fn (.func f) Y) ag).run P w = .ok (.enter f' xs) w := e1
          have hst : ∀ cs0, Go.step P (lone g cs0 w) = .next (lone (Frame.enter P f' xs .deferred) ({ g with defers := r } :: cs0) w) := by
            intro cs0
            refine step_lone_go ?_
            simp [stepG, unwind, hgm, hgd, callDeferred, Sem.runT_eq, hinv, GStep.bare_after]
          have hF' : FrR P φ { fr' with dk := true } (Frame.enter P f' xs .deferred) :=
            ⟨q1.fn, q1.env, q1.size, q1.todo, q1.defers, q1.mode, by rw [if_pos ⟨rfl, q3⟩]; rfl, q1.round⟩
          have hF2 : FrR P φ { fr with defers := ds } { g with defers := r } := ⟨hF.fn, hF.env, hF.size, hF.todo, ht, hF.mode, hF.kind, hF.round⟩
          refine ⟨_, { g with defers := r } :: cs, w, φ, .one (hst _), hR, hF', .cons hF2 hC, Adv.refl h w φ, ?_, ?_⟩
          · rw [bot_cons { fr with defers := ds } callers { fr' with dk := true } h h]
            cases callers with
            | nil => rfl
            | cons c l => simp [bot, List.getLast?_cons]
          · rw [bot_cons { fr with defers := ds } callers { fr' with dk := true } h h]
            cases callers with
            | nil => rfl
            | cons c l => simp [bot, List.getLast?_cons]
        · trivial
      · trivial
  · rename_i hds
    rw [hds] at hd
    have hgd : g.defers = [] := by cases hq : g.defers <;> rw [hq] at hd <;> first | rfl | (cases hd)
    split
    · rename_i fu hfu
      obtain ⟨fn, b, h1, _⟩ := compFn_spec hfu
      have hfn : P.funcs[g.fn]? = some fn := by rw [hF.fn]; exact h1
      cases rr with
      | true => trivial
      | false =>
        have hcat : g.catches P = false := by simp [Frame.catches, hfn]
        have hst : ∀ y cs0, Go.step P (lone g (y :: cs0) w) = .next (lone (y.raise [{ v := x0, recovered := false, goexit := false }]) cs0 w) := by
          intro y cs0
          refine step_lone_go ?_
          simp [stepG, unwind, hgm, hgd, hcat]
        rw [cond_false]
        cases hC with
        | nil => exact ⟨w, φ, x0, hR, Adv.refl h w φ, hx0, fun c cs1 e => by rw [e]; exact .one (hst c cs1)⟩
        | @cons c y l r hc ht =>
          simp only
          cases hmode : c.mode with
          | ret => trivial
          | pan v rr => trivial
          | run =>
            have hym : y.mode = .run := by
              have := hc.mode
              rw [hmode] at this
              cases hq : y.mode <;> rw [hq] at this <;> first | rfl | (cases this)
            have hra : y.raise [{ v := x0, recovered := false, goexit := false }] = { y with mode := .panicking [{ v := x0, recovered := false, goexit := false }] } := by simp [Frame.raise, hym]
            have hb := bot_same (fr := c) (fr' := { c with mode := .pan v false }) rfl rfl l h h
            refine ⟨y.raise [{ v := x0, recovered := false, goexit := false }], r, w, φ, .one (hst y _), hR, ?_, ht, Adv.refl h w φ, ?_, ?_⟩
            · rw [hra]; exact ⟨hc.fn, hc.env.pan _ _, hc.size, hc.todo, hc.defers, ⟨hx0, rfl, rfl⟩, hc.kind, hc.round⟩
            · rw [bot_cons c l fr h h]; exact hb.1
            · rw [bot_cons c l fr h h]; exact hb.2
    · trivial

/-- A round is left. -/
theorem leave_run {callers : List Fr} {cs c0 : List Frame} {l : Pos} {b : Nat} {jump : Option C} {jump' : Option Code} (hR : HR P φ h w) (hC : FrsR P φ callers cs) (hφ : φ l 0 = some (b, 0, 0)) (hro : fr.round = some l)
    (hj : ∀ L : Loop, w.heap[b]? = some (.loop L) → PendR P (numT P L.fn) jump jump')
    (hs : ∀ (v : Value) (w' : World) (c : Frame) (cs1 : List Frame), (Instr.endRound b jump').run P w = .ok v w' → Go.step P (lone g (c :: cs1) w) = .next (lone (c.finish v) cs1 w')) :
    OutR P c0 φ ⟨fr, callers, h⟩ g cs w (leaveRound ⟨fr, callers, h⟩ l jump) := by
  unfold leaveRound
  rcases setLoop_run hR hφ (fun _ => true) (jumpState jump) (fun _ => jump) (fun _ h => backTo (.bool (jumpBool jump)) callers h) with
    ⟨why, e⟩ | ⟨p, h', L, st0, e, e1, e2, e3, e4, e5, e6⟩
  · rw [e]; trivial
  · rw [e]
    have hjl := hj L e1
    have hn : jump'.isNone = jumpBool jump := by
      cases jump <;> cases jump' <;> first | rfl | (cases hjl)
    obtain ⟨q1, q2⟩ := e6 { L with state := if jump'.isNone then .ready else .done, pending := jump' } rfl rfl rfl rfl rfl rfl (by
      cases jump <;> cases jump' <;> first | trivial | (cases hjl)) hjl
    have hrun : (Instr.endRound b jump').run P w = .ok (.bool jump'.isNone) (putO w b (.loop { L with state := if jump'.isNone then .ready else .done, pending := jump' })) := by
      unfold Instr.endRound
      rw [Sem.run_bind, run_getLoop e1, Result.andThen_ok, Sem.run_bind, run_setLoop e1, Result.andThen_ok]
      rfl
    refine backTo_run q1 (hC.mono q2.le) (x := .bool jump'.isNone) (by rw [hn]; exact .bool _) q2 (fun c cs1 ee => ?_) (fun hr => ?_)
    · rw [ee]; exact .one (hs _ _ c cs1 hrun)
    · rw [hro] at hr; cases hr
end

section
variable {P : Program} {φ : Phi} {h : Hp} {w : World} {fr : Fr} {g : Frame}

theorem bot_push (x : Fr) (c : Fr) (cs : List Fr) (h h' : Hp) : bot ⟨x, c :: cs, h⟩ = bot ⟨c, cs, h'⟩ := bot_cons c cs x h h'

/-- An operation's result is taken over. -/
theorem apply_run {callers : List Fr} {cs c0 : List Frame} {res : Res} {R : Result Next} (hR : HR P φ h w) (hF : FrR P φ fr g) (hC : FrsR P φ callers cs) (hres : ResR P φ h w res R)
    (hval : ∀ nx x w', NV nx x → R = .ok nx w' → ∀ cs0, Go.step P (lone g cs0 w) = .next (lone (g.finish x) cs0 w'))
    (hent : ∀ f xs, R = .ok (.enter f xs) w → ∀ cs0, Go.step P (lone g cs0 w) = .next (lone (Frame.enter P f xs .normal) (g :: cs0) w))
    (hrnd : ∀ b f tmps assign body, R = .ok (.round b f tmps assign body) w → ∀ cs0, Go.step P (lone g cs0 w) = .next (lone (Frame.round b f tmps assign body .normal) (g :: cs0) w))
    (hdef : fr.round = none → ∀ d, R = .ok (.defer d) w → ∀ cs0, Go.step P (lone g cs0 w) = .next (lone ({ g with defers := d :: g.defers }.finish Go.undef) cs0 w))
    (hrcv : fr.round = none → R = .ok .recover w → ∀ cs0, tryRecover g cs0 = none → Go.step P (lone g cs0 w) = .next (lone (g.finish .nilIface) cs0 w))
    (hrcw : fr.round = none → R = .ok .recover w → ∀ cs0 x cs1, tryRecover g cs0 = some (x, cs1) → Go.step P (lone g cs0 w) = .next (lone (g.finish x) cs1 w))
    (hpan : ∀ x, R = .halt (.panic x) w → ∀ cs0, Go.step P (lone g cs0 w) = .next (lone (g.raise [{ v := x, recovered := false }]) cs0 w)) (hgm : g.mode = .run) :
    OutR P c0 φ ⟨fr, callers, h⟩ g cs w (apply P ⟨fr, callers, h⟩ res) := by
  unfold apply
  cases res with
  | val v h' =>
    obtain ⟨nx, x, w', φ', rfl, hn, hR', hA, hv⟩ := hres
    simp only
    rcases give_run (fun fr => Out.next ⟨fr, callers, h'⟩) (hF.mono hA.le) hv with ⟨why, e⟩ | ⟨fr', e, e1, e2, e3⟩
    · rw [e]; trivial
    · rw [e]
      refine ⟨g.finish x, cs, w', φ', .one (hval nx x w' hn rfl _), hR', e1, hC.mono hA.le, hA, ?_, ?_⟩
      · cases callers with
        | nil => exact e2
        | cons c l => simp [bot, List.getLast?_cons]
      · cases callers with
        | nil => exact e3
        | cons c l => simp [bot, List.getLast?_cons]
  | enter f args h' =>
    obtain ⟨rfl, xs, fn, c, rfl, h1, h2, h3⟩ := hres
    simp only
    split
    · rename_i fr' hb
      obtain ⟨q1, q2, q3, _⟩ := begin_run hb h3
      refine ⟨_, g :: cs, w, φ, .one (hent f xs rfl _), hR, q1, .cons hF hC, Adv.refl h' w φ, ?_, ?_⟩
      · rw [bot_push fr' fr callers h' h']
      · rw [bot_push fr' fr callers h' h']
    · trivial
  | round l args =>
    obtain ⟨b, xs, hφ, hx, rfl⟩ := hres
    simp only
    split
    · rename_i fr' hb
      obtain ⟨f, tmps, assign, body, e1, e2, e3⟩ := round_run hR hφ hx hb
      refine ⟨_, g :: cs, w, φ, .one (hrnd b f tmps assign body e1 _), hR, e2, .cons hF hC, Adv.refl h w φ, ?_, ?_⟩
      · rw [bot_push fr' fr callers h h]
      · rw [bot_push fr' fr callers h h]
    · trivial
  | defer f args =>
    obtain ⟨d, rfl, hd⟩ := hres
    simp only
    split
    · rename_i hro
      have hF' : FrR P φ { fr with defers := .call f args :: fr.defers } { g with defers := d :: g.defers } := ⟨hF.fn, hF.env, hF.size, hF.todo, .call hd hF.defers, hF.mode, hF.kind, hF.round⟩
      rcases give_run (fun fr => Out.next ⟨fr, callers, h⟩) hF' (v := .undef) (x := Go.undef) Rel.undef with ⟨why, e⟩ | ⟨fr', e, e1, e2, e3⟩
      · rw [e]; trivial
      · rw [e]
        refine ⟨_, cs, w, φ, .one (hdef hro d rfl _), hR, e1, hC, Adv.refl h w φ, ?_, ?_⟩
        · cases callers with
          | nil => exact e2
          | cons c l => simp [bot, List.getLast?_cons]
        · cases callers with
          | nil => exact e3
          | cons c l => simp [bot, List.getLast?_cons]
    · trivial
  | fork l => trivial
  | recover =>
    have hres : R = .ok .recover w := hres
    subst hres
    simp only
    split
    · rename_i hro
      have fin : tryRecover g (cs ++ c0) = none → OutR P c0 φ ⟨fr, callers, h⟩ g cs w (give fr .nilIfc fun fr => .next ⟨fr, callers, h⟩) := by
        intro htr
        rcases give_run (fun fr => Out.next ⟨fr, callers, h⟩) hF (v := .nilIfc) (x := .nilIface) .nilIfc with ⟨why, e⟩ | ⟨fr', e, e1, e2, e3⟩
        · rw [e]; trivial
        · rw [e]
          exact OutR.plain hR e1 hC (.one (hrcv hro rfl _ htr)) e2 e3
      have hkind := hF.kind
      cases hdk : fr.dk with
      | false =>
        rw [hdk] at hkind
        have hkind : g.kind = .normal := by simpa using hkind
        rw [cond_false]
        refine fin ?_
        unfold tryRecover
        rw [hkind]
      | true =>
        rw [hdk, hro] at hkind
        have hkind : g.kind = .deferred := by simpa using hkind
        rw [cond_true]
        cases hC with
        | nil => trivial
        | @cons c y l r hc ht =>
          simp only
          cases hmode : c.mode with
          | run => trivial
          | pan v rr =>
            have hmo := hc.mode
            rw [hmode] at hmo
            obtain ⟨x0, hym, hx0⟩ := hmo.pan
            simp only
            cases rr with
            | true =>
              rw [cond_true]
              refine fin ?_
              unfold tryRecover
              rw [hkind]
              simp only [List.cons_append, hym]
            | false =>
              rw [cond_false]
              have htr : tryRecover g (y :: r ++ c0) = some (x0, { y with mode := .panicking [{ v := x0, recovered := true }] } :: (r ++ c0)) := by
                unfold tryRecover
                rw [hkind]
                simp only [List.cons_append, hym]
              have hst := hrcw hro rfl _ _ _ htr
              rcases give_run (fun fr => Out.next ⟨fr, { c with mode := .pan v true } :: l, h⟩) hF hx0 with ⟨why, e⟩ | ⟨fr', e, e1, e2, e3⟩
              · rw [e]; trivial
              · rw [e]
                have hb := bot_same (fr := c) (fr' := { c with mode := .pan v true }) rfl rfl l h h
                refine ⟨g.finish x0, { y with mode := .panicking [{ v := x0, recovered := true }] } :: r, w, φ, .one hst, hR, e1, .cons ⟨hc.fn, hc.env.pan _ _, hc.size, hc.todo, hc.defers, ⟨hx0, rfl, rfl⟩, hc.kind, hc.round⟩ ht, Adv.refl h w φ, ?_, ?_⟩
                · rw [bot_cons _ l fr' h h, bot_cons c l fr h h]; exact hb.1
                · rw [bot_cons _ l fr' h h, bot_cons c l fr h h]; exact hb.2
          | ret =>
            have hym : y.mode = .returning := by
              have := hc.mode
              rw [hmode] at this
              cases hq : y.mode <;> rw [hq] at this <;> first | rfl | (cases this)
            refine fin ?_
            unfold tryRecover
            rw [hkind]
            simp only [List.cons_append, hym]
    · trivial
  | panic v =>
    obtain ⟨x, hr, hv⟩ := hres
    simp only
    have hra : g.raise [{ v := x, recovered := false }] = { g with mode := .panicking [{ v := x, recovered := false }] } := by simp [Frame.raise, hgm]
    refine OutR.plain hR (fr' := { fr with mode := .pan v false }) (g' := g.raise [{ v := x, recovered := false }]) ?_ hC (.one (hpan x hr _)) rfl rfl
    rw [hra]
    exact ⟨hF.fn, hF.env.pan _ _, hF.size, hF.todo, hF.defers, ⟨hv, rfl, rfl⟩, hF.kind, hF.round⟩
  | fail why => trivial

theorem recJ_sound {rec : St → Out} (hrec : Sound P rec) : Sound P (recJ P rec) := by
  intro s φ w g cs c0 hR hz hF hC
  unfold recJ
  cases hj : joinAt s.cur.fn with
  | false => exact hrec s φ w g cs c0 hR hz hF hC
  | true =>
    rw [cond_true]
    obtain ⟨cur, callers, hp⟩ := s
    cases callers with
    | cons c l => trivial
    | nil =>
      simp only
      have ho := hrec ⟨cur, [], holdH hp⟩ φ w g cs c0 (hold_hr hR) hz hF hC
      have fin : ∀ l v h1, (v, h1) ∈ l → DoneR P c0 φ ⟨cur, [], holdH hp⟩ g cs w v h1 → OutR P c0 φ ⟨cur, [], hp⟩ g cs w (joinK hp l) := by
        intro l v h1 hm ⟨w', φ', x, q1, q2, q3, q4, q5⟩
        unfold joinK
        split
        · rename_i y e
          obtain ⟨φ'', r1, r2, r3⟩ := joinP_sound hR q1 q2 hz q3 hm (v' := y.1) (h' := y.2) e
          exact ⟨w', φ'', x, r1, r2, r3, q4, q5⟩
        · trivial
      split
      · rename_i v h1 e; rw [e] at ho; exact fin _ v h1 (List.mem_singleton.2 rfl) ho
      · trivial
      · rename_i l e; rw [e] at ho; obtain ⟨v, h1, hm, q⟩ := ho; exact fin _ v h1 hm q
      · trivial
      · trivial

theorem addOut_left {s : St} {cs c0 : List Frame} {a b : Out} (q : OutR P c0 φ s g cs w a) : OutR P c0 φ s g cs w (addOut a b) := by
  unfold addOut
  split
  · split
    · exact ⟨_, _, List.mem_cons_self, q⟩
    · obtain ⟨v, h1, hm, q⟩ := q; exact ⟨v, h1, List.mem_append_left _ hm, q⟩
    · trivial
    · trivial
    · trivial
  · trivial
  · trivial

theorem addOut_right {s : St} {cs c0 : List Frame} {a b : Out} (q : OutR P c0 φ s g cs w b) : OutR P c0 φ s g cs w (addOut a b) := by
  unfold addOut
  split
  · obtain ⟨v, h1, hm, q⟩ := q
    split
    · exact ⟨v, h1, List.mem_cons_of_mem _ hm, q⟩
    · exact ⟨v, h1, List.mem_append_right _ hm, q⟩
    · trivial
    · trivial
    · trivial
  · trivial
  · trivial

theorem forkA_run {rec : St → Out} (hrec : Sound P rec) {callers : List Fr} {cs c0 : List Frame} (hR : HR P φ h w) (hz : h.lim = 0) (hF : FrR P φ fr g) (hC : FrsR P φ callers cs) {v : AV} {h' : Hp} {w' : World} {φ' : Phi} {x : Value}
    (hR' : HR P φ' h' w') (hA : Adv h w φ h' w' φ') (hv : Rel φ' v x) (hs : Steps P (lone g (cs ++ c0) w) (lone (g.finish x) (cs ++ c0) w')) :
    ∀ {l : List (AV × Hp)}, (v, h') ∈ l → OutR P c0 φ ⟨fr, callers, h⟩ g cs w (forkA rec ⟨fr, callers, h⟩ l)
  | [], hm => by cases hm
  | y :: l, hm => by
    unfold forkA
    rcases List.mem_cons.1 hm with e | hm
    · subst e
      simp only
      rcases give_run (fun fr => Out.next ⟨fr, callers, h'⟩) (hF.mono hA.le) hv with ⟨why, e⟩ | ⟨fr', e, e1, e2, e3⟩
      · rw [e]; trivial
      · rw [e]
        refine addOut_left ?_
        have ho := hrec ⟨fr', callers, h'⟩ φ' w' (g.finish x) cs c0 hR' (hA.lim.trans hz) e1 (hC.mono hA.le)
        refine OutR.then (s' := ⟨fr', callers, h'⟩) hR hz hs hA ?_ ?_ ho
        · cases callers with
          | nil => exact e2
          | cons c l => simp [bot, List.getLast?_cons]
        · cases callers with
          | nil => exact e3
          | cons c l => simp [bot, List.getLast?_cons]
    · split
      · exact addOut_right (forkA_run hrec hR hz hF hC hR' hA hv hs hm)
      · trivial

/-- The names of the first blocks alone. -/
noncomputable def Phi.below (φ : Phi) (n : Nat) : Phi := fun id g => if id.num < n then φ id g else none

theorem Phi.below_some {φ : Phi} {n : Nat} {id : Pos} {g : Nat} {r : Nat × Int × Nat} (e : φ.below n id g = some r) : id.num < n ∧ φ id g = some r := by
  unfold Phi.below at e
  split at e
  · exact ⟨by assumption, e⟩
  · cases e

theorem globOk_lt {g : Nat} (h : globOk g = true) : g < globTop := by
  unfold globOk at h
  unfold globTop
  generalize globIds = l at h
  induction l with
  | nil => cases h
  | cons a l ih =>
    rw [List.any_cons, Bool.or_eq_true] at h
    rw [List.foldr_cons]
    generalize hk : l.foldr (fun g n => bif Nat.ble n g then Nat.succ g else n) 0 = k at ih
    cases hb : Nat.ble k a with
    | true =>
      rw [cond_true]
      rcases h with h | h
      · have := Nat.eq_of_beq_eq_true h; show g < a + 1; omega
      · have := ih h; have := ble_iff.1 hb; show g < a + 1; omega
    | false =>
      rw [cond_false]
      rcases h with h | h
      · have := Nat.eq_of_beq_eq_true h
        have : ¬ k ≤ a := fun q => by rw [ble_iff.2 q] at hb; cases hb
        omega
      · exact ih h

theorem none_nonro {n : Pos} {s l : Nat} (id : Pos) : ¬ Nonro ⟨.e, n, s, l⟩ id := by
  rintro ⟨b, e, _⟩
  rw [show T.get id (.e : T Blk) = none from T.get_e id] at e
  cases e

theorem none_hr (hR : HR P φ h w) : HR P (φ.below (Pos.ofNat (globTop)).num) ⟨.e, Pos.ofNat (globTop), 0, 0⟩ w where
  blk := fun id b e => by rw [show T.get id (.e : T Blk) = none from T.get_e id] at e; cases e
  used := fun id g r e => .inl (Phi.below_some e).1
  dom := fun id b e => by rw [show T.get id (.e : T Blk) = none from T.get_e id] at e; cases e
  sep := fun id g b s n id' g' s' n' e e' => .inr ⟨none_nonro id, none_nonro id'⟩
  inb := fun id g b s n e => hR.inb _ _ _ _ _ (Phi.below_some e).2
  glob := fun g hg => by
    obtain ⟨n, e⟩ := hR.glob g hg
    refine ⟨n, ?_⟩
    unfold Phi.below
    rw [if_pos (by rw [Pos.num_ofNat, Pos.num_ofNat]; have := globOk_lt hg; omega)]
    exact e

theorem none_same {φ0 : Phi} {n : Pos} {s l : Nat} {h' : Hp} {w' : World} {φ' : Phi} (A : Adv ⟨.e, n, s, l⟩ w φ0 h' w' φ') {b : Nat} (hb : b < w.heap.size) : w'.heap[b]? = w.heap[b]? := A.keep b hb fun id _ _ _ _ => none_nonro id

theorem none_kept (hR : HR P φ h w) {φ0 : Phi} {n : Pos} {s l : Nat} {h' : Hp} {w' : World} {φ' : Phi} (A : Adv ⟨.e, n, s, l⟩ w φ0 h' w' φ') : HR P φ h w' where
  blk := fun id b e => BR.mono (Le.refl φ) (fun _ _ k => k) (fun _ _ _ _ k => none_same A (hR.inb _ _ _ _ _ k)) (hR.blk id b e)
  used := hR.used
  dom := hR.dom
  sep := hR.sep
  inb := fun id g b s n e => Nat.lt_of_lt_of_le (hR.inb _ _ _ _ _ e) A.size
  glob := hR.glob

theorem none_adv (hR : HR P φ h w) {φ0 : Phi} {n : Pos} {s l : Nat} {h' : Hp} {w' : World} {φ' : Phi} (A : Adv ⟨.e, n, s, l⟩ w φ0 h' w' φ') : Adv h w φ h w' φ :=
  ⟨Le.refl φ, A.os, A.output, A.tape, A.size, Nat.le_refl _, fun _ g _ s n e _ => ⟨g, s, n, e⟩, fun _ _ k => k, fun _ hb _ => none_same A hb, rfl, fun _ _ e => e, fun _ _ _ _ _ e => e⟩

theorem plain_rel {φ ψ : Phi} : ∀ (n : Nat) (v : AV) (x : Value), plainV n v = true → Rel φ v x → Rel ψ v x
  | 0, _, _, e, _ => by cases e
  | n + 1, v, x, e, r => by
    have lst : ∀ (l : List AV) (xs : List Value), l.all (plainV n) = true → RelL φ l xs → RelL ψ l xs := by
      intro l
      induction l with
      | nil => intro xs _ r; cases r; exact .nil
      | cons a l ih =>
        intro xs e r
        rw [List.all_cons, Bool.and_eq_true] at e
        cases r with
        | cons h t => exact .cons (plain_rel n _ _ e.1 h) (ih _ e.2 t)
    unfold plainV at e
    cases r with
    | bool b => exact .bool b
    | int k i => exact .int k i
    | str h hv => exact .str h hv
    | nilPtr => exact .nilPtr
    | nilSl => exact .nilSl
    | nilMap => exact .nilMap
    | nilFn => exact .nilFn
    | nilIfc => exact .nilIfc
    | unk h => exact .unk h
    | rng h => exact .rng h
    | agg h => exact .agg (lst _ _ e h)
    | tup h => exact .tup (lst _ _ e h)
    | _ => cases e

theorem plain_relL {φ ψ : Phi} : ∀ (l : List AV) (xs : List Value), l.all (plainV 8) = true → RelL φ l xs → RelL ψ l xs
  | [], _, _, h => by cases h; exact .nil
  | v :: l, _, hp, h => by
    rw [List.all_cons, Bool.and_eq_true] at hp
    cases h with
    | cons h1 h2 => exact .cons (plain_rel 8 v _ hp.1 h1) (plain_relL l _ hp.2 h2)

theorem lsK_eq {R : Type} (f : AV → (AV → R) → R) (hf : ∀ v k, f v k = k v) : ∀ (l : List AV) (k : List AV → R), lsK f l k = k l
  | [], k => rfl
  | x :: l, k => by
    unfold lsK
    rw [hf, lsK_eq f hf l]

theorem vK_eq {R : Type} : ∀ (n : Nat) (v : AV) (k : AV → R), vK n v k = k v
  | 0, v, k => rfl
  | n + 1, v, k => by
    unfold vK
    cases v with
    | bool b => cases b <;> rfl
    | int d m => cases d <;> simp only [kdK, intK_eq]
    | str a b => simp only [natK_eq]
    | agg l => simp only [lsK_eq (vK n) (vK_eq n)]
    | tup l => simp only [lsK_eq (vK n) (vK_eq n)]
    | _ => rfl

theorem tryMemo_or (P : Program) (rec : St → Out) (f : FuncId) (args : List AV) (ks : AV → Out) (kn : Out) :
    tryMemo P rec f args ks kn = kn ∨ ∃ v, plainL args = true ∧ memoV P rec f args = some v ∧ tryMemo P rec f args ks kn = ks v := by
  unfold tryMemo
  cases h1 : (memoAt f && plainL args) with
  | false => exact .inl rfl
  | true =>
    rw [Bool.and_eq_true] at h1
    rw [cond_true, lsK_eq (vK 8) (vK_eq 8)]
    cases h2 : memoV P rec f args with
    | none => exact .inl rfl
    | some v => exact .inr ⟨v, h1.2, rfl, rfl⟩

/-- What was worked out over no memory is what the call answers. -/
theorem memo_steps {rec : St → Out} (hrec : Sound P rec) (hR : HR P φ h w) {f : FuncId} {args : List AV} {xs : Array Value} {v : AV} (hx : RelL φ args xs.toList) (hp : plainL args = true) (hm : memoV P rec f args = some v) (c : Frame) (cs1 : List Frame) :
    ∃ w' x, HR P φ h w' ∧ Adv h w φ h w' φ ∧ Rel φ v x ∧ Steps P (lone (Frame.enter P f xs .normal) (c :: cs1) w) (lone (c.finish x) cs1 w') := by
  unfold memoV at hm
  split at hm
  · rename_i fr' hb
    split at hm
    · rename_i v' h'' e
      cases hp' : plainV 8 v' with
      | false => rw [hp'] at hm; cases hm
      | true =>
        rw [hp'] at hm
        cases hm
        have h3' : RelL (φ.below (Pos.ofNat (globTop)).num) args xs.toList := plain_relL args _ hp hx
        obtain ⟨q1, q2, q3, _⟩ := begin_run hb h3'
        have ho := hrec ⟨fr', [], ⟨.e, Pos.ofNat (globTop), 0, 0⟩⟩ (φ.below (Pos.ofNat (globTop)).num) w _ [] (c :: cs1) (none_hr hR) rfl q1 .nil
        rw [e] at ho
        obtain ⟨w', φ', x, r1, r2, r3, r4, _⟩ := ho
        exact ⟨w', x, none_kept hR r2, none_adv hR r2, plain_rel 8 v x hp' r3, r4 c cs1 rfl⟩
    · cases hm
  · cases hm

/-- The same, where some functions' calls are runs by themselves. -/
theorem applyJ_run {rec : St → Out} (hrec : Sound P rec) {callers : List Fr} {cs c0 : List Frame} {res : Res} {R : Result Next} (hR : HR P φ h w) (hz : h.lim = 0) (hF : FrR P φ fr g) (hC : FrsR P φ callers cs) (hres : ResR P φ h w res R)
    (hval : ∀ nx x w', NV nx x → R = .ok nx w' → ∀ cs0, Go.step P (lone g cs0 w) = .next (lone (g.finish x) cs0 w'))
    (hent : ∀ f xs, R = .ok (.enter f xs) w → ∀ cs0, Go.step P (lone g cs0 w) = .next (lone (Frame.enter P f xs .normal) (g :: cs0) w))
    (hrnd : ∀ b f tmps assign body, R = .ok (.round b f tmps assign body) w → ∀ cs0, Go.step P (lone g cs0 w) = .next (lone (Frame.round b f tmps assign body .normal) (g :: cs0) w))
    (hdef : fr.round = none → ∀ d, R = .ok (.defer d) w → ∀ cs0, Go.step P (lone g cs0 w) = .next (lone ({ g with defers := d :: g.defers }.finish Go.undef) cs0 w))
    (hrcv : fr.round = none → R = .ok .recover w → ∀ cs0, tryRecover g cs0 = none → Go.step P (lone g cs0 w) = .next (lone (g.finish .nilIface) cs0 w))
    (hrcw : fr.round = none → R = .ok .recover w → ∀ cs0 x cs1, tryRecover g cs0 = some (x, cs1) → Go.step P (lone g cs0 w) = .next (lone (g.finish x) cs1 w))
    (hpan : ∀ x, R = .halt (.panic x) w → ∀ cs0, Go.step P (lone g cs0 w) = .next (lone (g.raise [{ v := x, recovered := false }]) cs0 w)) (hgm : g.mode = .run) :
    OutR P c0 φ ⟨fr, callers, h⟩ g cs w (applyJ P rec ⟨fr, callers, h⟩ res) := by
  have plain := apply_run (c0 := c0) hR hF hC hres hval hent hrnd hdef hrcv hrcw hpan hgm
  cases res with
  | fork l =>
    obtain ⟨v, h', hm, nx, x, w', φ', rfl, hn, hR', hA, hv⟩ := hres
    exact forkA_run hrec hR hz hF hC hR' hA hv (.one (hval nx x w' hn rfl _)) hm
  | enter f args h' =>
    unfold applyJ
    simp only
    cases hs : specAt f with
    | false => exact plain
    | true =>
    rw [cond_true]
    obtain ⟨rfl, xs, fn, c, rfl, h1, h2, h3⟩ := hres
    have fin : ∀ {φ' : Phi} {w' : World} {h1' : Hp} {v : AV} {x : Value}, HR P φ' h1' w' → Adv h' w φ h1' w' φ' → Rel φ' v x → Steps P (lone (Frame.enter P f xs .normal) (g :: (cs ++ c0)) w) (lone (g.finish x) (cs ++ c0) w') →
        OutR P c0 φ ⟨fr, callers, h'⟩ g cs w (give fr v fun fr => .next ⟨fr, callers, h1'⟩) := by
      intro φ' w' h1' v x r1 r2 r3 r4
      have st := (Steps.one (hent f xs rfl (cs ++ c0))).trans r4
      rcases give_run (fun fr => Out.next ⟨fr, callers, h1'⟩) (hF.mono r2.le) r3 with ⟨why, e⟩ | ⟨fr'', e, e1, e2, e3⟩
      · rw [e]; trivial
      · rw [e]
        refine ⟨g.finish x, cs, w', φ', st, r1, e1, hC.mono r2.le, r2, ?_, ?_⟩
        · cases callers with
          | nil => exact e2
          | cons c l => simp [bot, List.getLast?_cons]
        · cases callers with
          | nil => exact e3
          | cons c l => simp [bot, List.getLast?_cons]
    cases hj : joinAt f with
    | true =>
      rw [cond_true]
      unfold callJ
      split
      · rename_i fr' hb
        obtain ⟨q1, q2, q3, _⟩ := begin_run hb h3
        have ho := recJ_sound hrec ⟨fr', [], h'⟩ φ w _ [] (g :: (cs ++ c0)) hR hz q1 .nil
        split
        · rename_i v h1' e
          rw [e] at ho
          obtain ⟨w', φ', x, r1, r2, r3, r4, _⟩ := ho
          exact fin r1 r2 r3 (r4 g (cs ++ c0) rfl)
        · trivial
        · trivial
        · trivial
        · trivial
      · trivial
    | false =>
      rw [cond_false]
      unfold callM
      rcases tryMemo_or P rec f args (fun v => give fr v fun fr => .next ⟨fr, callers, h'⟩) (apply P ⟨fr, callers, h'⟩ (.enter f args h')) with q | ⟨v, m1, m2, q⟩
      · rw [show tryMemo P rec f args (fun v => give (⟨fr, callers, h'⟩ : St).cur v fun fr => .next ⟨fr, callers, h'⟩) (apply P ⟨fr, callers, h'⟩ (.enter f args h')) = _ from q]; exact plain
      · rw [show tryMemo P rec f args (fun v => give (⟨fr, callers, h'⟩ : St).cur v fun fr => .next ⟨fr, callers, h'⟩) (apply P ⟨fr, callers, h'⟩ (.enter f args h')) = _ from q]
        obtain ⟨w', x, r1, r2, r3, r4⟩ := memo_steps hrec hR h3 m1 m2 g (cs ++ c0)
        exact fin r1 r2 r3 r4
  | _ => exact plain
end

end Go.Proofs.YtialpccieggaoaaGreatDoor.Am

namespace Go.Proofs.YtialpccieggaoaaGreatDoor.Am

theorem stepR_scope {P : Program} {b : Frame} {a : Act} {k : List Go.Item} {cs : List Frame} {w : World} {c : Code} :
    Go.step P (lone (b.atR a (.code (.scope c) :: k)) cs w) = .next (lone (b.atR a (.code c :: .inScope c :: k)) cs w) :=
  step_lone_go (by simp [stepG, stepG.exec, Frame.atR])

theorem stepR_inScope {P : Program} {b : Frame} {a : Act} {k : List Go.Item} {cs : List Frame} {w : World} {c : Code} :
    Go.step P (lone (b.atR a (.inScope c :: k)) cs w) = .next (lone (b.atR a k) cs w) :=
  step_lone_go (by simp [stepG, stepG.exec, Frame.atR])

/-- A new loop's record. -/
theorem newDfr_run {P : Program} {φ : Phi} {h : Hp} {w : World} (hR : HR P φ h w) (hm : Room h) (ser ser' : Nat) :
    HR P (φ.put h.next 0 (w.heap.size, 0, 0)) ⟨T.set h.next (some (.dfr ser)) h.heap, h.next.succ, ser', h.lim⟩ (w.alloc (.deferred (some []))) ∧
    Adv h w φ ⟨T.set h.next (some (.dfr ser)) h.heap, h.next.succ, ser', h.lim⟩ (w.alloc (.deferred (some []))) (φ.put h.next 0 (w.heap.size, 0, 0)) := by
  have u := Upd.alloc hR hm (.deferred (some [])) 0
  refine ⟨hR.update u (.inl ⟨Nat.le_refl _, by rw [Pos.num_succ]; omega, hR.next_none hm⟩) fun x hx => ?_, Adv.update hR u (.inl ⟨Nat.le_refl _, by rw [Pos.num_succ]; omega, hR.next_none hm⟩)⟩
  cases hx
  exact ⟨w.heap.size, Phi.put_same _ _ _ _, alloc_new _ _⟩

theorem newLoop_run {P : Program} {φ : Phi} {h : Hp} {w : World} (hR : HR P φ h w) (hm : Room h) (ser ser' : Nat) {fn : FuncId} {env : T AV} {params : List Pos} {assign body : C} {around : Pos} {L : Loop}
    (h1 : L.state = .ready) (h2 : L.pending = none) (h3 : L.fn = fn) (h4 : EnvR φ env L.tmps) (h5 : numT P fn ≤ L.tmps.size) (h6 : L.params.toList.map Pos.ofNat = params) (h7 : ∀ t ∈ L.params.toList, t < numT P fn)
    (h8 : assign = comp P (numT P fn) L.assign) (h9 : body = comp P (numT P fn) L.body) (h10 : φ around 0 = some (L.defers, 0, 0)) :
    HR P (φ.put h.next 0 (w.heap.size, 0, 0)) ⟨T.set h.next (some (.loop ser .ready none fn env params assign body around)) h.heap, h.next.succ, ser', h.lim⟩ (w.alloc (.loop L)) ∧
    Adv h w φ ⟨T.set h.next (some (.loop ser .ready none fn env params assign body around)) h.heap, h.next.succ, ser', h.lim⟩ (w.alloc (.loop L)) (φ.put h.next 0 (w.heap.size, 0, 0)) := by
  have u := Upd.alloc hR hm (.loop L) 0
  refine ⟨hR.update u (.inl ⟨Nat.le_refl _, by rw [Pos.num_succ]; omega, hR.next_none hm⟩) fun x hx => ?_, Adv.update hR u (.inl ⟨Nat.le_refl _, by rw [Pos.num_succ]; omega, hR.next_none hm⟩)⟩
  cases hx
  exact ⟨w.heap.size, L, Phi.put_same _ _ _ _, alloc_new _ _, by rw [h1]; trivial, by rw [h2]; trivial, h3, h4.mono u.le, h5, h6, h7, h8, h9, u.le _ _ _ h10⟩

section
variable {P : Program} {φ : Phi} {h : Hp} {w : World} {fr : Fr} {callers : List Fr} {g : Frame} {cs c0 : List Frame}

theorem bot_eq {fr fr' : Fr} (f1 : fr'.fn = fr.fn) (f2 : fr'.round = fr.round) (callers : List Fr) (h h' : Hp) : (bot ⟨fr', callers, h'⟩).fn = (bot ⟨fr, callers, h⟩).fn ∧ (bot ⟨fr', callers, h'⟩).round = (bot ⟨fr, callers, h⟩).round := by
  cases callers with
  | nil => exact ⟨f1, f2⟩
  | cons c l => simp [bot, List.getLast?_cons]

/-- A frame is begun. -/
theorem enter_out {φ0 : Phi} {h0 : Hp} {w0 : World} {fr0 fr' : Fr} {g0 g' : Frame} (hA : Adv h0 w0 φ0 h w φ) (hR : HR P φ h w) (hF : FrR P φ fr g) (hC : FrsR P φ0 callers cs) (f1 : fr.fn = fr0.fn) (f2 : fr.round = fr0.round)
    (hF' : FrR P φ fr' g') (hs : Go.step P (lone g0 (cs ++ c0) w0) = .next (lone g' (g :: (cs ++ c0)) w)) : OutR P c0 φ0 ⟨fr0, callers, h0⟩ g0 cs w0 (.next ⟨fr', fr :: callers, h⟩) := by
  obtain ⟨q1, q2⟩ := bot_eq f1 f2 callers h0 h0
  refine ⟨g', g :: cs, w, φ, .one hs, hR, hF', .cons hF (hC.mono hA.le), hA, ?_, ?_⟩
  · rw [bot_push fr' fr callers h h0]; exact q1
  · rw [bot_push fr' fr callers h h0]; exact q2

theorem FrR.run_mode (hF : FrR P φ fr g) (hm : fr.mode = .run) : g.mode = .run := by
  have := hF.mode
  rw [hm] at this
  cases hgm : g.mode <;> rw [hgm] at this <;> first | rfl | (cases this)

/-- A step of the frame as it stands. -/
theorem step_at (hF : FrR P φ fr g) (hm : fr.mode = .run) {td : List Go.Item} (hg : g.todo = td) {m : Machine} {cs : List Frame} (hs : Go.step P (lone (g.atR ⟨g.tmps, g.defers⟩ td) cs w) = .next m) : Go.step P (lone g cs w) = .next m := by
  have e := frame_run (hF.run_mode hm)
  rw [hg] at e
  rw [e]; exact hs

theorem ret_out (hR : HR P φ h w) (hF : FrR P φ fr g) (hC : FrsR P φ callers cs) (hro : fr.round = none) (hs : ∀ cs0, Go.step P (lone g cs0 w) = .next (lone { g with mode := .returning } cs0 w)) :
    OutR P c0 φ ⟨fr, callers, h⟩ g cs w (.next ⟨{ fr with mode := .ret }, callers, h⟩) :=
  OutR.plain (g' := { g with mode := .returning }) hR (FrR.mk (fr := { fr with mode := .ret }) (g := { g with mode := .returning }) hF.fn hF.env.ret hF.size hF.todo hF.defers trivial hF.kind hF.round) hC (.one (hs _)) rfl rfl

theorem kind_round (hF : FrR P φ fr g) {l : Pos} (hr : fr.round = some l) : g.kind = .normal := by
  rw [hF.kind, if_neg (fun q => by rw [hr] at q; cases q.2)]

theorem roundOf_none (hF : FrR P φ fr g) (hr : fr.round = none) : g.roundOf = none := by
  have := hF.round
  rw [hr] at this
  cases hq : g.roundOf <;> rw [hq] at this <;> first | rfl | (cases this)

theorem evalOp_defer (P : Program) (f : Opd) (l : List Opd) (env : T AV) (h : Hp) : (∃ f' args, evalOp P (.defer f l) env h = .defer f' args) ∨ ∃ why, evalOp P (.defer f l) env h = .fail why := by
  unfold evalOp
  simp only
  split
  · exact .inl ⟨_, _, rfl⟩
  · exact .inr ⟨_, rfl⟩

theorem wanted_eq {n : Nat} {ops : Array Oper} {o : Oper} {env : T AV} {tmps : Array Value} {bef : Nat} (hE : EnvR φ env tmps) (hk : (compOper P n ops bef o).ok = true) :
    Region.wanted o (yielded ops tmps) = wantedA (compOper P n ops bef o) env := by
  unfold wantedA Region.wanted
  simp only [compOper, Bool.and_eq_true] at hk ⊢
  cases hgd : o.guard with
  | none => rfl
  | some x =>
    obtain ⟨j, want⟩ := x
    have hg := hk.2
    rw [hgd] at hg
    simp only [okGuard] at hg
    split at hg
    · rename_i oj hj
      cases hd : oj.dst with
      | none => rw [hd] at hg; cases hg
      | some d =>
        simp only [Option.map_some, hj, Option.bind_some, hd, Option.getD_some, yielded]
        have hr := hE d
        rw [Array.getD_eq_getD_getElem?] at hr
        unfold ev at hr
        simp only at hr
        cases hv : T.get (Pos.ofNat d) env with
        | none =>
          rw [hv] at hr
          simp only at hr
          cases hx : tmps[d]? with
          | none => rfl
          | some x => rw [hx] at hr; cases hr; rfl
        | some v =>
          rw [hv] at hr
          simp only at hr
          cases hx : tmps[d]? with
          | none => rw [hx] at hr; cases hr <;> first | rfl | (rename_i q; cases q)
          | some x =>
            rw [hx] at hr
            simp only [Option.getD_some] at hr
            cases hr <;> first | rfl | skip
            · rename_i b
              cases b <;> cases want <;> rfl
            · rename_i q
              cases x <;> first | rfl | (cases q)
    · cases hg
end
end Go.Proofs.YtialpccieggaoaaGreatDoor.Am

namespace Go.Proofs.YtialpccieggaoaaGreatDoor.Am

section
variable {P : Program} {φ : Phi} {h : Hp} {w : World} {fr : Fr} {callers : List Fr} {g : Frame} {cs c0 : List Frame}

theorem cond_run {c : Operand} {c' : Opd} {a : Act} (hR : HR P φ h w) {env : T AV} (hE : EnvR φ env a.tmps) (hc : compOpd P c = some c') {b : Bool} (hv : ev env c' = .bool b) : a.eval c = .bool b := by
  have := opd_rel hR hE hc
  rw [hv] at this
  cases hx : a.eval c <;> rw [hx] at this <;> cases this
  rfl

/-- The operations of a region that does not draw. -/
theorem ops_run (hR : HR P φ h w) (hz : h.lim = 0) (hF : FrR P φ fr g) (hC : FrsR P φ callers cs) (hm : fr.mode = .run) {l : List O} {k : List Item} (ht : fr.todo = .ops l :: k) {rec : St → Out} (hrec : Sound P rec) :
    OutR P c0 φ ⟨fr, callers, h⟩ g cs w (step P rec ⟨fr, callers, h⟩) := by
  obtain ⟨fn, env, todo, defers, mode, dk, round⟩ := fr
  simp only at hm ht
  subst hm
  subst ht
  have htd := hF.todo
  generalize hg : g.todo = gt at htd
  cases htd with
  | @cons x1 y l1 r hx htr =>
    cases y <;> first | (cases hx; done) | skip
    rename_i ops idx
    obtain ⟨h1, h2⟩ := hx
    have hm : (⟨fn, env, .ops l :: k, defers, .run, dk, round⟩ : Fr).mode = .run := rfl
    cases idx with
    | nil =>
      rw [List.map_nil] at h1
      subst h1
      exact OutR.to hR hF hC rfl hg htr (fun b a cs _ _ => stepR_region_end)
    | cons i idx =>
      rw [List.map_cons] at h1
      change l = compOper P (numT P fn) ops 0 (ops.getD i default) :: idx.map (fun i => compOper P (numT P fn) ops 0 (ops.getD i default)) at h1
      subst h1
      have hi := h2 i (by simp)
      have hoi : ops[i]? = some (ops.getD i default) := by rw [Array.getD_eq_getD_getElem?, Array.getElem?_eq_getElem hi]; rfl
      generalize hoo : ops.getD i default = o at *
      unfold step
      simp only
      cases hok : (compOper P (numT P fn) ops 0 o).ok with
      | false => trivial
      | true =>
        simp only [Bool.not_true, cond_false]
        have hw := wanted_eq hF.env hok
        cases hwa : wantedA (compOper P (numT P fn) ops 0 o) env with
        | false =>
          rw [hwa] at hw
          rw [cond_false]
          rcases give_run (fun fr => Out.next ⟨fr, callers, h⟩) hF (v := .undef) (x := Go.undef) Rel.undef with ⟨why, e⟩ | ⟨fr', e, e1, e2, e3⟩
          · rw [e]; trivial
          · rw [e]
            have hfin : g.finish Go.undef = g.atR (Act.put ⟨g.tmps, g.defers⟩ ((ops[i]?).bind (·.dst)) Go.undef) (.inRegion ops idx :: r) := by
              rw [← Frame.finish_atR, ← hg, ← frame_run (hF.run_mode hm)]
            refine OutR.plain hR e1 hC (.one ?_) e2 e3
            rw [hfin]
            refine step_at hF hm hg (stepR_op_skip ?_)
            rw [hoi]; exact hw
        | true =>
          rw [hwa] at hw
          rw [cond_true]
          cases hco : compAOp P o.op with
          | none =>
            have : (compOper P (numT P fn) ops 0 o).op = .bad (opWhy o) := by simp [compOper, hco]
            rw [this]
            trivial
          | some ao =>
            have : (compOper P (numT P fn) ops 0 o).op = ao := by simp [compOper, hco]
            rw [this]
            have hres := evalOp_run (a := ⟨g.tmps, g.defers⟩) hR hF.env (.inl hz) hco
            by_cases hbad : (∃ l, round = some l) ∧ ∃ c, o.op = .defer c
            · obtain ⟨⟨l, rfl⟩, c, hc⟩ := hbad
              rw [hc] at hco
              unfold compAOp at hco
              simp only at hco
              split at hco
              · split at hco
                · cases hco
                  rename_i fo lo _ _
                  rcases evalOp_defer P fo lo env h with ⟨f, args, e⟩ | ⟨why, e⟩ <;> rw [e] <;> trivial
                · cases hco
              · cases hco
            have hst : ∀ cs0, stepG P true { frame := g, callers := cs0, status := .running, dying := none } w = stepG.apply P true g cs0 none (execOp (Act.mk g.tmps g.defers).eval o) w := by
              intro cs0
              have e := frame_run (hF.run_mode hm)
              rw [hg] at e
              rw [e]
              have q := stepGR_op (P := P) (b := g) (a := ⟨g.tmps, g.defers⟩) (k := r) (cs := cs0) (w := w) (rest := idx) hoi hw
              have hsem : Oper.semAt g.roundOf (Act.mk g.tmps g.defers).eval o = execOp (Act.mk g.tmps g.defers).eval o := by
                cases hro : round with
                | none =>
                  subst hro
                  rw [roundOf_none hF rfl]
                  rfl
                | some l => exact Oper.semAt_eq _ _ _ fun c hc => hbad ⟨⟨l, hro⟩, c, hc⟩
              rw [hsem] at q
              exact q
            have hkd : (match g.todo with | .call _ true _ _ :: _ => CallKind.wrapped | _ => CallKind.normal) = .normal := by rw [hg]
            refine applyJ_run hrec hR hz hF hC hres ?_ ?_ ?_ ?_ ?_ ?_ ?_ (hF.run_mode hm)
            · intro nx x w' hn he cs0
              refine step_lone_go ?_
              rw [hst]
              rcases hn with rfl | ⟨rfl, rfl⟩
              · simp [stepG.apply, Sem.runT_eq, he, GStep.bare_after]
              · simp [stepG.apply, Sem.runT_eq, he, GStep.bare_after]
            · intro f xs he cs0
              refine step_lone_go ?_
              rw [hst]
              simp [stepG.apply, Sem.runT_eq, he, GStep.bare_after, hg]
            · intro b f tmps assign body he cs0
              refine step_lone_go ?_
              rw [hst]
              simp [stepG.apply, Sem.runT_eq, he, GStep.bare_after]
            · intro hro d he cs0
              refine step_lone_go ?_
              rw [hst]
              simp [stepG.apply, Sem.runT_eq, he, GStep.bare_after]
            · intro hro he cs0 hnot
              have hro : round = none := hro
              subst hro
              have hgr := roundOf_none hF rfl
              refine step_lone_go ?_
              rw [hst]
              simp [stepG.apply, Sem.runT_eq, he, GStep.bare_after, hgr, hnot]
            · intro hro he cs0 x cs1 hrv
              have hro : round = none := hro
              subst hro
              have hgr := roundOf_none hF rfl
              refine step_lone_go ?_
              rw [hst]
              simp [stepG.apply, Sem.runT_eq, he, GStep.bare_after, hgr, hrv]
            · intro x he cs0
              refine step_lone_go ?_
              rw [hst]
              simp [stepG.apply, Sem.runT_eq, he, GStep.bare_after]
end
end Go.Proofs.YtialpccieggaoaaGreatDoor.Am
