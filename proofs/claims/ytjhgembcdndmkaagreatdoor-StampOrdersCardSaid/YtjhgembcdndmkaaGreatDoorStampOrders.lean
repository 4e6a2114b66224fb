/- 'Rows.StampOrdersCardSaid': the law estuary/estuarylaw06.StampOrders holds: what its functions compute over the abstract machine (the texts beside this one) is what it asks. No condition. The card is tied by the given tie. -/
import Derived.Test.YtjhgembcdndmkaaGreatDoorRows
import Derived.Test.YtjhgembcdndmkaaGreatDoorTie
import Derived.Test.YtjhgembcdndmkaaGreatDoorCards
import Derived.WalkKit
import Derived.ProofKit
import Derived.OpenShut
import Derived.LaidMore
import Derived.Lay
import Derived.SevenTiedAt
import Derived.Stop.Joined
import Derived.LaidSub
import Derived.Lib.LaidTab
import Derived.SizedLaws
import Derived.Carry
import Derived.Test.YtjhgembcdndmkaaGreatDoorSxC
import Derived.Test.YtjhgembcdndmkaaGreatDoorStampOrdersFacts
namespace Go.Proofs.YtjhgembcdndmkaaGreatDoor.stampOrders
open Go.ChangeShapes Go.WideShapes Go.ChangeAt Go.RowKit

theorem own : ownKnob Tryz.prog.godebug = none := by kernel_rfl

/-- The table's name, as the row lists it. -/
def tabName : String := (Rows.stampOrdersRow.laid.map (·.1))[2]

theorem laidOut : laidOutB Tryz.prog = true := by kernel_rfl

/-- The library's table, as the row lists it. -/
theorem table_known {w : World} (h : laidMetH Tryz.prog Rows.stampOrdersRow.laid w) : ∃ el fr, w.heap[3]? = some (.cells (Lib.pow10Tab.map fun z => Value.int .u64 z).toArray el fr) := by
  have q := h.filter (fun x => x.1 == tabName)
  have e : (Rows.stampOrdersRow.laid.filter fun x => x.1 == tabName) = [(tabName, Lib.tabData .u64 Lib.pow10Tab)] := by kernel_rfl
  rw [e, MakeChecks.laidMetH_plain _ _ _ (by kernel_rfl)] at q
  have htab : Lib.TabIs Tryz.prog w tabName .u64 Lib.pow10Tab := Lib.tabIs_of_head (g := 3) (by kernel_rfl) (by kernel_rfl) Tryz.underlying202 Tryz.underlying50 (by kernel_rfl) (by kernel_rfl) q
  unfold Lib.TabIs World.var? at htab
  rw [show Tryz.prog.globalNamed tabName = some 3 from by kernel_rfl] at htab
  simp only [Option.bind_some] at htab
  split at htab
  · rename_i cs el fr e
    cases htab
    exact ⟨el, fr, e⟩
  · cases htab

/-- A variable of type int of which nothing is said. -/
theorem int_known {P : Program} {w : World} {g : Nat} {t : TypeId} {zero : Array Value} (h : w.ShapedOpen P) (hg : g < P.globals.size) (h0 : ((begin P (fun _ _ => 0) default).world.heap[g]?).bind Obj.row? = some (zero, t)) (hz : zero.size = 1)
    (hb : P.buildable t = true) (hc : P.cellTypes P.depth t = some [t]) (hu : P.underlying t = some (.int .i64)) : ∃ m el fr, w.heap[g]? = some (.cells #[.int .i64 m] el fr) := by
  obtain ⟨cs, hh, hs, hr⟩ := h.1 g zero t hg h0
  obtain ⟨ts, hts, _, hall⟩ := hr hb
  rw [hc] at hts
  cases hts
  have h1 : cs.size = 1 := by omega
  obtain ⟨u, hu', hok⟩ := hall 0 cs[0] (by simp [h1])
  have : u = t := by simpa using hu'.symm
  subst this
  obtain ⟨x, rfl⟩ : ∃ x, cs = #[x] := by
    cases cs with | mk l => match l, h1 with | [x], _ => exact ⟨x, rfl⟩
  have hok : Cell.ok P w .any 0 u x := hok
  unfold Cell.ok at hok
  rw [hu] at hok
  cases x with
  | int k m =>
    obtain ⟨q, _⟩ := hok
    subst q
    exact ⟨m, _, _, hh⟩
  | _ => first | exact hok.elim | simp at hok

set_option maxRecDepth 100000 in
theorem max_known {w : World} (hs : w.ShapedOpen Tryz.prog) : ∃ m el fr, w.heap[0]? = some (.cells #[.int .i64 m] el fr) :=
  int_known (t := 3) (zero := #[.int .i64 0]) hs (of_decide_eq_true (by kernel_rfl)) (by kernel_rfl) rfl (by kernel_rfl) (by kernel_rfl) Tryz.underlying3

theorem errs_known {w : World} (h : laidMetH Tryz.prog Rows.stampOrdersRow.laid w) : (∃ u v a el fr, w.heap[1]? = some (.cells #[.iface u v] el fr) ∧ St.IsErr w u v a) ∧ ∃ u v a el fr, w.heap[2]? = some (.cells #[.iface u v] el fr) ∧ St.IsErr w u v a := by
  rw [MakeChecks.laidMetH_plain _ _ _ (by kernel_rfl)] at h
  obtain ⟨ps, hl, _⟩ := h
  constructor
  · obtain ⟨g, t, cs, fuel, p, h1, h2, h3, h4⟩ := St.laid_mem hl Rows.stampOrdersRow.laid[5] (List.getElem_mem _)
    obtain rfl : 1 = g := Option.some.inj ((by kernel_rfl : Tryz.prog.globalNamed (Rows.stampOrdersRow.laid[5]).1 = some 1).symm.trans h1)
    obtain rfl : 127 = t := Option.some.inj ((by kernel_rfl : (Tryz.prog.globals[1]?).map (·.type) = some 127).symm.trans h2)
    exact St.iface_told h1 h3 Tryz.underlying127 h4
  · obtain ⟨g, t, cs, fuel, p, h1, h2, h3, h4⟩ := St.laid_mem hl Rows.stampOrdersRow.laid[4] (List.getElem_mem _)
    obtain rfl : 2 = g := Option.some.inj ((by kernel_rfl : Tryz.prog.globalNamed (Rows.stampOrdersRow.laid[4]).1 = some 2).symm.trans h1)
    obtain rfl : 127 = t := Option.some.inj ((by kernel_rfl : (Tryz.prog.globals[2]?).map (·.type) = some 127).symm.trans h2)
    exact St.iface_told h1 h3 Tryz.underlying127 h4

/-- What a call's own world is like, besides. -/
theorem handed_shaped {H : Type} {enc : TypeId × Value → H} {a : Assume} {C : Checked} {os : Os} {f : FuncId} {fn : Func} {s : ChangeSpec} {conds : List PathCond} {apart fresh handsOn again : Bool} {X : World → Array Value → Prop}
    (hX : ∀ (w w' : World) (args : Array Value), w.heap = w'.heap → X w args → X w' args) (own : ownKnob C.prog.godebug = none) (started : os.Started) (noInit : C.prog.inits.idxOf? f = none) (hfn : C.prog.funcs[f]? = some fn)
    (witness : ∃ (w : World) (tape : Tape) (i : Input), w.os = os ∧ (w.forCall tape i).Shaped C.prog ∧ i.vars = [] ∧ Input.okWide C.prog (w.forCall tape i) .any w.heap.size f i ∧
      ((s.pre enc C.prog fn conds apart (w.forCall tape i).memory i.args ∧ X (w.forCall tape i).memory i.args) ∧ sizedMet enc C.prog fn (OpenSpec.ofChange s) apart (w.forCall tape i).memory i.args) ∧ a.holds C.prog (lone (Frame.enter C.prog f i.args .normal) [] (w.forCall tape i)))
    (contract : ∀ (W : World) (base : Nat) (args : Array Value) (ds gs : List (DataW H)) (before : List MemPlace), (∀ (j : Nat) t v, fn.params[j]? = some t → args[j]? = some v → Value.okWide C.prog W .any base t v) → DataW.Whole enc C.prog fn.params.toList s.vars apart W args.toList ds gs before → (DataW.weightsEach C.prog (fn.params.toList ++ s.plain.varTypes C.prog) (ds ++ gs)).all (· ≤ reachBytes) = true → X W args → W.ShapedOpen C.prog →
      Calls C.prog f args W fun e W' => ∃ v, e = .returned v ∧ s.post enc C.prog fn apart fresh handsOn again W args v W') :
    ReturnsInHanded a C os f .any (fun w args => (s.pre enc C.prog fn conds apart w args ∧ X w args) ∧ sizedMet enc C.prog fn (OpenSpec.ofChange s) apart w args) (s.post enc C.prog fn apart fresh handsOn again) := by
  refine returnsInHanded_of_calls own started noInit witness ?_
  intro w tape i _ hsh _ hok hpre _
  obtain ⟨_, _, _, fn', hfn', _, _, _, _, hval⟩ := hok
  have e : fn' = fn := Option.some.inj (hfn'.symm.trans hfn)
  subst e
  obtain ⟨⟨⟨ds, gs, before, hw, _⟩, hx⟩, hz⟩ := hpre
  refine (contract (w.forCall tape i) w.heap.size i.args ds gs before hval (DataW.Whole.of_heap (w' := w.forCall tape i) (by rfl) hw) (hz.weights hw) (hX _ _ _ (by rfl) hx) hsh).mono fun e W' ⟨v, he, hp⟩ => ?_
  subst he
  exact ChangeSpec.post_blind hp

/-- A slice that is handed in. -/
theorem slice_cells {P : Program} {W : World} {r : Reach} {base : Nat} {t e : TypeId} {v : Value} (ht : P.underlying t = some (.slice e)) (h : Value.okWide P W r base t v) : v.cells.toList = [v] := by
  obtain ⟨a, len, cap, rfl⟩ := okWide_slice ht h
  rfl

/-- An array that is handed in. -/
theorem array_cells {P : Program} {W : World} {r : Reach} {base : Nat} {t e : TypeId} {n : Nat} {v : Value} (ht : P.underlying t = some (.array n e)) (h : Value.okWide P W r base t v) : ∃ cs, v = .agg cs := by
  simp only [Value.okWide, ht] at h
  obtain ⟨cs, h1, _⟩ := h
  exact ⟨cs, h1⟩

set_option maxRecDepth 100000 in
theorem lifted (os : Os) (started : os.Started) (H : Type) (enc : TypeId × Value → H) :
    ReturnsInHanded {} Tryz.checked os 6 .any (fun w args => (Rows.stampOrdersSpec.pre enc Tryz.prog Tryz.f6 Rows.stampOrdersRow.domain false w args ∧ laidMetH Tryz.prog Rows.stampOrdersRow.laid w) ∧ sizedMet enc Tryz.prog Tryz.f6 (OpenSpec.ofChange Rows.stampOrdersSpec) false w args)
      (Rows.stampOrdersSpec.post enc Tryz.prog Tryz.f6 false true false false) := by
  refine handed_shaped (C := Tryz.checked) (X := fun w _ => laidMetH Tryz.prog Rows.stampOrdersRow.laid w) (fun _ _ _ hh h => h.of_heap hh) own started (by kernel_rfl) Tryz.func6
    (ChangeSpec.witness_shaped (enc := enc) (C := Tryz.checked) (os := os) (X := fun w _ => laidMetH Tryz.prog Rows.stampOrdersRow.laid w) false (World.laidAll Tryz.prog os Rows.stampOrdersRow.laid) #[.agg #[.int .i64 0, .int .i64 0, .string ⟨#[]⟩, .int .i64 0, .int .i64 0, .int .i64 0, .int .i64 0, .string ⟨#[]⟩, .int .i64 0, .int .i64 0, .int .i64 0, .int .i64 0, .string ⟨#[]⟩, .int .i64 0, .int .i64 0], .slice none 0 0] 8 (World.laidAll_os _ _ _)
      (World.shaped_of_ZipB (by kernel_rfl) (by kernel_rfl)) (by kernel_rfl) (by kernel_rfl) (by kernel_rfl)
      (by rw [MakeChecks.laidMetH_plain _ _ _ (by kernel_rfl)]; exact laidMet_laidAll _ (by kernel_rfl) (by kernel_rfl))) ?_
  intro W base args ds gs before hval0 hW hsz hlaid hshape
  have hval : ∀ (j : Nat) t v, Tryz.f6.params[j]? = some t → args[j]? = some v → Value.okWide Tryz.prog W .any base t v := hval0
  have hW' := hW
  obtain ⟨p, q, hA0, hV, rfl, _, _⟩ := hW
  have hA : DataW.TrodAll enc Tryz.prog W 0 (fun _ => true) true Tryz.f6.params.toList args.toList ds p := hA0
  rw [Tryz.params6] at hA hval
  obtain ⟨v0, v1, d0, d1, p0, p1, rfl, rfl, rfl, h0, h1⟩ := trodAll_two hA
  have h0k := h0
  have h1k := h1
  obtain ⟨rfl, rfl⟩ := trodVars_none hV
  clear hA0 hval0
  simp only [List.append_nil] at hW'
  have hlt := hW'.lt
  have hv0 : Value.okWide Tryz.prog W .any base 69 v0 := hval 0 69 _ rfl rfl
  have hw0 : ∀ n ∈ d0.weights Tryz.prog 69, n ≤ reachBytes := fun n hn => by
    have ht : (Tryz.f6.params.toList ++ Rows.stampOrdersSpec.plain.varTypes Tryz.checked.prog)[0]? = some 69 := by rw [Tryz.params6]; rfl
    exact of_decide_eq_true (List.all_eq_true.1 hsz n (DataW.weights_mem_each (P := Tryz.prog) (ds := [d0, d1] ++ []) (d := d0) ht rfl n hn))
  obtain ⟨k0, rfl⟩ := array_cells Tryz.underlying69 hv0
  have hv1 : Value.okWide Tryz.prog W .any base 70 v1 := hval 1 70 _ rfl rfl
  have hw1 : ∀ n ∈ d1.weights Tryz.prog 70, n ≤ reachBytes := fun n hn => by
    have ht : (Tryz.f6.params.toList ++ Rows.stampOrdersSpec.plain.varTypes Tryz.checked.prog)[1]? = some 70 := by rw [Tryz.params6]; rfl
    exact of_decide_eq_true (List.all_eq_true.1 hsz n (DataW.weights_mem_each (P := Tryz.prog) (ds := [d0, d1] ++ []) (d := d1) ht rfl n hn))
  obtain ⟨m, l0, f0, c0⟩ := max_known hshape
  obtain ⟨⟨u1, v1', a1, l1, f1, c1, i1⟩, u2, v2', a2, l2, f2, c2, i2⟩ := errs_known hlaid
  obtain ⟨l3, f3, c3⟩ := table_known hlaid
  refine (St.orders_walk h0k hw0 (slice_cells Tryz.underlying70 hv1) h1k hw1 (Nat.succ_le_of_lt (Array.getElem?_eq_some_iff.1 c3).1) c0 c1 c2 c3 i1 i2).mono fun e W' ⟨he, hg⟩ => ?_
  subst he
  refine ⟨_, rfl, Am.post_of_below (pa := p0 ++ p1) (pv := []) hW' (fun _ _ _ => trodAll_cons_mk (shut_bool Tryz.underlying4 _) trodAll_mk0) (fun sp hsp => ?_) (fun _ _ => rfl) (by simp)
    hg (ok_one (by kernel_rfl) rfl (okWide_bool_mk Tryz.underlying4 _))⟩
  have hs : ∀ x ∈ p0 ++ p1, W.sameAt W' x := fun x hx => hg.same (hlt x hx)
  exact trodAll_mk2 (WideElems.Trod_stays laidOut (by kernel_rfl) (of_decide_eq_true (by kernel_rfl)) h0k (fun x hx => hs x (by simp [hx])) (fun x hx => hsp x (by simp [hx]))) (WideElems.Trod_stays laidOut (by kernel_rfl) (of_decide_eq_true (by kernel_rfl)) h1k (fun x hx => hs x (by simp [hx])) (fun x hx => hsp x (by simp [hx])))

theorem over : Rows.StampOrdersSaid :=
  OpenClaim.holds_of_wide 6 Tryz.f6 rfl rfl rfl rfl rfl rfl rfl ⟨rfl, rfl, rfl, rfl, rfl⟩ rfl rfl rfl rfl rfl (by kernel_rfl) Tryz.func6 stampOrders_closed
    (of_decide_eq_true (by kernel_rfl)) (by unfold Func.isWrapper; first | (rw [if_pos (by decide +kernel)]; kernel_rfl) | (rw [if_neg (by decide +kernel)]; exact ⟨rfl, rfl⟩))
    (fun os started H enc _ => lifted os started H enc)

theorem fact_w : Rows.stampOrdersRow.wfByText (OpenSpec.ofChange Rows.stampOrdersSpec) = true := by kernel_rfl

theorem fact_m : Tryz.pinned.checked.prog.mainIs = some (true, ("209862056e3896506a1f9acee25c7737523930c1a243fc30bdbdacdf4e7dd12e").toList) := by kernel_rfl

theorem fact_n : Tryz.prog.funcNamed Tryz.f6.name = some 6 := by kernel_rfl

theorem fact_l : true = Tryz.pinned.checked.prog.looks [] := by kernel_rfl

theorem goes_none {P : Program} (h : P.funcs.any Func.goes = false) (f : FuncId) : P.goes f = false := by
  have key : ∀ g : FuncId, (P.funcs[g]?).any Func.goes = false := by
    intro g
    cases e : P.funcs[g]? with
    | none => rfl
    | some fn =>
      have hm := Array.mem_of_getElem? e
      show Func.goes fn = false
      cases q : Func.goes fn with
      | false => rfl
      | true => rw [Array.any_eq_true'.2 ⟨fn, hm, q⟩] at h; cases h
  unfold Program.goes
  rw [h, Bool.and_false, Bool.or_false]
  simp [key]

theorem goes_by {c : OpenClaim} {P : Program} (hs : c.start = .entering) (h : P.funcs.any Func.goes = false) : false = c.goesBy P := by
  unfold OpenClaim.goesBy Program.goesAt Program.goesFrom
  rw [hs]
  cases P.funcNamed c.func with
  | none => rfl
  | some f => show false = (P.goes f || false); rw [goes_none h f]; rfl

theorem fact_go : Tryz.pinned.checked.prog.funcs.any Func.goes = false := by kernel_rfl

theorem fact_g : false = Rows.stampOrdersRow.goesBy Tryz.pinned.checked.prog := goes_by rfl fact_go

/-- ████ THE STATEMENT ████ -/
theorem proved : Rows.StampOrdersCardSaid :=
  Claim7.holds_tied_plain_at .later [] [.data, .data, .data, .data, .sentinel, .sentinel, .pinned] true (true, "209862056e3896506a1f9acee25c7737523930c1a243fc30bdbdacdf4e7dd12e") true over (fun _ h => by cases h) fact_w (fun _ h => by cases h) stampOrders_row_tie rfl ⟨rfl, rfl⟩ fact_m rfl
    (fun f fn hf hfn => by
      obtain rfl : f = 6 := Option.some.inj (fact_n.symm.trans hf) |>.symm
      obtain rfl : fn = Tryz.f6 := (Option.some.inj (Tryz.func6.symm.trans hfn)).symm
      exact ⟨fact_l, fun j t ht => by
        rw [Tryz.params6] at ht
        rcases j with _ | j
        · simp at ht
          subst ht
          kernel_rfl
        · rcases j with _ | j
          · simp at ht
            subst ht
            kernel_rfl
          · simp at ht⟩)
    fact_g
#print axioms proved
end Go.Proofs.YtjhgembcdndmkaaGreatDoor.stampOrders
