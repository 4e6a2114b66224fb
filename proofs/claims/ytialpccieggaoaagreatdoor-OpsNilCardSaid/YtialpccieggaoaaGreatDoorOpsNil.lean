/- 'Rows.OpsNilCardSaid': the law estuary/estuarylaw16.OpsNil holds: the given program is run by the abstract machine (its texts stand beside this one), and the run is the model's; the run reads no package variable. No condition. The card is tied by the given tie. -/
import Derived.Test.YtialpccieggaoaaGreatDoorRows
import Derived.Test.YtialpccieggaoaaGreatDoorTie
import Derived.Test.YtialpccieggaoaaGreatDoorCards
import Derived.WalkKit
import Derived.ProofKit
import Derived.OpenShut
import Derived.LaidMore
import Derived.Lay
import Derived.SevenTiedAt
import Derived.Stop.Joined
import Derived.Test.YtialpccieggaoaaGreatDoorOpsNilRan
import Derived.Test.YtialpccieggaoaaGreatDoorOpsNilFacts
namespace Go.Proofs.YtialpccieggaoaaGreatDoor.opsNil
open Go.ChangeShapes Go.WideShapes Go.ChangeAt Go.RowKit

theorem own : ownKnob Tryz.prog.godebug = none := by kernel_rfl

/-- The numbers of the library's table. -/
def powers : List Int := [1, 10, 100, 1000, 10000, 100000, 1000000, 10000000, 100000000, 1000000000, 10000000000, 100000000000, 1000000000000, 10000000000000, 100000000000000, 1000000000000000, 10000000000000000, 100000000000000000, 1000000000000000000, 10000000000000000000]

set_option maxRecDepth 100000 in
theorem shaped_max {w : World} (hs : w.ShapedOpen Tryz.prog) : Am.VarR w 3 (.lst 1 [.rng 0 2]) :=
  Am.varR_int (t := 3) (zero := #[.int .i64 0]) 2 hs (of_decide_eq_true (by kernel_rfl)) (by kernel_rfl) rfl (by kernel_rfl) (by kernel_rfl) Tryz.underlying3

theorem vars_known {w : World} (h : laidMetH Tryz.prog Rows.opsNilRow.laid w) (hs : w.ShapedOpen Tryz.prog) : Am.VarsR w Am.vars0 := by
  rw [MakeChecks.laidMetH_plain _ _ _ (by kernel_rfl)] at h
  obtain ⟨ps, hl, _⟩ := h
  intro x m
  unfold Am.vars0 at m
  simp only [List.mem_cons, List.mem_nil_iff, or_false] at m
  rcases m with rfl | rfl | rfl
  · obtain ⟨g, t, cs, fuel, p, h1, h2, h3, h4⟩ := Am.laid_mem hl Rows.opsNilRow.laid[2] (List.getElem_mem _)
    obtain rfl : 2 = g := Option.some.inj ((by kernel_rfl : Tryz.prog.globalNamed (Rows.opsNilRow.laid[2]).1 = some 2).symm.trans h1)
    obtain rfl : 152 = t := Option.some.inj ((by kernel_rfl : (Tryz.prog.globals[2]?).map (·.type) = some 152).symm.trans h2)
    exact ⟨rfl, Am.varR_ints (ns := powers) (k := .u64) h1 h3 Tryz.underlying152 Tryz.underlying61 (by kernel_rfl) h4⟩
  · exact ⟨rfl, shaped_max hs⟩
  · obtain ⟨g, t, cs, fuel, p, h1, h2, h3, h4⟩ := Am.laid_mem hl Rows.opsNilRow.laid[5] (List.getElem_mem _)
    obtain rfl : 4 = g := Option.some.inj ((by kernel_rfl : Tryz.prog.globalNamed (Rows.opsNilRow.laid[5]).1 = some 4).symm.trans h1)
    obtain rfl : 88 = t := Option.some.inj ((by kernel_rfl : (Tryz.prog.globals[4]?).map (·.type) = some 88).symm.trans h2)
    exact ⟨rfl, Am.varR_ifc h1 h3 Tryz.underlying88 h4⟩

/-- THE WALK: the Go text returns true, and what was there stays. -/
theorem walk (w : World) (hv : Am.VarsR w Am.vars0) : Calls Tryz.prog 3 #[] w fun e w' => e = .returned (.bool true) ∧ Below w.heap.size w w' :=
  Am.opsNil_calls w hv

/-- What a call's own world is like, besides. -/
theorem handed_shaped {H : Type} {enc : TypeId × Value → H} {a : Assume} {C : Checked} {os : Os} {f : FuncId} {fn : Func} {s : ChangeSpec} {conds : List PathCond} {apart fresh handsOn again : Bool} {X : World → Array Value → Prop}
    (hX : ∀ (w w' : World) (args : Array Value), w.heap = w'.heap → X w args → X w' args) (own : ownKnob C.prog.godebug = none) (started : os.Started) (noInit : C.prog.inits.idxOf? f = none) (_ : C.prog.funcs[f]? = some fn)
    (witness : ∃ (w : World) (tape : Tape) (i : Input), w.os = os ∧ (w.forCall tape i).Shaped C.prog ∧ i.vars = [] ∧ Input.okWide C.prog (w.forCall tape i) .any w.heap.size f i ∧
      ((s.pre enc C.prog fn conds apart (w.forCall tape i).memory i.args ∧ X (w.forCall tape i).memory i.args) ∧ sizedMet enc C.prog fn (OpenSpec.ofChange s) apart (w.forCall tape i).memory i.args) ∧ a.holds C.prog (lone (Frame.enter C.prog f i.args .normal) [] (w.forCall tape i)))
    (contract : ∀ (W : World) (args : Array Value) (ds gs : List (DataW H)) (before : List MemPlace), DataW.Whole enc C.prog fn.params.toList s.vars apart W args.toList ds gs before → X W args → W.ShapedOpen C.prog →
      Calls C.prog f args W fun e W' => ∃ v, e = .returned v ∧ s.post enc C.prog fn apart fresh handsOn again W args v W') :
    ReturnsInHanded a C os f .any (fun w args => (s.pre enc C.prog fn conds apart w args ∧ X w args) ∧ sizedMet enc C.prog fn (OpenSpec.ofChange s) apart w args) (s.post enc C.prog fn apart fresh handsOn again) := by
  refine returnsInHanded_of_calls own started noInit witness ?_
  intro w tape i _ hsh _ _ hpre _
  obtain ⟨⟨⟨ds, gs, before, hw, _⟩, hx⟩, _⟩ := hpre
  refine (contract (w.forCall tape i) i.args ds gs before (DataW.Whole.of_heap (w' := w.forCall tape i) (by rfl) hw) (hX _ _ _ (by rfl) hx) hsh).mono fun e W' ⟨v, he, hp⟩ => ?_
  subst he
  exact ChangeSpec.post_blind hp

set_option maxRecDepth 100000 in
theorem lifted (os : Os) (started : os.Started) (H : Type) (enc : TypeId × Value → H) :
    ReturnsInHanded {} Tryz.checked os 3 .any (fun w args => (Rows.opsNilSpec.pre enc Tryz.prog Tryz.f3 Rows.opsNilRow.domain false w args ∧ laidMetH Tryz.prog Rows.opsNilRow.laid w) ∧ sizedMet enc Tryz.prog Tryz.f3 (OpenSpec.ofChange Rows.opsNilSpec) false w args)
      (Rows.opsNilSpec.post enc Tryz.prog Tryz.f3 false true false false) := by
  refine handed_shaped (C := Tryz.checked) (X := fun w _ => laidMetH Tryz.prog Rows.opsNilRow.laid w) (fun _ _ _ hh h => h.of_heap hh) own started (by kernel_rfl) Tryz.func3
    (ChangeSpec.witness_shaped (enc := enc) (C := Tryz.checked) (os := os) (X := fun w _ => laidMetH Tryz.prog Rows.opsNilRow.laid w) false (World.laidAll Tryz.prog os Rows.opsNilRow.laid) #[] 8 (World.laidAll_os _ _ _)
      (World.shaped_of_ZipB (by kernel_rfl) (by kernel_rfl)) (by kernel_rfl) (by kernel_rfl) (by kernel_rfl)
      (by rw [MakeChecks.laidMetH_plain _ _ _ (by kernel_rfl)]; exact laidMet_laidAll _ (by kernel_rfl) (by kernel_rfl))) ?_
  intro W args ds gs before hW hlaid hshape
  have hW' := hW
  obtain ⟨p, q, hA0, hV, rfl, _, _⟩ := hW
  have hA : DataW.TrodAll enc Tryz.prog W 0 (fun _ => true) true Tryz.f3.params.toList args.toList ds p := hA0
  rw [Tryz.params3] at hA
  obtain ⟨rfl, rfl, rfl⟩ := trodAll_none hA
  obtain ⟨rfl, rfl⟩ := trodVars_none hV
  simp only [List.append_nil] at hW'
  refine (walk W (vars_known hlaid hshape)).mono fun e W' ⟨he, hg⟩ => ?_
  subst he
  exact ⟨_, rfl, Am.post_of_below (pa := []) (pv := []) hW' (fun _ _ _ => (trodAll_cons_mk (shut_bool Tryz.underlying4 _) trodAll_mk0)) (fun sp _ => rfl) (fun _ _ => rfl) rfl
    hg (ok_one (by kernel_rfl) rfl (okWide_bool_mk Tryz.underlying4 _))⟩

theorem over : Rows.OpsNilSaid :=
  OpenClaim.holds_of_wide 3 Tryz.f3 rfl rfl rfl rfl rfl rfl rfl ⟨rfl, rfl, rfl, rfl, rfl⟩ rfl rfl rfl rfl rfl (by kernel_rfl) Tryz.func3 opsNil_closed
    (of_decide_eq_true (by kernel_rfl)) (by unfold Func.isWrapper; first | (rw [if_pos (by decide +kernel)]; kernel_rfl) | (rw [if_neg (by decide +kernel)]; exact ⟨rfl, rfl⟩))
    (fun os started H enc _ => lifted os started H enc)

theorem fact_w : Rows.opsNilRow.wfByText (OpenSpec.ofChange Rows.opsNilSpec) = true := by kernel_rfl

theorem fact_m : Tryz.pinned.checked.prog.mainIs = some (true, ("8fe59bf7d603d1362e0ed128f00bc3af15790c08dd7ebe8983a9f0f656650b29").toList) := by kernel_rfl

theorem fact_n : Tryz.prog.funcNamed Tryz.f3.name = some 3 := by kernel_rfl

theorem fact_l : true = Tryz.pinned.checked.prog.looks [] := by kernel_rfl

theorem goes_none {P : Program} (h : P.funcs.any Func.goes = false) (f : FuncId) : P.goes f = false := by
  have key : ∀ g : FuncId, (P.funcs[g]?).any Func.goes = false := by
    intro g
    cases e : P.funcs[g]? with
    | none => rfl
    | some fn =>
      have hm := Array.mem_of_getElem? e
      show Func.goes fn = false
      cases q : Func.goes fn with
      | false => rfl
      | true => rw [Array.any_eq_true'.2 ⟨fn, hm, q⟩] at h; cases h
  unfold Program.goes
  rw [h, Bool.and_false, Bool.or_false]
  simp [key]

theorem goes_by {c : OpenClaim} {P : Program} (hs : c.start = .entering) (h : P.funcs.any Func.goes = false) : false = c.goesBy P := by
  unfold OpenClaim.goesBy Program.goesAt Program.goesFrom
  rw [hs]
  cases P.funcNamed c.func with
  | none => rfl
  | some f => show false = (P.goes f || false); rw [goes_none h f]; rfl

theorem fact_go : Tryz.pinned.checked.prog.funcs.any Func.goes = false := by kernel_rfl

theorem fact_g : false = Rows.opsNilRow.goesBy Tryz.pinned.checked.prog := goes_by rfl fact_go

/-- ████ THE STATEMENT ████ -/
theorem proved : Rows.OpsNilCardSaid :=
  Claim7.holds_tied_plain_at .later [] [.data, .data, .data, .data, .sentinel, .sentinel, .pinned] true (true, "8fe59bf7d603d1362e0ed128f00bc3af15790c08dd7ebe8983a9f0f656650b29") true over (fun _ h => by cases h) fact_w (fun _ h => by cases h) opsNil_row_tie rfl ⟨rfl, rfl⟩ fact_m rfl
    (fun f fn hf hfn => by
      obtain rfl : f = 3 := Option.some.inj (fact_n.symm.trans hf) |>.symm
      obtain rfl : fn = Tryz.f3 := (Option.some.inj (Tryz.func3.symm.trans hfn)).symm
      exact ⟨fact_l, fun j t ht => by
        rw [Tryz.params3] at ht
        simp at ht⟩)
    fact_g
#print axioms proved
end Go.Proofs.YtialpccieggaoaaGreatDoor.opsNil
