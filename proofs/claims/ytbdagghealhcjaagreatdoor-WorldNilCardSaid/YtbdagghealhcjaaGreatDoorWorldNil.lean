/- 'Rows.WorldNilCardSaid': the law estuary/estuarylaw27.WorldNil holds: the given program is run by the abstract machine (its texts stand beside this one), and the run is the model's; the run reads no package variable. No condition. The card is tied by the given tie. -/
import Derived.Test.YtbdagghealhcjaaGreatDoorRows
import Derived.Test.YtbdagghealhcjaaGreatDoorWorldNilTied
import Derived.Test.YtbdagghealhcjaaGreatDoorCards
import Derived.WalkKit
import Derived.ProofKit
import Derived.OpenShut
import Derived.LaidMore
import Derived.Lay
import Derived.SevenTiedAt
import Derived.Stop.Joined
import Derived.Test.YtbdagghealhcjaaGreatDoorWorldNilRan
import Derived.Test.YtbdagghealhcjaaGreatDoorWorldNilFacts
namespace Go.Proofs.YtbdagghealhcjaaGreatDoor.worldNil
open Go.ChangeShapes Go.WideShapes Go.ChangeAt Go.RowKit

theorem own : ownKnob Tryz.prog.godebug = none := by kernel_rfl

theorem vars_known {w : World} (_ : laidMetH Tryz.prog Rows.worldNilRow.laid w) : Am.VarsR w Am.vars0 := fun x m => by unfold Am.vars0 at m; cases m

/-- THE WALK: the Go text returns true, and what was there stays. -/
theorem walk (w : World) (hv : Am.VarsR w Am.vars0) : Calls Tryz.prog 3 #[] w fun e w' => e = .returned (.bool true) ∧ Below w.heap.size w w' :=
  Am.worldNil_calls w hv

set_option maxRecDepth 100000 in
theorem lifted (os : Os) (started : os.Started) (H : Type) (enc : TypeId × Value → H) :
    ReturnsInHanded {} Tryz.checked os 3 .any (fun w args => (Rows.worldNilSpec.pre enc Tryz.prog Tryz.f3 Rows.worldNilRow.domain false w args ∧ laidMetH Tryz.prog Rows.worldNilRow.laid w) ∧ sizedMet enc Tryz.prog Tryz.f3 (OpenSpec.ofChange Rows.worldNilSpec) false w args)
      (Rows.worldNilSpec.post enc Tryz.prog Tryz.f3 false true false false) := by
  refine returnsInHanded_of_change_and (C := Tryz.checked) (X := fun w _ => laidMetH Tryz.prog Rows.worldNilRow.laid w) (fun _ _ _ hh h => h.of_heap hh) own started (by kernel_rfl) Tryz.func3
    (ChangeSpec.witness_shaped (enc := enc) (C := Tryz.checked) (os := os) (X := fun w _ => laidMetH Tryz.prog Rows.worldNilRow.laid w) false (World.laidAll Tryz.prog os Rows.worldNilRow.laid) #[] 8 (World.laidAll_os _ _ _)
      (World.shaped_of_ZipB (by kernel_rfl) (by kernel_rfl)) (by kernel_rfl) (by kernel_rfl) (by kernel_rfl)
      (by rw [MakeChecks.laidMetH_plain _ _ _ (by kernel_rfl)]; exact laidMet_laidAll _ (by kernel_rfl) (by kernel_rfl))) ?_
  intro W base args ds gs before hval0 hW hc _ hlaid _
  have hW' := hW
  obtain ⟨p, q, hA0, hV, rfl, _, _⟩ := hW
  have hA : DataW.TrodAll enc Tryz.prog W 0 (fun _ => true) true Tryz.f3.params.toList args.toList ds p := hA0
  rw [Tryz.params3] at hA
  obtain ⟨rfl, rfl, rfl⟩ := trodAll_none hA
  obtain ⟨rfl, rfl⟩ := trodVars_none hV
  simp only [List.append_nil] at hW'
  refine (walk W (vars_known hlaid)).mono fun e W' ⟨he, hg⟩ => ?_
  subst he
  exact ⟨_, rfl, Am.post_of_below (pa := []) (pv := []) hW' (fun _ _ _ => (trodAll_cons_mk (shut_bool Tryz.underlying4 _) trodAll_mk0)) (fun sp _ => rfl) (fun _ _ => rfl) rfl
    hg (ok_one (by kernel_rfl) rfl (okWide_bool_mk Tryz.underlying4 _))⟩

theorem over : Rows.WorldNilSaid :=
  OpenClaim.holds_of_wide 3 Tryz.f3 rfl rfl rfl rfl rfl rfl rfl ⟨rfl, rfl, rfl, rfl, rfl⟩ rfl rfl rfl rfl rfl (by kernel_rfl) Tryz.func3 worldNil_closed
    (of_decide_eq_true (by kernel_rfl)) (by unfold Func.isWrapper; first | (rw [if_pos (by decide +kernel)]; kernel_rfl) | (rw [if_neg (by decide +kernel)]; exact ⟨rfl, rfl⟩))
    (fun os started H enc _ => lifted os started H enc)

theorem fact_w : Rows.worldNilRow.wfByText (OpenSpec.ofChange Rows.worldNilSpec) = true := by kernel_rfl

theorem fact_m : Tryz.pinned.checked.prog.mainIs = some (true, ("d6bf1382b34ffb8f6c1cb11b8aed3a99f6c46f95ae988645fb8cd1d7155e7ef2").toList) := by kernel_rfl

theorem fact_n : Tryz.prog.funcNamed Tryz.f3.name = some 3 := by kernel_rfl

theorem fact_l : true = Tryz.pinned.checked.prog.looks [] := by kernel_rfl

theorem goes_none {P : Program} (h : P.funcs.any Func.goes = false) (f : FuncId) : P.goes f = false := by
  have key : ∀ g : FuncId, (P.funcs[g]?).any Func.goes = false := by
    intro g
    cases e : P.funcs[g]? with
    | none => rfl
    | some fn =>
      have hm := Array.mem_of_getElem? e
      show Func.goes fn = false
      cases q : Func.goes fn with
      | false => rfl
      | true => rw [Array.any_eq_true'.2 ⟨fn, hm, q⟩] at h; cases h
  unfold Program.goes
  rw [h, Bool.and_false, Bool.or_false]
  simp [key]

theorem goes_by {c : OpenClaim} {P : Program} (hs : c.start = .entering) (h : P.funcs.any Func.goes = false) : false = c.goesBy P := by
  unfold OpenClaim.goesBy Program.goesAt Program.goesFrom
  rw [hs]
  cases P.funcNamed c.func with
  | none => rfl
  | some f => show false = (P.goes f || false); rw [goes_none h f]; rfl

theorem fact_go : Tryz.pinned.checked.prog.funcs.any Func.goes = false := by kernel_rfl

theorem fact_g : false = Rows.worldNilRow.goesBy Tryz.pinned.checked.prog := goes_by rfl fact_go

/-- ████ THE STATEMENT ████ -/
theorem proved : Rows.WorldNilCardSaid :=
  Claim7.holds_tied_plain_at .later [] [.pinned, .data, .data, .data, .data] true (true, "d6bf1382b34ffb8f6c1cb11b8aed3a99f6c46f95ae988645fb8cd1d7155e7ef2") true over (fun _ h => by cases h) fact_w (fun _ h => by cases h) worldNil_row_tie rfl ⟨rfl, rfl⟩ fact_m rfl
    (fun f fn hf hfn => by
      obtain rfl : f = 3 := Option.some.inj (fact_n.symm.trans hf) |>.symm
      obtain rfl : fn = Tryz.f3 := (Option.some.inj (Tryz.func3.symm.trans hfn)).symm
      exact ⟨fact_l, fun j t ht => by
        rw [Tryz.params3] at ht
        simp at ht⟩)
    fact_g
#print axioms proved
end Go.Proofs.YtbdagghealhcjaaGreatDoor.worldNil
