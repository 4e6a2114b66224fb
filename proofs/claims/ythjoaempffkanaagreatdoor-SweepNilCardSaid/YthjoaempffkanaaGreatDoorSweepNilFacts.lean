/- The closed facts of the row of estuary/estuarylaw24.SweepNil, one by one. No condition. -/
import Derived.Test.YthjoaempffkanaaGreatDoorRows
import Derived.JoinedOf
import Derived.KernelRfl
namespace Go.Proofs.YthjoaempffkanaaGreatDoor
open Go

theorem sweepNil_band {a b : Bool} (h : a = true) (k : b = true) : (a && b) = true := by rw [h, k]; rfl

theorem sweepNil_fact0 : (fun (_P : Program) (_f : FuncId) (_fn : Func) (s : ChangeSpec) (c : OpenClaim) => (c.wf (OpenSpec.ofChange s) : Bool)) Tryz.prog 3 Tryz.f3 Rows.sweepNilSpec Rows.sweepNilRow = true := by kernel_rfl
theorem sweepNil_fact1 : (fun (P : Program) (_f : FuncId) (_fn : Func) (_s : ChangeSpec) (_c : OpenClaim) => (laidOutB P : Bool)) Tryz.prog 3 Tryz.f3 Rows.sweepNilSpec Rows.sweepNilRow = true := by kernel_rfl
theorem sweepNil_fact2 : (fun (P : Program) (_f : FuncId) (_fn : Func) (_s : ChangeSpec) (_c : OpenClaim) => (mapsRowed P : Bool)) Tryz.prog 3 Tryz.f3 Rows.sweepNilSpec Rows.sweepNilRow = true := by kernel_rfl
theorem sweepNil_fact3 : (fun (P : Program) (_f : FuncId) (fn : Func) (_s : ChangeSpec) (_c : OpenClaim) => (fn.params.all (P.readableRec ·) : Bool)) Tryz.prog 3 Tryz.f3 Rows.sweepNilSpec Rows.sweepNilRow = true := by kernel_rfl
theorem sweepNil_fact4 : (fun (P : Program) (_f : FuncId) (_fn : Func) (s : ChangeSpec) (c : OpenClaim) => (namedTie P c.named s.vars : Bool)) Tryz.prog 3 Tryz.f3 Rows.sweepNilSpec Rows.sweepNilRow = true := by kernel_rfl
theorem sweepNil_fact5 : (fun (_P : Program) (_f : FuncId) (_fn : Func) (_s : ChangeSpec) (c : OpenClaim) => ((c.stops == []) : Bool)) Tryz.prog 3 Tryz.f3 Rows.sweepNilSpec Rows.sweepNilRow = true := by kernel_rfl
theorem sweepNil_fact6 : (fun (P : Program) (_f : FuncId) (_fn : Func) (_s : ChangeSpec) (_c : OpenClaim) => ((P.stops == []) : Bool)) Tryz.prog 3 Tryz.f3 Rows.sweepNilSpec Rows.sweepNilRow = true := by kernel_rfl
theorem sweepNil_fact7 : (fun (_P : Program) (_f : FuncId) (_fn : Func) (_s : ChangeSpec) (c : OpenClaim) => ((c.knobs == []) : Bool)) Tryz.prog 3 Tryz.f3 Rows.sweepNilSpec Rows.sweepNilRow = true := by kernel_rfl
theorem sweepNil_fact8 : (fun (P : Program) (_f : FuncId) (_fn : Func) (_s : ChangeSpec) (_c : OpenClaim) => ((P.stopKnobs == []) : Bool)) Tryz.prog 3 Tryz.f3 Rows.sweepNilSpec Rows.sweepNilRow = true := by kernel_rfl
theorem sweepNil_fact9 : (fun (P : Program) (f : FuncId) (_fn : Func) (_s : ChangeSpec) (c : OpenClaim) => ((c.inPlace == P.inPlace f) : Bool)) Tryz.prog 3 Tryz.f3 Rows.sweepNilSpec Rows.sweepNilRow = true := by kernel_rfl
theorem sweepNil_fact10 : (fun (P : Program) (f : FuncId) (_fn : Func) (_s : ChangeSpec) (c : OpenClaim) => ((c.unfollowed == P.unfollowed f) : Bool)) Tryz.prog 3 Tryz.f3 Rows.sweepNilSpec Rows.sweepNilRow = true := by kernel_rfl
theorem sweepNil_fact11 : (fun (P : Program) (f : FuncId) (_fn : Func) (_s : ChangeSpec) (c : OpenClaim) => ((c.recurses == P.recurses f) : Bool)) Tryz.prog 3 Tryz.f3 Rows.sweepNilSpec Rows.sweepNilRow = true := by kernel_rfl
theorem sweepNil_fact12 : (fun (P : Program) (f : FuncId) (_fn : Func) (_s : ChangeSpec) (c : OpenClaim) => ((c.named == P.varsNamed f) : Bool)) Tryz.prog 3 Tryz.f3 Rows.sweepNilSpec Rows.sweepNilRow = true := by kernel_rfl
theorem sweepNil_fact13 : (fun (P : Program) (_f : FuncId) (fn : Func) (s : ChangeSpec) (c : OpenClaim) => ((c.maps == (fn.params.toList ++ s.plain.varTypes P).any (P.mapsRec ·)) : Bool)) Tryz.prog 3 Tryz.f3 Rows.sweepNilSpec Rows.sweepNilRow = true := by kernel_rfl
theorem sweepNil_fact14 : (fun (P : Program) (_f : FuncId) (fn : Func) (s : ChangeSpec) (c : OpenClaim) => ((c.ifaces == (fn.params.toList ++ s.plain.varTypes P).any (P.ifacesRec ·)) : Bool)) Tryz.prog 3 Tryz.f3 Rows.sweepNilSpec Rows.sweepNilRow = true := by kernel_rfl
theorem sweepNil_fact15 : (fun (P : Program) (_f : FuncId) (fn : Func) (_s : ChangeSpec) (c : OpenClaim) => ((c.mapsOut == P.mapsAmong fn.resultTypes.toList) : Bool)) Tryz.prog 3 Tryz.f3 Rows.sweepNilSpec Rows.sweepNilRow = true := by kernel_rfl
theorem sweepNil_fact16 : (fun (P : Program) (_f : FuncId) (fn : Func) (s : ChangeSpec) (c : OpenClaim) => ((c.loops == (fn.params.toList ++ s.plain.varTypes P).any (P.loopsFrom ·)) : Bool)) Tryz.prog 3 Tryz.f3 Rows.sweepNilSpec Rows.sweepNilRow = true := by kernel_rfl
theorem sweepNil_fact17 : (fun (P : Program) (_f : FuncId) (fn : Func) (s : ChangeSpec) (c : OpenClaim) => ((c.wideKeys == (fn.params.toList ++ s.plain.varTypes P ++ fn.resultTypes.toList).any (P.wideKeysFrom ·)) : Bool)) Tryz.prog 3 Tryz.f3 Rows.sweepNilSpec Rows.sweepNilRow = true := by kernel_rfl
theorem sweepNil_fact18 : (fun (P : Program) (_f : FuncId) (_fn : Func) (s : ChangeSpec) (_c : OpenClaim) => (s.vars.all (P.varReadable ·) : Bool)) Tryz.prog 3 Tryz.f3 Rows.sweepNilSpec Rows.sweepNilRow = true := by kernel_rfl
theorem sweepNil_fact19 : (fun (P : Program) (_f : FuncId) (fn : Func) (_s : ChangeSpec) (_c : OpenClaim) => (fn.resultTypes.all (fun t => P.readableRec t && decide (t < P.types.size)) : Bool)) Tryz.prog 3 Tryz.f3 Rows.sweepNilSpec Rows.sweepNilRow = true := by kernel_rfl
theorem sweepNil_fact20 : (fun (P : Program) (_f : FuncId) (fn : Func) (_s : ChangeSpec) (c : OpenClaim) => ((c.ifacesOut == fn.resultTypes.toList.any (P.ifacesRec ·)) : Bool)) Tryz.prog 3 Tryz.f3 Rows.sweepNilSpec Rows.sweepNilRow = true := by kernel_rfl
theorem sweepNil_fact21 : (fun (P : Program) (_f : FuncId) (fn : Func) (_s : ChangeSpec) (c : OpenClaim) => ((c.loopsOut == fn.resultTypes.toList.any (P.loopsFrom ·)) : Bool)) Tryz.prog 3 Tryz.f3 Rows.sweepNilSpec Rows.sweepNilRow = true := by kernel_rfl
theorem sweepNil_fact22 : (fun (P : Program) (_f : FuncId) (_fn : Func) (_s : ChangeSpec) (c : OpenClaim) => ((c.plainKeys == P.plainKeys) : Bool)) Tryz.prog 3 Tryz.f3 Rows.sweepNilSpec Rows.sweepNilRow = true := by kernel_rfl
theorem sweepNil_fact23 : (fun (_P : Program) (_f : FuncId) (_fn : Func) (_s : ChangeSpec) (c : OpenClaim) => (c.shortTexts.isNone : Bool)) Tryz.prog 3 Tryz.f3 Rows.sweepNilSpec Rows.sweepNilRow = true := by kernel_rfl
theorem sweepNil_fact24 : (fun (P : Program) (_f : FuncId) (_fn : Func) (_s : ChangeSpec) (_c : OpenClaim) => (P.stopsHeard : Bool)) Tryz.prog 3 Tryz.f3 Rows.sweepNilSpec Rows.sweepNilRow = true := by kernel_rfl
theorem sweepNil_fact25 : (fun (P : Program) (_f : FuncId) (_fn : Func) (_s : ChangeSpec) (_c : OpenClaim) => (P.mayEnter : Bool)) Tryz.prog 3 Tryz.f3 Rows.sweepNilSpec Rows.sweepNilRow = true := by kernel_rfl
theorem sweepNil_fact26 : (fun (P : Program) (_f : FuncId) (_fn : Func) (_s : ChangeSpec) (c : OpenClaim) => ((c.lifted == P.liftsFinal) : Bool)) Tryz.prog 3 Tryz.f3 Rows.sweepNilSpec Rows.sweepNilRow = true := by kernel_rfl
theorem sweepNil_fact27 : (fun (P : Program) (_f : FuncId) (_fn : Func) (_s : ChangeSpec) (c : OpenClaim) => ((P.make == some c.make) : Bool)) Tryz.prog 3 Tryz.f3 Rows.sweepNilSpec Rows.sweepNilRow = true := by kernel_rfl
theorem sweepNil_fact28 : (fun (P : Program) (_f : FuncId) (fn : Func) (_s : ChangeSpec) (c : OpenClaim) => ((c.kinds == (if c.domain.isEmpty then [] else fn.params.toList.map fun t => match P.underlying t with | some (.int k) => some k | _ => none)) : Bool)) Tryz.prog 3 Tryz.f3 Rows.sweepNilSpec Rows.sweepNilRow = true := by kernel_rfl
theorem sweepNil_fact29 : (fun (_P : Program) (_f : FuncId) (_fn : Func) (_s : ChangeSpec) (c : OpenClaim) => ((c.pinned == c.pinnedBy) : Bool)) Tryz.prog 3 Tryz.f3 Rows.sweepNilSpec Rows.sweepNilRow = true := by kernel_rfl
theorem sweepNil_fact30 : (fun (P : Program) (_f : FuncId) (fn : Func) (s : ChangeSpec) (c : OpenClaim) => ((c.veiled == (fn.params.toList ++ s.plain.varTypes P ++ fn.resultTypes.toList).any (P.veiledRec ·)) : Bool)) Tryz.prog 3 Tryz.f3 Rows.sweepNilSpec Rows.sweepNilRow = true := by kernel_rfl
theorem sweepNil_fact31 : (fun (P : Program) (_f : FuncId) (fn : Func) (s : ChangeSpec) (c : OpenClaim) => (c.veiledFits P fn.params.toList (fn.params.toList ++ s.plain.varTypes P ++ fn.resultTypes.toList) : Bool)) Tryz.prog 3 Tryz.f3 Rows.sweepNilSpec Rows.sweepNilRow = true := by kernel_rfl

set_option maxRecDepth 100000 in
/-- The closed facts together. -/
theorem sweepNil_closed : joinedFacts Tryz.prog 3 Tryz.f3 Rows.sweepNilSpec Rows.sweepNilRow = true := by
  unfold joinedFacts
  refine sweepNil_band ?_ sweepNil_fact31
  refine sweepNil_band ?_ sweepNil_fact30
  refine sweepNil_band ?_ sweepNil_fact29
  refine sweepNil_band ?_ sweepNil_fact28
  refine sweepNil_band ?_ sweepNil_fact27
  refine sweepNil_band ?_ sweepNil_fact26
  refine sweepNil_band ?_ sweepNil_fact25
  refine sweepNil_band ?_ sweepNil_fact24
  refine sweepNil_band ?_ sweepNil_fact23
  refine sweepNil_band ?_ sweepNil_fact22
  refine sweepNil_band ?_ sweepNil_fact21
  refine sweepNil_band ?_ sweepNil_fact20
  refine sweepNil_band ?_ sweepNil_fact19
  refine sweepNil_band ?_ sweepNil_fact18
  refine sweepNil_band ?_ sweepNil_fact17
  refine sweepNil_band ?_ sweepNil_fact16
  refine sweepNil_band ?_ sweepNil_fact15
  refine sweepNil_band ?_ sweepNil_fact14
  refine sweepNil_band ?_ sweepNil_fact13
  refine sweepNil_band ?_ sweepNil_fact12
  refine sweepNil_band ?_ sweepNil_fact11
  refine sweepNil_band ?_ sweepNil_fact10
  refine sweepNil_band ?_ sweepNil_fact9
  refine sweepNil_band ?_ sweepNil_fact8
  refine sweepNil_band ?_ sweepNil_fact7
  refine sweepNil_band ?_ sweepNil_fact6
  refine sweepNil_band ?_ sweepNil_fact5
  refine sweepNil_band ?_ sweepNil_fact4
  refine sweepNil_band ?_ sweepNil_fact3
  refine sweepNil_band ?_ sweepNil_fact2
  refine sweepNil_band ?_ sweepNil_fact1
  exact sweepNil_fact0
end Go.Proofs.YthjoaempffkanaaGreatDoor
