/- The closed facts of the row of estuary/estuarylaw06.StampOrders, one by one. No condition. -/
import Derived.Test.YtjhgembcdndmkaaGreatDoorRows
import Derived.JoinedOf
import Derived.KernelRfl
namespace Go.Proofs.YtjhgembcdndmkaaGreatDoor
open Go

theorem stampOrders_band {a b : Bool} (h : a = true) (k : b = true) : (a && b) = true := by rw [h, k]; rfl

theorem stampOrders_fact0 : (fun (_P : Program) (_f : FuncId) (_fn : Func) (s : ChangeSpec) (c : OpenClaim) => (c.wf (OpenSpec.ofChange s) : Bool)) Tryz.prog 6 Tryz.f6 Rows.stampOrdersSpec Rows.stampOrdersRow = true := by kernel_rfl
theorem stampOrders_fact1 : (fun (P : Program) (_f : FuncId) (_fn : Func) (_s : ChangeSpec) (_c : OpenClaim) => (laidOutB P : Bool)) Tryz.prog 6 Tryz.f6 Rows.stampOrdersSpec Rows.stampOrdersRow = true := by kernel_rfl
theorem stampOrders_fact2 : (fun (P : Program) (_f : FuncId) (_fn : Func) (_s : ChangeSpec) (_c : OpenClaim) => (mapsRowed P : Bool)) Tryz.prog 6 Tryz.f6 Rows.stampOrdersSpec Rows.stampOrdersRow = true := by kernel_rfl
theorem stampOrders_fact3 : (fun (P : Program) (_f : FuncId) (fn : Func) (_s : ChangeSpec) (_c : OpenClaim) => (fn.params.all (P.readableRec ·) : Bool)) Tryz.prog 6 Tryz.f6 Rows.stampOrdersSpec Rows.stampOrdersRow = true := by kernel_rfl
theorem stampOrders_fact4 : (fun (P : Program) (_f : FuncId) (_fn : Func) (s : ChangeSpec) (c : OpenClaim) => (namedTie P c.named s.vars : Bool)) Tryz.prog 6 Tryz.f6 Rows.stampOrdersSpec Rows.stampOrdersRow = true := by kernel_rfl
theorem stampOrders_fact5 : (fun (_P : Program) (_f : FuncId) (_fn : Func) (_s : ChangeSpec) (c : OpenClaim) => ((c.stops == []) : Bool)) Tryz.prog 6 Tryz.f6 Rows.stampOrdersSpec Rows.stampOrdersRow = true := by kernel_rfl
theorem stampOrders_fact6 : (fun (P : Program) (_f : FuncId) (_fn : Func) (_s : ChangeSpec) (_c : OpenClaim) => ((P.stops == []) : Bool)) Tryz.prog 6 Tryz.f6 Rows.stampOrdersSpec Rows.stampOrdersRow = true := by kernel_rfl
theorem stampOrders_fact7 : (fun (_P : Program) (_f : FuncId) (_fn : Func) (_s : ChangeSpec) (c : OpenClaim) => ((c.knobs == []) : Bool)) Tryz.prog 6 Tryz.f6 Rows.stampOrdersSpec Rows.stampOrdersRow = true := by kernel_rfl
theorem stampOrders_fact8 : (fun (P : Program) (_f : FuncId) (_fn : Func) (_s : ChangeSpec) (_c : OpenClaim) => ((P.stopKnobs == []) : Bool)) Tryz.prog 6 Tryz.f6 Rows.stampOrdersSpec Rows.stampOrdersRow = true := by kernel_rfl
theorem stampOrders_fact9 : (fun (P : Program) (f : FuncId) (_fn : Func) (_s : ChangeSpec) (c : OpenClaim) => ((c.inPlace == P.inPlace f) : Bool)) Tryz.prog 6 Tryz.f6 Rows.stampOrdersSpec Rows.stampOrdersRow = true := by kernel_rfl
theorem stampOrders_fact10 : (fun (P : Program) (f : FuncId) (_fn : Func) (_s : ChangeSpec) (c : OpenClaim) => ((c.unfollowed == P.unfollowed f) : Bool)) Tryz.prog 6 Tryz.f6 Rows.stampOrdersSpec Rows.stampOrdersRow = true := by kernel_rfl
theorem stampOrders_fact11 : (fun (P : Program) (f : FuncId) (_fn : Func) (_s : ChangeSpec) (c : OpenClaim) => ((c.recurses == P.recurses f) : Bool)) Tryz.prog 6 Tryz.f6 Rows.stampOrdersSpec Rows.stampOrdersRow = true := by kernel_rfl
theorem stampOrders_fact12 : (fun (P : Program) (f : FuncId) (_fn : Func) (_s : ChangeSpec) (c : OpenClaim) => ((c.named == P.varsNamed f) : Bool)) Tryz.prog 6 Tryz.f6 Rows.stampOrdersSpec Rows.stampOrdersRow = true := by kernel_rfl
theorem stampOrders_fact13 : (fun (P : Program) (_f : FuncId) (fn : Func) (s : ChangeSpec) (c : OpenClaim) => ((c.maps == (fn.params.toList ++ s.plain.varTypes P).any (P.mapsRec ·)) : Bool)) Tryz.prog 6 Tryz.f6 Rows.stampOrdersSpec Rows.stampOrdersRow = true := by kernel_rfl
theorem stampOrders_fact14 : (fun (P : Program) (_f : FuncId) (fn : Func) (s : ChangeSpec) (c : OpenClaim) => ((c.ifaces == (fn.params.toList ++ s.plain.varTypes P).any (P.ifacesRec ·)) : Bool)) Tryz.prog 6 Tryz.f6 Rows.stampOrdersSpec Rows.stampOrdersRow = true := by kernel_rfl
theorem stampOrders_fact15 : (fun (P : Program) (_f : FuncId) (fn : Func) (_s : ChangeSpec) (c : OpenClaim) => ((c.mapsOut == P.mapsAmong fn.resultTypes.toList) : Bool)) Tryz.prog 6 Tryz.f6 Rows.stampOrdersSpec Rows.stampOrdersRow = true := by kernel_rfl
theorem stampOrders_fact16 : (fun (P : Program) (_f : FuncId) (fn : Func) (s : ChangeSpec) (c : OpenClaim) => ((c.loops == (fn.params.toList ++ s.plain.varTypes P).any (P.loopsFrom ·)) : Bool)) Tryz.prog 6 Tryz.f6 Rows.stampOrdersSpec Rows.stampOrdersRow = true := by kernel_rfl
theorem stampOrders_fact17 : (fun (P : Program) (_f : FuncId) (fn : Func) (s : ChangeSpec) (c : OpenClaim) => ((c.wideKeys == (fn.params.toList ++ s.plain.varTypes P ++ fn.resultTypes.toList).any (P.wideKeysFrom ·)) : Bool)) Tryz.prog 6 Tryz.f6 Rows.stampOrdersSpec Rows.stampOrdersRow = true := by kernel_rfl
theorem stampOrders_fact18 : (fun (P : Program) (_f : FuncId) (_fn : Func) (s : ChangeSpec) (_c : OpenClaim) => (s.vars.all (P.varReadable ·) : Bool)) Tryz.prog 6 Tryz.f6 Rows.stampOrdersSpec Rows.stampOrdersRow = true := by kernel_rfl
theorem stampOrders_fact19 : (fun (P : Program) (_f : FuncId) (fn : Func) (_s : ChangeSpec) (_c : OpenClaim) => (fn.resultTypes.all (fun t => P.readableRec t && decide (t < P.types.size)) : Bool)) Tryz.prog 6 Tryz.f6 Rows.stampOrdersSpec Rows.stampOrdersRow = true := by kernel_rfl
theorem stampOrders_fact20 : (fun (P : Program) (_f : FuncId) (fn : Func) (_s : ChangeSpec) (c : OpenClaim) => ((c.ifacesOut == fn.resultTypes.toList.any (P.ifacesRec ·)) : Bool)) Tryz.prog 6 Tryz.f6 Rows.stampOrdersSpec Rows.stampOrdersRow = true := by kernel_rfl
theorem stampOrders_fact21 : (fun (P : Program) (_f : FuncId) (fn : Func) (_s : ChangeSpec) (c : OpenClaim) => ((c.loopsOut == fn.resultTypes.toList.any (P.loopsFrom ·)) : Bool)) Tryz.prog 6 Tryz.f6 Rows.stampOrdersSpec Rows.stampOrdersRow = true := by kernel_rfl
theorem stampOrders_fact22 : (fun (P : Program) (_f : FuncId) (_fn : Func) (_s : ChangeSpec) (c : OpenClaim) => ((c.plainKeys == P.plainKeys) : Bool)) Tryz.prog 6 Tryz.f6 Rows.stampOrdersSpec Rows.stampOrdersRow = true := by kernel_rfl
theorem stampOrders_fact23 : (fun (_P : Program) (_f : FuncId) (_fn : Func) (_s : ChangeSpec) (c : OpenClaim) => (c.shortTexts.isNone : Bool)) Tryz.prog 6 Tryz.f6 Rows.stampOrdersSpec Rows.stampOrdersRow = true := by kernel_rfl
theorem stampOrders_fact24 : (fun (P : Program) (_f : FuncId) (_fn : Func) (_s : ChangeSpec) (_c : OpenClaim) => (P.stopsHeard : Bool)) Tryz.prog 6 Tryz.f6 Rows.stampOrdersSpec Rows.stampOrdersRow = true := by kernel_rfl
theorem stampOrders_fact25 : (fun (P : Program) (_f : FuncId) (_fn : Func) (_s : ChangeSpec) (_c : OpenClaim) => (P.mayEnter : Bool)) Tryz.prog 6 Tryz.f6 Rows.stampOrdersSpec Rows.stampOrdersRow = true := by kernel_rfl
theorem stampOrders_fact26 : (fun (P : Program) (_f : FuncId) (_fn : Func) (_s : ChangeSpec) (c : OpenClaim) => ((c.lifted == P.liftsFinal) : Bool)) Tryz.prog 6 Tryz.f6 Rows.stampOrdersSpec Rows.stampOrdersRow = true := by kernel_rfl
theorem stampOrders_fact27 : (fun (P : Program) (_f : FuncId) (_fn : Func) (_s : ChangeSpec) (c : OpenClaim) => ((P.make == some c.make) : Bool)) Tryz.prog 6 Tryz.f6 Rows.stampOrdersSpec Rows.stampOrdersRow = true := by kernel_rfl
theorem stampOrders_fact28 : (fun (P : Program) (_f : FuncId) (fn : Func) (_s : ChangeSpec) (c : OpenClaim) => ((c.kinds == (if c.domain.isEmpty then [] else fn.params.toList.map fun t => match P.underlying t with | some (.int k) => some k | _ => none)) : Bool)) Tryz.prog 6 Tryz.f6 Rows.stampOrdersSpec Rows.stampOrdersRow = true := by kernel_rfl
theorem stampOrders_fact29 : (fun (_P : Program) (_f : FuncId) (_fn : Func) (_s : ChangeSpec) (c : OpenClaim) => ((c.pinned == c.pinnedBy) : Bool)) Tryz.prog 6 Tryz.f6 Rows.stampOrdersSpec Rows.stampOrdersRow = true := by kernel_rfl
theorem stampOrders_fact30 : (fun (P : Program) (_f : FuncId) (fn : Func) (s : ChangeSpec) (c : OpenClaim) => ((c.veiled == (fn.params.toList ++ s.plain.varTypes P ++ fn.resultTypes.toList).any (P.veiledRec ·)) : Bool)) Tryz.prog 6 Tryz.f6 Rows.stampOrdersSpec Rows.stampOrdersRow = true := by kernel_rfl
theorem stampOrders_fact31 : (fun (P : Program) (_f : FuncId) (fn : Func) (s : ChangeSpec) (c : OpenClaim) => (c.veiledFits P fn.params.toList (fn.params.toList ++ s.plain.varTypes P ++ fn.resultTypes.toList) : Bool)) Tryz.prog 6 Tryz.f6 Rows.stampOrdersSpec Rows.stampOrdersRow = true := by kernel_rfl

set_option maxRecDepth 100000 in
/-- The closed facts together. -/
theorem stampOrders_closed : joinedFacts Tryz.prog 6 Tryz.f6 Rows.stampOrdersSpec Rows.stampOrdersRow = true := by
  unfold joinedFacts
  refine stampOrders_band ?_ stampOrders_fact31
  refine stampOrders_band ?_ stampOrders_fact30
  refine stampOrders_band ?_ stampOrders_fact29
  refine stampOrders_band ?_ stampOrders_fact28
  refine stampOrders_band ?_ stampOrders_fact27
  refine stampOrders_band ?_ stampOrders_fact26
  refine stampOrders_band ?_ stampOrders_fact25
  refine stampOrders_band ?_ stampOrders_fact24
  refine stampOrders_band ?_ stampOrders_fact23
  refine stampOrders_band ?_ stampOrders_fact22
  refine stampOrders_band ?_ stampOrders_fact21
  refine stampOrders_band ?_ stampOrders_fact20
  refine stampOrders_band ?_ stampOrders_fact19
  refine stampOrders_band ?_ stampOrders_fact18
  refine stampOrders_band ?_ stampOrders_fact17
  refine stampOrders_band ?_ stampOrders_fact16
  refine stampOrders_band ?_ stampOrders_fact15
  refine stampOrders_band ?_ stampOrders_fact14
  refine stampOrders_band ?_ stampOrders_fact13
  refine stampOrders_band ?_ stampOrders_fact12
  refine stampOrders_band ?_ stampOrders_fact11
  refine stampOrders_band ?_ stampOrders_fact10
  refine stampOrders_band ?_ stampOrders_fact9
  refine stampOrders_band ?_ stampOrders_fact8
  refine stampOrders_band ?_ stampOrders_fact7
  refine stampOrders_band ?_ stampOrders_fact6
  refine stampOrders_band ?_ stampOrders_fact5
  refine stampOrders_band ?_ stampOrders_fact4
  refine stampOrders_band ?_ stampOrders_fact3
  refine stampOrders_band ?_ stampOrders_fact2
  refine stampOrders_band ?_ stampOrders_fact1
  exact stampOrders_fact0
end Go.Proofs.YtjhgembcdndmkaaGreatDoor
