/- The closed facts of the row of estuary/estuarylaw06.StampWrites, one by one. No condition. -/
import Derived.Test.YtjhgembcdndmkaaDoorRows
import Derived.JoinedOf
import Derived.KernelRfl
namespace Go.Proofs.YtjhgembcdndmkaaDoor
open Go

theorem stampWrites_band {a b : Bool} (h : a = true) (k : b = true) : (a && b) = true := by rw [h, k]; rfl

theorem stampWrites_fact0 : (fun (_P : Program) (_f : FuncId) (_fn : Func) (s : ChangeSpec) (c : OpenClaim) => (c.wf (OpenSpec.ofChange s) : Bool)) Tryd.prog 3 Tryd.f3 Rows.stampWritesSpec Rows.stampWritesRow = true := by kernel_rfl
theorem stampWrites_fact1 : (fun (P : Program) (_f : FuncId) (_fn : Func) (_s : ChangeSpec) (_c : OpenClaim) => (laidOutB P : Bool)) Tryd.prog 3 Tryd.f3 Rows.stampWritesSpec Rows.stampWritesRow = true := by kernel_rfl
theorem stampWrites_fact2 : (fun (P : Program) (_f : FuncId) (_fn : Func) (_s : ChangeSpec) (_c : OpenClaim) => (mapsRowed P : Bool)) Tryd.prog 3 Tryd.f3 Rows.stampWritesSpec Rows.stampWritesRow = true := by kernel_rfl
theorem stampWrites_fact3 : (fun (P : Program) (_f : FuncId) (fn : Func) (_s : ChangeSpec) (_c : OpenClaim) => (fn.params.all (P.readableRec ·) : Bool)) Tryd.prog 3 Tryd.f3 Rows.stampWritesSpec Rows.stampWritesRow = true := by kernel_rfl
theorem stampWrites_fact4 : (fun (P : Program) (_f : FuncId) (_fn : Func) (s : ChangeSpec) (c : OpenClaim) => (namedTie P c.named s.vars : Bool)) Tryd.prog 3 Tryd.f3 Rows.stampWritesSpec Rows.stampWritesRow = true := by kernel_rfl
theorem stampWrites_fact5 : (fun (_P : Program) (_f : FuncId) (_fn : Func) (_s : ChangeSpec) (c : OpenClaim) => ((c.stops == []) : Bool)) Tryd.prog 3 Tryd.f3 Rows.stampWritesSpec Rows.stampWritesRow = true := by kernel_rfl
theorem stampWrites_fact6 : (fun (P : Program) (_f : FuncId) (_fn : Func) (_s : ChangeSpec) (_c : OpenClaim) => ((P.stops == []) : Bool)) Tryd.prog 3 Tryd.f3 Rows.stampWritesSpec Rows.stampWritesRow = true := by kernel_rfl
theorem stampWrites_fact7 : (fun (_P : Program) (_f : FuncId) (_fn : Func) (_s : ChangeSpec) (c : OpenClaim) => ((c.knobs == []) : Bool)) Tryd.prog 3 Tryd.f3 Rows.stampWritesSpec Rows.stampWritesRow = true := by kernel_rfl
theorem stampWrites_fact8 : (fun (P : Program) (_f : FuncId) (_fn : Func) (_s : ChangeSpec) (_c : OpenClaim) => ((P.stopKnobs == []) : Bool)) Tryd.prog 3 Tryd.f3 Rows.stampWritesSpec Rows.stampWritesRow = true := by kernel_rfl
theorem stampWrites_fact9 : (fun (P : Program) (f : FuncId) (_fn : Func) (_s : ChangeSpec) (c : OpenClaim) => ((c.inPlace == P.inPlace f) : Bool)) Tryd.prog 3 Tryd.f3 Rows.stampWritesSpec Rows.stampWritesRow = true := by kernel_rfl
theorem stampWrites_fact10 : (fun (P : Program) (f : FuncId) (_fn : Func) (_s : ChangeSpec) (c : OpenClaim) => ((c.unfollowed == P.unfollowed f) : Bool)) Tryd.prog 3 Tryd.f3 Rows.stampWritesSpec Rows.stampWritesRow = true := by kernel_rfl
theorem stampWrites_fact11 : (fun (P : Program) (f : FuncId) (_fn : Func) (_s : ChangeSpec) (c : OpenClaim) => ((c.recurses == P.recurses f) : Bool)) Tryd.prog 3 Tryd.f3 Rows.stampWritesSpec Rows.stampWritesRow = true := by kernel_rfl
theorem stampWrites_fact12 : (fun (P : Program) (f : FuncId) (_fn : Func) (_s : ChangeSpec) (c : OpenClaim) => ((c.named == P.varsNamed f) : Bool)) Tryd.prog 3 Tryd.f3 Rows.stampWritesSpec Rows.stampWritesRow = true := by kernel_rfl
theorem stampWrites_fact13 : (fun (P : Program) (_f : FuncId) (fn : Func) (s : ChangeSpec) (c : OpenClaim) => ((c.maps == (fn.params.toList ++ s.plain.varTypes P).any (P.mapsRec ·)) : Bool)) Tryd.prog 3 Tryd.f3 Rows.stampWritesSpec Rows.stampWritesRow = true := by kernel_rfl
theorem stampWrites_fact14 : (fun (P : Program) (_f : FuncId) (fn : Func) (s : ChangeSpec) (c : OpenClaim) => ((c.ifaces == (fn.params.toList ++ s.plain.varTypes P).any (P.ifacesRec ·)) : Bool)) Tryd.prog 3 Tryd.f3 Rows.stampWritesSpec Rows.stampWritesRow = true := by kernel_rfl
theorem stampWrites_fact15 : (fun (P : Program) (_f : FuncId) (fn : Func) (_s : ChangeSpec) (c : OpenClaim) => ((c.mapsOut == P.mapsAmong fn.resultTypes.toList) : Bool)) Tryd.prog 3 Tryd.f3 Rows.stampWritesSpec Rows.stampWritesRow = true := by kernel_rfl
theorem stampWrites_fact16 : (fun (P : Program) (_f : FuncId) (fn : Func) (s : ChangeSpec) (c : OpenClaim) => ((c.loops == (fn.params.toList ++ s.plain.varTypes P).any (P.loopsFrom ·)) : Bool)) Tryd.prog 3 Tryd.f3 Rows.stampWritesSpec Rows.stampWritesRow = true := by kernel_rfl
theorem stampWrites_fact17 : (fun (P : Program) (_f : FuncId) (fn : Func) (s : ChangeSpec) (c : OpenClaim) => ((c.wideKeys == (fn.params.toList ++ s.plain.varTypes P ++ fn.resultTypes.toList).any (P.wideKeysFrom ·)) : Bool)) Tryd.prog 3 Tryd.f3 Rows.stampWritesSpec Rows.stampWritesRow = true := by kernel_rfl
theorem stampWrites_fact18 : (fun (P : Program) (_f : FuncId) (_fn : Func) (s : ChangeSpec) (_c : OpenClaim) => (s.vars.all (P.varReadable ·) : Bool)) Tryd.prog 3 Tryd.f3 Rows.stampWritesSpec Rows.stampWritesRow = true := by kernel_rfl
theorem stampWrites_fact19 : (fun (P : Program) (_f : FuncId) (fn : Func) (_s : ChangeSpec) (_c : OpenClaim) => (fn.resultTypes.all (fun t => P.readableRec t && decide (t < P.types.size)) : Bool)) Tryd.prog 3 Tryd.f3 Rows.stampWritesSpec Rows.stampWritesRow = true := by kernel_rfl
theorem stampWrites_fact20 : (fun (P : Program) (_f : FuncId) (fn : Func) (_s : ChangeSpec) (c : OpenClaim) => ((c.ifacesOut == fn.resultTypes.toList.any (P.ifacesRec ·)) : Bool)) Tryd.prog 3 Tryd.f3 Rows.stampWritesSpec Rows.stampWritesRow = true := by kernel_rfl
theorem stampWrites_fact21 : (fun (P : Program) (_f : FuncId) (fn : Func) (_s : ChangeSpec) (c : OpenClaim) => ((c.loopsOut == fn.resultTypes.toList.any (P.loopsFrom ·)) : Bool)) Tryd.prog 3 Tryd.f3 Rows.stampWritesSpec Rows.stampWritesRow = true := by kernel_rfl
theorem stampWrites_fact22 : (fun (P : Program) (_f : FuncId) (_fn : Func) (_s : ChangeSpec) (c : OpenClaim) => ((c.plainKeys == P.plainKeys) : Bool)) Tryd.prog 3 Tryd.f3 Rows.stampWritesSpec Rows.stampWritesRow = true := by kernel_rfl
theorem stampWrites_fact23 : (fun (_P : Program) (_f : FuncId) (_fn : Func) (_s : ChangeSpec) (c : OpenClaim) => (c.shortTexts.isNone : Bool)) Tryd.prog 3 Tryd.f3 Rows.stampWritesSpec Rows.stampWritesRow = true := by kernel_rfl
theorem stampWrites_fact24 : (fun (P : Program) (_f : FuncId) (_fn : Func) (_s : ChangeSpec) (_c : OpenClaim) => (P.stopsHeard : Bool)) Tryd.prog 3 Tryd.f3 Rows.stampWritesSpec Rows.stampWritesRow = true := by kernel_rfl
theorem stampWrites_fact25 : (fun (P : Program) (_f : FuncId) (_fn : Func) (_s : ChangeSpec) (_c : OpenClaim) => (P.mayEnter : Bool)) Tryd.prog 3 Tryd.f3 Rows.stampWritesSpec Rows.stampWritesRow = true := by kernel_rfl
theorem stampWrites_fact26 : (fun (P : Program) (_f : FuncId) (_fn : Func) (_s : ChangeSpec) (c : OpenClaim) => ((c.lifted == P.liftsFinal) : Bool)) Tryd.prog 3 Tryd.f3 Rows.stampWritesSpec Rows.stampWritesRow = true := by kernel_rfl
theorem stampWrites_fact27 : (fun (P : Program) (_f : FuncId) (_fn : Func) (_s : ChangeSpec) (c : OpenClaim) => ((P.make == some c.make) : Bool)) Tryd.prog 3 Tryd.f3 Rows.stampWritesSpec Rows.stampWritesRow = true := by kernel_rfl
theorem stampWrites_fact28 : (fun (P : Program) (_f : FuncId) (fn : Func) (_s : ChangeSpec) (c : OpenClaim) => ((c.kinds == (if c.domain.isEmpty then [] else fn.params.toList.map fun t => match P.underlying t with | some (.int k) => some k | _ => none)) : Bool)) Tryd.prog 3 Tryd.f3 Rows.stampWritesSpec Rows.stampWritesRow = true := by kernel_rfl
theorem stampWrites_fact29 : (fun (_P : Program) (_f : FuncId) (_fn : Func) (_s : ChangeSpec) (c : OpenClaim) => ((c.pinned == c.pinnedBy) : Bool)) Tryd.prog 3 Tryd.f3 Rows.stampWritesSpec Rows.stampWritesRow = true := by kernel_rfl
theorem stampWrites_fact30 : (fun (P : Program) (_f : FuncId) (fn : Func) (s : ChangeSpec) (c : OpenClaim) => ((c.veiled == (fn.params.toList ++ s.plain.varTypes P ++ fn.resultTypes.toList).any (P.veiledRec ·)) : Bool)) Tryd.prog 3 Tryd.f3 Rows.stampWritesSpec Rows.stampWritesRow = true := by kernel_rfl
theorem stampWrites_fact31 : (fun (P : Program) (_f : FuncId) (fn : Func) (s : ChangeSpec) (c : OpenClaim) => (c.veiledFits P fn.params.toList (fn.params.toList ++ s.plain.varTypes P ++ fn.resultTypes.toList) : Bool)) Tryd.prog 3 Tryd.f3 Rows.stampWritesSpec Rows.stampWritesRow = true := by kernel_rfl

set_option maxRecDepth 100000 in
/-- The closed facts together. -/
theorem stampWrites_closed : joinedFacts Tryd.prog 3 Tryd.f3 Rows.stampWritesSpec Rows.stampWritesRow = true := by
  unfold joinedFacts
  refine stampWrites_band ?_ stampWrites_fact31
  refine stampWrites_band ?_ stampWrites_fact30
  refine stampWrites_band ?_ stampWrites_fact29
  refine stampWrites_band ?_ stampWrites_fact28
  refine stampWrites_band ?_ stampWrites_fact27
  refine stampWrites_band ?_ stampWrites_fact26
  refine stampWrites_band ?_ stampWrites_fact25
  refine stampWrites_band ?_ stampWrites_fact24
  refine stampWrites_band ?_ stampWrites_fact23
  refine stampWrites_band ?_ stampWrites_fact22
  refine stampWrites_band ?_ stampWrites_fact21
  refine stampWrites_band ?_ stampWrites_fact20
  refine stampWrites_band ?_ stampWrites_fact19
  refine stampWrites_band ?_ stampWrites_fact18
  refine stampWrites_band ?_ stampWrites_fact17
  refine stampWrites_band ?_ stampWrites_fact16
  refine stampWrites_band ?_ stampWrites_fact15
  refine stampWrites_band ?_ stampWrites_fact14
  refine stampWrites_band ?_ stampWrites_fact13
  refine stampWrites_band ?_ stampWrites_fact12
  refine stampWrites_band ?_ stampWrites_fact11
  refine stampWrites_band ?_ stampWrites_fact10
  refine stampWrites_band ?_ stampWrites_fact9
  refine stampWrites_band ?_ stampWrites_fact8
  refine stampWrites_band ?_ stampWrites_fact7
  refine stampWrites_band ?_ stampWrites_fact6
  refine stampWrites_band ?_ stampWrites_fact5
  refine stampWrites_band ?_ stampWrites_fact4
  refine stampWrites_band ?_ stampWrites_fact3
  refine stampWrites_band ?_ stampWrites_fact2
  refine stampWrites_band ?_ stampWrites_fact1
  exact stampWrites_fact0
end Go.Proofs.YtjhgembcdndmkaaDoor
