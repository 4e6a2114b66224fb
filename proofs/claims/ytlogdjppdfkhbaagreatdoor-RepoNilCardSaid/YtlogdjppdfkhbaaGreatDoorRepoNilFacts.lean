/- The closed facts of the row of estuary/estuarylaw23.RepoNil, one by one. No condition. -/
import Derived.Test.YtlogdjppdfkhbaaGreatDoorRows
import Derived.JoinedOf
import Derived.KernelRfl
namespace Go.Proofs.YtlogdjppdfkhbaaGreatDoor
open Go

theorem repoNil_band {a b : Bool} (h : a = true) (k : b = true) : (a && b) = true := by rw [h, k]; rfl

theorem repoNil_fact0 : (fun (_P : Program) (_f : FuncId) (_fn : Func) (s : ChangeSpec) (c : OpenClaim) => (c.wf (OpenSpec.ofChange s) : Bool)) Tryz.prog 3 Tryz.f3 Rows.repoNilSpec Rows.repoNilRow = true := by kernel_rfl
theorem repoNil_fact1 : (fun (P : Program) (_f : FuncId) (_fn : Func) (_s : ChangeSpec) (_c : OpenClaim) => (laidOutB P : Bool)) Tryz.prog 3 Tryz.f3 Rows.repoNilSpec Rows.repoNilRow = true := by kernel_rfl
theorem repoNil_fact2 : (fun (P : Program) (_f : FuncId) (_fn : Func) (_s : ChangeSpec) (_c : OpenClaim) => (mapsRowed P : Bool)) Tryz.prog 3 Tryz.f3 Rows.repoNilSpec Rows.repoNilRow = true := by kernel_rfl
theorem repoNil_fact3 : (fun (P : Program) (_f : FuncId) (fn : Func) (_s : ChangeSpec) (_c : OpenClaim) => (fn.params.all (P.readableRec ·) : Bool)) Tryz.prog 3 Tryz.f3 Rows.repoNilSpec Rows.repoNilRow = true := by kernel_rfl
theorem repoNil_fact4 : (fun (P : Program) (_f : FuncId) (_fn : Func) (s : ChangeSpec) (c : OpenClaim) => (namedTie P c.named s.vars : Bool)) Tryz.prog 3 Tryz.f3 Rows.repoNilSpec Rows.repoNilRow = true := by kernel_rfl
theorem repoNil_fact5 : (fun (_P : Program) (_f : FuncId) (_fn : Func) (_s : ChangeSpec) (c : OpenClaim) => ((c.stops == []) : Bool)) Tryz.prog 3 Tryz.f3 Rows.repoNilSpec Rows.repoNilRow = true := by kernel_rfl
theorem repoNil_fact6 : (fun (P : Program) (_f : FuncId) (_fn : Func) (_s : ChangeSpec) (_c : OpenClaim) => ((P.stops == []) : Bool)) Tryz.prog 3 Tryz.f3 Rows.repoNilSpec Rows.repoNilRow = true := by kernel_rfl
theorem repoNil_fact7 : (fun (_P : Program) (_f : FuncId) (_fn : Func) (_s : ChangeSpec) (c : OpenClaim) => ((c.knobs == []) : Bool)) Tryz.prog 3 Tryz.f3 Rows.repoNilSpec Rows.repoNilRow = true := by kernel_rfl
theorem repoNil_fact8 : (fun (P : Program) (_f : FuncId) (_fn : Func) (_s : ChangeSpec) (_c : OpenClaim) => ((P.stopKnobs == []) : Bool)) Tryz.prog 3 Tryz.f3 Rows.repoNilSpec Rows.repoNilRow = true := by kernel_rfl
theorem repoNil_fact9 : (fun (P : Program) (f : FuncId) (_fn : Func) (_s : ChangeSpec) (c : OpenClaim) => ((c.inPlace == P.inPlace f) : Bool)) Tryz.prog 3 Tryz.f3 Rows.repoNilSpec Rows.repoNilRow = true := by kernel_rfl
theorem repoNil_fact10 : (fun (P : Program) (f : FuncId) (_fn : Func) (_s : ChangeSpec) (c : OpenClaim) => ((c.unfollowed == P.unfollowed f) : Bool)) Tryz.prog 3 Tryz.f3 Rows.repoNilSpec Rows.repoNilRow = true := by kernel_rfl
theorem repoNil_fact11 : (fun (P : Program) (f : FuncId) (_fn : Func) (_s : ChangeSpec) (c : OpenClaim) => ((c.recurses == P.recurses f) : Bool)) Tryz.prog 3 Tryz.f3 Rows.repoNilSpec Rows.repoNilRow = true := by kernel_rfl
theorem repoNil_fact12 : (fun (P : Program) (f : FuncId) (_fn : Func) (_s : ChangeSpec) (c : OpenClaim) => ((c.named == P.varsNamed f) : Bool)) Tryz.prog 3 Tryz.f3 Rows.repoNilSpec Rows.repoNilRow = true := by kernel_rfl
theorem repoNil_fact13 : (fun (P : Program) (_f : FuncId) (fn : Func) (s : ChangeSpec) (c : OpenClaim) => ((c.maps == (fn.params.toList ++ s.plain.varTypes P).any (P.mapsRec ·)) : Bool)) Tryz.prog 3 Tryz.f3 Rows.repoNilSpec Rows.repoNilRow = true := by kernel_rfl
theorem repoNil_fact14 : (fun (P : Program) (_f : FuncId) (fn : Func) (s : ChangeSpec) (c : OpenClaim) => ((c.ifaces == (fn.params.toList ++ s.plain.varTypes P).any (P.ifacesRec ·)) : Bool)) Tryz.prog 3 Tryz.f3 Rows.repoNilSpec Rows.repoNilRow = true := by kernel_rfl
theorem repoNil_fact15 : (fun (P : Program) (_f : FuncId) (fn : Func) (_s : ChangeSpec) (c : OpenClaim) => ((c.mapsOut == P.mapsAmong fn.resultTypes.toList) : Bool)) Tryz.prog 3 Tryz.f3 Rows.repoNilSpec Rows.repoNilRow = true := by kernel_rfl
theorem repoNil_fact16 : (fun (P : Program) (_f : FuncId) (fn : Func) (s : ChangeSpec) (c : OpenClaim) => ((c.loops == (fn.params.toList ++ s.plain.varTypes P).any (P.loopsFrom ·)) : Bool)) Tryz.prog 3 Tryz.f3 Rows.repoNilSpec Rows.repoNilRow = true := by kernel_rfl
theorem repoNil_fact17 : (fun (P : Program) (_f : FuncId) (fn : Func) (s : ChangeSpec) (c : OpenClaim) => ((c.wideKeys == (fn.params.toList ++ s.plain.varTypes P ++ fn.resultTypes.toList).any (P.wideKeysFrom ·)) : Bool)) Tryz.prog 3 Tryz.f3 Rows.repoNilSpec Rows.repoNilRow = true := by kernel_rfl
theorem repoNil_fact18 : (fun (P : Program) (_f : FuncId) (_fn : Func) (s : ChangeSpec) (_c : OpenClaim) => (s.vars.all (P.varReadable ·) : Bool)) Tryz.prog 3 Tryz.f3 Rows.repoNilSpec Rows.repoNilRow = true := by kernel_rfl
theorem repoNil_fact19 : (fun (P : Program) (_f : FuncId) (fn : Func) (_s : ChangeSpec) (_c : OpenClaim) => (fn.resultTypes.all (fun t => P.readableRec t && decide (t < P.types.size)) : Bool)) Tryz.prog 3 Tryz.f3 Rows.repoNilSpec Rows.repoNilRow = true := by kernel_rfl
theorem repoNil_fact20 : (fun (P : Program) (_f : FuncId) (fn : Func) (_s : ChangeSpec) (c : OpenClaim) => ((c.ifacesOut == fn.resultTypes.toList.any (P.ifacesRec ·)) : Bool)) Tryz.prog 3 Tryz.f3 Rows.repoNilSpec Rows.repoNilRow = true := by kernel_rfl
theorem repoNil_fact21 : (fun (P : Program) (_f : FuncId) (fn : Func) (_s : ChangeSpec) (c : OpenClaim) => ((c.loopsOut == fn.resultTypes.toList.any (P.loopsFrom ·)) : Bool)) Tryz.prog 3 Tryz.f3 Rows.repoNilSpec Rows.repoNilRow = true := by kernel_rfl
theorem repoNil_fact22 : (fun (P : Program) (_f : FuncId) (_fn : Func) (_s : ChangeSpec) (c : OpenClaim) => ((c.plainKeys == P.plainKeys) : Bool)) Tryz.prog 3 Tryz.f3 Rows.repoNilSpec Rows.repoNilRow = true := by kernel_rfl
theorem repoNil_fact23 : (fun (_P : Program) (_f : FuncId) (_fn : Func) (_s : ChangeSpec) (c : OpenClaim) => (c.shortTexts.isNone : Bool)) Tryz.prog 3 Tryz.f3 Rows.repoNilSpec Rows.repoNilRow = true := by kernel_rfl
theorem repoNil_fact24 : (fun (P : Program) (_f : FuncId) (_fn : Func) (_s : ChangeSpec) (_c : OpenClaim) => (P.stopsHeard : Bool)) Tryz.prog 3 Tryz.f3 Rows.repoNilSpec Rows.repoNilRow = true := by kernel_rfl
theorem repoNil_fact25 : (fun (P : Program) (_f : FuncId) (_fn : Func) (_s : ChangeSpec) (_c : OpenClaim) => (P.mayEnter : Bool)) Tryz.prog 3 Tryz.f3 Rows.repoNilSpec Rows.repoNilRow = true := by kernel_rfl
theorem repoNil_fact26 : (fun (P : Program) (_f : FuncId) (_fn : Func) (_s : ChangeSpec) (c : OpenClaim) => ((c.lifted == P.liftsFinal) : Bool)) Tryz.prog 3 Tryz.f3 Rows.repoNilSpec Rows.repoNilRow = true := by kernel_rfl
theorem repoNil_fact27 : (fun (P : Program) (_f : FuncId) (_fn : Func) (_s : ChangeSpec) (c : OpenClaim) => ((P.make == some c.make) : Bool)) Tryz.prog 3 Tryz.f3 Rows.repoNilSpec Rows.repoNilRow = true := by kernel_rfl
theorem repoNil_fact28 : (fun (P : Program) (_f : FuncId) (fn : Func) (_s : ChangeSpec) (c : OpenClaim) => ((c.kinds == (if c.domain.isEmpty then [] else fn.params.toList.map fun t => match P.underlying t with | some (.int k) => some k | _ => none)) : Bool)) Tryz.prog 3 Tryz.f3 Rows.repoNilSpec Rows.repoNilRow = true := by kernel_rfl
theorem repoNil_fact29 : (fun (_P : Program) (_f : FuncId) (_fn : Func) (_s : ChangeSpec) (c : OpenClaim) => ((c.pinned == c.pinnedBy) : Bool)) Tryz.prog 3 Tryz.f3 Rows.repoNilSpec Rows.repoNilRow = true := by kernel_rfl
theorem repoNil_fact30 : (fun (P : Program) (_f : FuncId) (fn : Func) (s : ChangeSpec) (c : OpenClaim) => ((c.veiled == (fn.params.toList ++ s.plain.varTypes P ++ fn.resultTypes.toList).any (P.veiledRec ·)) : Bool)) Tryz.prog 3 Tryz.f3 Rows.repoNilSpec Rows.repoNilRow = true := by kernel_rfl
theorem repoNil_fact31 : (fun (P : Program) (_f : FuncId) (fn : Func) (s : ChangeSpec) (c : OpenClaim) => (c.veiledFits P fn.params.toList (fn.params.toList ++ s.plain.varTypes P ++ fn.resultTypes.toList) : Bool)) Tryz.prog 3 Tryz.f3 Rows.repoNilSpec Rows.repoNilRow = true := by kernel_rfl

set_option maxRecDepth 100000 in
/-- The closed facts together. -/
theorem repoNil_closed : joinedFacts Tryz.prog 3 Tryz.f3 Rows.repoNilSpec Rows.repoNilRow = true := by
  unfold joinedFacts
  refine repoNil_band ?_ repoNil_fact31
  refine repoNil_band ?_ repoNil_fact30
  refine repoNil_band ?_ repoNil_fact29
  refine repoNil_band ?_ repoNil_fact28
  refine repoNil_band ?_ repoNil_fact27
  refine repoNil_band ?_ repoNil_fact26
  refine repoNil_band ?_ repoNil_fact25
  refine repoNil_band ?_ repoNil_fact24
  refine repoNil_band ?_ repoNil_fact23
  refine repoNil_band ?_ repoNil_fact22
  refine repoNil_band ?_ repoNil_fact21
  refine repoNil_band ?_ repoNil_fact20
  refine repoNil_band ?_ repoNil_fact19
  refine repoNil_band ?_ repoNil_fact18
  refine repoNil_band ?_ repoNil_fact17
  refine repoNil_band ?_ repoNil_fact16
  refine repoNil_band ?_ repoNil_fact15
  refine repoNil_band ?_ repoNil_fact14
  refine repoNil_band ?_ repoNil_fact13
  refine repoNil_band ?_ repoNil_fact12
  refine repoNil_band ?_ repoNil_fact11
  refine repoNil_band ?_ repoNil_fact10
  refine repoNil_band ?_ repoNil_fact9
  refine repoNil_band ?_ repoNil_fact8
  refine repoNil_band ?_ repoNil_fact7
  refine repoNil_band ?_ repoNil_fact6
  refine repoNil_band ?_ repoNil_fact5
  refine repoNil_band ?_ repoNil_fact4
  refine repoNil_band ?_ repoNil_fact3
  refine repoNil_band ?_ repoNil_fact2
  refine repoNil_band ?_ repoNil_fact1
  exact repoNil_fact0
end Go.Proofs.YtlogdjppdfkhbaaGreatDoor
