/- The closed facts of the row of estuary/estuarylaw22.PacksNil, one by one. No condition. -/
import Derived.Test.YtpelgmhdjfjigaaGreatDoorRows
import Derived.JoinedOf
import Derived.KernelRfl
namespace Go.Proofs.YtpelgmhdjfjigaaGreatDoor
open Go

theorem packsNil_band {a b : Bool} (h : a = true) (k : b = true) : (a && b) = true := by rw [h, k]; rfl

theorem packsNil_fact0 : (fun (_P : Program) (_f : FuncId) (_fn : Func) (s : ChangeSpec) (c : OpenClaim) => (c.wf (OpenSpec.ofChange s) : Bool)) Tryz.prog 3 Tryz.f3 Rows.packsNilSpec Rows.packsNilRow = true := by kernel_rfl
theorem packsNil_fact1 : (fun (P : Program) (_f : FuncId) (_fn : Func) (_s : ChangeSpec) (_c : OpenClaim) => (laidOutB P : Bool)) Tryz.prog 3 Tryz.f3 Rows.packsNilSpec Rows.packsNilRow = true := by kernel_rfl
theorem packsNil_fact2 : (fun (P : Program) (_f : FuncId) (_fn : Func) (_s : ChangeSpec) (_c : OpenClaim) => (mapsRowed P : Bool)) Tryz.prog 3 Tryz.f3 Rows.packsNilSpec Rows.packsNilRow = true := by kernel_rfl
theorem packsNil_fact3 : (fun (P : Program) (_f : FuncId) (fn : Func) (_s : ChangeSpec) (_c : OpenClaim) => (fn.params.all (P.readableRec ·) : Bool)) Tryz.prog 3 Tryz.f3 Rows.packsNilSpec Rows.packsNilRow = true := by kernel_rfl
theorem packsNil_fact4 : (fun (P : Program) (_f : FuncId) (_fn : Func) (s : ChangeSpec) (c : OpenClaim) => (namedTie P c.named s.vars : Bool)) Tryz.prog 3 Tryz.f3 Rows.packsNilSpec Rows.packsNilRow = true := by kernel_rfl
theorem packsNil_fact5 : (fun (_P : Program) (_f : FuncId) (_fn : Func) (_s : ChangeSpec) (c : OpenClaim) => ((c.stops == []) : Bool)) Tryz.prog 3 Tryz.f3 Rows.packsNilSpec Rows.packsNilRow = true := by kernel_rfl
theorem packsNil_fact6 : (fun (P : Program) (_f : FuncId) (_fn : Func) (_s : ChangeSpec) (_c : OpenClaim) => ((P.stops == []) : Bool)) Tryz.prog 3 Tryz.f3 Rows.packsNilSpec Rows.packsNilRow = true := by kernel_rfl
theorem packsNil_fact7 : (fun (_P : Program) (_f : FuncId) (_fn : Func) (_s : ChangeSpec) (c : OpenClaim) => ((c.knobs == []) : Bool)) Tryz.prog 3 Tryz.f3 Rows.packsNilSpec Rows.packsNilRow = true := by kernel_rfl
theorem packsNil_fact8 : (fun (P : Program) (_f : FuncId) (_fn : Func) (_s : ChangeSpec) (_c : OpenClaim) => ((P.stopKnobs == []) : Bool)) Tryz.prog 3 Tryz.f3 Rows.packsNilSpec Rows.packsNilRow = true := by kernel_rfl
theorem packsNil_fact9 : (fun (P : Program) (f : FuncId) (_fn : Func) (_s : ChangeSpec) (c : OpenClaim) => ((c.inPlace == P.inPlace f) : Bool)) Tryz.prog 3 Tryz.f3 Rows.packsNilSpec Rows.packsNilRow = true := by kernel_rfl
theorem packsNil_fact10 : (fun (P : Program) (f : FuncId) (_fn : Func) (_s : ChangeSpec) (c : OpenClaim) => ((c.unfollowed == P.unfollowed f) : Bool)) Tryz.prog 3 Tryz.f3 Rows.packsNilSpec Rows.packsNilRow = true := by kernel_rfl
theorem packsNil_fact11 : (fun (P : Program) (f : FuncId) (_fn : Func) (_s : ChangeSpec) (c : OpenClaim) => ((c.recurses == P.recurses f) : Bool)) Tryz.prog 3 Tryz.f3 Rows.packsNilSpec Rows.packsNilRow = true := by kernel_rfl
theorem packsNil_fact12 : (fun (P : Program) (f : FuncId) (_fn : Func) (_s : ChangeSpec) (c : OpenClaim) => ((c.named == P.varsNamed f) : Bool)) Tryz.prog 3 Tryz.f3 Rows.packsNilSpec Rows.packsNilRow = true := by kernel_rfl
theorem packsNil_fact13 : (fun (P : Program) (_f : FuncId) (fn : Func) (s : ChangeSpec) (c : OpenClaim) => ((c.maps == (fn.params.toList ++ s.plain.varTypes P).any (P.mapsRec ·)) : Bool)) Tryz.prog 3 Tryz.f3 Rows.packsNilSpec Rows.packsNilRow = true := by kernel_rfl
theorem packsNil_fact14 : (fun (P : Program) (_f : FuncId) (fn : Func) (s : ChangeSpec) (c : OpenClaim) => ((c.ifaces == (fn.params.toList ++ s.plain.varTypes P).any (P.ifacesRec ·)) : Bool)) Tryz.prog 3 Tryz.f3 Rows.packsNilSpec Rows.packsNilRow = true := by kernel_rfl
theorem packsNil_fact15 : (fun (P : Program) (_f : FuncId) (fn : Func) (_s : ChangeSpec) (c : OpenClaim) => ((c.mapsOut == P.mapsAmong fn.resultTypes.toList) : Bool)) Tryz.prog 3 Tryz.f3 Rows.packsNilSpec Rows.packsNilRow = true := by kernel_rfl
theorem packsNil_fact16 : (fun (P : Program) (_f : FuncId) (fn : Func) (s : ChangeSpec) (c : OpenClaim) => ((c.loops == (fn.params.toList ++ s.plain.varTypes P).any (P.loopsFrom ·)) : Bool)) Tryz.prog 3 Tryz.f3 Rows.packsNilSpec Rows.packsNilRow = true := by kernel_rfl
theorem packsNil_fact17 : (fun (P : Program) (_f : FuncId) (fn : Func) (s : ChangeSpec) (c : OpenClaim) => ((c.wideKeys == (fn.params.toList ++ s.plain.varTypes P ++ fn.resultTypes.toList).any (P.wideKeysFrom ·)) : Bool)) Tryz.prog 3 Tryz.f3 Rows.packsNilSpec Rows.packsNilRow = true := by kernel_rfl
theorem packsNil_fact18 : (fun (P : Program) (_f : FuncId) (_fn : Func) (s : ChangeSpec) (_c : OpenClaim) => (s.vars.all (P.varReadable ·) : Bool)) Tryz.prog 3 Tryz.f3 Rows.packsNilSpec Rows.packsNilRow = true := by kernel_rfl
theorem packsNil_fact19 : (fun (P : Program) (_f : FuncId) (fn : Func) (_s : ChangeSpec) (_c : OpenClaim) => (fn.resultTypes.all (fun t => P.readableRec t && decide (t < P.types.size)) : Bool)) Tryz.prog 3 Tryz.f3 Rows.packsNilSpec Rows.packsNilRow = true := by kernel_rfl
theorem packsNil_fact20 : (fun (P : Program) (_f : FuncId) (fn : Func) (_s : ChangeSpec) (c : OpenClaim) => ((c.ifacesOut == fn.resultTypes.toList.any (P.ifacesRec ·)) : Bool)) Tryz.prog 3 Tryz.f3 Rows.packsNilSpec Rows.packsNilRow = true := by kernel_rfl
theorem packsNil_fact21 : (fun (P : Program) (_f : FuncId) (fn : Func) (_s : ChangeSpec) (c : OpenClaim) => ((c.loopsOut == fn.resultTypes.toList.any (P.loopsFrom ·)) : Bool)) Tryz.prog 3 Tryz.f3 Rows.packsNilSpec Rows.packsNilRow = true := by kernel_rfl
theorem packsNil_fact22 : (fun (P : Program) (_f : FuncId) (_fn : Func) (_s : ChangeSpec) (c : OpenClaim) => ((c.plainKeys == P.plainKeys) : Bool)) Tryz.prog 3 Tryz.f3 Rows.packsNilSpec Rows.packsNilRow = true := by kernel_rfl
theorem packsNil_fact23 : (fun (_P : Program) (_f : FuncId) (_fn : Func) (_s : ChangeSpec) (c : OpenClaim) => (c.shortTexts.isNone : Bool)) Tryz.prog 3 Tryz.f3 Rows.packsNilSpec Rows.packsNilRow = true := by kernel_rfl
theorem packsNil_fact24 : (fun (P : Program) (_f : FuncId) (_fn : Func) (_s : ChangeSpec) (_c : OpenClaim) => (P.stopsHeard : Bool)) Tryz.prog 3 Tryz.f3 Rows.packsNilSpec Rows.packsNilRow = true := by kernel_rfl
theorem packsNil_fact25 : (fun (P : Program) (_f : FuncId) (_fn : Func) (_s : ChangeSpec) (_c : OpenClaim) => (P.mayEnter : Bool)) Tryz.prog 3 Tryz.f3 Rows.packsNilSpec Rows.packsNilRow = true := by kernel_rfl
theorem packsNil_fact26 : (fun (P : Program) (_f : FuncId) (_fn : Func) (_s : ChangeSpec) (c : OpenClaim) => ((c.lifted == P.liftsFinal) : Bool)) Tryz.prog 3 Tryz.f3 Rows.packsNilSpec Rows.packsNilRow = true := by kernel_rfl
theorem packsNil_fact27 : (fun (P : Program) (_f : FuncId) (_fn : Func) (_s : ChangeSpec) (c : OpenClaim) => ((P.make == some c.make) : Bool)) Tryz.prog 3 Tryz.f3 Rows.packsNilSpec Rows.packsNilRow = true := by kernel_rfl
theorem packsNil_fact28 : (fun (P : Program) (_f : FuncId) (fn : Func) (_s : ChangeSpec) (c : OpenClaim) => ((c.kinds == (if c.domain.isEmpty then [] else fn.params.toList.map fun t => match P.underlying t with | some (.int k) => some k | _ => none)) : Bool)) Tryz.prog 3 Tryz.f3 Rows.packsNilSpec Rows.packsNilRow = true := by kernel_rfl
theorem packsNil_fact29 : (fun (_P : Program) (_f : FuncId) (_fn : Func) (_s : ChangeSpec) (c : OpenClaim) => ((c.pinned == c.pinnedBy) : Bool)) Tryz.prog 3 Tryz.f3 Rows.packsNilSpec Rows.packsNilRow = true := by kernel_rfl
theorem packsNil_fact30 : (fun (P : Program) (_f : FuncId) (fn : Func) (s : ChangeSpec) (c : OpenClaim) => ((c.veiled == (fn.params.toList ++ s.plain.varTypes P ++ fn.resultTypes.toList).any (P.veiledRec ·)) : Bool)) Tryz.prog 3 Tryz.f3 Rows.packsNilSpec Rows.packsNilRow = true := by kernel_rfl
theorem packsNil_fact31 : (fun (P : Program) (_f : FuncId) (fn : Func) (s : ChangeSpec) (c : OpenClaim) => (c.veiledFits P fn.params.toList (fn.params.toList ++ s.plain.varTypes P ++ fn.resultTypes.toList) : Bool)) Tryz.prog 3 Tryz.f3 Rows.packsNilSpec Rows.packsNilRow = true := by kernel_rfl

set_option maxRecDepth 100000 in
/-- The closed facts together. -/
theorem packsNil_closed : joinedFacts Tryz.prog 3 Tryz.f3 Rows.packsNilSpec Rows.packsNilRow = true := by
  unfold joinedFacts
  refine packsNil_band ?_ packsNil_fact31
  refine packsNil_band ?_ packsNil_fact30
  refine packsNil_band ?_ packsNil_fact29
  refine packsNil_band ?_ packsNil_fact28
  refine packsNil_band ?_ packsNil_fact27
  refine packsNil_band ?_ packsNil_fact26
  refine packsNil_band ?_ packsNil_fact25
  refine packsNil_band ?_ packsNil_fact24
  refine packsNil_band ?_ packsNil_fact23
  refine packsNil_band ?_ packsNil_fact22
  refine packsNil_band ?_ packsNil_fact21
  refine packsNil_band ?_ packsNil_fact20
  refine packsNil_band ?_ packsNil_fact19
  refine packsNil_band ?_ packsNil_fact18
  refine packsNil_band ?_ packsNil_fact17
  refine packsNil_band ?_ packsNil_fact16
  refine packsNil_band ?_ packsNil_fact15
  refine packsNil_band ?_ packsNil_fact14
  refine packsNil_band ?_ packsNil_fact13
  refine packsNil_band ?_ packsNil_fact12
  refine packsNil_band ?_ packsNil_fact11
  refine packsNil_band ?_ packsNil_fact10
  refine packsNil_band ?_ packsNil_fact9
  refine packsNil_band ?_ packsNil_fact8
  refine packsNil_band ?_ packsNil_fact7
  refine packsNil_band ?_ packsNil_fact6
  refine packsNil_band ?_ packsNil_fact5
  refine packsNil_band ?_ packsNil_fact4
  refine packsNil_band ?_ packsNil_fact3
  refine packsNil_band ?_ packsNil_fact2
  refine packsNil_band ?_ packsNil_fact1
  exact packsNil_fact0
end Go.Proofs.YtpelgmhdjfjigaaGreatDoor
