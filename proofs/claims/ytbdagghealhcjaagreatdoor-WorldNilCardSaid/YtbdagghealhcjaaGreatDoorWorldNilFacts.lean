/- The closed facts of the row of estuary/estuarylaw27.WorldNil, one by one. No condition. -/
import Derived.Test.YtbdagghealhcjaaGreatDoorRows
import Derived.JoinedOf
import Derived.KernelRfl
import Derived.Test.YtbdagghealhcjaaGreatDoorWorldNilFa
import Derived.Test.YtbdagghealhcjaaGreatDoorWorldNilFb
import Derived.Test.YtbdagghealhcjaaGreatDoorWorldNilFc
import Derived.Test.YtbdagghealhcjaaGreatDoorWorldNilFd
import Derived.Test.YtbdagghealhcjaaGreatDoorWorldNilFe
import Derived.Test.YtbdagghealhcjaaGreatDoorWorldNilFf
namespace Go.Proofs.YtbdagghealhcjaaGreatDoor
open Go

theorem worldNil_band {a b : Bool} (h : a = true) (k : b = true) : (a && b) = true := by rw [h, k]; rfl

theorem worldNil_fact0 : (fun (_P : Program) (_f : FuncId) (_fn : Func) (s : ChangeSpec) (c : OpenClaim) => (c.wf (OpenSpec.ofChange s) : Bool)) Tryz.prog 3 Tryz.f3 Rows.worldNilSpec Rows.worldNilRow = true := by kernel_rfl
theorem worldNil_fact1 : (fun (P : Program) (_f : FuncId) (_fn : Func) (_s : ChangeSpec) (_c : OpenClaim) => (laidOutB P : Bool)) Tryz.prog 3 Tryz.f3 Rows.worldNilSpec Rows.worldNilRow = true := by
  show ((List.range Tryz.prog.types.size).all (rowFine Tryz.prog) && Tryz.prog.globals.all (fun g => decide (g.type < Tryz.prog.types.size)) && Tryz.prog.funcs.all (fun f => f.params.all fun t => decide (t < Tryz.prog.types.size))) = true
  rw [worldNil_g1, worldNil_g2, worldNil_g3]
  rfl
theorem worldNil_fact2 : (fun (P : Program) (_f : FuncId) (_fn : Func) (_s : ChangeSpec) (_c : OpenClaim) => (mapsRowed P : Bool)) Tryz.prog 3 Tryz.f3 Rows.worldNilSpec Rows.worldNilRow = true := by kernel_rfl
theorem worldNil_fact3 : (fun (P : Program) (_f : FuncId) (fn : Func) (_s : ChangeSpec) (_c : OpenClaim) => (fn.params.all (P.readableRec ·) : Bool)) Tryz.prog 3 Tryz.f3 Rows.worldNilSpec Rows.worldNilRow = true := by kernel_rfl
theorem worldNil_fact4 : (fun (P : Program) (_f : FuncId) (_fn : Func) (s : ChangeSpec) (c : OpenClaim) => (namedTie P c.named s.vars : Bool)) Tryz.prog 3 Tryz.f3 Rows.worldNilSpec Rows.worldNilRow = true := by kernel_rfl
theorem worldNil_fact5 : (fun (_P : Program) (_f : FuncId) (_fn : Func) (_s : ChangeSpec) (c : OpenClaim) => ((c.stops == []) : Bool)) Tryz.prog 3 Tryz.f3 Rows.worldNilSpec Rows.worldNilRow = true := by kernel_rfl
theorem worldNil_fact6 : (fun (P : Program) (_f : FuncId) (_fn : Func) (_s : ChangeSpec) (_c : OpenClaim) => ((P.stops == []) : Bool)) Tryz.prog 3 Tryz.f3 Rows.worldNilSpec Rows.worldNilRow = true := by kernel_rfl
theorem worldNil_fact7 : (fun (_P : Program) (_f : FuncId) (_fn : Func) (_s : ChangeSpec) (c : OpenClaim) => ((c.knobs == []) : Bool)) Tryz.prog 3 Tryz.f3 Rows.worldNilSpec Rows.worldNilRow = true := by kernel_rfl
theorem worldNil_fact8 : (fun (P : Program) (_f : FuncId) (_fn : Func) (_s : ChangeSpec) (_c : OpenClaim) => ((P.stopKnobs == []) : Bool)) Tryz.prog 3 Tryz.f3 Rows.worldNilSpec Rows.worldNilRow = true := by kernel_rfl

theorem worldNil_fact10 : (fun (P : Program) (f : FuncId) (_fn : Func) (_s : ChangeSpec) (c : OpenClaim) => ((c.unfollowed == P.unfollowed f) : Bool)) Tryz.prog 3 Tryz.f3 Rows.worldNilSpec Rows.worldNilRow = true := by kernel_rfl
theorem worldNil_fact11 : (fun (P : Program) (f : FuncId) (_fn : Func) (_s : ChangeSpec) (c : OpenClaim) => ((c.recurses == P.recurses f) : Bool)) Tryz.prog 3 Tryz.f3 Rows.worldNilSpec Rows.worldNilRow = true := by kernel_rfl
theorem worldNil_fact12 : (fun (P : Program) (f : FuncId) (_fn : Func) (_s : ChangeSpec) (c : OpenClaim) => ((c.named == P.varsNamed f) : Bool)) Tryz.prog 3 Tryz.f3 Rows.worldNilSpec Rows.worldNilRow = true := by
  show (Rows.worldNilRow.named == (((((Tryz.prog.closure 3).flatMap fun g => ((Tryz.prog.funcs[g]?).bind (·.body)).elim [] Code.globalsNamed).eraseDups).filterMap (fun g => (Tryz.prog.globals[g]?).map (·.name)) ++ (Tryz.prog.closure 3).filterMap fun g => (Tryz.prog.funcs[g]?).bind fun fn => if fn.body.isNone then entryReads.lookup fn.name else none).eraseDups)) = true
  rw [worldNil_clo, worldNil_gl, worldNil_en]
  kernel_rfl
theorem worldNil_fact13 : (fun (P : Program) (_f : FuncId) (fn : Func) (s : ChangeSpec) (c : OpenClaim) => ((c.maps == (fn.params.toList ++ s.plain.varTypes P).any (P.mapsRec ·)) : Bool)) Tryz.prog 3 Tryz.f3 Rows.worldNilSpec Rows.worldNilRow = true := by kernel_rfl
theorem worldNil_fact14 : (fun (P : Program) (_f : FuncId) (fn : Func) (s : ChangeSpec) (c : OpenClaim) => ((c.ifaces == (fn.params.toList ++ s.plain.varTypes P).any (P.ifacesRec ·)) : Bool)) Tryz.prog 3 Tryz.f3 Rows.worldNilSpec Rows.worldNilRow = true := by kernel_rfl
theorem worldNil_fact15 : (fun (P : Program) (_f : FuncId) (fn : Func) (_s : ChangeSpec) (c : OpenClaim) => ((c.mapsOut == P.mapsAmong fn.resultTypes.toList) : Bool)) Tryz.prog 3 Tryz.f3 Rows.worldNilSpec Rows.worldNilRow = true := by kernel_rfl
theorem worldNil_fact16 : (fun (P : Program) (_f : FuncId) (fn : Func) (s : ChangeSpec) (c : OpenClaim) => ((c.loops == (fn.params.toList ++ s.plain.varTypes P).any (P.loopsFrom ·)) : Bool)) Tryz.prog 3 Tryz.f3 Rows.worldNilSpec Rows.worldNilRow = true := by kernel_rfl
theorem worldNil_fact17 : (fun (P : Program) (_f : FuncId) (fn : Func) (s : ChangeSpec) (c : OpenClaim) => ((c.wideKeys == (fn.params.toList ++ s.plain.varTypes P ++ fn.resultTypes.toList).any (P.wideKeysFrom ·)) : Bool)) Tryz.prog 3 Tryz.f3 Rows.worldNilSpec Rows.worldNilRow = true := by kernel_rfl
theorem worldNil_fact18 : (fun (P : Program) (_f : FuncId) (_fn : Func) (s : ChangeSpec) (_c : OpenClaim) => (s.vars.all (P.varReadable ·) : Bool)) Tryz.prog 3 Tryz.f3 Rows.worldNilSpec Rows.worldNilRow = true := by kernel_rfl
theorem worldNil_fact19 : (fun (P : Program) (_f : FuncId) (fn : Func) (_s : ChangeSpec) (_c : OpenClaim) => (fn.resultTypes.all (fun t => P.readableRec t && decide (t < P.types.size)) : Bool)) Tryz.prog 3 Tryz.f3 Rows.worldNilSpec Rows.worldNilRow = true := by kernel_rfl
theorem worldNil_fact20 : (fun (P : Program) (_f : FuncId) (fn : Func) (_s : ChangeSpec) (c : OpenClaim) => ((c.ifacesOut == fn.resultTypes.toList.any (P.ifacesRec ·)) : Bool)) Tryz.prog 3 Tryz.f3 Rows.worldNilSpec Rows.worldNilRow = true := by kernel_rfl
theorem worldNil_fact21 : (fun (P : Program) (_f : FuncId) (fn : Func) (_s : ChangeSpec) (c : OpenClaim) => ((c.loopsOut == fn.resultTypes.toList.any (P.loopsFrom ·)) : Bool)) Tryz.prog 3 Tryz.f3 Rows.worldNilSpec Rows.worldNilRow = true := by kernel_rfl
theorem worldNil_fact22 : (fun (P : Program) (_f : FuncId) (_fn : Func) (_s : ChangeSpec) (c : OpenClaim) => ((c.plainKeys == P.plainKeys) : Bool)) Tryz.prog 3 Tryz.f3 Rows.worldNilSpec Rows.worldNilRow = true := by kernel_rfl
theorem worldNil_fact23 : (fun (_P : Program) (_f : FuncId) (_fn : Func) (_s : ChangeSpec) (c : OpenClaim) => (c.shortTexts.isNone : Bool)) Tryz.prog 3 Tryz.f3 Rows.worldNilSpec Rows.worldNilRow = true := by kernel_rfl
theorem worldNil_fact24 : (fun (P : Program) (_f : FuncId) (_fn : Func) (_s : ChangeSpec) (_c : OpenClaim) => (P.stopsHeard : Bool)) Tryz.prog 3 Tryz.f3 Rows.worldNilSpec Rows.worldNilRow = true := by kernel_rfl
theorem worldNil_fact25 : (fun (P : Program) (_f : FuncId) (_fn : Func) (_s : ChangeSpec) (_c : OpenClaim) => (P.mayEnter : Bool)) Tryz.prog 3 Tryz.f3 Rows.worldNilSpec Rows.worldNilRow = true := by kernel_rfl
theorem worldNil_fact26 : (fun (P : Program) (_f : FuncId) (_fn : Func) (_s : ChangeSpec) (c : OpenClaim) => ((c.lifted == P.liftsFinal) : Bool)) Tryz.prog 3 Tryz.f3 Rows.worldNilSpec Rows.worldNilRow = true := by kernel_rfl
theorem worldNil_fact27 : (fun (P : Program) (_f : FuncId) (_fn : Func) (_s : ChangeSpec) (c : OpenClaim) => ((P.make == some c.make) : Bool)) Tryz.prog 3 Tryz.f3 Rows.worldNilSpec Rows.worldNilRow = true := by kernel_rfl
theorem worldNil_fact28 : (fun (P : Program) (_f : FuncId) (fn : Func) (_s : ChangeSpec) (c : OpenClaim) => ((c.kinds == (if c.domain.isEmpty then [] else fn.params.toList.map fun t => match P.underlying t with | some (.int k) => some k | _ => none)) : Bool)) Tryz.prog 3 Tryz.f3 Rows.worldNilSpec Rows.worldNilRow = true := by kernel_rfl
theorem worldNil_fact29 : (fun (_P : Program) (_f : FuncId) (_fn : Func) (_s : ChangeSpec) (c : OpenClaim) => ((c.pinned == c.pinnedBy) : Bool)) Tryz.prog 3 Tryz.f3 Rows.worldNilSpec Rows.worldNilRow = true := by kernel_rfl
theorem worldNil_fact30 : (fun (P : Program) (_f : FuncId) (fn : Func) (s : ChangeSpec) (c : OpenClaim) => ((c.veiled == (fn.params.toList ++ s.plain.varTypes P ++ fn.resultTypes.toList).any (P.veiledRec ·)) : Bool)) Tryz.prog 3 Tryz.f3 Rows.worldNilSpec Rows.worldNilRow = true := by kernel_rfl
theorem worldNil_fact31 : (fun (P : Program) (_f : FuncId) (fn : Func) (s : ChangeSpec) (c : OpenClaim) => (c.veiledFits P fn.params.toList (fn.params.toList ++ s.plain.varTypes P ++ fn.resultTypes.toList) : Bool)) Tryz.prog 3 Tryz.f3 Rows.worldNilSpec Rows.worldNilRow = true := by kernel_rfl

set_option maxRecDepth 100000 in
/-- The closed facts together. -/
theorem worldNil_closed : joinedFacts Tryz.prog 3 Tryz.f3 Rows.worldNilSpec Rows.worldNilRow = true := by
  unfold joinedFacts
  refine worldNil_band ?_ worldNil_fact31
  refine worldNil_band ?_ worldNil_fact30
  refine worldNil_band ?_ worldNil_fact29
  refine worldNil_band ?_ worldNil_fact28
  refine worldNil_band ?_ worldNil_fact27
  refine worldNil_band ?_ worldNil_fact26
  refine worldNil_band ?_ worldNil_fact25
  refine worldNil_band ?_ worldNil_fact24
  refine worldNil_band ?_ worldNil_fact23
  refine worldNil_band ?_ worldNil_fact22
  refine worldNil_band ?_ worldNil_fact21
  refine worldNil_band ?_ worldNil_fact20
  refine worldNil_band ?_ worldNil_fact19
  refine worldNil_band ?_ worldNil_fact18
  refine worldNil_band ?_ worldNil_fact17
  refine worldNil_band ?_ worldNil_fact16
  refine worldNil_band ?_ worldNil_fact15
  refine worldNil_band ?_ worldNil_fact14
  refine worldNil_band ?_ worldNil_fact13
  refine worldNil_band ?_ worldNil_fact12
  refine worldNil_band ?_ worldNil_fact11
  refine worldNil_band ?_ worldNil_fact10
  refine worldNil_band ?_ worldNil_fact9
  refine worldNil_band ?_ worldNil_fact8
  refine worldNil_band ?_ worldNil_fact7
  refine worldNil_band ?_ worldNil_fact6
  refine worldNil_band ?_ worldNil_fact5
  refine worldNil_band ?_ worldNil_fact4
  refine worldNil_band ?_ worldNil_fact3
  refine worldNil_band ?_ worldNil_fact2
  refine worldNil_band ?_ worldNil_fact1
  exact worldNil_fact0
end Go.Proofs.YtbdagghealhcjaaGreatDoor
