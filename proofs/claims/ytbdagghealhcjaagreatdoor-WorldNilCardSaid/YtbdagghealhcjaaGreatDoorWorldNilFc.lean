/- Closed facts of the row, one by one. -/
import Derived.Test.YtbdagghealhcjaaGreatDoorRows
import Derived.JoinedOf
import Derived.KernelRfl
namespace Go.Proofs.YtbdagghealhcjaaGreatDoor
open Go
theorem worldNil_fact9 : (fun (P : Program) (f : FuncId) (_fn : Func) (_s : ChangeSpec) (c : OpenClaim) => ((c.inPlace == P.inPlace f) : Bool)) Tryz.prog 3 Tryz.f3 Rows.worldNilSpec Rows.worldNilRow = true := by kernel_rfl
end Go.Proofs.YtbdagghealhcjaaGreatDoor
