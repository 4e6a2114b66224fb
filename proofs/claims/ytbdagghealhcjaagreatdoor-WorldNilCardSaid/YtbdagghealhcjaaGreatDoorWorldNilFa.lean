/- Closed facts of the row, one by one. -/
import Derived.Test.YtbdagghealhcjaaGreatDoorRows
import Derived.JoinedOf
import Derived.KernelRfl
namespace Go.Proofs.YtbdagghealhcjaaGreatDoor
open Go
theorem worldNil_g1 : (List.range Tryz.prog.types.size).all (rowFine Tryz.prog) = true := by kernel_rfl
end Go.Proofs.YtbdagghealhcjaaGreatDoor
