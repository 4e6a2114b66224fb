/- Closed facts of the row, one by one. -/
import Derived.Test.YtbdagghealhcjaaGreatDoorRows
import Derived.JoinedOf
import Derived.KernelRfl
namespace Go.Proofs.YtbdagghealhcjaaGreatDoor
open Go
theorem worldNil_g2 : Tryz.prog.globals.all (fun g => decide (g.type < Tryz.prog.types.size)) = true := by kernel_rfl
theorem worldNil_g3 : Tryz.prog.funcs.all (fun f => f.params.all fun t => decide (t < Tryz.prog.types.size)) = true := by kernel_rfl
end Go.Proofs.YtbdagghealhcjaaGreatDoor
