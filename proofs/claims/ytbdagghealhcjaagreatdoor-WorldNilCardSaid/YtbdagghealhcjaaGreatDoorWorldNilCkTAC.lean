/- A piece of the abstract machine's run of the law. No condition. -/
import Derived.Test.YtbdagghealhcjaaGreatDoorProg
import Derived.KernelRfl
import Derived.Test.YtbdagghealhcjaaGreatDoorWorldNilCkD1
namespace Go.Proofs.YtbdagghealhcjaaGreatDoor.Am
open Go.Proofs

set_option maxRecDepth 100000

theorem ck5_ran : seeO ck5.ids (chunk Tryz.prog 1287 ck3.st) = ck5.seen := by kernel_rfl
end Go.Proofs.YtbdagghealhcjaaGreatDoor.Am
