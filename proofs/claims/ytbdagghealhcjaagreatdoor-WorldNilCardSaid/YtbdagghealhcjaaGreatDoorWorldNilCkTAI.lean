/- A piece of the abstract machine's run of the law. No condition. -/
import Derived.Test.YtbdagghealhcjaaGreatDoorProg
import Derived.KernelRfl
import Derived.Test.YtbdagghealhcjaaGreatDoorWorldNilCkD1
namespace Go.Proofs.YtbdagghealhcjaaGreatDoor.Am
open Go.Proofs

set_option maxRecDepth 100000

theorem ck15_ran : seeO ck15.ids (chunk Tryz.prog 550 ck13.st) = ck15.seen := by kernel_rfl
end Go.Proofs.YtbdagghealhcjaaGreatDoor.Am
