/- A piece of the abstract machine's run of the law. No condition. -/
import Derived.Test.YtbdagghealhcjaaGreatDoorProg
import Derived.KernelRfl
import Derived.Test.YtbdagghealhcjaaGreatDoorWorldNilCkD1
namespace Go.Proofs.YtbdagghealhcjaaGreatDoor.Am
open Go.Proofs

set_option maxRecDepth 100000

theorem ck18_ran : seeO ck18.ids (chunk Tryz.prog 1643 ck15.st) = ck18.seen := by kernel_rfl
end Go.Proofs.YtbdagghealhcjaaGreatDoor.Am
