/- A piece of the abstract machine's run of the law. No condition. -/
import Derived.Test.YtbdagghealhcjaaGreatDoorProg
import Derived.KernelRfl
import Derived.Test.YtbdagghealhcjaaGreatDoorWorldNilCkD1
namespace Go.Proofs.YtbdagghealhcjaaGreatDoor.Am
open Go.Proofs

set_option maxRecDepth 100000

theorem ck8_ran : seeO ck8.ids (chunk Tryz.prog 1213 ck6.st) = ck8.seen := by kernel_rfl
end Go.Proofs.YtbdagghealhcjaaGreatDoor.Am
