/- A piece of the abstract machine's run of the law. No condition. -/
import Derived.Test.YtbdagghealhcjaaGreatDoorProg
import Derived.KernelRfl
import Derived.Test.YtbdagghealhcjaaGreatDoorWorldNilCkD1
namespace Go.Proofs.YtbdagghealhcjaaGreatDoor.Am
open Go.Proofs

set_option maxRecDepth 100000

theorem ck22_ran : seeO ck22.ids (chunk Tryz.prog 1081 ck20.st) = ck22.seen := by kernel_rfl
end Go.Proofs.YtbdagghealhcjaaGreatDoor.Am
