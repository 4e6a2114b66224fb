/- A piece of the abstract machine's run of the law. No condition. -/
import Derived.Test.YtbdagghealhcjaaGreatDoorProg
import Derived.KernelRfl
import Derived.Test.YtbdagghealhcjaaGreatDoorWorldNilCkD1
namespace Go.Proofs.YtbdagghealhcjaaGreatDoor.Am
open Go.Proofs

set_option maxRecDepth 100000

theorem ck2_ran : seeO ck2.ids (chunk Tryz.prog 470 (startS Tryz.prog 3 vars0)) = ck2.seen := by kernel_rfl
end Go.Proofs.YtbdagghealhcjaaGreatDoor.Am
