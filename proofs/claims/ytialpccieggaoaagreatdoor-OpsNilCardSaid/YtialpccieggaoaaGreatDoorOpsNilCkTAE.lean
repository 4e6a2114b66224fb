/- A piece of the abstract machine's run of the law. No condition. -/
import Derived.Test.YtialpccieggaoaaGreatDoorProg
import Derived.KernelRfl
import Derived.Test.YtialpccieggaoaaGreatDoorOpsNilCkD1
namespace Go.Proofs.YtialpccieggaoaaGreatDoor.Am
open Go.Proofs

set_option maxRecDepth 100000

theorem ck40_ran : seeO ck40.ids (chunk Tryz.prog 4817 ck32.st) = ck40.seen := by kernel_rfl
end Go.Proofs.YtialpccieggaoaaGreatDoor.Am
