/- A piece of the abstract machine's run of the law. No condition. -/
import Derived.Test.YtialpccieggaoaaGreatDoorProg
import Derived.KernelRfl
import Derived.Test.YtialpccieggaoaaGreatDoorOpsNilCkD1
namespace Go.Proofs.YtialpccieggaoaaGreatDoor.Am
open Go.Proofs

set_option maxRecDepth 100000

theorem ck46_ran : seeO ck46.ids (chunk Tryz.prog 6140 ck40.st) = ck46.seen := by kernel_rfl
end Go.Proofs.YtialpccieggaoaaGreatDoor.Am
