/- A piece of the abstract machine's run of the law. No condition. -/
import Derived.Test.YtialpccieggaoaaGreatDoorProg
import Derived.KernelRfl
import Derived.Test.YtialpccieggaoaaGreatDoorOpsNilCkD1
namespace Go.Proofs.YtialpccieggaoaaGreatDoor.Am
open Go.Proofs

set_option maxRecDepth 100000

theorem ck32_ran : seeO ck32.ids (chunk Tryz.prog 8140 ck24.st) = ck32.seen := by kernel_rfl
end Go.Proofs.YtialpccieggaoaaGreatDoor.Am
