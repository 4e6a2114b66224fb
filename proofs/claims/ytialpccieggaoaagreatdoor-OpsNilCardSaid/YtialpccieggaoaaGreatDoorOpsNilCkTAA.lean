/- A piece of the abstract machine's run of the law. No condition. -/
import Derived.Test.YtialpccieggaoaaGreatDoorProg
import Derived.KernelRfl
import Derived.Test.YtialpccieggaoaaGreatDoorOpsNilCkD1
namespace Go.Proofs.YtialpccieggaoaaGreatDoor.Am
open Go.Proofs

set_option maxRecDepth 100000

theorem ck8_ran : seeO ck8.ids (chunk Tryz.prog 7602 (startS Tryz.prog 3 vars0)) = ck8.seen := by kernel_rfl
end Go.Proofs.YtialpccieggaoaaGreatDoor.Am
