/- A piece of the abstract machine's run of the law. No condition. -/
import Derived.Test.YtialpccieggaoaaGreatDoorProg
import Derived.KernelRfl
import Derived.Test.YtialpccieggaoaaGreatDoorOpsNilCkD1
namespace Go.Proofs.YtialpccieggaoaaGreatDoor.Am
open Go.Proofs

set_option maxRecDepth 100000

theorem ck24_ran : seeO ck24.ids (chunk Tryz.prog 6361 ck16.st) = ck24.seen := by kernel_rfl
end Go.Proofs.YtialpccieggaoaaGreatDoor.Am
