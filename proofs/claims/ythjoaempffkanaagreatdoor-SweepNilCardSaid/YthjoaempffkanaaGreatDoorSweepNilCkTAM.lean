/- A piece of the abstract machine's run of the law. No condition. -/
import Derived.Test.YthjoaempffkanaaGreatDoorProg
import Derived.KernelRfl
import Derived.Test.YthjoaempffkanaaGreatDoorSweepNilCkD1
namespace Go.Proofs.YthjoaempffkanaaGreatDoor.Am
open Go.Proofs

set_option maxRecDepth 100000

theorem ck37_ran : seeO ck37.ids (chunk Tryz.prog 919 ck34.st) = ck37.seen := by kernel_rfl
end Go.Proofs.YthjoaempffkanaaGreatDoor.Am
