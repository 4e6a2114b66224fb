/- A piece of the abstract machine's run of the law. No condition. -/
import Derived.Test.YthjoaempffkanaaGreatDoorProg
import Derived.KernelRfl
import Derived.Test.YthjoaempffkanaaGreatDoorSweepNilCkD1
namespace Go.Proofs.YthjoaempffkanaaGreatDoor.Am
open Go.Proofs

set_option maxRecDepth 100000

theorem ck2_ran : seeO ck2.ids (chunk Tryz.prog 279 (startS Tryz.prog 3 vars0)) = ck2.seen := by kernel_rfl
end Go.Proofs.YthjoaempffkanaaGreatDoor.Am
