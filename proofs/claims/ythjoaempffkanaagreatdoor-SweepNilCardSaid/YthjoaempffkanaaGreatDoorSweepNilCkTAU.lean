/- A piece of the abstract machine's run of the law. No condition. -/
import Derived.Test.YthjoaempffkanaaGreatDoorProg
import Derived.KernelRfl
import Derived.Test.YthjoaempffkanaaGreatDoorSweepNilCkD2
namespace Go.Proofs.YthjoaempffkanaaGreatDoor.Am
open Go.Proofs

set_option maxRecDepth 100000

theorem ck67_ran : seeO ck67.ids (chunk Tryz.prog 1143 ck63.st) = ck67.seen := by kernel_rfl
end Go.Proofs.YthjoaempffkanaaGreatDoor.Am
