/- A piece of the abstract machine's run of the law. No condition. -/
import Derived.Test.YthjoaempffkanaaGreatDoorProg
import Derived.KernelRfl
import Derived.Test.YthjoaempffkanaaGreatDoorSweepNilCkD1
namespace Go.Proofs.YthjoaempffkanaaGreatDoor.Am
open Go.Proofs

set_option maxRecDepth 100000

theorem ck31_ran : seeO ck31.ids (chunk Tryz.prog 1131 ck27.st) = ck31.seen := by kernel_rfl
end Go.Proofs.YthjoaempffkanaaGreatDoor.Am
