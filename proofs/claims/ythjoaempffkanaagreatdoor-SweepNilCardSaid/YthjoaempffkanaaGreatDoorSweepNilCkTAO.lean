/- A piece of the abstract machine's run of the law. No condition. -/
import Derived.Test.YthjoaempffkanaaGreatDoorProg
import Derived.KernelRfl
import Derived.Test.YthjoaempffkanaaGreatDoorSweepNilCkD1
namespace Go.Proofs.YthjoaempffkanaaGreatDoor.Am
open Go.Proofs

set_option maxRecDepth 100000

theorem ck45_ran : seeO ck45.ids (chunk Tryz.prog 256 ck41.st) = ck45.seen := by kernel_rfl
end Go.Proofs.YthjoaempffkanaaGreatDoor.Am
