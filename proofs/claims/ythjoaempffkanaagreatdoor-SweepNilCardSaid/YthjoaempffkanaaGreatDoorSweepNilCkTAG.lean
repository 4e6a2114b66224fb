/- A piece of the abstract machine's run of the law. No condition. -/
import Derived.Test.YthjoaempffkanaaGreatDoorProg
import Derived.KernelRfl
import Derived.Test.YthjoaempffkanaaGreatDoorSweepNilCkD1
namespace Go.Proofs.YthjoaempffkanaaGreatDoor.Am
open Go.Proofs

set_option maxRecDepth 100000

theorem ck16_ran : seeO ck16.ids (chunk Tryz.prog 460 ck12.st) = ck16.seen := by kernel_rfl
end Go.Proofs.YthjoaempffkanaaGreatDoor.Am
