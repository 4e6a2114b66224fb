/- A piece of the abstract machine's run of the law. No condition. -/
import Derived.Test.YthjoaempffkanaaGreatDoorProg
import Derived.KernelRfl
import Derived.Test.YthjoaempffkanaaGreatDoorSweepNilCkD1
namespace Go.Proofs.YthjoaempffkanaaGreatDoor.Am
open Go.Proofs

set_option maxRecDepth 100000

theorem ck24_ran : seeO ck24.ids (chunk Tryz.prog 397 ck20.st) = ck24.seen := by kernel_rfl
end Go.Proofs.YthjoaempffkanaaGreatDoor.Am
