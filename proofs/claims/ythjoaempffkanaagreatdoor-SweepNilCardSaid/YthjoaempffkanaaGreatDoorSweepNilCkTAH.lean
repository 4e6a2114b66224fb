/- A piece of the abstract machine's run of the law. No condition. -/
import Derived.Test.YthjoaempffkanaaGreatDoorProg
import Derived.KernelRfl
import Derived.Test.YthjoaempffkanaaGreatDoorSweepNilCkD1
namespace Go.Proofs.YthjoaempffkanaaGreatDoor.Am
open Go.Proofs

set_option maxRecDepth 100000

theorem ck20_ran : seeO ck20.ids (chunk Tryz.prog 204 ck16.st) = ck20.seen := by kernel_rfl
end Go.Proofs.YthjoaempffkanaaGreatDoor.Am
