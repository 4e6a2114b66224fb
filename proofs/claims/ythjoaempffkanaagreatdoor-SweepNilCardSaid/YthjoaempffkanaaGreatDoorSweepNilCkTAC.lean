/- A piece of the abstract machine's run of the law. No condition. -/
import Derived.Test.YthjoaempffkanaaGreatDoorProg
import Derived.KernelRfl
import Derived.Test.YthjoaempffkanaaGreatDoorSweepNilCkD1
namespace Go.Proofs.YthjoaempffkanaaGreatDoor.Am
open Go.Proofs

set_option maxRecDepth 100000

theorem ck4_ran : seeO ck4.ids (chunk Tryz.prog 0 ck3.st) = ck4.seen := by kernel_rfl
end Go.Proofs.YthjoaempffkanaaGreatDoor.Am
