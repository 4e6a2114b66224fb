/- The abstract machine runs the law estuary/estuarylaw06.StampNil over the given program, and comes to true. No condition. -/
import Derived.Test.YtjhgembcdndmkaaGreatDoorProg
import Derived.KernelRfl
import Derived.Test.YtjhgembcdndmkaaGreatDoorAmM
namespace Go.Proofs.YtjhgembcdndmkaaGreatDoor

/-- THE RUN: the abstract machine, over the given program, by the kernel. -/
theorem stampNil_ran : Am.closedT Tryz.prog 7 = true := by kernel_rfl
end Go.Proofs.YtjhgembcdndmkaaGreatDoor
