/- The abstract machine runs the law estuary/estuarylaw22.PacksNil over the given program, and comes to true. No condition. -/
import Derived.Test.YtpelgmhdjfjigaaGreatDoorProg
import Derived.KernelRfl
import Derived.Test.YtpelgmhdjfjigaaGreatDoorAmM
namespace Go.Proofs.YtpelgmhdjfjigaaGreatDoor

/-- THE RUN: the abstract machine, over the given program, by the kernel. -/
theorem packsNil_ran : Am.closedT Tryz.prog 3 = true := by kernel_rfl
end Go.Proofs.YtpelgmhdjfjigaaGreatDoor
