/- The abstract machine runs the law estuary/estuarylaw18.BaseNil over the given program, and comes to true. No condition. -/
import Derived.Test.YtpbhlpajhdlemaaGreatDoorProg
import Derived.KernelRfl
import Derived.Test.YtpbhlpajhdlemaaGreatDoorAmN
namespace Go.Proofs.YtpbhlpajhdlemaaGreatDoor

/-- THE RUN: the abstract machine, over the given program, by the kernel. -/
theorem baseNil_ran : Am.closedT Tryz.prog 3 = true := by kernel_rfl
end Go.Proofs.YtpbhlpajhdlemaaGreatDoor
