/- The abstract machine runs the law over the given program, piece by piece, and comes to true. No condition. -/
import Derived.Test.YtbdagghealhcjaaGreatDoorProg
import Derived.KernelRfl
import Derived.Test.YtbdagghealhcjaaGreatDoorWorldNilCkTAA
import Derived.Test.YtbdagghealhcjaaGreatDoorWorldNilCkTAB
import Derived.Test.YtbdagghealhcjaaGreatDoorWorldNilCkTAC
import Derived.Test.YtbdagghealhcjaaGreatDoorWorldNilCkTAD
import Derived.Test.YtbdagghealhcjaaGreatDoorWorldNilCkTAE
import Derived.Test.YtbdagghealhcjaaGreatDoorWorldNilCkTAF
import Derived.Test.YtbdagghealhcjaaGreatDoorWorldNilCkTAG
import Derived.Test.YtbdagghealhcjaaGreatDoorWorldNilCkTAH
import Derived.Test.YtbdagghealhcjaaGreatDoorWorldNilCkTAI
import Derived.Test.YtbdagghealhcjaaGreatDoorWorldNilCkTAJ
import Derived.Test.YtbdagghealhcjaaGreatDoorWorldNilCkTAK
import Derived.Test.YtbdagghealhcjaaGreatDoorWorldNilCkTAL
namespace Go.Proofs.YtbdagghealhcjaaGreatDoor.Am
open Go.Proofs Go.RowKit

set_option maxRecDepth 100000

theorem worldNil_start : startW Tryz.prog 3 vars0 = some (startS Tryz.prog 3 vars0) := by kernel_rfl

/-- THE LAST PIECE. -/
theorem worldNil_end : allTrue (chunk Tryz.prog 100000000 ck22.st) = true := by kernel_rfl

theorem worldNil_globs : (globIds.all fun g => vars0.any fun x => Nat.beq g x.1) = true := by kernel_rfl

theorem worldNil_calls (w : World) (hw : VarsR w vars0) : Calls Tryz.prog 3 #[] w fun e w' => e = .returned (.bool true) ∧ Below w.heap.size w w' :=
  pieces_calls worldNil_start worldNil_globs ck22.st (Ck.lim _) (fun _ _ _ _ hR h => ck_next (b := ck22) hR (startS_lim _ _ _) (Ck.lim _) (ck_next (b := ck20) hR (startS_lim _ _ _) (Ck.lim _) (ck_next (b := ck18) hR (startS_lim _ _ _) (Ck.lim _) (ck_next (b := ck15) hR (startS_lim _ _ _) (Ck.lim _) (ck_next (b := ck13) hR (startS_lim _ _ _) (Ck.lim _) (ck_next (b := ck10) hR (startS_lim _ _ _) (Ck.lim _) (ck_next (b := ck9) hR (startS_lim _ _ _) (Ck.lim _) (ck_next (b := ck8) hR (startS_lim _ _ _) (Ck.lim _) (ck_next (b := ck6) hR (startS_lim _ _ _) (Ck.lim _) (ck_next (b := ck5) hR (startS_lim _ _ _) (Ck.lim _) (ck_next (b := ck3) hR (startS_lim _ _ _) (Ck.lim _) (ck_next (b := ck2) hR (startS_lim _ _ _) (startS_lim _ _ _) (h) ck2_ran) ck3_ran) ck5_ran) ck6_ran) ck8_ran) ck9_ran) ck10_ran) ck13_ran) ck15_ran) ck18_ran) ck20_ran) ck22_ran) worldNil_end w hw
end Go.Proofs.YtbdagghealhcjaaGreatDoor.Am
