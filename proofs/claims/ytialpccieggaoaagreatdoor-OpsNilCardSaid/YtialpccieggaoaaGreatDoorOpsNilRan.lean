/- The abstract machine runs the law over the given program, piece by piece, and comes to true. No condition. -/
import Derived.Test.YtialpccieggaoaaGreatDoorProg
import Derived.KernelRfl
import Derived.Test.YtialpccieggaoaaGreatDoorOpsNilCkTAA
import Derived.Test.YtialpccieggaoaaGreatDoorOpsNilCkTAB
import Derived.Test.YtialpccieggaoaaGreatDoorOpsNilCkTAC
import Derived.Test.YtialpccieggaoaaGreatDoorOpsNilCkTAD
import Derived.Test.YtialpccieggaoaaGreatDoorOpsNilCkTAE
import Derived.Test.YtialpccieggaoaaGreatDoorOpsNilCkTAF
import Derived.Test.YtialpccieggaoaaGreatDoorOpsNilCkTAG
namespace Go.Proofs.YtialpccieggaoaaGreatDoor.Am
open Go.Proofs Go.RowKit

set_option maxRecDepth 100000

theorem opsNil_start : startW Tryz.prog 3 vars0 = some (startS Tryz.prog 3 vars0) := by kernel_rfl

/-- THE LAST PIECE. -/
theorem opsNil_end : allTrue (chunk Tryz.prog 100000000 ck51.st) = true := by kernel_rfl

theorem opsNil_globs : (globIds.all fun g => vars0.any fun x => Nat.beq g x.1) = true := by kernel_rfl

theorem opsNil_calls (w : World) (hw : VarsR w vars0) : Calls Tryz.prog 3 #[] w fun e w' => e = .returned (.bool true) ∧ Below w.heap.size w w' :=
  pieces_calls opsNil_start opsNil_globs ck51.st (Ck.lim _) (fun _ _ _ _ hR h => ck_next (b := ck51) hR (startS_lim _ _ _) (Ck.lim _) (ck_next (b := ck46) hR (startS_lim _ _ _) (Ck.lim _) (ck_next (b := ck40) hR (startS_lim _ _ _) (Ck.lim _) (ck_next (b := ck32) hR (startS_lim _ _ _) (Ck.lim _) (ck_next (b := ck24) hR (startS_lim _ _ _) (Ck.lim _) (ck_next (b := ck16) hR (startS_lim _ _ _) (Ck.lim _) (ck_next (b := ck8) hR (startS_lim _ _ _) (startS_lim _ _ _) (h) ck8_ran) ck16_ran) ck24_ran) ck32_ran) ck40_ran) ck46_ran) ck51_ran) opsNil_end w hw
end Go.Proofs.YtialpccieggaoaaGreatDoor.Am
