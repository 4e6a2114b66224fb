/- The abstract machine runs the law over the given program, piece by piece, and comes to true. No condition. -/
import Derived.Test.YtkgoachgmdkmjaaGreatDoorProg
import Derived.KernelRfl
import Derived.Test.YtkgoachgmdkmjaaGreatDoorFetchNilCkAC
namespace Go.Proofs.YtkgoachgmdkmjaaGreatDoor.Am
open Go.Proofs Go.RowKit

theorem fetchNil_start : startW Tryz.prog 4 vars0 = some (startS Tryz.prog 4 vars0) := by kernel_rfl

/-- THE LAST PIECE. -/
theorem fetchNil_end : allTrue (chunk Tryz.prog 100000000 ck3.st) = true := by kernel_rfl

theorem fetchNil_globs : (globIds.all fun g => vars0.any fun x => Nat.beq g x.1) = true := by kernel_rfl

theorem fetchNil_calls (w : World) (hw : VarsR w vars0) : Calls Tryz.prog 4 #[] w fun e w' => e = .returned (.bool true) ∧ Below w.heap.size w w' :=
  pieces_calls fetchNil_start fetchNil_globs ck3.st (Ck.lim _) (fun _ _ _ _ hR h => ck_next (b := ck3) hR (startS_lim _ _ _) (Ck.lim _) (ck_next (b := ck2) hR (startS_lim _ _ _) (Ck.lim _) (ck_next (b := ck1) hR (startS_lim _ _ _) (startS_lim _ _ _) (h) ck1_ran) ck2_ran) ck3_ran) fetchNil_end w hw
end Go.Proofs.YtkgoachgmdkmjaaGreatDoor.Am
