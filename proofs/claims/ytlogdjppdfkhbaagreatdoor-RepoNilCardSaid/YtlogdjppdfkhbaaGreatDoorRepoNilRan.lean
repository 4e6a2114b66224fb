/- The abstract machine runs the law over the given program, piece by piece, and comes to true. No condition. -/
import Derived.Test.YtlogdjppdfkhbaaGreatDoorProg
import Derived.KernelRfl
import Derived.Test.YtlogdjppdfkhbaaGreatDoorRepoNilCkAC
namespace Go.Proofs.YtlogdjppdfkhbaaGreatDoor.Am
open Go.Proofs Go.RowKit

theorem repoNil_start : start Tryz.prog 3 0 = some (startS Tryz.prog 3) := by kernel_rfl

/-- THE LAST PIECE. -/
theorem repoNil_end : allTrue (chunk Tryz.prog 100000000 ck3.st) = true := by kernel_rfl

theorem repoNil_calls (w : World) : Calls Tryz.prog 3 #[] w fun e w' => e = .returned (.bool true) ∧ Below w.heap.size w w' :=
  pieces_calls repoNil_start ck3.st (Ck.lim _) (fun _ _ _ _ hR h => ck_next (b := ck3) hR (startS_lim _ _) (Ck.lim _) (ck_next (b := ck2) hR (startS_lim _ _) (Ck.lim _) (ck_next (b := ck1) hR (startS_lim _ _) (startS_lim _ _) (h) ck1_ran) ck2_ran) ck3_ran) repoNil_end w
end Go.Proofs.YtlogdjppdfkhbaaGreatDoor.Am
