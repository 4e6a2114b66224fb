/- The abstract machine runs the law over the given program, piece by piece, and comes to true. No condition. -/
import Derived.Test.YtkgoachgmdkmjaaGreatDoorProg
import Derived.KernelRfl
import Derived.Test.YtkgoachgmdkmjaaGreatDoorAmP
namespace Go.Proofs.YtkgoachgmdkmjaaGreatDoor.Am
open Go.Proofs Go.RowKit

/-- What is known of the package variables when the call begins. -/
noncomputable def vars0 : List (Nat × Cells) := []

theorem nodesNil_start : startW Tryz.prog 3 vars0 = some (startS Tryz.prog 3 vars0) := by kernel_rfl

/-- THE LAST PIECE. -/
theorem nodesNil_end : allTrue (chunk Tryz.prog 100000000 (startS Tryz.prog 3 vars0)) = true := by kernel_rfl

theorem nodesNil_globs : (globIds.all fun g => vars0.any fun x => Nat.beq g x.1) = true := by kernel_rfl

theorem nodesNil_calls (w : World) (hw : VarsR w vars0) : Calls Tryz.prog 3 #[] w fun e w' => e = .returned (.bool true) ∧ Below w.heap.size w w' :=
  pieces_calls nodesNil_start nodesNil_globs (startS Tryz.prog 3 vars0) (startS_lim _ _ _) (fun _ _ _ _ _ h => h) nodesNil_end w hw
end Go.Proofs.YtkgoachgmdkmjaaGreatDoor.Am
