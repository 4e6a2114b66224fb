/- Closed facts of the tie, one by one. -/
import Derived.Test.YtbdagghealhcjaaGreatDoorRows
import Derived.LaidByTextLater
import Derived.SevenTiedAt
namespace Go.Proofs.YtbdagghealhcjaaGreatDoor.worldNil
open Go
theorem tie_d : ∀ os tape, varsDone Tryz.prog 400 (varsId Tryz.prog) os tape = true := fun _ _ => by kernel_rfl
end Go.Proofs.YtbdagghealhcjaaGreatDoor.worldNil
