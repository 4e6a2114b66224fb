/- Closed facts of the tie, one by one. -/
import Derived.Test.YtbdagghealhcjaaGreatDoorRows
import Derived.LaidByTextLater
import Derived.SevenTiedAt
namespace Go.Proofs.YtbdagghealhcjaaGreatDoor.worldNil
open Go
theorem pinA : Tryz.pinned.checked.prog.pinnedFits (Rows.worldNilRow.laid.map (·.1))[0] = true := by kernel_rfl
theorem noOwn : Tryz.pinned.checked.prog.headLifts.contains "ownunsafe" = false := by kernel_rfl
theorem fitsA : Tryz.pinned.checked.prog.listedFits Rows.worldNilRow.laid = true := by
  unfold Program.listedFits
  rw [noOwn]
  kernel_rfl
end Go.Proofs.YtbdagghealhcjaaGreatDoor.worldNil
