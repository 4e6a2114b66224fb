/- The tie, out of its closed facts. -/
import Derived.Test.YtbdagghealhcjaaGreatDoorWorldNilT0
import Derived.Test.YtbdagghealhcjaaGreatDoorWorldNilT1
import Derived.Test.YtbdagghealhcjaaGreatDoorWorldNilT2
import Derived.Test.YtbdagghealhcjaaGreatDoorWorldNilT3
import Derived.Test.YtbdagghealhcjaaGreatDoorWorldNilT4
namespace Go.Proofs.YtbdagghealhcjaaGreatDoor.worldNil
open Go
theorem tied : Tryz.prog.laidByTextLater Rows.worldNilRow.laid.tail [.data, .data, .data, .data] true :=
  Program.laidByTextLater_by_run 400 8 tie_w tie_w' tie_root tie_k tie_g tie_n tie_d tie_1 tie_2
theorem worldNil_row_tie : Rows.worldNilRow.laidByTextAt .later Tryz.pinned [.pinned, .data, .data, .data, .data] true :=
  OpenClaim.laidByTextAt_pinned rfl rfl tied rfl rfl rfl rfl (fun y hy _e => by
    simp only [Rows.worldNilRow, List.zip_cons_cons, List.zip_nil_right, List.mem_cons, List.mem_nil_iff, or_false] at hy
    rcases hy with rfl | rfl | rfl | rfl | rfl
    · exact ⟨pinA, by kernel_rfl⟩
    · cases _e
    · cases _e
    · cases _e
    · cases _e) fitsA
end Go.Proofs.YtbdagghealhcjaaGreatDoor.worldNil
