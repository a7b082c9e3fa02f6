/- Closed facts of the row of SystemEvents. -/
import Derived.Test.YtcebboibpbbgdaaGreatDoorRows
import Derived.Test.YtcebboibpbbgdaaGreatDoorChecked
import Derived.JoinedOf
namespace Go.Proofs.YtcebboibpbbgdaaGreatDoor.SystemEventsDone
open Go
theorem fe1 : (Rows.systemEventsRow.inPlace == Tryz.prog.inPlace 3) = true := by kernel_rfl
theorem fe2 : (Rows.systemEventsRow.unfollowed == Tryz.prog.unfollowed 3) = true := by kernel_rfl
end Go.Proofs.YtcebboibpbbgdaaGreatDoor.SystemEventsDone
