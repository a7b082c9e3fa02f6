/- Closed facts of the row of SystemEvents. -/
import Derived.Test.YtcebboibpbbgdaaGreatDoorRows
import Derived.Test.YtcebboibpbbgdaaGreatDoorChecked
import Derived.JoinedOf
namespace Go.Proofs.YtcebboibpbbgdaaGreatDoor.SystemEventsDone
open Go
theorem fe3 : (Rows.systemEventsRow.recurses == Tryz.prog.recurses 3) = true := by kernel_rfl
theorem fe4 : (Rows.systemEventsRow.named == Tryz.prog.varsNamed 3) = true := by kernel_rfl
end Go.Proofs.YtcebboibpbbgdaaGreatDoor.SystemEventsDone
