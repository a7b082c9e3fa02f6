/- Closed facts of the row of SystemEvents. -/
import Derived.Test.YtcebboibpbbgdaaGreatDoorCards
import Derived.Test.YtcebboibpbbgdaaGreatDoorChecked
import Derived.JoinedOf
namespace Go.Proofs.YtcebboibpbbgdaaGreatDoor.SystemEventsDone
open Go
theorem looks : true = Tryz.prog.looks [] := by kernel_rfl
theorem named : Tryz.prog.funcNamed Rows.systemEventsRow.func = some 3 := by kernel_rfl
end Go.Proofs.YtcebboibpbbgdaaGreatDoor.SystemEventsDone
