/- Closed facts of the row of SystemKnown. -/
import Derived.Test.YtcebboibpbbgdaaGreatDoorRows
import Derived.Test.YtcebboibpbbgdaaGreatDoorChecked
import Derived.JoinedOf
namespace Go.Proofs.YtcebboibpbbgdaaGreatDoor.SystemKnownDone
open Go
theorem fe1 : (Rows.systemKnownRow.inPlace == Tryz.prog.inPlace 4) = true := by kernel_rfl
theorem fe2 : (Rows.systemKnownRow.unfollowed == Tryz.prog.unfollowed 4) = true := by kernel_rfl
end Go.Proofs.YtcebboibpbbgdaaGreatDoor.SystemKnownDone
