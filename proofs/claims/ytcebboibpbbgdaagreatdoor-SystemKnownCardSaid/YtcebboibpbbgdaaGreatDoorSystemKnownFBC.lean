/- Closed facts of the row of SystemKnown. -/
import Derived.Test.YtcebboibpbbgdaaGreatDoorRows
import Derived.Test.YtcebboibpbbgdaaGreatDoorChecked
import Derived.JoinedOf
namespace Go.Proofs.YtcebboibpbbgdaaGreatDoor.SystemKnownDone
open Go
theorem fe3 : (Rows.systemKnownRow.recurses == Tryz.prog.recurses 4) = true := by kernel_rfl
end Go.Proofs.YtcebboibpbbgdaaGreatDoor.SystemKnownDone
