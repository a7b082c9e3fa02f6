/- Closed facts on how the program lays its package-level variables. -/
import Derived.Test.YtcebboibpbbgdaaGreatDoorTieLC
namespace Go.Proofs.YtcebboibpbbgdaaGreatDoor
open Go
theorem pin_first : Tryz.pinned.checked.prog.pinnedFits "unicode/utf8.first" = true := by kernel_rfl
end Go.Proofs.YtcebboibpbbgdaaGreatDoor
