/- Closed facts on how the program lays its package-level variables. -/
import Derived.Test.YtcebboibpbbgdaaGreatDoorTieLC
namespace Go.Proofs.YtcebboibpbbgdaaGreatDoor
open Go
theorem t1 : Tryz.prog.worded (varsWordLater true) = true := by kernel_rfl
theorem t2 : Tryz.prog.worded (varsWordLater !true) = false := by kernel_rfl
theorem t3 : Tryz.prog.worded rootWordLater = true := by kernel_rfl
end Go.Proofs.YtcebboibpbbgdaaGreatDoor
