/- Closed facts on how the program lays its package-level variables. -/
import Derived.Test.YtcebboibpbbgdaaGreatDoorTieLC
namespace Go.Proofs.YtcebboibpbbgdaaGreatDoor
open Go
theorem t7 (os : Os) (tape : Tape) : varsDone Tryz.prog 400 (varsId Tryz.prog) os tape = true := by kernel_rfl
end Go.Proofs.YtcebboibpbbgdaaGreatDoor
