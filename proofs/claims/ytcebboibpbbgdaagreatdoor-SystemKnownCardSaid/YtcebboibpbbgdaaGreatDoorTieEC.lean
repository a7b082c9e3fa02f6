/- Closed facts on how the program lays its package-level variables. -/
import Derived.Test.YtcebboibpbbgdaaGreatDoorTieLC
namespace Go.Proofs.YtcebboibpbbgdaaGreatDoor
open Go
theorem t8 (os : Os) (tape : Tape) : (DataW.laidRun Tryz.prog (varsWorld Tryz.prog 400 (varsId Tryz.prog) os tape).memory 8 ((listed.filter fun x => x.2.handleName?.isNone).map (·.1))).map (·.1) = some (listed.filter fun x => x.2.handleName?.isNone) := by kernel_rfl
end Go.Proofs.YtcebboibpbbgdaaGreatDoor
