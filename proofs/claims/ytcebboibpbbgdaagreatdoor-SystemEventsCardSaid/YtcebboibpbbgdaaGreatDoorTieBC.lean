/- Closed facts on how the program lays its package-level variables. -/
import Derived.Test.YtcebboibpbbgdaaGreatDoorTieLC
namespace Go.Proofs.YtcebboibpbbgdaaGreatDoor
open Go
theorem t4 : listed.map (fun x => Tryz.prog.kindOfLater x.1) = [LaidKind.data, .sentinel, .sentinel, .data, .data, .data, .handle].map some := by kernel_rfl
end Go.Proofs.YtcebboibpbbgdaaGreatDoor
