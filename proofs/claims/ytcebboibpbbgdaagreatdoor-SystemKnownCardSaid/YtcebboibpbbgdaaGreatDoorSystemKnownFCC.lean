/- Closed facts of the row of SystemKnown. -/
import Derived.Test.YtcebboibpbbgdaaGreatDoorSystemKnownFAC
import Derived.Test.YtcebboibpbbgdaaGreatDoorSystemKnownFBC
import Derived.Test.YtcebboibpbbgdaaGreatDoorSystemKnownFHC
import Derived.Test.YtcebboibpbbgdaaGreatDoorSystemKnownLAC
import Derived.JoinedOf
namespace Go.Proofs.YtcebboibpbbgdaaGreatDoor.SystemKnownDone
open Go
theorem g0 : (mapsRowed Tryz.prog) = true := by kernel_rfl
theorem g1 : (Tryz.prog.stops == []) = true := by kernel_rfl
theorem g2 : (Tryz.prog.stopKnobs == []) = true := by kernel_rfl
theorem g3 : (Rows.systemKnownRow.plainKeys == Tryz.prog.plainKeys) = true := by kernel_rfl
theorem g4 : (Tryz.prog.stopsHeard) = true := by kernel_rfl
theorem g5 : (Tryz.prog.mayEnter) = true := by kernel_rfl
theorem g6 : (Rows.systemKnownRow.lifted == Tryz.prog.liftsFinal) = true := by kernel_rfl
theorem g7 : (Tryz.prog.make == some Rows.systemKnownRow.make) = true := by kernel_rfl
theorem g8 : (Rows.systemKnownRow.pinned == Rows.systemKnownRow.pinnedBy) = true := by kernel_rfl
theorem closed : joinedFacts Tryz.prog 4 Tryz.f4 Rows.systemKnownSpec Rows.systemKnownRow = true := by
  unfold joinedFacts
  rw [fe1, fe2, fe3, fe4, laidOut, g0, g1, g2, g3, g4, g5, g6, g7, g8]
  kernel_rfl
end Go.Proofs.YtcebboibpbbgdaaGreatDoor.SystemKnownDone
