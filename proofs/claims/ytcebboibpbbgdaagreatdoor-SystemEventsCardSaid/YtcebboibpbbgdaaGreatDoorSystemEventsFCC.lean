/- Closed facts of the row of SystemEvents. -/
import Derived.Test.YtcebboibpbbgdaaGreatDoorSystemEventsFAC
import Derived.Test.YtcebboibpbbgdaaGreatDoorSystemEventsFBC
import Derived.Test.YtcebboibpbbgdaaGreatDoorSystemEventsLAC
import Derived.JoinedOf
namespace Go.Proofs.YtcebboibpbbgdaaGreatDoor.SystemEventsDone
open Go
theorem g0 : (mapsRowed Tryz.prog) = true := by kernel_rfl
theorem g1 : (Tryz.prog.stops == []) = true := by kernel_rfl
theorem g2 : (Tryz.prog.stopKnobs == []) = true := by kernel_rfl
theorem g3 : (Rows.systemEventsRow.plainKeys == Tryz.prog.plainKeys) = true := by kernel_rfl
theorem g4 : (Tryz.prog.stopsHeard) = true := by kernel_rfl
theorem g5 : (Tryz.prog.mayEnter) = true := by kernel_rfl
theorem g6 : (Rows.systemEventsRow.lifted == Tryz.prog.liftsFinal) = true := by kernel_rfl
theorem g7 : (Tryz.prog.make == some Rows.systemEventsRow.make) = true := by kernel_rfl
theorem g8 : (Rows.systemEventsRow.pinned == Rows.systemEventsRow.pinnedBy) = true := by kernel_rfl
theorem closed : joinedFacts Tryz.prog 3 Tryz.f3 Rows.systemEventsSpec Rows.systemEventsRow = true := by
  unfold joinedFacts
  rw [fe1, fe2, fe3, fe4, laidOut, g0, g1, g2, g3, g4, g5, g6, g7, g8]
  kernel_rfl
end Go.Proofs.YtcebboibpbbgdaaGreatDoor.SystemEventsDone
