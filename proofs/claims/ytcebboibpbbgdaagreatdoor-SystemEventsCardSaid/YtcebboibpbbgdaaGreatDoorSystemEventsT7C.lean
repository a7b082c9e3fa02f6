/- Calls in the run of the law SystemEvents: each does what is told of it. -/
import Derived.Test.YtcebboibpbbgdaaGreatDoorSystemEventsGC
import Derived.Test.YtcebboibpbbgdaaGreatDoorSystemEventsSC
namespace Go.Proofs.YtcebboibpbbgdaaGreatDoor.SystemEventsDone
open Go.Eng
theorem z8 : mhForm s8 = true := by kernel_rfl
theorem r8 : mhRun Tryz.prog Γb 5000 80 s8 = true := by kernel_rfl
theorem h8 : mhForm s8 = true ∧ MHOk Tryz.prog s8 := ⟨z8, mh_of Γb_ok r8⟩
theorem z18 : mhForm s18 = true := by kernel_rfl
theorem r18 : mhRun Tryz.prog Γb 5000 80 s18 = true := by kernel_rfl
theorem h18 : mhForm s18 = true ∧ MHOk Tryz.prog s18 := ⟨z18, mh_of Γb_ok r18⟩
theorem z28 : mhForm s28 = true := by kernel_rfl
theorem r28 : mhRun Tryz.prog Γb 5000 80 s28 = true := by kernel_rfl
theorem h28 : mhForm s28 = true ∧ MHOk Tryz.prog s28 := ⟨z28, mh_of Γb_ok r28⟩
theorem z38 : mhForm s38 = true := by kernel_rfl
theorem r38 : mhRun Tryz.prog Γb 5000 80 s38 = true := by kernel_rfl
theorem h38 : mhForm s38 = true ∧ MHOk Tryz.prog s38 := ⟨z38, mh_of Γb_ok r38⟩
theorem z49 : mhForm s49 = true := by kernel_rfl
theorem r49 : mhRun Tryz.prog Γb 5000 80 s49 = true := by kernel_rfl
theorem h49 : mhForm s49 = true ∧ MHOk Tryz.prog s49 := ⟨z49, mh_of Γb_ok r49⟩
theorem z59 : mhForm s59 = true := by kernel_rfl
theorem r59 : mhRun Tryz.prog Γb 5000 80 s59 = true := by kernel_rfl
theorem h59 : mhForm s59 = true ∧ MHOk Tryz.prog s59 := ⟨z59, mh_of Γb_ok r59⟩
theorem z69 : mhForm s69 = true := by kernel_rfl
theorem r69 : mhRun Tryz.prog Γb 5000 80 s69 = true := by kernel_rfl
theorem h69 : mhForm s69 = true ∧ MHOk Tryz.prog s69 := ⟨z69, mh_of Γb_ok r69⟩
theorem z79 : mhForm s79 = true := by kernel_rfl
theorem r79 : mhRun Tryz.prog Γb 5000 80 s79 = true := by kernel_rfl
theorem h79 : mhForm s79 = true ∧ MHOk Tryz.prog s79 := ⟨z79, mh_of Γb_ok r79⟩
end Go.Proofs.YtcebboibpbbgdaaGreatDoor.SystemEventsDone
