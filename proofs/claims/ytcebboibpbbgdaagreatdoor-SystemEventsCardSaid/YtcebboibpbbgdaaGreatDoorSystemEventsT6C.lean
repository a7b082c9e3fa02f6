/- Calls in the run of the law SystemEvents: each does what is told of it. -/
import Derived.Test.YtcebboibpbbgdaaGreatDoorSystemEventsGC
import Derived.Test.YtcebboibpbbgdaaGreatDoorSystemEventsSC
namespace Go.Proofs.YtcebboibpbbgdaaGreatDoor.SystemEventsDone
open Go.Eng
theorem z7 : mhForm s7 = true := by kernel_rfl
theorem r7 : mhRun Tryz.prog Γb 5000 80 s7 = true := by kernel_rfl
theorem h7 : mhForm s7 = true ∧ MHOk Tryz.prog s7 := ⟨z7, mh_of Γb_ok r7⟩
theorem z17 : mhForm s17 = true := by kernel_rfl
theorem r17 : mhRun Tryz.prog Γb 5000 80 s17 = true := by kernel_rfl
theorem h17 : mhForm s17 = true ∧ MHOk Tryz.prog s17 := ⟨z17, mh_of Γb_ok r17⟩
theorem z27 : mhForm s27 = true := by kernel_rfl
theorem r27 : mhRun Tryz.prog Γb 5000 80 s27 = true := by kernel_rfl
theorem h27 : mhForm s27 = true ∧ MHOk Tryz.prog s27 := ⟨z27, mh_of Γb_ok r27⟩
theorem z37 : mhForm s37 = true := by kernel_rfl
theorem r37 : mhRun Tryz.prog Γb 5000 80 s37 = true := by kernel_rfl
theorem h37 : mhForm s37 = true ∧ MHOk Tryz.prog s37 := ⟨z37, mh_of Γb_ok r37⟩
theorem z48 : mhForm s48 = true := by kernel_rfl
theorem r48 : mhRun Tryz.prog Γb 5000 80 s48 = true := by kernel_rfl
theorem h48 : mhForm s48 = true ∧ MHOk Tryz.prog s48 := ⟨z48, mh_of Γb_ok r48⟩
theorem z58 : mhForm s58 = true := by kernel_rfl
theorem r58 : mhRun Tryz.prog Γb 5000 80 s58 = true := by kernel_rfl
theorem h58 : mhForm s58 = true ∧ MHOk Tryz.prog s58 := ⟨z58, mh_of Γb_ok r58⟩
theorem z68 : mhForm s68 = true := by kernel_rfl
theorem r68 : mhRun Tryz.prog Γb 5000 80 s68 = true := by kernel_rfl
theorem h68 : mhForm s68 = true ∧ MHOk Tryz.prog s68 := ⟨z68, mh_of Γb_ok r68⟩
theorem z78 : mhForm s78 = true := by kernel_rfl
theorem r78 : mhRun Tryz.prog Γb 5000 80 s78 = true := by kernel_rfl
theorem h78 : mhForm s78 = true ∧ MHOk Tryz.prog s78 := ⟨z78, mh_of Γb_ok r78⟩
end Go.Proofs.YtcebboibpbbgdaaGreatDoor.SystemEventsDone
