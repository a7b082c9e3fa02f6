/- Calls in the run of the law SystemKnown: each does what is told of it. -/
import Derived.Test.YtcebboibpbbgdaaGreatDoorSystemKnownGC
import Derived.Test.YtcebboibpbbgdaaGreatDoorSystemKnownSC
namespace Go.Proofs.YtcebboibpbbgdaaGreatDoor.SystemKnownDone
open Go.Eng
theorem z5 : mhForm s5 = true := by kernel_rfl
theorem r5 : mhRun Tryz.prog Γb 5000 80 s5 = true := by kernel_rfl
theorem h5 : mhForm s5 = true ∧ MHOk Tryz.prog s5 := ⟨z5, mh_of Γb_ok r5⟩
theorem z21 : mhForm s21 = true := by kernel_rfl
theorem r21 : mhRun Tryz.prog Γb 5000 80 s21 = true := by kernel_rfl
theorem h21 : mhForm s21 = true ∧ MHOk Tryz.prog s21 := ⟨z21, mh_of Γb_ok r21⟩
theorem z27 : mhForm s27 = true := by kernel_rfl
theorem r27 : mhRun Tryz.prog Γb 5000 80 s27 = true := by kernel_rfl
theorem h27 : mhForm s27 = true ∧ MHOk Tryz.prog s27 := ⟨z27, mh_of Γb_ok r27⟩
end Go.Proofs.YtcebboibpbbgdaaGreatDoor.SystemKnownDone
