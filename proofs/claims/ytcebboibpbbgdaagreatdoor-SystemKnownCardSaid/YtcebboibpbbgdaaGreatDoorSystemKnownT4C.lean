/- Calls in the run of the law SystemKnown: each does what is told of it. -/
import Derived.Test.YtcebboibpbbgdaaGreatDoorSystemKnownGC
import Derived.Test.YtcebboibpbbgdaaGreatDoorSystemKnownSC
namespace Go.Proofs.YtcebboibpbbgdaaGreatDoor.SystemKnownDone
open Go.Eng
theorem z6 : mhForm s6 = true := by kernel_rfl
theorem r6 : mhRun Tryz.prog Γb 5000 80 s6 = true := by kernel_rfl
theorem h6 : mhForm s6 = true ∧ MHOk Tryz.prog s6 := ⟨z6, mh_of Γb_ok r6⟩
theorem z11 : mhForm s11 = true := by kernel_rfl
theorem r11 : mhRun Tryz.prog Γb 5000 80 s11 = true := by kernel_rfl
theorem h11 : mhForm s11 = true ∧ MHOk Tryz.prog s11 := ⟨z11, mh_of Γb_ok r11⟩
theorem z16 : mhForm s16 = true := by kernel_rfl
theorem r16 : mhRun Tryz.prog Γb 5000 80 s16 = true := by kernel_rfl
theorem h16 : mhForm s16 = true ∧ MHOk Tryz.prog s16 := ⟨z16, mh_of Γb_ok r16⟩
theorem z22 : mhForm s22 = true := by kernel_rfl
theorem r22 : mhRun Tryz.prog Γb 5000 80 s22 = true := by kernel_rfl
theorem h22 : mhForm s22 = true ∧ MHOk Tryz.prog s22 := ⟨z22, mh_of Γb_ok r22⟩
theorem z28 : mhForm s28 = true := by kernel_rfl
theorem r28 : mhRun Tryz.prog Γb 5000 80 s28 = true := by kernel_rfl
theorem h28 : mhForm s28 = true ∧ MHOk Tryz.prog s28 := ⟨z28, mh_of Γb_ok r28⟩
end Go.Proofs.YtcebboibpbbgdaaGreatDoor.SystemKnownDone
