/- Calls in the run of the law SystemEvents: each does what is told of it. -/
import Derived.Test.YtcebboibpbbgdaaGreatDoorSystemEventsGC
import Derived.Test.YtcebboibpbbgdaaGreatDoorSystemEventsSC
namespace Go.Proofs.YtcebboibpbbgdaaGreatDoor.SystemEventsDone
open Go.Eng
theorem z1 : mhForm s1 = true := by kernel_rfl
theorem r1 : mhRun Tryz.prog Γb 5000 80 s1 = true := by kernel_rfl
theorem h1 : mhForm s1 = true ∧ MHOk Tryz.prog s1 := ⟨z1, mh_of Γb_ok r1⟩
theorem z11 : mhForm s11 = true := by kernel_rfl
theorem r11 : mhRun Tryz.prog Γb 5000 80 s11 = true := by kernel_rfl
theorem h11 : mhForm s11 = true ∧ MHOk Tryz.prog s11 := ⟨z11, mh_of Γb_ok r11⟩
theorem z21 : mhForm s21 = true := by kernel_rfl
theorem r21 : mhRun Tryz.prog Γb 5000 80 s21 = true := by kernel_rfl
theorem h21 : mhForm s21 = true ∧ MHOk Tryz.prog s21 := ⟨z21, mh_of Γb_ok r21⟩
theorem z31 : mhForm s31 = true := by kernel_rfl
theorem r31 : mhRun Tryz.prog Γb 5000 80 s31 = true := by kernel_rfl
theorem h31 : mhForm s31 = true ∧ MHOk Tryz.prog s31 := ⟨z31, mh_of Γb_ok r31⟩
theorem z41 : mhForm s41 = true := by kernel_rfl
theorem r41 : mhRun Tryz.prog Γb 5000 80 s41 = true := by kernel_rfl
theorem h41 : mhForm s41 = true ∧ MHOk Tryz.prog s41 := ⟨z41, mh_of Γb_ok r41⟩
theorem z52 : mhForm s52 = true := by kernel_rfl
theorem r52 : mhRun Tryz.prog Γb 5000 80 s52 = true := by kernel_rfl
theorem h52 : mhForm s52 = true ∧ MHOk Tryz.prog s52 := ⟨z52, mh_of Γb_ok r52⟩
theorem z62 : mhForm s62 = true := by kernel_rfl
theorem r62 : mhRun Tryz.prog Γb 5000 80 s62 = true := by kernel_rfl
theorem h62 : mhForm s62 = true ∧ MHOk Tryz.prog s62 := ⟨z62, mh_of Γb_ok r62⟩
theorem z72 : mhForm s72 = true := by kernel_rfl
theorem r72 : mhRun Tryz.prog Γb 5000 80 s72 = true := by kernel_rfl
theorem h72 : mhForm s72 = true ∧ MHOk Tryz.prog s72 := ⟨z72, mh_of Γb_ok r72⟩
theorem z82 : mhForm s82 = true := by kernel_rfl
theorem r82 : mhRun Tryz.prog Γb 5000 80 s82 = true := by kernel_rfl
theorem h82 : mhForm s82 = true ∧ MHOk Tryz.prog s82 := ⟨z82, mh_of Γb_ok r82⟩
end Go.Proofs.YtcebboibpbbgdaaGreatDoor.SystemEventsDone
