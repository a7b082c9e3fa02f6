/- Calls in the run of the law SystemEvents: each does what is told of it. -/
import Derived.Test.YtcebboibpbbgdaaGreatDoorSystemEventsGC
import Derived.Test.YtcebboibpbbgdaaGreatDoorSystemEventsSC
namespace Go.Proofs.YtcebboibpbbgdaaGreatDoor.SystemEventsDone
open Go.Eng
theorem z5 : mhForm s5 = true := by kernel_rfl
theorem r5 : mhRun Tryz.prog Γb 5000 80 s5 = true := by kernel_rfl
theorem h5 : mhForm s5 = true ∧ MHOk Tryz.prog s5 := ⟨z5, mh_of Γb_ok r5⟩
theorem z15 : mhForm s15 = true := by kernel_rfl
theorem r15 : mhRun Tryz.prog Γb 5000 80 s15 = true := by kernel_rfl
theorem h15 : mhForm s15 = true ∧ MHOk Tryz.prog s15 := ⟨z15, mh_of Γb_ok r15⟩
theorem z25 : mhForm s25 = true := by kernel_rfl
theorem r25 : mhRun Tryz.prog Γb 5000 80 s25 = true := by kernel_rfl
theorem h25 : mhForm s25 = true ∧ MHOk Tryz.prog s25 := ⟨z25, mh_of Γb_ok r25⟩
theorem z35 : mhForm s35 = true := by kernel_rfl
theorem r35 : mhRun Tryz.prog Γb 5000 80 s35 = true := by kernel_rfl
theorem h35 : mhForm s35 = true ∧ MHOk Tryz.prog s35 := ⟨z35, mh_of Γb_ok r35⟩
theorem z46 : mhForm s46 = true := by kernel_rfl
theorem r46 : mhRun Tryz.prog Γb 5000 80 s46 = true := by kernel_rfl
theorem h46 : mhForm s46 = true ∧ MHOk Tryz.prog s46 := ⟨z46, mh_of Γb_ok r46⟩
theorem z56 : mhForm s56 = true := by kernel_rfl
theorem r56 : mhRun Tryz.prog Γb 5000 80 s56 = true := by kernel_rfl
theorem h56 : mhForm s56 = true ∧ MHOk Tryz.prog s56 := ⟨z56, mh_of Γb_ok r56⟩
theorem z66 : mhForm s66 = true := by kernel_rfl
theorem r66 : mhRun Tryz.prog Γb 5000 80 s66 = true := by kernel_rfl
theorem h66 : mhForm s66 = true ∧ MHOk Tryz.prog s66 := ⟨z66, mh_of Γb_ok r66⟩
theorem z76 : mhForm s76 = true := by kernel_rfl
theorem r76 : mhRun Tryz.prog Γb 5000 80 s76 = true := by kernel_rfl
theorem h76 : mhForm s76 = true ∧ MHOk Tryz.prog s76 := ⟨z76, mh_of Γb_ok r76⟩
theorem z87 : mhForm s87 = true := by kernel_rfl
theorem r87 : mhRun Tryz.prog Γb 5000 80 s87 = true := by kernel_rfl
theorem h87 : mhForm s87 = true ∧ MHOk Tryz.prog s87 := ⟨z87, mh_of Γb_ok r87⟩
end Go.Proofs.YtcebboibpbbgdaaGreatDoor.SystemEventsDone
