/- Calls in the run of the law SystemEvents: each does what is told of it. -/
import Derived.Test.YtcebboibpbbgdaaGreatDoorSystemEventsGC
import Derived.Test.YtcebboibpbbgdaaGreatDoorSystemEventsSC
namespace Go.Proofs.YtcebboibpbbgdaaGreatDoor.SystemEventsDone
open Go.Eng
theorem z9 : mhForm s9 = true := by kernel_rfl
theorem r9 : mhRun Tryz.prog Γb 5000 80 s9 = true := by kernel_rfl
theorem h9 : mhForm s9 = true ∧ MHOk Tryz.prog s9 := ⟨z9, mh_of Γb_ok r9⟩
theorem z19 : mhForm s19 = true := by kernel_rfl
theorem r19 : mhRun Tryz.prog Γb 5000 80 s19 = true := by kernel_rfl
theorem h19 : mhForm s19 = true ∧ MHOk Tryz.prog s19 := ⟨z19, mh_of Γb_ok r19⟩
theorem z29 : mhForm s29 = true := by kernel_rfl
theorem r29 : mhRun Tryz.prog Γb 5000 80 s29 = true := by kernel_rfl
theorem h29 : mhForm s29 = true ∧ MHOk Tryz.prog s29 := ⟨z29, mh_of Γb_ok r29⟩
theorem z39 : mhForm s39 = true := by kernel_rfl
theorem r39 : mhRun Tryz.prog Γb 5000 80 s39 = true := by kernel_rfl
theorem h39 : mhForm s39 = true ∧ MHOk Tryz.prog s39 := ⟨z39, mh_of Γb_ok r39⟩
theorem z50 : mhForm s50 = true := by kernel_rfl
theorem r50 : mhRun Tryz.prog Γb 5000 80 s50 = true := by kernel_rfl
theorem h50 : mhForm s50 = true ∧ MHOk Tryz.prog s50 := ⟨z50, mh_of Γb_ok r50⟩
theorem z60 : mhForm s60 = true := by kernel_rfl
theorem r60 : mhRun Tryz.prog Γb 5000 80 s60 = true := by kernel_rfl
theorem h60 : mhForm s60 = true ∧ MHOk Tryz.prog s60 := ⟨z60, mh_of Γb_ok r60⟩
theorem z70 : mhForm s70 = true := by kernel_rfl
theorem r70 : mhRun Tryz.prog Γb 5000 80 s70 = true := by kernel_rfl
theorem h70 : mhForm s70 = true ∧ MHOk Tryz.prog s70 := ⟨z70, mh_of Γb_ok r70⟩
theorem z80 : mhForm s80 = true := by kernel_rfl
theorem r80 : mhRun Tryz.prog Γb 5000 80 s80 = true := by kernel_rfl
theorem h80 : mhForm s80 = true ∧ MHOk Tryz.prog s80 := ⟨z80, mh_of Γb_ok r80⟩
end Go.Proofs.YtcebboibpbbgdaaGreatDoor.SystemEventsDone
