/- Calls in the run of the law SystemEvents: each does what is told of it. -/
import Derived.Test.YtcebboibpbbgdaaGreatDoorSystemEventsGC
import Derived.Test.YtcebboibpbbgdaaGreatDoorSystemEventsSC
namespace Go.Proofs.YtcebboibpbbgdaaGreatDoor.SystemEventsDone
open Go.Eng
theorem z4 : mhForm s4 = true := by kernel_rfl
theorem r4 : mhRun Tryz.prog Γb 5000 80 s4 = true := by kernel_rfl
theorem h4 : mhForm s4 = true ∧ MHOk Tryz.prog s4 := ⟨z4, mh_of Γb_ok r4⟩
theorem z14 : mhForm s14 = true := by kernel_rfl
theorem r14 : mhRun Tryz.prog Γb 5000 80 s14 = true := by kernel_rfl
theorem h14 : mhForm s14 = true ∧ MHOk Tryz.prog s14 := ⟨z14, mh_of Γb_ok r14⟩
theorem z24 : mhForm s24 = true := by kernel_rfl
theorem r24 : mhRun Tryz.prog Γb 5000 80 s24 = true := by kernel_rfl
theorem h24 : mhForm s24 = true ∧ MHOk Tryz.prog s24 := ⟨z24, mh_of Γb_ok r24⟩
theorem z34 : mhForm s34 = true := by kernel_rfl
theorem r34 : mhRun Tryz.prog Γb 5000 80 s34 = true := by kernel_rfl
theorem h34 : mhForm s34 = true ∧ MHOk Tryz.prog s34 := ⟨z34, mh_of Γb_ok r34⟩
theorem z45 : mhForm s45 = true := by kernel_rfl
theorem r45 : mhRun Tryz.prog Γb 5000 80 s45 = true := by kernel_rfl
theorem h45 : mhForm s45 = true ∧ MHOk Tryz.prog s45 := ⟨z45, mh_of Γb_ok r45⟩
theorem z55 : mhForm s55 = true := by kernel_rfl
theorem r55 : mhRun Tryz.prog Γb 5000 80 s55 = true := by kernel_rfl
theorem h55 : mhForm s55 = true ∧ MHOk Tryz.prog s55 := ⟨z55, mh_of Γb_ok r55⟩
theorem z65 : mhForm s65 = true := by kernel_rfl
theorem r65 : mhRun Tryz.prog Γb 5000 80 s65 = true := by kernel_rfl
theorem h65 : mhForm s65 = true ∧ MHOk Tryz.prog s65 := ⟨z65, mh_of Γb_ok r65⟩
theorem z75 : mhForm s75 = true := by kernel_rfl
theorem r75 : mhRun Tryz.prog Γb 5000 80 s75 = true := by kernel_rfl
theorem h75 : mhForm s75 = true ∧ MHOk Tryz.prog s75 := ⟨z75, mh_of Γb_ok r75⟩
theorem z86 : mhForm s86 = true := by kernel_rfl
theorem r86 : mhRun Tryz.prog Γb 5000 80 s86 = true := by kernel_rfl
theorem h86 : mhForm s86 = true ∧ MHOk Tryz.prog s86 := ⟨z86, mh_of Γb_ok r86⟩
end Go.Proofs.YtcebboibpbbgdaaGreatDoor.SystemEventsDone
