/- Calls in the run of the law SystemKnown: each does what is told of it. -/
import Derived.Test.YtcebboibpbbgdaaGreatDoorSystemKnownGC
import Derived.Test.YtcebboibpbbgdaaGreatDoorSystemKnownSC
namespace Go.Proofs.YtcebboibpbbgdaaGreatDoor.SystemKnownDone
open Go.Eng
def g297_0 : MH := ⟨297, [.int .u16 (.li 0)], [(0, b0), (1, b1), (4, b2), (5, b3), (6, b4), (7, b5), (8, b6), (500, b7)], 2399, .agg [.int .u8 (.li 0), .int .u8 (.li 0), .int .u8 (.li 0), .int .u8 (.li 0), .int .i64 (.li 0), .int .u16 (.li 0), .int .u8 (.li 2)], [], 3030⟩
theorem gz297_0 : mhForm g297_0 = true := by kernel_rfl
theorem gr297_0 : mhRun Tryz.prog Γb 5000 80 g297_0 = true := by kernel_rfl
def l297 : List MH := [g297_0]
theorem q297 : ∀ c ∈ l297, mhForm c = true ∧ MHOk Tryz.prog c := by
  simp only [l297, List.forall_mem_cons, List.not_mem_nil, false_implies, implies_true, and_true]
  exact ⟨gz297_0, mh_of Γb_ok gr297_0⟩
def libs297 : List (FuncId × CallD) := [(297, mhC 297 l297)]
theorem libs297_ok (F : Facts) : ∀ p ∈ libs297, CallCOk Tryz.prog F p.1 p.2 := by
  simp only [libs297, List.forall_mem_cons, List.not_mem_nil, false_implies, implies_true, and_true]
  exact mhC_ok q297
noncomputable def Γ297 : Facts → FuncId → Option CallD := ΓN libs297 Γb
theorem Γ297_ok : ∀ F : Facts, ΓOk Tryz.prog F (Γ297 F) := ΓN_ok libs297_ok Γb_ok
theorem z10 : mhForm s10 = true := by kernel_rfl
theorem r10 : mhRun Tryz.prog Γ297 5000 80 s10 = true := by kernel_rfl
theorem h10 : mhForm s10 = true ∧ MHOk Tryz.prog s10 := ⟨z10, mh_of Γ297_ok r10⟩
def g297_1 : MH := ⟨297, [.int .u16 (.li 0)], [(0, b0), (1, b1), (4, b2), (5, b3), (6, b4), (7, b5), (8, b6), (500, b7)], 3962, .agg [.int .u8 (.li 0), .int .u8 (.li 0), .int .u8 (.li 0), .int .u8 (.li 0), .int .i64 (.li 0), .int .u16 (.li 0), .int .u8 (.li 2)], [], 4593⟩
theorem gz297_1 : mhForm g297_1 = true := by kernel_rfl
theorem gr297_1 : mhRun Tryz.prog Γb 5000 80 g297_1 = true := by kernel_rfl
def l297b : List MH := [g297_1]
theorem q297b : ∀ c ∈ l297b, mhForm c = true ∧ MHOk Tryz.prog c := by
  simp only [l297b, List.forall_mem_cons, List.not_mem_nil, false_implies, implies_true, and_true]
  exact ⟨gz297_1, mh_of Γb_ok gr297_1⟩
def libs297b : List (FuncId × CallD) := [(297, mhC 297 l297b)]
theorem libs297b_ok (F : Facts) : ∀ p ∈ libs297b, CallCOk Tryz.prog F p.1 p.2 := by
  simp only [libs297b, List.forall_mem_cons, List.not_mem_nil, false_implies, implies_true, and_true]
  exact mhC_ok q297b
noncomputable def Γ297b : Facts → FuncId → Option CallD := ΓN libs297b Γb
theorem Γ297b_ok : ∀ F : Facts, ΓOk Tryz.prog F (Γ297b F) := ΓN_ok libs297b_ok Γb_ok
theorem z15 : mhForm s15 = true := by kernel_rfl
theorem r15 : mhRun Tryz.prog Γ297b 5000 80 s15 = true := by kernel_rfl
theorem h15 : mhForm s15 = true ∧ MHOk Tryz.prog s15 := ⟨z15, mh_of Γ297b_ok r15⟩
end Go.Proofs.YtcebboibpbbgdaaGreatDoor.SystemKnownDone
