/- That the calls told to the law SystemKnown do so. -/
import Derived.Test.YtcebboibpbbgdaaGreatDoorSystemKnownR0C
import Derived.Test.YtcebboibpbbgdaaGreatDoorSystemKnownT0C
import Derived.Test.YtcebboibpbbgdaaGreatDoorSystemKnownT1C
import Derived.Test.YtcebboibpbbgdaaGreatDoorSystemKnownT2C
import Derived.Test.YtcebboibpbbgdaaGreatDoorSystemKnownT3C
import Derived.Test.YtcebboibpbbgdaaGreatDoorSystemKnownT4C
import Derived.Test.YtcebboibpbbgdaaGreatDoorSystemKnownTPC
import Derived.Test.YtcebboibpbbgdaaGreatDoorSystemKnownT6C
namespace Go.Proofs.YtcebboibpbbgdaaGreatDoor.SystemKnownDone
open Go.Eng
theorem q5 : ∀ c ∈ l5, mhForm c = true ∧ MHOk Tryz.prog c := by
  simp only [l5, List.forall_mem_cons, List.not_mem_nil, false_implies, implies_true, and_true]
  exact ⟨h0, h2, h19, h25⟩
theorem q6 : ∀ c ∈ l6, mhForm c = true ∧ MHOk Tryz.prog c := by
  simp only [l6, List.forall_mem_cons, List.not_mem_nil, false_implies, implies_true, and_true]
  exact ⟨h1, h3, h20, h21, h22, h26⟩
theorem q15 : ∀ c ∈ l15, mhForm c = true ∧ MHOk Tryz.prog c := by
  simp only [l15, List.forall_mem_cons, List.not_mem_nil, false_implies, implies_true, and_true]
  exact ⟨h4, h5, h6, h7, h8, h9, h10, h11, h12, h13, h14, h15, h16, h17, h18, h23, h24, h27, h28, h29⟩
theorem libsN_ok (F : Facts) : ∀ p ∈ libsN, CallCOk Tryz.prog F p.1 p.2 := by
  simp only [libsN, List.forall_mem_cons, List.not_mem_nil, false_implies, implies_true, and_true]
  exact ⟨mhC_ok q16, mhC_ok q5, mhC_ok q6, mhC_ok q15⟩
theorem Γn_ok : ∀ F : Facts, ΓOk Tryz.prog F (Γn F) := ΓN_ok libsN_ok Γb_ok
end Go.Proofs.YtcebboibpbbgdaaGreatDoor.SystemKnownDone
