/- That the calls told to the law SystemEvents do so. -/
import Derived.Test.YtcebboibpbbgdaaGreatDoorSystemEventsR0C
import Derived.Test.YtcebboibpbbgdaaGreatDoorSystemEventsT0C
import Derived.Test.YtcebboibpbbgdaaGreatDoorSystemEventsT1C
import Derived.Test.YtcebboibpbbgdaaGreatDoorSystemEventsT2C
import Derived.Test.YtcebboibpbbgdaaGreatDoorSystemEventsT3C
import Derived.Test.YtcebboibpbbgdaaGreatDoorSystemEventsT4C
import Derived.Test.YtcebboibpbbgdaaGreatDoorSystemEventsT5C
import Derived.Test.YtcebboibpbbgdaaGreatDoorSystemEventsT6C
import Derived.Test.YtcebboibpbbgdaaGreatDoorSystemEventsT7C
import Derived.Test.YtcebboibpbbgdaaGreatDoorSystemEventsT8C
import Derived.Test.YtcebboibpbbgdaaGreatDoorSystemEventsT9C
import Derived.Test.YtcebboibpbbgdaaGreatDoorSystemEventsTPC
namespace Go.Proofs.YtcebboibpbbgdaaGreatDoor.SystemEventsDone
open Go.Eng
theorem q5 : ∀ c ∈ l5, mhForm c = true ∧ MHOk Tryz.prog c := by
  simp only [l5, List.forall_mem_cons, List.not_mem_nil, false_implies, implies_true, and_true]
  exact ⟨h0, h42, h84⟩
theorem q6 : ∀ c ∈ l6, mhForm c = true ∧ MHOk Tryz.prog c := by
  simp only [l6, List.forall_mem_cons, List.not_mem_nil, false_implies, implies_true, and_true]
  exact ⟨h1, h43, h85⟩
theorem q15 : ∀ c ∈ l15, mhForm c = true ∧ MHOk Tryz.prog c := by
  simp only [l15, List.forall_mem_cons, List.not_mem_nil, false_implies, implies_true, and_true]
  exact ⟨h2, h3, h4, h5, h6, h7, h8, h9, h10, h11, h12, h13, h14, h15, h16, h17, h18, h19, h20, h21, h22, h23, h24, h25, h26, h27, h28, h29, h30, h31, h32, h33, h34, h35, h36, h37, h38, h39, h40, h41, h44, h45, h46, h47, h48, h49, h50, h51, h52, h53, h54, h55, h56, h57, h58, h59, h60, h61, h62, h63, h64, h65, h66, h67, h68, h69, h70, h71, h72, h73, h74, h75, h76, h77, h78, h79, h80, h81, h82, h83, h86, h87, h88⟩
theorem libsN_ok (F : Facts) : ∀ p ∈ libsN, CallCOk Tryz.prog F p.1 p.2 := by
  simp only [libsN, List.forall_mem_cons, List.not_mem_nil, false_implies, implies_true, and_true]
  exact ⟨mhC_ok q5, mhC_ok q6, mhC_ok q15⟩
theorem Γn_ok : ∀ F : Facts, ΓOk Tryz.prog F (Γn F) := ΓN_ok libsN_ok Γb_ok
end Go.Proofs.YtcebboibpbbgdaaGreatDoor.SystemEventsDone
