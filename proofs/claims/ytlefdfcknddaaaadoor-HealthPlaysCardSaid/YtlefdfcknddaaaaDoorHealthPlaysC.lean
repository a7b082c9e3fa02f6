/- The law HealthPlays: whatever policy and faults it is called with, it returns true, and its arguments read behind the call as they did. Of the listed package-level variables the card speaks as its words say. No condition. -/
import Derived.Test.YtlefdfcknddaaaaDoorHealthPlaysFitC
import Derived.Test.YtlefdfcknddaaaaDoorHealthPlaysRxC
import Derived.Test.YtlefdfcknddaaaaDoorRows
import Derived.Test.YtlefdfcknddaaaaDoorCards
import Derived.Test.YtlefdfcknddaaaaDoorTie
namespace Go.Proofs.YtlefdfcknddaaaaDoor.HealthPlaysDone
open Go.Eng Go.RowKit Go.ChangeShapes Go.WideShapes Go.ChangeAt
set_option maxRecDepth 100000

theorem own : ownKnob Tryd.prog.godebug = none := by kernel_rfl
theorem laidOut : laidOutB Tryd.prog = true := by kernel_rfl
theorem shapes : allSh Tryd.prog Tryd.f6.params.toList = [sh1, sh2] := by kernel_rfl
theorem hG : ((glOf Tryd.prog Rows.healthPlaysRow.laid).filter fun p => [0].contains p.1) = G := by kernel_rfl

theorem S_ex (ρ : Env) : ∃ (x : Nat → Sc) (f : Nat → Sc → Sc → Sc → Sc), S { v := fun i => if i < 900 then ρ.v i else x i, f := f } := ⟨fun _ => .I 0, fun _ a _ _ => .I (Pend.pendS a.arr), fun _ _ _ => rfl⟩
theorem law1 : LawG Tryd.prog G 6 sh1 := by
  refine lawG_points (root := root) (pts := []) (Γ := Γh) (S := S) Tryd.func6 (by kernel_rfl) (of_decide_eq_true (by kernel_rfl)) Γh_ok S_ex (fun p hp => by cases hp) (fun p hp => by cases hp) run1
    (fun _ _ => False) (fun _ _ => 0) (fun j p ρ hp _ => by cases hp) fun ρ _ _ => fitN ρ
theorem pts_mem {p : Pt} (hp : p ∈ pts) : p = pt0 ∨ p = pt1 ∨ p = pt2 := by
  simpa [pts] using hp
theorem law2 : LawG Tryd.prog G 6 sh2 := by
  refine lawG_points (root := root) (pts := pts) (Γ := Γh) (S := S) Tryd.func6 (by kernel_rfl) (of_decide_eq_true (by kernel_rfl)) Γh_ok S_ex (fun p hp => ?_) (fun p hp => ?_) run2 Inv mu (fun j p ρ hp h => ?_) fitE
  · rcases pts_mem hp with rfl | rfl | rfl <;> rfl
  · rcases pts_mem hp with rfl | rfl | rfl
    · exact ok0
    · exact ok1
    · exact ok2
  · match j, hp with
    | 0, hp => cases hp; exact ⟨facts0_ok h, fit0 ρ h⟩
    | 1, hp => cases hp; exact ⟨facts1_ok h, fit1 ρ h⟩
    | 2, hp => cases hp; exact ⟨facts2_ok h, fit2 ρ⟩
    | j + 3, hp => simp [pts] at hp

noncomputable def laidWorld (os : Os) : World := laidW Tryd.prog os [(0, Rows.laid_internal_strconv_uint64pow10), (1, Rows.laid_math_bits_deBruijn32tab), (2, Rows.laid_math_bits_deBruijn64tab)]
theorem laid_met (os : Os) (args : Array Value) : laidMet Tryd.prog Rows.healthPlaysRow.laid ((laidWorld os).forCall (fun _ _ => 0) ⟨#[], args, []⟩).memory :=
  laidMet_of_run' 8 (by kernel_rfl) (by kernel_rfl)

theorem lifted (os : Os) (started : os.Started) (H : Type) (enc : TypeId × Value → H) :
    ReturnsInHanded {} Tryd.checked os 6 .any (fun w args => (Rows.healthPlaysSpec.pre enc Tryd.prog Tryd.f6 [] false w args ∧ laidMet Tryd.prog Rows.healthPlaysRow.laid w) ∧ sizedMet enc Tryd.prog Tryd.f6 (OpenSpec.ofChange Rows.healthPlaysSpec) false w args)
      (Rows.healthPlaysSpec.post enc Tryd.prog Tryd.f6 false true false false) :=
  lifted_laidG (C := Tryd.checked) (s := Rows.healthPlaysSpec) own laidOut started (ks := [0]) hG (by decide) (by kernel_rfl) Tryd.func6
    (ChangeSpec.witness_at (enc := enc) (C := Tryd.checked) (os := os) (X := fun w _ => laidMet Tryd.prog Rows.healthPlaysRow.laid w) false (laidWorld os) #[(.agg (#[.int .u8 0, .int .u32 0, .int .u8 0] ++ (Array.replicate 17 (.int .u8 0)))), .slice none 0 0] 8 rfl (by kernel_rfl) (by kernel_rfl) (by kernel_rfl) (by kernel_rfl) (by kernel_rfl) (laid_met os _))
    (by kernel_rfl) rfl Tryd.underlying4 rfl (fun ds hl => by rcases ds with _ | ⟨a, _ | ⟨b, _ | ⟨c, ds⟩⟩⟩ <;> first | rfl | cases hl) (by kernel_rfl) (fun sh hsh => by
      change sh ∈ allSh Tryd.prog Tryd.f6.params.toList at hsh
      rw [shapes] at hsh
      rcases List.mem_cons.1 hsh with rfl | hsh
      · exact law1
      · obtain rfl := List.mem_singleton.1 hsh
        exact law2)

theorem row_holds : Rows.HealthPlaysSaid :=
  OpenClaim.holds_of_wide 6 Tryd.f6 rfl rfl rfl rfl rfl rfl rfl ⟨rfl, rfl, rfl, rfl, rfl⟩ rfl rfl rfl rfl rfl (by kernel_rfl) Tryd.func6 (by kernel_rfl)
    (of_decide_eq_true (by kernel_rfl)) (by unfold Func.isWrapper; first | (rw [if_pos (by decide +kernel)]; kernel_rfl) | (rw [if_neg (by decide +kernel)]; exact ⟨rfl, rfl⟩))
    (fun os started H enc _ => lifted os started H enc)

theorem card_holds : Rows.HealthPlaysCardSaid :=
  Claim7.holds_tied_plain_at .later [] [.data, .data, .data] true (true, "48aa0cddf59691a5c5f39e5b4de159f74fa27b05123f036bb93da225aae80c85") false
    row_holds (fun _ h => by cases h) (by kernel_rfl) (fun _ h => by cases h) healthPlays_row_tie rfl ⟨rfl, rfl⟩ (by kernel_rfl) rfl
    (fun f fn hf hfn => by
      obtain rfl : f = 6 := Option.some.inj ((show Tryd.prog.funcNamed Rows.healthPlaysRow.func = some 6 by kernel_rfl).symm.trans hf) |>.symm
      obtain rfl : fn = Tryd.f6 := (Option.some.inj (Tryd.func6.symm.trans hfn)).symm
      refine ⟨by kernel_rfl, fun j t ht => ?_⟩
      rw [show Tryd.f6.params = #[59, 60] by kernel_rfl] at ht
      have h59 : Tryd.prog.wantsStandIn 59 = false := by kernel_rfl
      have h60 : Tryd.prog.wantsStandIn 60 = false := by kernel_rfl
      rcases j with _ | _ | j
      · obtain rfl : 59 = t := by simpa using ht
        exact h59
      · obtain rfl : 60 = t := by simpa using ht
        exact h60
      · simp at ht)
    (by kernel_rfl)
#print axioms card_holds
end Go.Proofs.YtlefdfcknddaaaaDoor.HealthPlaysDone
