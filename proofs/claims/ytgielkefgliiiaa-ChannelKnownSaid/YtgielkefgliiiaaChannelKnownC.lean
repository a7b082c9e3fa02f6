/- The law ChannelKnown: it takes nothing, and returns true. No condition. -/
import Derived.Test.YtgielkefgliiiaaChannelKnownRunC
import Derived.Test.YtgielkefgliiiaaRows
namespace Go.Proofs.Ytgielkefgliiiaa.ChannelKnownDone
open Go.Eng Go.RowKit Go.ChangeShapes Go.WideShapes Go.ChangeAt
set_option maxRecDepth 100000

theorem own : ownKnob Try.prog.godebug = none := by kernel_rfl
theorem laidOut : laidOutB Try.prog = true := by kernel_rfl
theorem shapes : allSh Try.prog Try.f7.params.toList = [[]] := by kernel_rfl
theorem law1 : LawS Try.prog 7 [] := Law.toS _ fun ρ m w vs hb hvs hH hf =>
  law_by_cases (Γ := fun _ => Γw) (fun F => Γw_ok F) run1 (ρ := ρ) ⟨by simp, hb, by simp, trivial⟩ trivial hvs hH hf (fun id B h => shH_ro _ (ofList_mem h))

theorem lifted (os : Os) (started : os.Started) (H : Type) (enc : TypeId × Value → H) :
    ReturnsInHanded {} Try.checked os 7 .any (Rows.channelKnownSpec.pre6 enc Try.prog Try.f7 Rows.channelKnownRow.domain false) (Rows.channelKnownSpec.post enc Try.prog Try.f7 false true false false) :=
  lifted_shapes (C := Try.checked) (s := Rows.channelKnownSpec) (conds := Rows.channelKnownRow.domain) (apart := false) (enc := enc) own laidOut started (f := 7) (fn := Try.f7) (by kernel_rfl) Try.func7
    (ChangeSpec.witness6 (enc := enc) (C := Try.checked) false ⟨#[], #[], []⟩ 8 (by kernel_rfl) (by kernel_rfl) (by kernel_rfl) (by kernel_rfl))
    (by kernel_rfl) rfl Try.underlying4 rfl (fun ds hl => by cases ds with | nil => rfl | cons a l => cases hl) (by kernel_rfl) (fun sh hsh => by
      change sh ∈ allSh Try.prog Try.f7.params.toList at hsh
      rw [shapes] at hsh
      obtain rfl := List.mem_singleton.1 hsh
      exact law1)

theorem law_holds : Rows.ChannelKnownSaid :=
  OpenClaim.holds_of_wide 7 Try.f7 rfl rfl rfl rfl rfl rfl rfl ⟨rfl, rfl, rfl, rfl, rfl⟩ rfl rfl rfl rfl rfl (by kernel_rfl) Try.func7 (by kernel_rfl)
    (of_decide_eq_true (by kernel_rfl)) (by unfold Func.isWrapper; first | (rw [if_pos (by decide +kernel)]; kernel_rfl) | (rw [if_neg (by decide +kernel)]; exact ⟨rfl, rfl⟩))
    (fun os started H enc _ => lifted os started H enc)
#print axioms law_holds
end Go.Proofs.Ytgielkefgliiiaa.ChannelKnownDone
