/- The law PortioKnown: it takes nothing, and returns true. No condition. -/
import Derived.Test.YtgielkefgliiiaaPortioKnownRunC
import Derived.Test.YtgielkefgliiiaaRows
namespace Go.Proofs.Ytgielkefgliiiaa.PortioKnownDone
open Go.Eng Go.RowKit Go.ChangeShapes Go.WideShapes Go.ChangeAt
set_option maxRecDepth 100000

theorem own : ownKnob Try.prog.godebug = none := by kernel_rfl
theorem laidOut : laidOutB Try.prog = true := by kernel_rfl
theorem shapes : allSh Try.prog Try.f12.params.toList = [[]] := by kernel_rfl
theorem law1 : LawS Try.prog 12 [] := (law_cases run1 fun _ _ => trivial).toS

theorem lifted (os : Os) (started : os.Started) (H : Type) (enc : TypeId × Value → H) :
    ReturnsInHanded {} Try.checked os 12 .any (Rows.portioKnownSpec.pre6 enc Try.prog Try.f12 Rows.portioKnownRow.domain false) (Rows.portioKnownSpec.post enc Try.prog Try.f12 false true false false) :=
  lifted_shapes (C := Try.checked) (s := Rows.portioKnownSpec) (conds := Rows.portioKnownRow.domain) (apart := false) (enc := enc) own laidOut started (f := 12) (fn := Try.f12) (by kernel_rfl) Try.func12
    (ChangeSpec.witness6 (enc := enc) (C := Try.checked) false ⟨#[], #[], []⟩ 8 (by kernel_rfl) (by kernel_rfl) (by kernel_rfl) (by kernel_rfl))
    (by kernel_rfl) rfl Try.underlying4 rfl (fun ds hl => by cases ds with | nil => rfl | cons a l => cases hl) (by kernel_rfl) (fun sh hsh => by
      change sh ∈ allSh Try.prog Try.f12.params.toList at hsh
      rw [shapes] at hsh
      obtain rfl := List.mem_singleton.1 hsh
      exact law1)

theorem law_holds : Rows.PortioKnownSaid :=
  OpenClaim.holds_of_wide 12 Try.f12 rfl rfl rfl rfl rfl rfl rfl ⟨rfl, rfl, rfl, rfl, rfl⟩ rfl rfl rfl rfl rfl (by kernel_rfl) Try.func12 (by kernel_rfl)
    (of_decide_eq_true (by kernel_rfl)) (by unfold Func.isWrapper; first | (rw [if_pos (by decide +kernel)]; kernel_rfl) | (rw [if_neg (by decide +kernel)]; exact ⟨rfl, rfl⟩))
    (fun os started H enc _ => lifted os started H enc)
#print axioms law_holds
end Go.Proofs.Ytgielkefgliiiaa.PortioKnownDone
