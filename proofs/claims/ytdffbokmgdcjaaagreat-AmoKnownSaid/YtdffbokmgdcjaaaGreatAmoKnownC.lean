/- The law AmoKnown: it takes nothing, and returns true. No condition. -/
import Derived.Test.YtdffbokmgdcjaaaGreatAmoKnownRunC
import Derived.Test.YtdffbokmgdcjaaaGreatRows
namespace Go.Proofs.YtdffbokmgdcjaaaGreat.AmoKnownDone
open Go.Eng Go.RowKit Go.ChangeShapes Go.WideShapes Go.ChangeAt
set_option maxRecDepth 100000

theorem own : ownKnob Tryz.prog.godebug = none := by kernel_rfl
theorem laidOut : laidOutB Tryz.prog = true := by kernel_rfl
theorem shapes : allSh Tryz.prog Tryz.f6.params.toList = [[]] := by kernel_rfl
theorem law1 : LawS Tryz.prog 6 [] := (law_cases run1 fun _ _ => trivial).toS

theorem lifted (os : Os) (started : os.Started) (H : Type) (enc : TypeId × Value → H) :
    ReturnsInHanded {} Tryz.checked os 6 .any (Rows.amoKnownSpec.pre6 enc Tryz.prog Tryz.f6 Rows.amoKnownRow.domain false) (Rows.amoKnownSpec.post enc Tryz.prog Tryz.f6 false true false false) :=
  lifted_shapes (C := Tryz.checked) (s := Rows.amoKnownSpec) (conds := Rows.amoKnownRow.domain) (apart := false) (enc := enc) own laidOut started (f := 6) (fn := Tryz.f6) (by kernel_rfl) Tryz.func6
    (ChangeSpec.witness6 (enc := enc) (C := Tryz.checked) false ⟨#[], #[], []⟩ 8 (by kernel_rfl) (by kernel_rfl) (by kernel_rfl) (by kernel_rfl))
    (by kernel_rfl) rfl Tryz.underlying4 rfl (fun ds hl => by cases ds with | nil => rfl | cons a l => cases hl) (by kernel_rfl) (fun sh hsh => by
      change sh ∈ allSh Tryz.prog Tryz.f6.params.toList at hsh
      rw [shapes] at hsh
      obtain rfl := List.mem_singleton.1 hsh
      exact law1)

theorem law_holds : Rows.AmoKnownSaid :=
  OpenClaim.holds_of_wide 6 Tryz.f6 rfl rfl rfl rfl rfl rfl rfl ⟨rfl, rfl, rfl, rfl, rfl⟩ rfl rfl rfl rfl rfl (by kernel_rfl) Tryz.func6 (by kernel_rfl)
    (of_decide_eq_true (by kernel_rfl)) (by unfold Func.isWrapper; first | (rw [if_pos (by decide +kernel)]; kernel_rfl) | (rw [if_neg (by decide +kernel)]; exact ⟨rfl, rfl⟩))
    (fun os started H enc _ => lifted os started H enc)
#print axioms law_holds
end Go.Proofs.YtdffbokmgdcjaaaGreat.AmoKnownDone
