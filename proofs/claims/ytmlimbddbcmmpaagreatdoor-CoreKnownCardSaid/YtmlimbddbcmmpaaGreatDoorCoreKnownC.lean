/- The law CoreKnown: it takes nothing, and returns true. Of the listed package-level variables the card speaks as its words say; the law reads none of them. No condition. -/
import Derived.Test.YtmlimbddbcmmpaaGreatDoorCoreKnownAwC
import Derived.Test.YtmlimbddbcmmpaaGreatDoorCoreKnownR0C
import Derived.Test.YtmlimbddbcmmpaaGreatDoorCoreKnownR1C
import Derived.Test.YtmlimbddbcmmpaaGreatDoorCoreKnownR2C
import Derived.Test.YtmlimbddbcmmpaaGreatDoorCoreKnownR3C
import Derived.Test.YtmlimbddbcmmpaaGreatDoorCoreKnownR4C
import Derived.Test.YtmlimbddbcmmpaaGreatDoorCoreKnownR5C
import Derived.Test.YtmlimbddbcmmpaaGreatDoorCoreKnownR6C
import Derived.Test.YtmlimbddbcmmpaaGreatDoorCoreKnownR7C
import Derived.Test.YtmlimbddbcmmpaaGreatDoorCoreKnownR8C
import Derived.Test.YtmlimbddbcmmpaaGreatDoorCoreKnownR9C
import Derived.Test.YtmlimbddbcmmpaaGreatDoorCoreKnownR10C
import Derived.Test.YtmlimbddbcmmpaaGreatDoorCoreKnownR11C
import Derived.Test.YtmlimbddbcmmpaaGreatDoorCoreKnownR12C
import Derived.Test.YtmlimbddbcmmpaaGreatDoorCoreKnownR13C
import Derived.Test.YtmlimbddbcmmpaaGreatDoorCoreKnownR14C
import Derived.Test.YtmlimbddbcmmpaaGreatDoorCoreKnownR15C
import Derived.Test.YtmlimbddbcmmpaaGreatDoorCoreKnownR16C
import Derived.Test.YtmlimbddbcmmpaaGreatDoorCoreKnownR17C
import Derived.Test.YtmlimbddbcmmpaaGreatDoorCoreKnownR18C
import Derived.Test.YtmlimbddbcmmpaaGreatDoorCoreKnownR19C
import Derived.Test.YtmlimbddbcmmpaaGreatDoorCoreKnownR20C
import Derived.Test.YtmlimbddbcmmpaaGreatDoorCoreKnownR21C
import Derived.Test.YtmlimbddbcmmpaaGreatDoorCoreKnownFCC
import Derived.Test.YtmlimbddbcmmpaaGreatDoorCoreKnownFDC
import Derived.Test.YtmlimbddbcmmpaaGreatDoorCoreKnownFEC
import Derived.Test.YtmlimbddbcmmpaaGreatDoorRows
import Derived.Test.YtmlimbddbcmmpaaGreatDoorCards
import Derived.Test.YtmlimbddbcmmpaaGreatDoorTie
namespace Go.Proofs.YtmlimbddbcmmpaaGreatDoor.CoreKnownDone
open Go.Eng Go.RowKit Go.ChangeShapes Go.WideShapes Go.ChangeAt
set_option maxRecDepth 100000

def sh0 : Sh := []
theorem own : ownKnob Tryz.prog.godebug = none := by kernel_rfl
theorem laidOut : laidOutB Tryz.prog = true := by kernel_rfl
theorem shapes : allSh Tryz.prog Tryz.f3.params.toList = [sh0] := by kernel_rfl
theorem Γr_ok (F : Facts) : ΓOk Tryz.prog F (Γr F) := Γw_ok F
theorem kc20 : CutOk Tryz.prog root Tryz.f3 {} c20 := cut_step (Γ := Γr) (fun F _ => Γr_ok F) rc21 (fun _ e => by cases e)
theorem kc19 : CutOk Tryz.prog root Tryz.f3 {} c19 := cut_step (Γ := Γr) (fun F _ => Γr_ok F) rc20 (fun _ e => by cases e; exact kc20)
theorem kc18 : CutOk Tryz.prog root Tryz.f3 {} c18 := cut_step (Γ := Γr) (fun F _ => Γr_ok F) rc19 (fun _ e => by cases e; exact kc19)
theorem kc17 : CutOk Tryz.prog root Tryz.f3 {} c17 := cut_step (Γ := Γr) (fun F _ => Γr_ok F) rc18 (fun _ e => by cases e; exact kc18)
theorem kc16 : CutOk Tryz.prog root Tryz.f3 {} c16 := cut_step (Γ := Γr) (fun F _ => Γr_ok F) rc17 (fun _ e => by cases e; exact kc17)
theorem kc15 : CutOk Tryz.prog root Tryz.f3 {} c15 := cut_step (Γ := Γr) (fun F _ => Γr_ok F) rc16 (fun _ e => by cases e; exact kc16)
theorem kc14 : CutOk Tryz.prog root Tryz.f3 {} c14 := cut_step (Γ := Γr) (fun F _ => Γr_ok F) rc15 (fun _ e => by cases e; exact kc15)
theorem kc13 : CutOk Tryz.prog root Tryz.f3 {} c13 := cut_step (Γ := Γr) (fun F _ => Γr_ok F) rc14 (fun _ e => by cases e; exact kc14)
theorem kc12 : CutOk Tryz.prog root Tryz.f3 {} c12 := cut_step (Γ := Γr) (fun F _ => Γr_ok F) rc13 (fun _ e => by cases e; exact kc13)
theorem kc11 : CutOk Tryz.prog root Tryz.f3 {} c11 := cut_step (Γ := Γr) (fun F _ => Γr_ok F) rc12 (fun _ e => by cases e; exact kc12)
theorem kc10 : CutOk Tryz.prog root Tryz.f3 {} c10 := cut_step (Γ := Γr) (fun F _ => Γr_ok F) rc11 (fun _ e => by cases e; exact kc11)
theorem kc9 : CutOk Tryz.prog root Tryz.f3 {} c9 := cut_step (Γ := Γr) (fun F _ => Γr_ok F) rc10 (fun _ e => by cases e; exact kc10)
theorem kc8 : CutOk Tryz.prog root Tryz.f3 {} c8 := cut_step (Γ := Γr) (fun F _ => Γr_ok F) rc9 (fun _ e => by cases e; exact kc9)
theorem kc7 : CutOk Tryz.prog root Tryz.f3 {} c7 := cut_step (Γ := Γr) (fun F _ => Γr_ok F) rc8 (fun _ e => by cases e; exact kc8)
theorem kc6 : CutOk Tryz.prog root Tryz.f3 {} c6 := cut_step (Γ := Γr) (fun F _ => Γr_ok F) rc7 (fun _ e => by cases e; exact kc7)
theorem kc5 : CutOk Tryz.prog root Tryz.f3 {} c5 := cut_step (Γ := Γr) (fun F _ => Γr_ok F) rc6 (fun _ e => by cases e; exact kc6)
theorem kc4 : CutOk Tryz.prog root Tryz.f3 {} c4 := cut_step (Γ := Γr) (fun F _ => Γr_ok F) rc5 (fun _ e => by cases e; exact kc5)
theorem kc3 : CutOk Tryz.prog root Tryz.f3 {} c3 := cut_step (Γ := Γr) (fun F _ => Γr_ok F) rc4 (fun _ e => by cases e; exact kc4)
theorem kc2 : CutOk Tryz.prog root Tryz.f3 {} c2 := cut_step (Γ := Γr) (fun F _ => Γr_ok F) rc3 (fun _ e => by cases e; exact kc3)
theorem kc1 : CutOk Tryz.prog root Tryz.f3 {} c1 := cut_step (Γ := Γr) (fun F _ => Γr_ok F) rc2 (fun _ e => by cases e; exact kc2)
theorem kc0 : CutOk Tryz.prog root Tryz.f3 {} c0 := cut_step (Γ := Γr) (fun F _ => Γr_ok F) rc1 (fun _ e => by cases e; exact kc1)
theorem law1 : LawS Tryz.prog 3 sh0 := Law.toS _ fun ρ m w vs _ hvs hH hf =>
  law_by_cuts (Γ := Γr) (F := {}) (fun F _ => Γr_ok F) Tryz.func3 (by kernel_rfl) (of_decide_eq_true (by kernel_rfl)) rc0 kc0 (ρ := ρ) ⟨by simp, by simp, by simp, trivial⟩ hvs hH hf (fun id B h => by have := ofList_mem h; cases this)

noncomputable def laidWorld (os : Os) : World := laidW Tryz.prog os [(0, Rows.laid_internal_strconv_uint64pow10), (3, Rows.laid_math_bits_deBruijn32tab), (2, Rows.laid_math_bits_deBruijn64tab)]
theorem laid_met (os : Os) (args : Array Value) : laidMet Tryz.prog Rows.coreKnownRow.laid ((laidWorld os).forCall (fun _ _ => 0) ⟨#[], args, []⟩).memory :=
  laidMet_of_run' 8 (by kernel_rfl) (by kernel_rfl)

theorem lifted (os : Os) (started : os.Started) (H : Type) (enc : TypeId × Value → H) :
    ReturnsInHanded {} Tryz.checked os 3 .any (fun w args => (Rows.coreKnownSpec.pre enc Tryz.prog Tryz.f3 [] false w args ∧ laidMet Tryz.prog Rows.coreKnownRow.laid w) ∧ sizedMet enc Tryz.prog Tryz.f3 (OpenSpec.ofChange Rows.coreKnownSpec) false w args)
      (Rows.coreKnownSpec.post enc Tryz.prog Tryz.f3 false true false false) :=
  lifted_laid (C := Tryz.checked) (s := Rows.coreKnownSpec) own laidOut started (by kernel_rfl) Tryz.func3
    (ChangeSpec.witness_at (enc := enc) (C := Tryz.checked) (os := os) (X := fun w _ => laidMet Tryz.prog Rows.coreKnownRow.laid w) false (laidWorld os) #[] 8 rfl (by kernel_rfl) (by kernel_rfl) (by kernel_rfl) (by kernel_rfl) (by kernel_rfl) (laid_met os _))
    (by kernel_rfl) rfl Tryz.underlying4 rfl (fun ds hl => by cases ds with | nil => rfl | cons a l => cases hl) (by kernel_rfl) (fun sh hsh => by
      change sh ∈ allSh Tryz.prog Tryz.f3.params.toList at hsh
      rw [shapes] at hsh
      obtain rfl := List.mem_singleton.1 hsh
      exact law1)

theorem row_holds : Rows.CoreKnownSaid :=
  OpenClaim.holds_of_wide 3 Tryz.f3 rfl rfl rfl rfl rfl rfl rfl ⟨rfl, rfl, rfl, rfl, rfl⟩ rfl rfl rfl rfl rfl named Tryz.func3 closed
    (of_decide_eq_true (by kernel_rfl)) (by unfold Func.isWrapper; first | (rw [if_pos (by decide +kernel)]; kernel_rfl) | (rw [if_neg (by decide +kernel)]; exact ⟨rfl, rfl⟩))
    (fun os started H enc _ => lifted os started H enc)

theorem card_holds : Rows.CoreKnownCardSaid :=
  Claim7.holds_tied_plain_at .later [] [.data, .data, .data] true (true, "f8fb29c8212d56044521c8e5009630e93645c0bdd4c691101c5543722bf26478") false
    row_holds (fun _ h => by cases h) (by kernel_rfl) (fun _ h => by cases h) coreKnown_row_tie rfl ⟨rfl, rfl⟩ (by kernel_rfl) rfl
    (fun f fn hf hfn => by
      obtain rfl : f = 3 := Option.some.inj (named.symm.trans hf) |>.symm
      obtain rfl : fn = Tryz.f3 := (Option.some.inj (Tryz.func3.symm.trans hfn)).symm
      exact ⟨looks, fun j t ht => by
        rw [show Tryz.f3.params = #[] by kernel_rfl] at ht
        simp at ht⟩)
    goes
#print axioms card_holds
end Go.Proofs.YtmlimbddbcmmpaaGreatDoor.CoreKnownDone
