/- The law BusKnown: it takes nothing, and returns true. Of the listed package-level variables the card speaks as its words say; the law reads none of them. No condition. -/
import Derived.Test.YtohkcammoaainaaGreatDoorBusKnownR0C
import Derived.Test.YtohkcammoaainaaGreatDoorBusKnownR1C
import Derived.Test.YtohkcammoaainaaGreatDoorBusKnownR2C
import Derived.Test.YtohkcammoaainaaGreatDoorBusKnownR3C
import Derived.Test.YtohkcammoaainaaGreatDoorBusKnownR4C
import Derived.Test.YtohkcammoaainaaGreatDoorBusKnownR5C
import Derived.Test.YtohkcammoaainaaGreatDoorBusKnownR6C
import Derived.Test.YtohkcammoaainaaGreatDoorBusKnownR7C
import Derived.Test.YtohkcammoaainaaGreatDoorRows
import Derived.Test.YtohkcammoaainaaGreatDoorCards
import Derived.Test.YtohkcammoaainaaGreatDoorTie
namespace Go.Proofs.YtohkcammoaainaaGreatDoor.BusKnownDone
open Go.Eng Go.RowKit Go.ChangeShapes Go.WideShapes Go.ChangeAt
set_option maxRecDepth 100000

def sh0 : Sh := []
theorem own : ownKnob Tryz.prog.godebug = none := by kernel_rfl
theorem laidOut : laidOutB Tryz.prog = true := by kernel_rfl
theorem shapes : allSh Tryz.prog Tryz.f4.params.toList = [sh0] := by kernel_rfl
theorem k6 : CutOk Tryz.prog root Tryz.f4 {} c6 := cut_step (fun F _ => Γw_ok F) r7 (fun _ e => by cases e)
theorem k5 : CutOk Tryz.prog root Tryz.f4 {} c5 := cut_step (fun F _ => Γw_ok F) r6 (fun _ e => by cases e; exact k6)
theorem k4 : CutOk Tryz.prog root Tryz.f4 {} c4 := cut_step (fun F _ => Γw_ok F) r5 (fun _ e => by cases e; exact k5)
theorem k3 : CutOk Tryz.prog root Tryz.f4 {} c3 := cut_step (fun F _ => Γw_ok F) r4 (fun _ e => by cases e; exact k4)
theorem k2 : CutOk Tryz.prog root Tryz.f4 {} c2 := cut_step (fun F _ => Γw_ok F) r3 (fun _ e => by cases e; exact k3)
theorem k1 : CutOk Tryz.prog root Tryz.f4 {} c1 := cut_step (fun F _ => Γw_ok F) r2 (fun _ e => by cases e; exact k2)
theorem k0 : CutOk Tryz.prog root Tryz.f4 {} c0 := cut_step (fun F _ => Γw_ok F) r1 (fun _ e => by cases e; exact k1)
theorem law1 : LawS Tryz.prog 4 sh0 := Law.toS _ fun ρ m w vs _ hvs hH hf =>
  law_by_cuts (Γ := fun _ => Γw) (F := {}) (fun F _ => Γw_ok F) Tryz.func4 (by kernel_rfl) (of_decide_eq_true (by kernel_rfl)) r0 k0 (ρ := ρ) ⟨by simp, by simp, by simp, trivial⟩ hvs hH hf (fun id B h => by have := ofList_mem h; cases this)

noncomputable def laidWorld (os : Os) : World := laidW Tryz.prog os [(2, Rows.laid_math_bits_deBruijn32tab), (3, Rows.laid_math_bits_deBruijn64tab), (0, Rows.laid_internal_strconv_uint64pow10)]
theorem laid_met (os : Os) (args : Array Value) : laidMet Tryz.prog Rows.busKnownRow.laid ((laidWorld os).forCall (fun _ _ => 0) ⟨#[], args, []⟩).memory :=
  laidMet_of_run' 8 (by kernel_rfl) (by kernel_rfl)

theorem lifted (os : Os) (started : os.Started) (H : Type) (enc : TypeId × Value → H) :
    ReturnsInHanded {} Tryz.checked os 4 .any (fun w args => (Rows.busKnownSpec.pre enc Tryz.prog Tryz.f4 [] false w args ∧ laidMet Tryz.prog Rows.busKnownRow.laid w) ∧ sizedMet enc Tryz.prog Tryz.f4 (OpenSpec.ofChange Rows.busKnownSpec) false w args)
      (Rows.busKnownSpec.post enc Tryz.prog Tryz.f4 false true false false) :=
  lifted_laid (C := Tryz.checked) (s := Rows.busKnownSpec) own laidOut started (by kernel_rfl) Tryz.func4
    (ChangeSpec.witness_at (enc := enc) (C := Tryz.checked) (os := os) (X := fun w _ => laidMet Tryz.prog Rows.busKnownRow.laid w) false (laidWorld os) #[] 8 rfl (by kernel_rfl) (by kernel_rfl) (by kernel_rfl) (by kernel_rfl) (by kernel_rfl) (laid_met os _))
    (by kernel_rfl) rfl Tryz.underlying4 rfl (fun ds hl => by cases ds with | nil => rfl | cons a l => cases hl) (by kernel_rfl) (fun sh hsh => by
      change sh ∈ allSh Tryz.prog Tryz.f4.params.toList at hsh
      rw [shapes] at hsh
      obtain rfl := List.mem_singleton.1 hsh
      exact law1)

theorem row_holds : Rows.BusKnownSaid :=
  OpenClaim.holds_of_wide 4 Tryz.f4 rfl rfl rfl rfl rfl rfl rfl ⟨rfl, rfl, rfl, rfl, rfl⟩ rfl rfl rfl rfl rfl (by kernel_rfl) Tryz.func4 (by kernel_rfl)
    (of_decide_eq_true (by kernel_rfl)) (by unfold Func.isWrapper; first | (rw [if_pos (by decide +kernel)]; kernel_rfl) | (rw [if_neg (by decide +kernel)]; exact ⟨rfl, rfl⟩))
    (fun os started H enc _ => lifted os started H enc)

theorem card_holds : Rows.BusKnownCardSaid :=
  Claim7.holds_tied_plain_at .later [] [.data, .data, .data] true (true, "e9f017d30e38b4d97004c239c4521080542256703a2abf5e7786e29172bbd68f") false
    row_holds (fun _ h => by cases h) (by kernel_rfl) (fun _ h => by cases h) busKnown_row_tie rfl ⟨rfl, rfl⟩ (by kernel_rfl) rfl
    (fun f fn hf hfn => by
      obtain rfl : f = 4 := Option.some.inj ((show Tryz.prog.funcNamed Rows.busKnownRow.func = some 4 by kernel_rfl).symm.trans hf) |>.symm
      obtain rfl : fn = Tryz.f4 := (Option.some.inj (Tryz.func4.symm.trans hfn)).symm
      exact ⟨by kernel_rfl, fun j t ht => by
        rw [show Tryz.f4.params = #[] by kernel_rfl] at ht
        simp at ht⟩)
    (by kernel_rfl)
#print axioms card_holds
end Go.Proofs.YtohkcammoaainaaGreatDoor.BusKnownDone
