/- The law AsmNames: it takes nothing, and returns true. Of the listed package-level variables the card speaks as its words say; the law reads none of them. No condition. -/
import Derived.Test.YtljdmppakiacdaaGreatDoorAsmNamesCutsC
import Derived.Test.YtljdmppakiacdaaGreatDoorAsmNamesR0C
import Derived.Test.YtljdmppakiacdaaGreatDoorAsmNamesR1C
import Derived.Test.YtljdmppakiacdaaGreatDoorAsmNamesR2C
import Derived.Test.YtljdmppakiacdaaGreatDoorAsmNamesR3C
import Derived.Test.YtljdmppakiacdaaGreatDoorAsmNamesR4C
import Derived.Test.YtljdmppakiacdaaGreatDoorAsmNamesR5C
import Derived.Test.YtljdmppakiacdaaGreatDoorAsmNamesR6C
import Derived.Test.YtljdmppakiacdaaGreatDoorAsmNamesR7C
import Derived.Test.YtljdmppakiacdaaGreatDoorAsmNamesR8C
import Derived.Test.YtljdmppakiacdaaGreatDoorAsmNamesR9C
import Derived.Test.YtljdmppakiacdaaGreatDoorAsmNamesR10C
import Derived.Test.YtljdmppakiacdaaGreatDoorAsmNamesR11C
import Derived.Test.YtljdmppakiacdaaGreatDoorAsmNamesR12C
import Derived.Test.YtljdmppakiacdaaGreatDoorAsmNamesR13C
import Derived.Test.YtljdmppakiacdaaGreatDoorAsmNamesR14C
import Derived.Test.YtljdmppakiacdaaGreatDoorAsmNamesR15C
import Derived.Test.YtljdmppakiacdaaGreatDoorAsmNamesR16C
import Derived.Test.YtljdmppakiacdaaGreatDoorAsmNamesR17C
import Derived.Test.YtljdmppakiacdaaGreatDoorAsmNamesR18C
import Derived.Test.YtljdmppakiacdaaGreatDoorAsmNamesR19C
import Derived.Test.YtljdmppakiacdaaGreatDoorRows
import Derived.Test.YtljdmppakiacdaaGreatDoorCards
import Derived.Test.YtljdmppakiacdaaGreatDoorTie
namespace Go.Proofs.YtljdmppakiacdaaGreatDoor.AsmNamesDone
open Go.Eng Go.RowKit Go.ChangeShapes Go.WideShapes Go.ChangeAt
set_option maxRecDepth 100000

def sh0 : Sh := []
theorem own : ownKnob Tryz.prog.godebug = none := by kernel_rfl
theorem laidOut : laidOutB Tryz.prog = true := by kernel_rfl
theorem shapes : allSh Tryz.prog Tryz.f3.params.toList = [sh0] := by kernel_rfl
theorem rounds : ∀ i, i < 256 → cutNext Tryz.prog Γn 9000 40 root Tryz.f3 {} (ct i) (some (ct (i + 1))) = true := by
  intro i hi
  by_cases h0 : i < 25
  · exact List.all_eq_true.1 c0 i (List.mem_range'_1.2 (by omega))
  by_cases h1 : i < 35
  · exact List.all_eq_true.1 c1 i (List.mem_range'_1.2 (by omega))
  by_cases h2 : i < 42
  · exact List.all_eq_true.1 c2 i (List.mem_range'_1.2 (by omega))
  by_cases h3 : i < 48
  · exact List.all_eq_true.1 c3 i (List.mem_range'_1.2 (by omega))
  by_cases h4 : i < 53
  · exact List.all_eq_true.1 c4 i (List.mem_range'_1.2 (by omega))
  by_cases h5 : i < 58
  · exact List.all_eq_true.1 c5 i (List.mem_range'_1.2 (by omega))
  by_cases h6 : i < 63
  · exact List.all_eq_true.1 c6 i (List.mem_range'_1.2 (by omega))
  by_cases h7 : i < 67
  · exact List.all_eq_true.1 c7 i (List.mem_range'_1.2 (by omega))
  by_cases h8 : i < 71
  · exact List.all_eq_true.1 c8 i (List.mem_range'_1.2 (by omega))
  by_cases h9 : i < 75
  · exact List.all_eq_true.1 c9 i (List.mem_range'_1.2 (by omega))
  by_cases h10 : i < 78
  · exact List.all_eq_true.1 c10 i (List.mem_range'_1.2 (by omega))
  by_cases h11 : i < 81
  · exact List.all_eq_true.1 c11 i (List.mem_range'_1.2 (by omega))
  by_cases h12 : i < 84
  · exact List.all_eq_true.1 c12 i (List.mem_range'_1.2 (by omega))
  by_cases h13 : i < 87
  · exact List.all_eq_true.1 c13 i (List.mem_range'_1.2 (by omega))
  by_cases h14 : i < 90
  · exact List.all_eq_true.1 c14 i (List.mem_range'_1.2 (by omega))
  by_cases h15 : i < 93
  · exact List.all_eq_true.1 c15 i (List.mem_range'_1.2 (by omega))
  by_cases h16 : i < 96
  · exact List.all_eq_true.1 c16 i (List.mem_range'_1.2 (by omega))
  by_cases h17 : i < 103
  · exact List.all_eq_true.1 c17 i (List.mem_range'_1.2 (by omega))
  by_cases h18 : i < 253
  · exact List.all_eq_true.1 c18 i (List.mem_range'_1.2 (by omega))
  exact List.all_eq_true.1 c19 i (List.mem_range'_1.2 (by omega))
theorem k0 : CutOk Tryz.prog root Tryz.f3 {} (ct 0) := by
  have := cuts_count (ct := ct) (n := 256) (fun F _ => Γn_ok F) rounds (cut_next (fun F _ => Γn_ok F) rl (fun _ e => by cases e)) 256 (Nat.le_refl _)
  exact this
theorem law1 : LawS Tryz.prog 3 sh0 := Law.toS _ fun ρ m w vs _ hvs hH hf =>
  law_by_cuts (Γ := Γn) (F := {}) (fun F _ => Γn_ok F) Tryz.func3 (by kernel_rfl) (of_decide_eq_true (by kernel_rfl)) r0 k0 (ρ := ρ) ⟨by simp, by simp, by simp, trivial⟩ hvs hH hf (fun id B h => by have := ofList_mem h; cases this)

/-- Where the texts of the two errors lie. -/
noncomputable def low : Nat := (World.holding Tryz.prog default ⟨#[], #[], []⟩).heap.size
noncomputable def laidWorld (os : Os) : World :=
  let w0 := World.holding Tryz.prog os ⟨#[.cells #[.string ⟨#[118, 97, 108, 117, 101, 32, 111, 117, 116, 32, 111, 102, 32, 114, 97, 110, 103, 101]⟩] 162, .cells #[.string ⟨#[105, 110, 118, 97, 108, 105, 100, 32, 115, 121, 110, 116, 97, 120]⟩] 162], #[], []⟩
  let w1 : World :=
    { w0 with heap := ([(1, Rows.laid_internal_strconv_uint64pow10), (6, Rows.laid_math_bits_deBruijn32tab), (7, Rows.laid_math_bits_deBruijn64tab), (3, Rows.laid_unicode_utf8_acceptRanges), (2, Rows.laid_unicode_utf8_first)] : List (Nat × DataW Unit)).foldl (fun h p => h.modify p.1 fun
        | .cells _ t fr => .cells (dataC 8 p.2).toArray t fr
        | o => o) w0.heap }
  { w1 with heap := ([(5, low), (4, low + 1)] : List (Nat × Nat)).foldl (fun h p => h.modify p.1 fun
      | .cells _ t fr => .cells #[.iface 160 (.pointer (some ⟨p.2, 0, none⟩))] t fr
      | o => o) w1.heap }
theorem laid_met (os : Os) (args : Array Value) : laidMet Tryz.prog Rows.asmNamesRow.laid ((laidWorld os).forCall (fun _ _ => 0) ⟨#[], args, []⟩).memory :=
  laidMet_of_run' 8 (by kernel_rfl) (by kernel_rfl)

theorem lifted (os : Os) (started : os.Started) (H : Type) (enc : TypeId × Value → H) :
    ReturnsInHanded {} Tryz.checked os 3 .any (fun w args => (Rows.asmNamesSpec.pre enc Tryz.prog Tryz.f3 [] false w args ∧ laidMet Tryz.prog Rows.asmNamesRow.laid w) ∧ sizedMet enc Tryz.prog Tryz.f3 (OpenSpec.ofChange Rows.asmNamesSpec) false w args)
      (Rows.asmNamesSpec.post enc Tryz.prog Tryz.f3 false true false false) :=
  lifted_laid (C := Tryz.checked) (s := Rows.asmNamesSpec) own laidOut started (by kernel_rfl) Tryz.func3
    (ChangeSpec.witness_at (enc := enc) (C := Tryz.checked) (os := os) (X := fun w _ => laidMet Tryz.prog Rows.asmNamesRow.laid w) false (laidWorld os) #[] 8 rfl (by kernel_rfl) (by kernel_rfl) (by kernel_rfl) (by kernel_rfl) (by kernel_rfl) (laid_met os _))
    (by kernel_rfl) rfl Tryz.underlying4 rfl (fun ds hl => by cases ds with | nil => rfl | cons a l => cases hl) (by kernel_rfl) (fun sh hsh => by
      change sh ∈ allSh Tryz.prog Tryz.f3.params.toList at hsh
      rw [shapes] at hsh
      obtain rfl := List.mem_singleton.1 hsh
      exact law1)

theorem row_holds : Rows.AsmNamesSaid :=
  OpenClaim.holds_of_wide 3 Tryz.f3 rfl rfl rfl rfl rfl rfl rfl ⟨rfl, rfl, rfl, rfl, rfl⟩ rfl rfl rfl rfl rfl (by kernel_rfl) Tryz.func3 (by kernel_rfl)
    (of_decide_eq_true (by kernel_rfl)) (by unfold Func.isWrapper; first | (rw [if_pos (by decide +kernel)]; kernel_rfl) | (rw [if_neg (by decide +kernel)]; exact ⟨rfl, rfl⟩))
    (fun os started H enc _ => lifted os started H enc)

theorem card_holds : Rows.AsmNamesCardSaid :=
  Claim7.holds_tied_plain_at .later [] [.data, .data, .data, .data, .sentinel, .sentinel, .pinned] true (true, "052c04642403489627ff1781e2277a4ed6048ddd250f18267c293558d2f9c6ab") true
    row_holds (fun _ h => by cases h) (by kernel_rfl) (fun _ h => by cases h) asmNames_row_tie rfl ⟨rfl, rfl⟩ (by kernel_rfl) rfl
    (fun f fn hf hfn => by
      obtain rfl : f = 3 := Option.some.inj ((show Tryz.prog.funcNamed Rows.asmNamesRow.func = some 3 by kernel_rfl).symm.trans hf) |>.symm
      obtain rfl : fn = Tryz.f3 := (Option.some.inj (Tryz.func3.symm.trans hfn)).symm
      exact ⟨by kernel_rfl, fun j t ht => by
        rw [show Tryz.f3.params = #[] by kernel_rfl] at ht
        simp at ht⟩)
    (by kernel_rfl)
#print axioms card_holds
end Go.Proofs.YtljdmppakiacdaaGreatDoor.AsmNamesDone
