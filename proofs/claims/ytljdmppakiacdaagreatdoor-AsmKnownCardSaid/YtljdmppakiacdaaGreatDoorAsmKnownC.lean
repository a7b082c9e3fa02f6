/- The law AsmKnown: it takes nothing, and returns true. Of the listed package-level variables the card speaks as its words say. No condition. -/
import Derived.Test.YtljdmppakiacdaaGreatDoorAsmKnownRunC
import Derived.Test.YtljdmppakiacdaaGreatDoorRows
import Derived.Test.YtljdmppakiacdaaGreatDoorCards
import Derived.Test.YtljdmppakiacdaaGreatDoorTie
namespace Go.Proofs.YtljdmppakiacdaaGreatDoor.AsmKnownDone
open Go.Eng Go.RowKit Go.ChangeShapes Go.WideShapes Go.ChangeAt
set_option maxRecDepth 100000

def sh0 : Sh := []
theorem own : ownKnob Tryz.prog.godebug = none := by kernel_rfl
theorem laidOut : laidOutB Tryz.prog = true := by kernel_rfl
theorem shapes : allSh Tryz.prog Tryz.f4.params.toList = [sh0] := by kernel_rfl
theorem hG : ((glOf Tryz.prog Rows.asmKnownRow.laid).filter fun p => [1, 4, 5, 6, 7].contains p.1) = G := by kernel_rfl
theorem law1 : LawG Tryz.prog G 4 sh0 := lawG_run (fun F _ => Γn_ok F) Tryz.func4 (by kernel_rfl) run

/-- Where the texts of the two errors lie. -/
noncomputable def low : Nat := (World.holding Tryz.prog default ⟨#[], #[], []⟩).heap.size
noncomputable def laidWorld (os : Os) : World :=
  let w0 := World.holding Tryz.prog os ⟨#[.cells #[.string ⟨#[118, 97, 108, 117, 101, 32, 111, 117, 116, 32, 111, 102, 32, 114, 97, 110, 103, 101]⟩] 162, .cells #[.string ⟨#[105, 110, 118, 97, 108, 105, 100, 32, 115, 121, 110, 116, 97, 120]⟩] 162], #[], []⟩
  let w1 : World :=
    { w0 with heap := ([(1, Rows.laid_internal_strconv_uint64pow10), (6, Rows.laid_math_bits_deBruijn32tab), (7, Rows.laid_math_bits_deBruijn64tab), (3, Rows.laid_unicode_utf8_acceptRanges), (2, Rows.laid_unicode_utf8_first)] : List (Nat × DataW Unit)).foldl (fun h p => h.modify p.1 fun
        | .cells _ t fr => .cells (dataC 8 p.2).toArray t fr
        | o => o) w0.heap }
  { w1 with heap := ([(5, low), (4, low + 1)] : List (Nat × Nat)).foldl (fun h p => h.modify p.1 fun
      | .cells _ t fr => .cells #[.iface 160 (.pointer (some ⟨p.2, 0, none⟩))] t fr
      | o => o) w1.heap }
theorem laid_met (os : Os) (args : Array Value) : laidMet Tryz.prog Rows.asmKnownRow.laid ((laidWorld os).forCall (fun _ _ => 0) ⟨#[], args, []⟩).memory :=
  laidMet_of_run' 8 (by kernel_rfl) (by kernel_rfl)

theorem lifted (os : Os) (started : os.Started) (H : Type) (enc : TypeId × Value → H) :
    ReturnsInHanded {} Tryz.checked os 4 .any (fun w args => (Rows.asmKnownSpec.pre enc Tryz.prog Tryz.f4 [] false w args ∧ laidMet Tryz.prog Rows.asmKnownRow.laid w) ∧ sizedMet enc Tryz.prog Tryz.f4 (OpenSpec.ofChange Rows.asmKnownSpec) false w args)
      (Rows.asmKnownSpec.post enc Tryz.prog Tryz.f4 false true false false) :=
  lifted_laidG (C := Tryz.checked) (s := Rows.asmKnownSpec) own laidOut started (ks := [1, 4, 5, 6, 7]) hG (by decide) (by kernel_rfl) Tryz.func4
    (ChangeSpec.witness_at (enc := enc) (C := Tryz.checked) (os := os) (X := fun w _ => laidMet Tryz.prog Rows.asmKnownRow.laid w) false (laidWorld os) #[] 8 rfl (by kernel_rfl) (by kernel_rfl) (by kernel_rfl) (by kernel_rfl) (by kernel_rfl) (laid_met os _))
    (by kernel_rfl) rfl Tryz.underlying4 rfl (fun ds hl => by cases ds with | nil => rfl | cons a l => cases hl) (by kernel_rfl) (fun sh hsh => by
      change sh ∈ allSh Tryz.prog Tryz.f4.params.toList at hsh
      rw [shapes] at hsh
      obtain rfl := List.mem_singleton.1 hsh
      exact law1)

theorem row_holds : Rows.AsmKnownSaid :=
  OpenClaim.holds_of_wide 4 Tryz.f4 rfl rfl rfl rfl rfl rfl rfl ⟨rfl, rfl, rfl, rfl, rfl⟩ rfl rfl rfl rfl rfl (by kernel_rfl) Tryz.func4 (by kernel_rfl)
    (of_decide_eq_true (by kernel_rfl)) (by unfold Func.isWrapper; first | (rw [if_pos (by decide +kernel)]; kernel_rfl) | (rw [if_neg (by decide +kernel)]; exact ⟨rfl, rfl⟩))
    (fun os started H enc _ => lifted os started H enc)

theorem card_holds : Rows.AsmKnownCardSaid :=
  Claim7.holds_tied_plain_at .later [] [.data, .data, .data, .data, .sentinel, .sentinel, .pinned] true (true, "052c04642403489627ff1781e2277a4ed6048ddd250f18267c293558d2f9c6ab") true
    row_holds (fun _ h => by cases h) (by kernel_rfl) (fun _ h => by cases h) asmKnown_row_tie rfl ⟨rfl, rfl⟩ (by kernel_rfl) rfl
    (fun f fn hf hfn => by
      obtain rfl : f = 4 := Option.some.inj ((show Tryz.prog.funcNamed Rows.asmKnownRow.func = some 4 by kernel_rfl).symm.trans hf) |>.symm
      obtain rfl : fn = Tryz.f4 := (Option.some.inj (Tryz.func4.symm.trans hfn)).symm
      exact ⟨by kernel_rfl, fun j t ht => by
        rw [show Tryz.f4.params = #[] by kernel_rfl] at ht
        simp at ht⟩)
    (by kernel_rfl)
#print axioms card_holds
end Go.Proofs.YtljdmppakiacdaaGreatDoor.AsmKnownDone
