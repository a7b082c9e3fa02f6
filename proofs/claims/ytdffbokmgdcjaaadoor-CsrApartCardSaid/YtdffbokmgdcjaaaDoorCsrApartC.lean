/- The law CsrApart: of any state, any register, mode and number, and any other register, it returns true. Of the listed package-level variables the card speaks as its words say; the law reads none of them. No condition. -/
import Derived.Test.YtdffbokmgdcjaaaDoorCsrApartRaC
import Derived.Test.YtdffbokmgdcjaaaDoorCsrApartRbC
import Derived.Test.YtdffbokmgdcjaaaDoorCsrApartRcC
import Derived.Test.YtdffbokmgdcjaaaDoorCsrApartRdC
import Derived.Test.YtdffbokmgdcjaaaDoorCsrApartReC
import Derived.Test.YtdffbokmgdcjaaaDoorCsrApartRfC
import Derived.Test.YtdffbokmgdcjaaaDoorRows
import Derived.Test.YtdffbokmgdcjaaaDoorCards
import Derived.Test.YtdffbokmgdcjaaaDoorTie
namespace Go.Proofs.YtdffbokmgdcjaaaDoor.CsrApartDone
open Go.Eng Go.RowKit Go.ChangeShapes Go.WideShapes Go.ChangeAt
set_option maxRecDepth 100000

theorem own : ownKnob Tryd.prog.godebug = none := by kernel_rfl
theorem laidOut : laidOutB Tryd.prog = true := by kernel_rfl
theorem shapes : allSh Tryd.prog Tryd.f4.params.toList = [sh0] := by kernel_rfl
theorem okArgs : DV.okSubL 31 args0 = true := by kernel_rfl
def Bnd (ρ : Env) : Prop := ∀ p ∈ shB Tryd.prog sh0 0, p.2.1 ≤ (p.1.ev ρ).int ∧ (p.1.ev ρ).int ≤ p.2.2
/-- A run of the law where the register is told. -/
def At (args : List DV) (F : Facts) (pl : PL) : Prop := runs args F pl = true → F.sem = (fun _ => True) → ∀ (ρ : Env), F.ok ρ → pl.Fit oblT (fun _ _ => False) ρ → ∀ (m : Emb) (w : World) (vs : Array Value), DV.RL m ρ args vs.toList →
  HeapR m ρ (T.ofList (shH Tryd.prog sh0 0 0)) w → (∀ id, shN sh0 ≤ id → m.ι id = none) → Calls Tryd.prog 4 vs w fun e w' => e = .returned (.bool true) ∧ Below w.heap.size w w'
theorem at_ (args : List DV) (F : Facts) (pl : PL) (hl : args.length ≤ Tryd.f4.ntmps) : At args F pl := fun hr hS ρ hF hfit m w vs hvs hH hf =>
  law_by_points (P := Tryd.prog) (Γ := Γa) (S := fun _ => True) (loops := 6005000) (depth := 50) (root := root) (fun F _ => Γa_ok F) Tryd.func4 (by kernel_rfl) hl (pts := []) (fun p hp => by cases hp) (fun p hp => by cases hp) hS hr
    (fun _ _ => False) (fun _ _ => 0) (fun j p ρ hp _ => by cases hp) hF hfit hvs hH hf (fun id B h => shH_ro _ (ofList_mem h))
theorem F0_ok {ρ : Env} (h : Bnd ρ) : F0.ok ρ := ⟨by simp [F0], h, by simp [F0], trivial⟩
theorem FN_ok {ρ : Env} (h : Bnd ρ) (hk : ∀ k ∈ keys, (ρ.v 31).int ≠ k) : FN.ok ρ := by
  refine ⟨fun p hp => ?_, h, by simp [FN], trivial⟩
  simp only [FN, List.mem_flatMap] at hp
  obtain ⟨k, hkm, hp⟩ := hp
  have := hk k hkm
  rcases List.mem_cons.1 hp with rfl | hp
  · simp only [ev_eqif, ev_vr, ev_li]; exact this
  · obtain rfl := List.mem_singleton.1 hp
    simp only [ev_eqif, ev_vr, ev_li]; exact fun e => this e.symm
theorem law1 : LawS Tryd.prog 4 sh0 := by
  refine ⟨fun _ => True, fun _ => ⟨fun _ => .I 0, trivial⟩, fun ρ m w vs _ hb hvs hH hf => ?_⟩
  by_cases h256 : (ρ.v 31).int = 256
  · exact at_ (argsAt 31 256 args0) F0 pl256 (of_decide_eq_true (by kernel_rfl)) r256 rfl ρ (F0_ok hb) (plain_fit (by kernel_rfl)) m w vs (argsAt_R h256 okArgs hvs) hH hf
  by_cases h260 : (ρ.v 31).int = 260
  · exact at_ (argsAt 31 260 args0) F0 pl260 (of_decide_eq_true (by kernel_rfl)) r260 rfl ρ (F0_ok hb) (plain_fit (by kernel_rfl)) m w vs (argsAt_R h260 okArgs hvs) hH hf
  by_cases h261 : (ρ.v 31).int = 261
  · exact at_ (argsAt 31 261 args0) F0 pl261 (of_decide_eq_true (by kernel_rfl)) r261 rfl ρ (F0_ok hb) (plain_fit (by kernel_rfl)) m w vs (argsAt_R h261 okArgs hvs) hH hf
  by_cases h262 : (ρ.v 31).int = 262
  · exact at_ (argsAt 31 262 args0) F0 pl262 (of_decide_eq_true (by kernel_rfl)) r262 rfl ρ (F0_ok hb) (plain_fit (by kernel_rfl)) m w vs (argsAt_R h262 okArgs hvs) hH hf
  by_cases h320 : (ρ.v 31).int = 320
  · exact at_ (argsAt 31 320 args0) F0 pl320 (of_decide_eq_true (by kernel_rfl)) r320 rfl ρ (F0_ok hb) (plain_fit (by kernel_rfl)) m w vs (argsAt_R h320 okArgs hvs) hH hf
  by_cases h321 : (ρ.v 31).int = 321
  · exact at_ (argsAt 31 321 args0) F0 pl321 (of_decide_eq_true (by kernel_rfl)) r321 rfl ρ (F0_ok hb) (plain_fit (by kernel_rfl)) m w vs (argsAt_R h321 okArgs hvs) hH hf
  by_cases h322 : (ρ.v 31).int = 322
  · exact at_ (argsAt 31 322 args0) F0 pl322 (of_decide_eq_true (by kernel_rfl)) r322 rfl ρ (F0_ok hb) (plain_fit (by kernel_rfl)) m w vs (argsAt_R h322 okArgs hvs) hH hf
  by_cases h323 : (ρ.v 31).int = 323
  · exact at_ (argsAt 31 323 args0) F0 pl323 (of_decide_eq_true (by kernel_rfl)) r323 rfl ρ (F0_ok hb) (plain_fit (by kernel_rfl)) m w vs (argsAt_R h323 okArgs hvs) hH hf
  by_cases h324 : (ρ.v 31).int = 324
  · exact at_ (argsAt 31 324 args0) F0 pl324 (of_decide_eq_true (by kernel_rfl)) r324 rfl ρ (F0_ok hb) (plain_fit (by kernel_rfl)) m w vs (argsAt_R h324 okArgs hvs) hH hf
  by_cases h384 : (ρ.v 31).int = 384
  · exact at_ (argsAt 31 384 args0) F0 pl384 (of_decide_eq_true (by kernel_rfl)) r384 rfl ρ (F0_ok hb) (plain_fit (by kernel_rfl)) m w vs (argsAt_R h384 okArgs hvs) hH hf
  by_cases h3072 : (ρ.v 31).int = 3072
  · exact at_ (argsAt 31 3072 args0) F0 pl3072 (of_decide_eq_true (by kernel_rfl)) r3072 rfl ρ (F0_ok hb) (plain_fit (by kernel_rfl)) m w vs (argsAt_R h3072 okArgs hvs) hH hf
  by_cases h3073 : (ρ.v 31).int = 3073
  · exact at_ (argsAt 31 3073 args0) F0 pl3073 (of_decide_eq_true (by kernel_rfl)) r3073 rfl ρ (F0_ok hb) (plain_fit (by kernel_rfl)) m w vs (argsAt_R h3073 okArgs hvs) hH hf
  by_cases h3074 : (ρ.v 31).int = 3074
  · exact at_ (argsAt 31 3074 args0) F0 pl3074 (of_decide_eq_true (by kernel_rfl)) r3074 rfl ρ (F0_ok hb) (plain_fit (by kernel_rfl)) m w vs (argsAt_R h3074 okArgs hvs) hH hf
  by_cases h768 : (ρ.v 31).int = 768
  · exact at_ (argsAt 31 768 args0) F0 pl768 (of_decide_eq_true (by kernel_rfl)) r768 rfl ρ (F0_ok hb) (plain_fit (by kernel_rfl)) m w vs (argsAt_R h768 okArgs hvs) hH hf
  by_cases h769 : (ρ.v 31).int = 769
  · exact at_ (argsAt 31 769 args0) F0 pl769 (of_decide_eq_true (by kernel_rfl)) r769 rfl ρ (F0_ok hb) (plain_fit (by kernel_rfl)) m w vs (argsAt_R h769 okArgs hvs) hH hf
  by_cases h770 : (ρ.v 31).int = 770
  · exact at_ (argsAt 31 770 args0) F0 pl770 (of_decide_eq_true (by kernel_rfl)) r770 rfl ρ (F0_ok hb) (plain_fit (by kernel_rfl)) m w vs (argsAt_R h770 okArgs hvs) hH hf
  by_cases h771 : (ρ.v 31).int = 771
  · exact at_ (argsAt 31 771 args0) F0 pl771 (of_decide_eq_true (by kernel_rfl)) r771 rfl ρ (F0_ok hb) (plain_fit (by kernel_rfl)) m w vs (argsAt_R h771 okArgs hvs) hH hf
  by_cases h772 : (ρ.v 31).int = 772
  · exact at_ (argsAt 31 772 args0) F0 pl772 (of_decide_eq_true (by kernel_rfl)) r772 rfl ρ (F0_ok hb) (plain_fit (by kernel_rfl)) m w vs (argsAt_R h772 okArgs hvs) hH hf
  by_cases h773 : (ρ.v 31).int = 773
  · exact at_ (argsAt 31 773 args0) F0 pl773 (of_decide_eq_true (by kernel_rfl)) r773 rfl ρ (F0_ok hb) (plain_fit (by kernel_rfl)) m w vs (argsAt_R h773 okArgs hvs) hH hf
  by_cases h774 : (ρ.v 31).int = 774
  · exact at_ (argsAt 31 774 args0) F0 pl774 (of_decide_eq_true (by kernel_rfl)) r774 rfl ρ (F0_ok hb) (plain_fit (by kernel_rfl)) m w vs (argsAt_R h774 okArgs hvs) hH hf
  by_cases h832 : (ρ.v 31).int = 832
  · exact at_ (argsAt 31 832 args0) F0 pl832 (of_decide_eq_true (by kernel_rfl)) r832 rfl ρ (F0_ok hb) (plain_fit (by kernel_rfl)) m w vs (argsAt_R h832 okArgs hvs) hH hf
  by_cases h833 : (ρ.v 31).int = 833
  · exact at_ (argsAt 31 833 args0) F0 pl833 (of_decide_eq_true (by kernel_rfl)) r833 rfl ρ (F0_ok hb) (plain_fit (by kernel_rfl)) m w vs (argsAt_R h833 okArgs hvs) hH hf
  by_cases h834 : (ρ.v 31).int = 834
  · exact at_ (argsAt 31 834 args0) F0 pl834 (of_decide_eq_true (by kernel_rfl)) r834 rfl ρ (F0_ok hb) (plain_fit (by kernel_rfl)) m w vs (argsAt_R h834 okArgs hvs) hH hf
  by_cases h835 : (ρ.v 31).int = 835
  · exact at_ (argsAt 31 835 args0) F0 pl835 (of_decide_eq_true (by kernel_rfl)) r835 rfl ρ (F0_ok hb) (plain_fit (by kernel_rfl)) m w vs (argsAt_R h835 okArgs hvs) hH hf
  by_cases h836 : (ρ.v 31).int = 836
  · exact at_ (argsAt 31 836 args0) F0 pl836 (of_decide_eq_true (by kernel_rfl)) r836 rfl ρ (F0_ok hb) (plain_fit (by kernel_rfl)) m w vs (argsAt_R h836 okArgs hvs) hH hf
  by_cases h928 : (ρ.v 31).int = 928
  · exact at_ (argsAt 31 928 args0) F0 pl928 (of_decide_eq_true (by kernel_rfl)) r928 rfl ρ (F0_ok hb) (plain_fit (by kernel_rfl)) m w vs (argsAt_R h928 okArgs hvs) hH hf
  by_cases h2816 : (ρ.v 31).int = 2816
  · exact at_ (argsAt 31 2816 args0) F0 pl2816 (of_decide_eq_true (by kernel_rfl)) r2816 rfl ρ (F0_ok hb) (plain_fit (by kernel_rfl)) m w vs (argsAt_R h2816 okArgs hvs) hH hf
  by_cases h2818 : (ρ.v 31).int = 2818
  · exact at_ (argsAt 31 2818 args0) F0 pl2818 (of_decide_eq_true (by kernel_rfl)) r2818 rfl ρ (F0_ok hb) (plain_fit (by kernel_rfl)) m w vs (argsAt_R h2818 okArgs hvs) hH hf
  by_cases h3857 : (ρ.v 31).int = 3857
  · exact at_ (argsAt 31 3857 args0) F0 pl3857 (of_decide_eq_true (by kernel_rfl)) r3857 rfl ρ (F0_ok hb) (plain_fit (by kernel_rfl)) m w vs (argsAt_R h3857 okArgs hvs) hH hf
  by_cases h3858 : (ρ.v 31).int = 3858
  · exact at_ (argsAt 31 3858 args0) F0 pl3858 (of_decide_eq_true (by kernel_rfl)) r3858 rfl ρ (F0_ok hb) (plain_fit (by kernel_rfl)) m w vs (argsAt_R h3858 okArgs hvs) hH hf
  by_cases h3859 : (ρ.v 31).int = 3859
  · exact at_ (argsAt 31 3859 args0) F0 pl3859 (of_decide_eq_true (by kernel_rfl)) r3859 rfl ρ (F0_ok hb) (plain_fit (by kernel_rfl)) m w vs (argsAt_R h3859 okArgs hvs) hH hf
  by_cases h3860 : (ρ.v 31).int = 3860
  · exact at_ (argsAt 31 3860 args0) F0 pl3860 (of_decide_eq_true (by kernel_rfl)) r3860 rfl ρ (F0_ok hb) (plain_fit (by kernel_rfl)) m w vs (argsAt_R h3860 okArgs hvs) hH hf
  by_cases h944 : (ρ.v 31).int = 944
  · exact at_ (argsAt 31 944 args0) F0 pl944 (of_decide_eq_true (by kernel_rfl)) r944 rfl ρ (F0_ok hb) (plain_fit (by kernel_rfl)) m w vs (argsAt_R h944 okArgs hvs) hH hf
  by_cases h945 : (ρ.v 31).int = 945
  · exact at_ (argsAt 31 945 args0) F0 pl945 (of_decide_eq_true (by kernel_rfl)) r945 rfl ρ (F0_ok hb) (plain_fit (by kernel_rfl)) m w vs (argsAt_R h945 okArgs hvs) hH hf
  by_cases h946 : (ρ.v 31).int = 946
  · exact at_ (argsAt 31 946 args0) F0 pl946 (of_decide_eq_true (by kernel_rfl)) r946 rfl ρ (F0_ok hb) (plain_fit (by kernel_rfl)) m w vs (argsAt_R h946 okArgs hvs) hH hf
  by_cases h947 : (ρ.v 31).int = 947
  · exact at_ (argsAt 31 947 args0) F0 pl947 (of_decide_eq_true (by kernel_rfl)) r947 rfl ρ (F0_ok hb) (plain_fit (by kernel_rfl)) m w vs (argsAt_R h947 okArgs hvs) hH hf
  by_cases h948 : (ρ.v 31).int = 948
  · exact at_ (argsAt 31 948 args0) F0 pl948 (of_decide_eq_true (by kernel_rfl)) r948 rfl ρ (F0_ok hb) (plain_fit (by kernel_rfl)) m w vs (argsAt_R h948 okArgs hvs) hH hf
  by_cases h949 : (ρ.v 31).int = 949
  · exact at_ (argsAt 31 949 args0) F0 pl949 (of_decide_eq_true (by kernel_rfl)) r949 rfl ρ (F0_ok hb) (plain_fit (by kernel_rfl)) m w vs (argsAt_R h949 okArgs hvs) hH hf
  by_cases h950 : (ρ.v 31).int = 950
  · exact at_ (argsAt 31 950 args0) F0 pl950 (of_decide_eq_true (by kernel_rfl)) r950 rfl ρ (F0_ok hb) (plain_fit (by kernel_rfl)) m w vs (argsAt_R h950 okArgs hvs) hH hf
  by_cases h951 : (ρ.v 31).int = 951
  · exact at_ (argsAt 31 951 args0) F0 pl951 (of_decide_eq_true (by kernel_rfl)) r951 rfl ρ (F0_ok hb) (plain_fit (by kernel_rfl)) m w vs (argsAt_R h951 okArgs hvs) hH hf
  have hk : ∀ k ∈ keys, (ρ.v 31).int ≠ k := by
    simp only [keys, List.forall_mem_cons, List.not_mem_nil, false_implies, implies_true, and_true]
    exact ⟨h256, h260, h261, h262, h320, h321, h322, h323, h324, h384, h3072, h3073, h3074, h768, h769, h770, h771, h772, h773, h774, h832, h833, h834, h835, h836, h928, h2816, h2818, h3857, h3858, h3859, h3860, h944, h945, h946, h947, h948, h949, h950, h951⟩
  exact at_ args0 FN plN (of_decide_eq_true (by kernel_rfl)) rN rfl ρ (FN_ok hb hk) (plain_fit (by kernel_rfl)) m w vs hvs hH hf

noncomputable def laidWorld (os : Os) : World := laidW Tryd.prog os [(0, Rows.laid_internal_strconv_uint64pow10), (1, Rows.laid_math_bits_deBruijn32tab), (2, Rows.laid_math_bits_deBruijn64tab)]
theorem laid_met (os : Os) (args : Array Value) : laidMet Tryd.prog Rows.csrApartRow.laid ((laidWorld os).forCall (fun _ _ => 0) ⟨#[], args, []⟩).memory :=
  laidMet_of_run' 8 (by kernel_rfl) (by kernel_rfl)

theorem lifted (os : Os) (started : os.Started) (H : Type) (enc : TypeId × Value → H) :
    ReturnsInHanded {} Tryd.checked os 4 .any (fun w args => (Rows.csrApartSpec.pre enc Tryd.prog Tryd.f4 [] false w args ∧ laidMet Tryd.prog Rows.csrApartRow.laid w) ∧ sizedMet enc Tryd.prog Tryd.f4 (OpenSpec.ofChange Rows.csrApartSpec) false w args)
      (Rows.csrApartSpec.post enc Tryd.prog Tryd.f4 false true false false) :=
  lifted_laid (C := Tryd.checked) (s := Rows.csrApartSpec) own laidOut started (by kernel_rfl) Tryd.func4
    (ChangeSpec.witness_at (enc := enc) (C := Tryd.checked) (os := os) (X := fun w _ => laidMet Tryd.prog Rows.csrApartRow.laid w) false (laidWorld os) #[.agg (Array.replicate 31 (.int .u64 0)), .agg #[.int .u16 0, .int .u8 0, .int .u64 0, .int .u64 0], .int .u16 0] 8 rfl (by kernel_rfl) (by kernel_rfl) (by kernel_rfl) (by kernel_rfl) (by kernel_rfl) (laid_met os _))
    (by kernel_rfl) rfl Tryd.underlying4 rfl (fun ds hl => by rcases ds with _ | ⟨a, _ | ⟨b, _ | ⟨c, _ | ⟨d, ds⟩⟩⟩⟩ <;> first | rfl | cases hl) (by kernel_rfl) (fun sh hsh => by
      change sh ∈ allSh Tryd.prog Tryd.f4.params.toList at hsh
      rw [shapes] at hsh
      obtain rfl := List.mem_singleton.1 hsh
      exact law1)

theorem row_holds : Rows.CsrApartSaid :=
  OpenClaim.holds_of_wide 4 Tryd.f4 rfl rfl rfl rfl rfl rfl rfl ⟨rfl, rfl, rfl, rfl, rfl⟩ rfl rfl rfl rfl rfl (by kernel_rfl) Tryd.func4 (by kernel_rfl)
    (of_decide_eq_true (by kernel_rfl)) (by unfold Func.isWrapper; first | (rw [if_pos (by decide +kernel)]; kernel_rfl) | (rw [if_neg (by decide +kernel)]; exact ⟨rfl, rfl⟩))
    (fun os started H enc _ => lifted os started H enc)

theorem card_holds : Rows.CsrApartCardSaid :=
  Claim7.holds_tied_plain_at .later [] [.data, .data, .data] true (true, "6f6159bc4e4295399c46c7e777cd8a3a1ca9935b0d08bb4fdf293bdaa6a63570") false
    row_holds (fun _ h => by cases h) (by kernel_rfl) (fun _ h => by cases h) csrApart_row_tie rfl ⟨rfl, rfl⟩ (by kernel_rfl) rfl
    (fun f fn hf hfn => by
      obtain rfl : f = 4 := Option.some.inj ((show Tryd.prog.funcNamed Rows.csrApartRow.func = some 4 by kernel_rfl).symm.trans hf) |>.symm
      obtain rfl : fn = Tryd.f4 := (Option.some.inj (Tryd.func4.symm.trans hfn)).symm
      refine ⟨by kernel_rfl, fun j t ht => ?_⟩
      rw [show Tryd.f4.params = #[25, 28, 26] by kernel_rfl] at ht
      have h25 : Tryd.prog.wantsStandIn 25 = false := by kernel_rfl
      have h26 : Tryd.prog.wantsStandIn 26 = false := by kernel_rfl
      have h28 : Tryd.prog.wantsStandIn 28 = false := by kernel_rfl
      rcases j with _ | _ | _ | j
      · obtain rfl : 25 = t := by simpa using ht
        exact h25
      · obtain rfl : 28 = t := by simpa using ht
        exact h28
      · obtain rfl : 26 = t := by simpa using ht
        exact h26
      · simp at ht)
    (by kernel_rfl)
#print axioms card_holds
end Go.Proofs.YtdffbokmgdcjaaaDoor.CsrApartDone
