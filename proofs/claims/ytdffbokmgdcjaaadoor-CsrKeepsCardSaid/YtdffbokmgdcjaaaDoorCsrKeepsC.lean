/- The law CsrKeeps: of any state, any register, mode and number it returns true. Of the listed package-level variables the card speaks as its words say; the law reads none of them. No condition. -/
import Derived.Test.YtdffbokmgdcjaaaDoorCsrKeepsRaC
import Derived.Test.YtdffbokmgdcjaaaDoorCsrKeepsRbC
import Derived.Test.YtdffbokmgdcjaaaDoorCsrKeepsRcC
import Derived.Test.YtdffbokmgdcjaaaDoorCsrKeepsRdC
import Derived.Test.YtdffbokmgdcjaaaDoorCsrKeepsReC
import Derived.Test.YtdffbokmgdcjaaaDoorCsrKeepsRfC
import Derived.Test.YtdffbokmgdcjaaaDoorCsrKeepsRgC
import Derived.Test.YtdffbokmgdcjaaaDoorRows
import Derived.Test.YtdffbokmgdcjaaaDoorCards
import Derived.Test.YtdffbokmgdcjaaaDoorTie
namespace Go.Proofs.YtdffbokmgdcjaaaDoor.CsrKeepsDone
open Go.Eng Go.RowKit Go.ChangeShapes Go.WideShapes Go.ChangeAt
set_option maxRecDepth 100000

theorem own : ownKnob Tryd.prog.godebug = none := by kernel_rfl
theorem laidOut : laidOutB Tryd.prog = true := by kernel_rfl
theorem shapes : allSh Tryd.prog Tryd.f6.params.toList = [sh0] := by kernel_rfl
theorem bnds0 : shB Tryd.prog sh0 0 = [(.vr 0, 0, 18446744073709551615), (.vr 1, 0, 18446744073709551615), (.vr 2, 0, 18446744073709551615), (.vr 3, 0, 18446744073709551615), (.vr 4, 0, 18446744073709551615), (.vr 5, 0, 18446744073709551615), (.vr 6, 0, 18446744073709551615), (.vr 7, 0, 18446744073709551615), (.vr 8, 0, 18446744073709551615), (.vr 9, 0, 18446744073709551615), (.vr 10, 0, 18446744073709551615), (.vr 11, 0, 18446744073709551615), (.vr 12, 0, 18446744073709551615), (.vr 13, 0, 18446744073709551615), (.vr 14, 0, 18446744073709551615), (.vr 15, 0, 18446744073709551615), (.vr 16, 0, 18446744073709551615), (.vr 17, 0, 18446744073709551615), (.vr 18, 0, 18446744073709551615), (.vr 19, 0, 18446744073709551615), (.vr 20, 0, 18446744073709551615), (.vr 21, 0, 18446744073709551615), (.vr 22, 0, 18446744073709551615), (.vr 23, 0, 18446744073709551615), (.vr 24, 0, 18446744073709551615), (.vr 25, 0, 18446744073709551615), (.vr 26, 0, 18446744073709551615), (.vr 27, 0, 18446744073709551615), (.vr 28, 0, 18446744073709551615), (.vr 29, 0, 18446744073709551615), (.vr 30, 0, 18446744073709551615), (.vr 31, 0, 65535), (.vr 32, 0, 255), (.vr 33, 0, 18446744073709551615), (.vr 34, 0, 18446744073709551615)] := by kernel_rfl
theorem okArgs : DV.okSubL 31 args0 = true := by kernel_rfl
def Bnd (ρ : Env) : Prop := ∀ p ∈ shB Tryd.prog sh0 0, p.2.1 ≤ (p.1.ev ρ).int ∧ (p.1.ev ρ).int ≤ p.2.2
theorem bnd1 {ρ : Env} (h : Bnd ρ) : 0 ≤ (ρ.v 1).int ∧ (ρ.v 1).int ≤ 18446744073709551615 := h (.vr 1, 0, 18446744073709551615) (List.mem_of_getElem? (i := 1) (by rw [bnds0]; rfl))
theorem bnd2 {ρ : Env} (h : Bnd ρ) : 0 ≤ (ρ.v 2).int ∧ (ρ.v 2).int ≤ 18446744073709551615 := h (.vr 2, 0, 18446744073709551615) (List.mem_of_getElem? (i := 2) (by rw [bnds0]; rfl))
theorem bnd3 {ρ : Env} (h : Bnd ρ) : 0 ≤ (ρ.v 3).int ∧ (ρ.v 3).int ≤ 18446744073709551615 := h (.vr 3, 0, 18446744073709551615) (List.mem_of_getElem? (i := 3) (by rw [bnds0]; rfl))
theorem bnd4 {ρ : Env} (h : Bnd ρ) : 0 ≤ (ρ.v 4).int ∧ (ρ.v 4).int ≤ 18446744073709551615 := h (.vr 4, 0, 18446744073709551615) (List.mem_of_getElem? (i := 4) (by rw [bnds0]; rfl))
theorem bnd5 {ρ : Env} (h : Bnd ρ) : 0 ≤ (ρ.v 5).int ∧ (ρ.v 5).int ≤ 18446744073709551615 := h (.vr 5, 0, 18446744073709551615) (List.mem_of_getElem? (i := 5) (by rw [bnds0]; rfl))
theorem bnd6 {ρ : Env} (h : Bnd ρ) : 0 ≤ (ρ.v 6).int ∧ (ρ.v 6).int ≤ 18446744073709551615 := h (.vr 6, 0, 18446744073709551615) (List.mem_of_getElem? (i := 6) (by rw [bnds0]; rfl))
theorem bnd7 {ρ : Env} (h : Bnd ρ) : 0 ≤ (ρ.v 7).int ∧ (ρ.v 7).int ≤ 18446744073709551615 := h (.vr 7, 0, 18446744073709551615) (List.mem_of_getElem? (i := 7) (by rw [bnds0]; rfl))
theorem bnd8 {ρ : Env} (h : Bnd ρ) : 0 ≤ (ρ.v 8).int ∧ (ρ.v 8).int ≤ 18446744073709551615 := h (.vr 8, 0, 18446744073709551615) (List.mem_of_getElem? (i := 8) (by rw [bnds0]; rfl))
theorem bnd9 {ρ : Env} (h : Bnd ρ) : 0 ≤ (ρ.v 9).int ∧ (ρ.v 9).int ≤ 18446744073709551615 := h (.vr 9, 0, 18446744073709551615) (List.mem_of_getElem? (i := 9) (by rw [bnds0]; rfl))
theorem bnd10 {ρ : Env} (h : Bnd ρ) : 0 ≤ (ρ.v 10).int ∧ (ρ.v 10).int ≤ 18446744073709551615 := h (.vr 10, 0, 18446744073709551615) (List.mem_of_getElem? (i := 10) (by rw [bnds0]; rfl))
theorem bnd11 {ρ : Env} (h : Bnd ρ) : 0 ≤ (ρ.v 11).int ∧ (ρ.v 11).int ≤ 18446744073709551615 := h (.vr 11, 0, 18446744073709551615) (List.mem_of_getElem? (i := 11) (by rw [bnds0]; rfl))
theorem bnd12 {ρ : Env} (h : Bnd ρ) : 0 ≤ (ρ.v 12).int ∧ (ρ.v 12).int ≤ 18446744073709551615 := h (.vr 12, 0, 18446744073709551615) (List.mem_of_getElem? (i := 12) (by rw [bnds0]; rfl))
theorem bnd13 {ρ : Env} (h : Bnd ρ) : 0 ≤ (ρ.v 13).int ∧ (ρ.v 13).int ≤ 18446744073709551615 := h (.vr 13, 0, 18446744073709551615) (List.mem_of_getElem? (i := 13) (by rw [bnds0]; rfl))
theorem bnd14 {ρ : Env} (h : Bnd ρ) : 0 ≤ (ρ.v 14).int ∧ (ρ.v 14).int ≤ 18446744073709551615 := h (.vr 14, 0, 18446744073709551615) (List.mem_of_getElem? (i := 14) (by rw [bnds0]; rfl))
theorem bnd15 {ρ : Env} (h : Bnd ρ) : 0 ≤ (ρ.v 15).int ∧ (ρ.v 15).int ≤ 18446744073709551615 := h (.vr 15, 0, 18446744073709551615) (List.mem_of_getElem? (i := 15) (by rw [bnds0]; rfl))
theorem bnd16 {ρ : Env} (h : Bnd ρ) : 0 ≤ (ρ.v 16).int ∧ (ρ.v 16).int ≤ 18446744073709551615 := h (.vr 16, 0, 18446744073709551615) (List.mem_of_getElem? (i := 16) (by rw [bnds0]; rfl))
theorem bnd17 {ρ : Env} (h : Bnd ρ) : 0 ≤ (ρ.v 17).int ∧ (ρ.v 17).int ≤ 18446744073709551615 := h (.vr 17, 0, 18446744073709551615) (List.mem_of_getElem? (i := 17) (by rw [bnds0]; rfl))
theorem bnd18 {ρ : Env} (h : Bnd ρ) : 0 ≤ (ρ.v 18).int ∧ (ρ.v 18).int ≤ 18446744073709551615 := h (.vr 18, 0, 18446744073709551615) (List.mem_of_getElem? (i := 18) (by rw [bnds0]; rfl))
theorem bnd22 {ρ : Env} (h : Bnd ρ) : 0 ≤ (ρ.v 22).int ∧ (ρ.v 22).int ≤ 18446744073709551615 := h (.vr 22, 0, 18446744073709551615) (List.mem_of_getElem? (i := 22) (by rw [bnds0]; rfl))
theorem bnd23 {ρ : Env} (h : Bnd ρ) : 0 ≤ (ρ.v 23).int ∧ (ρ.v 23).int ≤ 18446744073709551615 := h (.vr 23, 0, 18446744073709551615) (List.mem_of_getElem? (i := 23) (by rw [bnds0]; rfl))
theorem bnd24 {ρ : Env} (h : Bnd ρ) : 0 ≤ (ρ.v 24).int ∧ (ρ.v 24).int ≤ 18446744073709551615 := h (.vr 24, 0, 18446744073709551615) (List.mem_of_getElem? (i := 24) (by rw [bnds0]; rfl))
theorem bnd25 {ρ : Env} (h : Bnd ρ) : 0 ≤ (ρ.v 25).int ∧ (ρ.v 25).int ≤ 18446744073709551615 := h (.vr 25, 0, 18446744073709551615) (List.mem_of_getElem? (i := 25) (by rw [bnds0]; rfl))
theorem bnd26 {ρ : Env} (h : Bnd ρ) : 0 ≤ (ρ.v 26).int ∧ (ρ.v 26).int ≤ 18446744073709551615 := h (.vr 26, 0, 18446744073709551615) (List.mem_of_getElem? (i := 26) (by rw [bnds0]; rfl))
theorem bnd27 {ρ : Env} (h : Bnd ρ) : 0 ≤ (ρ.v 27).int ∧ (ρ.v 27).int ≤ 18446744073709551615 := h (.vr 27, 0, 18446744073709551615) (List.mem_of_getElem? (i := 27) (by rw [bnds0]; rfl))
theorem bnd28 {ρ : Env} (h : Bnd ρ) : 0 ≤ (ρ.v 28).int ∧ (ρ.v 28).int ≤ 18446744073709551615 := h (.vr 28, 0, 18446744073709551615) (List.mem_of_getElem? (i := 28) (by rw [bnds0]; rfl))
theorem bnd29 {ρ : Env} (h : Bnd ρ) : 0 ≤ (ρ.v 29).int ∧ (ρ.v 29).int ≤ 18446744073709551615 := h (.vr 29, 0, 18446744073709551615) (List.mem_of_getElem? (i := 29) (by rw [bnds0]; rfl))
theorem bnd30 {ρ : Env} (h : Bnd ρ) : 0 ≤ (ρ.v 30).int ∧ (ρ.v 30).int ≤ 18446744073709551615 := h (.vr 30, 0, 18446744073709551615) (List.mem_of_getElem? (i := 30) (by rw [bnds0]; rfl))
theorem bnd34 {ρ : Env} (h : Bnd ρ) : 0 ≤ (ρ.v 34).int ∧ (ρ.v 34).int ≤ 18446744073709551615 := h (.vr 34, 0, 18446744073709551615) (List.mem_of_getElem? (i := 34) (by rw [bnds0]; rfl))
/-- A run of the law where the register is told. -/
def At (args : List DV) (F : Facts) (pl : PL) : Prop := runs args F pl = true → F.sem = (fun _ => True) → ∀ (ρ : Env), F.ok ρ → pl.Fit oblT (fun _ _ => False) ρ → ∀ (m : Emb) (w : World) (vs : Array Value), DV.RL m ρ args vs.toList →
  HeapR m ρ (T.ofList (shH Tryd.prog sh0 0 0)) w → (∀ id, shN sh0 ≤ id → m.ι id = none) → Calls Tryd.prog 6 vs w fun e w' => e = .returned (.bool true) ∧ Below w.heap.size w w'
theorem at_ (args : List DV) (F : Facts) (pl : PL) (hl : args.length ≤ Tryd.f6.ntmps) : At args F pl := fun hr hS ρ hF hfit m w vs hvs hH hf =>
  law_by_points (P := Tryd.prog) (Γ := Γa) (S := fun _ => True) (loops := 6005000) (depth := 50) (root := root) (fun F _ => Γa_ok F) Tryd.func6 (by kernel_rfl) hl (pts := []) (fun p hp => by cases hp) (fun p hp => by cases hp) hS hr
    (fun _ _ => False) (fun _ _ => 0) (fun j p ρ hp _ => by cases hp) hF hfit hvs hH hf (fun id B h => shH_ro _ (ofList_mem h))
theorem F0_ok {ρ : Env} (h : Bnd ρ) : F0.ok ρ := ⟨by simp [F0], h, by simp [F0], trivial⟩
theorem FN_ok {ρ : Env} (h : Bnd ρ) (hk : ∀ k ∈ keys, (ρ.v 31).int ≠ k) : FN.ok ρ := by
  refine ⟨fun p hp => ?_, h, by simp [FN], trivial⟩
  simp only [FN, List.mem_flatMap] at hp
  obtain ⟨k, hkm, hp⟩ := hp
  have := hk k hkm
  rcases List.mem_cons.1 hp with rfl | hp
  · simp only [ev_eqif, ev_vr, ev_li]; exact this
  · obtain rfl := List.mem_singleton.1 hp
    simp only [ev_eqif, ev_vr, ev_li]; exact fun e => this e.symm
theorem kAll {ρ : Env} (h : Bnd ρ) : (e0.ev ρ).bool = true ∧ (e1.ev ρ).bool = true ∧ (e2.ev ρ).bool = true ∧ (e3.ev ρ).bool = true ∧ (e4.ev ρ).bool = true ∧ (e5.ev ρ).bool = true ∧ (e6.ev ρ).bool = true ∧ (e7.ev ρ).bool = true ∧ (e8.ev ρ).bool = true ∧ (e9.ev ρ).bool = true ∧ (e10.ev ρ).bool = true ∧ (e11.ev ρ).bool = true ∧ (e12.ev ρ).bool = true ∧ (e13.ev ρ).bool = true ∧ (e14.ev ρ).bool = true ∧ (e15.ev ρ).bool = true ∧ (e16.ev ρ).bool = true ∧ (e17.ev ρ).bool = true ∧ (e18.ev ρ).bool = true ∧ (e19.ev ρ).bool = true ∧ (e20.ev ρ).bool = true ∧ (e21.ev ρ).bool = true ∧ (e22.ev ρ).bool = true ∧ (e23.ev ρ).bool = true ∧ (e24.ev ρ).bool = true ∧ (e25.ev ρ).bool = true ∧ (e26.ev ρ).bool = true ∧ (e27.ev ρ).bool = true := ⟨k0 (ρ := ρ) (bnd1 h).1 (bnd1 h).2, k1 (ρ := ρ) (bnd2 h).1 (bnd2 h).2, k2 (ρ := ρ) (bnd3 h).1 (bnd3 h).2, k3 (ρ := ρ) (bnd4 h).1 (bnd4 h).2, k4 (ρ := ρ) (bnd5 h).1 (bnd5 h).2, k5 (ρ := ρ) (bnd6 h).1 (bnd6 h).2, k6 (ρ := ρ) (bnd7 h).1 (bnd7 h).2, k7 (ρ := ρ) (bnd8 h).1 (bnd8 h).2, k8 (ρ := ρ) (bnd9 h).1 (bnd9 h).2, k9 (ρ := ρ) (bnd10 h).1 (bnd10 h).2, k10 (ρ := ρ) (bnd11 h).1 (bnd11 h).2, k11 (ρ := ρ) (bnd12 h).1 (bnd12 h).2, k12 (ρ := ρ) (bnd13 h).1 (bnd13 h).2, k13 (ρ := ρ) (bnd14 h).1 (bnd14 h).2, k14 (ρ := ρ) (bnd15 h).1 (bnd15 h).2, k15 (ρ := ρ) (bnd16 h).1 (bnd16 h).2, k16 (ρ := ρ) (bnd17 h).1 (bnd17 h).2, k17 (ρ := ρ) (bnd18 h).1 (bnd18 h).2, k18 (ρ := ρ), k19 (ρ := ρ) (bnd22 h).1 (bnd22 h).2, k20 (ρ := ρ) (bnd23 h).1 (bnd23 h).2, k21 (ρ := ρ) (bnd24 h).1 (bnd24 h).2, k22 (ρ := ρ) (bnd25 h).1 (bnd25 h).2, k23 (ρ := ρ) (bnd26 h).1 (bnd26 h).2, k24 (ρ := ρ) (bnd27 h).1 (bnd27 h).2, k25 (ρ := ρ) (bnd28 h).1 (bnd28 h).2, k26 (ρ := ρ) (bnd29 h).1 (bnd29 h).2, k27 (ρ := ρ) (bnd30 h).1 (bnd30 h).2⟩
theorem fit256 {ρ : Env} (h : Bnd ρ) : pl256.Fit oblT (fun _ _ => False) ρ := by
  obtain ⟨q0, q1, q2, q3, q4, q5, q6, q7, q8, q9, q10, q11, q12, q13, q14, q15, q16, q17, q18, q19, q20, q21, q22, q23, q24, q25, q26, q27⟩ := kAll h
  have q28 := k28 (ρ := ρ) (bnd1 h).1 (bnd1 h).2 (bnd34 h).1 (bnd34 h).2
  have q29 := k29 (ρ := ρ) (bnd1 h).1 (bnd1 h).2 (bnd34 h).1 (bnd34 h).2
  exact ⟨q0, ⟨q1, ⟨q2, ⟨q3, ⟨q4, ⟨q5, ⟨q6, ⟨q7, ⟨q8, ⟨q9, ⟨q10, ⟨q11, ⟨q12, ⟨q13, ⟨q14, ⟨q15, ⟨q16, ⟨q17, ⟨q18, ⟨q19, ⟨q20, ⟨q21, ⟨q22, ⟨q23, ⟨q24, ⟨q25, ⟨q26, ⟨q27, ⟨fun _ => rfl, fun _ => ⟨fun _ => rfl, fun _ => ⟨fun _ => rfl, fun _ => ⟨q28, ⟨q29, rfl⟩⟩⟩⟩⟩⟩⟩⟩⟩⟩⟩⟩⟩⟩⟩⟩⟩⟩⟩⟩⟩⟩⟩⟩⟩⟩⟩⟩⟩⟩⟩⟩⟩
theorem fit260 {ρ : Env} (h : Bnd ρ) : pl260.Fit oblT (fun _ _ => False) ρ := by
  obtain ⟨q0, q1, q2, q3, q4, q5, q6, q7, q8, q9, q10, q11, q12, q13, q14, q15, q16, q17, q18, q19, q20, q21, q22, q23, q24, q25, q26, q27⟩ := kAll h
  have q30 := k30 (ρ := ρ) (bnd2 h).1 (bnd2 h).2 (bnd6 h).1 (bnd6 h).2 (bnd34 h).1 (bnd34 h).2
  have q31 := k31 (ρ := ρ) (bnd2 h).1 (bnd2 h).2 (bnd6 h).1 (bnd6 h).2 (bnd34 h).1 (bnd34 h).2
  exact ⟨q0, ⟨q1, ⟨q2, ⟨q3, ⟨q4, ⟨q5, ⟨q6, ⟨q7, ⟨q8, ⟨q9, ⟨q10, ⟨q11, ⟨q12, ⟨q13, ⟨q14, ⟨q15, ⟨q16, ⟨q17, ⟨q18, ⟨q19, ⟨q20, ⟨q21, ⟨q22, ⟨q23, ⟨q24, ⟨q25, ⟨q26, ⟨q27, ⟨fun _ => rfl, fun _ => ⟨fun _ => rfl, fun _ => ⟨fun _ => rfl, fun _ => ⟨q30, ⟨q31, rfl⟩⟩⟩⟩⟩⟩⟩⟩⟩⟩⟩⟩⟩⟩⟩⟩⟩⟩⟩⟩⟩⟩⟩⟩⟩⟩⟩⟩⟩⟩⟩⟩⟩
theorem fit261 {ρ : Env} (h : Bnd ρ) : pl261.Fit oblT (fun _ _ => False) ρ := by
  obtain ⟨q0, q1, q2, q3, q4, q5, q6, q7, q8, q9, q10, q11, q12, q13, q14, q15, q16, q17, q18, q19, q20, q21, q22, q23, q24, q25, q26, q27⟩ := kAll h
  have q32 := k32 (ρ := ρ) (bnd34 h).1 (bnd34 h).2
  exact ⟨q0, ⟨q1, ⟨q2, ⟨q3, ⟨q4, ⟨q5, ⟨q6, ⟨q7, ⟨q8, ⟨q9, ⟨q10, ⟨q11, ⟨q12, ⟨q13, ⟨q14, ⟨q15, ⟨q16, ⟨q17, ⟨q18, ⟨q19, ⟨q20, ⟨q21, ⟨q22, ⟨q23, ⟨q24, ⟨q25, ⟨q26, ⟨q27, ⟨fun _ => rfl, fun _ => ⟨fun _ => rfl, fun _ => ⟨fun _ => rfl, fun _ => ⟨q32, rfl⟩⟩⟩⟩⟩⟩⟩⟩⟩⟩⟩⟩⟩⟩⟩⟩⟩⟩⟩⟩⟩⟩⟩⟩⟩⟩⟩⟩⟩⟩⟩⟩
theorem fit262 {ρ : Env} (h : Bnd ρ) : pl262.Fit oblT (fun _ _ => False) ρ := by
  obtain ⟨q0, q1, q2, q3, q4, q5, q6, q7, q8, q9, q10, q11, q12, q13, q14, q15, q16, q17, q18, q19, q20, q21, q22, q23, q24, q25, q26, q27⟩ := kAll h
  have q33 := k33 (ρ := ρ) (bnd34 h).1 (bnd34 h).2
  exact ⟨q0, ⟨q1, ⟨q2, ⟨q3, ⟨q4, ⟨q5, ⟨q6, ⟨q7, ⟨q8, ⟨q9, ⟨q10, ⟨q11, ⟨q12, ⟨q13, ⟨q14, ⟨q15, ⟨q16, ⟨q17, ⟨q18, ⟨q19, ⟨q20, ⟨q21, ⟨q22, ⟨q23, ⟨q24, ⟨q25, ⟨q26, ⟨q27, ⟨fun _ => rfl, fun _ => ⟨fun _ => rfl, fun _ => ⟨fun _ => rfl, fun _ => ⟨q33, rfl⟩⟩⟩⟩⟩⟩⟩⟩⟩⟩⟩⟩⟩⟩⟩⟩⟩⟩⟩⟩⟩⟩⟩⟩⟩⟩⟩⟩⟩⟩⟩⟩
theorem fit320 {ρ : Env} (h : Bnd ρ) : pl320.Fit oblT (fun _ _ => False) ρ := by
  obtain ⟨q0, q1, q2, q3, q4, q5, q6, q7, q8, q9, q10, q11, q12, q13, q14, q15, q16, q17, q18, q19, q20, q21, q22, q23, q24, q25, q26, q27⟩ := kAll h
  have q34 := k34 (ρ := ρ) (bnd34 h).1 (bnd34 h).2
  exact ⟨q0, ⟨q1, ⟨q2, ⟨q3, ⟨q4, ⟨q5, ⟨q6, ⟨q7, ⟨q8, ⟨q9, ⟨q10, ⟨q11, ⟨q12, ⟨q13, ⟨q14, ⟨q15, ⟨q16, ⟨q17, ⟨q18, ⟨q19, ⟨q20, ⟨q21, ⟨q22, ⟨q23, ⟨q24, ⟨q25, ⟨q26, ⟨q27, ⟨fun _ => rfl, fun _ => ⟨fun _ => rfl, fun _ => ⟨fun _ => rfl, fun _ => ⟨q34, rfl⟩⟩⟩⟩⟩⟩⟩⟩⟩⟩⟩⟩⟩⟩⟩⟩⟩⟩⟩⟩⟩⟩⟩⟩⟩⟩⟩⟩⟩⟩⟩⟩
theorem fit321 {ρ : Env} (h : Bnd ρ) : pl321.Fit oblT (fun _ _ => False) ρ := by
  obtain ⟨q0, q1, q2, q3, q4, q5, q6, q7, q8, q9, q10, q11, q12, q13, q14, q15, q16, q17, q18, q19, q20, q21, q22, q23, q24, q25, q26, q27⟩ := kAll h
  have q35 := k35 (ρ := ρ) (bnd34 h).1 (bnd34 h).2
  exact ⟨q0, ⟨q1, ⟨q2, ⟨q3, ⟨q4, ⟨q5, ⟨q6, ⟨q7, ⟨q8, ⟨q9, ⟨q10, ⟨q11, ⟨q12, ⟨q13, ⟨q14, ⟨q15, ⟨q16, ⟨q17, ⟨q18, ⟨q19, ⟨q20, ⟨q21, ⟨q22, ⟨q23, ⟨q24, ⟨q25, ⟨q26, ⟨q27, ⟨fun _ => rfl, fun _ => ⟨fun _ => rfl, fun _ => ⟨fun _ => rfl, fun _ => ⟨q35, rfl⟩⟩⟩⟩⟩⟩⟩⟩⟩⟩⟩⟩⟩⟩⟩⟩⟩⟩⟩⟩⟩⟩⟩⟩⟩⟩⟩⟩⟩⟩⟩⟩
theorem fit322 {ρ : Env} (h : Bnd ρ) : pl322.Fit oblT (fun _ _ => False) ρ := by
  obtain ⟨q0, q1, q2, q3, q4, q5, q6, q7, q8, q9, q10, q11, q12, q13, q14, q15, q16, q17, q18, q19, q20, q21, q22, q23, q24, q25, q26, q27⟩ := kAll h
  have q34 := k34 (ρ := ρ) (bnd34 h).1 (bnd34 h).2
  exact ⟨q0, ⟨q1, ⟨q2, ⟨q3, ⟨q4, ⟨q5, ⟨q6, ⟨q7, ⟨q8, ⟨q9, ⟨q10, ⟨q11, ⟨q12, ⟨q13, ⟨q14, ⟨q15, ⟨q16, ⟨q17, ⟨q18, ⟨q19, ⟨q20, ⟨q21, ⟨q22, ⟨q23, ⟨q24, ⟨q25, ⟨q26, ⟨q27, ⟨fun _ => rfl, fun _ => ⟨fun _ => rfl, fun _ => ⟨fun _ => rfl, fun _ => ⟨q34, rfl⟩⟩⟩⟩⟩⟩⟩⟩⟩⟩⟩⟩⟩⟩⟩⟩⟩⟩⟩⟩⟩⟩⟩⟩⟩⟩⟩⟩⟩⟩⟩⟩
theorem fit323 {ρ : Env} (h : Bnd ρ) : pl323.Fit oblT (fun _ _ => False) ρ := by
  obtain ⟨q0, q1, q2, q3, q4, q5, q6, q7, q8, q9, q10, q11, q12, q13, q14, q15, q16, q17, q18, q19, q20, q21, q22, q23, q24, q25, q26, q27⟩ := kAll h
  have q34 := k34 (ρ := ρ) (bnd34 h).1 (bnd34 h).2
  exact ⟨q0, ⟨q1, ⟨q2, ⟨q3, ⟨q4, ⟨q5, ⟨q6, ⟨q7, ⟨q8, ⟨q9, ⟨q10, ⟨q11, ⟨q12, ⟨q13, ⟨q14, ⟨q15, ⟨q16, ⟨q17, ⟨q18, ⟨q19, ⟨q20, ⟨q21, ⟨q22, ⟨q23, ⟨q24, ⟨q25, ⟨q26, ⟨q27, ⟨fun _ => rfl, fun _ => ⟨fun _ => rfl, fun _ => ⟨fun _ => rfl, fun _ => ⟨q34, rfl⟩⟩⟩⟩⟩⟩⟩⟩⟩⟩⟩⟩⟩⟩⟩⟩⟩⟩⟩⟩⟩⟩⟩⟩⟩⟩⟩⟩⟩⟩⟩⟩
theorem fit324 {ρ : Env} (h : Bnd ρ) : pl324.Fit oblT (fun _ _ => False) ρ := by
  obtain ⟨q0, q1, q2, q3, q4, q5, q6, q7, q8, q9, q10, q11, q12, q13, q14, q15, q16, q17, q18, q19, q20, q21, q22, q23, q24, q25, q26, q27⟩ := kAll h
  have q36 := k36 (ρ := ρ) (bnd3 h).1 (bnd3 h).2 (bnd6 h).1 (bnd6 h).2 (bnd34 h).1 (bnd34 h).2
  have q37 := k37 (ρ := ρ) (bnd3 h).1 (bnd3 h).2 (bnd6 h).1 (bnd6 h).2 (bnd34 h).1 (bnd34 h).2
  exact ⟨q0, ⟨q1, ⟨q2, ⟨q3, ⟨q4, ⟨q5, ⟨q6, ⟨q7, ⟨q8, ⟨q9, ⟨q10, ⟨q11, ⟨q12, ⟨q13, ⟨q14, ⟨q15, ⟨q16, ⟨q17, ⟨q18, ⟨q19, ⟨q20, ⟨q21, ⟨q22, ⟨q23, ⟨q24, ⟨q25, ⟨q26, ⟨q27, ⟨fun _ => rfl, fun _ => ⟨fun _ => rfl, fun _ => ⟨fun _ => rfl, fun _ => ⟨q36, ⟨q37, rfl⟩⟩⟩⟩⟩⟩⟩⟩⟩⟩⟩⟩⟩⟩⟩⟩⟩⟩⟩⟩⟩⟩⟩⟩⟩⟩⟩⟩⟩⟩⟩⟩⟩
theorem fit384 {ρ : Env} (h : Bnd ρ) : pl384.Fit oblT (fun _ _ => False) ρ := by
  obtain ⟨q0, q1, q2, q3, q4, q5, q6, q7, q8, q9, q10, q11, q12, q13, q14, q15, q16, q17, q18, q19, q20, q21, q22, q23, q24, q25, q26, q27⟩ := kAll h
  have q38 := k38 (ρ := ρ)
  have q39 := k39 (ρ := ρ)
  have q40 := k40 (ρ := ρ)
  exact ⟨q0, ⟨q1, ⟨q2, ⟨q3, ⟨q4, ⟨q5, ⟨q6, ⟨q7, ⟨q8, ⟨q9, ⟨q10, ⟨q11, ⟨q12, ⟨q13, ⟨q14, ⟨q15, ⟨q16, ⟨q17, ⟨q18, ⟨q19, ⟨q20, ⟨q21, ⟨q22, ⟨q23, ⟨q24, ⟨q25, ⟨q26, ⟨q27, ⟨fun _ => rfl, fun _ => ⟨fun _ => rfl, fun _ => ⟨fun _ => rfl, fun _ => ⟨q38, ⟨fun _ => ⟨q39, ⟨fun _ => ⟨q40, rfl⟩, fun _ => rfl⟩⟩, fun _ => ⟨q40, rfl⟩⟩⟩⟩⟩⟩⟩⟩⟩⟩⟩⟩⟩⟩⟩⟩⟩⟩⟩⟩⟩⟩⟩⟩⟩⟩⟩⟩⟩⟩⟩⟩⟩⟩
theorem fit3072 {ρ : Env} (h : Bnd ρ) : pl3072.Fit oblT (fun _ _ => False) ρ := by
  obtain ⟨q0, q1, q2, q3, q4, q5, q6, q7, q8, q9, q10, q11, q12, q13, q14, q15, q16, q17, q18, q19, q20, q21, q22, q23, q24, q25, q26, q27⟩ := kAll h
  exact ⟨q0, ⟨q1, ⟨q2, ⟨q3, ⟨q4, ⟨q5, ⟨q6, ⟨q7, ⟨q8, ⟨q9, ⟨q10, ⟨q11, ⟨q12, ⟨q13, ⟨q14, ⟨q15, ⟨q16, ⟨q17, ⟨q18, ⟨q19, ⟨q20, ⟨q21, ⟨q22, ⟨q23, ⟨q24, ⟨q25, ⟨q26, ⟨q27, ⟨fun _ => rfl, fun _ => ⟨fun _ => rfl, fun _ => ⟨fun _ => ⟨fun _ => rfl, fun _ => ⟨fun _ => ⟨fun _ => rfl, fun _ => rfl⟩, fun _ => rfl⟩⟩, fun _ => rfl⟩⟩⟩⟩⟩⟩⟩⟩⟩⟩⟩⟩⟩⟩⟩⟩⟩⟩⟩⟩⟩⟩⟩⟩⟩⟩⟩⟩⟩⟩⟩
theorem fit3073 {ρ : Env} (h : Bnd ρ) : pl3073.Fit oblT (fun _ _ => False) ρ := by
  obtain ⟨q0, q1, q2, q3, q4, q5, q6, q7, q8, q9, q10, q11, q12, q13, q14, q15, q16, q17, q18, q19, q20, q21, q22, q23, q24, q25, q26, q27⟩ := kAll h
  exact ⟨q0, ⟨q1, ⟨q2, ⟨q3, ⟨q4, ⟨q5, ⟨q6, ⟨q7, ⟨q8, ⟨q9, ⟨q10, ⟨q11, ⟨q12, ⟨q13, ⟨q14, ⟨q15, ⟨q16, ⟨q17, ⟨q18, ⟨q19, ⟨q20, ⟨q21, ⟨q22, ⟨q23, ⟨q24, ⟨q25, ⟨q26, ⟨q27, ⟨fun _ => rfl, fun _ => ⟨fun _ => rfl, fun _ => ⟨fun _ => ⟨fun _ => rfl, fun _ => ⟨fun _ => ⟨fun _ => rfl, fun _ => rfl⟩, fun _ => rfl⟩⟩, fun _ => rfl⟩⟩⟩⟩⟩⟩⟩⟩⟩⟩⟩⟩⟩⟩⟩⟩⟩⟩⟩⟩⟩⟩⟩⟩⟩⟩⟩⟩⟩⟩⟩
theorem fit3074 {ρ : Env} (h : Bnd ρ) : pl3074.Fit oblT (fun _ _ => False) ρ := by
  obtain ⟨q0, q1, q2, q3, q4, q5, q6, q7, q8, q9, q10, q11, q12, q13, q14, q15, q16, q17, q18, q19, q20, q21, q22, q23, q24, q25, q26, q27⟩ := kAll h
  exact ⟨q0, ⟨q1, ⟨q2, ⟨q3, ⟨q4, ⟨q5, ⟨q6, ⟨q7, ⟨q8, ⟨q9, ⟨q10, ⟨q11, ⟨q12, ⟨q13, ⟨q14, ⟨q15, ⟨q16, ⟨q17, ⟨q18, ⟨q19, ⟨q20, ⟨q21, ⟨q22, ⟨q23, ⟨q24, ⟨q25, ⟨q26, ⟨q27, ⟨fun _ => rfl, fun _ => ⟨fun _ => rfl, fun _ => ⟨fun _ => ⟨fun _ => rfl, fun _ => ⟨fun _ => ⟨fun _ => rfl, fun _ => rfl⟩, fun _ => rfl⟩⟩, fun _ => rfl⟩⟩⟩⟩⟩⟩⟩⟩⟩⟩⟩⟩⟩⟩⟩⟩⟩⟩⟩⟩⟩⟩⟩⟩⟩⟩⟩⟩⟩⟩⟩
theorem fit768 {ρ : Env} (h : Bnd ρ) : pl768.Fit oblT (fun _ _ => False) ρ := by
  obtain ⟨q0, q1, q2, q3, q4, q5, q6, q7, q8, q9, q10, q11, q12, q13, q14, q15, q16, q17, q18, q19, q20, q21, q22, q23, q24, q25, q26, q27⟩ := kAll h
  have q41 := k41 (ρ := ρ) (bnd34 h).1 (bnd34 h).2
  have q42 := k42 (ρ := ρ) (bnd34 h).1 (bnd34 h).2
  exact ⟨q0, ⟨q1, ⟨q2, ⟨q3, ⟨q4, ⟨q5, ⟨q6, ⟨q7, ⟨q8, ⟨q9, ⟨q10, ⟨q11, ⟨q12, ⟨q13, ⟨q14, ⟨q15, ⟨q16, ⟨q17, ⟨q18, ⟨q19, ⟨q20, ⟨q21, ⟨q22, ⟨q23, ⟨q24, ⟨q25, ⟨q26, ⟨q27, ⟨fun _ => rfl, fun _ => ⟨fun _ => rfl, fun _ => ⟨fun _ => rfl, fun _ => ⟨q41, ⟨q42, rfl⟩⟩⟩⟩⟩⟩⟩⟩⟩⟩⟩⟩⟩⟩⟩⟩⟩⟩⟩⟩⟩⟩⟩⟩⟩⟩⟩⟩⟩⟩⟩⟩⟩
theorem fit769 {ρ : Env} (h : Bnd ρ) : pl769.Fit oblT (fun _ _ => False) ρ := by
  obtain ⟨q0, q1, q2, q3, q4, q5, q6, q7, q8, q9, q10, q11, q12, q13, q14, q15, q16, q17, q18, q19, q20, q21, q22, q23, q24, q25, q26, q27⟩ := kAll h
  exact ⟨q0, ⟨q1, ⟨q2, ⟨q3, ⟨q4, ⟨q5, ⟨q6, ⟨q7, ⟨q8, ⟨q9, ⟨q10, ⟨q11, ⟨q12, ⟨q13, ⟨q14, ⟨q15, ⟨q16, ⟨q17, ⟨q18, ⟨q19, ⟨q20, ⟨q21, ⟨q22, ⟨q23, ⟨q24, ⟨q25, ⟨q26, ⟨q27, ⟨fun _ => rfl, fun _ => ⟨fun _ => rfl, fun _ => ⟨fun _ => rfl, fun _ => rfl⟩⟩⟩⟩⟩⟩⟩⟩⟩⟩⟩⟩⟩⟩⟩⟩⟩⟩⟩⟩⟩⟩⟩⟩⟩⟩⟩⟩⟩⟩⟩
theorem fit770 {ρ : Env} (h : Bnd ρ) : pl770.Fit oblT (fun _ _ => False) ρ := by
  obtain ⟨q0, q1, q2, q3, q4, q5, q6, q7, q8, q9, q10, q11, q12, q13, q14, q15, q16, q17, q18, q19, q20, q21, q22, q23, q24, q25, q26, q27⟩ := kAll h
  have q43 := k43 (ρ := ρ) (bnd34 h).1 (bnd34 h).2
  exact ⟨q0, ⟨q1, ⟨q2, ⟨q3, ⟨q4, ⟨q5, ⟨q6, ⟨q7, ⟨q8, ⟨q9, ⟨q10, ⟨q11, ⟨q12, ⟨q13, ⟨q14, ⟨q15, ⟨q16, ⟨q17, ⟨q18, ⟨q19, ⟨q20, ⟨q21, ⟨q22, ⟨q23, ⟨q24, ⟨q25, ⟨q26, ⟨q27, ⟨fun _ => rfl, fun _ => ⟨fun _ => rfl, fun _ => ⟨fun _ => rfl, fun _ => ⟨q43, rfl⟩⟩⟩⟩⟩⟩⟩⟩⟩⟩⟩⟩⟩⟩⟩⟩⟩⟩⟩⟩⟩⟩⟩⟩⟩⟩⟩⟩⟩⟩⟩⟩
theorem fit771 {ρ : Env} (h : Bnd ρ) : pl771.Fit oblT (fun _ _ => False) ρ := by
  obtain ⟨q0, q1, q2, q3, q4, q5, q6, q7, q8, q9, q10, q11, q12, q13, q14, q15, q16, q17, q18, q19, q20, q21, q22, q23, q24, q25, q26, q27⟩ := kAll h
  have q44 := k44 (ρ := ρ) (bnd34 h).1 (bnd34 h).2
  exact ⟨q0, ⟨q1, ⟨q2, ⟨q3, ⟨q4, ⟨q5, ⟨q6, ⟨q7, ⟨q8, ⟨q9, ⟨q10, ⟨q11, ⟨q12, ⟨q13, ⟨q14, ⟨q15, ⟨q16, ⟨q17, ⟨q18, ⟨q19, ⟨q20, ⟨q21, ⟨q22, ⟨q23, ⟨q24, ⟨q25, ⟨q26, ⟨q27, ⟨fun _ => rfl, fun _ => ⟨fun _ => rfl, fun _ => ⟨fun _ => rfl, fun _ => ⟨q44, rfl⟩⟩⟩⟩⟩⟩⟩⟩⟩⟩⟩⟩⟩⟩⟩⟩⟩⟩⟩⟩⟩⟩⟩⟩⟩⟩⟩⟩⟩⟩⟩⟩
theorem fit772 {ρ : Env} (h : Bnd ρ) : pl772.Fit oblT (fun _ _ => False) ρ := by
  obtain ⟨q0, q1, q2, q3, q4, q5, q6, q7, q8, q9, q10, q11, q12, q13, q14, q15, q16, q17, q18, q19, q20, q21, q22, q23, q24, q25, q26, q27⟩ := kAll h
  have q45 := k45 (ρ := ρ) (bnd34 h).1 (bnd34 h).2
  exact ⟨q0, ⟨q1, ⟨q2, ⟨q3, ⟨q4, ⟨q5, ⟨q6, ⟨q7, ⟨q8, ⟨q9, ⟨q10, ⟨q11, ⟨q12, ⟨q13, ⟨q14, ⟨q15, ⟨q16, ⟨q17, ⟨q18, ⟨q19, ⟨q20, ⟨q21, ⟨q22, ⟨q23, ⟨q24, ⟨q25, ⟨q26, ⟨q27, ⟨fun _ => rfl, fun _ => ⟨fun _ => rfl, fun _ => ⟨fun _ => rfl, fun _ => ⟨q45, rfl⟩⟩⟩⟩⟩⟩⟩⟩⟩⟩⟩⟩⟩⟩⟩⟩⟩⟩⟩⟩⟩⟩⟩⟩⟩⟩⟩⟩⟩⟩⟩⟩
theorem fit773 {ρ : Env} (h : Bnd ρ) : pl773.Fit oblT (fun _ _ => False) ρ := by
  obtain ⟨q0, q1, q2, q3, q4, q5, q6, q7, q8, q9, q10, q11, q12, q13, q14, q15, q16, q17, q18, q19, q20, q21, q22, q23, q24, q25, q26, q27⟩ := kAll h
  have q32 := k32 (ρ := ρ) (bnd34 h).1 (bnd34 h).2
  exact ⟨q0, ⟨q1, ⟨q2, ⟨q3, ⟨q4, ⟨q5, ⟨q6, ⟨q7, ⟨q8, ⟨q9, ⟨q10, ⟨q11, ⟨q12, ⟨q13, ⟨q14, ⟨q15, ⟨q16, ⟨q17, ⟨q18, ⟨q19, ⟨q20, ⟨q21, ⟨q22, ⟨q23, ⟨q24, ⟨q25, ⟨q26, ⟨q27, ⟨fun _ => rfl, fun _ => ⟨fun _ => rfl, fun _ => ⟨fun _ => rfl, fun _ => ⟨q32, rfl⟩⟩⟩⟩⟩⟩⟩⟩⟩⟩⟩⟩⟩⟩⟩⟩⟩⟩⟩⟩⟩⟩⟩⟩⟩⟩⟩⟩⟩⟩⟩⟩
theorem fit774 {ρ : Env} (h : Bnd ρ) : pl774.Fit oblT (fun _ _ => False) ρ := by
  obtain ⟨q0, q1, q2, q3, q4, q5, q6, q7, q8, q9, q10, q11, q12, q13, q14, q15, q16, q17, q18, q19, q20, q21, q22, q23, q24, q25, q26, q27⟩ := kAll h
  have q33 := k33 (ρ := ρ) (bnd34 h).1 (bnd34 h).2
  exact ⟨q0, ⟨q1, ⟨q2, ⟨q3, ⟨q4, ⟨q5, ⟨q6, ⟨q7, ⟨q8, ⟨q9, ⟨q10, ⟨q11, ⟨q12, ⟨q13, ⟨q14, ⟨q15, ⟨q16, ⟨q17, ⟨q18, ⟨q19, ⟨q20, ⟨q21, ⟨q22, ⟨q23, ⟨q24, ⟨q25, ⟨q26, ⟨q27, ⟨fun _ => rfl, fun _ => ⟨fun _ => rfl, fun _ => ⟨fun _ => rfl, fun _ => ⟨q33, rfl⟩⟩⟩⟩⟩⟩⟩⟩⟩⟩⟩⟩⟩⟩⟩⟩⟩⟩⟩⟩⟩⟩⟩⟩⟩⟩⟩⟩⟩⟩⟩⟩
theorem fit832 {ρ : Env} (h : Bnd ρ) : pl832.Fit oblT (fun _ _ => False) ρ := by
  obtain ⟨q0, q1, q2, q3, q4, q5, q6, q7, q8, q9, q10, q11, q12, q13, q14, q15, q16, q17, q18, q19, q20, q21, q22, q23, q24, q25, q26, q27⟩ := kAll h
  have q34 := k34 (ρ := ρ) (bnd34 h).1 (bnd34 h).2
  exact ⟨q0, ⟨q1, ⟨q2, ⟨q3, ⟨q4, ⟨q5, ⟨q6, ⟨q7, ⟨q8, ⟨q9, ⟨q10, ⟨q11, ⟨q12, ⟨q13, ⟨q14, ⟨q15, ⟨q16, ⟨q17, ⟨q18, ⟨q19, ⟨q20, ⟨q21, ⟨q22, ⟨q23, ⟨q24, ⟨q25, ⟨q26, ⟨q27, ⟨fun _ => rfl, fun _ => ⟨fun _ => rfl, fun _ => ⟨fun _ => rfl, fun _ => ⟨q34, rfl⟩⟩⟩⟩⟩⟩⟩⟩⟩⟩⟩⟩⟩⟩⟩⟩⟩⟩⟩⟩⟩⟩⟩⟩⟩⟩⟩⟩⟩⟩⟩⟩
theorem fit833 {ρ : Env} (h : Bnd ρ) : pl833.Fit oblT (fun _ _ => False) ρ := by
  obtain ⟨q0, q1, q2, q3, q4, q5, q6, q7, q8, q9, q10, q11, q12, q13, q14, q15, q16, q17, q18, q19, q20, q21, q22, q23, q24, q25, q26, q27⟩ := kAll h
  have q35 := k35 (ρ := ρ) (bnd34 h).1 (bnd34 h).2
  exact ⟨q0, ⟨q1, ⟨q2, ⟨q3, ⟨q4, ⟨q5, ⟨q6, ⟨q7, ⟨q8, ⟨q9, ⟨q10, ⟨q11, ⟨q12, ⟨q13, ⟨q14, ⟨q15, ⟨q16, ⟨q17, ⟨q18, ⟨q19, ⟨q20, ⟨q21, ⟨q22, ⟨q23, ⟨q24, ⟨q25, ⟨q26, ⟨q27, ⟨fun _ => rfl, fun _ => ⟨fun _ => rfl, fun _ => ⟨fun _ => rfl, fun _ => ⟨q35, rfl⟩⟩⟩⟩⟩⟩⟩⟩⟩⟩⟩⟩⟩⟩⟩⟩⟩⟩⟩⟩⟩⟩⟩⟩⟩⟩⟩⟩⟩⟩⟩⟩
theorem fit834 {ρ : Env} (h : Bnd ρ) : pl834.Fit oblT (fun _ _ => False) ρ := by
  obtain ⟨q0, q1, q2, q3, q4, q5, q6, q7, q8, q9, q10, q11, q12, q13, q14, q15, q16, q17, q18, q19, q20, q21, q22, q23, q24, q25, q26, q27⟩ := kAll h
  have q34 := k34 (ρ := ρ) (bnd34 h).1 (bnd34 h).2
  exact ⟨q0, ⟨q1, ⟨q2, ⟨q3, ⟨q4, ⟨q5, ⟨q6, ⟨q7, ⟨q8, ⟨q9, ⟨q10, ⟨q11, ⟨q12, ⟨q13, ⟨q14, ⟨q15, ⟨q16, ⟨q17, ⟨q18, ⟨q19, ⟨q20, ⟨q21, ⟨q22, ⟨q23, ⟨q24, ⟨q25, ⟨q26, ⟨q27, ⟨fun _ => rfl, fun _ => ⟨fun _ => rfl, fun _ => ⟨fun _ => rfl, fun _ => ⟨q34, rfl⟩⟩⟩⟩⟩⟩⟩⟩⟩⟩⟩⟩⟩⟩⟩⟩⟩⟩⟩⟩⟩⟩⟩⟩⟩⟩⟩⟩⟩⟩⟩⟩
theorem fit835 {ρ : Env} (h : Bnd ρ) : pl835.Fit oblT (fun _ _ => False) ρ := by
  obtain ⟨q0, q1, q2, q3, q4, q5, q6, q7, q8, q9, q10, q11, q12, q13, q14, q15, q16, q17, q18, q19, q20, q21, q22, q23, q24, q25, q26, q27⟩ := kAll h
  have q34 := k34 (ρ := ρ) (bnd34 h).1 (bnd34 h).2
  exact ⟨q0, ⟨q1, ⟨q2, ⟨q3, ⟨q4, ⟨q5, ⟨q6, ⟨q7, ⟨q8, ⟨q9, ⟨q10, ⟨q11, ⟨q12, ⟨q13, ⟨q14, ⟨q15, ⟨q16, ⟨q17, ⟨q18, ⟨q19, ⟨q20, ⟨q21, ⟨q22, ⟨q23, ⟨q24, ⟨q25, ⟨q26, ⟨q27, ⟨fun _ => rfl, fun _ => ⟨fun _ => rfl, fun _ => ⟨fun _ => rfl, fun _ => ⟨q34, rfl⟩⟩⟩⟩⟩⟩⟩⟩⟩⟩⟩⟩⟩⟩⟩⟩⟩⟩⟩⟩⟩⟩⟩⟩⟩⟩⟩⟩⟩⟩⟩⟩
theorem fit836 {ρ : Env} (h : Bnd ρ) : pl836.Fit oblT (fun _ _ => False) ρ := by
  obtain ⟨q0, q1, q2, q3, q4, q5, q6, q7, q8, q9, q10, q11, q12, q13, q14, q15, q16, q17, q18, q19, q20, q21, q22, q23, q24, q25, q26, q27⟩ := kAll h
  have q44 := k44 (ρ := ρ) (bnd34 h).1 (bnd34 h).2
  have q46 := k46 (ρ := ρ) (bnd34 h).1 (bnd34 h).2
  exact ⟨q0, ⟨q1, ⟨q2, ⟨q3, ⟨q4, ⟨q5, ⟨q6, ⟨q7, ⟨q8, ⟨q9, ⟨q10, ⟨q11, ⟨q12, ⟨q13, ⟨q14, ⟨q15, ⟨q16, ⟨q17, ⟨q18, ⟨q19, ⟨q20, ⟨q21, ⟨q22, ⟨q23, ⟨q24, ⟨q25, ⟨q26, ⟨q27, ⟨fun _ => rfl, fun _ => ⟨fun _ => rfl, fun _ => ⟨fun _ => rfl, fun _ => ⟨q44, ⟨q46, rfl⟩⟩⟩⟩⟩⟩⟩⟩⟩⟩⟩⟩⟩⟩⟩⟩⟩⟩⟩⟩⟩⟩⟩⟩⟩⟩⟩⟩⟩⟩⟩⟩⟩
theorem fit928 {ρ : Env} (h : Bnd ρ) : pl928.Fit oblT (fun _ _ => False) ρ := by
  obtain ⟨q0, q1, q2, q3, q4, q5, q6, q7, q8, q9, q10, q11, q12, q13, q14, q15, q16, q17, q18, q19, q20, q21, q22, q23, q24, q25, q26, q27⟩ := kAll h
  have q47 := k47 (ρ := ρ) (bnd22 h).1 (bnd22 h).2 (bnd34 h).1 (bnd34 h).2
  have q48 := k48 (ρ := ρ) (bnd22 h).1 (bnd22 h).2 (bnd34 h).1 (bnd34 h).2
  exact ⟨q0, ⟨q1, ⟨q2, ⟨q3, ⟨q4, ⟨q5, ⟨q6, ⟨q7, ⟨q8, ⟨q9, ⟨q10, ⟨q11, ⟨q12, ⟨q13, ⟨q14, ⟨q15, ⟨q16, ⟨q17, ⟨q18, ⟨q19, ⟨q20, ⟨q21, ⟨q22, ⟨q23, ⟨q24, ⟨q25, ⟨q26, ⟨q27, ⟨fun _ => rfl, fun _ => ⟨fun _ => rfl, fun _ => ⟨fun _ => rfl, fun _ => ⟨q47, ⟨q48, rfl⟩⟩⟩⟩⟩⟩⟩⟩⟩⟩⟩⟩⟩⟩⟩⟩⟩⟩⟩⟩⟩⟩⟩⟩⟩⟩⟩⟩⟩⟩⟩⟩⟩
theorem fit2816 {ρ : Env} (h : Bnd ρ) : pl2816.Fit oblT (fun _ _ => False) ρ := by
  obtain ⟨q0, q1, q2, q3, q4, q5, q6, q7, q8, q9, q10, q11, q12, q13, q14, q15, q16, q17, q18, q19, q20, q21, q22, q23, q24, q25, q26, q27⟩ := kAll h
  have q34 := k34 (ρ := ρ) (bnd34 h).1 (bnd34 h).2
  exact ⟨q0, ⟨q1, ⟨q2, ⟨q3, ⟨q4, ⟨q5, ⟨q6, ⟨q7, ⟨q8, ⟨q9, ⟨q10, ⟨q11, ⟨q12, ⟨q13, ⟨q14, ⟨q15, ⟨q16, ⟨q17, ⟨q18, ⟨q19, ⟨q20, ⟨q21, ⟨q22, ⟨q23, ⟨q24, ⟨q25, ⟨q26, ⟨q27, ⟨fun _ => rfl, fun _ => ⟨fun _ => rfl, fun _ => ⟨fun _ => rfl, fun _ => ⟨q34, rfl⟩⟩⟩⟩⟩⟩⟩⟩⟩⟩⟩⟩⟩⟩⟩⟩⟩⟩⟩⟩⟩⟩⟩⟩⟩⟩⟩⟩⟩⟩⟩⟩
theorem fit2818 {ρ : Env} (h : Bnd ρ) : pl2818.Fit oblT (fun _ _ => False) ρ := by
  obtain ⟨q0, q1, q2, q3, q4, q5, q6, q7, q8, q9, q10, q11, q12, q13, q14, q15, q16, q17, q18, q19, q20, q21, q22, q23, q24, q25, q26, q27⟩ := kAll h
  have q34 := k34 (ρ := ρ) (bnd34 h).1 (bnd34 h).2
  exact ⟨q0, ⟨q1, ⟨q2, ⟨q3, ⟨q4, ⟨q5, ⟨q6, ⟨q7, ⟨q8, ⟨q9, ⟨q10, ⟨q11, ⟨q12, ⟨q13, ⟨q14, ⟨q15, ⟨q16, ⟨q17, ⟨q18, ⟨q19, ⟨q20, ⟨q21, ⟨q22, ⟨q23, ⟨q24, ⟨q25, ⟨q26, ⟨q27, ⟨fun _ => rfl, fun _ => ⟨fun _ => rfl, fun _ => ⟨fun _ => rfl, fun _ => ⟨q34, rfl⟩⟩⟩⟩⟩⟩⟩⟩⟩⟩⟩⟩⟩⟩⟩⟩⟩⟩⟩⟩⟩⟩⟩⟩⟩⟩⟩⟩⟩⟩⟩⟩
theorem fit3857 {ρ : Env} (h : Bnd ρ) : pl3857.Fit oblT (fun _ _ => False) ρ := by
  obtain ⟨q0, q1, q2, q3, q4, q5, q6, q7, q8, q9, q10, q11, q12, q13, q14, q15, q16, q17, q18, q19, q20, q21, q22, q23, q24, q25, q26, q27⟩ := kAll h
  exact ⟨q0, ⟨q1, ⟨q2, ⟨q3, ⟨q4, ⟨q5, ⟨q6, ⟨q7, ⟨q8, ⟨q9, ⟨q10, ⟨q11, ⟨q12, ⟨q13, ⟨q14, ⟨q15, ⟨q16, ⟨q17, ⟨q18, ⟨q19, ⟨q20, ⟨q21, ⟨q22, ⟨q23, ⟨q24, ⟨q25, ⟨q26, ⟨q27, ⟨fun _ => rfl, fun _ => ⟨fun _ => rfl, fun _ => ⟨fun _ => rfl, fun _ => rfl⟩⟩⟩⟩⟩⟩⟩⟩⟩⟩⟩⟩⟩⟩⟩⟩⟩⟩⟩⟩⟩⟩⟩⟩⟩⟩⟩⟩⟩⟩⟩
theorem fit3858 {ρ : Env} (h : Bnd ρ) : pl3858.Fit oblT (fun _ _ => False) ρ := by
  obtain ⟨q0, q1, q2, q3, q4, q5, q6, q7, q8, q9, q10, q11, q12, q13, q14, q15, q16, q17, q18, q19, q20, q21, q22, q23, q24, q25, q26, q27⟩ := kAll h
  exact ⟨q0, ⟨q1, ⟨q2, ⟨q3, ⟨q4, ⟨q5, ⟨q6, ⟨q7, ⟨q8, ⟨q9, ⟨q10, ⟨q11, ⟨q12, ⟨q13, ⟨q14, ⟨q15, ⟨q16, ⟨q17, ⟨q18, ⟨q19, ⟨q20, ⟨q21, ⟨q22, ⟨q23, ⟨q24, ⟨q25, ⟨q26, ⟨q27, ⟨fun _ => rfl, fun _ => ⟨fun _ => rfl, fun _ => ⟨fun _ => rfl, fun _ => rfl⟩⟩⟩⟩⟩⟩⟩⟩⟩⟩⟩⟩⟩⟩⟩⟩⟩⟩⟩⟩⟩⟩⟩⟩⟩⟩⟩⟩⟩⟩⟩
theorem fit3859 {ρ : Env} (h : Bnd ρ) : pl3859.Fit oblT (fun _ _ => False) ρ := by
  obtain ⟨q0, q1, q2, q3, q4, q5, q6, q7, q8, q9, q10, q11, q12, q13, q14, q15, q16, q17, q18, q19, q20, q21, q22, q23, q24, q25, q26, q27⟩ := kAll h
  exact ⟨q0, ⟨q1, ⟨q2, ⟨q3, ⟨q4, ⟨q5, ⟨q6, ⟨q7, ⟨q8, ⟨q9, ⟨q10, ⟨q11, ⟨q12, ⟨q13, ⟨q14, ⟨q15, ⟨q16, ⟨q17, ⟨q18, ⟨q19, ⟨q20, ⟨q21, ⟨q22, ⟨q23, ⟨q24, ⟨q25, ⟨q26, ⟨q27, ⟨fun _ => rfl, fun _ => ⟨fun _ => rfl, fun _ => ⟨fun _ => rfl, fun _ => rfl⟩⟩⟩⟩⟩⟩⟩⟩⟩⟩⟩⟩⟩⟩⟩⟩⟩⟩⟩⟩⟩⟩⟩⟩⟩⟩⟩⟩⟩⟩⟩
theorem fit3860 {ρ : Env} (h : Bnd ρ) : pl3860.Fit oblT (fun _ _ => False) ρ := by
  obtain ⟨q0, q1, q2, q3, q4, q5, q6, q7, q8, q9, q10, q11, q12, q13, q14, q15, q16, q17, q18, q19, q20, q21, q22, q23, q24, q25, q26, q27⟩ := kAll h
  exact ⟨q0, ⟨q1, ⟨q2, ⟨q3, ⟨q4, ⟨q5, ⟨q6, ⟨q7, ⟨q8, ⟨q9, ⟨q10, ⟨q11, ⟨q12, ⟨q13, ⟨q14, ⟨q15, ⟨q16, ⟨q17, ⟨q18, ⟨q19, ⟨q20, ⟨q21, ⟨q22, ⟨q23, ⟨q24, ⟨q25, ⟨q26, ⟨q27, ⟨fun _ => rfl, fun _ => ⟨fun _ => rfl, fun _ => ⟨fun _ => rfl, fun _ => rfl⟩⟩⟩⟩⟩⟩⟩⟩⟩⟩⟩⟩⟩⟩⟩⟩⟩⟩⟩⟩⟩⟩⟩⟩⟩⟩⟩⟩⟩⟩⟩
theorem fit944 {ρ : Env} (h : Bnd ρ) : pl944.Fit oblT (fun _ _ => False) ρ := by
  obtain ⟨q0, q1, q2, q3, q4, q5, q6, q7, q8, q9, q10, q11, q12, q13, q14, q15, q16, q17, q18, q19, q20, q21, q22, q23, q24, q25, q26, q27⟩ := kAll h
  have q49 := k49 (ρ := ρ) (bnd23 h).1 (bnd23 h).2 (bnd34 h).1 (bnd34 h).2
  have q50 := k50 (ρ := ρ) (bnd34 h).1 (bnd34 h).2
  exact ⟨q0, ⟨q1, ⟨q2, ⟨q3, ⟨q4, ⟨q5, ⟨q6, ⟨q7, ⟨q8, ⟨q9, ⟨q10, ⟨q11, ⟨q12, ⟨q13, ⟨q14, ⟨q15, ⟨q16, ⟨q17, ⟨q18, ⟨q19, ⟨q20, ⟨q21, ⟨q22, ⟨q23, ⟨q24, ⟨q25, ⟨q26, ⟨q27, ⟨fun _ => rfl, fun _ => ⟨fun _ => rfl, fun _ => ⟨fun _ => rfl, fun _ => ⟨q49, ⟨q50, rfl⟩⟩⟩⟩⟩⟩⟩⟩⟩⟩⟩⟩⟩⟩⟩⟩⟩⟩⟩⟩⟩⟩⟩⟩⟩⟩⟩⟩⟩⟩⟩⟩⟩
theorem fit945 {ρ : Env} (h : Bnd ρ) : pl945.Fit oblT (fun _ _ => False) ρ := by
  obtain ⟨q0, q1, q2, q3, q4, q5, q6, q7, q8, q9, q10, q11, q12, q13, q14, q15, q16, q17, q18, q19, q20, q21, q22, q23, q24, q25, q26, q27⟩ := kAll h
  have q51 := k51 (ρ := ρ) (bnd24 h).1 (bnd24 h).2 (bnd34 h).1 (bnd34 h).2
  have q52 := k52 (ρ := ρ) (bnd34 h).1 (bnd34 h).2
  exact ⟨q0, ⟨q1, ⟨q2, ⟨q3, ⟨q4, ⟨q5, ⟨q6, ⟨q7, ⟨q8, ⟨q9, ⟨q10, ⟨q11, ⟨q12, ⟨q13, ⟨q14, ⟨q15, ⟨q16, ⟨q17, ⟨q18, ⟨q19, ⟨q20, ⟨q21, ⟨q22, ⟨q23, ⟨q24, ⟨q25, ⟨q26, ⟨q27, ⟨fun _ => rfl, fun _ => ⟨fun _ => rfl, fun _ => ⟨fun _ => rfl, fun _ => ⟨q51, ⟨q52, rfl⟩⟩⟩⟩⟩⟩⟩⟩⟩⟩⟩⟩⟩⟩⟩⟩⟩⟩⟩⟩⟩⟩⟩⟩⟩⟩⟩⟩⟩⟩⟩⟩⟩
theorem fit946 {ρ : Env} (h : Bnd ρ) : pl946.Fit oblT (fun _ _ => False) ρ := by
  obtain ⟨q0, q1, q2, q3, q4, q5, q6, q7, q8, q9, q10, q11, q12, q13, q14, q15, q16, q17, q18, q19, q20, q21, q22, q23, q24, q25, q26, q27⟩ := kAll h
  have q53 := k53 (ρ := ρ) (bnd25 h).1 (bnd25 h).2 (bnd34 h).1 (bnd34 h).2
  have q54 := k54 (ρ := ρ) (bnd34 h).1 (bnd34 h).2
  exact ⟨q0, ⟨q1, ⟨q2, ⟨q3, ⟨q4, ⟨q5, ⟨q6, ⟨q7, ⟨q8, ⟨q9, ⟨q10, ⟨q11, ⟨q12, ⟨q13, ⟨q14, ⟨q15, ⟨q16, ⟨q17, ⟨q18, ⟨q19, ⟨q20, ⟨q21, ⟨q22, ⟨q23, ⟨q24, ⟨q25, ⟨q26, ⟨q27, ⟨fun _ => rfl, fun _ => ⟨fun _ => rfl, fun _ => ⟨fun _ => rfl, fun _ => ⟨q53, ⟨q54, rfl⟩⟩⟩⟩⟩⟩⟩⟩⟩⟩⟩⟩⟩⟩⟩⟩⟩⟩⟩⟩⟩⟩⟩⟩⟩⟩⟩⟩⟩⟩⟩⟩⟩
theorem fit947 {ρ : Env} (h : Bnd ρ) : pl947.Fit oblT (fun _ _ => False) ρ := by
  obtain ⟨q0, q1, q2, q3, q4, q5, q6, q7, q8, q9, q10, q11, q12, q13, q14, q15, q16, q17, q18, q19, q20, q21, q22, q23, q24, q25, q26, q27⟩ := kAll h
  have q55 := k55 (ρ := ρ) (bnd26 h).1 (bnd26 h).2 (bnd34 h).1 (bnd34 h).2
  have q56 := k56 (ρ := ρ) (bnd34 h).1 (bnd34 h).2
  exact ⟨q0, ⟨q1, ⟨q2, ⟨q3, ⟨q4, ⟨q5, ⟨q6, ⟨q7, ⟨q8, ⟨q9, ⟨q10, ⟨q11, ⟨q12, ⟨q13, ⟨q14, ⟨q15, ⟨q16, ⟨q17, ⟨q18, ⟨q19, ⟨q20, ⟨q21, ⟨q22, ⟨q23, ⟨q24, ⟨q25, ⟨q26, ⟨q27, ⟨fun _ => rfl, fun _ => ⟨fun _ => rfl, fun _ => ⟨fun _ => rfl, fun _ => ⟨q55, ⟨q56, rfl⟩⟩⟩⟩⟩⟩⟩⟩⟩⟩⟩⟩⟩⟩⟩⟩⟩⟩⟩⟩⟩⟩⟩⟩⟩⟩⟩⟩⟩⟩⟩⟩⟩
theorem fit948 {ρ : Env} (h : Bnd ρ) : pl948.Fit oblT (fun _ _ => False) ρ := by
  obtain ⟨q0, q1, q2, q3, q4, q5, q6, q7, q8, q9, q10, q11, q12, q13, q14, q15, q16, q17, q18, q19, q20, q21, q22, q23, q24, q25, q26, q27⟩ := kAll h
  have q57 := k57 (ρ := ρ) (bnd27 h).1 (bnd27 h).2 (bnd34 h).1 (bnd34 h).2
  have q58 := k58 (ρ := ρ) (bnd34 h).1 (bnd34 h).2
  exact ⟨q0, ⟨q1, ⟨q2, ⟨q3, ⟨q4, ⟨q5, ⟨q6, ⟨q7, ⟨q8, ⟨q9, ⟨q10, ⟨q11, ⟨q12, ⟨q13, ⟨q14, ⟨q15, ⟨q16, ⟨q17, ⟨q18, ⟨q19, ⟨q20, ⟨q21, ⟨q22, ⟨q23, ⟨q24, ⟨q25, ⟨q26, ⟨q27, ⟨fun _ => rfl, fun _ => ⟨fun _ => rfl, fun _ => ⟨fun _ => rfl, fun _ => ⟨q57, ⟨q58, rfl⟩⟩⟩⟩⟩⟩⟩⟩⟩⟩⟩⟩⟩⟩⟩⟩⟩⟩⟩⟩⟩⟩⟩⟩⟩⟩⟩⟩⟩⟩⟩⟩⟩
theorem fit949 {ρ : Env} (h : Bnd ρ) : pl949.Fit oblT (fun _ _ => False) ρ := by
  obtain ⟨q0, q1, q2, q3, q4, q5, q6, q7, q8, q9, q10, q11, q12, q13, q14, q15, q16, q17, q18, q19, q20, q21, q22, q23, q24, q25, q26, q27⟩ := kAll h
  have q59 := k59 (ρ := ρ) (bnd28 h).1 (bnd28 h).2 (bnd34 h).1 (bnd34 h).2
  have q60 := k60 (ρ := ρ) (bnd34 h).1 (bnd34 h).2
  exact ⟨q0, ⟨q1, ⟨q2, ⟨q3, ⟨q4, ⟨q5, ⟨q6, ⟨q7, ⟨q8, ⟨q9, ⟨q10, ⟨q11, ⟨q12, ⟨q13, ⟨q14, ⟨q15, ⟨q16, ⟨q17, ⟨q18, ⟨q19, ⟨q20, ⟨q21, ⟨q22, ⟨q23, ⟨q24, ⟨q25, ⟨q26, ⟨q27, ⟨fun _ => rfl, fun _ => ⟨fun _ => rfl, fun _ => ⟨fun _ => rfl, fun _ => ⟨q59, ⟨q60, rfl⟩⟩⟩⟩⟩⟩⟩⟩⟩⟩⟩⟩⟩⟩⟩⟩⟩⟩⟩⟩⟩⟩⟩⟩⟩⟩⟩⟩⟩⟩⟩⟩⟩
theorem fit950 {ρ : Env} (h : Bnd ρ) : pl950.Fit oblT (fun _ _ => False) ρ := by
  obtain ⟨q0, q1, q2, q3, q4, q5, q6, q7, q8, q9, q10, q11, q12, q13, q14, q15, q16, q17, q18, q19, q20, q21, q22, q23, q24, q25, q26, q27⟩ := kAll h
  have q61 := k61 (ρ := ρ) (bnd29 h).1 (bnd29 h).2 (bnd34 h).1 (bnd34 h).2
  have q62 := k62 (ρ := ρ) (bnd34 h).1 (bnd34 h).2
  exact ⟨q0, ⟨q1, ⟨q2, ⟨q3, ⟨q4, ⟨q5, ⟨q6, ⟨q7, ⟨q8, ⟨q9, ⟨q10, ⟨q11, ⟨q12, ⟨q13, ⟨q14, ⟨q15, ⟨q16, ⟨q17, ⟨q18, ⟨q19, ⟨q20, ⟨q21, ⟨q22, ⟨q23, ⟨q24, ⟨q25, ⟨q26, ⟨q27, ⟨fun _ => rfl, fun _ => ⟨fun _ => rfl, fun _ => ⟨fun _ => rfl, fun _ => ⟨q61, ⟨q62, rfl⟩⟩⟩⟩⟩⟩⟩⟩⟩⟩⟩⟩⟩⟩⟩⟩⟩⟩⟩⟩⟩⟩⟩⟩⟩⟩⟩⟩⟩⟩⟩⟩⟩
theorem fit951 {ρ : Env} (h : Bnd ρ) : pl951.Fit oblT (fun _ _ => False) ρ := by
  obtain ⟨q0, q1, q2, q3, q4, q5, q6, q7, q8, q9, q10, q11, q12, q13, q14, q15, q16, q17, q18, q19, q20, q21, q22, q23, q24, q25, q26, q27⟩ := kAll h
  have q63 := k63 (ρ := ρ) (bnd30 h).1 (bnd30 h).2 (bnd34 h).1 (bnd34 h).2
  have q64 := k64 (ρ := ρ) (bnd34 h).1 (bnd34 h).2
  exact ⟨q0, ⟨q1, ⟨q2, ⟨q3, ⟨q4, ⟨q5, ⟨q6, ⟨q7, ⟨q8, ⟨q9, ⟨q10, ⟨q11, ⟨q12, ⟨q13, ⟨q14, ⟨q15, ⟨q16, ⟨q17, ⟨q18, ⟨q19, ⟨q20, ⟨q21, ⟨q22, ⟨q23, ⟨q24, ⟨q25, ⟨q26, ⟨q27, ⟨fun _ => rfl, fun _ => ⟨fun _ => rfl, fun _ => ⟨fun _ => rfl, fun _ => ⟨q63, ⟨q64, rfl⟩⟩⟩⟩⟩⟩⟩⟩⟩⟩⟩⟩⟩⟩⟩⟩⟩⟩⟩⟩⟩⟩⟩⟩⟩⟩⟩⟩⟩⟩⟩⟩⟩
theorem fitN {ρ : Env} (h : Bnd ρ) : plN.Fit oblT (fun _ _ => False) ρ := by
  obtain ⟨q0, q1, q2, q3, q4, q5, q6, q7, q8, q9, q10, q11, q12, q13, q14, q15, q16, q17, q18, q19, q20, q21, q22, q23, q24, q25, q26, q27⟩ := kAll h
  exact ⟨q0, ⟨q1, ⟨q2, ⟨q3, ⟨q4, ⟨q5, ⟨q6, ⟨q7, ⟨q8, ⟨q9, ⟨q10, ⟨q11, ⟨q12, ⟨q13, ⟨q14, ⟨q15, ⟨q16, ⟨q17, ⟨q18, ⟨q19, ⟨q20, ⟨q21, ⟨q22, ⟨q23, ⟨q24, ⟨q25, ⟨q26, ⟨q27, rfl⟩⟩⟩⟩⟩⟩⟩⟩⟩⟩⟩⟩⟩⟩⟩⟩⟩⟩⟩⟩⟩⟩⟩⟩⟩⟩⟩⟩
theorem law1 : LawS Tryd.prog 6 sh0 := by
  refine ⟨fun _ => True, fun _ => ⟨fun _ => .I 0, trivial⟩, fun ρ m w vs _ hb hvs hH hf => ?_⟩
  by_cases h256 : (ρ.v 31).int = 256
  · exact at_ (argsAt 31 256 args0) F0 pl256 (of_decide_eq_true (by kernel_rfl)) r256 rfl ρ (F0_ok hb) (fit256 hb) m w vs (argsAt_R h256 okArgs hvs) hH hf
  by_cases h260 : (ρ.v 31).int = 260
  · exact at_ (argsAt 31 260 args0) F0 pl260 (of_decide_eq_true (by kernel_rfl)) r260 rfl ρ (F0_ok hb) (fit260 hb) m w vs (argsAt_R h260 okArgs hvs) hH hf
  by_cases h261 : (ρ.v 31).int = 261
  · exact at_ (argsAt 31 261 args0) F0 pl261 (of_decide_eq_true (by kernel_rfl)) r261 rfl ρ (F0_ok hb) (fit261 hb) m w vs (argsAt_R h261 okArgs hvs) hH hf
  by_cases h262 : (ρ.v 31).int = 262
  · exact at_ (argsAt 31 262 args0) F0 pl262 (of_decide_eq_true (by kernel_rfl)) r262 rfl ρ (F0_ok hb) (fit262 hb) m w vs (argsAt_R h262 okArgs hvs) hH hf
  by_cases h320 : (ρ.v 31).int = 320
  · exact at_ (argsAt 31 320 args0) F0 pl320 (of_decide_eq_true (by kernel_rfl)) r320 rfl ρ (F0_ok hb) (fit320 hb) m w vs (argsAt_R h320 okArgs hvs) hH hf
  by_cases h321 : (ρ.v 31).int = 321
  · exact at_ (argsAt 31 321 args0) F0 pl321 (of_decide_eq_true (by kernel_rfl)) r321 rfl ρ (F0_ok hb) (fit321 hb) m w vs (argsAt_R h321 okArgs hvs) hH hf
  by_cases h322 : (ρ.v 31).int = 322
  · exact at_ (argsAt 31 322 args0) F0 pl322 (of_decide_eq_true (by kernel_rfl)) r322 rfl ρ (F0_ok hb) (fit322 hb) m w vs (argsAt_R h322 okArgs hvs) hH hf
  by_cases h323 : (ρ.v 31).int = 323
  · exact at_ (argsAt 31 323 args0) F0 pl323 (of_decide_eq_true (by kernel_rfl)) r323 rfl ρ (F0_ok hb) (fit323 hb) m w vs (argsAt_R h323 okArgs hvs) hH hf
  by_cases h324 : (ρ.v 31).int = 324
  · exact at_ (argsAt 31 324 args0) F0 pl324 (of_decide_eq_true (by kernel_rfl)) r324 rfl ρ (F0_ok hb) (fit324 hb) m w vs (argsAt_R h324 okArgs hvs) hH hf
  by_cases h384 : (ρ.v 31).int = 384
  · exact at_ (argsAt 31 384 args0) F0 pl384 (of_decide_eq_true (by kernel_rfl)) r384 rfl ρ (F0_ok hb) (fit384 hb) m w vs (argsAt_R h384 okArgs hvs) hH hf
  by_cases h3072 : (ρ.v 31).int = 3072
  · exact at_ (argsAt 31 3072 args0) F0 pl3072 (of_decide_eq_true (by kernel_rfl)) r3072 rfl ρ (F0_ok hb) (fit3072 hb) m w vs (argsAt_R h3072 okArgs hvs) hH hf
  by_cases h3073 : (ρ.v 31).int = 3073
  · exact at_ (argsAt 31 3073 args0) F0 pl3073 (of_decide_eq_true (by kernel_rfl)) r3073 rfl ρ (F0_ok hb) (fit3073 hb) m w vs (argsAt_R h3073 okArgs hvs) hH hf
  by_cases h3074 : (ρ.v 31).int = 3074
  · exact at_ (argsAt 31 3074 args0) F0 pl3074 (of_decide_eq_true (by kernel_rfl)) r3074 rfl ρ (F0_ok hb) (fit3074 hb) m w vs (argsAt_R h3074 okArgs hvs) hH hf
  by_cases h768 : (ρ.v 31).int = 768
  · exact at_ (argsAt 31 768 args0) F0 pl768 (of_decide_eq_true (by kernel_rfl)) r768 rfl ρ (F0_ok hb) (fit768 hb) m w vs (argsAt_R h768 okArgs hvs) hH hf
  by_cases h769 : (ρ.v 31).int = 769
  · exact at_ (argsAt 31 769 args0) F0 pl769 (of_decide_eq_true (by kernel_rfl)) r769 rfl ρ (F0_ok hb) (fit769 hb) m w vs (argsAt_R h769 okArgs hvs) hH hf
  by_cases h770 : (ρ.v 31).int = 770
  · exact at_ (argsAt 31 770 args0) F0 pl770 (of_decide_eq_true (by kernel_rfl)) r770 rfl ρ (F0_ok hb) (fit770 hb) m w vs (argsAt_R h770 okArgs hvs) hH hf
  by_cases h771 : (ρ.v 31).int = 771
  · exact at_ (argsAt 31 771 args0) F0 pl771 (of_decide_eq_true (by kernel_rfl)) r771 rfl ρ (F0_ok hb) (fit771 hb) m w vs (argsAt_R h771 okArgs hvs) hH hf
  by_cases h772 : (ρ.v 31).int = 772
  · exact at_ (argsAt 31 772 args0) F0 pl772 (of_decide_eq_true (by kernel_rfl)) r772 rfl ρ (F0_ok hb) (fit772 hb) m w vs (argsAt_R h772 okArgs hvs) hH hf
  by_cases h773 : (ρ.v 31).int = 773
  · exact at_ (argsAt 31 773 args0) F0 pl773 (of_decide_eq_true (by kernel_rfl)) r773 rfl ρ (F0_ok hb) (fit773 hb) m w vs (argsAt_R h773 okArgs hvs) hH hf
  by_cases h774 : (ρ.v 31).int = 774
  · exact at_ (argsAt 31 774 args0) F0 pl774 (of_decide_eq_true (by kernel_rfl)) r774 rfl ρ (F0_ok hb) (fit774 hb) m w vs (argsAt_R h774 okArgs hvs) hH hf
  by_cases h832 : (ρ.v 31).int = 832
  · exact at_ (argsAt 31 832 args0) F0 pl832 (of_decide_eq_true (by kernel_rfl)) r832 rfl ρ (F0_ok hb) (fit832 hb) m w vs (argsAt_R h832 okArgs hvs) hH hf
  by_cases h833 : (ρ.v 31).int = 833
  · exact at_ (argsAt 31 833 args0) F0 pl833 (of_decide_eq_true (by kernel_rfl)) r833 rfl ρ (F0_ok hb) (fit833 hb) m w vs (argsAt_R h833 okArgs hvs) hH hf
  by_cases h834 : (ρ.v 31).int = 834
  · exact at_ (argsAt 31 834 args0) F0 pl834 (of_decide_eq_true (by kernel_rfl)) r834 rfl ρ (F0_ok hb) (fit834 hb) m w vs (argsAt_R h834 okArgs hvs) hH hf
  by_cases h835 : (ρ.v 31).int = 835
  · exact at_ (argsAt 31 835 args0) F0 pl835 (of_decide_eq_true (by kernel_rfl)) r835 rfl ρ (F0_ok hb) (fit835 hb) m w vs (argsAt_R h835 okArgs hvs) hH hf
  by_cases h836 : (ρ.v 31).int = 836
  · exact at_ (argsAt 31 836 args0) F0 pl836 (of_decide_eq_true (by kernel_rfl)) r836 rfl ρ (F0_ok hb) (fit836 hb) m w vs (argsAt_R h836 okArgs hvs) hH hf
  by_cases h928 : (ρ.v 31).int = 928
  · exact at_ (argsAt 31 928 args0) F0 pl928 (of_decide_eq_true (by kernel_rfl)) r928 rfl ρ (F0_ok hb) (fit928 hb) m w vs (argsAt_R h928 okArgs hvs) hH hf
  by_cases h2816 : (ρ.v 31).int = 2816
  · exact at_ (argsAt 31 2816 args0) F0 pl2816 (of_decide_eq_true (by kernel_rfl)) r2816 rfl ρ (F0_ok hb) (fit2816 hb) m w vs (argsAt_R h2816 okArgs hvs) hH hf
  by_cases h2818 : (ρ.v 31).int = 2818
  · exact at_ (argsAt 31 2818 args0) F0 pl2818 (of_decide_eq_true (by kernel_rfl)) r2818 rfl ρ (F0_ok hb) (fit2818 hb) m w vs (argsAt_R h2818 okArgs hvs) hH hf
  by_cases h3857 : (ρ.v 31).int = 3857
  · exact at_ (argsAt 31 3857 args0) F0 pl3857 (of_decide_eq_true (by kernel_rfl)) r3857 rfl ρ (F0_ok hb) (fit3857 hb) m w vs (argsAt_R h3857 okArgs hvs) hH hf
  by_cases h3858 : (ρ.v 31).int = 3858
  · exact at_ (argsAt 31 3858 args0) F0 pl3858 (of_decide_eq_true (by kernel_rfl)) r3858 rfl ρ (F0_ok hb) (fit3858 hb) m w vs (argsAt_R h3858 okArgs hvs) hH hf
  by_cases h3859 : (ρ.v 31).int = 3859
  · exact at_ (argsAt 31 3859 args0) F0 pl3859 (of_decide_eq_true (by kernel_rfl)) r3859 rfl ρ (F0_ok hb) (fit3859 hb) m w vs (argsAt_R h3859 okArgs hvs) hH hf
  by_cases h3860 : (ρ.v 31).int = 3860
  · exact at_ (argsAt 31 3860 args0) F0 pl3860 (of_decide_eq_true (by kernel_rfl)) r3860 rfl ρ (F0_ok hb) (fit3860 hb) m w vs (argsAt_R h3860 okArgs hvs) hH hf
  by_cases h944 : (ρ.v 31).int = 944
  · exact at_ (argsAt 31 944 args0) F0 pl944 (of_decide_eq_true (by kernel_rfl)) r944 rfl ρ (F0_ok hb) (fit944 hb) m w vs (argsAt_R h944 okArgs hvs) hH hf
  by_cases h945 : (ρ.v 31).int = 945
  · exact at_ (argsAt 31 945 args0) F0 pl945 (of_decide_eq_true (by kernel_rfl)) r945 rfl ρ (F0_ok hb) (fit945 hb) m w vs (argsAt_R h945 okArgs hvs) hH hf
  by_cases h946 : (ρ.v 31).int = 946
  · exact at_ (argsAt 31 946 args0) F0 pl946 (of_decide_eq_true (by kernel_rfl)) r946 rfl ρ (F0_ok hb) (fit946 hb) m w vs (argsAt_R h946 okArgs hvs) hH hf
  by_cases h947 : (ρ.v 31).int = 947
  · exact at_ (argsAt 31 947 args0) F0 pl947 (of_decide_eq_true (by kernel_rfl)) r947 rfl ρ (F0_ok hb) (fit947 hb) m w vs (argsAt_R h947 okArgs hvs) hH hf
  by_cases h948 : (ρ.v 31).int = 948
  · exact at_ (argsAt 31 948 args0) F0 pl948 (of_decide_eq_true (by kernel_rfl)) r948 rfl ρ (F0_ok hb) (fit948 hb) m w vs (argsAt_R h948 okArgs hvs) hH hf
  by_cases h949 : (ρ.v 31).int = 949
  · exact at_ (argsAt 31 949 args0) F0 pl949 (of_decide_eq_true (by kernel_rfl)) r949 rfl ρ (F0_ok hb) (fit949 hb) m w vs (argsAt_R h949 okArgs hvs) hH hf
  by_cases h950 : (ρ.v 31).int = 950
  · exact at_ (argsAt 31 950 args0) F0 pl950 (of_decide_eq_true (by kernel_rfl)) r950 rfl ρ (F0_ok hb) (fit950 hb) m w vs (argsAt_R h950 okArgs hvs) hH hf
  by_cases h951 : (ρ.v 31).int = 951
  · exact at_ (argsAt 31 951 args0) F0 pl951 (of_decide_eq_true (by kernel_rfl)) r951 rfl ρ (F0_ok hb) (fit951 hb) m w vs (argsAt_R h951 okArgs hvs) hH hf
  have hk : ∀ k ∈ keys, (ρ.v 31).int ≠ k := by
    simp only [keys, List.forall_mem_cons, List.not_mem_nil, false_implies, implies_true, and_true]
    exact ⟨h256, h260, h261, h262, h320, h321, h322, h323, h324, h384, h3072, h3073, h3074, h768, h769, h770, h771, h772, h773, h774, h832, h833, h834, h835, h836, h928, h2816, h2818, h3857, h3858, h3859, h3860, h944, h945, h946, h947, h948, h949, h950, h951⟩
  exact at_ args0 FN plN (of_decide_eq_true (by kernel_rfl)) rN rfl ρ (FN_ok hb hk) (fitN hb) m w vs hvs hH hf

noncomputable def laidWorld (os : Os) : World := laidW Tryd.prog os [(0, Rows.laid_internal_strconv_uint64pow10), (1, Rows.laid_math_bits_deBruijn32tab), (2, Rows.laid_math_bits_deBruijn64tab)]
theorem laid_met (os : Os) (args : Array Value) : laidMet Tryd.prog Rows.csrKeepsRow.laid ((laidWorld os).forCall (fun _ _ => 0) ⟨#[], args, []⟩).memory :=
  laidMet_of_run' 8 (by kernel_rfl) (by kernel_rfl)

theorem lifted (os : Os) (started : os.Started) (H : Type) (enc : TypeId × Value → H) :
    ReturnsInHanded {} Tryd.checked os 6 .any (fun w args => (Rows.csrKeepsSpec.pre enc Tryd.prog Tryd.f6 [] false w args ∧ laidMet Tryd.prog Rows.csrKeepsRow.laid w) ∧ sizedMet enc Tryd.prog Tryd.f6 (OpenSpec.ofChange Rows.csrKeepsSpec) false w args)
      (Rows.csrKeepsSpec.post enc Tryd.prog Tryd.f6 false true false false) :=
  lifted_laid (C := Tryd.checked) (s := Rows.csrKeepsSpec) own laidOut started (by kernel_rfl) Tryd.func6
    (ChangeSpec.witness_at (enc := enc) (C := Tryd.checked) (os := os) (X := fun w _ => laidMet Tryd.prog Rows.csrKeepsRow.laid w) false (laidWorld os) #[.agg (Array.replicate 31 (.int .u64 0)), .agg #[.int .u16 0, .int .u8 0, .int .u64 0, .int .u64 0]] 8 rfl (by kernel_rfl) (by kernel_rfl) (by kernel_rfl) (by kernel_rfl) (by kernel_rfl) (laid_met os _))
    (by kernel_rfl) rfl Tryd.underlying4 rfl (fun ds hl => by rcases ds with _ | ⟨a, _ | ⟨b, _ | ⟨c, ds⟩⟩⟩ <;> first | rfl | cases hl) (by kernel_rfl) (fun sh hsh => by
      change sh ∈ allSh Tryd.prog Tryd.f6.params.toList at hsh
      rw [shapes] at hsh
      obtain rfl := List.mem_singleton.1 hsh
      exact law1)

theorem row_holds : Rows.CsrKeepsSaid :=
  OpenClaim.holds_of_wide 6 Tryd.f6 rfl rfl rfl rfl rfl rfl rfl ⟨rfl, rfl, rfl, rfl, rfl⟩ rfl rfl rfl rfl rfl (by kernel_rfl) Tryd.func6 (by kernel_rfl)
    (of_decide_eq_true (by kernel_rfl)) (by unfold Func.isWrapper; first | (rw [if_pos (by decide +kernel)]; kernel_rfl) | (rw [if_neg (by decide +kernel)]; exact ⟨rfl, rfl⟩))
    (fun os started H enc _ => lifted os started H enc)

theorem card_holds : Rows.CsrKeepsCardSaid :=
  Claim7.holds_tied_plain_at .later [] [.data, .data, .data] true (true, "6f6159bc4e4295399c46c7e777cd8a3a1ca9935b0d08bb4fdf293bdaa6a63570") false
    row_holds (fun _ h => by cases h) (by kernel_rfl) (fun _ h => by cases h) csrKeeps_row_tie rfl ⟨rfl, rfl⟩ (by kernel_rfl) rfl
    (fun f fn hf hfn => by
      obtain rfl : f = 6 := Option.some.inj ((show Tryd.prog.funcNamed Rows.csrKeepsRow.func = some 6 by kernel_rfl).symm.trans hf) |>.symm
      obtain rfl : fn = Tryd.f6 := (Option.some.inj (Tryd.func6.symm.trans hfn)).symm
      refine ⟨by kernel_rfl, fun j t ht => ?_⟩
      rw [show Tryd.f6.params = #[25, 28] by kernel_rfl] at ht
      have h25 : Tryd.prog.wantsStandIn 25 = false := by kernel_rfl
      have h28 : Tryd.prog.wantsStandIn 28 = false := by kernel_rfl
      rcases j with _ | _ | j
      · obtain rfl : 25 = t := by simpa using ht
        exact h25
      · obtain rfl : 28 = t := by simpa using ht
        exact h28
      · simp at ht)
    (by kernel_rfl)
#print axioms card_holds
end Go.Proofs.YtdffbokmgdcjaaaDoor.CsrKeepsDone
