/- What holds at the head of the loop of the law HealthNothing. -/
import Derived.Test.YtlefdfcknddaaaaDoorHealthNothingPlanC
namespace Go.Proofs.YtlefdfcknddaaaaDoor.HealthNothingDone
open Go.Eng Go.RowKit Go.ChangeShapes Go.WideShapes Go.ChangeAt

theorem Γw_ok (F : Facts) : ΓOk Tryd.prog F Γw := by
  intro f c hc
  unfold Γw Γ1 at hc
  split at hc
  · rename_i e
    cases hc
    subst e
    refine fun args h n r hr => readC_ok (fun ρ _ m w vs hvs hH hf => ?_) 26 args h n r hr
    refine (law_cases awakeRun (fun _ _ => trivial) (ρ.upd (T.ofList [])) (m.pull id 0) w vs (by intro p hp; simp [shB] at hp) (by simpa [shDV] using hvs) (by simpa [shH] using hH) (fun id hid => hf id (Nat.zero_le _))).mono fun e w' ⟨he, hb⟩ => ⟨_, he, ?_, hb⟩
    simp only [DV.R, E.ev, Sc.bool_B]
  · cases hc

structure L (v : Nat → Sc) : Prop where
  i0 : 0 ≤ (v 1000).int
  i1 : (v 1000).int ≤ 200
  p0 : 0 ≤ (v 1001).int
  p1 : (v 1001).int ≤ 4
  r0 : 0 ≤ (v 1003).int
  r1 : (v 1003).int ≤ 255

def Inv (j : Nat) (ρ : Env) : Prop := j = 0 ∧ consts0.ok ρ ∧ L ρ.v
def mu (_ : Nat) (ρ : Env) : Nat := (201 - (ρ.v 1000).int).toNat

theorem bnds2 : shB Tryd.prog sh2 0 = [((.vr 0), 0, 255), ((.vr 1), 0, 4294967295), ((.vr 2), 0, 255), ((.vr 3), 0, 255), ((.vr 4), 0, 255), ((.vr 5), 0, 255), ((.vr 6), 0, 255), ((.vr 7), 0, 255), ((.vr 8), 0, 255), ((.vr 9), 0, 255), ((.vr 10), 0, 255), ((.vr 11), 0, 255), ((.vr 12), 0, 255), ((.vr 13), 0, 255), ((.vr 14), 0, 255), ((.vr 15), 0, 255), ((.vr 16), 0, 255), ((.vr 17), 0, 255), ((.vr 18), 0, 255), ((.vr 19), 0, 255), ((.vr 22), 1, 9223372036854775807), ((.vr 23), 1, 9223372036854775807)] := by kernel_rfl
theorem rng2 : (E.vr 2).rng consts0 = (some 0, some 255) := by kernel_rfl
theorem rng22 : (E.vr 22).rng consts0 = (some 1, some 200) := by kernel_rfl
theorem rngc1 : c1.rng consts0 = (some 0, some 4) := by kernel_rfl

theorem facts_ok {ρ : Env} (hC : consts0.ok ρ) (h : L ρ.v) : facts0.ok ρ := by
  refine Facts.join_ok hC ⟨by simp [loopF0], fun p hp => ?_, by simp [loopF0], trivial⟩
  simp only [loopF0, List.mem_cons, List.not_mem_nil, or_false] at hp
  rcases hp with rfl | rfl | rfl
  · exact ⟨h.i0, h.i1⟩
  · exact ⟨h.p0, h.p1⟩
  · exact ⟨h.r0, h.r1⟩

set_option maxHeartbeats 4000000 in
theorem fit1 (ρ : Env) (h : Inv 0 ρ) : plan1.Fit oblT (fun j' ρ' => Inv j' ρ' ∧ mu j' ρ' < mu 0 ρ) ρ := by
  obtain ⟨_, hC, hL⟩ := h
  have h2 := rng_of hC rng2
  have h22 := rng_of hC rng22
  have hc1 := rng_of hC rngc1
  have hc2 : 0 ≤ (c2.ev ρ).int ∧ (c2.ev ρ).int ≤ 4 := by
    have h0 := hL.p0
    have h1 := hL.p1
    simp only [c2, ev_ite, ite_int, ev_vr]
    split <;> omega
  have hU : ∀ σ : List (Nat × E), (σ.all fun p => decide (1000 ≤ p.1)) = true → consts0.ok (ρ.upd (T.ofList σ)) := fun σ hσ => Facts.ok_upd hC (N := 1000) (by kernel_rfl) hσ (fun _ => trivial)
  clear hC
  obtain ⟨i0, i1, p0, p1, r0, r1⟩ := hL
  simp only [ev_vr] at h2 h22
  simp only [plan1, PL.Fit, oblT, Inv, ev_vr, ev_li, ev_lb, ev_add, ev_lt, ev_ltf, ev_eqi, ev_eqif, ev_eqb, ev_eqbf]
  repeat' first | refine ⟨fun _ => ?_, fun _ => ?_⟩ | exact True.intro | exact rfl
  all_goals refine ⟨⟨by first | exact True.intro | rfl, hU _ (by decide), ⟨?_, ?_, ?_, ?_, ?_, ?_⟩⟩, ?_⟩
  all_goals simp only [mu, upd_cons, upd_nil, reduceIte, Nat.reduceEqDiff, ev_vr, ev_li, ev_lb, ev_add, ev_lt, ev_ltf, ev_eqi, ev_eqif, ev_eqb, ev_eqbf]
  all_goals first | assumption | omega

theorem fit0 (ρ : Env) (_ : True) (hb : ∀ p ∈ shB Tryd.prog sh2 0, p.2.1 ≤ (p.1.ev ρ).int ∧ (p.1.ev ρ).int ≤ p.2.2) : plan0.Fit oblT Inv ρ := by
  rw [bnds2] at hb
  simp only [List.forall_mem_cons, List.not_mem_nil, false_implies, implies_true, and_true, ev_vr, ev_li, ev_lb, ev_add, ev_lt, ev_ltf, ev_eqi, ev_eqif, ev_eqb, ev_eqbf] at hb
  simp only [plan0, PL.Fit, oblT, Inv, ev_vr, ev_li, ev_lb, ev_add, ev_lt, ev_ltf, ev_eqi, ev_eqif, ev_eqb, ev_eqbf]
  repeat' first | refine ⟨fun _ => ?_, fun _ => ?_⟩ | exact True.intro | exact rfl
  refine ⟨by first | exact True.intro | rfl, Facts.ok_upd (N := 1000) ?_ (by kernel_rfl) (by decide) (fun _ => trivial), ⟨?_, ?_, ?_, ?_, ?_, ?_⟩⟩
  · refine Facts.ok_iff.2 ⟨?_, ?_, by simp [consts0], trivial⟩
    · simp only [consts0, List.forall_mem_cons, List.not_mem_nil, false_implies, implies_true, and_true, ev_vr, ev_li, ev_lb, ev_add, ev_lt, ev_ltf, ev_eqi, ev_eqif, ev_eqb, ev_eqbf]
      and_intros <;> first | assumption | omega
    · simp only [consts0, List.forall_mem_cons, List.not_mem_nil, false_implies, implies_true, and_true, ev_vr, ev_li, ev_lb, ev_add, ev_lt, ev_ltf, ev_eqi, ev_eqif, ev_eqb, ev_eqbf]
      omega
  all_goals simp only [upd_cons, upd_nil, reduceIte, Nat.reduceEqDiff, ev_vr, ev_li, ev_lb, ev_add, ev_lt, ev_ltf, ev_eqi, ev_eqif, ev_eqb, ev_eqbf]
  all_goals omega

theorem fitE (ρ : Env) : planE.Fit oblT (fun _ _ => False) ρ := by
  simp only [planE, PL.Fit, oblT]
  repeat' first | refine ⟨fun _ => ?_, fun _ => ?_⟩ | exact True.intro | exact rfl
end Go.Proofs.YtlefdfcknddaaaaDoor.HealthNothingDone
