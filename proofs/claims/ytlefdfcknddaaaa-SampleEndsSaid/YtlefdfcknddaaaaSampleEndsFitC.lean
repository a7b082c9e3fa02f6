/- What holds at the heads of the loop of the law SampleEnds. -/
import Derived.Test.YtlefdfcknddaaaaSampleEndsRunC
namespace Go.Proofs.Ytlefdfcknddaaaa.SampleEndsDone
open Go.Eng Go.RowKit Go.ChangeShapes Go.WideShapes Go.ChangeAt

theorem Γf_ok (F : Facts) (hF : F.sem = S) : ΓOk Try.prog F Γf := by
  intro f c hc
  unfold Γf Γ1 at hc
  split at hc
  · rename_i e
    cases hc
    subst e
    refine fun args h n r hr => readC_ok (fun ρ hok m w vs hvs hH hf => ?_) 9 args h n r hr
    have hs : S ρ := by have := hok.sem; rw [hF] at this; exact this
    refine (Few.few_calls _ _ w vs hvs hH hf).mono fun e w' ⟨he, hb⟩ => ⟨_, he, ?_, hb⟩
    simp only [DV.R, E.ev]
    rw [show (ρ.v 900).bool = _ from hs]
    rfl
  · cases hc

theorem S_ex (ρ : Env) : ∃ x : Nat → Sc, S { v := fun i => if i < 900 then ρ.v i else x i } := ⟨fun _ => .B (Few.fewS (ρ.v 4) (ρ.v 5).int), rfl⟩

/-- What holds at the head of the loop: an end that there is not, or that nothing was written for, is not fresh. -/
structure L (v : Nat → Sc) : Prop where
  i0 : 0 ≤ (v 1000).int
  i1 : (v 1000).int ≤ 9223372036854775807
  t0 : 0 ≤ (v 1003).int
  t1 : (v 1003).int ≤ 18446744073709551615
  f0 : (v 1001).bool = false ∨ (v 2).int ≤ 0 → (v 1019).bool = false
  f1 : (v 1001).bool = false ∨ (v 2).int ≤ 1 → (v 1018).bool = false
  f2 : (v 1001).bool = false ∨ (v 2).int ≤ 2 → (v 1017).bool = false
  f3 : (v 1001).bool = false ∨ (v 2).int ≤ 3 → (v 1016).bool = false
  f4 : (v 1001).bool = false ∨ (v 2).int ≤ 4 → (v 1015).bool = false
  f5 : (v 1001).bool = false ∨ (v 2).int ≤ 5 → (v 1014).bool = false
  f6 : (v 1001).bool = false ∨ (v 2).int ≤ 6 → (v 1013).bool = false
  f7 : (v 1001).bool = false ∨ (v 2).int ≤ 7 → (v 1012).bool = false
  f8 : (v 1001).bool = false ∨ (v 2).int ≤ 8 → (v 1011).bool = false
  f9 : (v 1001).bool = false ∨ (v 2).int ≤ 9 → (v 1010).bool = false
  f10 : (v 1001).bool = false ∨ (v 2).int ≤ 10 → (v 1009).bool = false
  f11 : (v 1001).bool = false ∨ (v 2).int ≤ 11 → (v 1008).bool = false
  f12 : (v 1001).bool = false ∨ (v 2).int ≤ 12 → (v 1007).bool = false
  f13 : (v 1001).bool = false ∨ (v 2).int ≤ 13 → (v 1006).bool = false
  f14 : (v 1001).bool = false ∨ (v 2).int ≤ 14 → (v 1005).bool = false
  f15 : (v 1001).bool = false ∨ (v 2).int ≤ 15 → (v 1004).bool = false

def Inv (j : Nat) (ρ : Env) : Prop := j = 0 ∧ consts0.ok ρ ∧ L ρ.v
def mu (_ : Nat) (ρ : Env) : Nat := (9223372036854775807 - (ρ.v 1000).int).toNat

theorem bnds2 : shB Try.prog sh2 0 = [((.vr 0), -9223372036854775808, 9223372036854775807), ((.vr 1), 0, 4294967295), ((.vr 2), -9223372036854775808, 9223372036854775807), ((.vr 5), 1, 9223372036854775807), ((.vr 6), 1, 9223372036854775807)] := by kernel_rfl
theorem rng2 : (E.vr 2).rng consts0 = (some 1, some 16) := by kernel_rfl
theorem rng5 : (E.vr 5).rng consts0 = (some 1, some 9223372036854775807) := by kernel_rfl

theorem facts_ok {ρ : Env} (hC : consts0.ok ρ) (h : L ρ.v) : facts0.ok ρ := by
  refine Facts.join_ok hC ⟨by simp [loopF0], fun p hp => ?_, by simp [loopF0], trivial⟩
  simp only [loopF0, List.mem_cons, List.not_mem_nil, or_false] at hp
  rcases hp with rfl | rfl
  · exact ⟨h.i0, h.i1⟩
  · exact ⟨h.t0, h.t1⟩

theorem c3_rng (ρ : Env) : 0 ≤ (c3.ev ρ).int ∧ (c3.ev ρ).int ≤ 18446744073709551615 := by
  have := wrap_rng .u64 (((E.bi .cell (.vr 4) (.bi .add (.bi .mul (.vr 1000) (.li 4)) (.li 1))).ev ρ).int)
  exact this

theorem S_upd {σ : List (Nat × E)} (hσ : (σ.all fun p => decide (1000 ≤ p.1)) = true) (ρ : Env) (h : S ρ) : S (ρ.upd (T.ofList σ)) := by
  have e : ∀ n, n < 1000 → (ρ.upd (T.ofList σ)).v n = ρ.v n := fun n hn => under_upd hσ ρ (e := .vr n) (by simp only [E.under, decide_eq_true_eq]; exact hn)
  unfold S
  rw [e 900 (by omega), e 4 (by omega), e 5 (by omega)]
  exact h

set_option maxHeartbeats 4000000 in
theorem fit1 (ρ : Env) (h : Inv 0 ρ) : plan1.Fit oblT (fun j' ρ' => Inv j' ρ' ∧ mu j' ρ' < mu 0 ρ) ρ := by
  obtain ⟨_, hC, hL⟩ := h
  have h5 := rng_of hC rng5
  have h2 := rng_of hC rng2
  have hc3 := c3_rng ρ
  have hU : ∀ σ : List (Nat × E), (σ.all fun p => decide (1000 ≤ p.1)) = true → consts0.ok (ρ.upd (T.ofList σ)) := fun σ hσ => Facts.ok_upd hC (N := 1000) (by kernel_rfl) hσ (S_upd hσ ρ)
  clear hC
  obtain ⟨i0, i1, t0, t1, f0, f1, f2, f3, f4, f5, f6, f7, f8, f9, f10, f11, f12, f13, f14, f15⟩ := hL
  simp only [ev_vr] at h5 h2
  simp only [plan1, PL.Fit, oblT, Inv, ev_vr, ev_li, ev_lb, ev_add, ev_lt, ev_ltf, ev_eqi, ev_eqif, ev_eqb, ev_eqbf]
  repeat' first | refine ⟨fun _ => ?_, fun _ => ?_⟩ | exact True.intro | exact rfl | refine ⟨f0 (by first | exact Or.inl (by assumption) | exact Or.inr (by omega)), ?_⟩ | refine ⟨f1 (by first | exact Or.inl (by assumption) | exact Or.inr (by omega)), ?_⟩ | refine ⟨f2 (by first | exact Or.inl (by assumption) | exact Or.inr (by omega)), ?_⟩ | refine ⟨f3 (by first | exact Or.inl (by assumption) | exact Or.inr (by omega)), ?_⟩ | refine ⟨f4 (by first | exact Or.inl (by assumption) | exact Or.inr (by omega)), ?_⟩ | refine ⟨f5 (by first | exact Or.inl (by assumption) | exact Or.inr (by omega)), ?_⟩ | refine ⟨f6 (by first | exact Or.inl (by assumption) | exact Or.inr (by omega)), ?_⟩ | refine ⟨f7 (by first | exact Or.inl (by assumption) | exact Or.inr (by omega)), ?_⟩ | refine ⟨f8 (by first | exact Or.inl (by assumption) | exact Or.inr (by omega)), ?_⟩ | refine ⟨f9 (by first | exact Or.inl (by assumption) | exact Or.inr (by omega)), ?_⟩ | refine ⟨f10 (by first | exact Or.inl (by assumption) | exact Or.inr (by omega)), ?_⟩ | refine ⟨f11 (by first | exact Or.inl (by assumption) | exact Or.inr (by omega)), ?_⟩ | refine ⟨f12 (by first | exact Or.inl (by assumption) | exact Or.inr (by omega)), ?_⟩ | refine ⟨f13 (by first | exact Or.inl (by assumption) | exact Or.inr (by omega)), ?_⟩ | refine ⟨f14 (by first | exact Or.inl (by assumption) | exact Or.inr (by omega)), ?_⟩ | refine ⟨f15 (by first | exact Or.inl (by assumption) | exact Or.inr (by omega)), ?_⟩ | fail
  all_goals refine ⟨⟨by first | exact True.intro | rfl, hU _ (by decide), ⟨?_, ?_, ?_, ?_, ?_, ?_, ?_, ?_, ?_, ?_, ?_, ?_, ?_, ?_, ?_, ?_, ?_, ?_, ?_, ?_⟩⟩, ?_⟩
  all_goals simp only [mu, upd_cons, upd_nil, reduceIte, Nat.reduceEqDiff, ev_vr, ev_li, ev_lb, ev_add, ev_lt, ev_ltf, ev_eqi, ev_eqif, ev_eqb, ev_eqbf]
  all_goals first | assumption | omega | (intro h; first | (exfalso; rcases h with h | h; (exact absurd h (by decide)); omega) | exact f0 (h.elim (fun e => absurd e (by decide)) Or.inr) | (simp only [c5, ev_ite, ite_bool, ev_lb, ev_vr]; split; exact rfl; exact f0 h) | exact f1 (h.elim (fun e => absurd e (by decide)) Or.inr) | (simp only [c6, ev_ite, ite_bool, ev_lb, ev_vr]; split; exact rfl; exact f1 h) | exact f2 (h.elim (fun e => absurd e (by decide)) Or.inr) | (simp only [c7, ev_ite, ite_bool, ev_lb, ev_vr]; split; exact rfl; exact f2 h) | exact f3 (h.elim (fun e => absurd e (by decide)) Or.inr) | (simp only [c8, ev_ite, ite_bool, ev_lb, ev_vr]; split; exact rfl; exact f3 h) | exact f4 (h.elim (fun e => absurd e (by decide)) Or.inr) | (simp only [c9, ev_ite, ite_bool, ev_lb, ev_vr]; split; exact rfl; exact f4 h) | exact f5 (h.elim (fun e => absurd e (by decide)) Or.inr) | (simp only [c10, ev_ite, ite_bool, ev_lb, ev_vr]; split; exact rfl; exact f5 h) | exact f6 (h.elim (fun e => absurd e (by decide)) Or.inr) | (simp only [c11, ev_ite, ite_bool, ev_lb, ev_vr]; split; exact rfl; exact f6 h) | exact f7 (h.elim (fun e => absurd e (by decide)) Or.inr) | (simp only [c12, ev_ite, ite_bool, ev_lb, ev_vr]; split; exact rfl; exact f7 h) | exact f8 (h.elim (fun e => absurd e (by decide)) Or.inr) | (simp only [c13, ev_ite, ite_bool, ev_lb, ev_vr]; split; exact rfl; exact f8 h) | exact f9 (h.elim (fun e => absurd e (by decide)) Or.inr) | (simp only [c14, ev_ite, ite_bool, ev_lb, ev_vr]; split; exact rfl; exact f9 h) | exact f10 (h.elim (fun e => absurd e (by decide)) Or.inr) | (simp only [c15, ev_ite, ite_bool, ev_lb, ev_vr]; split; exact rfl; exact f10 h) | exact f11 (h.elim (fun e => absurd e (by decide)) Or.inr) | (simp only [c16, ev_ite, ite_bool, ev_lb, ev_vr]; split; exact rfl; exact f11 h) | exact f12 (h.elim (fun e => absurd e (by decide)) Or.inr) | (simp only [c17, ev_ite, ite_bool, ev_lb, ev_vr]; split; exact rfl; exact f12 h) | exact f13 (h.elim (fun e => absurd e (by decide)) Or.inr) | (simp only [c18, ev_ite, ite_bool, ev_lb, ev_vr]; split; exact rfl; exact f13 h) | exact f14 (h.elim (fun e => absurd e (by decide)) Or.inr) | (simp only [c19, ev_ite, ite_bool, ev_lb, ev_vr]; split; exact rfl; exact f14 h) | exact f15 (h.elim (fun e => absurd e (by decide)) Or.inr) | (simp only [c20, ev_ite, ite_bool, ev_lb, ev_vr]; split; exact rfl; exact f15 h))

theorem fit0 (ρ : Env) (hS : S ρ) (hb : ∀ p ∈ shB Try.prog sh2 0, p.2.1 ≤ (p.1.ev ρ).int ∧ (p.1.ev ρ).int ≤ p.2.2) : plan0.Fit oblT Inv ρ := by
  rw [bnds2] at hb
  simp only [List.forall_mem_cons, List.not_mem_nil, false_implies, implies_true, and_true, ev_vr, ev_li, ev_lb, ev_add, ev_lt, ev_ltf, ev_eqi, ev_eqif, ev_eqb, ev_eqbf] at hb
  simp only [plan0, PL.Fit, oblT, Inv, ev_vr, ev_li, ev_lb, ev_add, ev_lt, ev_ltf, ev_eqi, ev_eqif, ev_eqb, ev_eqbf]
  repeat' first | refine ⟨fun _ => ?_, fun _ => ?_⟩ | exact True.intro | exact rfl | fail
  refine ⟨by first | exact True.intro | rfl, Facts.ok_upd (N := 1000) ?_ (by kernel_rfl) (by decide) (S_upd (by decide) ρ), ⟨?_, ?_, ?_, ?_, ?_, ?_, ?_, ?_, ?_, ?_, ?_, ?_, ?_, ?_, ?_, ?_, ?_, ?_, ?_, ?_⟩⟩
  · refine Facts.ok_iff.2 ⟨?_, ?_, by simp [consts0], hS⟩
    · simp only [consts0, List.forall_mem_cons, List.not_mem_nil, false_implies, implies_true, and_true, ev_vr, ev_li, ev_lb, ev_add, ev_lt, ev_ltf, ev_eqi, ev_eqif, ev_eqb, ev_eqbf]
      and_intros <;> first | assumption | omega
    · simp only [consts0, List.forall_mem_cons, List.not_mem_nil, false_implies, implies_true, and_true, ev_vr, ev_li, ev_lb, ev_add, ev_lt, ev_ltf, ev_eqi, ev_eqif, ev_eqb, ev_eqbf]
      omega
  all_goals simp only [upd_cons, upd_nil, reduceIte, Nat.reduceEqDiff, ev_vr, ev_li, ev_lb, ev_add, ev_lt, ev_ltf, ev_eqi, ev_eqif, ev_eqb, ev_eqbf]
  all_goals first | omega | (intro _; trivial)

theorem tree_fit (ρ : Env) : tree.Fit ρ := by
  simp only [tree, DT.Fit]
  repeat' first | refine ⟨fun _ => ?_, fun _ => ?_⟩ | exact True.intro

end Go.Proofs.Ytlefdfcknddaaaa.SampleEndsDone
