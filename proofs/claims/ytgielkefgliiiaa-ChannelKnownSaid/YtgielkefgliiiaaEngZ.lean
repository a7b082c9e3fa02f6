/-
  Segments of a body: from the entry, or from the head of a loop, to the head of a loop or the end; what a state is at the head of a loop.
-/
import Derived.Test.YtgielkefgliiiaaEngV
import Derived.LoopN
namespace Go.Eng
open Go.RowKit

/-! ### Substitution -/

def E.sub (σ : T E) : E → E
  | .vr n => match σ.get n with | some e => e | none => .vr n
  | .li n => .li n
  | .lb w => .lb w
  | .ls x => .ls x
  | .un o a => .un o (a.sub σ)
  | .bi o a b => .bi o (a.sub σ) (b.sub σ)
  | .tr o a b c => .tr o (a.sub σ) (b.sub σ) (c.sub σ)

def Env.upd (ρ : Env) (σ : T E) : Env := { ρ with v := fun n => match σ.get n with | some e => e.ev ρ | none => ρ.v n }

theorem E.sub_ev (σ : T E) (ρ : Env) : ∀ e : E, (e.sub σ).ev ρ = e.ev (ρ.upd σ)
  | .vr n => by
    simp only [E.sub, E.ev, Env.upd]
    cases h : σ.get n <;> simp [E.ev]
  | .li n => rfl
  | .lb w => rfl
  | .ls x => rfl
  | .un o a => by simp only [E.sub, E.ev, E.sub_ev σ ρ a]
  | .bi o a b => by simp only [E.sub, E.ev, E.sub_ev σ ρ a, E.sub_ev σ ρ b]
  | .tr o a b c => by
    simp only [E.sub, E.ev, E.sub_ev σ ρ a, E.sub_ev σ ρ b, E.sub_ev σ ρ c]
    cases o <;> rfl

def eqE (σ : T E) (e e' : E) : Bool := (e.sub σ).same e'

theorem eqE_ok {σ : T E} {e e' : E} (h : eqE σ e e' = true) (ρ : Env) : e.ev (ρ.upd σ) = e'.ev ρ := by
  rw [← E.sub_ev, E.same_eq h]

/-! ### Matching -/

def eqTerms (σ : T E) : List (E × Nat) → List (E × Nat) → Bool
  | [], [] => true
  | (e, s) :: r, (e', s') :: r' => eqE σ e e' && s == s' && eqTerms σ r r'
  | _, _ => false

theorem eqTerms_ok {σ : T E} (ρ : Env) : ∀ {l l' : List (E × Nat)}, eqTerms σ l l' = true → sumT (ρ.upd σ) l = sumT ρ l'
  | [], [], _ => rfl
  | (e, s) :: r, (e', s') :: r', h => by
    simp only [eqTerms, Bool.and_eq_true, beq_iff_eq] at h
    obtain ⟨⟨h1, rfl⟩, h3⟩ := h
    simp only [sumT, eqE_ok h1 ρ, eqTerms_ok ρ h3]
  | [], _ :: _, h => by simp [eqTerms] at h
  | _ :: _, [], h => by simp [eqTerms] at h

def eqOff (σ : T E) (o o' : Off) : Bool := o.base == o'.base && eqTerms σ o.terms o'.terms

theorem eqOff_ok {σ : T E} (ρ : Env) {o o' : Off} (h : eqOff σ o o' = true) : o.den (ρ.upd σ) = o'.den ρ := by
  simp only [eqOff, Bool.and_eq_true, beq_iff_eq] at h
  simp only [Off.den, h.1, eqTerms_ok ρ h.2]

def eqCap (σ : T E) : Cap → Cap → Bool
  | .ex e, .ex e' => eqE σ e e'
  | .own e, .own e' => eqE σ e e'
  | _, _ => false

section
variable (σ : T E) (r : Nat → Nat) (n : Nat)

mutual
def matchD : DV → DV → Bool
  | .int k e, .int k' e' => k == k' && eqE σ e e'
  | .bool e, .bool e' => eqE σ e e'
  | .str e, .str e' => eqE σ e e'
  | .ptr id o, .ptr id' o' => decide (id < n) && r id == id' && eqOff σ o o'
  | .nilp, .nilp => true
  | .gptr g off, .gptr g' off' => g == g' && off == off'
  | .slc id o len cap, .slc id' o' len' cap' => decide (id < n) && r id == id' && eqOff σ o o' && eqE σ len len' && eqCap σ cap cap'
  | .nils, .nils => true
  | .mt, .mt => true
  | .agg l, .agg l' => matchDL l l'
  | .tup l, .tup l' => matchDL l l'
  | .ifc t d, .ifc t' d' => t == t' && matchD d d'
  | .nili, .nili => true
  | .fn (.func f) a c, .fn (.func f') a' c' => f == f' && matchDL a a' && matchDL c c'
  | .nilf, .nilf => true
  | .mp id, .mp id' => decide (id < n) && r id == id'
  | .nilm, .nilm => true
  | _, _ => false
def matchDL : List DV → List DV → Bool
  | [], [] => true
  | d :: l, d' :: l' => matchD d d' && matchDL l l'
  | _, _ => false
end

def Emb.pull (m : Emb) (r : Nat → Nat) (n : Nat) : Emb := ⟨fun id => if id < n then m.ι (r id) else none, fun id => m.κ (r id)⟩

variable {σ r n}

theorem eqCap_ok {m : Emb} (ρ : Env) {id : Nat} {c c' : Cap} (h : eqCap σ c c' = true) : c.den (m.pull r n) (ρ.upd σ) id = c'.den m ρ (r id) := by
  cases c <;> cases c' <;> simp only [eqCap, Bool.false_eq_true] at h
  · simp only [Cap.den, eqE_ok h ρ]
  · simp only [Cap.den, eqE_ok h ρ, Emb.pull]

mutual
theorem matchD_ok {m : Emb} {ρ : Env} : ∀ {d d' : DV} {v : Value}, matchD σ r n d d' = true → d'.R m ρ v → d.R (m.pull r n) (ρ.upd σ) v
  | .int k e, .int k' e', v, h, hr => by
    simp only [matchD, Bool.and_eq_true, beq_iff_eq] at h
    simp only [DV.R] at hr ⊢; rw [hr, h.1, eqE_ok h.2]
  | .bool e, .bool e', v, h, hr => by
    simp only [matchD] at h
    simp only [DV.R] at hr ⊢; rw [hr, eqE_ok h]
  | .str e, .str e', v, h, hr => by
    simp only [matchD] at h
    simp only [DV.R] at hr ⊢; rw [hr, eqE_ok h]
  | .ptr id o, .ptr id' o', v, h, hr => by
    simp only [matchD, Bool.and_eq_true, beq_iff_eq, decide_eq_true_eq] at h
    simp only [DV.R] at hr ⊢
    obtain ⟨b, hb, hv⟩ := hr
    obtain ⟨⟨h1, h2⟩, h3⟩ := h
    exact ⟨b, by simp only [Emb.pull, h1, if_true, h2]; exact hb, by rw [eqOff_ok ρ h3]; exact hv⟩
  | .nilp, .nilp, v, h, hr => hr
  | .gptr g off, .gptr g' off', v, h, hr => by
    simp only [matchD, Bool.and_eq_true, beq_iff_eq] at h
    simp only [DV.R] at hr ⊢; rw [hr, h.1, h.2]
  | .slc id o len cap, .slc id' o' len' cap', v, h, hr => by
    simp only [matchD, Bool.and_eq_true, beq_iff_eq, decide_eq_true_eq] at h
    simp only [DV.R] at hr ⊢
    obtain ⟨b, hb, hv, h0, hc⟩ := hr
    obtain ⟨⟨⟨⟨h1, h2⟩, h3⟩, h4⟩, h5⟩ := h
    subst h2
    exact ⟨b, by simp only [Emb.pull, h1, if_true]; exact hb, by rw [eqOff_ok ρ h3, eqE_ok h4, eqCap_ok ρ h5]; exact hv, by rw [eqE_ok h4]; exact h0, by rw [eqE_ok h4, eqCap_ok ρ h5]; exact hc⟩
  | .nils, .nils, v, h, hr => hr
  | .mt, .mt, v, h, hr => hr
  | .agg l, .agg l', v, h, hr => by
    simp only [matchD] at h
    simp only [DV.R] at hr ⊢
    obtain ⟨vs, hv, hl⟩ := hr
    exact ⟨vs, hv, matchDL_ok h hl⟩
  | .tup l, .tup l', v, h, hr => by
    simp only [matchD] at h
    simp only [DV.R] at hr ⊢
    obtain ⟨vs, hv, hl⟩ := hr
    exact ⟨vs, hv, matchDL_ok h hl⟩
  | .ifc t d, .ifc t' d', v, h, hr => by
    simp only [matchD, Bool.and_eq_true, beq_iff_eq] at h
    simp only [DV.R] at hr ⊢
    obtain ⟨x, hv, hl⟩ := hr
    exact ⟨x, by rw [h.1]; exact hv, matchD_ok h.2 hl⟩
  | .nili, .nili, v, h, hr => hr
  | .fn f a c, d', v, h, hr => by
    cases f <;> cases d' <;> try (simp [matchD] at h; done)
    rename_i f f' a' c'
    cases f' <;> try (simp [matchD] at h; done)
    simp only [matchD, Bool.and_eq_true, beq_iff_eq] at h
    simp only [DV.R] at hr ⊢
    obtain ⟨x, y, hv, h1, h2⟩ := hr
    exact ⟨x, y, by rw [h.1.1]; exact hv, matchDL_ok h.1.2 h1, matchDL_ok h.2 h2⟩
  | .nilf, .nilf, v, h, hr => hr
  | .mp id, .mp id', v, h, hr => by
    simp only [matchD, Bool.and_eq_true, beq_iff_eq, decide_eq_true_eq] at h
    simp only [DV.R] at hr ⊢
    obtain ⟨b, hb, hv⟩ := hr
    exact ⟨b, by simp only [Emb.pull, h.1, if_true, h.2]; exact hb, hv⟩
  | .nilm, .nilm, v, h, hr => hr
theorem matchDL_ok {m : Emb} {ρ : Env} : ∀ {l l' : List DV} {vs : List Value}, matchDL σ r n l l' = true → DV.RL m ρ l' vs → DV.RL (m.pull r n) (ρ.upd σ) l vs
  | [], [], vs, h, hr => hr
  | d :: l, d' :: l', vs, h, hr => by
    simp only [matchDL, Bool.and_eq_true] at h
    simp only [DV.RL] at hr ⊢
    obtain ⟨v, vr, hv, h1, h2⟩ := hr
    exact ⟨v, vr, hv, matchD_ok h.1 h1, matchDL_ok h.2 h2⟩
end
end
end Go.Eng
