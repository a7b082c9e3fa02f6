/-
  What expressions say: for the plain laws.
-/
import Derived.Test.YtgielkefgliiiaaEngAF
namespace Go.Eng
section
variable (ρ : Env) (a b c : E)
theorem ev_vr (n : Nat) : (E.vr n).ev ρ = ρ.v n := rfl
theorem ev_li (n : Int) : ((E.li n).ev ρ).int = n := rfl
theorem ev_lb (w : Bool) : ((E.lb w).ev ρ).bool = w := rfl
theorem ev_ls (x : ByteArray) : ((E.ls x).ev ρ).str = x := rfl
theorem ev_add : ((E.bi .add a b).ev ρ).int = (a.ev ρ).int + (b.ev ρ).int := rfl
theorem ev_sub : ((E.bi .sub a b).ev ρ).int = (a.ev ρ).int - (b.ev ρ).int := rfl
theorem ev_mul : ((E.bi .mul a b).ev ρ).int = (a.ev ρ).int * (b.ev ρ).int := rfl
theorem ev_tmod : ((E.bi .tmod a b).ev ρ).int = (a.ev ρ).int.tmod (b.ev ρ).int := rfl
theorem ev_tdiv : ((E.bi .tdiv a b).ev ρ).int = (a.ev ρ).int.tdiv (b.ev ρ).int := rfl
theorem ev_wrap (k : IntKind) : ((E.un (.wrap k) a).ev ρ).int = k.wrap (a.ev ρ).int := rfl
theorem ev_len : ((E.un .len a).ev ρ).int = (a.ev ρ).str.size := rfl
theorem ev_alen : ((E.un .alen a).ev ρ).int = (a.ev ρ).arr.length := rfl
theorem ev_lt : (((E.bi .lt a b).ev ρ).bool = true) = ((a.ev ρ).int < (b.ev ρ).int) := by simp [E.ev, B2.ev]
theorem ev_ltf : (((E.bi .lt a b).ev ρ).bool = false) = ((b.ev ρ).int ≤ (a.ev ρ).int) := by simp [E.ev, B2.ev]
theorem ev_eqi : (((E.bi .eqi a b).ev ρ).bool = true) = ((a.ev ρ).int = (b.ev ρ).int) := by simp [E.ev, B2.ev]
theorem ev_eqif : (((E.bi .eqi a b).ev ρ).bool = false) = ((a.ev ρ).int ≠ (b.ev ρ).int) := by simp [E.ev, B2.ev]
theorem ev_eqs : (((E.bi .eqs a b).ev ρ).bool = true) = ((a.ev ρ).str = (b.ev ρ).str) := by simp [E.ev, B2.ev]
theorem ev_eqsf : (((E.bi .eqs a b).ev ρ).bool = false) = ((a.ev ρ).str ≠ (b.ev ρ).str) := by simp [E.ev, B2.ev]
theorem ev_eqb : (((E.bi .eqb a b).ev ρ).bool = true) = ((a.ev ρ).bool = (b.ev ρ).bool) := by simp [E.ev, B2.ev]
theorem ev_eqbf : (((E.bi .eqb a b).ev ρ).bool = false) = ((a.ev ρ).bool ≠ (b.ev ρ).bool) := by simp [E.ev, B2.ev]
theorem ev_not : (((E.un .not a).ev ρ).bool = true) = ((a.ev ρ).bool = false) := by simp [E.ev, U.ev]
theorem ev_notf : (((E.un .not a).ev ρ).bool = false) = ((a.ev ρ).bool = true) := by simp [E.ev, U.ev]
theorem ev_and : (((E.bi .and a b).ev ρ).bool = true) = ((a.ev ρ).bool = true ∧ (b.ev ρ).bool = true) := by simp [E.ev, B2.ev]
theorem ev_andf : (((E.bi .and a b).ev ρ).bool = false) = ((a.ev ρ).bool = false ∨ (b.ev ρ).bool = false) := by
  simp only [E.ev, B2.ev, Sc.bool_B]; cases (a.ev ρ).bool <;> simp
theorem ev_or : (((E.bi .or a b).ev ρ).bool = true) = ((a.ev ρ).bool = true ∨ (b.ev ρ).bool = true) := by simp [E.ev, B2.ev]
theorem ev_orf : (((E.bi .or a b).ev ρ).bool = false) = ((a.ev ρ).bool = false ∧ (b.ev ρ).bool = false) := by simp [E.ev, B2.ev]
theorem ev_ite : (E.tr .ite a b c).ev ρ = if (a.ev ρ).bool = true then b.ev ρ else c.ev ρ := rfl
theorem ite_int (p : Prop) [Decidable p] (x y : Sc) : (if p then x else y).int = if p then x.int else y.int := by split <;> rfl
theorem ite_bool (p : Prop) [Decidable p] (x y : Sc) : (if p then x else y).bool = if p then x.bool else y.bool := by split <;> rfl
theorem ite_str (p : Prop) [Decidable p] (x y : Sc) : (if p then x else y).str = if p then x.str else y.str := by split <;> rfl
end

/-- Only variables below N. -/
def E.under (N : Nat) : E → Bool
  | .vr n => decide (n < N)
  | .li _ => true
  | .lb _ => true
  | .ls _ => true
  | .un _ a => a.under N
  | .bi _ a b => a.under N && b.under N
  | .tr _ a b c => a.under N && b.under N && c.under N

theorem ofList_ge {N : Nat} : ∀ {σ : List (Nat × E)}, (σ.all fun p => decide (N ≤ p.1)) = true → ∀ n, n < N → (T.ofList σ).get n = none
  | [], _, n, _ => rfl
  | (k, e) :: r, h, n, hn => by
    simp only [List.all_cons, Bool.and_eq_true, decide_eq_true_eq] at h
    simp only [T.ofList, T.get_set]
    rw [if_neg (by omega), ofList_ge h.2 n hn]

theorem under_upd {N : Nat} {σ : List (Nat × E)} (hσ : (σ.all fun p => decide (N ≤ p.1)) = true) (ρ : Env) : ∀ {e : E}, e.under N = true → e.ev (ρ.upd (T.ofList σ)) = e.ev ρ
  | .vr n, h => by
    simp only [E.under, decide_eq_true_eq] at h
    simp only [E.ev, Env.upd, ofList_ge hσ n h]
  | .li n, _ => rfl
  | .lb w, _ => rfl
  | .ls x, _ => rfl
  | .un o a, h => by simp only [E.under] at h; simp only [E.ev, under_upd hσ ρ h]
  | .bi o a b, h => by
    simp only [E.under, Bool.and_eq_true] at h
    simp only [E.ev, under_upd hσ ρ h.1, under_upd hσ ρ h.2]
  | .tr o a b c, h => by
    simp only [E.under, Bool.and_eq_true] at h
    simp only [E.ev, under_upd hσ ρ h.1.1, under_upd hσ ρ h.1.2, under_upd hσ ρ h.2]
    cases o <;> rfl

def Facts.under (N : Nat) (F : Facts) : Bool := (F.conds.all fun p => p.1.under N) && (F.bnds.all fun p => p.1.under N) && (F.eqs.all fun p => p.1.under N && p.2.under N)

theorem Facts.ok_upd {F : Facts} {ρ : Env} (h : F.ok ρ) {N : Nat} (hb : F.under N = true) {σ : List (Nat × E)} (hσ : (σ.all fun p => decide (N ≤ p.1)) = true) (hs : F.sem ρ → F.sem (ρ.upd (T.ofList σ)) := by exact fun h => h) : F.ok (ρ.upd (T.ofList σ)) := by
  simp only [Facts.under, Bool.and_eq_true, List.all_eq_true] at hb
  obtain ⟨⟨b1, b2⟩, b3⟩ := hb
  refine ⟨fun p hp => ?_, fun p hp => ?_, fun p hp => ?_, hs h.sem⟩
  · rw [under_upd hσ ρ (b1 p hp)]; exact h.conds p hp
  · rw [under_upd hσ ρ (b2 p hp)]; exact h.bnds p hp
  · rw [under_upd hσ ρ (b3 p hp).1, under_upd hσ ρ (b3 p hp).2]; exact h.eqs p hp

/-- Facts told in two parts. -/
def Facts.join (A B : Facts) : Facts := { conds := A.conds ++ B.conds, bnds := A.bnds ++ B.bnds, eqs := A.eqs ++ B.eqs, sem := A.sem }

theorem Facts.join_ok {A B : Facts} {ρ : Env} (ha : A.ok ρ) (hb : B.ok ρ) : (A.join B).ok ρ := by
  refine ⟨fun p hp => ?_, fun p hp => ?_, fun p hp => ?_, ha.sem⟩
  · rcases List.mem_append.1 hp with h | h
    · exact ha.conds p h
    · exact hb.conds p h
  · rcases List.mem_append.1 hp with h | h
    · exact ha.bnds p h
    · exact hb.bnds p h
  · rcases List.mem_append.1 hp with h | h
    · exact ha.eqs p h
    · exact hb.eqs p h
end Go.Eng
