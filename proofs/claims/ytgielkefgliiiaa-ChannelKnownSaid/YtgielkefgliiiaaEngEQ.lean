/-
  When two symbolic states are the same.
-/
import Derived.Test.YtgielkefgliiiaaEngC
namespace Go.Eng

def termsEq : List (E × Nat) → List (E × Nat) → Bool
  | [], [] => true
  | (a, s) :: r, (b, t) :: q => a.same b && (s == t && termsEq r q)
  | _, _ => false
theorem termsEq_eq : ∀ {l r : List (E × Nat)}, termsEq l r = true → l = r
  | [], [], _ => rfl
  | [], _ :: _, h => by simp [termsEq] at h
  | _ :: _, [], h => by simp [termsEq] at h
  | (a, s) :: l, (b, t) :: r, h => by
    simp only [termsEq, Bool.and_eq_true, beq_iff_eq] at h
    rw [E.same_eq h.1, h.2.1, termsEq_eq h.2.2]

def Off.eqv (a b : Off) : Bool := a.base == b.base && termsEq a.terms b.terms
theorem Off.eqv_eq {a b : Off} (h : a.eqv b = true) : a = b := by
  obtain ⟨x, l⟩ := a; obtain ⟨y, r⟩ := b
  simp only [Off.eqv, Bool.and_eq_true, beq_iff_eq] at h
  rw [h.1, termsEq_eq h.2]

def Cap.eqv : Cap → Cap → Bool
  | .ex a, .ex b => a.same b
  | .own a, .own b => a.same b
  | _, _ => false
theorem Cap.eqv_eq {a b : Cap} (h : a.eqv b = true) : a = b := by
  cases a <;> cases b <;> simp only [Cap.eqv, Bool.false_eq_true] at h <;> rw [E.same_eq h]

def fnEqv : Fn → Fn → Bool
  | .func a, .func b => a == b
  | .method a, .method b => a == b
  | _, _ => false
theorem fnEqv_eq {a b : Fn} (h : fnEqv a b = true) : a = b := by
  cases a <;> cases b <;> simp only [fnEqv, Bool.false_eq_true, beq_iff_eq] at h <;> rw [h]

mutual
def DV.eqv : DV → DV → Bool
  | .int k a, .int k' b => decide (k = k') && a.same b
  | .bool a, .bool b => a.same b
  | .str a, .str b => a.same b
  | .ptr i o, .ptr j p => i == j && o.eqv p
  | .nilp, .nilp => true
  | .gptr g o, .gptr g' o' => g == g' && o == o'
  | .slc i o l c, .slc j p m d => i == j && (o.eqv p && (l.same m && c.eqv d))
  | .nils, .nils => true
  | .mt, .mt => true
  | .agg l, .agg r => DV.eqvL l r
  | .tup l, .tup r => DV.eqvL l r
  | .ifc t v, .ifc t' v' => t == t' && DV.eqv v v'
  | .nili, .nili => true
  | .fn f a c, .fn f' a' c' => fnEqv f f' && (DV.eqvL a a' && DV.eqvL c c')
  | .nilf, .nilf => true
  | .mp i, .mp j => i == j
  | .nilm, .nilm => true
  | _, _ => false
def DV.eqvL : List DV → List DV → Bool
  | [], [] => true
  | d :: r, e :: q => DV.eqv d e && DV.eqvL r q
  | _, _ => false
end

mutual
theorem DV.eqv_eq : ∀ {a b : DV}, a.eqv b = true → a = b
  | .int k a, b, h => by cases b <;> simp only [DV.eqv, Bool.false_eq_true, Bool.and_eq_true, decide_eq_true_eq] at h; rw [h.1, E.same_eq h.2]
  | .bool a, b, h => by cases b <;> simp only [DV.eqv, Bool.false_eq_true] at h; rw [E.same_eq h]
  | .str a, b, h => by cases b <;> simp only [DV.eqv, Bool.false_eq_true] at h; rw [E.same_eq h]
  | .ptr i o, b, h => by cases b <;> simp only [DV.eqv, Bool.false_eq_true, Bool.and_eq_true, beq_iff_eq] at h; rw [h.1, Off.eqv_eq h.2]
  | .nilp, b, h => by cases b <;> simp only [DV.eqv, Bool.false_eq_true] at h; rfl
  | .gptr g o, b, h => by cases b <;> simp only [DV.eqv, Bool.false_eq_true, Bool.and_eq_true, beq_iff_eq] at h; rw [h.1, h.2]
  | .slc i o l c, b, h => by cases b <;> simp only [DV.eqv, Bool.false_eq_true, Bool.and_eq_true, beq_iff_eq] at h; rw [h.1, Off.eqv_eq h.2.1, E.same_eq h.2.2.1, Cap.eqv_eq h.2.2.2]
  | .nils, b, h => by cases b <;> simp only [DV.eqv, Bool.false_eq_true] at h; rfl
  | .mt, b, h => by cases b <;> simp only [DV.eqv, Bool.false_eq_true] at h; rfl
  | .agg l, b, h => by cases b <;> simp only [DV.eqv, Bool.false_eq_true] at h; rw [DV.eqvL_eq h]
  | .tup l, b, h => by cases b <;> simp only [DV.eqv, Bool.false_eq_true] at h; rw [DV.eqvL_eq h]
  | .ifc t v, b, h => by cases b <;> simp only [DV.eqv, Bool.false_eq_true, Bool.and_eq_true, beq_iff_eq] at h; rw [h.1, DV.eqv_eq h.2]
  | .nili, b, h => by cases b <;> simp only [DV.eqv, Bool.false_eq_true] at h; rfl
  | .fn f x y, b, h => by cases b <;> simp only [DV.eqv, Bool.false_eq_true, Bool.and_eq_true] at h; rw [fnEqv_eq h.1, DV.eqvL_eq h.2.1, DV.eqvL_eq h.2.2]
  | .nilf, b, h => by cases b <;> simp only [DV.eqv, Bool.false_eq_true] at h; rfl
  | .mp i, b, h => by cases b <;> simp only [DV.eqv, Bool.false_eq_true, beq_iff_eq] at h; rw [h]
  | .nilm, b, h => by cases b <;> simp only [DV.eqv, Bool.false_eq_true] at h; rfl
theorem DV.eqvL_eq : ∀ {a b : List DV}, DV.eqvL a b = true → a = b
  | [], b, h => by cases b <;> simp only [DV.eqvL, Bool.false_eq_true] at h; rfl
  | d :: r, b, h => by
    cases b with
    | nil => simp only [DV.eqvL, Bool.false_eq_true] at h
    | cons e q =>
      simp only [DV.eqvL, Bool.and_eq_true] at h
      rw [DV.eqv_eq h.1, DV.eqvL_eq h.2]
end

def pairsEq : List (DV × DV) → List (DV × DV) → Bool
  | [], [] => true
  | (a, b) :: r, (c, d) :: q => a.eqv c && (b.eqv d && pairsEq r q)
  | _, _ => false
theorem pairsEq_eq : ∀ {a b : List (DV × DV)}, pairsEq a b = true → a = b
  | [], b, h => by cases b <;> simp only [pairsEq, Bool.false_eq_true] at h; rfl
  | (x, y) :: r, b, h => by
    cases b with
    | nil => simp only [pairsEq, Bool.false_eq_true] at h
    | cons e q =>
      obtain ⟨c, d⟩ := e
      simp only [pairsEq, Bool.and_eq_true] at h
      rw [DV.eqv_eq h.1, DV.eqv_eq h.2.1, pairsEq_eq h.2.2]

def seenEq : List E → List E → Bool
  | [], [] => true
  | a :: r, b :: q => a.same b && seenEq r q
  | _, _ => false
theorem seenEq_eq : ∀ {a b : List E}, seenEq a b = true → a = b
  | [], b, h => by cases b <;> simp only [seenEq, Bool.false_eq_true] at h; rfl
  | x :: r, b, h => by
    cases b with
    | nil => simp only [seenEq, Bool.false_eq_true] at h
    | cons e q =>
      simp only [seenEq, Bool.and_eq_true] at h
      rw [E.same_eq h.1, seenEq_eq h.2]

def Blk.eqv : Blk → Blk → Bool
  | .cells l t md, .cells l' t' md' => DV.eqvL l l' && (t == t' && decide (md = md'))
  | .arr q a n sh t md, .arr q' a' n' sh' t' md' => q.same q' && (a.same a' && (n.same n' && (decide (sh = sh') && (t == t' && decide (md = md')))))
  | .mpb es, .mpb es' => pairsEq es es'
  | .itb m s l, .itb m' s' l' => m == m' && (seenEq s s' && l == l')
  | .dead, .dead => true
  | _, _ => false
theorem Blk.eqv_eq {a b : Blk} (h : a.eqv b = true) : a = b := by
  cases a <;> cases b <;> simp only [Blk.eqv, Bool.false_eq_true, Bool.and_eq_true, beq_iff_eq, decide_eq_true_eq] at h
  · rw [DV.eqvL_eq h.1, h.2.1, h.2.2]
  · rw [E.same_eq h.1, E.same_eq h.2.1, E.same_eq h.2.2.1, h.2.2.2.1, h.2.2.2.2.1, h.2.2.2.2.2]
  · rw [pairsEq_eq h]
  · rw [h.1, seenEq_eq h.2.1, h.2.2]
  · rfl

def optEq {α : Type} (f : α → α → Bool) : Option α → Option α → Bool
  | none, none => true
  | some a, some b => f a b
  | _, _ => false
def T.eqv {α : Type} (f : α → α → Bool) : T α → T α → Bool
  | .nil, .nil => true
  | .node x l r, .node y l' r' => optEq f x y && (T.eqv f l l' && T.eqv f r r')
  | _, _ => false
theorem T.eqv_eq {α : Type} {f : α → α → Bool} (hf : ∀ {a b}, f a b = true → a = b) : ∀ {a b : T α}, a.eqv f b = true → a = b
  | .nil, b, h => by cases b <;> simp only [T.eqv, Bool.false_eq_true] at h; rfl
  | .node x l r, b, h => by
    cases b with
    | nil => simp only [T.eqv, Bool.false_eq_true] at h
    | node y l' r' =>
      simp only [T.eqv, Bool.and_eq_true] at h
      have hx : x = y := by
        have := h.1
        cases x <;> cases y <;> simp only [optEq, Bool.false_eq_true] at this
        · rfl
        · rw [hf this]
      rw [hx, T.eqv_eq hf h.2.1, T.eqv_eq hf h.2.2]

def St.eqv (a b : St) : Bool := a.next == b.next && (a.sz == b.sz && (T.eqv DV.eqv a.tmps b.tmps && T.eqv Blk.eqv a.heap b.heap))
theorem St.eqv_eq {a b : St} (h : a.eqv b = true) : a = b := by
  obtain ⟨t, h1, n, s⟩ := a; obtain ⟨t', h1', n', s'⟩ := b
  simp only [St.eqv, Bool.and_eq_true, beq_iff_eq] at h
  have e3 := T.eqv_eq DV.eqv_eq h.2.2.1
  have e4 := T.eqv_eq Blk.eqv_eq h.2.2.2
  have e1 := h.1
  have e2 := h.2.1
  subst e1; subst e2; subst e3; subst e4; rfl

end Go.Eng
