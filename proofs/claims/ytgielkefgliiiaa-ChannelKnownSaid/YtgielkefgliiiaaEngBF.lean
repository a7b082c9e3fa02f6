/-
  What is known, and one test more.
-/
import Derived.Test.YtgielkefgliiiaaEngB
namespace Go.Eng

/-- What a range adds. -/
def addB (e : E) (r : Option Int × Option Int) (l : List (E × Int × Int)) : List (E × Int × Int) :=
  match e, r with
  | .li _, _ => l
  | .bi .add a (.li c), (some x, some y) => (.bi .add a (.li c), x, y) :: (a, x - c, y - c) :: l
  | e, (some x, some y) => (e, x, y) :: l
  | _, _ => l

def maxO : Option Int → Option Int → Option Int
  | some a, some b => some (max a b)
  | some a, none => some a
  | none, b => b
def minO : Option Int → Option Int → Option Int
  | some a, some b => some (min a b)
  | some a, none => some a
  | none, b => b

/-- One test more is known. -/
def Facts.cons1 (F : Facts) (c : E) (b : Bool) : Facts :=
  match c, b with
  | .bi .lt x y, true => let r := x.rng F; let q := y.rng F
    { F with conds := (c, b) :: F.conds, bnds := addB x (r.1, minO r.2 (q.2.map (· - 1))) (addB y (maxO q.1 (r.1.map (· + 1)), q.2) F.bnds) }
  | .bi .lt x y, false => let r := x.rng F; let q := y.rng F
    { F with conds := (c, b) :: F.conds, bnds := addB x (maxO r.1 q.1, r.2) (addB y (q.1, minO q.2 r.2) F.bnds) }
  | .bi .eqi x y, true => let r := x.rng F; let q := y.rng F
    { F with conds := (c, b) :: F.conds, bnds := addB x (maxO r.1 q.1, minO r.2 q.2) (addB y (maxO r.1 q.1, minO r.2 q.2) F.bnds) }
  | _, _ => { F with conds := (c, b) :: F.conds }

theorem addB_ok {ρ : Env} {e : E} {r : Rng} {l : List (E × Int × Int)} (h : r.has (e.ev ρ).int) (hl : ∀ p ∈ l, p.2.1 ≤ (p.1.ev ρ).int ∧ (p.1.ev ρ).int ≤ p.2.2) : ∀ p ∈ addB e r l, p.2.1 ≤ (p.1.ev ρ).int ∧ (p.1.ev ρ).int ≤ p.2.2 := by
  unfold addB
  split
  · exact hl
  · rename_i a c x y
    intro p hp
    have h1 := h.1 _ rfl
    have h2 := h.2 _ rfl
    rcases List.mem_cons.1 hp with rfl | hp
    · exact ⟨h1, h2⟩
    · rcases List.mem_cons.1 hp with rfl | hp
      · simp only [E.ev, B2.ev, Sc.int_I] at h1 h2 ⊢
        omega
      · exact hl p hp
  · intro p hp
    rcases List.mem_cons.1 hp with rfl | hp
    · exact ⟨h.1 _ rfl, h.2 _ rfl⟩
    · exact hl p hp
  · exact hl

theorem has_maxO {a b : Option Int} {n : Int} (h1 : ∀ x, a = some x → x ≤ n) (h2 : ∀ x, b = some x → x ≤ n) : ∀ x, maxO a b = some x → x ≤ n := by
  intro x hx
  cases a <;> cases b <;> simp_all [maxO]
  omega
theorem has_minO {a b : Option Int} {n : Int} (h1 : ∀ x, a = some x → n ≤ x) (h2 : ∀ x, b = some x → n ≤ x) : ∀ x, minO a b = some x → n ≤ x := by
  intro x hx
  cases a <;> cases b <;> simp_all [minO]
  omega

theorem facts_cons1 {F : Facts} {ρ : Env} (hF : F.ok ρ) {c : E} {b : Bool} (hc : (c.ev ρ).bool = b) : Facts.ok (F.cons1 c b) ρ := by
  have hcs : ∀ p ∈ (c, b) :: F.conds, (p.1.ev ρ).bool = p.2 := fun p hp => by
    rcases List.mem_cons.1 hp with rfl | hp
    · exact hc
    · exact hF.conds p hp
  unfold Facts.cons1
  split
  · rename_i x y
    have hx := E.rng_has hF x
    have hy := E.rng_has hF y
    simp only [E.ev, B2.ev, Sc.bool_B, decide_eq_true_eq] at hc
    refine ⟨hcs, addB_ok ⟨hx.1, has_minO hx.2 fun z hz => ?_⟩ (addB_ok ⟨has_maxO hy.1 fun z hz => ?_, hy.2⟩ hF.bnds), hF.eqs, hF.sem⟩
    · simp only [Option.map_eq_some_iff] at hz
      obtain ⟨u, hu, rfl⟩ := hz
      have := hy.2 u hu; omega
    · simp only [Option.map_eq_some_iff] at hz
      obtain ⟨u, hu, rfl⟩ := hz
      have := hx.1 u hu; omega
  · rename_i x y
    have hx := E.rng_has hF x
    have hy := E.rng_has hF y
    simp only [E.ev, B2.ev, Sc.bool_B, decide_eq_false_iff_not] at hc
    refine ⟨hcs, addB_ok ⟨has_maxO hx.1 fun z hz => ?_, hx.2⟩ (addB_ok ⟨hy.1, has_minO hy.2 fun z hz => ?_⟩ hF.bnds), hF.eqs, hF.sem⟩
    · have := hy.1 z hz; omega
    · have := hx.2 z hz; omega
  · rename_i x y
    have hx := E.rng_has hF x
    have hy := E.rng_has hF y
    simp only [E.ev, B2.ev, Sc.bool_B, decide_eq_true_eq] at hc
    refine ⟨hcs, addB_ok ⟨has_maxO hx.1 fun z hz => ?_, has_minO hx.2 fun z hz => ?_⟩ (addB_ok ⟨has_maxO (fun z hz => ?_) hy.1, has_minO (fun z hz => ?_) hy.2⟩ hF.bnds), hF.eqs, hF.sem⟩
    · have := hy.1 z hz; omega
    · have := hy.2 z hz; omega
    · have := hx.1 z hz; omega
    · have := hx.2 z hz; omega
  · exact ⟨hcs, hF.bnds, hF.eqs, hF.sem⟩

theorem Facts.cons1_sem (F : Facts) (c : E) (b : Bool) : (F.cons1 c b).sem = F.sem := by
  unfold Facts.cons1; split <;> rfl

/-- One test more is known, and its parts. -/
def Facts.cons : Facts → E → Bool → Facts
  | F, .bi .and x y, true => Facts.cons (Facts.cons (F.cons1 (.bi .and x y) true) x true) y true
  | F, .bi .or x y, false => Facts.cons (Facts.cons (F.cons1 (.bi .or x y) false) x false) y false
  | F, .un .not x, b => Facts.cons (F.cons1 (.un .not x) b) x (!b)
  | F, c, b => F.cons1 c b

theorem Facts.cons_sem : ∀ (F : Facts) (c : E) (b : Bool), (F.cons c b).sem = F.sem := by
  intro F c
  induction c generalizing F with
  | un o a ih =>
    intro b
    cases o <;> simp only [Facts.cons, Facts.cons1_sem, ih]
  | bi o x y ihx ihy =>
    intro b
    cases o <;> cases b <;> simp only [Facts.cons, Facts.cons1_sem, ihx, ihy]
  | _ => intro b; simp only [Facts.cons, Facts.cons1_sem]

theorem facts_cons {ρ : Env} : ∀ {c : E} {F : Facts} (_ : F.ok ρ) {b : Bool} (_ : (c.ev ρ).bool = b), Facts.ok (F.cons c b) ρ := by
  intro c
  induction c with
  | un o a ih =>
    intro F hF b hc
    cases o <;> simp only [Facts.cons] <;> try exact facts_cons1 hF hc
    refine ih (facts_cons1 hF hc) ?_
    simp only [E.ev, U.ev, Sc.bool_B] at hc
    rw [← hc]; simp
  | bi o x y ihx ihy =>
    intro F hF b hc
    cases o <;> cases b <;> simp only [Facts.cons] <;> try exact facts_cons1 hF hc
    · have h := hc
      simp only [E.ev, B2.ev, Sc.bool_B, Bool.and_eq_true] at h
      exact ihy (ihx (facts_cons1 hF hc) h.1) h.2
    · have h := hc
      simp only [E.ev, B2.ev, Sc.bool_B, Bool.or_eq_false_iff] at h
      exact ihy (ihx (facts_cons1 hF hc) h.1) h.2
  | _ => intro F hF b hc; simp only [Facts.cons]; exact facts_cons1 hF hc

end Go.Eng
