/-
  Memory: what is read, what is written, what is laid anew.
-/
import Derived.Test.YtgielkefgliiiaaEngE
namespace Go.Eng

def iteDV (F : Facts) (c : E) : DV → DV → Option DV
  | .int k a, .int k' b => if k = k' then some (.int k (iteE F c a b)) else none
  | .bool a, .bool b => some (.bool (iteE F c a b))
  | .str a, .str b => some (.str (iteE F c a b))
  | a, b => match c.dec F with
    | some true => some a
    | some false => some b
    | none => none

theorem iteDV_R {F : Facts} {ρ : Env} (hF : F.ok ρ) {m : Emb} {c : E} {a b d : DV} (h : iteDV F c a b = some d) {va vb : Value} (ha : (c.ev ρ).bool = true → a.R m ρ va) (hb : (c.ev ρ).bool = false → b.R m ρ vb) :
    d.R m ρ (if (c.ev ρ).bool then va else vb) := by
  unfold iteDV at h
  split at h
  · split at h
    · rename_i hk; cases h; subst hk
      simp only [DV.R] at *
      rw [iteE_ev hF]
      cases hc : (c.ev ρ).bool
      · simp [hb hc]
      · simp [ha hc]
    · cases h
  · cases h
    simp only [DV.R] at *
    rw [iteE_ev hF]
    cases hc : (c.ev ρ).bool
    · simp [hb hc]
    · simp [ha hc]
  · cases h
    simp only [DV.R] at *
    rw [iteE_ev hF]
    cases hc : (c.ev ρ).bool
    · simp [hb hc]
    · simp [ha hc]
  · split at h
    · rename_i hd; cases h; have := E.dec_sound hF hd; simp only [this, if_true]; exact ha this
    · rename_i hd; cases h; have := E.dec_sound hF hd; simp only [this, Bool.false_eq_true, if_false]; exact hb this
    · cases h

/-- The cell at a place that is not known outright: among 'n + 1' of them. -/
def selD (F : Facts) (l : List DV) (e : E) (base s : Nat) : Nat → Nat → Option DV
  | 0, j => l[base + j * s]?
  | n + 1, j => match l[base + j * s]?, selD F l e base s n (j + 1) with
    | some a, some b => iteDV F (boolE F (.bi .eqi e (.li j))) a b
    | _, _ => none

def updD (F : Facts) (e : E) (base s : Nat) (x : DV) : Nat → Nat → List DV → Option (List DV)
  | 0, j, l => match l[base + j * s]? with
    | some old => (iteDV F (boolE F (.bi .eqi e (.li j))) x old).map (l.set (base + j * s))
    | none => none
  | n + 1, j, l => match l[base + j * s]? with
    | some old => match iteDV F (boolE F (.bi .eqi e (.li j))) x old with
      | some y => updD F e base s x n (j + 1) (l.set (base + j * s) y)
      | none => none
    | none => none

theorem eqLi {F : Facts} {ρ : Env} (hF : F.ok ρ) (e : E) (j : Nat) : ((boolE F (.bi .eqi e (.li j))).ev ρ).bool = decide ((e.ev ρ).int = (j : Int)) := by
  rw [boolE_bool hF]; rfl

theorem selD_R {F : Facts} {ρ : Env} (hF : F.ok ρ) {m : Emb} {l : List DV} {c : Array Value} (hl : ∀ (i : Nat) (d : DV), l[i]? = some d → ∃ v, c[i]? = some v ∧ d.R m ρ v) (e : E) (base s : Nat) :
    ∀ (n j : Nat) (d : DV), selD F l e base s n j = some d → (j : Int) ≤ (e.ev ρ).int → (e.ev ρ).int ≤ ((j + n : Nat) : Int) → ∃ v, c[base + (e.ev ρ).int.toNat * s]? = some v ∧ d.R m ρ v := by
  intro n
  induction n with
  | zero =>
    intro j d h h1 h2
    have : (e.ev ρ).int.toNat = j := by omega
    rw [this]
    exact hl _ _ h
  | succ n ih =>
    intro j d h h1 h2
    simp only [selD] at h
    split at h
    · rename_i a b ha hb
      by_cases he : (e.ev ρ).int = (j : Int)
      · have hj : (e.ev ρ).int.toNat = j := by omega
        obtain ⟨v, hv, hr⟩ := hl _ _ ha
        refine ⟨v, by rw [hj]; exact hv, ?_⟩
        have := iteDV_R hF h (va := v) (vb := v) (fun _ => hr) (fun hc => by rw [eqLi hF, he] at hc; simp at hc)
        simpa using this
      · obtain ⟨v, hv, hr⟩ := ih (j + 1) b hb (by omega) (by omega)
        refine ⟨v, hv, ?_⟩
        have := iteDV_R hF h (va := v) (vb := v) (fun hc => by rw [eqLi hF] at hc; simp at hc; exact absurd hc he) (fun _ => hr)
        simpa using this
    · cases h

theorem updD_len {F : Facts} (e : E) (base s : Nat) (x : DV) : ∀ (n j : Nat) (l r : List DV), updD F e base s x n j l = some r → r.length = l.length := by
  intro n
  induction n with
  | zero =>
    intro j l r h
    simp only [updD] at h
    split at h
    · simp only [Option.map_eq_some_iff] at h; obtain ⟨y, _, rfl⟩ := h; simp
    · cases h
  | succ n ih =>
    intro j l r h
    simp only [updD] at h
    split at h
    · split at h
      · rw [ih _ _ _ h]; simp
      · cases h
    · cases h

theorem updD_R {F : Facts} {ρ : Env} (hF : F.ok ρ) {m : Emb} (e : E) (base s : Nat) (hs : 0 < s) {x : DV} {vx : Value} (hx : x.R m ρ vx) (p : Nat) (hp : p = base + (e.ev ρ).int.toNat * s) :
    ∀ (n j : Nat) (l r : List DV) (c : Array Value), updD F e base s x n j l = some r →
      (∀ (i : Nat) (d : DV), l[i]? = some d → ∃ v, c[i]? = some v ∧ d.R m ρ v) →
      ∀ (i : Nat) (d : DV), r[i]? = some d → (i = p → (j : Int) ≤ (e.ev ρ).int → (e.ev ρ).int ≤ ((j + n : Nat) : Int) → d.R m ρ vx) ∧ (i ≠ p → ∃ v, c[i]? = some v ∧ d.R m ρ v) := by
  have one : ∀ (j : Nat) (l : List DV) (c : Array Value) (old y : DV), l[base + j * s]? = some old → iteDV F (boolE F (.bi .eqi e (.li j))) x old = some y →
      (∀ (i : Nat) (d : DV), l[i]? = some d → ∃ v, c[i]? = some v ∧ d.R m ρ v) → 0 ≤ (e.ev ρ).int →
      ∃ v0, c[base + j * s]? = some v0 ∧ y.R m ρ (if base + j * s = p then vx else v0) := by
    intro j l c old y hold hy hl h0
    obtain ⟨v0, hv0, hr0⟩ := hl _ _ hold
    refine ⟨v0, hv0, ?_⟩
    have := iteDV_R hF hy (va := vx) (vb := v0) (fun _ => hx) (fun _ => hr0)
    rw [eqLi hF] at this
    by_cases he : (e.ev ρ).int = (j : Int)
    · have hj : (e.ev ρ).int.toNat = j := by omega
      rw [if_pos (by rw [hp, hj])]
      simpa [he] using this
    · have hj : (e.ev ρ).int.toNat ≠ j := by omega
      rw [if_neg (by rw [hp]; intro hc; exact hj (Nat.eq_of_mul_eq_mul_right hs (by omega)))]
      simpa [he] using this
  intro n
  induction n with
  | zero =>
    intro j l r c h hl i d hd
    simp only [updD] at h
    split at h
    · rename_i old hold
      simp only [Option.map_eq_some_iff] at h
      obtain ⟨y, hy, rfl⟩ := h
      rw [List.getElem?_set] at hd
      by_cases hi : base + j * s = i
      · rw [if_pos hi] at hd
        split at hd
        · cases hd
          refine ⟨fun hip hj1 hj2 => ?_, fun hip => ?_⟩
          · obtain ⟨v0, hv0, hr⟩ := one j l c old d hold hy hl (by omega)
            rw [if_pos (by omega)] at hr; exact hr
          · by_cases h0 : 0 ≤ (e.ev ρ).int
            · obtain ⟨v0, hv0, hr⟩ := one j l c old d hold hy hl h0
              rw [if_neg (by omega)] at hr; rw [← hi]; exact ⟨v0, hv0, hr⟩
            · obtain ⟨v0, hv0, hr0⟩ := hl _ _ hold
              have := iteDV_R hF hy (va := vx) (vb := v0) (fun _ => hx) (fun _ => hr0)
              rw [eqLi hF] at this
              have he : ¬ (e.ev ρ).int = (j : Int) := by omega
              simp [he] at this
              rw [← hi]; exact ⟨v0, hv0, this⟩
        · cases hd
      · rw [if_neg hi] at hd
        refine ⟨fun hip hj1 hj2 => ?_, fun _ => hl i d hd⟩
        exfalso; apply hi
        have : (e.ev ρ).int.toNat = j := by omega
        rw [hip, hp, this]
    · cases h
  | succ n ih =>
    intro j l r c h hl i d hd
    simp only [updD] at h
    split at h
    · rename_i old hold
      split at h
      · rename_i y hy
        obtain ⟨v0, hv0, hr0⟩ := hl _ _ hold
        by_cases h0 : 0 ≤ (e.ev ρ).int
        · obtain ⟨v1, hv1, hr1⟩ := one j l c old y hold hy hl h0
          rw [hv0] at hv1; cases hv1
          by_cases hjp : base + j * s = p
          · rw [if_pos hjp] at hr1
            have hlt : base + j * s < c.size := (Array.getElem?_eq_some_iff.1 hv0).1
            have := ih (j + 1) _ r (c.setIfInBounds (base + j * s) vx) h (fun i' d' hd' => by
              rw [List.getElem?_set] at hd'
              split at hd'
              · rename_i e'; subst e'
                split at hd'
                · cases hd'; exact ⟨vx, by simp [Array.getElem?_setIfInBounds, hlt], hr1⟩
                · cases hd'
              · rename_i e'
                obtain ⟨v, hv, hr⟩ := hl i' d' hd'
                exact ⟨v, by rw [Array.getElem?_setIfInBounds_ne e']; exact hv, hr⟩) i d hd
            refine ⟨fun hip hj1 hj2 => ?_, fun hip => ?_⟩
            · by_cases hj' : ((j + 1 : Nat) : Int) ≤ (e.ev ρ).int
              · exact this.1 hip hj' (by omega)
              · -- the cell stays as it was written
                have hnot : ∀ (n' j' : Nat) (l' r' : List DV), updD F e base s x n' j' l' = some r' → j < j' → r'[base + j * s]? = l'[base + j * s]? := by
                  intro n'
                  induction n' with
                  | zero =>
                    intro j' l' r' h' hlt'
                    simp only [updD] at h'
                    split at h'
                    · simp only [Option.map_eq_some_iff] at h'; obtain ⟨_, _, rfl⟩ := h'
                      rw [List.getElem?_set_ne]
                      intro hc
                      have := Nat.eq_of_mul_eq_mul_right hs (show j' * s = j * s by omega)
                      omega
                    · cases h'
                  | succ n' ih' =>
                    intro j' l' r' h' hlt'
                    simp only [updD] at h'
                    split at h'
                    · split at h'
                      · rw [ih' _ _ _ h' (by omega), List.getElem?_set_ne]
                        intro hc
                        have := Nat.eq_of_mul_eq_mul_right hs (show j' * s = j * s by omega)
                        omega
                      · cases h'
                    · cases h'
                have hsame := hnot n (j + 1) _ r h (by omega)
                rw [hip, ← hjp, hsame] at hd
                rw [List.getElem?_set] at hd
                simp at hd
                obtain ⟨_, hd⟩ := hd
                subst hd
                exact hr1
            · obtain ⟨v, hv, hr⟩ := this.2 hip
              refine ⟨v, ?_, hr⟩
              rw [Array.getElem?_setIfInBounds_ne (by omega)] at hv; exact hv
          · rw [if_neg hjp] at hr1
            have := ih (j + 1) _ r c h (fun i' d' hd' => by
              rw [List.getElem?_set] at hd'
              split at hd'
              · rename_i e'; subst e'
                split at hd'
                · cases hd'; exact ⟨v0, hv0, hr1⟩
                · cases hd'
              · exact hl i' d' hd') i d hd
            refine ⟨fun hip hj1 hj2 => this.1 hip ?_ (by omega), this.2⟩
            have : (e.ev ρ).int ≠ (j : Int) := by
              intro hc; apply hjp; rw [hp]; congr 2; omega
            omega
        · have := iteDV_R hF hy (va := vx) (vb := v0) (fun _ => hx) (fun _ => hr0)
          rw [eqLi hF] at this
          have he : ¬ (e.ev ρ).int = (j : Int) := by omega
          simp [he] at this
          have := ih (j + 1) _ r c h (fun i' d' hd' => by
              rw [List.getElem?_set] at hd'
              split at hd'
              · rename_i e'; subst e'
                split at hd'
                · cases hd'; exact ⟨v0, hv0, this⟩
                · cases hd'
              · exact hl i' d' hd') i d hd
          exact ⟨fun hip hj1 hj2 => by omega, this.2⟩
      · cases h
    · cases h

end Go.Eng
