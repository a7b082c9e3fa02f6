/-
  Arguments, each plain or a slice of plain elements.
-/
import Derived.Test.YtgielkefgliiiaaEngAD
namespace Go.Eng
open Go.RowKit Go.ChangeShapes Go.WideShapes Go.ChangeAt

section
variable (P : Program)

def elemT (t : TypeId) : Option TypeId := match P.underlying t with | some (.slice e) => some e | _ => none
def elemK (t : TypeId) : List Kd := match elemT P t with | some e => (kds P 8 e).getD [] | none => []

/-- A plain type; a slice of plain elements. -/
def okPlain (t : TypeId) : Bool := (kds P 8 t).isSome
def okSlice (t : TypeId) : Bool := match elemT P t with
  | some e => match kds P 8 e with
    | some ks => P.cellsOf e == ks.length && decide (0 < ks.length)
    | none => false
  | none => false

/-- How an argument is told: 0: plain; 1: a slice of no elements; 2: a slice of some. -/
abbrev Sh := List (TypeId × Nat)

def shDV : Sh → Nat → Nat → List DV
  | [], _, _ => []
  | (t, k) :: r, i, id => match k with
    | 0 => argDV P t i :: shDV r (i + width P t) id
    | 1 => .mt :: shDV r i id
    | _ => .slc id ⟨0, [(.vr i, 1)]⟩ (.vr (i + 2)) (.ex (.vr (i + 3))) :: shDV r (i + 4) (id + 1)

def shH : Sh → Nat → Nat → List (Nat × Blk)
  | [], _, _ => []
  | (t, k) :: r, i, id => match k with
    | 0 => shH r (i + width P t) id
    | 1 => shH r i id
    | _ => (id, .arr (.vr i) (.vr (i + 1)) (.vr (i + 2)) (elemK P t) t .ro) :: shH r (i + 4) (id + 1)

def shB : Sh → Nat → List (E × Int × Int)
  | [], _ => []
  | (t, k) :: r, i => match k with
    | 0 => argB P t i ++ shB r (i + width P t)
    | 1 => shB r i
    | _ => (E.vr (i + 2), 1, (maxLen : Int)) :: (E.vr (i + 3), 1, (maxLen : Int)) :: shB r (i + 4)

def shN : Sh → Nat
  | [] => 0
  | (_, k) :: r => (if k ≤ 1 then 0 else 1) + shN r

/-- The numbers of the arguments. -/
def shSc (w : World) : Sh → List Value → List Sc
  | (t, k) :: r, v :: vs => match k with
    | 0 => v.cells.toList.map Sc.ofValue ++ shSc w r vs
    | 1 => shSc w r vs
    | _ => (match v with
      | .slice (some x) len cap => [Sc.I x.off, Sc.A (match w.heap[x.block]? with | some (.cells c _ _) => (c.toList.drop x.off).take (len * (elemK P t).length) | _ => []), Sc.I len, Sc.I cap]
      | _ => [Sc.I 0, Sc.I 0, Sc.I 0, Sc.I 0]) ++ shSc w r vs
  | _, _ => []

def shBl : Sh → List Value → List Nat
  | (_, k) :: r, v :: vs => match k with
    | 0 => shBl r vs
    | 1 => shBl r vs
    | _ => (match v with | .slice (some x) _ _ => x.block | _ => 0) :: shBl r vs
  | _, _ => []

/-- Of which shape a value is. -/
def shIs (w : World) : TypeId × Nat → Value → Prop
  | (t, 0), _ => okPlain P t = true
  | (_, 1), v => ∃ a c, v = .slice a 0 c
  | (t, _), v => ∃ (b q len cap : Nat) (c : Array Value) (t' : TypeId) (fr : Nat × Nat), v = .slice (some ⟨b, q, none⟩) len cap ∧ 0 < len ∧ len ≤ cap ∧ cap ≤ maxLen ∧ w.heap[b]? = some (.cells c t' fr) ∧ q + len * (elemK P t).length ≤ c.size ∧
      ∀ (i : Nat) (k : Kd) (v : Value), i < len * (elemK P t).length → (elemK P t)[i % (elemK P t).length]? = some k → c[q + i]? = some v → k.wok v

def shAll (w : World) : Sh → List Value → Prop
  | [], [] => True
  | s :: r, v :: vs => shIs P w s v ∧ shAll w r vs
  | _, _ => False

variable {P} {H : Type} {enc : TypeId × Value → H} {w : World} {base : Nat} {spare : Nat → Bool} {held : Bool}

theorem width_cells {t : TypeId} (hk : okPlain P t = true) {v : Value} {d : DataW H} {ps : List MemPlace} (ht : DataW.Trod enc P w base spare held t v d ps) : v.cells.toList.length = width P t := by
  obtain ⟨ks, hks⟩ := Option.isSome_iff_exists.1 hk
  obtain ⟨fuel, hf⟩ := ht
  have := kds_trod 8 t ks hks fuel _ _ hf
  unfold width; rw [hks]; exact this.1

/-- What is known of arguments of a shape. -/
theorem sh_ok {m : Emb} {ρ : Env} {r : Reach} {b0 : Nat} : ∀ {sh : Sh} {vs : List Value} {ds : List (DataW H)} {ps : List MemPlace} {i id : Nat},
    (∀ (j : Nat) t v, (sh.map (·.1))[j]? = some t → vs[j]? = some v → Value.okWide P w r b0 t v) → DataW.TrodAll enc P w base spare held (sh.map (·.1)) vs ds ps → shAll P w sh vs →
    (∀ (j : Nat) (u : Sc), (shSc P w sh vs)[j]? = some u → ρ.v (i + j) = u) → (∀ (j : Nat) (b : Nat), (shBl sh vs)[j]? = some b → m.ι (id + j) = some b) →
    DV.RL m ρ (shDV P sh i id) vs ∧ (∀ p ∈ shB P sh i, p.2.1 ≤ (p.1.ev ρ).int ∧ (p.1.ev ρ).int ≤ p.2.2) ∧
      (∀ p ∈ shH P sh i id, id ≤ p.1 ∧ p.1 < id + shN sh ∧ ∃ b o, m.ι p.1 = some b ∧ w.heap[b]? = some o ∧ p.2.R m ρ (m.κ p.1) o)
  | [], vs, ds, ps, i, id, hok, ht, ha, hρ, hm => by
      obtain ⟨rfl, _, _⟩ := trodAll_nil ht
      exact ⟨by simp [shDV, DV.RL], by simp [shB], by simp [shH]⟩
  | (t, k) :: sh, vs, ds, ps, i, id, hok, ht, ha, hρ, hm => by
      simp only [List.map_cons] at ht hok
      obtain ⟨v, vs', d, ds', p, q, rfl, rfl, rfl, h1, h2⟩ := trodAll_cons ht
      have ho : Value.okWide P w r b0 t v := hok 0 t v rfl rfl
      have hok' : ∀ (j : Nat) t v, (sh.map (·.1))[j]? = some t → vs'[j]? = some v → Value.okWide P w r b0 t v := fun j t' v' h1 h2 => hok (j + 1) t' v' (by simpa using h1) (by simpa using h2)
      obtain ⟨hs, ha'⟩ := ha
      match k, hs, hρ, hm with
      | 0, hs, hρ, hm =>
        simp only [shIs] at hs
        have hw := width_cells hs h1
        simp only [shSc] at hρ
        simp only [shBl] at hm
        obtain ⟨hR, hB⟩ := arg_plain (m := m) (ρ := ρ) (i := i) hs ho h1 (fun j u hu => hρ j _ (by
          have hj := (List.getElem?_eq_some_iff.1 hu).1
          rw [List.getElem?_append_left (by simpa using hj), List.getElem?_map, hu]; rfl))
        obtain ⟨hRs, hBs, hHs⟩ := sh_ok (i := i + width P t) (id := id) hok' h2 ha' (fun j u hu => by
          have := hρ (width P t + j) u (by rw [List.getElem?_append_right (by simp [hw]), List.length_map, hw]; simpa using hu)
          rw [← this]; congr 1; omega) hm
        refine ⟨⟨v, vs', rfl, hR, hRs⟩, fun p hp => ?_, ?_⟩
        · simp only [shB, List.mem_append] at hp
          rcases hp with hp | hp
          · exact hB p hp
          · exact hBs p hp
        · simpa [shH, shN] using hHs
      | 1, hs, hρ, hm =>
        simp only [shIs] at hs
        simp only [shSc] at hρ
        simp only [shBl] at hm
        obtain ⟨hRs, hBs, hHs⟩ := sh_ok (i := i) (id := id) hok' h2 ha' hρ hm
        exact ⟨⟨v, vs', rfl, by simpa only [DV.R] using hs, hRs⟩, by simpa [shB] using hBs, by simpa [shH, shN] using hHs⟩
      | k + 2, hs, hρ, hm =>
        obtain ⟨b, q', len, cap, c, t', fr, rfl, hl0, hlc, hcm, hb, hsz, hcell⟩ := hs
        simp only [shSc, hb] at hρ
        simp only [shBl] at hm
        obtain ⟨hRs, hBs, hHs⟩ := sh_ok (i := i + 4) (id := id + 1) hok' h2 ha' (fun j u hu => by
          have := hρ (j + 4) u (by simpa using hu)
          rw [← this]; congr 1; omega) (fun j b' hb' => by
          have := hm (j + 1) b' (by simpa using hb')
          rw [← this]; congr 1; omega)
        have e0 := hρ 0 _ rfl
        have e1 := hρ 1 _ rfl
        have e2 := hρ 2 _ rfl
        have e3 := hρ 3 _ rfl
        have eb := hm 0 _ rfl
        simp only [Nat.add_zero] at e0 eb
        have hml : (maxLen : Int) = 9223372036854775807 := by decide
        refine ⟨⟨_, vs', rfl, ?_, hRs⟩, fun p hp => ?_, fun p hp => ?_⟩
        · simp only [DV.R, Off.den, sumT, E.ev, Cap.den, e0, e2, e3]
          refine ⟨b, eb, ?_, by simp, by simpa using hlc⟩
          simp
        · simp only [shB, List.mem_cons] at hp
          rcases hp with rfl | rfl | hp
          · simp only [E.ev, e2]; simp; omega
          · simp only [E.ev, e3]; simp; omega
          · exact hBs p hp
        · simp only [shH, List.mem_cons] at hp
          simp only [shN, show ¬ (k + 2 ≤ 1) by omega, if_false]
          rcases hp with rfl | hp
          · refine ⟨Nat.le_refl _, by simp only; omega, b, _, eb, hb, c, fr, ⟨_, rfl⟩, ?_, ?_, ?_, ?_, trivial⟩
            · simp only [E.ev, e1, e2]; simp; omega
            · simp only [E.ev, e0, e1]; simp; omega
            · intro j u hu
              simp only [E.ev, e1] at hu
              simp only [E.ev, e0]
              simp only [Sc.arr_A, List.getElem?_take, List.getElem?_drop] at hu
              split at hu
              · simpa using hu
              · cases hu
            · intro j u hu
              simp only [E.ev, e1] at hu
              simp only [Sc.arr_A, List.getElem?_take, List.getElem?_drop] at hu
              split at hu
              · rename_i hj
                have hq0 : 0 < (elemK P t).length := by rcases Nat.eq_zero_or_pos (elemK P t).length with h | h; (rw [h] at hj; omega); exact h
                have hlt := Nat.mod_lt j hq0
                have hk : (elemK P t)[j % (elemK P t).length]? = some ((elemK P t)[j % (elemK P t).length]'hlt) := by simp [hlt]
                have := Kd.ok_of_wok (hcell j _ u hj hk (by simpa using hu))
                simpa [List.getD_eq_getElem?_getD, hk] using this
              · cases hu
          · obtain ⟨g1, g2, g3⟩ := hHs p hp
            exact ⟨by omega, by omega, g3⟩
end
end Go.Eng
