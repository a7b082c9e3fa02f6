/-
  An argument that is a slice of plain elements.
-/
import Derived.Test.YtcebboibpbbgdaaGreatDoorEngG9
import Derived.Test.YtcebboibpbbgdaaGreatDoorEngG11
import Derived.ChangeArms
namespace Go.Eng
open Go.RowKit Go.ChangeShapes Go.WideShapes Go.ChangeAt

section
variable {P : Program} {H : Type} {enc : TypeId × Value → H} {w : World} {base : Nat} {spare : Nat → Bool} {held : Bool}

theorem cell_block {a : Addr} {u : Value} (h : w.cell? a = some u) : ∃ c t fr, w.heap[a.block]? = some (.cells c t fr) ∧ c[a.off]? = some u := by
  obtain ⟨b, off, sp⟩ := a
  have hs : sp = none := by simpa using World.cell?_spot h
  subst hs
  unfold World.cell? at h
  simp only at h
  split at h
  · rename_i c t fr hb
    exact ⟨c, t, fr, hb, h⟩
  · cases h

/-- What a slice of plain elements is: nothing, or a row of typed cells. -/
theorem slice_plain {t e : TypeId} {ks : List Kd} (ht : P.underlying t = some (.slice e)) (hks : kds P 8 e = some ks) (hq : P.cellsOf e = ks.length) (hq0 : 0 < ks.length)
    {a : Option Addr} {len cap : Nat} {d : DataW H} {ps : List MemPlace} (h : DataW.Trod enc P w base spare held t (.slice a len cap) d ps) :
    len = 0 ∨ ∃ (b q : Nat) (c : Array Value) (t' : TypeId) (fr : Nat × Nat), a = some ⟨b, q, none⟩ ∧ 0 < len ∧ len ≤ cap ∧ cap ≤ maxLen ∧ w.heap[b]? = some (.cells c t' fr) ∧ q + len * ks.length ≤ c.size ∧
      ∀ (i : Nat) (k : Kd) (v : Value), i < len * ks.length → ks[i % ks.length]? = some k → c[q + i]? = some v → k.wok v := by
  obtain ⟨fuel, hf⟩ := h
  rcases DataW.trod_slice ht hf with ⟨h1, _⟩ | ⟨x, l, cp, elems, rest, n, _, h1, _, _, hl, hm, hlen, hel, _, _⟩
  · simp [Value.cells] at h1; exact .inl h1.2.1
  · simp [Value.cells] at h1
    obtain ⟨rfl, rfl, rfl⟩ := h1
    by_cases h0 : len = 0
    · exact .inl h0
    right
    rw [hq] at hel
    have one : ∀ i, i < len → ∃ cs : List Value, cs.length = ks.length ∧ Typed ks cs ∧ ∀ j u, cs[j]? = some u → w.cell? (x.add (i * ks.length + j)) = some u := by
      intro i hi
      have := hel i hi
      have hex : ∃ y, elems[i]? = some y := ⟨elems[i]'(by omega), by simp⟩
      obtain ⟨y, hy⟩ := hex
      rw [hy, Option.bind_eq_some_iff] at this
      obtain ⟨cs, hcs, htr⟩ := this
      have hty := kds_trod 8 e ks hks n cs y htr
      refine ⟨cs, hty.1, hty, fun j u hu => ?_⟩
      unfold World.cells? at hcs
      split at hcs
      · have hj : j < ks.length := by rw [← hty.1]; exact (List.getElem?_eq_some_iff.1 hu).1
        have := mapM_some_get hcs j j (by simp [hj])
        rw [hu, Addr.add_add] at this
        exact this
      · cases hcs
    obtain ⟨cs0, hl0, _, hc0⟩ := one 0 (by omega)
    obtain ⟨u0, hu0⟩ : ∃ u, cs0[0]? = some u := ⟨cs0[0]'(by omega), by simp⟩
    have hx0 := hc0 0 u0 hu0
    have hspot : x.spot = none := by simpa [Addr.add] using World.cell?_spot hx0
    obtain ⟨b, q, sp⟩ := x
    simp only at hspot; subst hspot
    obtain ⟨c, t', fr, hb, hcz⟩ := cell_block hx0
    have hb : w.heap[b]? = some (.cells c t' fr) := by simpa [Addr.add] using hb
    have cellat : ∀ i, i < len * ks.length → ∃ cs j u, Typed ks cs ∧ j = i % ks.length ∧ cs[j]? = some u ∧ c[q + i]? = some u := by
      intro i hi
      have hd : i / ks.length < len := by rw [Nat.div_lt_iff_lt_mul hq0]; exact hi
      obtain ⟨cs, hcl, hty, hcs⟩ := one (i / ks.length) hd
      have hm := Nat.mod_lt i hq0
      obtain ⟨u, hu⟩ : ∃ u, cs[i % ks.length]? = some u := ⟨cs[i % ks.length]'(by rw [hcl]; exact hm), by simp⟩
      have hcu := hcs _ _ hu
      have hi' : i / ks.length * ks.length + i % ks.length = i := by rw [Nat.mul_comm]; exact Nat.div_add_mod i ks.length
      rw [hi'] at hcu
      refine ⟨cs, _, u, hty, rfl, hu, ?_⟩
      rw [add_none] at hcu
      simp only [World.cell?, hb] at hcu
      simpa using hcu
    refine ⟨b, q, c, t', fr, rfl, by omega, hl, hm, hb, ?_, ?_⟩
    · have : 0 < len * ks.length := Nat.mul_pos (by omega) hq0
      obtain ⟨_, _, u, _, _, _, hu⟩ := cellat (len * ks.length - 1) (by omega)
      have := (Array.getElem?_eq_some_iff.1 hu).1
      omega
    · intro i k v hi hk hv
      obtain ⟨cs, j, u, hty, rfl, hu, hcu⟩ := cellat i hi
      rw [hv] at hcu; cases hcu
      exact hty.2 _ _ _ hk hu
end
end Go.Eng

/-
  Arguments, each plain or a slice of plain elements.
-/
namespace Go.Eng
open Go.RowKit Go.ChangeShapes Go.WideShapes Go.ChangeAt

section
variable (P : Program)

def elemT (t : TypeId) : Option TypeId := match P.underlying t with | some (.slice e) => some e | _ => none
def elemK (t : TypeId) : List Kd := match elemT P t with | some e => (kds P 8 e).getD [] | none => []

/-- A plain type; a slice of plain elements. -/
def okPlain (t : TypeId) : Bool := (kds P 8 t).isSome
def okSlice (t : TypeId) : Bool := match elemT P t with
  | some e => match kds P 8 e with
    | some ks => P.cellsOf e == ks.length && decide (0 < ks.length)
    | none => false
  | none => false

/-- How an argument is told: 0: plain; 1: a slice of no elements; 2: a slice of some. -/
abbrev Sh := List (TypeId × Nat)

def shDV : Sh → Nat → Nat → List DV
  | [], _, _ => []
  | (t, k) :: r, i, id => match k with
    | 0 => argDV P t i :: shDV r (i + width P t) id
    | 1 => .mt :: shDV r i id
    | _ => .slc id ⟨0, [(.vr i, 1)]⟩ (.vr (i + 2)) (.ex (.vr (i + 3))) :: shDV r (i + 4) (id + 1)

def shH : Sh → Nat → Nat → List (Nat × Blk)
  | [], _, _ => []
  | (t, k) :: r, i, id => match k with
    | 0 => shH r (i + width P t) id
    | 1 => shH r i id
    | _ => (id, .arr (.vr i) (.vr (i + 1)) (.vr (i + 2)) (elemK P t) t .ro) :: shH r (i + 4) (id + 1)

def shB : Sh → Nat → List (E × Int × Int)
  | [], _ => []
  | (t, k) :: r, i => match k with
    | 0 => argB P t i ++ shB r (i + width P t)
    | 1 => shB r i
    | _ => (E.vr (i + 2), 1, (maxLen : Int)) :: (E.vr (i + 3), 1, (maxLen : Int)) :: shB r (i + 4)

def shN : Sh → Nat
  | [] => 0
  | (_, k) :: r => (if k ≤ 1 then 0 else 1) + shN r

/-- The numbers of the arguments. -/
def shSc (w : World) : Sh → List Value → List Sc
  | (t, k) :: r, v :: vs => match k with
    | 0 => v.cells.toList.map Sc.ofValue ++ shSc w r vs
    | 1 => shSc w r vs
    | _ => (match v with
      | .slice (some x) len cap => [Sc.I x.off, Sc.A (match w.heap[x.block]? with | some (.cells c _ _) => (c.toList.drop x.off).take (len * (elemK P t).length) | _ => []), Sc.I len, Sc.I cap]
      | _ => [Sc.I 0, Sc.I 0, Sc.I 0, Sc.I 0]) ++ shSc w r vs
  | _, _ => []

def shBl : Sh → List Value → List Nat
  | (_, k) :: r, v :: vs => match k with
    | 0 => shBl r vs
    | 1 => shBl r vs
    | _ => (match v with | .slice (some x) _ _ => x.block | _ => 0) :: shBl r vs
  | _, _ => []

/-- Of which shape a value is. -/
def shIs (w : World) : TypeId × Nat → Value → Prop
  | (t, 0), _ => okPlain P t = true
  | (_, 1), v => ∃ a c, v = .slice a 0 c
  | (t, _), v => ∃ (b q len cap : Nat) (c : Array Value) (t' : TypeId) (fr : Nat × Nat), v = .slice (some ⟨b, q, none⟩) len cap ∧ 0 < len ∧ len ≤ cap ∧ cap ≤ maxLen ∧ w.heap[b]? = some (.cells c t' fr) ∧ q + len * (elemK P t).length ≤ c.size ∧
      ∀ (i : Nat) (k : Kd) (v : Value), i < len * (elemK P t).length → (elemK P t)[i % (elemK P t).length]? = some k → c[q + i]? = some v → k.wok v

def shAll (w : World) : Sh → List Value → Prop
  | [], [] => True
  | s :: r, v :: vs => shIs P w s v ∧ shAll w r vs
  | _, _ => False

variable {P} {H : Type} {enc : TypeId × Value → H} {w : World} {base : Nat} {spare : Nat → Bool} {held : Bool}

theorem width_cells {t : TypeId} (hk : okPlain P t = true) {v : Value} {d : DataW H} {ps : List MemPlace} (ht : DataW.Trod enc P w base spare held t v d ps) : v.cells.toList.length = width P t := by
  obtain ⟨ks, hks⟩ := Option.isSome_iff_exists.1 hk
  obtain ⟨fuel, hf⟩ := ht
  have := kds_trod 8 t ks hks fuel _ _ hf
  unfold width; rw [hks]; exact this.1

/-- What is known of arguments of a shape. -/
theorem sh_ok {m : Emb} {ρ : Env} {r : Reach} {b0 : Nat} : ∀ {sh : Sh} {vs : List Value} {ds : List (DataW H)} {ps : List MemPlace} {i id : Nat},
    (∀ (j : Nat) t v, (sh.map (·.1))[j]? = some t → vs[j]? = some v → Value.okWide P w r b0 t v) → DataW.TrodAll enc P w base spare held (sh.map (·.1)) vs ds ps → shAll P w sh vs →
    (∀ (j : Nat) (u : Sc), (shSc P w sh vs)[j]? = some u → ρ.v (i + j) = u) → (∀ (j : Nat) (b : Nat), (shBl sh vs)[j]? = some b → m.ι (id + j) = some b) →
    DV.RL m ρ (shDV P sh i id) vs ∧ (∀ p ∈ shB P sh i, p.2.1 ≤ (p.1.ev ρ).int ∧ (p.1.ev ρ).int ≤ p.2.2) ∧
      (∀ p ∈ shH P sh i id, id ≤ p.1 ∧ p.1 < id + shN sh ∧ ∃ b o, m.ι p.1 = some b ∧ w.heap[b]? = some o ∧ p.2.R m ρ (m.κ p.1) o)
  | [], vs, ds, ps, i, id, hok, ht, ha, hρ, hm => by
      obtain ⟨rfl, _, _⟩ := trodAll_nil ht
      exact ⟨by simp [shDV, DV.RL], by simp [shB], by simp [shH]⟩
  | (t, k) :: sh, vs, ds, ps, i, id, hok, ht, ha, hρ, hm => by
      simp only [List.map_cons] at ht hok
      obtain ⟨v, vs', d, ds', p, q, rfl, rfl, rfl, h1, h2⟩ := trodAll_cons ht
      have ho : Value.okWide P w r b0 t v := hok 0 t v rfl rfl
      have hok' : ∀ (j : Nat) t v, (sh.map (·.1))[j]? = some t → vs'[j]? = some v → Value.okWide P w r b0 t v := fun j t' v' h1 h2 => hok (j + 1) t' v' (by simpa using h1) (by simpa using h2)
      obtain ⟨hs, ha'⟩ := ha
      match k, hs, hρ, hm with
      | 0, hs, hρ, hm =>
        simp only [shIs] at hs
        have hw := width_cells hs h1
        simp only [shSc] at hρ
        simp only [shBl] at hm
        obtain ⟨hR, hB⟩ := arg_plain (m := m) (ρ := ρ) (i := i) hs ho h1 (fun j u hu => hρ j _ (by
          have hj := (List.getElem?_eq_some_iff.1 hu).1
          rw [List.getElem?_append_left (by simpa using hj), List.getElem?_map, hu]; rfl))
        obtain ⟨hRs, hBs, hHs⟩ := sh_ok (i := i + width P t) (id := id) hok' h2 ha' (fun j u hu => by
          have := hρ (width P t + j) u (by rw [List.getElem?_append_right (by simp [hw]), List.length_map, hw]; simpa using hu)
          rw [← this]; congr 1; omega) hm
        refine ⟨⟨v, vs', rfl, hR, hRs⟩, fun p hp => ?_, ?_⟩
        · simp only [shB, List.mem_append] at hp
          rcases hp with hp | hp
          · exact hB p hp
          · exact hBs p hp
        · simpa [shH, shN] using hHs
      | 1, hs, hρ, hm =>
        simp only [shIs] at hs
        simp only [shSc] at hρ
        simp only [shBl] at hm
        obtain ⟨hRs, hBs, hHs⟩ := sh_ok (i := i) (id := id) hok' h2 ha' hρ hm
        exact ⟨⟨v, vs', rfl, by simpa only [DV.R] using hs, hRs⟩, by simpa [shB] using hBs, by simpa [shH, shN] using hHs⟩
      | k + 2, hs, hρ, hm =>
        obtain ⟨b, q', len, cap, c, t', fr, rfl, hl0, hlc, hcm, hb, hsz, hcell⟩ := hs
        simp only [shSc, hb] at hρ
        simp only [shBl] at hm
        obtain ⟨hRs, hBs, hHs⟩ := sh_ok (i := i + 4) (id := id + 1) hok' h2 ha' (fun j u hu => by
          have := hρ (j + 4) u (by simpa using hu)
          rw [← this]; congr 1; omega) (fun j b' hb' => by
          have := hm (j + 1) b' (by simpa using hb')
          rw [← this]; congr 1; omega)
        have e0 := hρ 0 _ rfl
        have e1 := hρ 1 _ rfl
        have e2 := hρ 2 _ rfl
        have e3 := hρ 3 _ rfl
        have eb := hm 0 _ rfl
        simp only [Nat.add_zero] at e0 eb
        have hml : (maxLen : Int) = 9223372036854775807 := by decide
        refine ⟨⟨_, vs', rfl, ?_, hRs⟩, fun p hp => ?_, fun p hp => ?_⟩
        · simp only [DV.R, Off.den, sumT, E.ev, Cap.den, e0, e2, e3]
          refine ⟨b, eb, ?_, by simp, by simpa using hlc⟩
          simp
        · simp only [shB, List.mem_cons] at hp
          rcases hp with rfl | rfl | hp
          · simp only [E.ev, e2]; simp; omega
          · simp only [E.ev, e3]; simp; omega
          · exact hBs p hp
        · simp only [shH, List.mem_cons] at hp
          simp only [shN, show ¬ (k + 2 ≤ 1) by omega, if_false]
          rcases hp with rfl | hp
          · refine ⟨Nat.le_refl _, by simp only; omega, b, _, eb, hb, c, fr, ⟨_, rfl⟩, ?_, ?_, ?_, ?_, trivial⟩
            · simp only [E.ev, e1, e2]; simp; omega
            · simp only [E.ev, e0, e1]; simp; omega
            · intro j u hu
              simp only [E.ev, e1] at hu
              simp only [E.ev, e0]
              simp only [Sc.arr_A, List.getElem?_take, List.getElem?_drop] at hu
              split at hu
              · simpa using hu
              · cases hu
            · intro j u hu
              simp only [E.ev, e1] at hu
              simp only [Sc.arr_A, List.getElem?_take, List.getElem?_drop] at hu
              split at hu
              · rename_i hj
                have hq0 : 0 < (elemK P t).length := by rcases Nat.eq_zero_or_pos (elemK P t).length with h | h; (rw [h] at hj; omega); exact h
                have hlt := Nat.mod_lt j hq0
                have hk : (elemK P t)[j % (elemK P t).length]? = some ((elemK P t)[j % (elemK P t).length]'hlt) := by simp [hlt]
                have := Kd.ok_of_wok (hcell j _ u hj hk (by simpa using hu))
                simpa [List.getD_eq_getElem?_getD, hk] using this
              · cases hu
          · obtain ⟨g1, g2, g3⟩ := hHs p hp
            exact ⟨by omega, by omega, g3⟩
end
end Go.Eng

/-
  The step of a law's row, its arguments plain or slices of plain elements: what is to be shown, shape by shape.
-/
namespace Go.Eng
open Go.RowKit Go.ChangeShapes Go.WideShapes Go.ChangeAt

section
variable (P : Program)

def allSh : List TypeId → List Sh
  | [] => [[]]
  | t :: ts => if okPlain P t then (allSh ts).map ((t, 0) :: ·) else (allSh ts).flatMap fun r => [(t, 1) :: r, (t, 2) :: r]

def argsOkB (ts : List TypeId) : Bool := ts.all fun t => P.readableRec t && decide (t < P.types.size) && (okPlain P t || okSlice P t)

/-- What a law says where its arguments are of a shape. -/
def Law (f : FuncId) (sh : Sh) : Prop := ∀ (ρ : Env) (m : Emb) (w : World) (vs : Array Value), (∀ p ∈ shB P sh 0, p.2.1 ≤ (p.1.ev ρ).int ∧ (p.1.ev ρ).int ≤ p.2.2) → DV.RL m ρ (shDV P sh 0 0) vs.toList →
  HeapR m ρ (T.ofList (shH P sh 0 0)) w → (∀ id, shN sh ≤ id → m.ι id = none) → Calls P f vs w fun e w' => e = .returned (.bool true) ∧ Below w.heap.size w w'

/-- The same, with more numbers, from 900 on, of which something is known. -/
def LawS (f : FuncId) (sh : Sh) : Prop := ∃ S : Env → Prop, (∀ ρ : Env, ∃ (x : Nat → Sc) (f : Nat → Sc → Sc → Sc → Sc), S { v := fun i => if i < 900 then ρ.v i else x i, f := f }) ∧ ∀ (ρ : Env) (m : Emb) (w : World) (vs : Array Value), S ρ →
  (∀ p ∈ shB P sh 0, p.2.1 ≤ (p.1.ev ρ).int ∧ (p.1.ev ρ).int ≤ p.2.2) → DV.RL m ρ (shDV P sh 0 0) vs.toList →
  HeapR m ρ (T.ofList (shH P sh 0 0)) w → (∀ id, shN sh ≤ id → m.ι id = none) → Calls P f vs w fun e w' => e = .returned (.bool true) ∧ Below w.heap.size w w'

theorem Law.toS {f : FuncId} {sh : Sh} (h : Law P f sh) : LawS P f sh := ⟨fun _ => True, fun _ => ⟨fun _ => .I 0, fun _ _ _ _ => .I 0, trivial⟩, fun ρ m w vs _ => h ρ m w vs⟩

def shLen : Sh → Nat
  | [] => 0
  | (t, k) :: r => (match k with | 0 => width P t | 1 => 0 | _ => 4) + shLen r

variable {P}

theorem shH_ro : ∀ {sh : Sh} {i id : Nat}, ∀ p ∈ shH P sh i id, p.2.rw = false
  | [], i, id, p, hp => by simp [shH] at hp
  | (t, k) :: r, i, id, p, hp => by
    match k, hp with
    | 0, hp => exact shH_ro p (by simpa [shH] using hp)
    | 1, hp => exact shH_ro p (by simpa [shH] using hp)
    | k + 2, hp =>
      simp only [shH, List.mem_cons] at hp
      rcases hp with rfl | hp
      · rfl
      · exact shH_ro p hp

theorem shBl_length (w : World) : ∀ {sh : Sh} {vs : List Value}, shAll P w sh vs → (shBl sh vs).length = shN sh
  | [], [], _ => rfl
  | (t, k) :: r, v :: vs, h => by
    match k, h with
    | 0, h => simp [shBl, shN, shBl_length w h.2]
    | 1, h => simp [shBl, shN, shBl_length w h.2]
    | k + 2, h => simp [shBl, shN, shBl_length w h.2]; omega
  | [], _ :: _, h => h.elim
  | _ :: _, [], h => h.elim

theorem shSc_length {H : Type} {enc : TypeId × Value → H} {w : World} {base : Nat} {spare : Nat → Bool} {held : Bool} : ∀ {sh : Sh} {vs : List Value} {ds : List (DataW H)} {ps : List MemPlace}, DataW.TrodAll enc P w base spare held (sh.map (·.1)) vs ds ps → shAll P w sh vs → (shSc P w sh vs).length = shLen P sh
  | [], vs, ds, ps, ht, _ => by
    obtain ⟨rfl, _, _⟩ := trodAll_nil ht
    rfl
  | (t, k) :: r, vs, ds, ps, ht, h => by
    simp only [List.map_cons] at ht
    obtain ⟨v, vs', d, ds', p, q, rfl, rfl, rfl, h1, h2⟩ := trodAll_cons ht
    match k, h with
    | 0, h => simp only [shSc, shLen, List.length_append, List.length_map, shSc_length h2 h.2, width_cells h.1 h1]
    | 1, h => simp only [shSc, shLen, shSc_length h2 h.2, Nat.zero_add]
    | k + 2, h =>
      obtain ⟨⟨b, q', len, cap, c, t', fr, rfl, _⟩, hr'⟩ := h
      simp only [shSc, shLen, List.length_append, shSc_length h2 hr', List.length_cons, List.length_nil]

theorem allSh_map : ∀ {ts : List TypeId} {sh : Sh}, sh ∈ allSh P ts → sh.map (·.1) = ts
  | [], sh, h => by simp [allSh] at h; simp [h]
  | t :: ts, sh, h => by
    simp only [allSh] at h
    split at h
    · simp only [List.mem_map] at h
      obtain ⟨r, hr, rfl⟩ := h
      simp [allSh_map hr]
    · simp only [List.mem_flatMap, List.mem_cons, List.not_mem_nil, or_false] at h
      obtain ⟨r, hr, rfl | rfl⟩ := h <;> simp [allSh_map hr]

variable {H : Type} {enc : TypeId × Value → H} {w : World} {base : Nat} {spare : Nat → Bool} {held : Bool}

theorem sh_of {r : Reach} {b0 : Nat} : ∀ {ts : List TypeId} {vs : List Value} {ds : List (DataW H)} {ps : List MemPlace}, argsOkB P ts = true →
    (∀ (j : Nat) t v, ts[j]? = some t → vs[j]? = some v → Value.okWide P w r b0 t v) → DataW.TrodAll enc P w base spare held ts vs ds ps → ∃ sh ∈ allSh P ts, shAll P w sh vs
  | [], vs, ds, ps, hk, hok, ht => by
    obtain ⟨rfl, _, _⟩ := trodAll_nil ht
    exact ⟨[], by simp [allSh], trivial⟩
  | t :: ts, vs, ds, ps, hk, hok, ht => by
    obtain ⟨v, vs', d, ds', p, q, rfl, rfl, rfl, h1, h2⟩ := trodAll_cons ht
    simp only [argsOkB, List.all_cons, Bool.and_eq_true, decide_eq_true_eq, Bool.or_eq_true] at hk
    obtain ⟨⟨_, hk1⟩, hk2⟩ := hk
    obtain ⟨sh, hsh, ha⟩ := sh_of (by simpa only [argsOkB, List.all_eq_true, Bool.and_eq_true, decide_eq_true_eq, Bool.or_eq_true] using hk2) (fun j t' v' h1 h2 => hok (j + 1) t' v' (by simpa using h1) (by simpa using h2)) h2
    have ho : Value.okWide P w r b0 t v := hok 0 t v rfl rfl
    simp only [allSh]
    by_cases hp : okPlain P t = true
    · rw [if_pos hp]
      exact ⟨(t, 0) :: sh, List.mem_map.2 ⟨sh, hsh, rfl⟩, hp, ha⟩
    · rw [if_neg hp]
      have hs : okSlice P t = true := hk1.resolve_left hp
      unfold okSlice at hs
      split at hs
      · rename_i e he
        split at hs
        · rename_i ks hks
          simp only [Bool.and_eq_true, beq_iff_eq, decide_eq_true_eq] at hs
          have hu : P.underlying t = some (.slice e) := by
            unfold elemT at he
            split at he
            · rename_i e' hu; cases he; exact hu
            · cases he
          have hek : elemK P t = ks := by simp only [elemK, he, hks, Option.getD_some]
          obtain ⟨a, len, cap, rfl⟩ := okWide_slice hu ho
          rcases slice_plain hu hks hs.1 hs.2 h1 with rfl | ⟨b, q', c, t', fr, rfl, g1, g2, g3, g4, g5, g6⟩
          · exact ⟨(t, 1) :: sh, List.mem_flatMap.2 ⟨sh, hsh, by simp⟩, ⟨_, _, rfl⟩, ha⟩
          · refine ⟨(t, 2) :: sh, List.mem_flatMap.2 ⟨sh, hsh, by simp⟩, ⟨b, q', len, cap, c, t', fr, rfl, g1, g2, g3, g4, ?_, ?_⟩, ha⟩
            · rw [hek]; exact g5
            · rw [hek]; exact g6
        · cases hs
      · cases hs

/-- The contract that the row asks, out of the law, shape by shape. -/
theorem shapes_contract {C : Checked} (laidOut : laidOutB C.prog = true) {f : FuncId} {fn : Func} {s : ChangeSpec} {apart : Bool} {tb : TypeId}
    (hts : argsOkB C.prog fn.params.toList = true) (hres : fn.resultTypes = #[tb]) (htb : C.prog.underlying tb = some .bool) (hvs : s.vars = [])
    (hsf : ∀ ds : List (DataW H), ds.length = fn.params.toList.length → s.fn H ds = { results := [.lit (.bool true)], args := ds })
    (hshort : ((allSh C.prog fn.params.toList).all fun sh => decide (shLen C.prog sh ≤ 900)) = true) (law : ∀ sh ∈ allSh C.prog fn.params.toList, LawS C.prog f sh)
    (W : World) (base : Nat) (args : Array Value) (ds gs : List (DataW H)) (before : List MemPlace)
    (hval : ∀ (j : Nat) t v, fn.params[j]? = some t → args[j]? = some v → Value.okWide C.prog W .any base t v)
    (hW : DataW.Whole enc C.prog fn.params.toList s.vars apart W args.toList ds gs before) :
    Calls C.prog f args W fun e W' => ∃ v, e = .returned v ∧ s.post enc C.prog fn apart true false false W args v W' := by
  have hW' := hW
  obtain ⟨p, q, hA, hV, rfl, hfz, hnd⟩ := hW
  have hlen : ∀ {ts : List TypeId} {vs : List Value} {ds : List (DataW H)} {ps : List MemPlace}, DataW.TrodAll enc C.prog W 0 (fun _ => true) true ts vs ds ps → ds.length = ts.length := by
    intro ts
    induction ts with
    | nil => intro vs ds ps h; obtain ⟨_, rfl, _⟩ := trodAll_nil h; rfl
    | cons t ts ih =>
      intro vs ds ps h
      obtain ⟨v, vs', d, ds', p, q, rfl, rfl, rfl, h1, h2⟩ := trodAll_cons h
      simp [ih h2]
  have hg : gs = [] := by
    rw [hvs] at hV
    exact (trodVars_none hV).1
  have hok : ∀ (j : Nat) t v, fn.params.toList[j]? = some t → args.toList[j]? = some v → Value.okWide C.prog W .any base t v := fun j t v h1 h2 => hval j t v (by simpa using h1) (by simpa using h2)
  obtain ⟨sh, hsh, ha⟩ := sh_of hts hok hA
  have hmap := allSh_map hsh
  have hbl := shBl_length W ha
  have hsl := shSc_length (by rw [hmap]; exact hA) ha
  have hshort' : shLen C.prog sh ≤ 900 := by
    simp only [List.all_eq_true, decide_eq_true_eq] at hshort
    exact hshort sh hsh
  obtain ⟨S, hSx, hlaw⟩ := law sh hsh
  obtain ⟨x, xf, hx⟩ := hSx { v := fun i => (shSc C.prog W sh args.toList).getD i (.I 0) }
  obtain ⟨hR, hB, hH⟩ := sh_ok (m := ⟨fun id => (shBl sh args.toList)[id]?, fun _ => 0⟩) (ρ := { v := fun i => if i < 900 then (shSc C.prog W sh args.toList).getD i (.I 0) else x i, f := xf }) (i := 0) (id := 0) (by rw [hmap]; exact hok) (by rw [hmap]; exact hA) ha
    (fun j u hu => by
      have := (List.getElem?_eq_some_iff.1 hu).1
      simp only [Nat.zero_add, List.getD_eq_getElem?_getD, hu, Option.getD_some]
      rw [if_pos (by omega)]) (fun j b hb => by simpa using hb)
  refine (hlaw _ _ W args hx hB hR ⟨fun id B hB' _ => ?_, fun id id' B B' b hB' _ hrw => ?_⟩ (fun id hid => ?_)).mono fun e W' ⟨he, bel⟩ => ?_
  · obtain ⟨_, _, b, o, h1, h2, h3⟩ := hH _ (ofList_mem hB')
    exact ⟨b, o, h1, h2, h3⟩
  · rw [shH_ro _ (ofList_mem hB')] at hrw; cases hrw
  · simp; omega
  · subst he
    refine ⟨_, rfl, post_true laidOut ?_ hres htb hvs ?_ hW' bel⟩
    · simp only [argsOkB, List.all_eq_true, Bool.and_eq_true, decide_eq_true_eq] at hts
      simp only [List.all_eq_true, Bool.and_eq_true, decide_eq_true_eq]; exact fun t ht => (hts t ht).1
    · rw [hg, List.append_nil]; exact hsf ds (hlen hA)

/-- The whole step of the row: what is to be shown is the law, shape by shape. -/
theorem lifted_shapes {C : Checked} (own : ownKnob C.prog.godebug = none) (laidOut : laidOutB C.prog = true) {os : Os} (started : os.Started) {f : FuncId} {fn : Func} {s : ChangeSpec} {conds : List PathCond} {apart : Bool} {tb : TypeId}
    (noInit : C.prog.inits.idxOf? f = none) (hf : C.prog.funcs[f]? = some fn)
    (witness : ∃ (w : World) (tape : Tape) (i : Input), w.os = os ∧ (w.forCall tape i).Shaped C.prog ∧ i.vars = [] ∧ Input.okWide C.prog (w.forCall tape i) .any w.heap.size f i ∧
      s.pre6 enc C.prog fn conds apart (w.forCall tape i).memory i.args ∧ Assume.holds {} C.prog (lone (Frame.enter C.prog f i.args .normal) [] (w.forCall tape i)))
    (hts : argsOkB C.prog fn.params.toList = true) (hres : fn.resultTypes = #[tb]) (htb : C.prog.underlying tb = some .bool) (hvs : s.vars = [])
    (hsf : ∀ ds : List (DataW H), ds.length = fn.params.toList.length → s.fn H ds = { results := [.lit (.bool true)], args := ds })
    (hshort : ((allSh C.prog fn.params.toList).all fun sh => decide (shLen C.prog sh ≤ 900)) = true) (law : ∀ sh ∈ allSh C.prog fn.params.toList, LawS C.prog f sh) :
    ReturnsInHanded {} C os f .any (s.pre6 enc C.prog fn conds apart) (s.post enc C.prog fn apart true false false) :=
  returnsInHanded_of_change own started noInit hf witness fun W base args ds gs before hval hW _ _ => shapes_contract laidOut hts hres htb hvs hsf hshort law W base args ds gs before hval hW

/-- A law by cases, of a shape. -/
theorem law_cases {P : Program} {f : FuncId} {sh : Sh} {loops depth : Nat} {dt : DT} (hr : DT.run P (fun _ => Γ0) loops depth f (shDV P sh 0 0) (T.ofList (shH P sh 0 0)) (shN sh) goodTrue { bnds := shB P sh 0 } dt = true)
    (fit : ∀ ρ : Env, (∀ p ∈ shB P sh 0, p.2.1 ≤ (p.1.ev ρ).int ∧ (p.1.ev ρ).int ≤ p.2.2) → dt.Fit ρ) : Law P f sh := fun ρ m w vs hb hvs hH hf =>
  law_by_cases (fun _ => Γ0_ok) hr (ρ := ρ) ⟨by simp, hb, by simp, trivial⟩ (fit ρ hb) hvs hH hf (fun id B h => shH_ro _ (ofList_mem h))

/-- A law by its loops, of a shape. -/
theorem law_points {P : Program} {f : FuncId} {sh : Sh} {loops depth : Nat} {root : Code} {fn : Func} (hfn : P.funcs[f]? = some fn) (hbody : fn.body = some root) (hlen : (shDV P sh 0 0).length ≤ fn.ntmps)
    {Γ : Facts → FuncId → Option CallD} {S : Env → Prop} (hΓ : ∀ F : Facts, F.sem = S → ΓOk P F (Γ F)) (hS : ∀ ρ : Env, ∃ (x : Nat → Sc) (f : Nat → Sc → Sc → Sc → Sc), S { v := fun i => if i < 900 then ρ.v i else x i, f := f })
    {pts : List Pt} (hsem : ∀ p ∈ pts, p.facts.sem = S) (hpts : ∀ p ∈ pts, ptOk P Γ loops depth root fn pts p = true) {plan : PL}
    (hrun : PL.run (seg P Γ loops depth (pts.map (·.rp)) (.code root []) [] ⟨argsT 0 (shDV P sh 0 0), T.ofList (shH P sh 0 0), shN sh, fn.ntmps, []⟩) (finTrue P fn) pts { bnds := shB P sh 0, sem := S } plan = true)
    (Inv : Nat → Env → Prop) (μ : Nat → Env → Nat)
    (hI : ∀ j p ρ, pts[j]? = some p → Inv j ρ → p.facts.ok ρ ∧ p.Fit oblT (fun j' ρ' => Inv j' ρ' ∧ μ j' ρ' < μ j ρ) ρ)
    (fit : ∀ ρ : Env, S ρ → (∀ p ∈ shB P sh 0, p.2.1 ≤ (p.1.ev ρ).int ∧ (p.1.ev ρ).int ≤ p.2.2) → plan.Fit oblT Inv ρ) : LawS P f sh := ⟨S, hS, fun ρ m w vs hs hb hvs hH hf =>
  law_by_points hΓ hfn hbody hlen hsem hpts rfl hrun Inv μ hI (ρ := ρ) ⟨by simp, hb, by simp, hs⟩ (fit ρ hs hb) hvs hH hf (fun id B h => shH_ro _ (ofList_mem h))⟩

theorem Facts.ok_iff {F : Facts} {ρ : Env} : F.ok ρ ↔ (∀ p ∈ F.conds, (p.1.ev ρ).bool = p.2) ∧ (∀ p ∈ F.bnds, p.2.1 ≤ (p.1.ev ρ).int ∧ (p.1.ev ρ).int ≤ p.2.2) ∧ (∀ p ∈ F.eqs, p.1.ev ρ = p.2.ev ρ) ∧ F.sem ρ :=
  ⟨fun h => ⟨h.conds, h.bnds, h.eqs, h.sem⟩, fun h => ⟨h.1, h.2.1, h.2.2.1, h.2.2.2⟩⟩

theorem upd_cons (ρ : Env) (k : Nat) (e : E) (r : List (Nat × E)) (n : Nat) : (ρ.upd (T.ofList ((k, e) :: r))).v n = if n = k then e.ev ρ else (ρ.upd (T.ofList r)).v n := by
  simp only [Env.upd, T.ofList, T.get_set]
  by_cases h : n = k <;> simp [h]
theorem upd_nil (ρ : Env) (n : Nat) : (ρ.upd (T.ofList [])).v n = ρ.v n := rfl

theorem rng_of {F : Facts} {ρ : Env} (hF : F.ok ρ) {e : E} {x y : Int} (h : e.rng F = (some x, some y)) : x ≤ (e.ev ρ).int ∧ (e.ev ρ).int ≤ y := by
  have := E.rng_has hF e
  rw [h] at this
  exact ⟨this.1 _ rfl, this.2 _ rfl⟩
end
end Go.Eng

/-
  What expressions say: for the plain laws.
-/
namespace Go.Eng
section
variable (ρ : Env) (a b c : E)
theorem ev_vr (n : Nat) : (E.vr n).ev ρ = ρ.v n := rfl
theorem ev_li (n : Int) : ((E.li n).ev ρ).int = n := rfl
theorem ev_lb (w : Bool) : ((E.lb w).ev ρ).bool = w := rfl
theorem ev_ls (x : ByteArray) : ((E.ls x).ev ρ).str = x := rfl
theorem ev_add : ((E.bi .add a b).ev ρ).int = (a.ev ρ).int + (b.ev ρ).int := rfl
theorem ev_sub : ((E.bi .sub a b).ev ρ).int = (a.ev ρ).int - (b.ev ρ).int := rfl
theorem ev_mul : ((E.bi .mul a b).ev ρ).int = (a.ev ρ).int * (b.ev ρ).int := rfl
theorem ev_tmod : ((E.bi .tmod a b).ev ρ).int = (a.ev ρ).int.tmod (b.ev ρ).int := rfl
theorem ev_tdiv : ((E.bi .tdiv a b).ev ρ).int = (a.ev ρ).int.tdiv (b.ev ρ).int := rfl
theorem ev_wrap (k : IntKind) : ((E.un (.wrap k) a).ev ρ).int = k.wrap (a.ev ρ).int := rfl
theorem ev_len : ((E.un .len a).ev ρ).int = (a.ev ρ).str.size := rfl
theorem ev_alen : ((E.un .alen a).ev ρ).int = (a.ev ρ).arr.length := rfl
theorem ev_lt : (((E.bi .lt a b).ev ρ).bool = true) = ((a.ev ρ).int < (b.ev ρ).int) := by simp [E.ev, B2.ev]
theorem ev_ltf : (((E.bi .lt a b).ev ρ).bool = false) = ((b.ev ρ).int ≤ (a.ev ρ).int) := by simp [E.ev, B2.ev]
theorem ev_eqi : (((E.bi .eqi a b).ev ρ).bool = true) = ((a.ev ρ).int = (b.ev ρ).int) := by simp [E.ev, B2.ev]
theorem ev_eqif : (((E.bi .eqi a b).ev ρ).bool = false) = ((a.ev ρ).int ≠ (b.ev ρ).int) := by simp [E.ev, B2.ev]
theorem ev_eqs : (((E.bi .eqs a b).ev ρ).bool = true) = ((a.ev ρ).str = (b.ev ρ).str) := by simp [E.ev, B2.ev]
theorem ev_eqsf : (((E.bi .eqs a b).ev ρ).bool = false) = ((a.ev ρ).str ≠ (b.ev ρ).str) := by simp [E.ev, B2.ev]
theorem ev_eqb : (((E.bi .eqb a b).ev ρ).bool = true) = ((a.ev ρ).bool = (b.ev ρ).bool) := by simp [E.ev, B2.ev]
theorem ev_eqbf : (((E.bi .eqb a b).ev ρ).bool = false) = ((a.ev ρ).bool ≠ (b.ev ρ).bool) := by simp [E.ev, B2.ev]
theorem ev_not : (((E.un .not a).ev ρ).bool = true) = ((a.ev ρ).bool = false) := by simp [E.ev, U.ev]
theorem ev_notf : (((E.un .not a).ev ρ).bool = false) = ((a.ev ρ).bool = true) := by simp [E.ev, U.ev]
theorem ev_and : (((E.bi .and a b).ev ρ).bool = true) = ((a.ev ρ).bool = true ∧ (b.ev ρ).bool = true) := by simp [E.ev, B2.ev]
theorem ev_andf : (((E.bi .and a b).ev ρ).bool = false) = ((a.ev ρ).bool = false ∨ (b.ev ρ).bool = false) := by
  simp only [E.ev, B2.ev, Sc.bool_B]; cases (a.ev ρ).bool <;> simp
theorem ev_or : (((E.bi .or a b).ev ρ).bool = true) = ((a.ev ρ).bool = true ∨ (b.ev ρ).bool = true) := by simp [E.ev, B2.ev]
theorem ev_orf : (((E.bi .or a b).ev ρ).bool = false) = ((a.ev ρ).bool = false ∧ (b.ev ρ).bool = false) := by simp [E.ev, B2.ev]
theorem ev_ite : (E.tr .ite a b c).ev ρ = if (a.ev ρ).bool = true then b.ev ρ else c.ev ρ := rfl
theorem ite_int (p : Prop) [Decidable p] (x y : Sc) : (if p then x else y).int = if p then x.int else y.int := by split <;> rfl
theorem ite_bool (p : Prop) [Decidable p] (x y : Sc) : (if p then x else y).bool = if p then x.bool else y.bool := by split <;> rfl
theorem ite_str (p : Prop) [Decidable p] (x y : Sc) : (if p then x else y).str = if p then x.str else y.str := by split <;> rfl
end

/-- Only variables below N. -/
def E.under (N : Nat) : E → Bool
  | .vr n => decide (n < N)
  | .li _ => true
  | .lb _ => true
  | .ls _ => true
  | .un _ a => a.under N
  | .bi _ a b => a.under N && b.under N
  | .tr _ a b c => a.under N && b.under N && c.under N

theorem ofList_ge {N : Nat} : ∀ {σ : List (Nat × E)}, (σ.all fun p => decide (N ≤ p.1)) = true → ∀ n, n < N → (T.ofList σ).get n = none
  | [], _, n, _ => rfl
  | (k, e) :: r, h, n, hn => by
    simp only [List.all_cons, Bool.and_eq_true, decide_eq_true_eq] at h
    simp only [T.ofList, T.get_set]
    rw [if_neg (by omega), ofList_ge h.2 n hn]

theorem under_upd {N : Nat} {σ : List (Nat × E)} (hσ : (σ.all fun p => decide (N ≤ p.1)) = true) (ρ : Env) : ∀ {e : E}, e.under N = true → e.ev (ρ.upd (T.ofList σ)) = e.ev ρ
  | .vr n, h => by
    simp only [E.under, decide_eq_true_eq] at h
    simp only [E.ev, Env.upd, ofList_ge hσ n h]
  | .li n, _ => rfl
  | .lb w, _ => rfl
  | .ls x, _ => rfl
  | .un o a, h => by simp only [E.under] at h; simp only [E.ev, under_upd hσ ρ h]
  | .bi o a b, h => by
    simp only [E.under, Bool.and_eq_true] at h
    simp only [E.ev, under_upd hσ ρ h.1, under_upd hσ ρ h.2]
  | .tr o a b c, h => by
    simp only [E.under, Bool.and_eq_true] at h
    simp only [E.ev, under_upd hσ ρ h.1.1, under_upd hσ ρ h.1.2, under_upd hσ ρ h.2]
    cases o <;> rfl

def Facts.under (N : Nat) (F : Facts) : Bool := (F.conds.all fun p => p.1.under N) && (F.bnds.all fun p => p.1.under N) && (F.eqs.all fun p => p.1.under N && p.2.under N)

theorem Facts.ok_upd {F : Facts} {ρ : Env} (h : F.ok ρ) {N : Nat} (hb : F.under N = true) {σ : List (Nat × E)} (hσ : (σ.all fun p => decide (N ≤ p.1)) = true) (hs : F.sem ρ → F.sem (ρ.upd (T.ofList σ)) := by exact fun h => h) : F.ok (ρ.upd (T.ofList σ)) := by
  simp only [Facts.under, Bool.and_eq_true, List.all_eq_true] at hb
  obtain ⟨⟨b1, b2⟩, b3⟩ := hb
  refine ⟨fun p hp => ?_, fun p hp => ?_, fun p hp => ?_, hs h.sem⟩
  · rw [under_upd hσ ρ (b1 p hp)]; exact h.conds p hp
  · rw [under_upd hσ ρ (b2 p hp)]; exact h.bnds p hp
  · rw [under_upd hσ ρ (b3 p hp).1, under_upd hσ ρ (b3 p hp).2]; exact h.eqs p hp

/-- Facts told in two parts. -/
def Facts.join (A B : Facts) : Facts := { conds := A.conds ++ B.conds, bnds := A.bnds ++ B.bnds, eqs := A.eqs ++ B.eqs, sem := A.sem }

theorem Facts.join_ok {A B : Facts} {ρ : Env} (ha : A.ok ρ) (hb : B.ok ρ) : (A.join B).ok ρ := by
  refine ⟨fun p hp => ?_, fun p hp => ?_, fun p hp => ?_, ha.sem⟩
  · rcases List.mem_append.1 hp with h | h
    · exact ha.conds p h
    · exact hb.conds p h
  · rcases List.mem_append.1 hp with h | h
    · exact ha.bnds p h
    · exact hb.bnds p h
  · rcases List.mem_append.1 hp with h | h
    · exact ha.eqs p h
    · exact hb.eqs p h
end Go.Eng

/-
  Contracts of functions that only read: what a call answers is told by a number that is known of.
-/
namespace Go.Eng
open Go.RowKit

section
variable {P : Program} {F : Facts}

/-- What was known of memory stays known where nothing that was there is written. -/
theorem heap_below {m : Emb} {ρ : Env} {h : T Blk} {w w' : World} (hH : HeapR m ρ h w) (hb : Below w.heap.size w w') : HeapR m ρ h w' :=
  ⟨fun id B hB hl => by
    obtain ⟨b, o, h1, h2, h3⟩ := hH.blk id B hB hl
    exact ⟨b, o, h1, by rw [hb.block b (Array.getElem?_eq_some_iff.1 h2).1]; exact h2, h3⟩, hH.inj⟩

theorem trans_below {m : Emb} {h : T Blk} {w w' : World} (hb : Below w.heap.size w w') : Trans m h w m h w' :=
  ⟨Emb.le_refl m, hb.size, fun b hlt _ => hb.block b hlt, fun _ hf => .inl hf, hb.tape, hb.os, hb.output⟩

/-- A call that is answered by a known number, where its arguments are as told. -/
def readC (σ : T E) (r : Nat → Nat) (n0 : Nat) (args : List DV) (heap : List (Nat × Blk)) (res : DV) : CallD := fun _ as h n =>
  if matchDL σ r n0 args as && heap.all (fun p => decide (p.1 < n0) && (match h.get (r p.1) with | some B' => matchB σ r n0 p.2 B' && (!p.2.live || B'.live) && !p.2.rw | none => false)) then some ⟨res, h, n⟩ else none

theorem readC_ok {σ : T E} {r : Nat → Nat} {n0 : Nat} {args : List DV} {heap : List (Nat × Blk)} {res : DV} {f : FuncId}
    (hcall : ∀ ρ, F.ok ρ → ∀ m w (vs : Array Value), DV.RL (m.pull r n0) (ρ.upd σ) args vs.toList → HeapR (m.pull r n0) (ρ.upd σ) (T.ofList heap) w → (∀ id, n0 ≤ id → (m.pull r n0).ι id = none) →
      Calls P f vs w fun e w' => ∃ v, e = .returned v ∧ res.R m ρ v ∧ Below w.heap.size w w') :
    ∀ g as h n x, readC σ r n0 args heap res g as h n = some x → ∀ ρ, F.ok ρ → ∀ m w (vs : Array Value), DV.RL m ρ as vs.toList → HeapR m ρ h w → (∀ id, n ≤ id → m.ι id = none) →
      Calls P f vs w fun e w' => ∃ v m', e = .returned v ∧ x.d.R m' ρ v ∧ HeapR m' ρ x.h w' ∧ Trans m h w m' x.h w' ∧ (∀ id, x.n ≤ id → m'.ι id = none) := by
  intro g as h n x hx ρ hF m w vs hvs hH hf
  unfold readC at hx
  split at hx
  · rename_i hc
    cases hx
    simp only [Bool.and_eq_true, List.all_eq_true, decide_eq_true_eq] at hc
    obtain ⟨h1, h2⟩ := hc
    have key : ∀ id B, (T.ofList heap).get id = some B → id < n0 ∧ B.rw = false ∧ ∃ B', h.get (r id) = some B' ∧ matchB σ r n0 B B' = true ∧ (B.live = true → B'.live = true) := by
      intro id B hB
      have := h2 _ (ofList_mem hB)
      simp only at this
      obtain ⟨hlt, h'⟩ := this
      split at h'
      · rename_i B' hB'
        simp only [Bool.and_eq_true, Bool.or_eq_true, Bool.not_eq_true'] at h'
        exact ⟨hlt, h'.2, B', hB', h'.1.1, fun e => by rcases h'.1.2 with g | g; (rw [e] at g; cases g); exact g⟩
      · cases h'
    refine (hcall ρ hF m w vs (matchDL_ok h1 hvs) ⟨fun id B hB hl => ?_, fun id id' B B' b hB _ hrw => ?_⟩ (fun id hid => ?_)).mono fun e w' ⟨v, he, hd, hb⟩ => ?_
    · obtain ⟨hlt, _, B', hB', hm, hlv⟩ := key id B hB
      obtain ⟨b, o, g1, g2, g3⟩ := hH.blk _ _ hB' (hlv hl)
      exact ⟨b, o, by simp only [Emb.pull, hlt, if_true]; exact g1, g2, matchB_ok hm g3⟩
    · rw [(key id B hB).2.1] at hrw; cases hrw
    · simp only [Emb.pull]; rw [if_neg (by omega)]
    · exact ⟨v, m, he, hd, heap_below hH hb, trans_below hb, hf⟩
  · cases hx

/-- A table of one contract. -/
def Γ1 (f : FuncId) (c : CallD) : FuncId → Option CallD := fun g => if g = f then some c else none
end
end Go.Eng
