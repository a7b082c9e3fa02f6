/-
  An argument that is a slice of plain elements.
-/
import Derived.Test.YtgielkefgliiiaaEngY
import Derived.Test.YtgielkefgliiiaaEngAC
import Derived.ChangeArms
namespace Go.Eng
open Go.RowKit Go.ChangeShapes Go.WideShapes Go.ChangeAt

section
variable {P : Program} {H : Type} {enc : TypeId × Value → H} {w : World} {base : Nat} {spare : Nat → Bool} {held : Bool}

theorem cell_block {a : Addr} {u : Value} (h : w.cell? a = some u) : ∃ c t fr, w.heap[a.block]? = some (.cells c t fr) ∧ c[a.off]? = some u := by
  obtain ⟨b, off, sp⟩ := a
  have hs : sp = none := by simpa using World.cell?_spot h
  subst hs
  unfold World.cell? at h
  simp only at h
  split at h
  · rename_i c t fr hb
    exact ⟨c, t, fr, hb, h⟩
  · cases h

/-- What a slice of plain elements is: nothing, or a row of typed cells. -/
theorem slice_plain {t e : TypeId} {ks : List Kd} (ht : P.underlying t = some (.slice e)) (hks : kds P 8 e = some ks) (hq : P.cellsOf e = ks.length) (hq0 : 0 < ks.length)
    {a : Option Addr} {len cap : Nat} {d : DataW H} {ps : List MemPlace} (h : DataW.Trod enc P w base spare held t (.slice a len cap) d ps) :
    len = 0 ∨ ∃ (b q : Nat) (c : Array Value) (t' : TypeId) (fr : Nat × Nat), a = some ⟨b, q, none⟩ ∧ 0 < len ∧ len ≤ cap ∧ cap ≤ maxLen ∧ w.heap[b]? = some (.cells c t' fr) ∧ q + len * ks.length ≤ c.size ∧
      ∀ (i : Nat) (k : Kd) (v : Value), i < len * ks.length → ks[i % ks.length]? = some k → c[q + i]? = some v → k.wok v := by
  obtain ⟨fuel, hf⟩ := h
  rcases DataW.trod_slice ht hf with ⟨h1, _⟩ | ⟨x, l, cp, elems, rest, n, _, h1, _, _, hl, hm, hlen, hel, _, _⟩
  · simp [Value.cells] at h1; exact .inl h1.2.1
  · simp [Value.cells] at h1
    obtain ⟨rfl, rfl, rfl⟩ := h1
    by_cases h0 : len = 0
    · exact .inl h0
    right
    rw [hq] at hel
    have one : ∀ i, i < len → ∃ cs : List Value, cs.length = ks.length ∧ Typed ks cs ∧ ∀ j u, cs[j]? = some u → w.cell? (x.add (i * ks.length + j)) = some u := by
      intro i hi
      have := hel i hi
      have hex : ∃ y, elems[i]? = some y := ⟨elems[i]'(by omega), by simp⟩
      obtain ⟨y, hy⟩ := hex
      rw [hy, Option.bind_eq_some_iff] at this
      obtain ⟨cs, hcs, htr⟩ := this
      have hty := kds_trod 8 e ks hks n cs y htr
      refine ⟨cs, hty.1, hty, fun j u hu => ?_⟩
      unfold World.cells? at hcs
      split at hcs
      · have hj : j < ks.length := by rw [← hty.1]; exact (List.getElem?_eq_some_iff.1 hu).1
        have := mapM_some_get hcs j j (by simp [hj])
        rw [hu, Addr.add_add] at this
        exact this
      · cases hcs
    obtain ⟨cs0, hl0, _, hc0⟩ := one 0 (by omega)
    obtain ⟨u0, hu0⟩ : ∃ u, cs0[0]? = some u := ⟨cs0[0]'(by omega), by simp⟩
    have hx0 := hc0 0 u0 hu0
    have hspot : x.spot = none := by simpa [Addr.add] using World.cell?_spot hx0
    obtain ⟨b, q, sp⟩ := x
    simp only at hspot; subst hspot
    obtain ⟨c, t', fr, hb, hcz⟩ := cell_block hx0
    have hb : w.heap[b]? = some (.cells c t' fr) := by simpa [Addr.add] using hb
    have cellat : ∀ i, i < len * ks.length → ∃ cs j u, Typed ks cs ∧ j = i % ks.length ∧ cs[j]? = some u ∧ c[q + i]? = some u := by
      intro i hi
      have hd : i / ks.length < len := by rw [Nat.div_lt_iff_lt_mul hq0]; exact hi
      obtain ⟨cs, hcl, hty, hcs⟩ := one (i / ks.length) hd
      have hm := Nat.mod_lt i hq0
      obtain ⟨u, hu⟩ : ∃ u, cs[i % ks.length]? = some u := ⟨cs[i % ks.length]'(by rw [hcl]; exact hm), by simp⟩
      have hcu := hcs _ _ hu
      have hi' : i / ks.length * ks.length + i % ks.length = i := by rw [Nat.mul_comm]; exact Nat.div_add_mod i ks.length
      rw [hi'] at hcu
      refine ⟨cs, _, u, hty, rfl, hu, ?_⟩
      rw [add_none] at hcu
      simp only [World.cell?, hb] at hcu
      simpa using hcu
    refine ⟨b, q, c, t', fr, rfl, by omega, hl, hm, hb, ?_, ?_⟩
    · have : 0 < len * ks.length := Nat.mul_pos (by omega) hq0
      obtain ⟨_, _, u, _, _, _, hu⟩ := cellat (len * ks.length - 1) (by omega)
      have := (Array.getElem?_eq_some_iff.1 hu).1
      omega
    · intro i k v hi hk hv
      obtain ⟨cs, j, u, hty, rfl, hu, hcu⟩ := cellat i hi
      rw [hv] at hcu; cases hcu
      exact hty.2 _ _ _ hk hu
end
end Go.Eng
