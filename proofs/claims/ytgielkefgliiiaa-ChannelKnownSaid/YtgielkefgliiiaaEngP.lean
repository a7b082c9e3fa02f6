/-
  Which blocks a value names; which operations of a region come ahead of which.
-/
import Derived.Test.YtgielkefgliiiaaEngO
namespace Go.Eng

mutual
def DV.ids : DV → List Nat
  | .ptr id _ => [id]
  | .slc id _ _ _ => [id]
  | .mp id => [id]
  | .agg l => DV.idsL l
  | .tup l => DV.idsL l
  | .ifc _ v => DV.ids v
  | .fn _ a c => DV.idsL a ++ DV.idsL c
  | _ => []
def DV.idsL : List DV → List Nat
  | [] => []
  | d :: r => DV.ids d ++ DV.idsL r
end

def Emb.same (m m' : Emb) (id : Nat) : Prop := m.ι id = m'.ι id ∧ m.κ id = m'.κ id

mutual
theorem DV.R_congr {m m' : Emb} {ρ : Env} : ∀ {d : DV} {v : Value}, (∀ id ∈ d.ids, m.same m' id) → d.R m ρ v → d.R m' ρ v
  | .int _ _, _, _, h => h
  | .bool _, _, _, h => h
  | .str _, _, _, h => h
  | .ptr id o, v, hs, h => by
    simp only [DV.R] at h ⊢
    obtain ⟨b, hb, hv⟩ := h
    have := hs id (by simp [DV.ids])
    exact ⟨b, this.1 ▸ hb, hv⟩
  | .nilp, _, _, h => h
  | .gptr _ _, _, _, h => h
  | .slc id o len cap, v, hs, h => by
    simp only [DV.R] at h ⊢
    obtain ⟨b, hb, hv, h0, hc⟩ := h
    have := hs id (by simp [DV.ids])
    have e : cap.den m' ρ id = cap.den m ρ id := by cases cap <;> simp [Cap.den, this.2]
    exact ⟨b, this.1 ▸ hb, by rw [e]; exact hv, h0, by rw [e]; exact hc⟩
  | .nils, _, _, h => h
  | .mt, _, _, h => h
  | .agg l, v, hs, h => by
    simp only [DV.R] at h ⊢
    obtain ⟨vs, hv, hl⟩ := h; exact ⟨vs, hv, DV.RL_congr (by simpa [DV.ids] using hs) hl⟩
  | .tup l, v, hs, h => by
    simp only [DV.R] at h ⊢
    obtain ⟨vs, hv, hl⟩ := h; exact ⟨vs, hv, DV.RL_congr (by simpa [DV.ids] using hs) hl⟩
  | .ifc t d, v, hs, h => by
    simp only [DV.R] at h ⊢
    obtain ⟨x, hv, hl⟩ := h; exact ⟨x, hv, DV.R_congr (by simpa [DV.ids] using hs) hl⟩
  | .nili, _, _, h => h
  | .fn f a c, v, hs, h => by
    simp only [DV.R] at h ⊢
    obtain ⟨x, y, hv, h1, h2⟩ := h
    exact ⟨x, y, hv, DV.RL_congr (fun id hid => hs id (by simp [DV.ids, hid])) h1, DV.RL_congr (fun id hid => hs id (by simp [DV.ids, hid])) h2⟩
  | .nilf, _, _, h => h
  | .mp id, v, hs, h => by
    simp only [DV.R] at h ⊢
    obtain ⟨b, hb, hv⟩ := h
    have := hs id (by simp [DV.ids])
    exact ⟨b, this.1 ▸ hb, hv⟩
  | .nilm, _, _, h => h
theorem DV.RL_congr {m m' : Emb} {ρ : Env} : ∀ {l : List DV} {vs : List Value}, (∀ id ∈ DV.idsL l, m.same m' id) → DV.RL m ρ l vs → DV.RL m' ρ l vs
  | [], _, _, h => h
  | d :: r, vs, hs, h => by
    simp only [DV.RL] at h ⊢
    obtain ⟨v, vr, hv, h1, h2⟩ := h
    exact ⟨v, vr, hv, DV.R_congr (fun id hid => hs id (by simp [DV.idsL, hid])) h1, DV.RL_congr (fun id hid => hs id (by simp [DV.idsL, hid])) h2⟩
end

mutual
/-- What a value names lies somewhere. -/
theorem DV.R_mapped {m : Emb} {ρ : Env} : ∀ {d : DV} {v : Value}, d.R m ρ v → ∀ id ∈ d.ids, ∃ b, m.ι id = some b
  | .int _ _, _, _, id, hid => by simp [DV.ids] at hid
  | .bool _, _, _, id, hid => by simp [DV.ids] at hid
  | .str _, _, _, id, hid => by simp [DV.ids] at hid
  | .ptr i o, v, h, id, hid => by
    simp only [DV.R] at h
    simp [DV.ids] at hid; subst hid
    obtain ⟨b, hb, _⟩ := h; exact ⟨b, hb⟩
  | .nilp, _, _, id, hid => by simp [DV.ids] at hid
  | .gptr _ _, _, _, id, hid => by simp [DV.ids] at hid
  | .slc i o len cap, v, h, id, hid => by
    simp only [DV.R] at h
    simp [DV.ids] at hid; subst hid
    obtain ⟨b, hb, _⟩ := h; exact ⟨b, hb⟩
  | .nils, _, _, id, hid => by simp [DV.ids] at hid
  | .mt, _, _, id, hid => by simp [DV.ids] at hid
  | .agg l, v, h, id, hid => by
    simp only [DV.R] at h
    obtain ⟨vs, _, hl⟩ := h; exact DV.RL_mapped hl id (by simpa [DV.ids] using hid)
  | .tup l, v, h, id, hid => by
    simp only [DV.R] at h
    obtain ⟨vs, _, hl⟩ := h; exact DV.RL_mapped hl id (by simpa [DV.ids] using hid)
  | .ifc t d, v, h, id, hid => by
    simp only [DV.R] at h
    obtain ⟨x, _, hl⟩ := h; exact DV.R_mapped hl id (by simpa [DV.ids] using hid)
  | .nili, _, _, id, hid => by simp [DV.ids] at hid
  | .fn f a c, v, h, id, hid => by
    simp only [DV.R] at h
    obtain ⟨x, y, _, h1, h2⟩ := h
    simp only [DV.ids, List.mem_append] at hid
    rcases hid with hid | hid
    · exact DV.RL_mapped h1 id hid
    · exact DV.RL_mapped h2 id hid
  | .nilf, _, _, id, hid => by simp [DV.ids] at hid
  | .mp i, v, h, id, hid => by
    simp only [DV.R] at h
    simp [DV.ids] at hid; subst hid
    obtain ⟨b, hb, _⟩ := h; exact ⟨b, hb⟩
  | .nilm, _, _, id, hid => by simp [DV.ids] at hid
theorem DV.RL_mapped {m : Emb} {ρ : Env} : ∀ {l : List DV} {vs : List Value}, DV.RL m ρ l vs → ∀ id ∈ DV.idsL l, ∃ b, m.ι id = some b
  | [], _, _, id, hid => by simp [DV.idsL] at hid
  | d :: r, vs, h, id, hid => by
    simp only [DV.RL] at h
    obtain ⟨v, vr, _, h1, h2⟩ := h
    simp only [DV.idsL, List.mem_append] at hid
    rcases hid with hid | hid
    · exact DV.R_mapped h1 id hid
    · exact DV.RL_mapped h2 id hid
end

def Blk.ids : Blk → List Nat
  | .cells l _ md => md.ids ++ DV.idsL l
  | .arr _ _ _ _ _ md => md.ids
  | .mpb es => DV.idsL (es.map (·.1)) ++ DV.idsL (es.map (·.2))
  | .itb mp _ _ => [mp]
  | .dead => []

theorem idsL_get : ∀ {l : List DV} {i : Nat} {d : DV}, l[i]? = some d → ∀ id ∈ d.ids, id ∈ DV.idsL l
  | [], i, d, h, _, _ => by simp at h
  | a :: r, i, d, h, id, hid => by
    simp only [DV.idsL, List.mem_append]
    cases i with
    | zero => simp at h; subst h; exact .inl hid
    | succ i => exact .inr (idsL_get (by simpa using h) id hid)

theorem Md.ok_congr {m m' : Emb} {k : Nat} {md : Md} {c : Array Value} {fr : Nat × Nat} (hs : ∀ id ∈ md.ids, m.same m' id) (h : md.ok m k c fr) : md.ok m' k c fr := by
  cases md with
  | gl g =>
    have e := (hs g (by simp [Md.ids])).1
    show m'.ι g = some g
    rw [← e]
    exact h
  | ro => exact h
  | rw => exact h
  | own s => exact h
  | reg l => exact h

theorem Blk.R_congr {m m' : Emb} {ρ : Env} {k : Nat} {B : Blk} {o : Obj} (hs : ∀ id ∈ B.ids, m.same m' id) (h : B.R m ρ k o) : B.R m' ρ k o := by
  cases B with
  | cells l t md =>
    obtain ⟨c, fr, h1, h2, h3, h4⟩ := h
    exact ⟨c, fr, h1, h2, fun i d hd => let ⟨v, hv, hr⟩ := h3 i d hd; ⟨v, hv, DV.R_congr (fun id hid => hs id (by simp only [Blk.ids, List.mem_append]; exact .inr (idsL_get hd id hid))) hr⟩, Md.ok_congr (fun id hid => hs id (by simp only [Blk.ids, List.mem_append]; exact .inl hid)) h4⟩
  | arr q a n sh t md =>
    obtain ⟨c, fr, h1, h2, h3, h4, h5, h6⟩ := h
    exact ⟨c, fr, h1, h2, h3, h4, h5, Md.ok_congr hs h6⟩
  | mpb es =>
    obtain ⟨en, clk, h1, h2, h3, h4⟩ := h
    exact ⟨en, clk, h1, DV.RL_congr (fun id hid => hs id (by simp only [Blk.ids, List.mem_append]; exact .inl hid)) h2, DV.RL_congr (fun id hid => hs id (by simp only [Blk.ids, List.mem_append]; exact .inr hid)) h3, h4⟩
  | itb mp seen last =>
    obtain ⟨b, sn, h1, h2, h3⟩ := h
    exact ⟨b, sn, h1, (hs mp (by simp [Blk.ids])).1 ▸ h2, h3⟩
  | dead => trivial

theorem mem_idsL : ∀ {l : List DV} {id : Nat}, id ∈ DV.idsL l → ∃ (i : Nat) (d : DV), l[i]? = some d ∧ id ∈ d.ids
  | [], id, h => by simp [DV.idsL] at h
  | a :: r, id, h => by
    simp only [DV.idsL, List.mem_append] at h
    rcases h with h | h
    · exact ⟨0, a, rfl, h⟩
    · obtain ⟨i, d, hd, hm⟩ := mem_idsL h
      exact ⟨i + 1, d, by simpa using hd, hm⟩

theorem Md.ok_mapped {m : Emb} {k : Nat} {md : Md} {c : Array Value} {fr : Nat × Nat} (h : md.ok m k c fr) : ∀ id ∈ md.ids, ∃ b, m.ι id = some b := by
  cases md with
  | gl g => intro id hid; simp only [Md.ids, List.mem_singleton] at hid; subst hid; exact ⟨_, h⟩
  | ro => intro id hid; cases hid
  | rw => intro id hid; cases hid
  | own s => intro id hid; cases hid
  | reg l => intro id hid; cases hid

theorem Blk.R_mapped {m : Emb} {ρ : Env} {k : Nat} {B : Blk} {o : Obj} (h : B.R m ρ k o) : ∀ id ∈ B.ids, ∃ b, m.ι id = some b := by
  cases B with
  | cells l t md =>
    obtain ⟨c, fr, h1, h2, h3, h4⟩ := h
    intro id hid
    simp only [Blk.ids, List.mem_append] at hid
    rcases hid with hid | hid
    · exact Md.ok_mapped h4 id hid
    · obtain ⟨i, d, hd, hm⟩ := mem_idsL hid
      obtain ⟨v, _, hr⟩ := h3 i d hd
      exact DV.R_mapped hr id hm
  | arr q a n sh t md =>
    obtain ⟨c, fr, h1, h2, h3, h4, h5, h6⟩ := h
    exact Md.ok_mapped h6
  | mpb es =>
    obtain ⟨en, clk, h1, h2, h3, h4⟩ := h
    intro id hid
    simp only [Blk.ids, List.mem_append] at hid
    rcases hid with hid | hid
    · exact DV.RL_mapped h2 id hid
    · exact DV.RL_mapped h3 id hid
  | itb mp seen last =>
    obtain ⟨b, sn, h1, h2, h3⟩ := h
    intro id hid
    simp only [Blk.ids, List.mem_singleton] at hid
    subst hid
    exact ⟨b, h2⟩
  | dead => intro id hid; simp [Blk.ids] at hid

/-- Which operations come ahead of each, a bit each. -/
def bits (acc : List Nat) (o : Oper) : Nat :=
  o.after.toList.foldl (fun s e => if Region.binds .any e then s ||| 2 ^ e.on ||| acc.getD e.on 0 else s) 0

def befFrom : List Nat → List Oper → List Nat
  | acc, [] => acc
  | acc, o :: r => befFrom (acc ++ [bits acc o]) r

/-- The operations done are such that what comes ahead of each is done. -/
def Closed (ops : Array Oper) (L : Nat → Prop) : Prop :=
  ∀ j o, L j → ops[j]? = some o → ∀ e ∈ o.after, Region.binds .any e = true → L e.on

theorem bits_spec (acc : List Nat) (o : Oper) (i : Nat) (h : (bits acc o).testBit i = true) :
    ∃ e ∈ o.after, Region.binds .any e = true ∧ (i = e.on ∨ (acc.getD e.on 0).testBit i = true) := by
  have key : ∀ (l : List Edge) (s : Nat), (l.foldl (fun s e => if Region.binds .any e then s ||| 2 ^ e.on ||| acc.getD e.on 0 else s) s).testBit i = true →
      s.testBit i = true ∨ ∃ e ∈ l, Region.binds .any e = true ∧ (i = e.on ∨ (acc.getD e.on 0).testBit i = true) := by
    intro l
    induction l with
    | nil => intro s h; exact .inl h
    | cons e l ih =>
      intro s h
      simp only [List.foldl_cons] at h
      rcases ih _ h with h1 | ⟨e', he', h2⟩
      · split at h1
        · rename_i hb
          simp only [Nat.testBit_or, Bool.or_eq_true, Nat.testBit_two_pow, decide_eq_true_eq] at h1
          rcases h1 with (h1 | h1) | h1
          · exact .inl h1
          · exact .inr ⟨e, by simp, hb, .inl h1.symm⟩
          · exact .inr ⟨e, by simp, hb, .inr h1⟩
        · exact .inl h1
      · exact .inr ⟨e', by simp [he'], h2⟩
  rcases key o.after.toList 0 h with h1 | ⟨e, he, h2⟩
  · simp at h1
  · exact ⟨e, by simpa using he, h2⟩

theorem bef_spec (ops : Array Oper) (L : Nat → Prop) (hL : Closed ops L) : ∀ (r : List Oper) (acc : List Nat), (∀ k o, r[k]? = some o → ops[acc.length + k]? = some o) → acc.length + r.length = ops.size →
    (∀ j o i, j < acc.length → ops[j]? = some o → (acc.getD j 0).testBit i = true → (∀ e ∈ o.after, Region.binds .any e = true → L e.on) → L i) →
    ∀ j o i, ops[j]? = some o → ((befFrom acc r).getD j 0).testBit i = true → (∀ e ∈ o.after, Region.binds .any e = true → L e.on) → L i
  | [], acc, _, hlen, hacc, j, o, i, ho, hb, hall => by
    simp only [befFrom] at hb
    have hj : j < ops.size := (Array.getElem?_eq_some_iff.1 ho).1
    exact hacc j o i (by simpa [← hlen] using hj) ho hb hall
  | p :: r, acc, hr, hlen, hacc, j, o, i, ho, hb, hall => by
    simp only [befFrom] at hb
    refine bef_spec ops L hL r (acc ++ [bits acc p]) (fun k o hk => ?_) (by simp at hlen ⊢; omega) (fun j o i hj ho hb hall => ?_) j o i ho hb hall
    · have := hr (k + 1) o (by simpa using hk)
      rw [← this]; simp; congr 1; omega
    · simp at hj
      by_cases hlt : j < acc.length
      · refine hacc j o i hlt ho ?_ hall
        rwa [List.getD_eq_getElem?_getD, List.getElem?_append_left hlt, ← List.getD_eq_getElem?_getD] at hb
      · have hj' : j = acc.length := by omega
        subst hj'
        have hp : ops[acc.length]? = some p := by simpa using hr 0 p rfl
        rw [hp] at ho; cases ho
        rw [List.getD_eq_getElem?_getD, List.getElem?_append_right (Nat.le_refl _)] at hb
        simp at hb
        obtain ⟨e, he, hbind, h1⟩ := bits_spec acc p i hb
        have hLe := hall e he hbind
        rcases h1 with rfl | h1
        · exact hLe
        · by_cases hlt' : e.on < acc.length
          · have hlt2 : e.on < ops.size := by omega
            exact hacc e.on ops[e.on] i hlt' (by simp [hlt2]) h1 (fun e' he' hb' => hL e.on ops[e.on] hLe (by simp [hlt2]) e' he' hb')
          · rw [List.getD_eq_getElem?_getD, List.getElem?_eq_none (by omega)] at h1
            simp at h1

/-- Does operation i come ahead of operation j, whatever the order? -/
def ahead (bf : List Nat) (i j : Nat) : Bool := (bf.getD j 0).testBit i

theorem ahead_spec {ops : Array Oper} {L : Nat → Prop} (hL : Closed ops L) {i j : Nat} {o : Oper} (ho : ops[j]? = some o) (h : ahead (befFrom [] ops.toList) i j = true) (hall : ∀ e ∈ o.after, Region.binds .any e = true → L e.on) : L i :=
  bef_spec ops L hL ops.toList [] (fun k o hk => by simpa using hk) (by simp) (fun j o i hj => by simp at hj) j o i ho h hall

end Go.Eng
