/-
  Which blocks a value names; which operations of a region come ahead of which.
-/
import Derived.Test.YtcebboibpbbgdaaGreatDoorEngG6
import Derived.Below
namespace Go.Eng

mutual
def DV.ids : DV → List Nat
  | .ptr id _ => [id]
  | .slc id _ _ _ => [id]
  | .mp id => [id]
  | .agg l => DV.idsL l
  | .tup l => DV.idsL l
  | .ifc _ v => DV.ids v
  | .fn _ a c => DV.idsL a ++ DV.idsL c
  | .yld id => [id]
  | _ => []
def DV.idsL : List DV → List Nat
  | [] => []
  | d :: r => DV.ids d ++ DV.idsL r
end

def Emb.same (m m' : Emb) (id : Nat) : Prop := m.ι id = m'.ι id ∧ m.κ id = m'.κ id

mutual
theorem DV.R_congr {m m' : Emb} {ρ : Env} : ∀ {d : DV} {v : Value}, (∀ id ∈ d.ids, m.same m' id) → d.R m ρ v → d.R m' ρ v
  | .int _ _, _, _, h => h
  | .bool _, _, _, h => h
  | .str _, _, _, h => h
  | .ptr id o, v, hs, h => by
    simp only [DV.R] at h ⊢
    obtain ⟨b, hb, hv⟩ := h
    have := hs id (by simp [DV.ids])
    exact ⟨b, this.1 ▸ hb, hv⟩
  | .nilp, _, _, h => h
  | .gptr _ _, _, _, h => h
  | .slc id o len cap, v, hs, h => by
    simp only [DV.R] at h ⊢
    obtain ⟨b, hb, hv, h0, hc⟩ := h
    have := hs id (by simp [DV.ids])
    have e : cap.den m' ρ id = cap.den m ρ id := by cases cap <;> simp [Cap.den, this.2]
    exact ⟨b, this.1 ▸ hb, by rw [e]; exact hv, h0, by rw [e]; exact hc⟩
  | .nils, _, _, h => h
  | .mt, _, _, h => h
  | .agg l, v, hs, h => by
    simp only [DV.R] at h ⊢
    obtain ⟨vs, hv, hl⟩ := h; exact ⟨vs, hv, DV.RL_congr (by simpa [DV.ids] using hs) hl⟩
  | .tup l, v, hs, h => by
    simp only [DV.R] at h ⊢
    obtain ⟨vs, hv, hl⟩ := h; exact ⟨vs, hv, DV.RL_congr (by simpa [DV.ids] using hs) hl⟩
  | .ifc t d, v, hs, h => by
    simp only [DV.R] at h ⊢
    obtain ⟨x, hv, hl⟩ := h; exact ⟨x, hv, DV.R_congr (by simpa [DV.ids] using hs) hl⟩
  | .nili, _, _, h => h
  | .fn f a c, v, hs, h => by
    simp only [DV.R] at h ⊢
    obtain ⟨x, y, hv, h1, h2⟩ := h
    exact ⟨x, y, hv, DV.RL_congr (fun id hid => hs id (by simp [DV.ids, hid])) h1, DV.RL_congr (fun id hid => hs id (by simp [DV.ids, hid])) h2⟩
  | .nilf, _, _, h => h
  | .mp id, v, hs, h => by
    simp only [DV.R] at h ⊢
    obtain ⟨b, hb, hv⟩ := h
    have := hs id (by simp [DV.ids])
    exact ⟨b, this.1 ▸ hb, hv⟩
  | .nilm, _, _, h => h
  | .yld id, v, hs, h => by
    simp only [DV.R] at h ⊢
    obtain ⟨b, hb, hv⟩ := h
    have := hs id (by simp [DV.ids])
    exact ⟨b, this.1 ▸ hb, hv⟩
  | .anyi, _, _, h => h
theorem DV.RL_congr {m m' : Emb} {ρ : Env} : ∀ {l : List DV} {vs : List Value}, (∀ id ∈ DV.idsL l, m.same m' id) → DV.RL m ρ l vs → DV.RL m' ρ l vs
  | [], _, _, h => h
  | d :: r, vs, hs, h => by
    simp only [DV.RL] at h ⊢
    obtain ⟨v, vr, hv, h1, h2⟩ := h
    exact ⟨v, vr, hv, DV.R_congr (fun id hid => hs id (by simp [DV.idsL, hid])) h1, DV.RL_congr (fun id hid => hs id (by simp [DV.idsL, hid])) h2⟩
end

mutual
/-- What a value names lies somewhere. -/
theorem DV.R_mapped {m : Emb} {ρ : Env} : ∀ {d : DV} {v : Value}, d.R m ρ v → ∀ id ∈ d.ids, ∃ b, m.ι id = some b
  | .int _ _, _, _, id, hid => by simp [DV.ids] at hid
  | .bool _, _, _, id, hid => by simp [DV.ids] at hid
  | .str _, _, _, id, hid => by simp [DV.ids] at hid
  | .ptr i o, v, h, id, hid => by
    simp only [DV.R] at h
    simp [DV.ids] at hid; subst hid
    obtain ⟨b, hb, _⟩ := h; exact ⟨b, hb⟩
  | .nilp, _, _, id, hid => by simp [DV.ids] at hid
  | .gptr _ _, _, _, id, hid => by simp [DV.ids] at hid
  | .slc i o len cap, v, h, id, hid => by
    simp only [DV.R] at h
    simp [DV.ids] at hid; subst hid
    obtain ⟨b, hb, _⟩ := h; exact ⟨b, hb⟩
  | .nils, _, _, id, hid => by simp [DV.ids] at hid
  | .mt, _, _, id, hid => by simp [DV.ids] at hid
  | .agg l, v, h, id, hid => by
    simp only [DV.R] at h
    obtain ⟨vs, _, hl⟩ := h; exact DV.RL_mapped hl id (by simpa [DV.ids] using hid)
  | .tup l, v, h, id, hid => by
    simp only [DV.R] at h
    obtain ⟨vs, _, hl⟩ := h; exact DV.RL_mapped hl id (by simpa [DV.ids] using hid)
  | .ifc t d, v, h, id, hid => by
    simp only [DV.R] at h
    obtain ⟨x, _, hl⟩ := h; exact DV.R_mapped hl id (by simpa [DV.ids] using hid)
  | .nili, _, _, id, hid => by simp [DV.ids] at hid
  | .fn f a c, v, h, id, hid => by
    simp only [DV.R] at h
    obtain ⟨x, y, _, h1, h2⟩ := h
    simp only [DV.ids, List.mem_append] at hid
    rcases hid with hid | hid
    · exact DV.RL_mapped h1 id hid
    · exact DV.RL_mapped h2 id hid
  | .nilf, _, _, id, hid => by simp [DV.ids] at hid
  | .mp i, v, h, id, hid => by
    simp only [DV.R] at h
    simp [DV.ids] at hid; subst hid
    obtain ⟨b, hb, _⟩ := h; exact ⟨b, hb⟩
  | .nilm, _, _, id, hid => by simp [DV.ids] at hid
  | .yld i, v, h, id, hid => by
    simp only [DV.R] at h
    simp [DV.ids] at hid; subst hid
    obtain ⟨b, hb, _⟩ := h; exact ⟨b, hb⟩
  | .anyi, _, _, id, hid => by simp [DV.ids] at hid
theorem DV.RL_mapped {m : Emb} {ρ : Env} : ∀ {l : List DV} {vs : List Value}, DV.RL m ρ l vs → ∀ id ∈ DV.idsL l, ∃ b, m.ι id = some b
  | [], _, _, id, hid => by simp [DV.idsL] at hid
  | d :: r, vs, h, id, hid => by
    simp only [DV.RL] at h
    obtain ⟨v, vr, _, h1, h2⟩ := h
    simp only [DV.idsL, List.mem_append] at hid
    rcases hid with hid | hid
    · exact DV.R_mapped h1 id hid
    · exact DV.RL_mapped h2 id hid
end

def T.vals {α : Type} : T α → List α
  | .nil => []
  | .node x l r => x.toList ++ (l.vals ++ r.vals)
theorem T.get_vals {α : Type} : ∀ {t : T α} {n : Nat} {x : α}, t.get n = some x → x ∈ t.vals
  | .nil, n, x, h => by simp [T.get] at h
  | .node y l r, n, x, h => by
    simp only [T.get] at h
    simp only [T.vals, List.mem_append]
    split at h
    · left; simp [h]
    · right
      split at h
      · exact .inl (T.get_vals h)
      · exact .inr (T.get_vals h)
theorem T.vals_get {α : Type} : ∀ {t : T α} {x : α}, x ∈ t.vals → ∃ n, t.get n = some x
  | .nil, x, h => by simp [T.vals] at h
  | .node y l r, x, h => by
    simp only [T.vals, List.mem_append, Option.mem_toList] at h
    rcases h with h | h | h
    · exact ⟨0, by simp [T.get]; exact h⟩
    · obtain ⟨k, hk⟩ := T.vals_get h
      refine ⟨2 * k + 1, ?_⟩
      simp only [T.get]
      rw [if_neg (by omega), if_pos (by omega), show (2 * k + 1) / 2 = k by omega]; exact hk
    · obtain ⟨k, hk⟩ := T.vals_get h
      refine ⟨2 * k + 2, ?_⟩
      simp only [T.get]
      rw [if_neg (by omega), if_neg (by omega), show (2 * k + 2) / 2 - 1 = k by omega]; exact hk

theorem idsL_mem : ∀ {l : List DV} {d : DV}, d ∈ l → ∀ id ∈ d.ids, id ∈ DV.idsL l
  | a :: r, d, h, id, hid => by
    simp only [DV.idsL, List.mem_append]
    rcases List.mem_cons.1 h with rfl | h
    · exact .inl hid
    · exact .inr (idsL_mem h id hid)
theorem mem_idsL' : ∀ {l : List DV} {id : Nat}, id ∈ DV.idsL l → ∃ d ∈ l, id ∈ d.ids
  | [], id, h => by simp [DV.idsL] at h
  | a :: r, id, h => by
    simp only [DV.idsL, List.mem_append] at h
    rcases h with h | h
    · exact ⟨a, List.mem_cons_self .., h⟩
    · obtain ⟨d, hd, hm⟩ := mem_idsL' h
      exact ⟨d, List.mem_cons_of_mem _ hd, hm⟩

/-- The same, as it is computed: past numbers, bools and strings. -/
def idsF : List DV → List Nat
  | [] => []
  | .int _ _ :: r => idsF r
  | .bool _ :: r => idsF r
  | .str _ :: r => idsF r
  | d :: r => DV.ids d ++ idsF r
theorem idsF_eq : ∀ l : List DV, idsF l = DV.idsL l
  | [] => rfl
  | d :: r => by cases d <;> simp only [idsF, DV.idsL, DV.ids, idsF_eq r, List.nil_append]

def Blk.ids : Blk → List Nat
  | .cells l _ md => md.ids ++ idsF l
  | .arr _ _ _ _ _ md => md.ids
  | .mix p _ _ _ s _ md => md.ids ++ (idsF p ++ idsF s)
  | .mpb es => DV.idsL (es.map (·.1)) ++ DV.idsL (es.map (·.2))
  | .itb mp _ _ => [mp]
  | .lpb L => L.dfs :: DV.idsL L.tmps.vals
  | .defb _ => []
  | .dead => []

theorem idsL_get : ∀ {l : List DV} {i : Nat} {d : DV}, l[i]? = some d → ∀ id ∈ d.ids, id ∈ DV.idsL l
  | [], i, d, h, _, _ => by simp at h
  | a :: r, i, d, h, id, hid => by
    simp only [DV.idsL, List.mem_append]
    cases i with
    | zero => simp at h; subst h; exact .inl hid
    | succ i => exact .inr (idsL_get (by simpa using h) id hid)

theorem Md.ok_congr {m m' : Emb} {k : Nat} {md : Md} {c : Array Value} {fr : Nat × Nat} (hs : ∀ id ∈ md.ids, m.same m' id) (h : md.ok m k c fr) : md.ok m' k c fr := by
  cases md with
  | gl g =>
    have e := (hs g (by simp [Md.ids])).1
    show m'.ι g = some g
    rw [← e]
    exact h
  | ro => exact h
  | rw => exact h
  | own s => exact h
  | reg l => exact h

theorem Blk.R_congr {m m' : Emb} {ρ : Env} {k : Nat} {B : Blk} {o : Obj} (hs : ∀ id ∈ B.ids, m.same m' id) (h : B.R m ρ k o) : B.R m' ρ k o := by
  cases B with
  | cells l t md =>
    obtain ⟨c, fr, h1, h2, h3, h4⟩ := h
    exact ⟨c, fr, h1, h2, fun i d hd => let ⟨v, hv, hr⟩ := h3 i d hd; ⟨v, hv, DV.R_congr (fun id hid => hs id (by simp only [Blk.ids, idsF_eq, List.mem_append]; exact .inr (idsL_get hd id hid))) hr⟩, Md.ok_congr (fun id hid => hs id (by simp only [Blk.ids, List.mem_append]; exact .inl hid)) h4⟩
  | arr q a n sh t md =>
    obtain ⟨c, fr, h1, h2, h3, h4, h5, h6⟩ := h
    exact ⟨c, fr, h1, h2, h3, h4, h5, Md.ok_congr hs h6⟩
  | mix pre a n sh suf t md =>
    obtain ⟨c, fr, h1, h2, h3, h4, h5, h6, h7, h8⟩ := h
    exact ⟨c, fr, h1, h2, h3, fun i d hd => let ⟨v, hv, hr⟩ := h4 i d hd; ⟨v, hv, DV.R_congr (fun id hid => hs id (by simp only [Blk.ids, idsF_eq, List.mem_append]; exact .inr (.inl (idsL_get hd id hid)))) hr⟩, h5, h6,
      fun i d hd => let ⟨v, hv, hr⟩ := h7 i d hd; ⟨v, hv, DV.R_congr (fun id hid => hs id (by simp only [Blk.ids, idsF_eq, List.mem_append]; exact .inr (.inr (idsL_get hd id hid)))) hr⟩, Md.ok_congr (fun id hid => hs id (by simp only [Blk.ids, List.mem_append]; exact .inl hid)) h8⟩
  | mpb es =>
    obtain ⟨en, clk, h1, h2, h3, h4⟩ := h
    exact ⟨en, clk, h1, DV.RL_congr (fun id hid => hs id (by simp only [Blk.ids, List.mem_append]; exact .inl hid)) h2, DV.RL_congr (fun id hid => hs id (by simp only [Blk.ids, List.mem_append]; exact .inr hid)) h3, h4⟩
  | itb mp seen last =>
    obtain ⟨b, sn, h1, h2, h3⟩ := h
    exact ⟨b, sn, h1, (hs mp (by simp [Blk.ids])).1 ▸ h2, h3⟩
  | lpb L =>
    obtain ⟨lp, h1, h2, h3, h4, h5, h6, h7, h8, h9⟩ := h
    refine ⟨lp, h1, h2, h3, h4, h5, h6, h7, fun i d hd => ?_, (hs L.dfs (by simp [Blk.ids])).1 ▸ h9⟩
    obtain ⟨v, hv, hr⟩ := h8 i d hd
    exact ⟨v, hv, DV.R_congr (fun id hid => hs id (by simp only [Blk.ids]; exact List.mem_cons_of_mem _ (idsL_mem (T.get_vals hd) id hid))) hr⟩
  | defb b => exact h
  | dead => trivial

theorem mem_idsL : ∀ {l : List DV} {id : Nat}, id ∈ DV.idsL l → ∃ (i : Nat) (d : DV), l[i]? = some d ∧ id ∈ d.ids
  | [], id, h => by simp [DV.idsL] at h
  | a :: r, id, h => by
    simp only [DV.idsL, List.mem_append] at h
    rcases h with h | h
    · exact ⟨0, a, rfl, h⟩
    · obtain ⟨i, d, hd, hm⟩ := mem_idsL h
      exact ⟨i + 1, d, by simpa using hd, hm⟩

theorem Md.ok_mapped {m : Emb} {k : Nat} {md : Md} {c : Array Value} {fr : Nat × Nat} (h : md.ok m k c fr) : ∀ id ∈ md.ids, ∃ b, m.ι id = some b := by
  cases md with
  | gl g => intro id hid; simp only [Md.ids, List.mem_singleton] at hid; subst hid; exact ⟨_, h⟩
  | ro => intro id hid; cases hid
  | rw => intro id hid; cases hid
  | own s => intro id hid; cases hid
  | reg l => intro id hid; cases hid

theorem Blk.R_mapped {m : Emb} {ρ : Env} {k : Nat} {B : Blk} {o : Obj} (h : B.R m ρ k o) : ∀ id ∈ B.ids, ∃ b, m.ι id = some b := by
  cases B with
  | cells l t md =>
    obtain ⟨c, fr, h1, h2, h3, h4⟩ := h
    intro id hid
    simp only [Blk.ids, idsF_eq, List.mem_append] at hid
    rcases hid with hid | hid
    · exact Md.ok_mapped h4 id hid
    · obtain ⟨i, d, hd, hm⟩ := mem_idsL hid
      obtain ⟨v, _, hr⟩ := h3 i d hd
      exact DV.R_mapped hr id hm
  | arr q a n sh t md =>
    obtain ⟨c, fr, h1, h2, h3, h4, h5, h6⟩ := h
    exact Md.ok_mapped h6
  | mix pre a n sh suf t md =>
    obtain ⟨c, fr, h1, h2, h3, h4, h5, h6, h7, h8⟩ := h
    intro id hid
    simp only [Blk.ids, idsF_eq, List.mem_append] at hid
    rcases hid with hid | hid | hid
    · exact Md.ok_mapped h8 id hid
    · obtain ⟨i, d, hd, hm⟩ := mem_idsL hid
      obtain ⟨v, _, hr⟩ := h4 i d hd
      exact DV.R_mapped hr id hm
    · obtain ⟨i, d, hd, hm⟩ := mem_idsL hid
      obtain ⟨v, _, hr⟩ := h7 i d hd
      exact DV.R_mapped hr id hm
  | mpb es =>
    obtain ⟨en, clk, h1, h2, h3, h4⟩ := h
    intro id hid
    simp only [Blk.ids, List.mem_append] at hid
    rcases hid with hid | hid
    · exact DV.RL_mapped h2 id hid
    · exact DV.RL_mapped h3 id hid
  | itb mp seen last =>
    obtain ⟨b, sn, h1, h2, h3⟩ := h
    intro id hid
    simp only [Blk.ids, List.mem_singleton] at hid
    subst hid
    exact ⟨b, h2⟩
  | lpb L =>
    obtain ⟨lp, h1, h2, h3, h4, h5, h6, h7, h8, h9⟩ := h
    intro id hid
    simp only [Blk.ids] at hid
    rcases List.mem_cons.1 hid with rfl | hid
    · exact ⟨_, h9⟩
    · obtain ⟨d, hd, hm⟩ := mem_idsL' hid
      obtain ⟨n, hn⟩ := T.vals_get hd
      obtain ⟨v, _, hr⟩ := h8 n d hn
      exact DV.R_mapped hr id hm
  | defb b => intro id hid; simp [Blk.ids] at hid
  | dead => intro id hid; simp [Blk.ids] at hid

/-- Which operations come ahead of each, a bit each. -/
def bits (acc : List Nat) (o : Oper) : Nat :=
  o.after.toList.foldl (fun s e => if Region.binds .any e then s ||| 2 ^ e.on ||| acc.getD e.on 0 else s) 0

def befFrom : List Nat → List Oper → List Nat
  | acc, [] => acc
  | acc, o :: r => befFrom (acc ++ [bits acc o]) r

/-- The operations done are such that what comes ahead of each is done. -/
def Closed (ops : Array Oper) (L : Nat → Prop) : Prop :=
  ∀ j o, L j → ops[j]? = some o → ∀ e ∈ o.after, Region.binds .any e = true → L e.on

theorem bits_spec (acc : List Nat) (o : Oper) (i : Nat) (h : (bits acc o).testBit i = true) :
    ∃ e ∈ o.after, Region.binds .any e = true ∧ (i = e.on ∨ (acc.getD e.on 0).testBit i = true) := by
  have key : ∀ (l : List Edge) (s : Nat), (l.foldl (fun s e => if Region.binds .any e then s ||| 2 ^ e.on ||| acc.getD e.on 0 else s) s).testBit i = true →
      s.testBit i = true ∨ ∃ e ∈ l, Region.binds .any e = true ∧ (i = e.on ∨ (acc.getD e.on 0).testBit i = true) := by
    intro l
    induction l with
    | nil => intro s h; exact .inl h
    | cons e l ih =>
      intro s h
      simp only [List.foldl_cons] at h
      rcases ih _ h with h1 | ⟨e', he', h2⟩
      · split at h1
        · rename_i hb
          simp only [Nat.testBit_or, Bool.or_eq_true, Nat.testBit_two_pow, decide_eq_true_eq] at h1
          rcases h1 with (h1 | h1) | h1
          · exact .inl h1
          · exact .inr ⟨e, by simp, hb, .inl h1.symm⟩
          · exact .inr ⟨e, by simp, hb, .inr h1⟩
        · exact .inl h1
      · exact .inr ⟨e', by simp [he'], h2⟩
  rcases key o.after.toList 0 h with h1 | ⟨e, he, h2⟩
  · simp at h1
  · exact ⟨e, by simpa using he, h2⟩

theorem bef_spec (ops : Array Oper) (L : Nat → Prop) (hL : Closed ops L) : ∀ (r : List Oper) (acc : List Nat), (∀ k o, r[k]? = some o → ops[acc.length + k]? = some o) → acc.length + r.length = ops.size →
    (∀ j o i, j < acc.length → ops[j]? = some o → (acc.getD j 0).testBit i = true → (∀ e ∈ o.after, Region.binds .any e = true → L e.on) → L i) →
    ∀ j o i, ops[j]? = some o → ((befFrom acc r).getD j 0).testBit i = true → (∀ e ∈ o.after, Region.binds .any e = true → L e.on) → L i
  | [], acc, _, hlen, hacc, j, o, i, ho, hb, hall => by
    simp only [befFrom] at hb
    have hj : j < ops.size := (Array.getElem?_eq_some_iff.1 ho).1
    exact hacc j o i (by simpa [← hlen] using hj) ho hb hall
  | p :: r, acc, hr, hlen, hacc, j, o, i, ho, hb, hall => by
    simp only [befFrom] at hb
    refine bef_spec ops L hL r (acc ++ [bits acc p]) (fun k o hk => ?_) (by simp at hlen ⊢; omega) (fun j o i hj ho hb hall => ?_) j o i ho hb hall
    · have := hr (k + 1) o (by simpa using hk)
      rw [← this]; simp; congr 1; omega
    · simp at hj
      by_cases hlt : j < acc.length
      · refine hacc j o i hlt ho ?_ hall
        rwa [List.getD_eq_getElem?_getD, List.getElem?_append_left hlt, ← List.getD_eq_getElem?_getD] at hb
      · have hj' : j = acc.length := by omega
        subst hj'
        have hp : ops[acc.length]? = some p := by simpa using hr 0 p rfl
        rw [hp] at ho; cases ho
        rw [List.getD_eq_getElem?_getD, List.getElem?_append_right (Nat.le_refl _)] at hb
        simp at hb
        obtain ⟨e, he, hbind, h1⟩ := bits_spec acc p i hb
        have hLe := hall e he hbind
        rcases h1 with rfl | h1
        · exact hLe
        · by_cases hlt' : e.on < acc.length
          · have hlt2 : e.on < ops.size := by omega
            exact hacc e.on ops[e.on] i hlt' (by simp [hlt2]) h1 (fun e' he' hb' => hL e.on ops[e.on] hLe (by simp [hlt2]) e' he' hb')
          · rw [List.getD_eq_getElem?_getD, List.getElem?_eq_none (by omega)] at h1
            simp at h1

/-- Does operation i come ahead of operation j, whatever the order? -/
def ahead (bf : List Nat) (i j : Nat) : Bool := (bf.getD j 0).testBit i

theorem ahead_spec {ops : Array Oper} {L : Nat → Prop} (hL : Closed ops L) {i j : Nat} {o : Oper} (ho : ops[j]? = some o) (h : ahead (befFrom [] ops.toList) i j = true) (hall : ∀ e ∈ o.after, Region.binds .any e = true → L e.on) : L i :=
  bef_spec ops L hL ops.toList [] (fun k o hk => by simpa using hk) (by simp) (fun j o i hj => by simp at hj) j o i ho h hall

end Go.Eng

/-
  Calls that only read, within regions that draw their order: a call whose run goes through with its blocks held to be read alone touches nothing.
-/
namespace Go.Eng
open Go.RowKit

/-- A block, to be read alone. -/
def roB : Blk → Blk
  | .cells l t .rw => .cells l t .ro
  | .cells l t (.own _) => .cells l t .ro
  | .cells l t md => .cells l t md
  | .arr q a n sh t .rw => .arr q a n sh t .ro
  | .arr q a n sh t (.own _) => .arr q a n sh t .ro
  | .arr q a n sh t md => .arr q a n sh t md
  | .mix p a n sh s t .rw => .mix p a n sh s t .ro
  | .mix p a n sh s t (.own _) => .mix p a n sh s t .ro
  | .mix p a n sh s t md => .mix p a n sh s t md
  | _ => .dead

theorem roB_rw (B : Blk) : (roB B).rw = false := by
  cases B with
  | cells l t md => cases md <;> rfl
  | arr q a n sh t md => cases md <;> rfl
  | mix p a n sh s t md => cases md <;> rfl
  | _ => rfl

theorem roB_R {m : Emb} {ρ : Env} {k : Nat} {B : Blk} {o : Obj} (hl : (roB B).live = true) (h : B.R m ρ k o) : (roB B).R m ρ k o ∧ B.live = true := by
  cases B with
  | cells l t md =>
    refine ⟨?_, rfl⟩
    obtain ⟨c, fr, h1, h2, h3, h4⟩ := h
    cases md with
    | rw => exact ⟨c, fr, h1, h2, h3, trivial⟩
    | own s => exact ⟨c, fr, h1, h2, h3, trivial⟩
    | ro => exact ⟨c, fr, h1, h2, h3, h4⟩
    | gl g => exact ⟨c, fr, h1, h2, h3, h4⟩
    | reg l => exact ⟨c, fr, h1, h2, h3, h4⟩
  | arr q a n sh t md =>
    refine ⟨?_, rfl⟩
    obtain ⟨c, fr, h1, h2, h3, h4, h5, h6⟩ := h
    cases md with
    | rw => exact ⟨c, fr, h1, h2, h3, h4, h5, trivial⟩
    | own s => exact ⟨c, fr, h1, h2, h3, h4, h5, trivial⟩
    | ro => exact ⟨c, fr, h1, h2, h3, h4, h5, h6⟩
    | gl g => exact ⟨c, fr, h1, h2, h3, h4, h5, h6⟩
    | reg l => exact ⟨c, fr, h1, h2, h3, h4, h5, h6⟩
  | mix p a n sh s t md =>
    refine ⟨?_, rfl⟩
    obtain ⟨c, fr, h1, h2, h3, h4, h5, h6, h7, h8⟩ := h
    cases md with
    | rw => exact ⟨c, fr, h1, h2, h3, h4, h5, h6, h7, trivial⟩
    | own s => exact ⟨c, fr, h1, h2, h3, h4, h5, h6, h7, trivial⟩
    | ro => exact ⟨c, fr, h1, h2, h3, h4, h5, h6, h7, h8⟩
    | gl g => exact ⟨c, fr, h1, h2, h3, h4, h5, h6, h7, h8⟩
    | reg l => exact ⟨c, fr, h1, h2, h3, h4, h5, h6, h7, h8⟩
  | mpb es => cases hl
  | itb a b c => cases hl
  | lpb L => cases hl
  | defb b => cases hl
  | dead => cases hl

def T.map {α : Type} (f : α → α) : T α → T α
  | .nil => .nil
  | .node x l r => .node (x.map f) (l.map f) (r.map f)
theorem T.map_get {α : Type} (f : α → α) : ∀ (t : T α) (n : Nat), (t.map f).get n = (t.get n).map f
  | .nil, n => by simp [T.map, T.get]
  | .node x l r, n => by
    simp only [T.map, T.get]
    split
    · rfl
    · split
      · exact T.map_get f l _
      · exact T.map_get f r _

theorem ro_heap {m : Emb} {ρ : Env} {h : T Blk} {w : World} (hH : HeapR m ρ h w) : HeapR m ρ (h.map roB) w := by
  refine ⟨fun id B hB hl => ?_, fun id id' B B' b hB _ hrw => ?_⟩
  · rw [T.map_get, Option.map_eq_some_iff] at hB
    obtain ⟨C, hC, rfl⟩ := hB
    have hCl : C.live = true := by
      cases C with
      | dead => cases hl
      | _ => rfl
    obtain ⟨b, o, h1, h2, h3⟩ := hH.blk id C hC hCl
    exact ⟨b, o, h1, h2, (roB_R hl h3).1⟩
  · rw [T.map_get, Option.map_eq_some_iff] at hB
    obtain ⟨C, hC, rfl⟩ := hB
    rw [roB_rw] at hrw; cases hrw

section
variable (P : Program) (F : Facts)
/-- What a reading call answers. -/
def rdD (call : CallD) (ops : Array Oper) (o : Oper) (st : St) : Option DV := match wantD F ops st o with
  | some true => (match valD P F st.heap st.tmps o.op with
    | some _ => none
    | none => match memD P F st.heap st.next st.tmps o.op with
      | some _ => none
      | none => match calleeD P st.tmps o.op with
        | some (g, args) => match call g args (st.heap.map roB) st.next with
          | some r => if r.d.ids.isEmpty then some r.d else none
          | none => none
        | none => none)
  | _ => none
variable {P} {F}

theorem rdD_sound {call : CallD} (hcall : CallOk P F call) {ρ : Env} (hF : F.ok ρ) {ops : Array Oper} {o : Oper} {st st' : St} {d : DV} (h : rdD P F call ops o st = some d) (hp : putT st o.dst d = some st') {m : Emb} {a : Act} {w : World} (hR : Rep m ρ st a w)
    {K : Act → World → Prop} {Q : Exit → Act → World → Prop} (hK : ∀ v w', Below w.heap.size w w' → Rep m ρ st' (a.put o.dst v) w' → K (a.put o.dst v) w') :
    if Region.wanted o (yielded ops a.tmps) then o.wp P a w K Q ∨ (o.asks P a w ∧ LetsOut Q) else K (a.put o.dst undef) w := by
  unfold rdD at h
  split at h
  · rename_i hw
    rw [wantD_spec hF hR hw]
    simp only [if_true]
    left
    unfold Oper.wp
    split at h
    · cases h
    · split at h
      · cases h
      · split at h
        · rename_i g args hg
          split at h
          · rename_i r hr
            split at h
            · rename_i hids
              cases h
              obtain ⟨vs, hrun, hvs⟩ := calleeD_run hR.tmps hg w
              rw [hrun]
              simp only [Oper.upon]
              refine (hcall g args _ st.next r hr ρ hF m w vs hvs (ro_heap hR.heap) hR.fresh).mono fun e w' ⟨v, m', he, hd, hH, hT, hf⟩ => ?_
              subst he
              have hb : Below w.heap.size w w' := ⟨hT.os, hT.tape, hT.output, hT.size, fun k hk => hT.frame k hk fun ⟨id, B, hB, hrw, _⟩ => by
                rw [T.map_get, Option.map_eq_some_iff] at hB
                obtain ⟨C, _, rfl⟩ := hB
                rw [roB_rw] at hrw; cases hrw⟩
              have hd' : r.d.R m ρ v := DV.R_congr (fun id hid => by rw [List.isEmpty_iff.1 hids] at hid; cases hid) hd
              have hR' : Rep m ρ st a w' := ⟨hR.tmps, hR.size, ⟨fun id B hB hl => by
                obtain ⟨b, o', h1, h2, h3⟩ := hR.heap.blk id B hB hl
                exact ⟨b, o', h1, by rw [hb.block b (Array.getElem?_eq_some_iff.1 h2).1]; exact h2, h3⟩, hR.heap.inj⟩, hR.fresh, hR.dfs⟩
              exact hK v w' hb (rep_put hR' hd' hp).1
            · cases h
          · cases h
        · cases h
  · cases h
end
end Go.Eng

/-
  A region that draws its order: in whatever order its operations are done, it comes to what the order of the text comes to.
-/
namespace Go.Eng

section
variable {P : Program} {F : Facts}

theorem stepV_sound {call : CallD} {ρ : Env} (hF : F.ok ρ) {ops : Array Oper} {o : Oper} {st st' : St} (h : stepX P F call ops o st = some st') (hv : wantD F ops st o = some false ∨ (wantD F ops st o = some true ∧ ∃ d, valD P F st.heap st.tmps o.op = some d))
    {m : Emb} {a : Act} {w : World} (hR : Rep m ρ st a w) {K : Act → World → Prop} {Q : Exit → Act → World → Prop} (hK : ∀ v, Rep m ρ st' (a.put o.dst v) w → K (a.put o.dst v) w) :
    if Region.wanted o (yielded ops a.tmps) then o.wp P a w K Q ∨ (o.asks P a w ∧ LetsOut Q) else K (a.put o.dst undef) w := by
  unfold stepX at h
  rcases hv with hw | ⟨hw, d, hd⟩
  · rw [hw] at h
    rw [wantD_spec hF hR hw]
    simp only [Bool.false_eq_true, if_false]
    obtain ⟨h1, h2, h3⟩ := rep_put hR (d := .tup []) (v := undef) (by simp [DV.R, DV.RL, undef]) h
    exact hK _ h1
  · rw [hw] at h
    simp only [hd] at h
    rw [wantD_spec hF hR hw]
    simp only [if_true]
    left
    unfold Oper.wp
    obtain ⟨v, hrun, hr⟩ := valD_sound hF hR.heap hR.tmps hd
    rw [hrun]
    simp only [Oper.upon]
    obtain ⟨h1, h2, h3⟩ := rep_put hR hr h
    exact hK _ h1

/-- A run of a region in the order of the text, with what each operation looks at. -/
structure DR where
  S : Nat → St
  R : Nat → St
  P : Nat → St
  ids : Nat → List Nat
  val : Nat → Bool

def DR.fresh (D : DR) (i id : Nat) : Prop := (D.S i).next ≤ id ∧ id < (D.S (i + 1)).next
def DR.foot (D : DR) (i id : Nat) : Prop := id ∈ D.ids i ∨ D.fresh i id
def DR.touched (D : DR) (i id : Nat) : Prop := D.val i = false ∧ D.foot i id
def DR.known (D : DR) (i id : Nat) : Prop :=
  D.fresh i id ∨ (∃ t d, (D.R i).tmps.get t = some d ∧ id ∈ d.ids) ∨ (∃ x B, (D.R i).heap.get x = some B ∧ B.live = true ∧ (id = x ∨ id ∈ B.ids))

structure DR.Ok (P : Program) (F : Facts) (call : CallD) (ops : Array Oper) (D : DR) : Prop where
  rt : ∀ i o, ops[i]? = some o → ∀ t, (D.R i).tmps.get t = if t ∈ o.looksAt ops then (D.S i).tmps.get t else none
  rh : ∀ i o, ops[i]? = some o → ∀ id, (D.R i).heap.get id = if id ∈ D.ids i then (D.S i).heap.get id else none
  rn : ∀ i o, ops[i]? = some o → (D.R i).next = (D.S i).next ∧ (D.R i).sz = (D.S i).sz ∧ (D.S (i + 1)).sz = (D.S i).sz ∧ (D.R i).dfs = [] ∧ (D.S (i + 1)).dfs = []
  live : ∀ i o, ops[i]? = some o → ∀ id ∈ D.ids i, ∃ B, (D.S i).heap.get id = some B ∧ B.live = true
  scT : ∀ i o, ops[i]? = some o → ∀ t d, (D.R i).tmps.get t = some d → ∀ id ∈ d.ids, id < (D.S i).next
  scB : ∀ i o, ops[i]? = some o → ∀ id B, (D.R i).heap.get id = some B → id < (D.S i).next ∧ ∀ x ∈ B.ids, x < (D.S i).next
  step : ∀ i o, ops[i]? = some o → D.val i = false → stepX P F call ops o (D.R i) = some (D.P i)
  vals : ∀ i o, ops[i]? = some o → D.val i = true → (D.S (i + 1)).next = (D.S i).next ∧ ((stepX P F call ops o (D.R i) = some (D.P i) ∧ (wantD F ops (D.R i) o = some false ∨ (wantD F ops (D.R i) o = some true ∧ ∃ d, valD P F (D.R i).heap (D.R i).tmps o.op = some d))) ∨ ∃ d, rdD P F call ops o (D.R i) = some d ∧ putT (D.R i) o.dst d = some (D.P i))
  nx : ∀ i o, ops[i]? = some o → (D.S i).next ≤ (D.S (i + 1)).next ∧ (D.S (i + 1)).next = (D.P i).next
  tm : ∀ i o, ops[i]? = some o → ∀ t, (D.S (i + 1)).tmps.get t = if o.dst = some t then (D.P i).tmps.get t else (D.S i).tmps.get t
  hp : ∀ i o, ops[i]? = some o → ∀ id, (D.touched i id → (D.S (i + 1)).heap.get id = (D.P i).heap.get id) ∧ (¬ D.touched i id → (D.S (i + 1)).heap.get id = (D.S i).heap.get id)
  outT : ∀ i o, ops[i]? = some o → ∀ t d, o.dst = some t → (D.P i).tmps.get t = some d → ∀ id ∈ d.ids, D.known i id
  outB : ∀ i o, ops[i]? = some o → ∀ id B, D.touched i id → (D.P i).heap.get id = some B → ∀ x ∈ B.ids, D.known i x
  newrw : ∀ i o, ops[i]? = some o → ∀ id B, D.fresh i id → (D.P i).heap.get id = some B → B.live = true → B.rw = true
  confT : ∀ i j oi oj, i < j → ops[i]? = some oi → ops[j]? = some oj → ((∃ t, oi.dst = some t ∧ (t ∈ oj.looksAt ops ∨ oj.dst = some t)) ∨ (∃ t, oj.dst = some t ∧ t ∈ oi.looksAt ops)) → ahead (befFrom [] ops.toList) i j = true
  confB : ∀ i j oi oj, i < j → ops[i]? = some oi → ops[j]? = some oj → (D.val i = false ∨ D.val j = false) → (∃ id, D.foot i id ∧ D.foot j id) → ahead (befFrom [] ops.toList) i j = true

variable {call : CallD} {ops : Array Oper} {D : DR}

/-- The state k of the text's order knows of the block id what the memory holds, where L is done. -/
def DR.Cons (D : DR) (n : Nat) (L : Nat → Prop) (k id : Nat) : Prop := ∀ i, i < n → D.touched i id → (i < k ↔ L i)
def DR.ConsT (ops : Array Oper) (L : Nat → Prop) (k t : Nat) : Prop := ∀ i o, ops[i]? = some o → o.dst = some t → (i < k ↔ L i)

structure DInv (D : DR) (ops : Array Oper) (ρ : Env) (m0 : Emb) (w0 : World) (L : Nat → Prop) (m : Emb) (a : Act) (w : World) : Prop where
  lt : ∀ i, L i → i < ops.size
  closed : Closed ops L
  size : a.tmps.size = (D.S 0).sz
  defers : a.defers = []
  tm : ∀ k, k ≤ ops.size → ∀ t d, (D.S k).tmps.get t = some d → DR.ConsT ops L k t → ∃ v, a.tmps[t]? = some v ∧ d.R m ρ v
  bl : ∀ k, k ≤ ops.size → ∀ id B, (D.S k).heap.get id = some B → B.live = true → D.Cons ops.size L k id → ∃ b o, m.ι id = some b ∧ w.heap[b]? = some o ∧ B.R m ρ (m.κ id) o
  inj : ∀ k k', k ≤ ops.size → k' ≤ ops.size → ∀ id id' B B' b, (D.S k).heap.get id = some B → (D.S k').heap.get id' = some B' → D.Cons ops.size L k id → D.Cons ops.size L k' id' → B.rw = true → B'.live = true → m.ι id = some b → m.ι id' = some b → id = id'
  un : ∀ i, i < ops.size → ¬ L i → ∀ id, D.fresh i id → m.ι id = none
  un' : ∀ id, (D.S ops.size).next ≤ id → m.ι id = none
  ext : m0.le m
  grow : w0.heap.size ≤ w.heap.size
  frame : ∀ b, b < w0.heap.size → ¬ Fp m0 (D.S 0).heap b → w.heap[b]? = w0.heap[b]?
  fp : ∀ k, k ≤ ops.size → ∀ id B b, (D.S k).heap.get id = some B → B.rw = true → D.Cons ops.size L k id → m.ι id = some b → Fp m0 (D.S 0).heap b ∨ w0.heap.size ≤ b
  tape : w.tape = w0.tape
  os : w.os = w0.os
  output : w.output = w0.output

theorem getlt {ops : Array Oper} {i : Nat} (h : i < ops.size) : ∃ o, ops[i]? = some o := ⟨ops[i], by simp [h]⟩

theorem next_mono (hD : D.Ok P F call ops) : ∀ {i k : Nat}, i ≤ k → k ≤ ops.size → (D.S i).next ≤ (D.S k).next := by
  intro i k h
  induction k with
  | zero => intro _; have : i = 0 := by omega
            subst this; exact Nat.le_refl _
  | succ k ih =>
    intro hk
    by_cases e : i = k + 1
    · subst e; exact Nat.le_refl _
    · obtain ⟨o, ho⟩ := getlt (ops := ops) (i := k) (by omega)
      exact Nat.le_trans (ih (by omega) (by omega)) (hD.nx k o ho).1

theorem fresh_apart (hD : D.Ok P F call ops) {i j id : Nat} (hi : i < ops.size) (hj : j < ops.size) (h1 : D.fresh i id) (h2 : D.fresh j id) : i = j := by
  rcases Nat.lt_trichotomy i j with h | h | h
  · have := next_mono hD (i := i + 1) (k := j) (by omega) (by omega)
    have := h1.2; have := h2.1; omega
  · exact h
  · have := next_mono hD (i := j + 1) (k := i) (by omega) (by omega)
    have := h2.2; have := h1.1; omega

theorem tmps_stay (hD : D.Ok P F call ops) {t : Nat} : ∀ {p q : Nat}, p ≤ q → q ≤ ops.size → (∀ i o, p ≤ i → i < q → ops[i]? = some o → o.dst ≠ some t) → (D.S q).tmps.get t = (D.S p).tmps.get t := by
  intro p q h
  induction q with
  | zero => intro _ _; have : p = 0 := by omega
            subst this; rfl
  | succ q ih =>
    intro hq hn
    by_cases e : p = q + 1
    · subst e; rfl
    · obtain ⟨o, ho⟩ := getlt (ops := ops) (i := q) (by omega)
      rw [hD.tm q o ho t, if_neg (hn q o (by omega) (by omega) ho)]
      exact ih (by omega) (by omega) fun i o h1 h2 => hn i o h1 (by omega)

theorem heap_stay (hD : D.Ok P F call ops) {id : Nat} : ∀ {p q : Nat}, p ≤ q → q ≤ ops.size → (∀ i, p ≤ i → i < q → ¬ D.touched i id) → (D.S q).heap.get id = (D.S p).heap.get id := by
  intro p q h
  induction q with
  | zero => intro _ _; have : p = 0 := by omega
            subst this; rfl
  | succ q ih =>
    intro hq hn
    by_cases e : p = q + 1
    · subst e; rfl
    · obtain ⟨o, ho⟩ := getlt (ops := ops) (i := q) (by omega)
      rw [(hD.hp q o ho id).2 (hn q (by omega) (by omega))]
      exact ih (by omega) (by omega) fun i h1 h2 => hn i h1 (by omega)

/-- Operation j may be done next: the states know what it looks at. -/
theorem consT_at (hD : D.Ok P F call ops) {L : Nat → Prop} (_ : ∀ i, L i → i < ops.size) (hcl : Closed ops L) {j : Nat} {o : Oper} (ho : ops[j]? = some o) (hj : ¬ L j) (hall : ∀ e ∈ o.after, Region.binds .any e = true → L e.on)
    {t : Nat} (ht : t ∈ o.looksAt ops ∨ o.dst = some t) : DR.ConsT ops L j t := by
  intro i oi hoi hd
  constructor
  · intro hij
    exact ahead_spec hcl ho (hD.confT i j oi o hij hoi ho (.inl ⟨t, hd, ht⟩)) hall
  · intro hL
    rcases Nat.lt_trichotomy i j with h | h | h
    · exact h
    · subst h; exact absurd hL hj
    · exfalso
      refine hj (ahead_spec hcl hoi (hD.confT j i o oi h ho hoi ?_) (hcl i oi hL hoi))
      rcases ht with ht | ht
      · exact .inr ⟨t, hd, ht⟩
      · exact .inl ⟨t, ht, .inr hd⟩

theorem cons_at (hD : D.Ok P F call ops) {L : Nat → Prop} (_ : ∀ i, L i → i < ops.size) (hcl : Closed ops L) {j : Nat} {o : Oper} (ho : ops[j]? = some o) (hj : ¬ L j) (hall : ∀ e ∈ o.after, Region.binds .any e = true → L e.on)
    {id : Nat} (hid : D.foot j id) : D.Cons ops.size L j id := by
  intro i hi ht
  obtain ⟨oi, hoi⟩ := getlt hi
  constructor
  · intro hij
    exact ahead_spec hcl ho (hD.confB i j oi o hij hoi ho (.inl ht.1) ⟨id, ht.2, hid⟩) hall
  · intro hL
    rcases Nat.lt_trichotomy i j with h | h | h
    · exact h
    · subst h; exact absurd hL hj
    · exact absurd (ahead_spec hcl hoi (hD.confB j i o oi h ho hoi (.inr ht.1) ⟨id, hid, ht.2⟩) (hcl i oi hL hoi)) hj

/-- Once j is done: a state that knows of what j writes stands behind j, and has what j left. -/
theorem after_tm (hD : D.Ok P F call ops) {L : Nat → Prop} (hlt : ∀ i, L i → i < ops.size) (hcl : Closed ops L) {j : Nat} {o : Oper} (ho : ops[j]? = some o) (hj : ¬ L j) (hall : ∀ e ∈ o.after, Region.binds .any e = true → L e.on)
    {t k : Nat} (hk : k ≤ ops.size) (ht : o.dst = some t) (hc : DR.ConsT ops (fun i => L i ∨ i = j) k t) : (D.S k).tmps.get t = (D.P j).tmps.get t := by
  have hjk : j < k := (hc j o ho ht).2 (.inr rfl)
  have h1 := tmps_stay hD (t := t) (p := j + 1) (q := k) hjk hk (fun i oi h1 h2 hoi hd => by
    have := (hc i oi hoi hd).1 h2
    rcases this with hL | rfl
    · have := (consT_at hD hlt hcl ho hj hall (.inr ht) i oi hoi hd).2 hL; omega
    · omega)
  rw [h1, hD.tm j o ho t, if_pos ht]

theorem after_bl (hD : D.Ok P F call ops) {L : Nat → Prop} (hlt : ∀ i, L i → i < ops.size) (hcl : Closed ops L) {j : Nat} {o : Oper} (ho : ops[j]? = some o) (hj : ¬ L j) (hall : ∀ e ∈ o.after, Region.binds .any e = true → L e.on)
    {id k : Nat} (hk : k ≤ ops.size) (ht : D.touched j id) (hc : D.Cons ops.size (fun i => L i ∨ i = j) k id) : (D.S k).heap.get id = (D.P j).heap.get id := by
  have hjs : j < ops.size := (Array.getElem?_eq_some_iff.1 ho).1
  have hjk : j < k := (hc j hjs ht).2 (.inr rfl)
  have h1 := heap_stay hD (id := id) (p := j + 1) (q := k) hjk hk (fun i h1 h2 hti => by
    have := (hc i (by omega) hti).1 h2
    rcases this with hL | rfl
    · have := (cons_at hD hlt hcl ho hj hall ht.2 i (by omega) hti).2 hL; omega
    · omega)
  rw [h1, (hD.hp j o ho id).1 ht]

theorem cons_back {L : Nat → Prop} {j id k : Nat} (ht : ¬ D.touched j id) (hc : D.Cons ops.size (fun i => L i ∨ i = j) k id) : D.Cons ops.size L k id := fun i hi hti => by
  rw [hc i hi hti]
  exact ⟨fun h => h.resolve_right (fun e => ht (e ▸ hti)), .inl⟩

theorem consT_back {L : Nat → Prop} {j t k : Nat} {o : Oper} (ho : ops[j]? = some o) (ht : o.dst ≠ some t) (hc : DR.ConsT ops (fun i => L i ∨ i = j) k t) : DR.ConsT ops L k t := fun i oi hoi hd => by
  rw [hc i oi hoi hd]
  exact ⟨fun h => h.resolve_right (fun e => by subst e; rw [ho] at hoi; cases hoi; exact ht hd), .inl⟩

theorem closed_add {L : Nat → Prop} (hcl : Closed ops L) {j : Nat} {o : Oper} (ho : ops[j]? = some o) (hall : ∀ e ∈ o.after, Region.binds .any e = true → L e.on) : Closed ops fun i => L i ∨ i = j := by
  intro i oi hL hoi e he hb
  rcases hL with hL | rfl
  · exact .inl (hcl i oi hL hoi e he hb)
  · rw [ho] at hoi; cases hoi; exact .inl (hall e he hb)

def Emb.below (m : Emb) (n : Nat) : Emb := ⟨fun id => if id < n then m.ι id else none, m.κ⟩

theorem Emb.below_same {m : Emb} {n id : Nat} (h : id < n) : m.same (m.below n) id := ⟨by simp [Emb.below, h], rfl⟩

theorem put_get (a : Act) (dst : Option Tmp) (v : Value) (t : Nat) (h : dst ≠ some t) : (a.put dst v).tmps[t]? = a.tmps[t]? := by
  cases dst with
  | none => rfl
  | some d => simp only [Act.put]; rw [Array.getElem?_setIfInBounds_ne (fun e => h (by rw [e]))]

theorem put_size (a : Act) (dst : Option Tmp) (v : Value) : (a.put dst v).tmps.size = a.tmps.size := by cases dst <;> simp [Act.put]
theorem put_defers' (a : Act) (dst : Option Tmp) (v : Value) : (a.put dst v).defers = a.defers := by cases dst <;> rfl

theorem sz_all (hD : D.Ok P F call ops) : ∀ {k : Nat}, k ≤ ops.size → (D.S k).sz = (D.S 0).sz := by
  intro k
  induction k with
  | zero => intro _; rfl
  | succ k ih => intro hk; obtain ⟨o, ho⟩ := getlt (ops := ops) (i := k) (by omega); rw [(hD.rn k o ho).2.2.1]; exact ih (by omega)

end

end Go.Eng

/-
  A region that draws its order: one operation more.
-/
namespace Go.Eng
open Go.RowKit

section
variable {P : Program} {F : Facts} {call : CallD} {ops : Array Oper} {D : DR}

theorem below_le (m : Emb) (n : Nat) : (m.below n).le m := fun id b h => by
  simp only [Emb.below] at h ⊢
  split at h
  · exact ⟨h, trivial⟩
  · cases h

theorem rep_at (hD : D.Ok P F call ops) {ρ : Env} {m0 m : Emb} {w0 w : World} {a : Act} {L : Nat → Prop} (I : DInv D ops ρ m0 w0 L m a w) {j : Nat} {o : Oper} (ho : ops[j]? = some o) (hj : ¬ L j)
    (hall : ∀ e ∈ o.after, Region.binds .any e = true → L e.on) : Rep (m.below (D.S j).next) ρ (D.R j) a w := by
  have hjs : j < ops.size := (Array.getElem?_eq_some_iff.1 ho).1
  have hget : ∀ id B, (D.R j).heap.get id = some B → id ∈ D.ids j ∧ (D.S j).heap.get id = some B := fun id B h => by
    rw [hD.rh j o ho id] at h
    split at h
    · rename_i hm; exact ⟨hm, h⟩
    · cases h
  refine ⟨⟨fun t d hd => ?_⟩, ?_, ⟨fun id B hB hl => ?_, fun id id' B B' b hB hB' hrw hl hi hi' => ?_⟩, fun id hid => ?_, by rw [(hD.rn j o ho).2.2.2.1]; exact I.defers⟩
  · have hsc := hD.scT j o ho t d hd
    rw [hD.rt j o ho t] at hd
    split at hd
    · rename_i hm
      obtain ⟨v, hv, hr⟩ := I.tm j (by omega) t d hd (consT_at hD I.lt I.closed ho hj hall (.inl hm))
      exact ⟨v, hv, DV.R_congr (fun id hid => Emb.below_same (hsc id hid)) hr⟩
    · cases hd
  · rw [I.size, (hD.rn j o ho).2.1]; exact (sz_all hD (by omega)).symm
  · obtain ⟨hm, hS⟩ := hget id B hB
    obtain ⟨b, ob, h1, h2, h3⟩ := I.bl j (by omega) id B hS hl (cons_at hD I.lt I.closed ho hj hall (.inl hm))
    obtain ⟨hs1, hs2⟩ := hD.scB j o ho id B hB
    exact ⟨b, ob, by simp [Emb.below, hs1, h1], h2, Blk.R_congr (fun x hx => Emb.below_same (hs2 x hx)) h3⟩
  · obtain ⟨hm, hS⟩ := hget id B hB
    obtain ⟨hm', hS'⟩ := hget id' B' hB'
    exact I.inj j j (by omega) (by omega) id id' B B' b hS hS' (cons_at hD I.lt I.closed ho hj hall (.inl hm)) (cons_at hD I.lt I.closed ho hj hall (.inl hm')) hrw hl (below_le m _ id b hi).1 (below_le m _ id' b hi').1
  · rw [(hD.rn j o ho).1] at hid
    simp [Emb.below]; omega

/-- What the memory is where an operation that writes it is done. -/
theorem dmem (hD : D.Ok P F call ops) {ρ : Env} {m0 m : Emb} {w0 w : World} {a : Act} {L : Nat → Prop} (I : DInv D ops ρ m0 w0 L m a w) {j : Nat} {o : Oper} (ho : ops[j]? = some o) (hj : ¬ L j)
    (hall : ∀ e ∈ o.after, Region.binds .any e = true → L e.on) (hval : D.val j = false) {v : Value} {w' : World} {m1 : Emb} (hR' : Rep m1 ρ (D.P j) (a.put o.dst v) w') (hT : Trans (m.below (D.S j).next) (D.R j).heap w m1 (D.P j).heap w') :
    ∃ m', DInv D ops ρ m0 w0 (fun i => L i ∨ i = j) m' (a.put o.dst v) w' := by
  have hjs : j < ops.size := (Array.getElem?_eq_some_iff.1 ho).1
  have hR := rep_at hD I ho hj hall
  have hlt' : ∀ i, (L i ∨ i = j) → i < ops.size := fun i h => h.elim (I.lt i) (fun e => e ▸ hjs)
  have hcl' := closed_add I.closed ho hall
  let n := (D.S j).next
  let n' := (D.S (j + 1)).next
  let m' : Emb := ⟨fun id => if n ≤ id ∧ id < n' then m1.ι id else m.ι id, fun id => if n ≤ id ∧ id < n' then m1.κ id else m.κ id⟩
  have hin : ∀ id, D.fresh j id → m'.ι id = m1.ι id ∧ m'.κ id = m1.κ id := fun id h => by
    have h' : n ≤ id ∧ id < n' := h
    simp [m', h']
  have hout : ∀ id, ¬ D.fresh j id → m'.ι id = m.ι id ∧ m'.κ id = m.κ id := fun id h => by
    have h' : ¬ (n ≤ id ∧ id < n') := h
    simp [m', h']
  have hle : m.le m' := fun id b hb => by
    have hn : ¬ D.fresh j id := fun h => by rw [I.un j hjs hj id h] at hb; cases hb
    rw [(hout id hn).1, (hout id hn).2]; exact ⟨hb, rfl⟩
  have hget : ∀ id B, (D.R j).heap.get id = some B → id ∈ D.ids j ∧ (D.S j).heap.get id = some B := fun id B h => by
    rw [hD.rh j o ho id] at h
    split at h
    · rename_i hm; exact ⟨hm, h⟩
    · cases h
  have hold : ∀ id b, (m.below n).ι id = some b → m1.same m' id := fun id b hb => by
    obtain ⟨h1, h2⟩ := hT.ext id b hb
    have hlt : id < n := by simp only [Emb.below] at hb; split at hb <;> simp_all
    have hn : ¬ D.fresh j id := fun h => by have h' : n ≤ id := h.1; omega
    refine ⟨?_, ?_⟩
    · rw [h1, (hout id hn).1]; exact ((below_le m _ id b hb).1).symm
    · rw [h2, (hout id hn).2]; rfl
  have hknown : ∀ id, D.known j id → m1.same m' id := fun id hk => by
    rcases hk with hk | ⟨t, d, hd, hid⟩ | ⟨x, B, hB, hl, hid⟩
    · exact ⟨(hin id hk).1.symm, (hin id hk).2.symm⟩
    · obtain ⟨u, _, hr⟩ := hR.tmps.get t d hd
      obtain ⟨b, hb⟩ := DV.R_mapped hr id hid
      exact hold id b hb
    · obtain ⟨b, ob, h1, h2, h3⟩ := hR.heap.blk x B hB hl
      rcases hid with rfl | hid
      · exact hold id b h1
      · obtain ⟨b', hb'⟩ := Blk.R_mapped h3 id hid
        exact hold id b' hb'
  have hfoot : ∀ id, D.foot j id → m1.same m' id := fun id hf => by
    rcases hf with hf | hf
    · obtain ⟨B, hB, hl⟩ := hD.live j o ho id hf
      exact hknown id (.inr (.inr ⟨id, B, by rw [hD.rh j o ho id, if_pos hf]; exact hB, hl, .inl rfl⟩))
    · exact hknown id (.inl hf)
  have htouch : ∀ id, D.touched j id ↔ D.foot j id := fun id => ⟨fun h => h.2, fun h => ⟨hval, h⟩⟩
  have hnf : ∀ id, ¬ D.touched j id → ¬ D.fresh j id := fun id h hf => h ⟨hval, .inr hf⟩
  -- a block that what is known elsewhere lies in is not among those that may be written here
  have hapart : ∀ k id B b, k ≤ ops.size → (D.S k).heap.get id = some B → B.live = true → D.Cons ops.size L k id → m.ι id = some b → ¬ D.touched j id → ¬ Fp (m.below n) (D.R j).heap b := by
    intro k id B b hk hB hl hc hb hnt ⟨x, C, hC, hrw, hx⟩
    obtain ⟨hm, hS⟩ := hget x C hC
    have := I.inj j k (by omega) hk x id C B b hS hB (cons_at hD I.lt I.closed ho hj hall (.inl hm)) hc hrw hl (below_le m _ x b hx).1 hb
    subst this
    exact hnt ⟨hval, .inl hm⟩
  refine ⟨m', ?_⟩
  exact {
    lt := hlt'
    closed := hcl'
    size := by rw [put_size]; exact I.size
    defers := by rw [put_defers']; exact I.defers
    tm := fun k hk t d hd hc => by
      by_cases ht : o.dst = some t
      · rw [after_tm hD I.lt I.closed ho hj hall hk ht hc] at hd
        obtain ⟨u, hu, hr⟩ := hR'.tmps.get t d hd
        exact ⟨u, hu, DV.R_congr (fun id hid => hknown id (hD.outT j o ho t d ht hd id hid)) hr⟩
      · obtain ⟨u, hu, hr⟩ := I.tm k hk t d hd (consT_back ho ht hc)
        exact ⟨u, by rw [put_get _ _ _ _ ht]; exact hu, hr.mono hle⟩
    bl := fun k hk id B hB hl hc => by
      by_cases ht : D.touched j id
      · rw [after_bl hD I.lt I.closed ho hj hall hk ht hc] at hB
        obtain ⟨b, ob, h1, h2, h3⟩ := hR'.heap.blk id B hB hl
        have hs := hfoot id ht.2
        refine ⟨b, ob, hs.1 ▸ h1, h2, ?_⟩
        rw [← hs.2]
        exact Blk.R_congr (fun x hx => hknown x (hD.outB j o ho id B ht hB x hx)) h3
      · have hc' := cons_back ht hc
        obtain ⟨b, ob, h1, h2, h3⟩ := I.bl k hk id B hB hl hc'
        refine ⟨b, ob, (hle id b h1).1, ?_, ?_⟩
        · rw [hT.frame b (Array.getElem?_eq_some_iff.1 h2).1 (hapart k id B b hk hB hl hc' h1 ht)]; exact h2
        · rw [(hle id b h1).2]; exact h3.mono hle
    inj := fun k k' hk hk' id id' B B' b hB hB' hc hc' hrw hl hi hi' => by
      by_cases ht : D.touched j id
      · rw [after_bl hD I.lt I.closed ho hj hall hk ht hc] at hB
        have hs := hfoot id ht.2
        by_cases ht' : D.touched j id'
        · rw [after_bl hD I.lt I.closed ho hj hall hk' ht' hc'] at hB'
          have hs' := hfoot id' ht'.2
          exact hR'.heap.inj id id' B B' b hB hB' hrw hl (hs.1.trans hi) (hs'.1.trans hi')
        · have hcb := cons_back ht' hc'
          obtain ⟨b', ob, h1, h2, h3⟩ := I.bl k' hk' id' B' hB' hl hcb
          have := (hle id' b' h1).1
          rw [hi'] at this; cases this
          have hblt := (Array.getElem?_eq_some_iff.1 h2).1
          rcases hT.fp b ⟨id, B, hB, hrw, hs.1.trans hi⟩ with hf | hf
          · exact absurd hf (hapart k' id' B' b hk' hB' hl hcb h1 ht')
          · omega
      · have hcb := cons_back ht hc
        obtain ⟨b', ob, h1, h2, h3⟩ := I.bl k hk id B hB (Blk.live_of_rw hrw) hcb
        have := (hle id b' h1).1
        rw [hi] at this; cases this
        have hblt := (Array.getElem?_eq_some_iff.1 h2).1
        by_cases ht' : D.touched j id'
        · rw [after_bl hD I.lt I.closed ho hj hall hk' ht' hc'] at hB'
          have hs' := hfoot id' ht'.2
          rcases ht'.2 with hm | hfr
          · obtain ⟨C, hC, hCl⟩ := hD.live j o ho id' hm
            obtain ⟨bc, oc, hc1, _, _⟩ := I.bl j (by omega) id' C hC hCl (cons_at hD I.lt I.closed ho hj hall (.inl hm))
            have := (hle id' bc hc1).1
            rw [hi'] at this; cases this
            exact I.inj k j hk (by omega) id id' B C b hB hC hcb (cons_at hD I.lt I.closed ho hj hall (.inl hm)) hrw hCl h1 hc1
          · have hrw' := hD.newrw j o ho id' B' hfr hB' hl
            rcases hT.fp b ⟨id', B', hB', hrw', hs'.1.trans hi'⟩ with hf | hf
            · exact absurd hf (hapart k id B b hk hB (Blk.live_of_rw hrw) hcb h1 ht)
            · omega
        · refine I.inj k k' hk hk' id id' B B' b hB hB' hcb (cons_back ht' hc') hrw hl h1 ?_
          rw [← (hout id' (hnf id' ht')).1]; exact hi'
    un := fun i hi hn id hf => by
      have hne : ¬ D.fresh j id := fun h => hn (.inr (fresh_apart hD hi hjs hf h))
      rw [(hout id hne).1]; exact I.un i hi (fun h => hn (.inl h)) id hf
    un' := fun id hid => by
      have hne : ¬ D.fresh j id := fun h => by
        have h1 : id < (D.S (j + 1)).next := h.2
        have := next_mono hD (i := j + 1) (k := ops.size) (by omega) (Nat.le_refl _)
        omega
      rw [(hout id hne).1]; exact I.un' id hid
    ext := Emb.le_trans I.ext hle
    grow := Nat.le_trans I.grow hT.size
    frame := fun b hb hn => by
      rw [hT.frame b (Nat.lt_of_lt_of_le hb I.grow) (fun ⟨x, C, hC, hrw, hx⟩ => by
        obtain ⟨hm, hS⟩ := hget x C hC
        rcases I.fp j (by omega) x C b hS hrw (cons_at hD I.lt I.closed ho hj hall (.inl hm)) (below_le m _ x b hx).1 with h | h
        · exact hn h
        · omega)]
      exact I.frame b hb hn
    fp := fun k hk id B b hB hrw hc hi => by
      by_cases ht : D.touched j id
      · rw [after_bl hD I.lt I.closed ho hj hall hk ht hc] at hB
        have hs := hfoot id ht.2
        rcases hT.fp b ⟨id, B, hB, hrw, hs.1.trans hi⟩ with ⟨x, C, hC, hrwx, hx⟩ | hf
        · obtain ⟨hm, hS⟩ := hget x C hC
          exact I.fp j (by omega) x C b hS hrwx (cons_at hD I.lt I.closed ho hj hall (.inl hm)) (below_le m _ x b hx).1
        · exact .inr (Nat.le_trans I.grow hf)
      · refine I.fp k hk id B b hB hrw (cons_back ht hc) ?_
        rw [← (hout id (hnf id ht)).1]; exact hi
    tape := hT.tape.trans I.tape
    os := hT.os.trans I.os
    output := hT.output.trans I.output }

theorem dstepC {call0 : CallD} (hcall : CallOk P F call0) {ρ : Env} (hF : F.ok ρ) (hD : D.Ok P F call ops) {m0 m : Emb} {w0 w : World} {a : Act} {L : Nat → Prop} (I : DInv D ops ρ m0 w0 L m a w) {j : Nat} {o : Oper} (ho : ops[j]? = some o) (hvl : D.val j = true → (stepX P F call ops o (D.R j) = some (D.P j) ∧ (wantD F ops (D.R j) o = some false ∨ (wantD F ops (D.R j) o = some true ∧ ∃ d, valD P F (D.R j).heap (D.R j).tmps o.op = some d))) ∨ (CallOk P F call ∧ ∃ d, rdD P F call ops o (D.R j) = some d ∧ putT (D.R j) o.dst d = some (D.P j))) (hst : D.val j = false → stepX P F call0 ops o (D.R j) = some (D.P j)) (hj : ¬ L j)
    (hall : ∀ e ∈ o.after, Region.binds .any e = true → L e.on) {K : Act → World → Prop} {Q : Exit → Act → World → Prop}
    (hK : ∀ m' a' w', DInv D ops ρ m0 w0 (fun i => L i ∨ i = j) m' a' w' → K a' w') :
    if Region.wanted o (yielded ops a.tmps) then o.wp P a w K Q ∨ (o.asks P a w ∧ LetsOut Q) else K (a.put o.dst undef) w := by
  have hjs : j < ops.size := (Array.getElem?_eq_some_iff.1 ho).1
  have hR := rep_at hD I ho hj hall
  have hlt' : ∀ i, (L i ∨ i = j) → i < ops.size := fun i h => h.elim (I.lt i) (fun e => e ▸ hjs)
  have hcl' := closed_add I.closed ho hall
  cases hval : D.val j with
  | true =>
    have hv := hvl hval
    have hnt : ∀ id, ¬ D.touched j id := fun id h => by rw [h.1] at hval; cases hval
    have done : ∀ v w', Below w.heap.size w w' → Rep (m.below (D.S j).next) ρ (D.P j) (a.put o.dst v) w' → DInv D ops ρ m0 w0 (fun i => L i ∨ i = j) m (a.put o.dst v) w' := fun v w' hb hR' => {
      lt := hlt'
      closed := hcl'
      size := by rw [put_size]; exact I.size
      defers := by rw [put_defers']; exact I.defers
      tm := fun k hk t d hd hc => by
        by_cases ht : o.dst = some t
        · rw [after_tm hD I.lt I.closed ho hj hall hk ht hc] at hd
          obtain ⟨u, hu, hr⟩ := hR'.tmps.get t d hd
          exact ⟨u, hu, hr.mono (below_le m _)⟩
        · obtain ⟨u, hu, hr⟩ := I.tm k hk t d hd (consT_back ho ht hc)
          exact ⟨u, by rw [put_get _ _ _ _ ht]; exact hu, hr⟩
      bl := fun k hk id B hB hl hc => by
        obtain ⟨b, ob, h1, h2, h3⟩ := I.bl k hk id B hB hl (cons_back (hnt id) hc)
        exact ⟨b, ob, h1, by rw [hb.block b (Array.getElem?_eq_some_iff.1 h2).1]; exact h2, h3⟩
      inj := fun k k' hk hk' id id' B B' b hB hB' hc hc' => I.inj k k' hk hk' id id' B B' b hB hB' (cons_back (hnt id) hc) (cons_back (hnt id') hc')
      un := fun i hi hn id hf => I.un i hi (fun h => hn (.inl h)) id hf
      un' := I.un'
      ext := I.ext
      grow := Nat.le_trans I.grow hb.size
      frame := fun b hlt hn => by rw [hb.block b (Nat.lt_of_lt_of_le hlt I.grow)]; exact I.frame b hlt hn
      fp := fun k hk id B b hB hrw hc hi => I.fp k hk id B b hB hrw (cons_back (hnt id) hc) hi
      tape := hb.tape.trans I.tape
      os := hb.os.trans I.os
      output := hb.output.trans I.output }
    rcases hv with ⟨hst', hv⟩ | ⟨hcallD, d, hrd, hput⟩
    · exact stepV_sound hF hst' hv hR fun v hR' => hK m _ w (done v w (Below.refl _ w) hR')
    · exact rdD_sound hcallD hF hrd hput hR fun v w' hb hR' => hK m _ w' (done v w' hb hR')
  | false =>
    exact stepX_sound hcall hF (hst hval) hR fun v w' m1 hR' hT => by
      obtain ⟨m', I'⟩ := dmem hD I ho hj hall hval hR' hT
      exact hK m' _ w' I'

theorem dstep (hcall : CallOk P F call) {ρ : Env} (hF : F.ok ρ) (hD : D.Ok P F call ops) {m0 m : Emb} {w0 w : World} {a : Act} {L : Nat → Prop} (I : DInv D ops ρ m0 w0 L m a w) {j : Nat} {o : Oper} (ho : ops[j]? = some o) (hj : ¬ L j)
    (hall : ∀ e ∈ o.after, Region.binds .any e = true → L e.on) {K : Act → World → Prop} {Q : Exit → Act → World → Prop}
    (hK : ∀ m' a' w', DInv D ops ρ m0 w0 (fun i => L i ∨ i = j) m' a' w' → K a' w') :
    if Region.wanted o (yielded ops a.tmps) then o.wp P a w K Q ∨ (o.asks P a w ∧ LetsOut Q) else K (a.put o.dst undef) w :=
  dstepC hcall hF hD I ho (fun hv => (hD.vals j o ho hv).2.imp id fun h => ⟨hcall, h⟩) (hD.step j o ho) hj hall hK

end

end Go.Eng
