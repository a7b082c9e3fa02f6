/-
  Matching of blocks and of states.
-/
import Derived.Test.YtgielkefgliiiaaEngZR
namespace Go.Eng
open Go.RowKit

section
variable (σ : T E) (r : Nat → Nat) (n : Nat)

/-- A template's cells may be fewer. -/
def matchPre : List DV → List DV → Bool
  | [], _ => true
  | d :: l, d' :: l' => matchD σ r n d d' && matchPre l l'
  | _, _ => false

/-- A variable of the package stands for itself. -/
def glOk : Md → Bool
  | .gl g => decide (g < n ∧ r g = g)
  | _ => true

def eqEs : List E → List E → Bool
  | [], [] => true
  | a :: l, b :: l' => eqE σ a b && eqEs l l'
  | _, _ => false

def matchB : Blk → Blk → Bool
  | .cells l t md, .cells l' t' md' => matchPre σ r n l l' && t == t' && decide (md = md') && glOk r n md
  | .arr q a k sh t md, .arr q' a' k' sh' t' md' => eqE σ q q' && eqE σ a a' && eqE σ k k' && decide (sh = sh') && t == t' && decide (md = md') && glOk r n md
  | .mpb es, .mpb es' => matchDL σ r n (es.map (·.1)) (es'.map (·.1)) && matchDL σ r n (es.map (·.2)) (es'.map (·.2))
  | .itb mp seen last, .itb mp' seen' last' => decide (mp < n) && r mp == mp' && eqEs σ seen seen' && (last == none || last == last')
  | .dead, _ => true
  | _, _ => false

variable {σ r n}

theorem matchPre_ok {m : Emb} {ρ : Env} : ∀ {l l' : List DV}, matchPre σ r n l l' = true → l.length ≤ l'.length ∧ ∀ (i : Nat) (d : DV), l[i]? = some d → ∃ d', l'[i]? = some d' ∧ matchD σ r n d d' = true
  | [], l', _ => ⟨Nat.zero_le _, fun i d h => by simp at h⟩
  | d :: l, d' :: l', h => by
    simp only [matchPre, Bool.and_eq_true] at h
    obtain ⟨h1, h2⟩ := matchPre_ok (m := m) (ρ := ρ) h.2
    refine ⟨by simpa using h1, fun i e he => ?_⟩
    cases i with
    | zero => simp at he; subst he; exact ⟨d', rfl, h.1⟩
    | succ i => simp at he; simpa using h2 i e he
  | _ :: _, [], h => by simp [matchPre] at h

theorem glOk_ok {m : Emb} {md : Md} (h : glOk r n md = true) {k k' : Nat} (hk : k' = k) {c : Array Value} {fr : Nat × Nat} (ho : md.ok m k c fr) : md.ok (m.pull r n) k' c fr := by
  subst hk
  cases md with
  | gl g =>
    simp only [glOk, decide_eq_true_eq] at h
    simp only [Md.ok, Emb.pull] at ho ⊢
    rw [if_pos h.1, h.2]
    exact ho
  | ro => exact ho
  | rw => exact ho
  | own s => exact ho
  | reg l => exact ho

theorem eqEs_ok {ρ : Env} : ∀ {l l' : List E}, eqEs σ l l' = true → l.length = l'.length ∧ ∀ (i : Nat) (e : E), l[i]? = some e → ∃ e', l'[i]? = some e' ∧ e.ev (ρ.upd σ) = e'.ev ρ
  | [], [], _ => ⟨rfl, fun i e h => by simp at h⟩
  | [], _ :: _, h => by simp [eqEs] at h
  | _ :: _, [], h => by simp [eqEs] at h
  | a :: l, b :: l', h => by
    simp only [eqEs, Bool.and_eq_true] at h
    obtain ⟨h1, h2⟩ := eqEs_ok (ρ := ρ) h.2
    refine ⟨by simp [h1], fun i e he => ?_⟩
    cases i with
    | zero => simp at he; subst he; exact ⟨b, rfl, eqE_ok h.1 ρ⟩
    | succ i => simp at he; simpa using h2 i e he

theorem matchDL_length {l l' : List DV} (h : matchDL σ r n l l' = true) : l.length = l'.length := by
  induction l generalizing l' with
  | nil => cases l' <;> simp_all [matchDL]
  | cons d l ih =>
    cases l' with
    | nil => simp [matchDL] at h
    | cons d' l' => simp only [matchDL, Bool.and_eq_true] at h; simp [ih h.2]

theorem matchB_ok {m : Emb} {ρ : Env} {B B' : Blk} {id : Nat} {o : Obj} (h : matchB σ r n B B' = true) (hr : B'.R m ρ (m.κ (r id)) o) : B.R (m.pull r n) (ρ.upd σ) ((m.pull r n).κ id) o := by
  cases B with
  | dead => trivial
  | mpb es =>
    cases B' <;> simp only [matchB, Bool.false_eq_true] at h
    rename_i es'
    simp only [Bool.and_eq_true] at h
    obtain ⟨en, clk, ho, h1, h2, h3⟩ := hr
    exact ⟨en, clk, ho, matchDL_ok h.1 h1, matchDL_ok h.2 h2, h3⟩
  | itb mp seen last =>
    cases B' <;> simp only [matchB, Bool.false_eq_true] at h
    rename_i mp' seen' last'
    simp only [Bool.and_eq_true, Bool.or_eq_true, beq_iff_eq, decide_eq_true_eq] at h
    obtain ⟨⟨⟨h1, h2⟩, h3⟩, h4⟩ := h
    obtain ⟨hlen, hes⟩ := eqEs_ok (ρ := ρ) h3
    obtain ⟨b, sn, ho, hb, hs, hl⟩ := hr
    refine ⟨b, sn, by rw [hlen]; exact ho, by simp only [Emb.pull, h1, if_true, h2]; exact hb, fun i e he => ?_, fun i hi => ?_⟩
    · obtain ⟨e', he', hev⟩ := hes i e he
      rw [hev]; exact hs i e' he'
    · rcases h4 with h4 | h4
      · rw [h4] at hi; cases hi
      · exact hl i (h4 ▸ hi)
  | cells l t md =>
    cases B' <;> simp only [matchB, Bool.false_eq_true] at h
    rename_i l' t' md'
    simp only [Bool.and_eq_true, beq_iff_eq, decide_eq_true_eq] at h
    obtain ⟨⟨⟨h1, rfl⟩, rfl⟩, hgl⟩ := h
    obtain ⟨hl, hd⟩ := matchPre_ok (m := m) (ρ := ρ) h1
    obtain ⟨c, fr, ho, hc, hcells, hmd⟩ := hr
    refine ⟨c, fr, ho, by omega, fun i d hi => ?_, glOk_ok hgl rfl hmd⟩
    obtain ⟨d', hd', hm⟩ := hd i d hi
    obtain ⟨v, hv, hrv⟩ := hcells i d' hd'
    exact ⟨v, hv, matchD_ok hm hrv⟩
  | arr q a k sh t md =>
    cases B' <;> simp only [matchB, Bool.false_eq_true] at h
    rename_i q' a' k' sh' t' md'
    simp only [Bool.and_eq_true, beq_iff_eq, decide_eq_true_eq] at h
    obtain ⟨⟨⟨⟨⟨⟨h1, h2⟩, h3⟩, rfl⟩, rfl⟩, rfl⟩, hgl⟩ := h
    obtain ⟨c, fr, ho, ha, hq, hv, hs, hmd⟩ := hr
    refine ⟨c, fr, ho, ?_, ?_, ?_, ?_, glOk_ok hgl rfl hmd⟩
    · rw [eqE_ok h2, eqE_ok h3]; exact ha
    · rw [eqE_ok h2, eqE_ok h1]; exact hq
    · rw [eqE_ok h2, eqE_ok h1]; exact hv
    · rw [eqE_ok h2]; exact hs

/-- A state at the head of a loop, as it is told. -/
structure Tm where
  tmps : List (Nat × DV)
  heap : List (Nat × Blk)
  next : Nat
  sz : Nat

def Tm.st (t : Tm) : St := ⟨T.ofList t.tmps, T.ofList t.heap, t.next, t.sz⟩

def nodupB : List Nat → Bool
  | [] => true
  | a :: l => !l.elem a && nodupB l

def matchSt (σ : T E) (r : Nat → Nat) (t : Tm) (st : St) : Bool :=
  t.tmps.all (fun (i, d) => match st.tmps.get i with | some d' => matchD σ r t.next d d' | none => false) &&
  t.heap.all (fun (id, B) => decide (id < t.next) && match st.heap.get (r id) with | some B' => matchB σ r t.next B B' && (!B.rw || B'.rw) && (!B.live || B'.live) | none => false) &&
  nodupB (t.heap.map fun p => r p.1) && t.sz == st.sz

theorem ofList_mem {α : Type} : ∀ {l : List (Nat × α)} {n : Nat} {x : α}, (T.ofList l).get n = some x → (n, x) ∈ l
  | [], n, x, h => by simp [T.ofList, T.get] at h
  | (k, y) :: l, n, x, h => by
    simp only [T.ofList] at h
    rw [T.get_set] at h
    split at h
    · rename_i e; cases h; subst e; simp
    · exact List.mem_cons_of_mem _ (ofList_mem h)

theorem nodupB_ok : ∀ {l : List (Nat × Blk)}, nodupB (l.map fun p => r p.1) = true → ∀ p ∈ l, ∀ q ∈ l, r p.1 = r q.1 → p = q
  | [], _, p, hp, _, _, _ => by simp at hp
  | a :: l, h, p, hp, q, hq, e => by
    simp only [List.map_cons, nodupB, Bool.and_eq_true, Bool.not_eq_true', List.elem_eq_mem, decide_eq_false_iff_not] at h
    rcases List.mem_cons.1 hp with ep | hp'
    · rcases List.mem_cons.1 hq with eq | hq'
      · rw [ep, eq]
      · have := List.mem_map_of_mem (f := fun p : Nat × Blk => r p.1) hq'
        rw [← e, ep] at this
        exact absurd this h.1
    · rcases List.mem_cons.1 hq with eq | hq'
      · have := List.mem_map_of_mem (f := fun p : Nat × Blk => r p.1) hp'
        rw [e, eq] at this
        exact absurd this h.1
      · exact nodupB_ok h.2 p hp' q hq' e

theorem matchSt_ok {m : Emb} {ρ : Env} {t : Tm} {st : St} {a : Act} {w : World} (h : matchSt σ r t st = true) (hR : Rep m ρ st a w) :
    Rep (m.pull r t.next) (ρ.upd σ) t.st a w ∧ ∀ b, Fp (m.pull r t.next) t.st.heap b → Fp m st.heap b := by
  simp only [matchSt, Bool.and_eq_true, List.all_eq_true, beq_iff_eq] at h
  obtain ⟨⟨⟨h1, h2⟩, h3⟩, h4⟩ := h
  have H : ∀ id B, t.st.heap.get id = some B → (id, B) ∈ t.heap ∧ id < t.next ∧ ∃ B', st.heap.get (r id) = some B' ∧ matchB σ r t.next B B' = true ∧ (B.rw = true → B'.rw = true) ∧ (B.live = true → B'.live = true) := by
    intro id B hB
    have hm := ofList_mem hB
    have := h2 _ hm
    simp only [Bool.and_eq_true, decide_eq_true_eq] at this
    obtain ⟨hlt, h'⟩ := this
    split at h'
    · rename_i B' hB'
      simp only [Bool.and_eq_true, Bool.or_eq_true, Bool.not_eq_true'] at h'
      exact ⟨hm, hlt, B', hB', h'.1.1, fun e => by rcases h'.1.2 with h | h; (rw [e] at h; cases h); exact h, fun e => by rcases h'.2 with h | h; (rw [e] at h; cases h); exact h⟩
    · cases h'
  refine ⟨⟨⟨fun i d hd => ?_, hR.tmps.defers⟩, by rw [hR.size]; exact h4.symm, ⟨fun id B hB hl => ?_, fun id id' B B' b hB hB' hrw hl hb hb' => ?_⟩, fun id hid => ?_⟩, fun b ⟨id, B, hB, hrw, hb⟩ => ?_⟩
  · have := h1 _ (ofList_mem hd)
    simp only at this
    split at this
    · rename_i d' hd'
      obtain ⟨v, hv, hr⟩ := hR.tmps.get i d' hd'
      exact ⟨v, hv, matchD_ok this hr⟩
    · cases this
  · obtain ⟨hm, hlt, B', hB', hmt, _, hlv⟩ := H id B hB
    obtain ⟨b, o, h1, h2, h3⟩ := hR.heap.blk _ _ hB' (hlv hl)
    exact ⟨b, o, by simp only [Emb.pull, hlt, if_true]; exact h1, h2, matchB_ok hmt h3⟩
  · obtain ⟨hm, hlt, C, hC, _, hCrw, _⟩ := H id B hB
    obtain ⟨hm', hlt', C', hC', _, _, hCl⟩ := H id' B' hB'
    simp only [Emb.pull, hlt, if_true] at hb
    simp only [Emb.pull, hlt', if_true] at hb'
    have e := hR.heap.inj _ _ _ _ b hC hC' (hCrw hrw) (hCl hl) hb hb'
    have := nodupB_ok h3 _ hm _ hm' e
    exact congrArg Prod.fst this
  · simp only [Emb.pull]
    rw [if_neg (by simp only [Tm.st] at hid; omega)]
  · obtain ⟨_, hlt, B', hB', _, hCrw, _⟩ := H id B hB
    simp only [Emb.pull, hlt, if_true] at hb
    exact ⟨_, B', hB', hCrw hrw, hb⟩
end

end Go.Eng
