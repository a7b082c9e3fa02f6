/- The contract of csr.Check. -/
import Derived.Test.YtcebboibpbbgdaaGreatDoorCsrCheckRunC
namespace Go.Proofs.YtcebboibpbbgdaaGreatDoor.Csr
open Go.Eng Go.RowKit

/-- What stands in field i of the new state, once it has been written. -/
def fin (i : Nat) : E := if i = 17 then (news.getD 17 (.li 0)).sub (T.ofList [(77, .li 0)]) else news.getD i (.li 0)

def unseen (ρ : Env) : Nat := ((List.range 18).filter fun i => !(ρ.v (100 + i)).bool).length

structure Inv0 (ρ0 ρ : Env) : Prop where
  f : ρ.f = ρ0.f
  v : ∀ i, i < 60 ∨ (78 ≤ i ∧ i < 100) → ρ.v i = ρ0.v i
  c : ∀ i, i < 18 → ρ.v (60 + i) = if (ρ.v (100 + i)).bool = true then (fin i).ev ρ0 else .I 0

theorem fin_under : ((List.range 18).all fun i => (fin i).under 31) = true := by decide +kernel
theorem news_under : ((List.range 17).all fun i => (news.getD i (.li 0)).under 31) = true := by decide +kernel

theorem upd_go (ρ : Env) (i : Nat) (e : E) (n : Nat) : (ρ.upd (T.ofList [(100 + i, .lb true), (60 + i, e)])).v n = if n = 100 + i then .B true else if n = 60 + i then e.ev ρ else ρ.v n := by
  rw [upd_cons, upd_cons, upd_nil]; rfl

theorem news_ev {ρ0 ρ : Env} (h : Inv0 ρ0 ρ) {i : Nat} (hi : i < 18) (hs : (ρ.v (100 + i)).bool = false) : (news.getD i (.li 0)).ev ρ = (fin i).ev ρ0 := by
  by_cases h17 : i = 17
  · subst h17
    have e1 : (fin 17).ev ρ0 = (fin 17).ev ρ := (ev_under h.f (fun n hn => h.v n (.inl (by omega))) (List.all_eq_true.1 fin_under 17 (by decide))).symm
    rw [e1]
    show _ = ((news.getD 17 (.li 0)).sub (T.ofList [(77, .li 0)])).ev ρ
    rw [E.sub_ev]
    have h77 : ρ.v 77 = .I 0 := by
      have := h.c 17 (by decide)
      rw [if_neg (by simpa using hs)] at this
      exact this
    refine ev_under (N := 200) (e := news.getD 17 (.li 0)) (ρ := ρ) (ρ' := ρ.upd (T.ofList [(77, .li 0)])) rfl (fun n _ => ?_) (by decide +kernel)
    rw [upd_cons, upd_nil]
    split
    · rename_i e; subst e; rw [h77]; rfl
    · rfl
  · have e : fin i = news.getD i (.li 0) := if_neg h17
    rw [e]
    exact ev_under h.f (fun n hn => h.v n (.inl (by omega))) (List.all_eq_true.1 news_under i (List.mem_range.2 (by omega)))

theorem filter_le {p q : Nat → Bool} (hpq : ∀ j, q j = true → p j = true) : ∀ l : List Nat, (l.filter q).length ≤ (l.filter p).length
  | [] => Nat.le_refl _
  | j :: l => by
    have ih := filter_le hpq l
    simp only [List.filter_cons]
    by_cases hq : q j = true
    · rw [if_pos hq, if_pos (hpq j hq)]; simpa using ih
    · rw [if_neg hq]
      split
      · simp only [List.length_cons]; omega
      · exact ih
theorem filter_lt {p q : Nat → Bool} (hpq : ∀ j, q j = true → p j = true) {i : Nat} (hp : p i = true) (hq : q i = false) : ∀ l : List Nat, i ∈ l → (l.filter q).length < (l.filter p).length
  | j :: l, hm => by
    have ih := filter_le hpq l
    simp only [List.filter_cons]
    by_cases e : i = j
    · subst e
      rw [if_pos hp, if_neg (by simp [hq])]; simp only [List.length_cons]; omega
    · have ih2 := filter_lt hpq hp hq l (by simpa [e] using hm)
      by_cases hqj : q j = true
      · rw [if_pos hqj, if_pos (hpq j hqj)]; simpa using ih2
      · rw [if_neg hqj]
        split
        · simp only [List.length_cons]; omega
        · exact ih2

theorem unseen_lt {ρ : Env} {i : Nat} (hi : i < 18) (hs : (ρ.v (100 + i)).bool = false) (e : E) : unseen (ρ.upd (T.ofList [(100 + i, .lb true), (60 + i, e)])) < unseen ρ := by
  unfold unseen
  refine filter_lt (fun j hj => ?_) (i := i) (by simp [hs]) ?_ _ (List.mem_range.2 hi)
  · rw [upd_go] at hj
    split at hj
    · simp [Sc.bool] at hj
    · rw [if_neg (by omega)] at hj; exact hj
  · rw [upd_go, if_pos rfl]; rfl

theorem inv_go {ρ0 ρ : Env} (h : Inv0 ρ0 ρ) {i : Nat} (hi : i < 18) (hs : (ρ.v (100 + i)).bool = false) : Inv0 ρ0 (ρ.upd (T.ofList [(100 + i, .lb true), (60 + i, news.getD i (.li 0))])) where
  f := h.f
  v := fun n hn => by rw [upd_go, if_neg (by omega), if_neg (by omega)]; exact h.v n hn
  c := fun j hj => by
    by_cases e : j = i
    · subst e
      rw [upd_go, if_neg (by omega), if_pos rfl, upd_go, if_pos rfl, news_ev h hi hs]
      rfl
    · have a := upd_go ρ i (news.getD i (.li 0)) (60 + j)
      have b := upd_go ρ i (news.getD i (.li 0)) (100 + j)
      rw [if_neg (by omega), if_neg (by omega)] at a b
      rw [a, b]
      exact h.c j hj

theorem upd_start (ρ : Env) : ∀ (l : List Nat), (∀ i ∈ l, i < 18) → ∀ n : Nat, (ρ.upd (T.ofList (l.flatMap fun i => [(100 + i, .lb false), (60 + i, .li 0)]))).v n = if n ∈ l.map (100 + ·) then .B false else if n ∈ l.map (60 + ·) then .I 0 else ρ.v n
  | [], _, n => by simp [upd_nil]
  | i :: l, hl, n => by
    simp only [List.flatMap_cons, List.cons_append, List.nil_append]
    rw [upd_cons, upd_cons, upd_start ρ l (fun j hj => hl j (by simp [hj])) n]
    have hi := hl i (by simp)
    by_cases h1 : n = 100 + i
    · simp [h1, E.ev]
    · by_cases h2 : n = 60 + i
      · have h3 : ¬ n ∈ (i :: l).map (100 + ·) := by
          intro hm
          obtain ⟨k, hk, e⟩ := List.mem_map.1 hm
          have := hl k hk
          omega
        rw [if_neg h1, if_pos h2, if_neg h3, if_pos (by simp [h2])]; rfl
      · simp only [List.map_cons, List.mem_cons, h1, h2, false_or, if_false]

theorem upd_fin (ρ : Env) : ∀ (l : List Nat) (n : Nat), (ρ.upd (T.ofList (l.map fun i => (60 + i, fin i)))).v n = if n ∈ l.map (60 + ·) then (fin (n - 60)).ev ρ else ρ.v n
  | [], n => by simp [upd_nil]
  | i :: l, n => by
    simp only [List.map_cons]
    rw [upd_cons, upd_fin ρ l n]
    by_cases h1 : n = 60 + i
    · subst h1
      rw [if_pos rfl, if_pos (by simp), show 60 + i - 60 = i by omega]
    · simp only [List.mem_cons, h1, false_or, if_false]

theorem cEnd_under : cEnd.under 100 = true := by decide +kernel

theorem fit0 (ρ0 : Env) (hk : kdOk ρ0 (aksK ks14) 0) (ρ : Env) (h : Inv0 ρ0 ρ) : FP.ok ρ ∧ pt0.Fit (fun d ρ' => ∀ m v, d.R m ρ' v → res14.R m ρ0 v) (fun j' ρ' => (j' = 0 ∧ Inv0 ρ0 ρ') ∧ unseen ρ' < unseen ρ) ρ := by
  refine ⟨⟨by simp [FP], fun p hp => ?_, by simp [FP], trivial⟩, ?_, ?_⟩
  · have := kdB_ok hk p hp
    have e : p.1.ev ρ = p.1.ev ρ0 := ev_under h.f (fun n hn => h.v n (.inl (by omega))) (List.all_eq_true.1 (show (kdB (aksK ks14) 0).all (fun p => p.1.under 31) = true by decide +kernel) p hp)
    rw [e]; exact this
  · intro hall
    have hs : ∀ i, i < 18 → (ρ.v (100 + i)).bool = true := fun i hi => hall (.vr (100 + i)) (List.mem_map.2 ⟨i, List.mem_range.2 hi, rfl⟩)
    have key : cAll.ev ρ0 = cEnd.ev ρ := by
      unfold cAll
      rw [E.sub_ev]
      refine ev_under (N := 100) (ρ := ρ0.upd fin0) (ρ' := ρ) h.f.symm (fun n hn => ?_) cEnd_under
      have a := upd_fin ρ0 (List.range 18) n
      refine a.trans ?_
      by_cases hm : n ∈ (List.range 18).map (60 + ·)
      · rw [if_pos hm]
        obtain ⟨i, hi, e⟩ := List.mem_map.1 hm
        have e : n = 60 + i := e.symm
        subst e
        have hi := List.mem_range.1 hi
        have c := h.c i hi
        rw [if_pos (hs i hi)] at c
        rw [c, show 60 + i - 60 = i by omega]
      · rw [if_neg hm]
        refine (h.v n ?_).symm
        have : ¬ (60 ≤ n ∧ n < 78) := fun hh => hm (List.mem_map.2 ⟨n - 60, List.mem_range.2 (by omega), by show 60 + (n - 60) = n; omega⟩)
        omega
    simp only [pt0, PL.Fit]
    refine ⟨fun hc m v hv => ?_, fun hc m v hv => ?_⟩
    · simp only [res14, DV.R, ev_ite, key, hc, if_true] at hv ⊢; exact hv
    · simp only [res14, DV.R, ev_ite, key, hc, Bool.false_eq_true, if_false] at hv ⊢; exact hv
  · intro i e pl hi hpl hs
    have hi18 : i < 18 := by
      have := (List.getElem?_eq_some_iff.1 hi).1
      simpa [pt0, seen] using this
    have e1 : e = .vr (100 + i) := by
      have h0 : pt0.seen[i]? = some (.vr (100 + i)) := by
        show ((List.range 18).map fun i => E.vr (100 + i))[i]? = _
        rw [List.getElem?_map, List.getElem?_range hi18]; rfl
      rw [h0] at hi; exact (Option.some.inj hi).symm
    have e2 : pl = alt i := by
      have h0 : pt0.alts[i]? = some (alt i) := by
        show ((List.range 18).map alt)[i]? = _
        rw [List.getElem?_map, List.getElem?_range hi18]; rfl
      rw [h0] at hpl; exact (Option.some.inj hpl).symm
    subst e1; subst e2
    exact ⟨⟨rfl, inv_go h hi18 hs⟩, unseen_lt hi18 hs _⟩

theorem start0 (ρ : Env) : Inv0 ρ (ρ.upd (T.ofList ((List.range 18).flatMap fun i => [(100 + i, .lb false), (60 + i, .li 0)]))) where
  f := rfl
  v := fun n hn => by
    rw [upd_start ρ _ (fun i hi => List.mem_range.1 hi), if_neg, if_neg]
    · intro hm; obtain ⟨k, hk, e⟩ := List.mem_map.1 hm
      have e : 60 + k = n := e
      have := List.mem_range.1 hk; omega
    · intro hm; obtain ⟨k, hk, e⟩ := List.mem_map.1 hm
      have e : 100 + k = n := e
      omega
  c := fun i hi => by
    have a := upd_start ρ (List.range 18) (fun i hi => List.mem_range.1 hi) (60 + i)
    have b := upd_start ρ (List.range 18) (fun i hi => List.mem_range.1 hi) (100 + i)
    rw [if_neg (fun hm => by
      obtain ⟨k, _, e⟩ := List.mem_map.1 hm
      have e : 100 + k = 60 + i := e
      omega), if_pos (List.mem_map.2 ⟨i, List.mem_range.2 hi, rfl⟩)] at a
    rw [if_pos (List.mem_map.2 ⟨i, List.mem_range.2 hi, rfl⟩)] at b
    rw [a, b]; rfl

theorem check_pure : PureA Tryz.prog 368 ks14 res14 :=
  pure_by_points (Γ := fun _ => Γ0) (fun _ _ => Γ0_ok) Tryz.func368 (fn := Tryz.f368) (root := root) (by kernel_rfl) (by decide +kernel) (pts := pts) (fun p hp => by rw [List.mem_singleton.1 hp]; rfl)
    (by intro p hp; rw [List.mem_singleton.1 hp]; exact runP) runE
    (fun ρ0 j ρ => j = 0 ∧ Inv0 ρ0 ρ) (fun _ ρ => unseen ρ) (fun _ _ => trivial)
    (fun ρ0 hk j p ρ hp ⟨hj, h⟩ => by
      subst hj
      have e : pt0 = p := Option.some.inj hp
      subst e
      exact fit0 ρ0 hk ρ h)
    (fun ρ _ => ⟨rfl, start0 ρ⟩)
end Go.Proofs.YtcebboibpbbgdaaGreatDoor.Csr
