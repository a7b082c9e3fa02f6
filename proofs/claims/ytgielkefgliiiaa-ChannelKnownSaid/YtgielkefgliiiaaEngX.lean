/-
  Arguments that are plain: numbers, booleans, strings, structs and arrays of these.
-/
import Derived.Test.YtgielkefgliiiaaEngW
import Derived.Carry
namespace Go.Eng
open Go.RowKit

theorem kds_noany (P : Program) : ∀ (n : Nat) (t : TypeId) (ks : List Kd), kds P n t = some ks → Kd.any ∉ ks := by
  intro n
  induction n with
  | zero => intro t ks h; simp [kds] at h
  | succ n ih =>
    intro t ks h
    simp only [kds] at h
    split at h
    · cases h; simp
    · cases h; simp
    · cases h; simp
    · split at h
      · rename_i ks' hks
        split at h
        · cases h
          have key : ∀ (fl : List Field) (off : Nat) (l : List Kd), kdsF (fun t => match kds P n t with | some ks => if P.cellsOf t = ks.length then some ks else none | none => none) off fl = some l → Kd.any ∉ l := by
            intro fl
            induction fl with
            | nil => intro off l h1; simp [kdsF] at h1; subst h1; simp
            | cons f fl ihf =>
              intro off l h1
              simp only [kdsF] at h1
              split at h1
              · split at h1
                · rename_i kf hkf
                  simp only [Option.map_eq_some_iff] at h1
                  obtain ⟨l', hl', rfl⟩ := h1
                  split at hkf
                  · rename_i kf' hkf'
                    split at hkf
                    · cases hkf
                      simp only [List.mem_append, not_or]
                      exact ⟨ih _ _ hkf', ihf _ _ hl'⟩
                    · cases hkf
                  · cases hkf
                · cases h1
              · cases h1
          exact key _ _ _ hks
        · cases h
      · cases h
    · split at h
      · rename_i ks' hks
        split at h
        · cases h
          have := ih _ _ hks
          simp only [repL, List.mem_flatten, List.mem_replicate, not_exists, not_and]
          rintro l ⟨_, rfl⟩; exact this
        · cases h
      · cases h
    · cases h

section
variable (P : Program)

/-- An argument of a plain type, symbolic: its cells are the variables from i on. -/
def argDV (t : TypeId) (i : Nat) : DV :=
  match kds P 8 t with
  | some ks => if aggT P t = some true then .agg (kdsDV ks i) else match kdsDV ks i with
    | [d] => d
    | _ => .nilp
  | none => .nilp

def argB (t : TypeId) (i : Nat) : List (E × Int × Int) := match kds P 8 t with | some ks => kdsB ks i | none => []

variable {P}
variable {H : Type} {enc : TypeId × Value → H} {w : World} {base : Nat} {spare : Nat → Bool} {held : Bool}

theorem okWide_bool' {r : Reach} {t : TypeId} {v : Value} (ht : P.underlying t = some .bool) (h : Value.okWide P w r base t v) : ∃ b, v = .bool b := by
  simp only [Value.okWide, ht, Cell.okWide] at h
  cases v <;> simp_all [Cell.ok]

theorem arg_plain {r : Reach} {t : TypeId} {v : Value} {d : DataW H} {ps : List MemPlace} {b0 : Nat} (hk : (kds P 8 t).isSome = true) (hok : Value.okWide P w r b0 t v) (ht : DataW.Trod enc P w base spare held t v d ps) (m : Emb) {ρ : Env} {i : Nat}
    (hρ : ∀ (j : Nat) (u : Value), v.cells.toList[j]? = some u → ρ.v (i + j) = Sc.ofValue u) : (argDV P t i).R m ρ v ∧ ∀ p ∈ argB P t i, p.2.1 ≤ (p.1.ev ρ).int ∧ (p.1.ev ρ).int ≤ p.2.2 := by
  obtain ⟨ks, hks⟩ := Option.isSome_iff_exists.1 hk
  obtain ⟨fuel, hf⟩ := ht
  have hty := kds_trod 8 t ks hks fuel _ _ hf
  have hna := kds_noany P 8 t ks hks
  have hR := kdsDV_R m hty hna hρ
  refine ⟨?_, by unfold argB; rw [hks]; exact kdsB_ok hty hρ⟩
  unfold argDV
  rw [hks]
  simp only
  split
  · rename_i ha
    unfold aggT at ha
    unfold Value.okWide at hok
    split at ha
    · rename_i hu; simp only [hu] at hok; obtain ⟨cs, rfl, _⟩ := hok
      simp only [DV.R]; exact ⟨cs, rfl, hR⟩
    · rename_i hu; simp only [hu] at hok; obtain ⟨cs, rfl, _⟩ := hok
      simp only [DV.R]; exact ⟨cs, rfl, hR⟩
    · cases ha
    · cases ha
  · rename_i ha
    have hone : v.cells.toList = [v] := by
      simp only [kds] at hks
      split at hks
      · rename_i hu; obtain ⟨b, rfl⟩ := okWide_bool' hu hok; rfl
      · rename_i hu; obtain ⟨b, rfl⟩ := WideShapes.okWide_int hu hok; rfl
      · rename_i hu; obtain ⟨b, rfl⟩ := WideShapes.okWide_string hu hok; rfl
      · rename_i hu; exact absurd (by simp [aggT, hu]) ha
      · rename_i hu; exact absurd (by simp [aggT, hu]) ha
      · cases hks
    rw [hone] at hR
    have hl := hR.length
    match hkd : kdsDV ks i, hR with
    | [d'], hR =>
      simp only [DV.RL] at hR
      obtain ⟨u, ur, he, hr, _⟩ := hR
      simp at he
      rw [he.1]; exact hr
    | [], hR => simp [DV.RL] at hR
    | _ :: _ :: _, hR => simp only [DV.RL] at hR; obtain ⟨_, _, he, _, ⟨_, _, he2, _⟩⟩ := hR; subst he2; simp at he

end

end Go.Eng
