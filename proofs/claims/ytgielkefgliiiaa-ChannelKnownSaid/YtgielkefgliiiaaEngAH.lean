/-
  Contracts of functions that only read: what a call answers is told by a number that is known of.
-/
import Derived.Test.YtgielkefgliiiaaEngAG
namespace Go.Eng
open Go.RowKit

section
variable {P : Program} {F : Facts}

/-- What was known of memory stays known where nothing that was there is written. -/
theorem heap_below {m : Emb} {ρ : Env} {h : T Blk} {w w' : World} (hH : HeapR m ρ h w) (hb : Below w.heap.size w w') : HeapR m ρ h w' :=
  ⟨fun id B hB hl => by
    obtain ⟨b, o, h1, h2, h3⟩ := hH.blk id B hB hl
    exact ⟨b, o, h1, by rw [hb.block b (Array.getElem?_eq_some_iff.1 h2).1]; exact h2, h3⟩, hH.inj⟩

theorem trans_below {m : Emb} {h : T Blk} {w w' : World} (hb : Below w.heap.size w w') : Trans m h w m h w' :=
  ⟨Emb.le_refl m, hb.size, fun b hlt _ => hb.block b hlt, fun _ hf => .inl hf, hb.tape, hb.os, hb.output⟩

/-- A call that is answered by a known number, where its arguments are as told. -/
def readC (σ : T E) (r : Nat → Nat) (n0 : Nat) (args : List DV) (heap : List (Nat × Blk)) (res : DV) : CallD := fun _ as h n =>
  if matchDL σ r n0 args as && heap.all (fun p => decide (p.1 < n0) && (match h.get (r p.1) with | some B' => matchB σ r n0 p.2 B' && (!p.2.live || B'.live) && !p.2.rw | none => false)) then some ⟨res, h, n⟩ else none

theorem readC_ok {σ : T E} {r : Nat → Nat} {n0 : Nat} {args : List DV} {heap : List (Nat × Blk)} {res : DV} {f : FuncId}
    (hcall : ∀ ρ, F.ok ρ → ∀ m w (vs : Array Value), DV.RL (m.pull r n0) (ρ.upd σ) args vs.toList → HeapR (m.pull r n0) (ρ.upd σ) (T.ofList heap) w → (∀ id, n0 ≤ id → (m.pull r n0).ι id = none) →
      Calls P f vs w fun e w' => ∃ v, e = .returned v ∧ res.R m ρ v ∧ Below w.heap.size w w') :
    ∀ g as h n x, readC σ r n0 args heap res g as h n = some x → ∀ ρ, F.ok ρ → ∀ m w (vs : Array Value), DV.RL m ρ as vs.toList → HeapR m ρ h w → (∀ id, n ≤ id → m.ι id = none) →
      Calls P f vs w fun e w' => ∃ v m', e = .returned v ∧ x.d.R m' ρ v ∧ HeapR m' ρ x.h w' ∧ Trans m h w m' x.h w' ∧ (∀ id, x.n ≤ id → m'.ι id = none) := by
  intro g as h n x hx ρ hF m w vs hvs hH hf
  unfold readC at hx
  split at hx
  · rename_i hc
    cases hx
    simp only [Bool.and_eq_true, List.all_eq_true, decide_eq_true_eq] at hc
    obtain ⟨h1, h2⟩ := hc
    have key : ∀ id B, (T.ofList heap).get id = some B → id < n0 ∧ B.rw = false ∧ ∃ B', h.get (r id) = some B' ∧ matchB σ r n0 B B' = true ∧ (B.live = true → B'.live = true) := by
      intro id B hB
      have := h2 _ (ofList_mem hB)
      simp only at this
      obtain ⟨hlt, h'⟩ := this
      split at h'
      · rename_i B' hB'
        simp only [Bool.and_eq_true, Bool.or_eq_true, Bool.not_eq_true'] at h'
        exact ⟨hlt, h'.2, B', hB', h'.1.1, fun e => by rcases h'.1.2 with g | g; (rw [e] at g; cases g); exact g⟩
      · cases h'
    refine (hcall ρ hF m w vs (matchDL_ok h1 hvs) ⟨fun id B hB hl => ?_, fun id id' B B' b hB _ hrw => ?_⟩ (fun id hid => ?_)).mono fun e w' ⟨v, he, hd, hb⟩ => ?_
    · obtain ⟨hlt, _, B', hB', hm, hlv⟩ := key id B hB
      obtain ⟨b, o, g1, g2, g3⟩ := hH.blk _ _ hB' (hlv hl)
      exact ⟨b, o, by simp only [Emb.pull, hlt, if_true]; exact g1, g2, matchB_ok hm g3⟩
    · rw [(key id B hB).2.1] at hrw; cases hrw
    · simp only [Emb.pull]; rw [if_neg (by omega)]
    · exact ⟨v, m, he, hd, heap_below hH hb, trans_below hb, hf⟩
  · cases hx

/-- A table of one contract. -/
def Γ1 (f : FuncId) (c : CallD) : FuncId → Option CallD := fun g => if g = f then some c else none
end
end Go.Eng
