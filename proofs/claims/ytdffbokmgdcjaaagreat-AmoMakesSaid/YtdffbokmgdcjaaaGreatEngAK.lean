/-
  Contracts of functions of numbers, bools and strings: what is answered is an expression in the arguments.
-/
import Derived.Test.YtdffbokmgdcjaaaGreatEngAJ
namespace Go.Eng
open Go.RowKit

mutual
def DV.subS (σ : T E) : DV → DV
  | .int k e => .int k (e.sub σ)
  | .bool e => .bool (e.sub σ)
  | .str e => .str (e.sub σ)
  | .tup l => .tup (DV.subSL σ l)
  | .agg l => .agg (DV.subSL σ l)
  | d => d
def DV.subSL (σ : T E) : List DV → List DV
  | [] => []
  | d :: r => DV.subS σ d :: DV.subSL σ r
end

mutual
def DV.scal : DV → Bool
  | .int _ _ => true
  | .bool _ => true
  | .str _ => true
  | .tup l => DV.scalL l
  | .agg l => DV.scalL l
  | _ => false
def DV.scalL : List DV → Bool
  | [] => true
  | d :: r => DV.scal d && DV.scalL r
end

mutual
theorem DV.subS_R {σ : T E} {m m' : Emb} {ρ : Env} : ∀ {d : DV} {v : Value}, d.scal = true → d.R m' (ρ.upd σ) v → (d.subS σ).R m ρ v
  | .int k e, v, _, h => by simp only [DV.subS, DV.R, E.sub_ev] at h ⊢; exact h
  | .bool e, v, _, h => by simp only [DV.subS, DV.R, E.sub_ev] at h ⊢; exact h
  | .str e, v, _, h => by simp only [DV.subS, DV.R, E.sub_ev] at h ⊢; exact h
  | .tup l, v, hs, h => by
    simp only [DV.subS, DV.R] at h ⊢
    obtain ⟨vs, hv, hl⟩ := h
    exact ⟨vs, hv, DV.subSL_R (by simpa [DV.scal] using hs) hl⟩
  | .agg l, v, hs, h => by
    simp only [DV.subS, DV.R] at h ⊢
    obtain ⟨vs, hv, hl⟩ := h
    exact ⟨vs, hv, DV.subSL_R (by simpa [DV.scal] using hs) hl⟩
  | .ptr _ _, _, hs, _ => by simp [DV.scal] at hs
  | .nilp, _, hs, _ => by simp [DV.scal] at hs
  | .gptr _ _, _, hs, _ => by simp [DV.scal] at hs
  | .slc _ _ _ _, _, hs, _ => by simp [DV.scal] at hs
  | .nils, _, hs, _ => by simp [DV.scal] at hs
  | .mt, _, hs, _ => by simp [DV.scal] at hs
  | .ifc _ _, _, hs, _ => by simp [DV.scal] at hs
  | .nili, _, hs, _ => by simp [DV.scal] at hs
  | .fn _ _ _, _, hs, _ => by simp [DV.scal] at hs
  | .nilf, _, hs, _ => by simp [DV.scal] at hs
  | .mp _, _, hs, _ => by simp [DV.scal] at hs
  | .nilm, _, hs, _ => by simp [DV.scal] at hs
theorem DV.subSL_R {σ : T E} {m m' : Emb} {ρ : Env} : ∀ {l : List DV} {vs : List Value}, DV.scalL l = true → DV.RL m' (ρ.upd σ) l vs → DV.RL m ρ (DV.subSL σ l) vs
  | [], vs, _, h => by simpa only [DV.subSL, DV.RL] using h
  | d :: r, vs, hs, h => by
    simp only [DV.scalL, Bool.and_eq_true] at hs
    simp only [DV.subSL, DV.RL] at h ⊢
    obtain ⟨v, vr, hv, h1, h2⟩ := h
    exact ⟨v, vr, hv, DV.subS_R hs.1 h1, DV.subSL_R hs.2 h2⟩
end

/-- The expression of an argument of a kind, within the kind's range. -/
def argE (F : Facts) : Kd → DV → Option E
  | .int k, .int k' e => match e.rng F with
    | (some lo, some hi) => if k = k' ∧ k.min ≤ lo ∧ hi ≤ k.max then some e else none
    | _ => none
  | .bool, .bool e => some e
  | .str, .str e => some e
  | _, _ => none

def sigOf (F : Facts) : List Kd → List DV → Nat → Option (List (Nat × E))
  | [], [], _ => some []
  | k :: ks, d :: ds, i => match argE F k d, sigOf F ks ds (i + 1) with
    | some e, some r => some ((i, e) :: r)
    | _, _ => none
  | _, _, _ => none

def pureC (F : Facts) (ks : List Kd) (res : DV) : CallD := fun _ xs h n => match sigOf F ks xs 0 with
  | some σ => if res.scal then some ⟨res.subS (T.ofList σ), h, n⟩ else none
  | none => none

/-- What is known of the arguments. -/
def kdOk (ρ : Env) : List Kd → Nat → Prop
  | [], _ => True
  | .int k :: r, i => (k.min ≤ (ρ.v i).int ∧ (ρ.v i).int ≤ k.max) ∧ kdOk ρ r (i + 1)
  | _ :: r, i => kdOk ρ r (i + 1)

theorem sigOf_keys {F : Facts} : ∀ {ks : List Kd} {xs : List DV} {i : Nat} {σ : List (Nat × E)}, sigOf F ks xs i = some σ → ∀ p ∈ σ, i ≤ p.1
  | [], [], i, σ, h, p, hp => by simp only [sigOf] at h; cases h; cases hp
  | [], _ :: _, i, σ, h, p, hp => by simp [sigOf] at h
  | _ :: _, [], i, σ, h, p, hp => by simp [sigOf] at h
  | k :: ks, d :: ds, i, σ, h, p, hp => by
    simp only [sigOf] at h
    split at h
    · rename_i e r he hr
      cases h
      rcases List.mem_cons.1 hp with rfl | hp
      · exact Nat.le_refl _
      · have := sigOf_keys hr p hp; omega
    · cases h

theorem upd_out (ρ : Env) : ∀ {σ : List (Nat × E)} {n : Nat}, (∀ p ∈ σ, n < p.1) → (ρ.upd (T.ofList σ)).v n = ρ.v n
  | [], n, _ => rfl
  | (k, e) :: r, n, h => by
    rw [upd_cons, if_neg (by have := h (k, e) (List.mem_cons_self ..); simp only at this; omega)]
    exact upd_out ρ fun p hp => h p (List.mem_cons_of_mem _ hp)

theorem sigOf_ok {F : Facts} {ρ : Env} (hF : F.ok ρ) {m m' : Emb} : ∀ {ks : List Kd} {xs : List DV} {i : Nat} {σ : List (Nat × E)}, sigOf F ks xs i = some σ → ∀ {vs : List Value}, DV.RL m ρ xs vs →
    ∀ ρ' : Env, (∀ p ∈ σ, ρ'.v p.1 = p.2.ev ρ) → kdOk ρ' ks i ∧ DV.RL m' ρ' (kdsDV ks i) vs
  | [], [], i, σ, h, vs, hv, ρ', _ => by simp only [kdsDV, DV.RL] at hv ⊢; exact ⟨trivial, hv⟩
  | [], _ :: _, i, σ, h, _, _, _, _ => by simp [sigOf] at h
  | _ :: _, [], i, σ, h, _, _, _, _ => by simp [sigOf] at h
  | k :: ks, d :: ds, i, σ, h, vs, hv, ρ', hp => by
    simp only [sigOf] at h
    split at h
    · rename_i e r he hr
      cases h
      simp only [DV.RL] at hv
      obtain ⟨v, vr, rfl, h1, h2⟩ := hv
      obtain ⟨g1, g2⟩ := sigOf_ok hF (m' := m') hr h2 ρ' fun p hpr => hp p (List.mem_cons_of_mem _ hpr)
      have hi := hp (i, e) (List.mem_cons_self ..)
      simp only at hi
      unfold argE at he
      split at he
      · rename_i k0 k' e0
        split at he
        · rename_i lo hi' hrng
          split at he
          · rename_i hc
            cases he
            obtain ⟨rfl, hc1, hc2⟩ := hc
            have hh := E.rng_has hF e
            rw [hrng] at hh
            have q1 := hh.1 lo rfl
            have q2 := hh.2 hi' rfl
            simp only [DV.R] at h1
            refine ⟨⟨by rw [hi]; omega, g1⟩, ?_⟩
            simp only [kdsDV, kdDV, DV.RL]
            exact ⟨v, vr, rfl, by simp only [DV.R, E.ev]; rw [hi]; exact h1, g2⟩
          · cases he
        · cases he
      · cases he
        simp only [DV.R] at h1
        refine ⟨g1, ?_⟩
        simp only [kdsDV, kdDV, DV.RL]
        exact ⟨v, vr, rfl, by simp only [DV.R, E.ev]; rw [hi]; exact h1, g2⟩
      · cases he
        simp only [DV.R] at h1
        refine ⟨g1, ?_⟩
        simp only [kdsDV, kdDV, DV.RL]
        exact ⟨v, vr, rfl, by simp only [DV.R, E.ev]; rw [hi]; exact h1, g2⟩
      · cases he
    · cases h

theorem upd_keys {F : Facts} (ρ : Env) : ∀ {ks : List Kd} {xs : List DV} {i : Nat} {σ : List (Nat × E)}, sigOf F ks xs i = some σ → ∀ p ∈ σ, (ρ.upd (T.ofList σ)).v p.1 = p.2.ev ρ
  | [], [], i, σ, h, p, hp => by simp only [sigOf] at h; cases h; cases hp
  | [], _ :: _, i, σ, h, p, hp => by simp [sigOf] at h
  | _ :: _, [], i, σ, h, p, hp => by simp [sigOf] at h
  | k :: ks, d :: ds, i, σ, h, p, hp => by
    simp only [sigOf] at h
    split at h
    · rename_i e r he hr
      cases h
      rw [upd_cons]
      rcases List.mem_cons.1 hp with rfl | hp
      · simp
      · have := sigOf_keys hr p hp
        rw [if_neg (by omega)]
        exact upd_keys ρ hr p hp
    · cases h

section
variable {P : Program} {F : Facts}

theorem pureC_ok {ks : List Kd} {res : DV} {f : FuncId}
    (hcall : ∀ ρ : Env, kdOk ρ ks 0 → ∀ (m : Emb) (w : World) (vs : Array Value), DV.RL m ρ (kdsDV ks 0) vs.toList → HeapR m ρ .nil w → (∀ id, m.ι id = none) →
      Calls P f vs w fun e w' => ∃ v m', e = .returned v ∧ res.R m' ρ v ∧ Below w.heap.size w w') :
    ∀ g xs h n x, pureC F ks res g xs h n = some x → ∀ ρ, F.ok ρ → ∀ m w (vs : Array Value), DV.RL m ρ xs vs.toList → HeapR m ρ h w → (∀ id, n ≤ id → m.ι id = none) →
      Calls P f vs w fun e w' => ∃ v m', e = .returned v ∧ x.d.R m' ρ v ∧ HeapR m' ρ x.h w' ∧ Trans m h w m' x.h w' ∧ (∀ id, x.n ≤ id → m'.ι id = none) := by
  intro g xs h n x hx ρ hF m w vs hvs hH hf
  unfold pureC at hx
  split at hx
  · rename_i σ hσ
    split at hx
    · rename_i hs
      cases hx
      obtain ⟨g1, g2⟩ := sigOf_ok hF (m' := ⟨fun _ => none, fun _ => 0⟩) hσ hvs (ρ.upd (T.ofList σ)) (upd_keys ρ hσ)
      refine (hcall _ g1 ⟨fun _ => none, fun _ => 0⟩ w vs g2 ⟨fun id B hB => by simp at hB, fun id id' B B' b hB => by simp at hB⟩ (fun _ => rfl)).mono fun e w' ⟨v, m', he, hd, hb⟩ => ?_
      exact ⟨v, m, he, DV.subS_R hs hd, heap_below hH hb, trans_below hb, hf⟩
    · cases hx
  · cases hx

/-- The bounds of the arguments. -/
def kdB : List Kd → Nat → List (E × Int × Int)
  | [], _ => []
  | .int k :: r, i => (.vr i, k.min, k.max) :: kdB r (i + 1)
  | _ :: r, i => kdB r (i + 1)

theorem kdB_ok {ρ : Env} : ∀ {ks : List Kd} {i : Nat}, kdOk ρ ks i → ∀ p ∈ kdB ks i, p.2.1 ≤ (p.1.ev ρ).int ∧ (p.1.ev ρ).int ≤ p.2.2
  | [], i, _, p, hp => by simp [kdB] at hp
  | .int k :: r, i, h, p, hp => by
    simp only [kdB, List.mem_cons] at hp
    rcases hp with rfl | hp
    · exact h.1
    · exact kdB_ok h.2 p hp
  | .bool :: r, i, h, p, hp => kdB_ok (ks := r) (i := i + 1) h p hp
  | .str :: r, i, h, p, hp => kdB_ok (ks := r) (i := i + 1) h p hp
  | .any :: r, i, h, p, hp => kdB_ok (ks := r) (i := i + 1) h p hp

/-- Such a contract, by a plan without loops. -/
theorem pure_by_plan {Γ : Facts → FuncId → Option CallD} (hΓ : ∀ F : Facts, ΓOk P F (Γ F)) {f : FuncId} {fn : Func} {root : Code} (hfn : P.funcs[f]? = some fn) (hbody : fn.body = some root) {ks : List Kd} (hlen : (kdsDV ks 0).length ≤ fn.ntmps)
    {loops depth : Nat} {plan : PL} (hrun : PL.run (seg P Γ loops depth (([] : List Pt).map (·.rp)) (.code root []) [] ⟨argsT 0 (kdsDV ks 0), .nil, 0, fn.ntmps⟩) (finTrue P fn) [] { bnds := kdB ks 0, sem := fun _ => True } plan = true)
    {res : DV} (fit : ∀ ρ : Env, kdOk ρ ks 0 → plan.Fit (fun d ρ' => ∀ m v, d.R m ρ' v → res.R m ρ v) (fun _ _ => False) ρ) :
    ∀ ρ : Env, kdOk ρ ks 0 → ∀ (m : Emb) (w : World) (vs : Array Value), DV.RL m ρ (kdsDV ks 0) vs.toList → HeapR m ρ .nil w → (∀ id, m.ι id = none) →
      Calls P f vs w fun e w' => ∃ v m', e = .returned v ∧ res.R m' ρ v ∧ Below w.heap.size w w' := by
  intro ρ hk m w vs hvs hH hf
  refine (calls_by_points (S := fun _ => True) (fun F _ => hΓ F) hfn hbody hlen (fun p hp => by cases hp) (fun p hp => by cases hp) rfl hrun (fun d ρ' => ∀ m v, d.R m ρ' v → res.R m ρ v) (fun _ _ => False) (fun _ _ => 0)
    (fun j p ρ hp _ => by cases hp) (ρ := ρ) ⟨by simp, kdB_ok hk, by simp, trivial⟩ (fit ρ hk) hvs hH (fun id _ => hf id)).mono fun e w' he => ?_
  obtain ⟨v, d, ρ', m', h', he, hd, ho, _, hs⟩ := he
  exact ⟨v, m', he, ho m' v hd, hs.below fun b ⟨id, B, hB, _⟩ => by simp at hB⟩
end
end Go.Eng
