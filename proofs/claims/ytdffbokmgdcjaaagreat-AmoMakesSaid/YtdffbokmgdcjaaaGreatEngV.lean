/-
  Runs by cases; what a law's frame asks.
-/
import Derived.Test.YtdffbokmgdcjaaaGreatEngU
import Derived.Below
namespace Go.Eng
open Go.RowKit

/-- What a range adds. -/
def addB (e : E) (r : Option Int × Option Int) (l : List (E × Int × Int)) : List (E × Int × Int) :=
  match e, r with
  | .li _, _ => l
  | .bi .add a (.li c), (some x, some y) => (.bi .add a (.li c), x, y) :: (a, x - c, y - c) :: l
  | e, (some x, some y) => (e, x, y) :: l
  | _, _ => l

def maxO : Option Int → Option Int → Option Int
  | some a, some b => some (max a b)
  | some a, none => some a
  | none, b => b
def minO : Option Int → Option Int → Option Int
  | some a, some b => some (min a b)
  | some a, none => some a
  | none, b => b

/-- One test more is known. -/
def Facts.cons (F : Facts) (c : E) (b : Bool) : Facts :=
  match c, b with
  | .bi .lt x y, true => let r := x.rng F; let q := y.rng F
    { F with conds := (c, b) :: F.conds, bnds := addB x (r.1, minO r.2 (q.2.map (· - 1))) (addB y (maxO q.1 (r.1.map (· + 1)), q.2) F.bnds) }
  | .bi .lt x y, false => let r := x.rng F; let q := y.rng F
    { F with conds := (c, b) :: F.conds, bnds := addB x (maxO r.1 q.1, r.2) (addB y (q.1, minO q.2 r.2) F.bnds) }
  | .bi .eqi x y, true => let r := x.rng F; let q := y.rng F
    { F with conds := (c, b) :: F.conds, bnds := addB x (maxO r.1 q.1, minO r.2 q.2) (addB y (maxO r.1 q.1, minO r.2 q.2) F.bnds) }
  | _, _ => { F with conds := (c, b) :: F.conds }

theorem addB_ok {ρ : Env} {e : E} {r : Rng} {l : List (E × Int × Int)} (h : r.has (e.ev ρ).int) (hl : ∀ p ∈ l, p.2.1 ≤ (p.1.ev ρ).int ∧ (p.1.ev ρ).int ≤ p.2.2) : ∀ p ∈ addB e r l, p.2.1 ≤ (p.1.ev ρ).int ∧ (p.1.ev ρ).int ≤ p.2.2 := by
  unfold addB
  split
  · exact hl
  · rename_i a c x y
    intro p hp
    have h1 := h.1 _ rfl
    have h2 := h.2 _ rfl
    rcases List.mem_cons.1 hp with rfl | hp
    · exact ⟨h1, h2⟩
    · rcases List.mem_cons.1 hp with rfl | hp
      · simp only [E.ev, B2.ev, Sc.int_I] at h1 h2 ⊢
        omega
      · exact hl p hp
  · intro p hp
    rcases List.mem_cons.1 hp with rfl | hp
    · exact ⟨h.1 _ rfl, h.2 _ rfl⟩
    · exact hl p hp
  · exact hl

theorem has_maxO {a b : Option Int} {n : Int} (h1 : ∀ x, a = some x → x ≤ n) (h2 : ∀ x, b = some x → x ≤ n) : ∀ x, maxO a b = some x → x ≤ n := by
  intro x hx
  cases a <;> cases b <;> simp_all [maxO]
  omega
theorem has_minO {a b : Option Int} {n : Int} (h1 : ∀ x, a = some x → n ≤ x) (h2 : ∀ x, b = some x → n ≤ x) : ∀ x, minO a b = some x → n ≤ x := by
  intro x hx
  cases a <;> cases b <;> simp_all [minO]
  omega

/-- The cases of a run: by tests that are taken both ways; a case that can't be. -/
inductive DT where
  | leaf | absurd | node (c : E) (t f : DT)

section
variable (P : Program) (Γ : Facts → FuncId → Option CallD) (loops depth : Nat) (f : FuncId) (args : List DV) (h : T Blk) (n : Nat) (good : Out → Bool)

def DT.run : Facts → DT → Bool
  | F, .leaf => match runX P F (Γ F) loops depth f args h n with
    | some r => good r
    | none => false
  | _, .absurd => true
  | F, .node c t e => DT.run (F.cons c true) t && DT.run (F.cons c false) e

/-- No case comes to what can't be. -/
def DT.Fit (ρ : Env) : DT → Prop
  | .leaf => True
  | .absurd => False
  | .node c t e => ((c.ev ρ).bool = true → DT.Fit ρ t) ∧ ((c.ev ρ).bool = false → DT.Fit ρ e)

variable {P} {Γ} {loops} {depth} {f} {args} {h} {n} {good}

theorem facts_cons {F : Facts} {ρ : Env} (hF : F.ok ρ) {c : E} {b : Bool} (hc : (c.ev ρ).bool = b) : Facts.ok (F.cons c b) ρ := by
  have hcs : ∀ p ∈ (c, b) :: F.conds, (p.1.ev ρ).bool = p.2 := fun p hp => by
    rcases List.mem_cons.1 hp with rfl | hp
    · exact hc
    · exact hF.conds p hp
  unfold Facts.cons
  split
  · rename_i x y
    have hx := E.rng_has hF x
    have hy := E.rng_has hF y
    simp only [E.ev, B2.ev, Sc.bool_B, decide_eq_true_eq] at hc
    refine ⟨hcs, addB_ok ⟨hx.1, has_minO hx.2 fun z hz => ?_⟩ (addB_ok ⟨has_maxO hy.1 fun z hz => ?_, hy.2⟩ hF.bnds), hF.eqs, hF.sem⟩
    · simp only [Option.map_eq_some_iff] at hz
      obtain ⟨u, hu, rfl⟩ := hz
      have := hy.2 u hu; omega
    · simp only [Option.map_eq_some_iff] at hz
      obtain ⟨u, hu, rfl⟩ := hz
      have := hx.1 u hu; omega
  · rename_i x y
    have hx := E.rng_has hF x
    have hy := E.rng_has hF y
    simp only [E.ev, B2.ev, Sc.bool_B, decide_eq_false_iff_not] at hc
    refine ⟨hcs, addB_ok ⟨has_maxO hx.1 fun z hz => ?_, hx.2⟩ (addB_ok ⟨hy.1, has_minO hy.2 fun z hz => ?_⟩ hF.bnds), hF.eqs, hF.sem⟩
    · have := hy.1 z hz; omega
    · have := hx.2 z hz; omega
  · rename_i x y
    have hx := E.rng_has hF x
    have hy := E.rng_has hF y
    simp only [E.ev, B2.ev, Sc.bool_B, decide_eq_true_eq] at hc
    refine ⟨hcs, addB_ok ⟨has_maxO hx.1 fun z hz => ?_, has_minO hx.2 fun z hz => ?_⟩ (addB_ok ⟨has_maxO (fun z hz => ?_) hy.1, has_minO (fun z hz => ?_) hy.2⟩ hF.bnds), hF.eqs, hF.sem⟩
    · have := hy.1 z hz; omega
    · have := hy.2 z hz; omega
    · have := hx.1 z hz; omega
    · have := hx.2 z hz; omega
  · exact ⟨hcs, hF.bnds, hF.eqs, hF.sem⟩

theorem DT.run_sound : ∀ {F : Facts} {dt : DT}, DT.run P Γ loops depth f args h n good F dt = true → ∀ {ρ : Env}, F.ok ρ → dt.Fit ρ →
    ∃ F' r, F'.ok ρ ∧ runX P F' (Γ F') loops depth f args h n = some r ∧ good r = true
  | F, .leaf, hr, ρ, hF, _ => by
    simp only [DT.run] at hr
    split at hr
    · rename_i r hrun; exact ⟨F, r, hF, hrun, hr⟩
    · cases hr
  | F, .absurd, hr, ρ, hF, ha => ha.elim
  | F, .node c t e, hr, ρ, hF, ha => by
    simp only [DT.run, Bool.and_eq_true] at hr
    cases hc : (c.ev ρ).bool with
    | true => exact DT.run_sound hr.1 (facts_cons hF hc) (ha.1 hc)
    | false => exact DT.run_sound hr.2 (facts_cons hF hc) (ha.2 hc)

/-- What a law answers. -/
def goodTrue (r : Out) : Bool := match r.d with | .bool (.lb true) => true | _ => false

theorem goodTrue_R {r : Out} (hg : goodTrue r = true) {m : Emb} {ρ : Env} {v : Value} (h : r.d.R m ρ v) : v = .bool true := by
  unfold goodTrue at hg
  split at hg
  · rename_i hd; rw [hd] at h; simp only [DV.R] at h; rw [h]; rfl
  · cases hg

theorem below_of {m m' : Emb} {h h' : T Blk} {w w' : World} (hT : Trans m h w m' h' w') (hro : ∀ id B, h.get id = some B → B.rw = false) : Below w.heap.size w w' :=
  ⟨hT.os, hT.tape, hT.output, hT.size, fun k hk => hT.frame k hk fun ⟨id, B, hB, hrw, _⟩ => by rw [hro id B hB] at hrw; cases hrw⟩

/-- A law that is run by cases. -/
theorem law_by_cases (hΓ : ∀ F, ΓOk P F (Γ F)) {F : Facts} {dt : DT} (hr : DT.run P Γ loops depth f args h n goodTrue F dt = true) {ρ : Env} (hF : F.ok ρ) (ha : dt.Fit ρ)
    {m : Emb} {w : World} {vs : Array Value} (hvs : DV.RL m ρ args vs.toList) (hH : HeapR m ρ h w) (hf : ∀ id, n ≤ id → m.ι id = none) (hro : ∀ id B, h.get id = some B → B.rw = false) :
    Calls P f vs w fun e w' => e = .returned (.bool true) ∧ Below w.heap.size w w' := by
  obtain ⟨F', r, hF', hrun, hg⟩ := DT.run_sound hr hF ha
  refine (runX_ok (hΓ F') loops depth f args h n r hrun ρ hF' m w vs hvs hH hf).mono fun e w' ⟨v, m', he, hd, hH', hT, _⟩ => ?_
  rw [goodTrue_R hg hd] at he
  exact ⟨he, below_of hT hro⟩

end

theorem wrap_u64 (n : Int) : IntKind.u64.wrap n = n % 18446744073709551616 := by simp [IntKind.wrap, IntKind.signed, IntKind.bits]
theorem wrap_u32 (n : Int) : IntKind.u32.wrap n = n % 4294967296 := by simp [IntKind.wrap, IntKind.signed, IntKind.bits]
theorem wrap_u16 (n : Int) : IntKind.u16.wrap n = n % 65536 := by simp [IntKind.wrap, IntKind.signed, IntKind.bits]
theorem wrap_u8 (n : Int) : IntKind.u8.wrap n = n % 256 := by simp [IntKind.wrap, IntKind.signed, IntKind.bits]
theorem wrap_i64 (n : Int) : IntKind.i64.wrap n = (n + 9223372036854775808) % 18446744073709551616 - 9223372036854775808 := by
  simp [IntKind.wrap, IntKind.signed, IntKind.bits]; omega
theorem wrap_i32 (n : Int) : IntKind.i32.wrap n = (n + 2147483648) % 4294967296 - 2147483648 := by
  simp [IntKind.wrap, IntKind.signed, IntKind.bits]; omega

/-- No memory known. -/
def m0 : Emb := ⟨fun _ => none, fun _ => 0⟩

theorem heap_nil (ρ : Env) (w : World) : HeapR m0 ρ .nil w := ⟨fun id B h => by simp at h, fun id id' B B' b h => by simp at h⟩

end Go.Eng

