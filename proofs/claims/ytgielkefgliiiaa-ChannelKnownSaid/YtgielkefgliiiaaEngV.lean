/-
  Runs by cases; what a law's frame asks.
-/
import Derived.Test.YtgielkefgliiiaaEngUA
import Derived.Below
namespace Go.Eng
open Go.RowKit

/-- The cases of a run: by tests that are taken both ways; a case that can't be. -/
inductive DT where
  | leaf | absurd | node (c : E) (t f : DT)

section
variable (P : Program) (Γ : Facts → FuncId → Option CallD) (loops depth : Nat) (f : FuncId) (args : List DV) (h : T Blk) (n : Nat) (good : Out → Bool)

def DT.run : Facts → DT → Bool
  | F, .leaf => match runX P F Γ loops depth f args h n with
    | some r => good r
    | none => false
  | _, .absurd => true
  | F, .node c t e => DT.run (F.cons c true) t && DT.run (F.cons c false) e

/-- No case comes to what can't be. -/
def DT.Fit (ρ : Env) : DT → Prop
  | .leaf => True
  | .absurd => False
  | .node c t e => ((c.ev ρ).bool = true → DT.Fit ρ t) ∧ ((c.ev ρ).bool = false → DT.Fit ρ e)

variable {P} {Γ} {loops} {depth} {f} {args} {h} {n} {good}

theorem DT.run_sound : ∀ {F : Facts} {dt : DT}, DT.run P Γ loops depth f args h n good F dt = true → ∀ {ρ : Env}, F.ok ρ → dt.Fit ρ →
    ∃ F' r, F'.ok ρ ∧ runX P F' Γ loops depth f args h n = some r ∧ good r = true
  | F, .leaf, hr, ρ, hF, _ => by
    simp only [DT.run] at hr
    split at hr
    · rename_i r hrun; exact ⟨F, r, hF, hrun, hr⟩
    · cases hr
  | F, .absurd, hr, ρ, hF, ha => ha.elim
  | F, .node c t e, hr, ρ, hF, ha => by
    simp only [DT.run, Bool.and_eq_true] at hr
    cases hc : (c.ev ρ).bool with
    | true => exact DT.run_sound hr.1 (facts_cons hF hc) (ha.1 hc)
    | false => exact DT.run_sound hr.2 (facts_cons hF hc) (ha.2 hc)

/-- What a law answers. -/
def goodTrue (r : Out) : Bool := match r.d with | .bool (.lb true) => true | _ => false

theorem goodTrue_R {r : Out} (hg : goodTrue r = true) {m : Emb} {ρ : Env} {v : Value} (h : r.d.R m ρ v) : v = .bool true := by
  unfold goodTrue at hg
  split at hg
  · rename_i hd; rw [hd] at h; simp only [DV.R] at h; rw [h]; rfl
  · cases hg

theorem below_of {m m' : Emb} {h h' : T Blk} {w w' : World} (hT : Trans m h w m' h' w') (hro : ∀ id B, h.get id = some B → B.rw = false) : Below w.heap.size w w' :=
  ⟨hT.os, hT.tape, hT.output, hT.size, fun k hk => hT.frame k hk fun ⟨id, B, hB, hrw, _⟩ => by rw [hro id B hB] at hrw; cases hrw⟩

/-- A law that is run by cases. -/
theorem law_by_cases (hΓ : ∀ F, ΓOk P F (Γ F)) {F : Facts} {dt : DT} (hr : DT.run P Γ loops depth f args h n goodTrue F dt = true) {ρ : Env} (hF : F.ok ρ) (ha : dt.Fit ρ)
    {m : Emb} {w : World} {vs : Array Value} (hvs : DV.RL m ρ args vs.toList) (hH : HeapR m ρ h w) (hf : ∀ id, n ≤ id → m.ι id = none) (hro : ∀ id B, h.get id = some B → B.rw = false) :
    Calls P f vs w fun e w' => e = .returned (.bool true) ∧ Below w.heap.size w w' := by
  obtain ⟨F', r, hF', hrun, hg⟩ := DT.run_sound hr hF ha
  refine (runX_ok (fun F'' _ => hΓ F'') loops depth f args h n r hrun ρ hF' m w vs hvs hH hf).mono fun e w' ⟨v, m', he, hd, hH', hT, _⟩ => ?_
  rw [goodTrue_R hg hd] at he
  exact ⟨he, below_of hT hro⟩

end

theorem wrap_u64 (n : Int) : IntKind.u64.wrap n = n % 18446744073709551616 := by simp [IntKind.wrap, IntKind.signed, IntKind.bits]
theorem wrap_u32 (n : Int) : IntKind.u32.wrap n = n % 4294967296 := by simp [IntKind.wrap, IntKind.signed, IntKind.bits]
theorem wrap_u16 (n : Int) : IntKind.u16.wrap n = n % 65536 := by simp [IntKind.wrap, IntKind.signed, IntKind.bits]
theorem wrap_u8 (n : Int) : IntKind.u8.wrap n = n % 256 := by simp [IntKind.wrap, IntKind.signed, IntKind.bits]
theorem wrap_i64 (n : Int) : IntKind.i64.wrap n = (n + 9223372036854775808) % 18446744073709551616 - 9223372036854775808 := by
  simp [IntKind.wrap, IntKind.signed, IntKind.bits]; omega
theorem wrap_i32 (n : Int) : IntKind.i32.wrap n = (n + 2147483648) % 4294967296 - 2147483648 := by
  simp [IntKind.wrap, IntKind.signed, IntKind.bits]; omega

/-- No memory known. -/
def m0 : Emb := ⟨fun _ => none, fun _ => 0⟩

theorem heap_nil (ρ : Env) (w : World) : HeapR m0 ρ .nil w := ⟨fun id B h => by simp at h, fun id id' B B' b h => by simp at h⟩

end Go.Eng

