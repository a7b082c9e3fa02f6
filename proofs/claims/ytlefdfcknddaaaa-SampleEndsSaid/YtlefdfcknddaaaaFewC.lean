/- What few of the layer sample answers, whatever row of acts it is called with: a contract for the proofs of its laws. -/
import Derived.Test.YtlefdfcknddaaaaRows
import Derived.Test.YtlefdfcknddaaaaEngAH
namespace Go.Proofs.Ytlefdfcknddaaaa.Few
open Go.Eng Go.RowKit

def rp0 : List Nat := [0, 1, 0, 1]
def args : List DV := [.slc 0 ⟨0, [((.vr 0), 1)]⟩ (.vr 2) (.ex (.vr 3))]
def heap : List (Nat × Blk) := [(0, .arr (.vr 0) (.vr 1) (.vr 2) [.int .u8, .int .u64, .str, .int .i64] 25 .ro)]
def tm0 : Tm := { tmps := [(0, .slc 0 ⟨0, [((.vr 0), 1)]⟩ (.vr 2) (.ex (.vr 3))), (2, .bool (.lb false)), (3, .int .i64 (.vr 1000))], heap := heap, next := 1, sz := 24 }
def size : E := .un .len (.bi .cell (.vr 1) (.bi .add (.bi .mul (.vr 1000) (.li 4)) (.li 2)))
def facts0 : Facts := { bnds := [((.vr 1000), 0, 60)] }
def last : DV := .bool (.un .not (.bi .lt (.li 50) (.vr 2)))
def plan0 : PL := .go 0 [(1000, .li 0)] []
def plan1 : PL := .node (.bi .lt (.vr 1000) (.vr 2)) (.node (.bi .lt (.vr 1000) (.li 60)) (.node (.bi .lt (.li 100) size) (.retd (.bool (.lb false))) (.go 0 [(1000, .bi .add (.vr 1000) (.li 1))] [])) (.retd last)) (.retd last)
def pts : List Pt := [⟨rp0, tm0, facts0, plan1⟩]
noncomputable def root : Code := (Try.f9.body).getD .skip

theorem run0 : PL.run (seg Try.prog (fun _ => Γ0) 1000 50 (pts.map (·.rp)) (.code root []) [] ⟨argsT 0 args, T.ofList heap, 1, Try.f9.ntmps⟩) (finTrue Try.prog Try.f9) pts {} plan0 = true := by kernel_rfl
theorem run1 : ptOk Try.prog (fun _ => Γ0) 1000 50 root Try.f9 pts ⟨rp0, tm0, facts0, plan1⟩ = true := by kernel_rfl

/-- How long the i-th act's text is. -/
def sizeAt (A : Sc) (i : Int) : Int := (Sc.ofValue (A.arr.getD (i * 4 + 2).toNat undef)).str.size

/-- The answer. -/
def fewS (A : Sc) (n : Int) : Bool := (List.range 60).all (fun i => decide (n ≤ i) || decide (sizeAt A i ≤ 100)) && decide (n ≤ 50)

def Inv (A : Sc) (n : Int) (_ : Nat) (ρ : Env) : Prop := ρ.v 1 = A ∧ (ρ.v 2).int = n ∧ 0 ≤ (ρ.v 1000).int ∧ (ρ.v 1000).int ≤ 60 ∧ ∀ i : Nat, (i : Int) < (ρ.v 1000).int → (i : Int) < n ∧ sizeAt A i ≤ 100
def mu (_ : Nat) (ρ : Env) : Nat := (60 - (ρ.v 1000).int).toNat
def obl (A : Sc) (n : Int) : DV → Env → Prop
  | .bool e, ρ => (e.ev ρ).bool = fewS A n
  | _, _ => False

theorem few_false {A : Sc} {n i : Int} (h0 : 0 ≤ i) (h1 : i < n) (h2 : i < 60) (h3 : 100 < sizeAt A i) : fewS A n = false := by
  unfold fewS
  rw [Bool.and_eq_false_iff]
  left
  rw [List.all_eq_false]
  refine ⟨i.toNat, by simp; omega, ?_⟩
  have e : ((i.toNat : Nat) : Int) = i := by omega
  simp only [e, Bool.or_eq_true, decide_eq_true_eq]
  omega

theorem few_last {A : Sc} {n i : Int} (h : n ≤ i ∨ 60 ≤ i) (hi : ∀ k : Nat, (k : Int) < i → (k : Int) < n ∧ sizeAt A k ≤ 100) : fewS A n = decide (n ≤ 50) := by
  unfold fewS
  have : ((List.range 60).all fun k => decide (n ≤ (k : Int)) || decide (sizeAt A k ≤ 100)) = true := by
    rw [List.all_eq_true]
    intro k hk
    have hk' := List.mem_range.1 hk
    simp only [Bool.or_eq_true, decide_eq_true_eq]
    by_cases hlt : (k : Int) < i
    · exact .inr (hi k hlt).2
    · left; omega
  rw [this, Bool.true_and]

theorem size_ev (ρ : Env) : (size.ev ρ).int = sizeAt (ρ.v 1) (ρ.v 1000).int := rfl

theorem last_ev (ρ : Env) : ((E.un .not (.bi .lt (.li 50) (.vr 2))).ev ρ).bool = decide ((ρ.v 2).int ≤ 50) := by
  have : ∀ x : Int, (!decide (50 < x)) = decide (x ≤ 50) := fun x => by
    by_cases h : x ≤ 50
    · rw [decide_eq_true h, decide_eq_false (by omega)]; rfl
    · rw [decide_eq_false h, decide_eq_true (by omega)]; rfl
  exact this _

theorem fit1 {A : Sc} {n : Int} (ρ : Env) (h : Inv A n 0 ρ) : plan1.Fit (obl A n) (fun j' ρ' => Inv A n j' ρ' ∧ mu j' ρ' < mu 0 ρ) ρ := by
  obtain ⟨hA, hn, h0, h1, hi⟩ := h
  simp only [plan1, PL.Fit, obl, last, last_ev, ev_lb]
  simp only [ev_lt, ev_ltf, ev_vr, ev_li, size_ev]
  refine ⟨fun g1 => ⟨fun g2 => ⟨fun g3 => ?_, fun g3 => ?_⟩, fun g2 => ?_⟩, fun g1 => ?_⟩
  · rw [hA] at g3
    exact (few_false h0 (by omega) g2 g3).symm
  · refine ⟨⟨by simp only [upd_cons, upd_nil, Nat.reduceEqDiff, if_false]; exact hA, by simp only [upd_cons, upd_nil, Nat.reduceEqDiff, if_false]; exact hn, ?_, ?_, fun i hlt => ?_⟩, ?_⟩
    · simp only [upd_cons, upd_nil, reduceIte, ev_add, ev_vr, ev_li]; omega
    · simp only [upd_cons, upd_nil, reduceIte, ev_add, ev_vr, ev_li]; omega
    · simp only [upd_cons, upd_nil, reduceIte, ev_add, ev_vr, ev_li] at hlt
      by_cases e : (i : Int) < (ρ.v 1000).int
      · exact hi i e
      · have e' : (i : Int) = (ρ.v 1000).int := by omega
        rw [e', ← hA]; exact ⟨by omega, g3⟩
    · simp only [mu, upd_cons, upd_nil, reduceIte, ev_add, ev_vr, ev_li]; omega
  · rw [few_last (.inr g2) hi, hn]
  · rw [few_last (.inl (by omega)) hi, hn]

theorem few_calls (ρ : Env) (m : Emb) (w : World) (vs : Array Value) (hvs : DV.RL m ρ args vs.toList) (hH : HeapR m ρ (T.ofList heap) w) (hf : ∀ id, 1 ≤ id → m.ι id = none) :
    Calls Try.prog 9 vs w fun e w' => e = .returned (.bool (fewS (ρ.v 1) (ρ.v 2).int)) ∧ Below w.heap.size w w' := by
  refine (calls_by_points (S := fun _ => True) (root := root) (pts := pts) (Γ := fun _ => Γ0) (fun _ _ => Γ0_ok) Try.func9 (by kernel_rfl) (of_decide_eq_true (by kernel_rfl)) (fun p hp => ?_) (fun p hp => ?_) (F0 := {}) rfl run0 (obl (ρ.v 1) (ρ.v 2).int) (Inv (ρ.v 1) (ρ.v 2).int) mu (fun j p ρ' hp h => ?_)
    (ρ := ρ) ⟨by simp, by simp, by simp, trivial⟩ ?_ hvs hH hf).mono fun e w' he => ?_
  · obtain rfl := List.mem_singleton.1 hp; rfl
  · obtain rfl := List.mem_singleton.1 hp; exact run1
  · match j, hp with
    | 0, hp =>
      cases hp
      refine ⟨⟨by simp [facts0], fun p hp => ?_, by simp [facts0], trivial⟩, fit1 ρ' h⟩
      simp only [facts0, List.mem_singleton] at hp
      subst hp
      exact ⟨h.2.2.1, h.2.2.2.1⟩
    | j + 1, hp => simp [pts] at hp
  · refine ⟨rfl, rfl, ?_, ?_, fun i hlt => ?_⟩
    · simp [upd_cons, ev_li]
    · simp [upd_cons, ev_li]
    · simp only [upd_cons, reduceIte, ev_li] at hlt; omega
  · obtain ⟨v, d, ρ', m', h', rfl, hd, ho, _, hs⟩ := he
    refine ⟨?_, hs.below fun b ⟨id, B, hB, hrw, _⟩ => ?_⟩
    · cases d <;> simp only [obl] at ho
      simp only [DV.R] at hd; rw [hd, ho]
    · have := ofList_mem hB
      simp only [heap, List.mem_singleton, Prod.mk.injEq] at this
      rw [this.2] at hrw; cases hrw
end Go.Proofs.Ytlefdfcknddaaaa.Few
