/- What Pending of the document's monitor answers, whatever was raised: a contract for the proof of the law HealthPlays. -/
import Derived.Test.YtlefdfcknddaaaaDoorChecked
import Derived.Test.YtlefdfcknddaaaaDoorEngG13
namespace Go.Proofs.YtlefdfcknddaaaaDoor.Pend
open Go.Eng Go.RowKit

def rp0 : List Nat := [0, 1, 0, 1, 1]
def gs : List DV := [.int .u8 (.vr 0), .int .u32 (.vr 1), .int .u8 (.vr 2), .int .u8 (.vr 3), .int .u8 (.vr 4), .int .u8 (.vr 5), .int .u8 (.vr 6), .int .u8 (.vr 7), .int .u8 (.vr 8), .int .u8 (.vr 9), .int .u8 (.vr 10), .int .u8 (.vr 11), .int .u8 (.vr 12), .int .u8 (.vr 13), .int .u8 (.vr 14), .int .u8 (.vr 15), .int .u8 (.vr 16), .int .u8 (.vr 17), .int .u8 (.vr 18), .int .u8 (.vr 19)]
def args : List DV := [.ptr 0 ⟨0, []⟩]
/-- The monitor where nothing was raised. -/
def heapN : List (Nat × Blk) := [(0, .cells (gs ++ [.nils, .int .i64 (.vr 21), .bool (.vr 22)]) 72 .ro)]
/-- The monitor with a row of what was raised. -/
def heapR : List (Nat × Blk) := [(0, .cells (gs ++ [.slc 1 ⟨0, []⟩ (.vr 24) (.own (.li 0)), .int .i64 (.vr 21), .bool (.vr 22)]) 72 .ro), (1, .arr (.li 0) (.vr 23) (.vr 24) [.int .u8] 5 .ro)]
def tm0 : Tm := { tmps := [(0, .ptr 0 ⟨0, []⟩), (2, .int .u8 (.li 0)), (3, .int .u8 (.vr 1000)), (4, .int .i64 (.vr 1001))], heap := heapR, next := 2, sz := 48 }
def el : E := .un (.wrap .u8) (.bi .cell (.vr 23) (.vr 1001))
def facts0 : Facts := { bnds := [((.vr 24), 1, 1000), ((.vr 1001), 0, 1000), ((.vr 1000), 0, 255)] }
def plan0 : PL := .go 0 [(1000, .li 0), (1001, .li 0)] []
def ans : DV := .int .u8 (.vr 1000)
def plan1 : PL := .node (.bi .lt (.vr 1001) (.vr 24)) (.node (.vr 22) (.retd ans) (.node (.bi .lt (.li 1) el) (.node (.bi .lt (.vr 1000) el) (.go 0 [(1000, el), (1001, .bi .add (.vr 1001) (.li 1))] []) (.go 0 [(1001, .bi .add (.vr 1001) (.li 1))] [])) (.go 0 [(1001, .bi .add (.vr 1001) (.li 1))] []))) (.retd ans)
def pt0 : Pt := { rp := rp0, tm := tm0, facts := facts0, plan := plan1 }
def pts : List Pt := [pt0]
noncomputable def root : Code := (Tryd.f35.body).getD .skip

theorem run0 : PL.run (seg Tryd.prog (fun _ => Γ0) 1000 50 (pts.map (·.rp)) (.code root []) [] ⟨argsT 0 args, T.ofList heapR, 2, Tryd.f35.ntmps, []⟩) (finTrue Tryd.prog Tryd.f35) pts { bnds := [((.vr 24), 1, 1000)] } plan0 = true := by kernel_rfl
theorem run1 : ptOk Tryd.prog (fun _ => Γ0) 1000 50 root Tryd.f35 pts pt0 = true := by kernel_rfl
theorem runN : (match runX Tryd.prog {} (fun _ => Γ0) 1000 50 35 args (T.ofList heapN) 1 with | some r => DV.eqv r.d (.int .u8 (.li 0)) | none => false) = true := by kernel_rfl

/-- A byte of a row. -/
def byte (v : Value) : Int := IntKind.wrap .u8 (Sc.ofValue v).int
def pick (a : Int) (v : Value) : Int := if 1 < byte v ∧ a < byte v then byte v else a
/-- The greatest byte above 1 of a row, or 0. -/
def pendS (l : List Value) : Int := l.foldl pick 0

theorem pick_take {l : List Value} {i : Nat} (h : i < l.length) : (l.take (i + 1)).foldl pick 0 = pick ((l.take i).foldl pick 0) (l.getD i undef) := by
  rw [List.take_add_one, List.foldl_append, List.getD_eq_getElem?_getD, List.getElem?_eq_getElem h]
  rfl
theorem pend_cat (l : List Value) (v : Value) : pendS (l ++ [v]) = pick (pendS l) v := by
  unfold pendS
  rw [List.foldl_append]
  rfl

structure Inv (A : List Value) (b : Bool) (j : Nat) (ρ : Env) : Prop where
  j : j = 0
  a : (ρ.v 23).arr = A
  n : (ρ.v 24).int = A.length
  n1 : 1 ≤ (ρ.v 24).int
  n2 : (ρ.v 24).int ≤ 1000
  h : (ρ.v 22).bool = b
  i0 : 0 ≤ (ρ.v 1001).int
  i1 : (ρ.v 1001).int ≤ A.length
  m : (ρ.v 1000).int = (A.take (ρ.v 1001).int.toNat).foldl pick 0
  m0 : 0 ≤ (ρ.v 1000).int
  m1 : (ρ.v 1000).int ≤ 255
  b : b = true → (ρ.v 1001).int = 0
def mu (_ : Nat) (ρ : Env) : Nat := (1001 - (ρ.v 1001).int).toNat
def obl (A : List Value) (b : Bool) : DV → Env → Prop
  | .int .u8 e, ρ => (e.ev ρ).int = if b = true then 0 else pendS A
  | _, _ => False

theorem el_ev (ρ : Env) : (el.ev ρ).int = byte ((ρ.v 23).arr.getD (ρ.v 1001).int.toNat undef) := rfl
theorem byte_rng (v : Value) : 0 ≤ byte v ∧ byte v ≤ 255 := by
  exact wrap_rng .u8 (Sc.ofValue v).int

theorem fit1 {A : List Value} {b : Bool} (ρ : Env) (H : Inv A b 0 ρ) : plan1.Fit (obl A b) (fun j' ρ' => Inv A b j' ρ' ∧ mu j' ρ' < mu 0 ρ) ρ := by
  obtain ⟨_, ha, hn, n1, n2, hh, i0, i1, hm, m0, m1, hb⟩ := H
  simp only [plan1, PL.Fit, obl, ans]
  simp only [ev_lt, ev_ltf, ev_vr, ev_li]
  have step : ∀ k : Int, (ρ.v 1001).int < (ρ.v 24).int → (ρ.v 22).bool = false → k = pick (ρ.v 1000).int (A.getD (ρ.v 1001).int.toNat undef) → ∀ ρ' : Env, (ρ'.v 23) = ρ.v 23 → (ρ'.v 24) = ρ.v 24 → (ρ'.v 22) = ρ.v 22 → (ρ'.v 1001).int = (ρ.v 1001).int + 1 → (ρ'.v 1000).int = k →
      Inv A b 0 ρ' ∧ mu 0 ρ' < mu 0 ρ := by
    intro k hlt hf hk ρ' e1 e2 e3 e4 e5
    have hi : (ρ.v 1001).int.toNat < A.length := by omega
    have hk2 : 0 ≤ k ∧ k ≤ 255 := by
      rw [hk]; unfold pick
      split
      · exact byte_rng _
      · exact ⟨m0, m1⟩
    refine ⟨⟨rfl, by rw [e1]; exact ha, by rw [e2]; exact hn, by rw [e2]; exact n1, by rw [e2]; exact n2, by rw [e3]; exact hh, by rw [e4]; omega, by rw [e4]; omega, ?_, by rw [e5]; exact hk2.1, by rw [e5]; exact hk2.2, fun hb' => ?_⟩, ?_⟩
    · rw [e5, e4, hk, show ((ρ.v 1001).int + 1).toNat = (ρ.v 1001).int.toNat + 1 by omega, pick_take hi, ← hm]
    · rw [hf] at hh; rw [← hh] at hb'; cases hb'
    · unfold mu; rw [e4]; omega
  refine ⟨fun g1 => ⟨fun g2 => ?_, fun g2 => ⟨fun g3 => ⟨fun g4 => ?_, fun g4 => ?_⟩, fun g3 => ?_⟩⟩, fun g1 => ?_⟩
  · rw [hh] at g2
    rw [if_pos g2, hm, hb g2]
    rfl
  · rw [el_ev, ha] at g3 g4
    refine step (byte (A.getD (ρ.v 1001).int.toNat undef)) g1 g2 (by unfold pick; rw [if_pos ⟨g3, g4⟩]) _ ?_ ?_ ?_ ?_ ?_
    all_goals simp only [upd_cons, upd_nil, reduceIte, Nat.reduceEqDiff, ev_add, ev_vr, ev_li]
    rw [el_ev, ha]
  · rw [el_ev, ha] at g3 g4
    refine step (ρ.v 1000).int g1 g2 (by unfold pick; rw [if_neg (by omega)]) _ ?_ ?_ ?_ ?_ ?_
    all_goals simp only [upd_cons, upd_nil, reduceIte, Nat.reduceEqDiff, ev_add, ev_vr, ev_li]
  · rw [el_ev, ha] at g3
    refine step (ρ.v 1000).int g1 g2 (by unfold pick; rw [if_neg (by omega)]) _ ?_ ?_ ?_ ?_ ?_
    all_goals simp only [upd_cons, upd_nil, reduceIte, Nat.reduceEqDiff, ev_add, ev_vr, ev_li]
  · have e : (ρ.v 1001).int.toNat = A.length := by omega
    rw [hm, e, List.take_length]
    by_cases hb' : b = true
    · have := hb hb'
      omega
    · rw [if_neg hb']; rfl

theorem pend_calls (ρ : Env) (m : Emb) (w : World) (vs : Array Value) (hn1 : 1 ≤ (ρ.v 24).int) (hn2 : (ρ.v 24).int ≤ 1000) (hvs : DV.RL m ρ args vs.toList) (hH : HeapR m ρ (T.ofList heapR) w) (hf : ∀ id, 2 ≤ id → m.ι id = none) :
    Calls Tryd.prog 35 vs w fun e w' => e = .returned (.int .u8 (if (ρ.v 22).bool = true then 0 else pendS (ρ.v 23).arr)) ∧ Below w.heap.size w w' := by
  have hlen : (ρ.v 24).int = (ρ.v 23).arr.length := by
    obtain ⟨b, o, h1, h2, c, fr, h3, h4, _⟩ := hH.blk 1 _ (show (T.ofList heapR).get 1 = some (.arr (.li 0) (.vr 23) (.vr 24) [.int .u8] 5 .ro) from rfl) rfl
    simp only [ev_vr, List.length_cons, List.length_nil] at h4
    omega
  refine (calls_by_points (S := fun _ => True) (root := root) (pts := pts) (Γ := fun _ => Γ0) (fun _ _ => Γ0_ok) Tryd.func35 (by kernel_rfl) (of_decide_eq_true (by kernel_rfl)) (fun p hp => ?_) (fun p hp => ?_) (F0 := { bnds := [((.vr 24), 1, 1000)] }) rfl run0 (obl (ρ.v 23).arr (ρ.v 22).bool) (Inv (ρ.v 23).arr (ρ.v 22).bool) mu (fun j p ρ' hp h => ?_)
    (ρ := ρ) ⟨by simp, fun p hp => ?_, by simp, trivial⟩ ?_ hvs hH hf).mono fun e w' he => ?_
  · obtain rfl := List.mem_singleton.1 hp; rfl
  · obtain rfl := List.mem_singleton.1 hp; exact run1
  · have hj := h.j
    subst hj
    cases hp
    refine ⟨⟨by simp [pt0, facts0], fun p hp => ?_, by simp [pt0, facts0], trivial⟩, fit1 ρ' h⟩
    simp only [pt0, facts0, List.mem_cons, List.not_mem_nil, or_false] at hp
    rcases hp with rfl | rfl | rfl
    · exact ⟨h.n1, h.n2⟩
    · refine ⟨h.i0, ?_⟩
      have h1 := h.i1
      have h2 := h.n2
      rw [h.n] at h2
      show (ρ'.v 1001).int ≤ 1000
      omega
    · exact ⟨h.m0, h.m1⟩
  · obtain rfl := List.mem_singleton.1 hp
    exact ⟨hn1, hn2⟩
  · refine ⟨rfl, ?_, ?_, ?_, ?_, ?_, ?_, ?_, ?_, ?_, ?_, ?_⟩
    all_goals simp only [upd_cons, upd_nil, reduceIte, Nat.reduceEqDiff, ev_li]
    all_goals first | rfl | assumption | exact Int.le_refl _ | omega | (intro _; rfl) | simp
  · obtain ⟨v, d, ρ', m', h', rfl, hd, ho, _, hs⟩ := he
    refine ⟨?_, hs.below fun b ⟨id, B, hB, hrw, _⟩ => ?_⟩
    · cases d with
      | int k e =>
        cases k <;> simp only [obl] at ho
        simp only [DV.R] at hd; rw [hd, ho]
      | _ => simp only [obl] at ho
    · have := ofList_mem hB
      simp only [heapR, List.mem_cons, List.not_mem_nil, or_false, Prod.mk.injEq] at this
      rcases this with ⟨_, rfl⟩ | ⟨_, rfl⟩ <;> cases hrw
end Go.Proofs.YtlefdfcknddaaaaDoor.Pend
