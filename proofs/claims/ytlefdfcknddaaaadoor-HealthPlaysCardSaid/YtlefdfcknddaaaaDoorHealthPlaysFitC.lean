/- What holds at the head of the loop of the law HealthPlays. -/
import Derived.Test.YtlefdfcknddaaaaDoorHealthPlaysPlanC
import Derived.Test.YtlefdfcknddaaaaDoorHealthPlaysSC
namespace Go.Proofs.YtlefdfcknddaaaaDoor.HealthPlaysDone
open Go.Eng Go.RowKit Go.ChangeShapes Go.WideShapes Go.ChangeAt

structure Lp (v : Nat → Sc) : Prop where
  i0 : 0 ≤ (v 1000).int
  i1 : (v 1000).int ≤ 200
  p0 : 0 ≤ (v 1001).int
  p1 : (v 1001).int ≤ 4
  r0 : 0 ≤ (v 1003).int
  r1 : (v 1003).int ≤ 255
  rm : (v 1003).int ≤ (v 2).int

def Inv (j : Nat) (ρ : Env) : Prop := match j with
  | 0 => consts0.ok ρ ∧ Lp ρ.v ∧ (ρ.v 1001).int = 0
  | 1 => consts1.ok ρ ∧ Lp ρ.v ∧ (1 ≤ (ρ.v 1011).int ∧ (ρ.v 1011).int ≤ (ρ.v 1000).int) ∧ (ρ.v 1001).int = if (ρ.v 1002).bool = true then 0 else Pend.pendS (ρ.v 1010).arr
  | 2 => consts2.ok ρ ∧ 0 ≤ (ρ.v 1000).int ∧ (ρ.v 1000).int ≤ 200
  | _ => False
def mu (_ : Nat) (ρ : Env) : Nat := (201 - (ρ.v 1000).int).toNat

theorem bnds2 : shB Tryd.prog sh2 0 = [((.vr 0), 0, 255), ((.vr 1), 0, 4294967295), ((.vr 2), 0, 255), ((.vr 3), 0, 255), ((.vr 4), 0, 255), ((.vr 5), 0, 255), ((.vr 6), 0, 255), ((.vr 7), 0, 255), ((.vr 8), 0, 255), ((.vr 9), 0, 255), ((.vr 10), 0, 255), ((.vr 11), 0, 255), ((.vr 12), 0, 255), ((.vr 13), 0, 255), ((.vr 14), 0, 255), ((.vr 15), 0, 255), ((.vr 16), 0, 255), ((.vr 17), 0, 255), ((.vr 18), 0, 255), ((.vr 19), 0, 255), ((.vr 22), 1, 9223372036854775807), ((.vr 23), 1, 9223372036854775807)] := by kernel_rfl
theorem rng2 : (E.vr 2).rng consts0 = (some 0, some 255) := by kernel_rfl
theorem rng22 : (E.vr 22).rng consts0 = (some 1, some 200) := by kernel_rfl
theorem rngc5 : c5.rng consts0 = (some 0, some 4) := by kernel_rfl
theorem same01 : consts1 = consts0 := rfl

theorem row_arr (ρ : Env) (x : E) : ((E.un (.row (.cI .u8)) x).ev ρ).arr = [Value.int .u8 (x.ev ρ).int] := rfl
theorem cat_arr (ρ : Env) (a b : E) : ((E.bi (.row .cat) a b).ev ρ).arr = (a.ev ρ).arr ++ (b.ev ρ).arr := rfl
theorem byte_int {n : Int} (h0 : 0 ≤ n) (h1 : n ≤ 255) : Pend.byte (Value.int .u8 n) = n := wrap_id (k := .u8) h0 h1
theorem app_ev {ρ : Env} (hs : S ρ) (a : E) : ((E.tr (.app 900) a (.li 0) (.li 0)).ev ρ).int = Pend.pendS (a.ev ρ).arr := by
  show (ρ.f 900 (a.ev ρ) _ _).int = _
  rw [hs]
  rfl

theorem pend_one {n : Int} (h0 : 0 ≤ n) (h1 : n ≤ 255) : (1 < n ∧ Pend.pendS [Value.int .u8 n] = n) ∨ (n ≤ 1 ∧ Pend.pendS [Value.int .u8 n] = 0) := by
  have e : Pend.pendS [Value.int .u8 n] = if 1 < n ∧ 0 < n then n else 0 := by
    show Pend.pick 0 (Value.int .u8 n) = _
    unfold Pend.pick
    rw [byte_int h0 h1]
  rw [e]
  split <;> omega
theorem pend_more {l : List Value} {n : Int} (h0 : 0 ≤ n) (h1 : n ≤ 255) : ((1 < n ∧ Pend.pendS l < n) ∧ Pend.pendS (l ++ [Value.int .u8 n]) = n) ∨ ((n ≤ 1 ∨ n ≤ Pend.pendS l) ∧ Pend.pendS (l ++ [Value.int .u8 n]) = Pend.pendS l) := by
  have e : Pend.pendS (l ++ [Value.int .u8 n]) = if 1 < n ∧ Pend.pendS l < n then n else Pend.pendS l := by
    rw [Pend.pend_cat]
    unfold Pend.pick
    rw [byte_int h0 h1]
  rw [e]
  split <;> omega
theorem if_halt {b : Bool} {x z : Int} (h : b = true → z = 0) (g : b = false → z = x) : z = if b = true then 0 else x := by
  cases b
  · exact g rfl
  · exact h rfl

set_option maxHeartbeats 40000000 in
theorem fit0 (ρ : Env) (h : Inv 0 ρ) : plan0.Fit oblT (fun j' ρ' => Inv j' ρ' ∧ mu j' ρ' < mu 0 ρ) ρ := by
  obtain ⟨hC, hL, hz⟩ := h
  have h2 := rng_of hC rng2
  have h22 := rng_of hC rng22
  have hc5 := rng_of hC rngc5
  have hU : ∀ σ : List (Nat × E), (σ.all fun p => decide (1000 ≤ p.1)) = true → consts0.ok (ρ.upd (T.ofList σ)) := fun σ hσ => Facts.ok_upd hC (N := 1000) (by kernel_rfl) hσ (fun h => h)
  clear hC
  obtain ⟨i0, i1, p0, p1, r0, r1, rm⟩ := hL
  have hc6 : (1 < (c5.ev ρ).int ∧ (c6.ev ρ).int = (c5.ev ρ).int) ∨ ((c5.ev ρ).int ≤ 1 ∧ (c6.ev ρ).int = 0) := by
    simp only [c6, ev_ite, ite_int, ev_lt, ev_li]
    split <;> omega
  have hp1 := pend_one (n := (c5.ev ρ).int) (by omega) (by omega)
  simp only [ev_vr] at h2 h22
  simp only [plan0, PL.Fit, oblT, ev_vr, ev_li, ev_lb, ev_lt, ev_ltf, ev_eqi, ev_eqif, ev_eqs, ev_eqsf]
  repeat' first | exact True.intro | exact rfl | refine ⟨fun _ => ?_, fun _ => ?_⟩ | refine And.intro (a := ((_ : Int) = _)) (by first | assumption | omega) ?_
  all_goals first
    | (exfalso; omega)
    | (rename_i hx
       refine absurd ?_ hx
       simp only [ev_cat, ev_subs, ev_chr, ev_at, ev_ls, ev_vr, ev_li, ev_add, ev_tdiv, ev_tmod, ev_mul, c1, c2, c3, c4, c7]
       repeat' first | with_reducible rfl | ((with_reducible refine x0 ?_ ?_ ?_ ?_ ?_) <;> first | omega | rfl) | ((with_reducible refine x1 ?_ ?_ ?_ ?_ ?_) <;> first | omega | rfl) | ((with_reducible refine x2 ?_ ?_ ?_ ?_ ?_) <;> first | omega | rfl) | ((with_reducible refine x3 ?_ ?_ ?_ ?_) <;> first | omega | rfl) | with_reducible refine cat_eq ?_ ?_)
    | (refine ⟨⟨hU _ (by decide), ⟨?_, ?_, ?_, ?_, ?_, ?_, ?_⟩, ?_⟩, ?_⟩
       all_goals simp only [mu, upd_cons, upd_nil, reduceIte, Nat.reduceEqDiff, ev_vr, ev_li, ev_add]
       all_goals omega)
    | (refine ⟨⟨hU _ (by decide), ⟨?_, ?_, ?_, ?_, ?_, ?_, ?_⟩, ⟨?_, ?_⟩, if_halt (fun hb => ?_) (fun hb => ?_)⟩, ?_⟩
       all_goals simp only [mu, upd_cons, upd_nil, reduceIte, Nat.reduceEqDiff, ev_vr, ev_li, ev_add, row_arr] at *
       all_goals first | omega | (exfalso; simp_all; done))
    | skip
set_option maxHeartbeats 40000000 in
theorem fit1 (ρ : Env) (h : Inv 1 ρ) : plan1.Fit oblT (fun j' ρ' => Inv j' ρ' ∧ mu j' ρ' < mu 1 ρ) ρ := by
  obtain ⟨hC, hL, ⟨hn1, hn2⟩, hz⟩ := h
  have hs : S ρ := hC.sem
  rw [same01] at hC
  have h2 := rng_of hC rng2
  have h22 := rng_of hC rng22
  have hc5 := rng_of hC rngc5
  have hU : ∀ σ : List (Nat × E), (σ.all fun p => decide (1000 ≤ p.1)) = true → consts0.ok (ρ.upd (T.ofList σ)) := fun σ hσ => Facts.ok_upd hC (N := 1000) (by kernel_rfl) hσ (fun h => h)
  clear hC
  obtain ⟨i0, i1, p0, p1, r0, r1, rm⟩ := hL
  have hc6 : (1 < (c5.ev ρ).int ∧ (c6.ev ρ).int = (c5.ev ρ).int) ∨ ((c5.ev ρ).int ≤ 1 ∧ (c6.ev ρ).int = 0) := by
    simp only [c6, ev_ite, ite_int, ev_lt, ev_li]
    split <;> omega
  have hc12 : ((ρ.v 1001).int < (c5.ev ρ).int ∧ (c12.ev ρ).int = (c5.ev ρ).int) ∨ ((c5.ev ρ).int ≤ (ρ.v 1001).int ∧ (c12.ev ρ).int = (ρ.v 1001).int) := by
    simp only [c12, ev_ite, ite_int, ev_lt, ev_vr]
    split <;> omega
  have hp2 := pend_more (l := (ρ.v 1010).arr) (n := (c5.ev ρ).int) (by omega) (by omega)
  have ha1 : ((E.tr (.app 900) (.vr 1010) (.li 0) (.li 0)).ev ρ).int = Pend.pendS (ρ.v 1010).arr := app_ev hs _
  have ha2 : ((E.tr (.app 900) (.bi (.row .cat) (.vr 1010) (.un (.row (.cI .u8)) c5)) (.li 0) (.li 0)).ev ρ).int = Pend.pendS ((ρ.v 1010).arr ++ [Value.int .u8 (c5.ev ρ).int]) := app_ev hs _
  have hz1 : (ρ.v 1002).bool = true → (ρ.v 1001).int = 0 := fun hb => by rw [hz, if_pos hb]
  have hz2 : (ρ.v 1002).bool = false → (ρ.v 1001).int = ((E.tr (.app 900) (.vr 1010) (.li 0) (.li 0)).ev ρ).int := fun hb => by rw [hz, hb, ha1]; rfl
  clear hz
  simp only [ev_vr] at h2 h22
  simp only [plan1, PL.Fit, oblT, ev_vr, ev_li, ev_lb, ev_add, ev_lt, ev_ltf, ev_eqi, ev_eqif, ev_eqs, ev_eqsf, ev_tdiv]
  repeat' first | exact True.intro | exact rfl | refine ⟨fun _ => ?_, fun _ => ?_⟩ | refine And.intro (a := ((_ : Int) = _)) (by first | exact hz1 (by assumption) | exact hz2 (by assumption)) ?_
  all_goals first | replace hz1 := hz1 (by assumption) | replace hz2 := hz2 (by assumption)
  all_goals first
    | (exfalso; omega)
    | (rename_i hx
       refine absurd ?_ hx
       simp only [ev_cat, ev_subs, ev_chr, ev_at, ev_ls, ev_vr, ev_li, ev_add, ev_tdiv, ev_tmod, ev_mul, c1, c2, c3, c4, c8, c9, c10, c11, c13, c14]
       repeat' first | with_reducible rfl | ((with_reducible refine x0 ?_ ?_ ?_ ?_ ?_) <;> first | omega | rfl) | ((with_reducible refine x1 ?_ ?_ ?_ ?_ ?_) <;> first | omega | rfl) | ((with_reducible refine x2 ?_ ?_ ?_ ?_ ?_) <;> first | omega | rfl) | ((with_reducible refine x3 ?_ ?_ ?_ ?_) <;> first | omega | rfl) | with_reducible refine cat_eq ?_ ?_)
    | (refine ⟨⟨hU _ (by decide), ⟨?_, ?_, ?_, ?_, ?_, ?_, ?_⟩, ?_⟩, ?_⟩
       all_goals simp only [mu, upd_cons, upd_nil, reduceIte, Nat.reduceEqDiff, ev_vr, ev_li, ev_add]
       all_goals omega)
    | (refine ⟨⟨hU _ (by decide), ⟨?_, ?_, ?_, ?_, ?_, ?_, ?_⟩, ⟨?_, ?_⟩, if_halt (fun hb => ?_) (fun hb => ?_)⟩, ?_⟩
       all_goals simp only [mu, upd_cons, upd_nil, reduceIte, Nat.reduceEqDiff, ev_vr, ev_li, ev_add, row_arr, cat_arr] at *
       all_goals first | omega | (exfalso; simp_all; done))
    | skip
theorem fit2 (ρ : Env) : plan2.Fit oblT (fun j' ρ' => Inv j' ρ' ∧ mu j' ρ' < mu 2 ρ) ρ := by
  simp only [plan2, PL.Fit, oblT]
  exact ⟨fun _ => rfl, fun _ => rfl⟩

theorem fitN (ρ : Env) : planN.Fit oblT (fun _ _ => False) ρ := by
  simp only [planN, PL.Fit, oblT]
  repeat' first | exact True.intro | exact rfl | refine ⟨fun _ => ?_, fun _ => ?_⟩ | fail

theorem fitE (ρ : Env) (hs : S ρ) (hb : ∀ p ∈ shB Tryd.prog sh2 0, p.2.1 ≤ (p.1.ev ρ).int ∧ (p.1.ev ρ).int ≤ p.2.2) : planE.Fit oblT Inv ρ := by
  rw [bnds2] at hb
  simp only [List.forall_mem_cons, List.not_mem_nil, false_implies, implies_true, and_true, ev_vr] at hb
  simp only [planE, PL.Fit, oblT, ev_vr, ev_li, ev_lb, ev_lt, ev_ltf]
  repeat' first | exact True.intro | exact rfl | refine ⟨fun _ => ?_, fun _ => ?_⟩ | fail
  all_goals first
    | (refine ⟨Facts.ok_upd (N := 1000) (Facts.ok_iff.2 ⟨?_, ?_, by simp [consts0], hs⟩) (by kernel_rfl) (by decide) (fun h => h), ⟨?_, ?_, ?_, ?_, ?_, ?_, ?_⟩, ?_⟩
       · simp only [consts0, List.forall_mem_cons, List.not_mem_nil, false_implies, implies_true, and_true, ev_vr, ev_li, ev_lt, ev_ltf]
         and_intros <;> first | assumption | omega
       · simp only [consts0, List.forall_mem_cons, List.not_mem_nil, false_implies, implies_true, and_true, ev_vr]
         omega
       all_goals simp only [upd_cons, upd_nil, reduceIte, Nat.reduceEqDiff, ev_li]
       all_goals omega)
    | (refine ⟨Facts.ok_upd (N := 1000) (Facts.ok_iff.2 ⟨by simp [consts2], ?_, by simp [consts2], hs⟩) (by kernel_rfl) (by decide) (fun h => h), ?_, ?_⟩
       · simp only [consts2, List.forall_mem_cons, List.not_mem_nil, false_implies, implies_true, and_true, ev_vr]
         omega
       all_goals simp only [upd_cons, upd_nil, reduceIte, ev_li]
       all_goals omega)

theorem facts0_ok {ρ : Env} (h : Inv 0 ρ) : facts0.ok ρ := by
  obtain ⟨hC, hL, _⟩ := h
  refine Facts.join_ok hC (Facts.ok_iff.2 ⟨?_, ?_, by simp [loopF0], trivial⟩)
  · simp only [loopF0, List.forall_mem_cons, List.not_mem_nil, false_implies, implies_true, and_true, ev_vr, ev_ltf]
    exact hL.rm
  · simp only [loopF0, List.forall_mem_cons, List.not_mem_nil, false_implies, implies_true, and_true, ev_vr]
    exact ⟨⟨hL.p0, hL.p1⟩, ⟨hL.i0, hL.i1⟩, ⟨hL.r0, hL.r1⟩⟩
theorem facts1_ok {ρ : Env} (h : Inv 1 ρ) : facts1.ok ρ := by
  obtain ⟨hC, hL, ⟨h1, h2⟩, _⟩ := h
  have hi := hL.i1
  refine Facts.join_ok hC (Facts.ok_iff.2 ⟨?_, ?_, by simp [loopF1], trivial⟩)
  · simp only [loopF1, List.forall_mem_cons, List.not_mem_nil, false_implies, implies_true, and_true, ev_vr, ev_ltf]
    exact hL.rm
  · simp only [loopF1, List.forall_mem_cons, List.not_mem_nil, false_implies, implies_true, and_true, ev_vr]
    exact ⟨⟨hL.p0, hL.p1⟩, ⟨h1, by omega⟩, ⟨hL.i0, hL.i1⟩, ⟨hL.r0, hL.r1⟩⟩
theorem facts2_ok {ρ : Env} (h : Inv 2 ρ) : facts2.ok ρ := by
  obtain ⟨hC, h1, h2⟩ := h
  refine Facts.join_ok hC (Facts.ok_iff.2 ⟨by simp [loopF2], ?_, by simp [loopF2], trivial⟩)
  simp only [loopF2, List.forall_mem_cons, List.not_mem_nil, false_implies, implies_true, and_true, ev_vr]
  exact ⟨h1, h2⟩
end Go.Proofs.YtlefdfcknddaaaaDoor.HealthPlaysDone
