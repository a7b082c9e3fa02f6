/- The law HealthCounts of the layer health: whatever policy and list of faults it is called with, it returns true, and its arguments read behind the call as they did. No condition. -/
import Derived.Test.YtlefdfcknddaaaaRows
import Derived.Test.YtlefdfcknddaaaaEngAG
namespace Go.Proofs.Ytlefdfcknddaaaa.HealthCountsDone
open Go.Eng Go.RowKit Go.ChangeShapes Go.WideShapes Go.ChangeAt

def c0 : E := .un (.wrap .u8) (.bi .cell (.vr 21) (.vr 1000))
def c1 : E := .tr .ite (.bi .eqi c0 (.li 0)) (.vr 3) (.tr .ite (.bi .eqi c0 (.li 1)) (.vr 4) (.tr .ite (.bi .eqi c0 (.li 2)) (.vr 5) (.tr .ite (.bi .eqi c0 (.li 3)) (.vr 6) (.tr .ite (.bi .eqi c0 (.li 4)) (.vr 7) (.tr .ite (.bi .eqi c0 (.li 5)) (.vr 8) (.tr .ite (.bi .eqi c0 (.li 6)) (.vr 9) (.tr .ite (.bi .eqi c0 (.li 7)) (.vr 10) (.tr .ite (.bi .eqi c0 (.li 8)) (.vr 11) (.tr .ite (.bi .eqi c0 (.li 9)) (.vr 12) (.tr .ite (.bi .eqi c0 (.li 10)) (.vr 13) (.tr .ite (.bi .eqi c0 (.li 11)) (.vr 14) (.tr .ite (.bi .eqi c0 (.li 12)) (.vr 15) (.tr .ite (.bi .eqi c0 (.li 13)) (.vr 16) (.tr .ite (.bi .eqi c0 (.li 14)) (.vr 17) (.tr .ite (.bi .eqi c0 (.li 15)) (.vr 18) (.vr 19))))))))))))))))
def c2 : E := .tr .ite (.bi .lt (.vr 1002) c1) c1 (.vr 1002)
def plan0 : PL := (.node (.bi .lt (.vr 3) (.li 5)) (.node (.bi .lt (.vr 4) (.li 5)) (.node (.bi .lt (.vr 5) (.li 5)) (.node (.bi .lt (.vr 6) (.li 5)) (.node (.bi .lt (.vr 7) (.li 5)) (.node (.bi .lt (.vr 8) (.li 5)) (.node (.bi .lt (.vr 9) (.li 5)) (.node (.bi .lt (.vr 10) (.li 5)) (.node (.bi .lt (.vr 11) (.li 5)) (.node (.bi .lt (.vr 12) (.li 5)) (.node (.bi .lt (.vr 13) (.li 5)) (.node (.bi .lt (.vr 14) (.li 5)) (.node (.bi .lt (.vr 15) (.li 5)) (.node (.bi .lt (.vr 16) (.li 5)) (.node (.bi .lt (.vr 17) (.li 5)) (.node (.bi .lt (.vr 18) (.li 5)) (.node (.bi .lt (.vr 19) (.li 5)) (.node (.bi .lt (.li 200) (.vr 22)) .ret (.go 0 [(1001, (.li 0)), (1004, (.li 0)), (1003, (.lb false)), (1000, (.li 0)), (1002, (.li 0)), (1005, (.li 0)), (1006, (.lb false))] [])) (.node (.bi .lt (.li 200) (.vr 22)) .ret .ret)) (.node (.bi .lt (.li 200) (.vr 22)) .ret .ret)) (.node (.bi .lt (.li 200) (.vr 22)) .ret .ret)) (.node (.bi .lt (.li 200) (.vr 22)) .ret .ret)) (.node (.bi .lt (.li 200) (.vr 22)) .ret .ret)) (.node (.bi .lt (.li 200) (.vr 22)) .ret .ret)) (.node (.bi .lt (.li 200) (.vr 22)) .ret .ret)) (.node (.bi .lt (.li 200) (.vr 22)) .ret .ret)) (.node (.bi .lt (.li 200) (.vr 22)) .ret .ret)) (.node (.bi .lt (.li 200) (.vr 22)) .ret .ret)) (.node (.bi .lt (.li 200) (.vr 22)) .ret .ret)) (.node (.bi .lt (.li 200) (.vr 22)) .ret .ret)) (.node (.bi .lt (.li 200) (.vr 22)) .ret .ret)) (.node (.bi .lt (.li 200) (.vr 22)) .ret .ret)) (.node (.bi .lt (.li 200) (.vr 22)) .ret .ret)) (.node (.bi .lt (.li 200) (.vr 22)) .ret .ret)) (.node (.bi .lt (.li 200) (.vr 22)) .ret .ret))
def tm0 : Tm := { tmps := [(1, .slc 0 ⟨0, [((.vr 20), 1)]⟩ (.vr 22) (.ex (.vr 23))), (2, .ptr 1 ⟨0, []⟩), (4, .bool (.lb false)), (5, .ptr 4 ⟨0, []⟩), (7, .int .u8 (.vr 1001)), (8, .int .i64 (.vr 1004)), (9, .bool (.vr 1003)), (10, .int .i64 (.vr 1000))], heap := [(0, .arr (.vr 20) (.vr 21) (.vr 22) [.int .u8] 59 .ro), (1, .cells [.int .u8 (.vr 0), .int .u32 (.vr 1), .int .u8 (.vr 2), .int .u8 (.vr 3), .int .u8 (.vr 4), .int .u8 (.vr 5), .int .u8 (.vr 6), .int .u8 (.vr 7), .int .u8 (.vr 8), .int .u8 (.vr 9), .int .u8 (.vr 10), .int .u8 (.vr 11), .int .u8 (.vr 12), .int .u8 (.vr 13), .int .u8 (.vr 14), .int .u8 (.vr 15), .int .u8 (.vr 16), .int .u8 (.vr 17), .int .u8 (.vr 18), .int .u8 (.vr 19)] 58 .rw), (4, .cells [.bool (.lb true), .int .u8 (.vr 3), .int .u8 (.vr 4), .int .u8 (.vr 5), .int .u8 (.vr 6), .int .u8 (.vr 7), .int .u8 (.vr 8), .int .u8 (.vr 9), .int .u8 (.vr 10), .int .u8 (.vr 11), .int .u8 (.vr 12), .int .u8 (.vr 13), .int .u8 (.vr 14), .int .u8 (.vr 15), .int .u8 (.vr 16), .int .u8 (.vr 17), .int .u8 (.vr 18), .int .u8 (.vr 19), .int .u8 (.vr 2), .int .u8 (.vr 1002), .int .u8 (.vr 1005), .bool (.vr 1006)] 77 .rw)], next := 5, sz := 115 }
def consts0 : Facts := { conds := [], bnds := [((.vr 22), 1, 200), ((.vr 19), 0, 4), ((.vr 18), 0, 4), ((.vr 17), 0, 4), ((.vr 16), 0, 4), ((.vr 15), 0, 4), ((.vr 14), 0, 4), ((.vr 13), 0, 4), ((.vr 12), 0, 4), ((.vr 11), 0, 4), ((.vr 10), 0, 4), ((.vr 9), 0, 4), ((.vr 8), 0, 4), ((.vr 7), 0, 4), ((.vr 6), 0, 4), ((.vr 5), 0, 4), ((.vr 4), 0, 4), ((.vr 3), 0, 4), ((.vr 0), 0, 255), ((.vr 1), 0, 4294967295), ((.vr 2), 0, 255), ((.vr 23), 1, 9223372036854775807)] }
def loopF0 : Facts := { conds := [((.bi .eqi (.vr 1002) (.vr 1001)), true), ((.bi .eqi (.vr 1005) (.vr 1004)), true), ((.bi .eqb (.vr 1006) (.vr 1003)), true), ((.bi .lt (.vr 2) (.vr 1004)), false)], bnds := [((.vr 1000), 0, 200), ((.vr 1001), 0, 4), ((.vr 1002), 0, 4), ((.vr 1004), 0, 255), ((.vr 1005), 0, 255)] }
def plan1 : PL := (.node (.bi .lt (.vr 1000) (.vr 22)) (.node (.bi .eqi c0 (.li 255)) (.node (.bi .eqi (.vr 1001) (.li 0)) (.node (.bi .eqi (.vr 1002) (.li 0)) (.go 0 [(1001, (.li 0)), (1000, (.bi .add (.vr 1000) (.li 1)))] []) (.node (.bi .eqi (.vr 1002) (.li 4)) .absurd (.node (.bi .lt (.vr 1005) (.vr 2)) (.node (.bi .eqi (.bi .add (.vr 1005) (.li 1)) (.vr 1004)) (.go 0 [(1001, (.li 0)), (1000, (.bi .add (.vr 1000) (.li 1))), (1002, (.li 0)), (1005, (.bi .add (.vr 1005) (.li 1)))] []) .absurd) .absurd))) (.node (.bi .eqi (.vr 1001) (.li 4)) (.node (.bi .eqi (.vr 1002) (.li 0)) .absurd (.node (.bi .eqi (.vr 1002) (.li 4)) (.go 0 [(1001, (.li 0)), (1003, (.lb true)), (1000, (.bi .add (.vr 1000) (.li 1))), (1002, (.li 0)), (1006, (.lb true))] []) (.node (.bi .lt (.vr 1005) (.vr 2)) .absurd (.go 0 [(1001, (.li 0)), (1003, (.lb true)), (1000, (.bi .add (.vr 1000) (.li 1))), (1002, (.li 0)), (1006, (.lb true))] [])))) (.node (.bi .eqi (.vr 1004) (.vr 2)) (.node (.bi .eqi (.vr 1002) (.li 0)) .absurd (.node (.bi .eqi (.vr 1002) (.li 4)) (.go 0 [(1001, (.li 0)), (1003, (.lb true)), (1000, (.bi .add (.vr 1000) (.li 1))), (1002, (.li 0)), (1006, (.lb true))] []) (.node (.bi .lt (.vr 1005) (.vr 2)) .absurd (.go 0 [(1001, (.li 0)), (1003, (.lb true)), (1000, (.bi .add (.vr 1000) (.li 1))), (1002, (.li 0)), (1006, (.lb true))] [])))) (.node (.bi .eqi (.vr 1001) (.li 2)) (.node (.bi .eqi (.vr 1002) (.li 0)) .absurd (.node (.bi .eqi (.vr 1002) (.li 4)) .absurd (.node (.bi .lt (.vr 1005) (.vr 2)) (.node (.bi .eqi (.bi .add (.vr 1005) (.li 1)) (.bi .add (.vr 1004) (.li 1))) (.node (.bi .lt (.vr 2) (.bi .add (.vr 1004) (.li 1))) .absurd (.go 0 [(1001, (.li 0)), (1004, (.bi .add (.vr 1004) (.li 1))), (1000, (.bi .add (.vr 1000) (.li 1))), (1002, (.li 0)), (1005, (.bi .add (.vr 1005) (.li 1)))] [])) .absurd) .absurd))) (.node (.bi .eqi (.vr 1001) (.li 3)) (.node (.bi .eqi (.vr 1002) (.li 0)) .absurd (.node (.bi .eqi (.vr 1002) (.li 4)) .absurd (.node (.bi .lt (.vr 1005) (.vr 2)) (.node (.bi .eqi (.bi .add (.vr 1005) (.li 1)) (.bi .add (.vr 1004) (.li 1))) (.node (.bi .lt (.vr 2) (.bi .add (.vr 1004) (.li 1))) .absurd (.go 0 [(1001, (.li 0)), (1004, (.bi .add (.vr 1004) (.li 1))), (1000, (.bi .add (.vr 1000) (.li 1))), (1002, (.li 0)), (1005, (.bi .add (.vr 1005) (.li 1)))] [])) .absurd) .absurd))) (.node (.bi .eqi (.vr 1002) (.li 0)) (.node (.bi .eqi (.li 0) (.vr 1001)) (.go 0 [(1001, (.li 0)), (1000, (.bi .add (.vr 1000) (.li 1)))] []) .absurd) (.node (.bi .eqi (.vr 1002) (.li 4)) (.node (.bi .eqi (.li 4) (.vr 1001)) (.node (.bi .eqb (.lb true) (.vr 1003)) (.go 0 [(1001, (.li 0)), (1000, (.bi .add (.vr 1000) (.li 1))), (1002, (.li 0)), (1006, (.lb true))] []) .absurd) .absurd) (.node (.bi .lt (.vr 1005) (.vr 2)) (.node (.bi .eqi (.bi .add (.vr 1005) (.li 1)) (.vr 1004)) (.go 0 [(1001, (.li 0)), (1000, (.bi .add (.vr 1000) (.li 1))), (1002, (.li 0)), (1005, (.bi .add (.vr 1005) (.li 1)))] []) .absurd) (.node (.bi .eqi (.li 4) (.vr 1001)) (.node (.bi .eqb (.lb true) (.vr 1003)) (.go 0 [(1001, (.li 0)), (1000, (.bi .add (.vr 1000) (.li 1))), (1002, (.li 0)), (1006, (.lb true))] []) .absurd) .absurd))))))))) (.node (.bi .lt c0 (.li 17)) (.node (.bi .lt (.li 1) c1) (.node (.vr 1006) (.node (.bi .lt (.vr 1001) c1) (.node (.vr 1003) (.go 0 [(1000, (.bi .add (.vr 1000) (.li 1)))] []) (.go 0 [(1001, c1), (1000, (.bi .add (.vr 1000) (.li 1)))] [])) (.go 0 [(1000, (.bi .add (.vr 1000) (.li 1)))] [])) (.node (.bi .lt (.vr 1001) c1) (.node (.vr 1003) (.go 0 [(1000, (.bi .add (.vr 1000) (.li 1))), (1002, c2)] []) (.go 0 [(1001, c1), (1000, (.bi .add (.vr 1000) (.li 1))), (1002, c2)] [])) (.go 0 [(1000, (.bi .add (.vr 1000) (.li 1))), (1002, c2)] []))) (.go 0 [(1000, (.bi .add (.vr 1000) (.li 1)))] [])) (.go 0 [(1000, (.bi .add (.vr 1000) (.li 1)))] []))) .ret)
def rp0 : List Nat := [0, 1, 0, 1, 1, 1, 1, 1]


def tree : DT := (.node (.bi .lt (.vr 3) (.li 5)) (.node (.bi .lt (.vr 4) (.li 5)) (.node (.bi .lt (.vr 5) (.li 5)) (.node (.bi .lt (.vr 6) (.li 5)) (.node (.bi .lt (.vr 7) (.li 5)) (.node (.bi .lt (.vr 8) (.li 5)) (.node (.bi .lt (.vr 9) (.li 5)) (.node (.bi .lt (.vr 10) (.li 5)) (.node (.bi .lt (.vr 11) (.li 5)) (.node (.bi .lt (.vr 12) (.li 5)) (.node (.bi .lt (.vr 13) (.li 5)) (.node (.bi .lt (.vr 14) (.li 5)) (.node (.bi .lt (.vr 15) (.li 5)) (.node (.bi .lt (.vr 16) (.li 5)) (.node (.bi .lt (.vr 17) (.li 5)) (.node (.bi .lt (.vr 18) (.li 5)) (.node (.bi .lt (.vr 19) (.li 5)) .leaf .leaf) .leaf) .leaf) .leaf) .leaf) .leaf) .leaf) .leaf) .leaf) .leaf) .leaf) .leaf) .leaf) .leaf) .leaf) .leaf) .leaf)

def sh1 : Sh := [(58, 0), (59, 1)]
def sh2 : Sh := [(58, 0), (59, 2)]
def facts0 : Facts := consts0.join loopF0
def pts : List Pt := [⟨rp0, tm0, facts0, plan1⟩]

/-- What holds at the head of the loop: the monitor's pending action, its count and its state are what the law counts. -/
structure L (v : Nat → Sc) : Prop where
  i0 : 0 ≤ (v 1000).int
  i1 : (v 1000).int ≤ 200
  s0 : 0 ≤ (v 1001).int
  s1 : (v 1001).int ≤ 4
  s2 : (v 1001).int ≠ 1
  p : (v 1002).int = (v 1001).int
  r0 : 0 ≤ (v 1004).int
  r1 : (v 1004).int ≤ (v 2).int
  q : (v 1005).int = (v 1004).int
  h : (v 1006).bool = (v 1003).bool
  hs : (v 1003).bool = true → (v 1001).int = 0

def Inv (j : Nat) (ρ : Env) : Prop := j = 0 ∧ consts0.ok ρ ∧ L ρ.v
def mu (_ : Nat) (ρ : Env) : Nat := (200 - (ρ.v 1000).int).toNat

theorem bnds2 : shB Try.prog sh2 0 = [((.vr 0), 0, 255), ((.vr 1), 0, 4294967295), ((.vr 2), 0, 255), ((.vr 3), 0, 255), ((.vr 4), 0, 255), ((.vr 5), 0, 255), ((.vr 6), 0, 255), ((.vr 7), 0, 255), ((.vr 8), 0, 255), ((.vr 9), 0, 255), ((.vr 10), 0, 255), ((.vr 11), 0, 255), ((.vr 12), 0, 255), ((.vr 13), 0, 255), ((.vr 14), 0, 255), ((.vr 15), 0, 255), ((.vr 16), 0, 255), ((.vr 17), 0, 255), ((.vr 18), 0, 255), ((.vr 19), 0, 255), ((.vr 22), 1, 9223372036854775807), ((.vr 23), 1, 9223372036854775807)] := by kernel_rfl
theorem rng1 : c1.rng facts0 = (some 0, some 4) := by kernel_rfl
theorem rng2 : (E.vr 2).rng consts0 = (some 0, some 255) := by kernel_rfl
theorem rng22 : (E.vr 22).rng consts0 = (some 1, some 200) := by kernel_rfl

theorem facts_ok {ρ : Env} (hC : consts0.ok ρ) (h : L ρ.v) : facts0.ok ρ := by
  refine Facts.join_ok hC ?_
  have h2 := rng_of hC rng2
  obtain ⟨i0, i1, s0, s1, s2, p, r0, r1, q, hh, hs⟩ := h
  simp only [loopF0, Facts.ok_iff, List.forall_mem_cons, List.not_mem_nil, false_implies, implies_true, and_true, true_and, ev_vr, ev_li, ev_lb, ev_add, ev_lt, ev_ltf, ev_eqi, ev_eqif, ev_eqb, ev_eqbf] at h2 ⊢
  and_intros <;> first | omega | assumption

theorem fit1 (ρ : Env) (h : Inv 0 ρ) : plan1.Fit (fun j' ρ' => Inv j' ρ' ∧ mu j' ρ' < mu 0 ρ) ρ := by
  obtain ⟨_, hC, hL⟩ := h
  have hc := rng_of (facts_ok hC hL) rng1
  have h2 := rng_of hC rng2
  have h22 := rng_of hC rng22
  have hU : ∀ σ : List (Nat × E), (σ.all fun p => decide (1000 ≤ p.1)) = true → consts0.ok (ρ.upd (T.ofList σ)) := fun σ hσ => Facts.ok_upd hC (N := 1000) (by kernel_rfl) hσ
  clear hC
  obtain ⟨i0, i1, s0, s1, s2, p, r0, r1, q, hh, hs⟩ := hL
  simp only [ev_vr] at h2 h22
  simp only [plan1, PL.Fit, Inv, ev_vr, ev_li, ev_lb, ev_add, ev_lt, ev_ltf, ev_eqi, ev_eqif, ev_eqb, ev_eqbf]
  repeat' first | refine ⟨fun _ => ?_, fun _ => ?_⟩ | exact True.intro
  all_goals first | (exfalso; omega; done) | skip
  all_goals refine ⟨⟨by first | exact True.intro | rfl, hU _ (by decide), ⟨?_, ?_, ?_, ?_, ?_, ?_, ?_, ?_, ?_, ?_, ?_⟩⟩, ?_⟩
  all_goals simp only [mu, upd_cons, upd_nil, reduceIte, Nat.reduceEqDiff, ev_vr, ev_li, ev_lb, ev_add, ev_lt, ev_ltf, ev_eqi, ev_eqif, ev_eqb, ev_eqbf]
  all_goals first | assumption | omega | (intros; simp_all; done) | (simp only [c2, ev_ite, ite_int, ev_vr, ev_li, ev_lb, ev_add, ev_lt, ev_ltf, ev_eqi, ev_eqif, ev_eqb, ev_eqbf]; split <;> omega)

theorem fit0 (ρ : Env) (hb : ∀ p ∈ shB Try.prog sh2 0, p.2.1 ≤ (p.1.ev ρ).int ∧ (p.1.ev ρ).int ≤ p.2.2) : plan0.Fit Inv ρ := by
  rw [bnds2] at hb
  simp only [List.forall_mem_cons, List.not_mem_nil, false_implies, implies_true, and_true, ev_vr, ev_li, ev_lb, ev_add, ev_lt, ev_ltf, ev_eqi, ev_eqif, ev_eqb, ev_eqbf] at hb
  simp only [plan0, PL.Fit, Inv, ev_vr, ev_li, ev_lb, ev_add, ev_lt, ev_ltf, ev_eqi, ev_eqif, ev_eqb, ev_eqbf]
  repeat' first | refine ⟨fun _ => ?_, fun _ => ?_⟩ | exact True.intro
  refine ⟨by first | exact True.intro | rfl, Facts.ok_upd (N := 1000) ?_ (by kernel_rfl) (by decide), ⟨?_, ?_, ?_, ?_, ?_, ?_, ?_, ?_, ?_, ?_, ?_⟩⟩
  · simp only [consts0, Facts.ok_iff, List.forall_mem_cons, List.not_mem_nil, false_implies, implies_true, and_true, true_and, ev_vr, ev_li, ev_lb, ev_add, ev_lt, ev_ltf, ev_eqi, ev_eqif, ev_eqb, ev_eqbf]
    omega
  all_goals simp only [upd_cons, upd_nil, reduceIte, Nat.reduceEqDiff, ev_vr, ev_li, ev_lb, ev_add, ev_lt, ev_ltf, ev_eqi, ev_eqif, ev_eqb, ev_eqbf]
  all_goals first | omega | (intros; simp_all; done)

theorem tree_fit (ρ : Env) : tree.Fit ρ := by
  simp only [tree, DT.Fit]
  repeat' first | refine ⟨fun _ => ?_, fun _ => ?_⟩ | exact True.intro

theorem run1 : DT.run Try.prog (fun _ => Γ0) 1000 50 7 (shDV Try.prog sh1 0 0) (T.ofList (shH Try.prog sh1 0 0)) (shN sh1) goodTrue { bnds := shB Try.prog sh1 0 } tree = true := by kernel_rfl
noncomputable def root : Code := (Try.f7.body).getD .skip
theorem run2 : PL.run (seg Try.prog (fun _ => Γ0) 1000 50 (pts.map (·.rp)) (.code root []) [] ⟨argsT 0 (shDV Try.prog sh2 0 0), T.ofList (shH Try.prog sh2 0 0), shN sh2, Try.f7.ntmps⟩) (finTrue Try.prog Try.f7) pts { bnds := shB Try.prog sh2 0 } plan0 = true := by kernel_rfl
theorem run3 : ptOk Try.prog (fun _ => Γ0) 1000 50 root Try.f7 pts ⟨rp0, tm0, facts0, plan1⟩ = true := by kernel_rfl

theorem own : ownKnob Try.prog.godebug = none := by kernel_rfl
theorem laidOut : laidOutB Try.prog = true := by kernel_rfl
theorem shapes : allSh Try.prog Try.f7.params.toList = [sh1, sh2] := by kernel_rfl

theorem law1 : Law Try.prog 7 sh1 := law_cases run1 fun ρ _ => tree_fit ρ
theorem law2 : Law Try.prog 7 sh2 := by
  refine law_points (root := root) (pts := pts) Try.func7 (by kernel_rfl) (of_decide_eq_true (by kernel_rfl)) (fun p hp => ?_) run2 Inv mu (fun j p ρ hp h => ?_) fit0
  · obtain rfl := List.mem_singleton.1 hp
    exact run3
  · have hj := h.1
    subst hj
    cases hp
    exact ⟨facts_ok h.2.1 h.2.2, fit1 ρ h⟩

theorem lifted (os : Os) (started : os.Started) (H : Type) (enc : TypeId × Value → H) :
    ReturnsInHanded {} Try.checked os 7 .any (Rows.healthCountsSpec.pre6 enc Try.prog Try.f7 Rows.healthCountsRow.domain false) (Rows.healthCountsSpec.post enc Try.prog Try.f7 false true false false) := by
  have h := lifted_shapes (C := Try.checked) (s := Rows.healthCountsSpec) (conds := Rows.healthCountsRow.domain) (apart := false) (enc := enc) own laidOut started (f := 7) (fn := Try.f7) (by kernel_rfl) Try.func7
    (ChangeSpec.witness6 (enc := enc) (C := Try.checked) false ⟨#[], #[.agg #[.int .u8 0, .int .u32 0, .int .u8 0, .int .u8 0, .int .u8 0, .int .u8 0, .int .u8 0, .int .u8 0, .int .u8 0, .int .u8 0, .int .u8 0, .int .u8 0, .int .u8 0, .int .u8 0, .int .u8 0, .int .u8 0, .int .u8 0, .int .u8 0, .int .u8 0, .int .u8 0], .slice none 0 0], []⟩ 8 (by kernel_rfl) (by kernel_rfl) (by kernel_rfl) (by kernel_rfl))
    (by kernel_rfl) rfl Try.underlying4 rfl ?_ ?_
  · exact h
  · intro ds hl; rcases ds with _ | ⟨a, _ | ⟨b, _ | ⟨c, ds⟩⟩⟩ <;> first | rfl | cases hl
  · intro sh hsh
    change sh ∈ allSh Try.prog Try.f7.params.toList at hsh
    rw [shapes] at hsh
    rcases List.mem_cons.1 hsh with rfl | hsh
    · exact law1
    · obtain rfl := List.mem_singleton.1 hsh
      exact law2

theorem over : Rows.healthCountsRow.holds Try.pinned (OpenSpec.ofChange Rows.healthCountsSpec) :=
  OpenClaim.holds_of_wide 7 Try.f7 rfl rfl rfl rfl rfl rfl rfl ⟨rfl, rfl, rfl, rfl, rfl⟩ rfl rfl rfl rfl rfl (by kernel_rfl) Try.func7 (by kernel_rfl)
    (of_decide_eq_true (by kernel_rfl)) (by unfold Func.isWrapper; first | (rw [if_pos (by decide +kernel)]; kernel_rfl) | (rw [if_neg (by decide +kernel)]; exact ⟨rfl, rfl⟩))
    (fun os started H enc _ => lifted os started H enc)

theorem healthCounts_holds : Rows.HealthCountsSaid := over
#print axioms healthCounts_holds
end Go.Proofs.Ytlefdfcknddaaaa.HealthCountsDone
