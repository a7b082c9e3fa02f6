/- The law SampleLatest of the layer sample: whatever shape, row of acts and end it is called with, it returns true, and its arguments read behind the call as they did. No condition. -/
import Derived.Test.YtlefdfcknddaaaaFewC
namespace Go.Proofs.Ytlefdfcknddaaaa.SampleLatestDone
open Go.Eng Go.RowKit Go.ChangeShapes Go.WideShapes Go.ChangeAt

/-- The number 900 is what few answers of the acts. -/
def S (ρ : Env) : Prop := (ρ.v 900).bool = Few.fewS (ρ.v 4) (ρ.v 5).int
def sf : List (Nat × E) := [(0, .vr 3), (1, .vr 4), (2, .vr 5), (3, .vr 6)]
def Γf : FuncId → Option CallD := Γ1 9 (readC (T.ofList sf) id 1 Few.args Few.heap (.bool (.vr 900)))

theorem Γf_ok (F : Facts) (hF : F.sem = S) : ΓOk Try.prog F Γf := by
  intro f c hc
  unfold Γf Γ1 at hc
  split at hc
  · rename_i e
    cases hc
    subst e
    refine fun args h n r hr => readC_ok (fun ρ hok m w vs hvs hH hf => ?_) 9 args h n r hr
    have hs : S ρ := by have := hok.sem; rw [hF] at this; exact this
    refine (Few.few_calls _ _ w vs hvs hH hf).mono fun e w' ⟨he, hb⟩ => ⟨_, he, ?_, hb⟩
    simp only [DV.R, E.ev]
    rw [show (ρ.v 900).bool = _ from hs]
    rfl
  · cases hc

theorem S_ex (ρ : Env) : ∃ x : Nat → Sc, S { v := fun i => if i < 900 then ρ.v i else x i } := ⟨fun _ => .B (Few.fewS (ρ.v 4) (ρ.v 5).int), rfl⟩

def c2 : E := .bi .cell (.vr 4) (.bi .add (.bi .mul (.vr 1000) (.li 4)) (.li 2))
def c1 : E := .un .len c2
def c0 : E := .bi .tmod (.un (.wrap .u8) (.bi .cell (.vr 4) (.bi .mul (.vr 1000) (.li 4)))) (.li 5)
def c3 : E := .un (.wrap .u64) (.bi .cell (.vr 4) (.bi .add (.bi .mul (.vr 1000) (.li 4)) (.li 1)))
def c4 : E := .un (.wrap .i64) (.bi .cell (.vr 4) (.bi .add (.bi .mul (.vr 1000) (.li 4)) (.li 3)))
def c5 : E := .tr .ite (.bi .eqi c4 (.li 0)) (.lb false) (.vr 1019)
def c6 : E := .tr .ite (.bi .eqi c4 (.li 1)) (.lb false) (.vr 1018)
def c7 : E := .tr .ite (.bi .eqi c4 (.li 2)) (.lb false) (.vr 1017)
def c8 : E := .tr .ite (.bi .eqi c4 (.li 3)) (.lb false) (.vr 1016)
def c9 : E := .tr .ite (.bi .eqi c4 (.li 4)) (.lb false) (.vr 1015)
def c10 : E := .tr .ite (.bi .eqi c4 (.li 5)) (.lb false) (.vr 1014)
def c11 : E := .tr .ite (.bi .eqi c4 (.li 6)) (.lb false) (.vr 1013)
def c12 : E := .tr .ite (.bi .eqi c4 (.li 7)) (.lb false) (.vr 1012)
def c13 : E := .tr .ite (.bi .eqi c4 (.li 8)) (.lb false) (.vr 1011)
def c14 : E := .tr .ite (.bi .eqi c4 (.li 9)) (.lb false) (.vr 1010)
def c15 : E := .tr .ite (.bi .eqi c4 (.li 10)) (.lb false) (.vr 1009)
def c16 : E := .tr .ite (.bi .eqi c4 (.li 11)) (.lb false) (.vr 1008)
def c17 : E := .tr .ite (.bi .eqi c4 (.li 12)) (.lb false) (.vr 1007)
def c18 : E := .tr .ite (.bi .eqi c4 (.li 13)) (.lb false) (.vr 1006)
def c19 : E := .tr .ite (.bi .eqi c4 (.li 14)) (.lb false) (.vr 1005)
def c20 : E := .tr .ite (.bi .eqi c4 (.li 15)) (.lb false) (.vr 1004)
def plan0 : PL := (.node (.bi .lt (.vr 0) (.li 1)) .ret (.node (.bi .lt (.li 64) (.vr 0)) .ret (.node (.bi .lt (.vr 2) (.li 1)) .ret (.node (.bi .lt (.li 16) (.vr 2)) .ret (.node (.vr 900) (.go 0 [(1001, (.ls ⟨#[]⟩)), (1002, (.li 0)), (1003, (.lb false)), (1000, (.li 0)), (1019, (.lb false)), (1018, (.lb false)), (1017, (.lb false)), (1016, (.lb false)), (1015, (.lb false)), (1014, (.lb false)), (1013, (.lb false)), (1012, (.lb false)), (1011, (.lb false)), (1010, (.lb false)), (1009, (.lb false)), (1008, (.lb false)), (1007, (.lb false)), (1006, (.lb false)), (1005, (.lb false)), (1004, (.lb false)), (1020, (.lb false)), (1021, (.lb false)), (1022, (.lb false)), (1023, (.lb false)), (1024, (.lb false)), (1025, (.lb false)), (1026, (.lb false)), (1027, (.lb false)), (1028, (.lb false)), (1029, (.lb false)), (1030, (.lb false)), (1031, (.lb false)), (1032, (.lb false)), (1033, (.lb false)), (1034, (.lb false))] []) .ret)))))
def tm0 : Tm := { tmps := [(1, .slc 0 ⟨0, [((.vr 3), 1)]⟩ (.vr 5) (.ex (.vr 6))), (2, .int .i64 (.vr 7)), (3, .ptr 1 ⟨0, []⟩), (6, .bool (.lb false)), (7, .ptr 2 ⟨0, []⟩), (9, .ptr 3 ⟨0, []⟩), (11, .str (.vr 1001)), (12, .int .u64 (.vr 1002)), (13, .bool (.vr 1003)), (14, .int .i64 (.vr 1000))], heap := [(0, .arr (.vr 3) (.vr 4) (.vr 5) [.int .u8, .int .u64, .str, .int .i64] 25 .ro), (1, .cells [.int .i64 (.vr 0), .int .u32 (.vr 1), .int .i64 (.vr 2)] 24 .rw), (2, .cells [.int .i64 (.vr 0), .int .u32 (.vr 1), .int .i64 (.vr 2), .bool (.vr 1003), .str (.vr 1001), .int .u64 (.vr 1002), .bool (.vr 1019), .bool (.vr 1018), .bool (.vr 1017), .bool (.vr 1016), .bool (.vr 1015), .bool (.vr 1014), .bool (.vr 1013), .bool (.vr 1012), .bool (.vr 1011), .bool (.vr 1010), .bool (.vr 1009), .bool (.vr 1008), .bool (.vr 1007), .bool (.vr 1006), .bool (.vr 1005), .bool (.vr 1004)] 67 .rw), (3, .cells [.int .i64 (.vr 0), .int .u32 (.vr 1), .int .i64 (.vr 2), .bool (.vr 1003), .str (.vr 1001), .int .u64 (.vr 1002), .bool (.vr 1003), .bool (.vr 1020), .bool (.vr 1021), .bool (.vr 1022), .bool (.vr 1023), .bool (.vr 1024), .bool (.vr 1025), .bool (.vr 1026), .bool (.vr 1027), .bool (.vr 1028), .bool (.vr 1029), .bool (.vr 1030), .bool (.vr 1031), .bool (.vr 1032), .bool (.vr 1033), .bool (.vr 1034)] 67 .rw)], next := 4, sz := 200 }
def consts0 : Facts := { conds := [((.vr 900), true), ((.bi .lt (.li 16) (.vr 2)), false), ((.bi .lt (.vr 2) (.li 1)), false), ((.bi .lt (.li 64) (.vr 0)), false), ((.bi .lt (.vr 0) (.li 1)), false)], bnds := [((.vr 2), 1, 16), ((.vr 0), 1, 64), ((.vr 1), 0, 4294967295), ((.vr 5), 1, 9223372036854775807), ((.vr 6), 1, 9223372036854775807), ((.vr 7), -9223372036854775808, 9223372036854775807)], sem := S }
def loopF0 : Facts := { conds := [], bnds := [((.vr 1000), 0, 9223372036854775807), ((.vr 1002), 0, 18446744073709551615)] }
def plan1 : PL := (.node (.bi .lt (.vr 1000) (.vr 5)) (.node (.bi .lt c0 (.li 2)) (.node (.bi .lt (.vr 0) c1) (.go 0 [(1000, (.bi .add (.vr 1000) (.li 1)))] []) (.node (.bi .lt (.li 1) (.vr 2)) (.node (.bi .lt (.li 2) (.vr 2)) (.node (.bi .lt (.li 3) (.vr 2)) (.node (.bi .lt (.li 4) (.vr 2)) (.node (.bi .lt (.li 5) (.vr 2)) (.node (.bi .lt (.li 6) (.vr 2)) (.node (.bi .lt (.li 7) (.vr 2)) (.node (.bi .lt (.li 8) (.vr 2)) (.node (.bi .lt (.li 9) (.vr 2)) (.node (.bi .lt (.li 10) (.vr 2)) (.node (.bi .lt (.li 11) (.vr 2)) (.node (.bi .lt (.li 12) (.vr 2)) (.node (.bi .lt (.li 13) (.vr 2)) (.node (.bi .lt (.li 14) (.vr 2)) (.node (.bi .lt (.li 15) (.vr 2)) (.go 0 [(1001, c2), (1002, c3), (1003, (.lb true)), (1000, (.bi .add (.vr 1000) (.li 1))), (1019, (.lb true)), (1018, (.lb true)), (1017, (.lb true)), (1016, (.lb true)), (1015, (.lb true)), (1014, (.lb true)), (1013, (.lb true)), (1012, (.lb true)), (1011, (.lb true)), (1010, (.lb true)), (1009, (.lb true)), (1008, (.lb true)), (1007, (.lb true)), (1006, (.lb true)), (1005, (.lb true)), (1004, (.lb true)), (1020, (.lb true)), (1021, (.lb true)), (1022, (.lb true)), (1023, (.lb true)), (1024, (.lb true)), (1025, (.lb true)), (1026, (.lb true)), (1027, (.lb true)), (1028, (.lb true)), (1029, (.lb true)), (1030, (.lb true)), (1031, (.lb true)), (1032, (.lb true)), (1033, (.lb true)), (1034, (.lb true))] []) (.go 0 [(1001, c2), (1002, c3), (1003, (.lb true)), (1000, (.bi .add (.vr 1000) (.li 1))), (1019, (.lb true)), (1018, (.lb true)), (1017, (.lb true)), (1016, (.lb true)), (1015, (.lb true)), (1014, (.lb true)), (1013, (.lb true)), (1012, (.lb true)), (1011, (.lb true)), (1010, (.lb true)), (1009, (.lb true)), (1008, (.lb true)), (1007, (.lb true)), (1006, (.lb true)), (1005, (.lb true)), (1020, (.lb true)), (1021, (.lb true)), (1022, (.lb true)), (1023, (.lb true)), (1024, (.lb true)), (1025, (.lb true)), (1026, (.lb true)), (1027, (.lb true)), (1028, (.lb true)), (1029, (.lb true)), (1030, (.lb true)), (1031, (.lb true)), (1032, (.lb true)), (1033, (.lb true))] [])) (.go 0 [(1001, c2), (1002, c3), (1003, (.lb true)), (1000, (.bi .add (.vr 1000) (.li 1))), (1019, (.lb true)), (1018, (.lb true)), (1017, (.lb true)), (1016, (.lb true)), (1015, (.lb true)), (1014, (.lb true)), (1013, (.lb true)), (1012, (.lb true)), (1011, (.lb true)), (1010, (.lb true)), (1009, (.lb true)), (1008, (.lb true)), (1007, (.lb true)), (1006, (.lb true)), (1020, (.lb true)), (1021, (.lb true)), (1022, (.lb true)), (1023, (.lb true)), (1024, (.lb true)), (1025, (.lb true)), (1026, (.lb true)), (1027, (.lb true)), (1028, (.lb true)), (1029, (.lb true)), (1030, (.lb true)), (1031, (.lb true)), (1032, (.lb true))] [])) (.go 0 [(1001, c2), (1002, c3), (1003, (.lb true)), (1000, (.bi .add (.vr 1000) (.li 1))), (1019, (.lb true)), (1018, (.lb true)), (1017, (.lb true)), (1016, (.lb true)), (1015, (.lb true)), (1014, (.lb true)), (1013, (.lb true)), (1012, (.lb true)), (1011, (.lb true)), (1010, (.lb true)), (1009, (.lb true)), (1008, (.lb true)), (1007, (.lb true)), (1020, (.lb true)), (1021, (.lb true)), (1022, (.lb true)), (1023, (.lb true)), (1024, (.lb true)), (1025, (.lb true)), (1026, (.lb true)), (1027, (.lb true)), (1028, (.lb true)), (1029, (.lb true)), (1030, (.lb true)), (1031, (.lb true))] [])) (.go 0 [(1001, c2), (1002, c3), (1003, (.lb true)), (1000, (.bi .add (.vr 1000) (.li 1))), (1019, (.lb true)), (1018, (.lb true)), (1017, (.lb true)), (1016, (.lb true)), (1015, (.lb true)), (1014, (.lb true)), (1013, (.lb true)), (1012, (.lb true)), (1011, (.lb true)), (1010, (.lb true)), (1009, (.lb true)), (1008, (.lb true)), (1020, (.lb true)), (1021, (.lb true)), (1022, (.lb true)), (1023, (.lb true)), (1024, (.lb true)), (1025, (.lb true)), (1026, (.lb true)), (1027, (.lb true)), (1028, (.lb true)), (1029, (.lb true)), (1030, (.lb true))] [])) (.go 0 [(1001, c2), (1002, c3), (1003, (.lb true)), (1000, (.bi .add (.vr 1000) (.li 1))), (1019, (.lb true)), (1018, (.lb true)), (1017, (.lb true)), (1016, (.lb true)), (1015, (.lb true)), (1014, (.lb true)), (1013, (.lb true)), (1012, (.lb true)), (1011, (.lb true)), (1010, (.lb true)), (1009, (.lb true)), (1020, (.lb true)), (1021, (.lb true)), (1022, (.lb true)), (1023, (.lb true)), (1024, (.lb true)), (1025, (.lb true)), (1026, (.lb true)), (1027, (.lb true)), (1028, (.lb true)), (1029, (.lb true))] [])) (.go 0 [(1001, c2), (1002, c3), (1003, (.lb true)), (1000, (.bi .add (.vr 1000) (.li 1))), (1019, (.lb true)), (1018, (.lb true)), (1017, (.lb true)), (1016, (.lb true)), (1015, (.lb true)), (1014, (.lb true)), (1013, (.lb true)), (1012, (.lb true)), (1011, (.lb true)), (1010, (.lb true)), (1020, (.lb true)), (1021, (.lb true)), (1022, (.lb true)), (1023, (.lb true)), (1024, (.lb true)), (1025, (.lb true)), (1026, (.lb true)), (1027, (.lb true)), (1028, (.lb true))] [])) (.go 0 [(1001, c2), (1002, c3), (1003, (.lb true)), (1000, (.bi .add (.vr 1000) (.li 1))), (1019, (.lb true)), (1018, (.lb true)), (1017, (.lb true)), (1016, (.lb true)), (1015, (.lb true)), (1014, (.lb true)), (1013, (.lb true)), (1012, (.lb true)), (1011, (.lb true)), (1020, (.lb true)), (1021, (.lb true)), (1022, (.lb true)), (1023, (.lb true)), (1024, (.lb true)), (1025, (.lb true)), (1026, (.lb true)), (1027, (.lb true))] [])) (.go 0 [(1001, c2), (1002, c3), (1003, (.lb true)), (1000, (.bi .add (.vr 1000) (.li 1))), (1019, (.lb true)), (1018, (.lb true)), (1017, (.lb true)), (1016, (.lb true)), (1015, (.lb true)), (1014, (.lb true)), (1013, (.lb true)), (1012, (.lb true)), (1020, (.lb true)), (1021, (.lb true)), (1022, (.lb true)), (1023, (.lb true)), (1024, (.lb true)), (1025, (.lb true)), (1026, (.lb true))] [])) (.go 0 [(1001, c2), (1002, c3), (1003, (.lb true)), (1000, (.bi .add (.vr 1000) (.li 1))), (1019, (.lb true)), (1018, (.lb true)), (1017, (.lb true)), (1016, (.lb true)), (1015, (.lb true)), (1014, (.lb true)), (1013, (.lb true)), (1020, (.lb true)), (1021, (.lb true)), (1022, (.lb true)), (1023, (.lb true)), (1024, (.lb true)), (1025, (.lb true))] [])) (.go 0 [(1001, c2), (1002, c3), (1003, (.lb true)), (1000, (.bi .add (.vr 1000) (.li 1))), (1019, (.lb true)), (1018, (.lb true)), (1017, (.lb true)), (1016, (.lb true)), (1015, (.lb true)), (1014, (.lb true)), (1020, (.lb true)), (1021, (.lb true)), (1022, (.lb true)), (1023, (.lb true)), (1024, (.lb true))] [])) (.go 0 [(1001, c2), (1002, c3), (1003, (.lb true)), (1000, (.bi .add (.vr 1000) (.li 1))), (1019, (.lb true)), (1018, (.lb true)), (1017, (.lb true)), (1016, (.lb true)), (1015, (.lb true)), (1020, (.lb true)), (1021, (.lb true)), (1022, (.lb true)), (1023, (.lb true))] [])) (.go 0 [(1001, c2), (1002, c3), (1003, (.lb true)), (1000, (.bi .add (.vr 1000) (.li 1))), (1019, (.lb true)), (1018, (.lb true)), (1017, (.lb true)), (1016, (.lb true)), (1020, (.lb true)), (1021, (.lb true)), (1022, (.lb true))] [])) (.go 0 [(1001, c2), (1002, c3), (1003, (.lb true)), (1000, (.bi .add (.vr 1000) (.li 1))), (1019, (.lb true)), (1018, (.lb true)), (1017, (.lb true)), (1020, (.lb true)), (1021, (.lb true))] [])) (.go 0 [(1001, c2), (1002, c3), (1003, (.lb true)), (1000, (.bi .add (.vr 1000) (.li 1))), (1019, (.lb true)), (1018, (.lb true)), (1020, (.lb true))] [])) (.go 0 [(1001, c2), (1002, c3), (1003, (.lb true)), (1000, (.bi .add (.vr 1000) (.li 1))), (1019, (.lb true))] []))) (.node (.bi .lt c4 (.li 0)) (.go 0 [(1000, (.bi .add (.vr 1000) (.li 1)))] []) (.node (.bi .lt c4 (.vr 2)) (.node (.vr 1003) (.node (.bi .lt c3 (.vr 1002)) (.go 0 [(1000, (.bi .add (.vr 1000) (.li 1))), (1019, c5), (1018, c6), (1017, c7), (1016, c8), (1015, c9), (1014, c10), (1013, c11), (1012, c12), (1011, c13), (1010, c14), (1009, c15), (1008, c16), (1007, c17), (1006, c18), (1005, c19), (1004, c20)] []) (.go 0 [(1000, (.bi .add (.vr 1000) (.li 1))), (1019, c5), (1018, c6), (1017, c7), (1016, c8), (1015, c9), (1014, c10), (1013, c11), (1012, c12), (1011, c13), (1010, c14), (1009, c15), (1008, c16), (1007, c17), (1006, c18), (1005, c19), (1004, c20)] [])) (.go 0 [(1000, (.bi .add (.vr 1000) (.li 1)))] [])) (.go 0 [(1000, (.bi .add (.vr 1000) (.li 1)))] [])))) (.node (.bi .lt (.vr 7) (.li 0)) .ret (.node (.bi .lt (.vr 7) (.vr 2)) (.node (.vr 1003) .ret .ret) .ret)))
def rp0 : List Nat := [0, 1, 0, 1, 1, 1, 1, 1]


def tree : DT := (.node (.bi .lt (.vr 0) (.li 1)) .leaf (.node (.bi .lt (.li 64) (.vr 0)) .leaf (.node (.bi .lt (.vr 2) (.li 1)) .leaf (.node (.bi .lt (.li 16) (.vr 2)) .leaf (.node (.bi .lt (.vr 3) (.li 0)) .leaf (.node (.bi .lt (.vr 3) (.vr 2)) .leaf .leaf))))))

def sh1 : Sh := [(24, 0), (25, 1), (3, 0)]
def sh2 : Sh := [(24, 0), (25, 2), (3, 0)]
def facts0 : Facts := consts0.join loopF0
def pts : List Pt := [⟨rp0, tm0, facts0, plan1⟩]

structure L (v : Nat → Sc) : Prop where
  i0 : 0 ≤ (v 1000).int
  i1 : (v 1000).int ≤ 9223372036854775807
  t0 : 0 ≤ (v 1002).int
  t1 : (v 1002).int ≤ 18446744073709551615

def Inv (j : Nat) (ρ : Env) : Prop := j = 0 ∧ consts0.ok ρ ∧ L ρ.v
def mu (_ : Nat) (ρ : Env) : Nat := (9223372036854775807 - (ρ.v 1000).int).toNat

theorem bnds2 : shB Try.prog sh2 0 = [((.vr 0), -9223372036854775808, 9223372036854775807), ((.vr 1), 0, 4294967295), ((.vr 2), -9223372036854775808, 9223372036854775807), ((.vr 5), 1, 9223372036854775807), ((.vr 6), 1, 9223372036854775807), ((.vr 7), -9223372036854775808, 9223372036854775807)] := by kernel_rfl
theorem rng5 : (E.vr 5).rng consts0 = (some 1, some 9223372036854775807) := by kernel_rfl

theorem facts_ok {ρ : Env} (hC : consts0.ok ρ) (h : L ρ.v) : facts0.ok ρ := by
  refine Facts.join_ok hC ⟨by simp [loopF0], fun p hp => ?_, by simp [loopF0], trivial⟩
  simp only [loopF0, List.mem_cons, List.not_mem_nil, or_false] at hp
  rcases hp with rfl | rfl
  · exact ⟨h.i0, h.i1⟩
  · exact ⟨h.t0, h.t1⟩

theorem c3_rng (ρ : Env) : 0 ≤ (c3.ev ρ).int ∧ (c3.ev ρ).int ≤ 18446744073709551615 := by
  have := wrap_rng .u64 (((E.bi .cell (.vr 4) (.bi .add (.bi .mul (.vr 1000) (.li 4)) (.li 1))).ev ρ).int)
  exact this

theorem S_upd {σ : List (Nat × E)} (hσ : (σ.all fun p => decide (1000 ≤ p.1)) = true) (ρ : Env) (h : S ρ) : S (ρ.upd (T.ofList σ)) := by
  have e : ∀ n, n < 1000 → (ρ.upd (T.ofList σ)).v n = ρ.v n := fun n hn => under_upd hσ ρ (e := .vr n) (by simp only [E.under, decide_eq_true_eq]; exact hn)
  unfold S
  rw [e 900 (by omega), e 4 (by omega), e 5 (by omega)]
  exact h

theorem fit1 (ρ : Env) (h : Inv 0 ρ) : plan1.Fit oblT (fun j' ρ' => Inv j' ρ' ∧ mu j' ρ' < mu 0 ρ) ρ := by
  obtain ⟨_, hC, hL⟩ := h
  have h5 := rng_of hC rng5
  have hc3 := c3_rng ρ
  have hU : ∀ σ : List (Nat × E), (σ.all fun p => decide (1000 ≤ p.1)) = true → consts0.ok (ρ.upd (T.ofList σ)) := fun σ hσ => Facts.ok_upd hC (N := 1000) (by kernel_rfl) hσ (S_upd hσ ρ)
  clear hC
  obtain ⟨i0, i1, t0, t1⟩ := hL
  simp only [ev_vr] at h5
  simp only [plan1, PL.Fit, oblT, Inv, ev_vr, ev_li, ev_lb, ev_add, ev_lt, ev_ltf, ev_eqi, ev_eqif, ev_eqb, ev_eqbf]
  repeat' first | refine ⟨fun _ => ?_, fun _ => ?_⟩ | exact True.intro | exact rfl
  all_goals refine ⟨⟨by first | exact True.intro | rfl, hU _ (by decide), ⟨?_, ?_, ?_, ?_⟩⟩, ?_⟩
  all_goals simp only [mu, upd_cons, upd_nil, reduceIte, Nat.reduceEqDiff, ev_vr, ev_li, ev_lb, ev_add, ev_lt, ev_ltf, ev_eqi, ev_eqif, ev_eqb, ev_eqbf]
  all_goals omega

theorem fit0 (ρ : Env) (hS : S ρ) (hb : ∀ p ∈ shB Try.prog sh2 0, p.2.1 ≤ (p.1.ev ρ).int ∧ (p.1.ev ρ).int ≤ p.2.2) : plan0.Fit oblT Inv ρ := by
  rw [bnds2] at hb
  simp only [List.forall_mem_cons, List.not_mem_nil, false_implies, implies_true, and_true, ev_vr, ev_li, ev_lb, ev_add, ev_lt, ev_ltf, ev_eqi, ev_eqif, ev_eqb, ev_eqbf] at hb
  simp only [plan0, PL.Fit, oblT, Inv, ev_vr, ev_li, ev_lb, ev_add, ev_lt, ev_ltf, ev_eqi, ev_eqif, ev_eqb, ev_eqbf]
  repeat' first | refine ⟨fun _ => ?_, fun _ => ?_⟩ | exact True.intro | exact rfl
  refine ⟨by first | exact True.intro | rfl, Facts.ok_upd (N := 1000) ?_ (by kernel_rfl) (by decide) (S_upd (by decide) ρ), ⟨?_, ?_, ?_, ?_⟩⟩
  · refine Facts.ok_iff.2 ⟨?_, ?_, by simp [consts0], hS⟩
    · simp only [consts0, List.forall_mem_cons, List.not_mem_nil, false_implies, implies_true, and_true, ev_vr, ev_li, ev_lb, ev_add, ev_lt, ev_ltf, ev_eqi, ev_eqif, ev_eqb, ev_eqbf]
      and_intros <;> first | assumption | omega
    · simp only [consts0, List.forall_mem_cons, List.not_mem_nil, false_implies, implies_true, and_true, ev_vr, ev_li, ev_lb, ev_add, ev_lt, ev_ltf, ev_eqi, ev_eqif, ev_eqb, ev_eqbf]
      omega
  all_goals simp only [upd_cons, upd_nil, reduceIte, Nat.reduceEqDiff, ev_vr, ev_li, ev_lb, ev_add, ev_lt, ev_ltf, ev_eqi, ev_eqif, ev_eqb, ev_eqbf]
  all_goals omega

theorem tree_fit (ρ : Env) : tree.Fit ρ := by
  simp only [tree, DT.Fit]
  repeat' first | refine ⟨fun _ => ?_, fun _ => ?_⟩ | exact True.intro

theorem run1 : DT.run Try.prog (fun _ => Γ0) 1000 50 3 (shDV Try.prog sh1 0 0) (T.ofList (shH Try.prog sh1 0 0)) (shN sh1) goodTrue { bnds := shB Try.prog sh1 0 } tree = true := by kernel_rfl
noncomputable def root : Code := (Try.f3.body).getD .skip
theorem run2 : PL.run (seg Try.prog (fun _ => Γf) 1000 50 (pts.map (·.rp)) (.code root []) [] ⟨argsT 0 (shDV Try.prog sh2 0 0), T.ofList (shH Try.prog sh2 0 0), shN sh2, Try.f3.ntmps⟩) (finTrue Try.prog Try.f3) pts { bnds := shB Try.prog sh2 0, sem := S } plan0 = true := by kernel_rfl
theorem run3 : ptOk Try.prog (fun _ => Γf) 1000 50 root Try.f3 pts ⟨rp0, tm0, facts0, plan1⟩ = true := by kernel_rfl

theorem own : ownKnob Try.prog.godebug = none := by kernel_rfl
theorem laidOut : laidOutB Try.prog = true := by kernel_rfl
theorem shapes : allSh Try.prog Try.f3.params.toList = [sh1, sh2] := by kernel_rfl

theorem law1 : LawS Try.prog 3 sh1 := (law_cases run1 fun ρ _ => tree_fit ρ).toS
theorem law2 : LawS Try.prog 3 sh2 := by
  refine law_points (root := root) (pts := pts) (Γ := fun _ => Γf) Try.func3 (by kernel_rfl) (of_decide_eq_true (by kernel_rfl)) Γf_ok S_ex (fun p hp => ?_) (fun p hp => ?_) run2 Inv mu (fun j p ρ hp h => ?_) fit0
  · obtain rfl := List.mem_singleton.1 hp; rfl
  · obtain rfl := List.mem_singleton.1 hp; exact run3
  · have hj := h.1
    subst hj
    cases hp
    exact ⟨facts_ok h.2.1 h.2.2, fit1 ρ h⟩

theorem lifted (os : Os) (started : os.Started) (H : Type) (enc : TypeId × Value → H) :
    ReturnsInHanded {} Try.checked os 3 .any (Rows.sampleLatestSpec.pre6 enc Try.prog Try.f3 Rows.sampleLatestRow.domain false) (Rows.sampleLatestSpec.post enc Try.prog Try.f3 false true false false) := by
  have h := lifted_shapes (C := Try.checked) (s := Rows.sampleLatestSpec) (conds := Rows.sampleLatestRow.domain) (apart := false) (enc := enc) own laidOut started (f := 3) (fn := Try.f3) (by kernel_rfl) Try.func3
    (ChangeSpec.witness6 (enc := enc) (C := Try.checked) false ⟨#[], #[.agg #[.int .i64 0, .int .u32 0, .int .i64 0], .slice none 0 0, .int .i64 0], []⟩ 8 (by kernel_rfl) (by kernel_rfl) (by kernel_rfl) (by kernel_rfl))
    (by kernel_rfl) rfl Try.underlying4 rfl ?_ (by kernel_rfl) ?_
  · exact h
  · intro ds hl; rcases ds with _ | ⟨a, _ | ⟨b, _ | ⟨c, _ | ⟨d, ds⟩⟩⟩⟩ <;> first | rfl | cases hl
  · intro sh hsh
    change sh ∈ allSh Try.prog Try.f3.params.toList at hsh
    rw [shapes] at hsh
    rcases List.mem_cons.1 hsh with rfl | hsh
    · exact law1
    · obtain rfl := List.mem_singleton.1 hsh
      exact law2

theorem over : Rows.sampleLatestRow.holds Try.pinned (OpenSpec.ofChange Rows.sampleLatestSpec) :=
  OpenClaim.holds_of_wide 3 Try.f3 rfl rfl rfl rfl rfl rfl rfl ⟨rfl, rfl, rfl, rfl, rfl⟩ rfl rfl rfl rfl rfl (by kernel_rfl) Try.func3 (by kernel_rfl)
    (of_decide_eq_true (by kernel_rfl)) (by unfold Func.isWrapper; first | (rw [if_pos (by decide +kernel)]; kernel_rfl) | (rw [if_neg (by decide +kernel)]; exact ⟨rfl, rfl⟩))
    (fun os started H enc _ => lifted os started H enc)

theorem sampleLatest_holds : Rows.SampleLatestSaid := over
#print axioms sampleLatest_holds
end Go.Proofs.Ytlefdfcknddaaaa.SampleLatestDone
