/- What codec.Sum makes of a string: its bytes, one behind the other, to the base 31. No condition. -/
import Derived.Test.YtcebboibpbbgdaaGreatDoorProg
import Derived.Test.YtcebboibpbbgdaaGreatDoorEngG15
namespace Go.Proofs.YtcebboibpbbgdaaGreatDoor.Sum
open Go.Eng Go.RowKit

def step (n : Nat) (b : UInt8) : Nat := (31 * n + b.toNat) % 4294967296
def sumN (s : ByteArray) : Nat := s.data.toList.foldl step 1
def sumC : CallD := fun _ xs h n => match xs with
  | [.str (.ls s)] => if s.size < 1000000 then some ⟨.int .u32 (.li (sumN s : Nat)), h, n⟩ else none
  | _ => none

def tm0 : Tm := { tmps := [(0, .str (.vr 0)), (2, .int .u32 (.li 0)), (3, .int .u32 (.vr 1000)), (6, .int .i64 (.un .len (.vr 0))), (7, .int .i64 (.vr 1001))], heap := [], next := 0, sz := 19 }
def newN : E := .un (.wrap .u32) (.bi .add (.un (.wrap .u32) (.bi .mul (.vr 1000) (.li 31))) (.bi .at (.vr 0) (.vr 1001)))
def newI : E := .un (.wrap .i64) (.bi .add (.vr 1001) (.li 1))
def plan1 : PL := .node (.bi .lt (.vr 1001) (.un .len (.vr 0))) (.node (.bi .lt (.vr 1001) (.li 0)) .absurd (.go 0 [(1000, newN), (1001, newI)] [])) (.retd (.int .u32 (.vr 1000)))
def pt0 : Pt := { rp := [0, 1, 0, 1, 1], tm := tm0, facts := { bnds := [((.vr 1001), -9223372036854775808, 9223372036854775807), ((.vr 1000), 0, 4294967295)] }, plan := plan1 }
def pts : List Pt := [pt0]
def plan0 : PL := .go 0 [(1000, (.li 1)), (1001, (.li 0))] []
noncomputable def root : Code := (Tryz.f140.body).getD .skip
theorem runP : ptOk Tryz.prog (fun _ => Γ0) 1000 50 root Tryz.f140 pts pt0 = true := by kernel_rfl
theorem runE : PL.run (seg Tryz.prog (fun _ => Γ0) 1000 50 (pts.map (·.rp)) (.code root []) [] ⟨argsT 0 [.str (.vr 0)], .nil, 0, Tryz.f140.ntmps, []⟩) (finTrue Tryz.prog Tryz.f140) pts {} plan0 = true := by kernel_rfl

/-- At the loop's head: so many bytes are summed. -/
structure Inv (s : ByteArray) (ρ : Env) : Prop where
  s0 : (ρ.v 0).str = s
  i0 : 0 ≤ (ρ.v 1001).int
  i1 : (ρ.v 1001).int ≤ s.size
  n0 : (ρ.v 1000).int = (((s.data.toList.take (ρ.v 1001).int.toNat).foldl step 1 : Nat) : Int)

theorem foldl_lt : ∀ (l : List UInt8) (n : Nat), n < 4294967296 → l.foldl step n < 4294967296
  | [], n, h => h
  | b :: l, n, h => foldl_lt l _ (by unfold step; omega)

theorem sum_calls (s : ByteArray) (hs : s.size < 9223372036854775807) (w : World) : Calls Tryz.prog 140 #[.string s] w fun e w' => e = .returned (.int .u32 (sumN s : Nat)) ∧ Below w.heap.size w w' := by
  refine (calls_by_points (S := fun _ => True) (Γ := fun _ => Γ0) (loops := 1000) (depth := 50) (fun _ _ => Γ0_ok) Tryz.func140 (fn := Tryz.f140) (root := root) (by kernel_rfl) (by decide +kernel) (pts := pts) (fun p hp => by rw [List.mem_singleton.1 hp]; rfl)
    (by intro p hp; rw [List.mem_singleton.1 hp]; exact runP) (F0 := {}) rfl runE (fun d ρ' => ∀ m v, d.R m ρ' v → v = .int .u32 (sumN s : Nat)) (fun _ ρ => Inv s ρ) (fun _ ρ => s.size - (ρ.v 1001).int.toNat)
    (fun j p ρ hp h => ?_) (ρ := { v := fun _ => .S s }) ⟨(fun q hq => nomatch hq), (fun q hq => nomatch hq), (fun q hq => nomatch hq), trivial⟩ ?_ (m := m0) ?_ (heap_nil _ w) (fun _ _ => rfl)).mono fun e w' he => ?_
  · have ej : j = 0 := by
      have h1 : j < 1 := (List.getElem?_eq_some_iff.1 hp).1
      omega
    subst ej
    have e : pt0 = p := Option.some.inj hp
    subst e
    have hsz : s.data.toList.length = s.size := Array.length_toList
    have hlt := foldl_lt (s.data.toList.take (ρ.v 1001).int.toNat) 1 (by omega)
    have h1 := h.i0; have h2 := h.i1; have h3 := h.n0
    have hbnd : ∀ q ∈ pt0.facts.bnds, q.2.1 ≤ (q.1.ev ρ).int ∧ (q.1.ev ρ).int ≤ q.2.2 := by
      intro q hq
      rcases List.mem_cons.1 hq with rfl | hq
      · show (-9223372036854775808 : Int) ≤ (ρ.v 1001).int ∧ (ρ.v 1001).int ≤ 9223372036854775807
        omega
      · obtain rfl := List.mem_singleton.1 hq
        show (0 : Int) ≤ (ρ.v 1000).int ∧ (ρ.v 1000).int ≤ 4294967295
        omega
    refine ⟨⟨(fun q hq => nomatch hq), hbnd, (fun q hq => nomatch hq), trivial⟩, ?_⟩
    show plan1.Fit _ _ ρ
    simp only [plan1, PL.Fit]
    have hlen : ((E.bi .lt (.vr 1001) (.un .len (.vr 0))).ev ρ).bool = decide ((ρ.v 1001).int < s.size) := by simp only [E.ev, B2.ev, U.ev, Sc.bool_B, Sc.int_I, h.s0]
    refine ⟨fun hb => ⟨fun hn => ?_, fun _ => ?_⟩, fun hb => ?_⟩
    · have : decide ((ρ.v 1001).int < 0) = true := hn
      simp at this; omega
    · rw [hlen] at hb
      simp only [decide_eq_true_eq] at hb
      have hI : (newI.ev ρ).int = (ρ.v 1001).int + 1 := by simp only [newI, E.ev, U.ev, B2.ev, Sc.int_I]; rw [wrap_i64]; omega
      have hk : (ρ.v 1001).int.toNat < s.data.toList.length := by omega
      have hN : (newN.ev ρ).int = ((step ((s.data.toList.take (ρ.v 1001).int.toNat).foldl step 1) (s.data.toList[(ρ.v 1001).int.toNat]) : Nat) : Int) := by
        have hb2 : byteAt s (ρ.v 1001).int = ((s.data.toList[(ρ.v 1001).int.toNat]).toNat : Int) := by
          unfold byteAt
          rw [List.getD_eq_getElem?_getD, List.getElem?_eq_getElem hk]; rfl
        simp only [newN, E.ev, U.ev, B2.ev, Sc.int_I, h.s0, hb2, h3, wrap_u32, step]
        omega
      have v0 : (ρ.upd (T.ofList [(1000, newN), (1001, newI)])).v 0 = ρ.v 0 := by rw [upd_cons, if_neg (by decide), upd_cons, if_neg (by decide), upd_nil]
      have v1 : (ρ.upd (T.ofList [(1000, newN), (1001, newI)])).v 1001 = newI.ev ρ := by rw [upd_cons, if_neg (by decide), upd_cons, if_pos rfl]
      have v2 : (ρ.upd (T.ofList [(1000, newN), (1001, newI)])).v 1000 = newN.ev ρ := by rw [upd_cons, if_pos rfl]
      refine ⟨⟨by rw [v0]; exact h.s0, by rw [v1, hI]; omega, by rw [v1, hI]; omega, ?_⟩, by rw [v1, hI]; omega⟩
      rw [v1, v2, hN, hI, show ((ρ.v 1001).int + 1).toNat = (ρ.v 1001).int.toNat + 1 by omega, List.take_succ_eq_append_getElem hk, List.foldl_append]
      rfl
    · rw [hlen] at hb
      simp only [decide_eq_false_iff_not] at hb
      intro m v hv
      simp only [DV.R, E.ev] at hv
      rw [hv, h3, List.take_of_length_le (by omega)]
      rfl
  · simp only [plan0, PL.Fit]
    have v0 : ∀ ρ : Env, (ρ.upd (T.ofList [(1000, E.li 1), (1001, E.li 0)])).v 0 = ρ.v 0 := fun ρ => by rw [upd_cons, if_neg (by decide), upd_cons, if_neg (by decide), upd_nil]
    have v1 : ∀ ρ : Env, (ρ.upd (T.ofList [(1000, E.li 1), (1001, E.li 0)])).v 1001 = .I 0 := fun ρ => by rw [upd_cons, if_neg (by decide), upd_cons, if_pos rfl]; rfl
    have v2 : ∀ ρ : Env, (ρ.upd (T.ofList [(1000, E.li 1), (1001, E.li 0)])).v 1000 = .I 1 := fun ρ => by rw [upd_cons, if_pos rfl]; rfl
    exact ⟨by rw [v0]; rfl, by rw [v1]; exact Int.le_refl _, by rw [v1]; exact Int.natCast_nonneg _, by rw [v1, v2]; rfl⟩
  · simp only [DV.RL, DV.R, E.ev, Sc.str_S]
    exact ⟨_, _, rfl, rfl, rfl⟩
  · obtain ⟨v, d, ρ', m', h', he, hd, ho, _, hb⟩ := he
    exact ⟨by rw [he, ho m' v hd], hb.below fun b ⟨id, B, hB, _⟩ => by simp at hB⟩

theorem sumC_ok {F : Facts} : CallCOk Tryz.prog F 140 sumC := by
  intro args h n r hr ρ hF m w vs hvs hH hn
  unfold sumC at hr
  split at hr
  · rename_i s
    split at hr
    · rename_i hs
      cases hr
      simp only [DV.RL, DV.R, E.ev, Sc.str_S] at hvs
      obtain ⟨v, vr, h1, rfl, rfl⟩ := hvs
      have e : vs = #[.string s] := Array.toList_inj.1 (by simpa using h1)
      subst e
      exact (sum_calls s (by omega) w).mono fun e w' ⟨he, hb⟩ => ⟨_, m, he, by simp only [DV.R, E.ev, Sc.int_I], heap_below hH hb, trans_below hb, hn⟩
    · cases hr
  · cases hr
end Go.Proofs.YtcebboibpbbgdaaGreatDoor.Sum
