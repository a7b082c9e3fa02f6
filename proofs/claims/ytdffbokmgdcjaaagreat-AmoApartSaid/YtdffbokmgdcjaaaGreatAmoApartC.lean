/- The law AmoApart of the layer amo: whatever two numbers and high words it is called with, it returns true. No condition. -/
import Derived.Test.YtdffbokmgdcjaaaGreatAmoApartRunC
import Derived.Test.YtdffbokmgdcjaaaGreatRows
namespace Go.Proofs.YtdffbokmgdcjaaaGreat.AmoApartDone
open Go.Eng Go.RowKit Go.ChangeShapes Go.WideShapes Go.ChangeAt

theorem Γw_ok (F : Facts) : ΓOk Tryz.prog F Γw := by
  intro f c hc
  unfold Γw Γ1 at hc
  split at hc
  · rename_i e
    cases hc
    subst e
    refine fun args h n r hr => readC_ok (fun ρ _ m w vs hvs hH hf => ?_) 11 args h n r hr
    refine (law_cases workRun (fun _ _ => trivial) (ρ.upd (T.ofList [])) (m.pull id 0) w vs (by intro p hp; simp [shB] at hp) (by simpa [shDV] using hvs) (by simpa [shH] using hH) (fun id hid => hf id (Nat.zero_le _))).mono fun e w' ⟨he, hb⟩ => ⟨_, he, ?_, hb⟩
    simp only [DV.R, E.ev, Sc.bool_B]
  · cases hc

section
variable {ρ : Env} {a b c d : Nat}

set_option maxHeartbeats 2000000 in
theorem e0_t (ha : a < 18446744073709551616) (hb : b < 18446744073709551616) (hc : c < 4294967296) (hd : d < 4294967296) (h0 : (ρ.v 0).int = a) (h1 : (ρ.v 1).int = b) (h2 : (ρ.v 2).int = c) (h3 : (ρ.v 3).int = d) (obl : Nat → Env → Prop) : plan0.Fit oblT obl ρ := by
  have la := bits_low a ha
  have lb := bits_low b hb
  have oa := bits_over c (a % 4294967296) hc (by omega)
  have ob := bits_over d (b % 4294967296) hd (by omega)
  have wa : IntKind.u32.wrap ((c * 4294967296 + a % 4294967296 : Nat) : Int) = ((a % 4294967296 : Nat) : Int) := by rw [wrap_u32]; omega
  have wb : IntKind.u32.wrap ((d * 4294967296 + b % 4294967296 : Nat) : Int) = ((b % 4294967296 : Nat) : Int) := by rw [wrap_u32]; omega
  have wa' : IntKind.u32.wrap (a : Int) = ((a % 4294967296 : Nat) : Int) := by rw [wrap_u32]; omega
  have wb' : IntKind.u32.wrap (b : Int) = ((b % 4294967296 : Nat) : Int) := by rw [wrap_u32]; omega
  have ia : IntKind.i32.wrap ((c * 4294967296 + a % 4294967296 : Nat) : Int) = IntKind.i32.wrap (a : Int) := by rw [wrap_i32, wrap_i32]; omega
  have ib : IntKind.i32.wrap ((d * 4294967296 + b % 4294967296 : Nat) : Int) = IntKind.i32.wrap (b : Int) := by rw [wrap_i32, wrap_i32]; omega
  have am : a % 4294967296 < 4294967296 := Nat.mod_lt _ (by omega)
  have bm : b % 4294967296 < 4294967296 := Nat.mod_lt _ (by omega)
  have hIU : ∀ x : Int, -9223372036854775808 ≤ x → x ≤ 9223372036854775807 → IntKind.i64.wrap (IntKind.u64.wrap x) = x := wrap_iu
  have na : (0 : Int) ≤ a ∧ (a : Int) < 18446744073709551616 := by omega
  have nb : (0 : Int) ≤ b ∧ (b : Int) < 18446744073709551616 := by omega
  have hUa : IntKind.u64.wrap (IntKind.i64.wrap (a : Int)) = a := wrap_ui _ na.1 na.2
  have hUb : IntKind.u64.wrap (IntKind.i64.wrap (b : Int)) = b := wrap_ui _ nb.1 nb.2
  have pr : -9223372036854775808 ≤ IntKind.i64.wrap (a : Int) ∧ IntKind.i64.wrap (a : Int) ≤ 9223372036854775807 := wrap_i64_rng _
  have qr : -9223372036854775808 ≤ IntKind.i64.wrap (b : Int) ∧ IntKind.i64.wrap (b : Int) ≤ 9223372036854775807 := wrap_i64_rng _
  have m1 : IntKind.i64.wrap (IntKind.u64.wrap (if IntKind.i64.wrap (b : Int) < IntKind.i64.wrap (a : Int) then IntKind.i64.wrap (b : Int) else IntKind.i64.wrap (a : Int))) = if IntKind.i64.wrap (b : Int) < IntKind.i64.wrap (a : Int) then IntKind.i64.wrap (b : Int) else IntKind.i64.wrap (a : Int) := hIU _ (by split <;> omega) (by split <;> omega)
  have m2 : IntKind.i64.wrap (IntKind.u64.wrap (if IntKind.i64.wrap (a : Int) < IntKind.i64.wrap (b : Int) then IntKind.i64.wrap (b : Int) else IntKind.i64.wrap (a : Int))) = if IntKind.i64.wrap (a : Int) < IntKind.i64.wrap (b : Int) then IntKind.i64.wrap (b : Int) else IntKind.i64.wrap (a : Int) := hIU _ (by split <;> omega) (by split <;> omega)
  have u1 : IntKind.u64.wrap (if IntKind.i64.wrap (b : Int) < IntKind.i64.wrap (a : Int) then IntKind.i64.wrap (b : Int) else IntKind.i64.wrap (a : Int)) = if IntKind.i64.wrap (b : Int) < IntKind.i64.wrap (a : Int) then (b : Int) else (a : Int) := by split; exact hUb; exact hUa
  have u2 : IntKind.u64.wrap (if IntKind.i64.wrap (a : Int) < IntKind.i64.wrap (b : Int) then IntKind.i64.wrap (b : Int) else IntKind.i64.wrap (a : Int)) = if IntKind.i64.wrap (a : Int) < IntKind.i64.wrap (b : Int) then (b : Int) else (a : Int) := by split; exact hUb; exact hUa
  have hpq : IntKind.i64.wrap (a : Int) = IntKind.i64.wrap (b : Int) → (a : Int) = b := fun e => by rw [← hUa, ← hUb, e]
  have hpq' : (a : Int) = b → IntKind.i64.wrap (a : Int) = IntKind.i64.wrap (b : Int) := fun e => by rw [e]
  have xa : a &&& b < 18446744073709551616 := Nat.lt_of_le_of_lt Nat.and_le_left ha
  have xo : a ||| b < 18446744073709551616 := Nat.or_lt_two_pow (n := 64) ha hb
  have xx : a ^^^ b < 18446744073709551616 := Nat.xor_lt_two_pow (n := 64) ha hb
  have ma := Nat.and_mod_two_pow (a := a) (b := b) (n := 32)
  have mo := Nat.or_mod_two_pow (a := a) (b := b) (n := 32)
  have mx := Nat.xor_mod_two_pow (a := a) (b := b) (n := 32)
  simp only [show (2 : Nat) ^ 32 = 4294967296 from rfl] at ma mo mx
  simp only [plan0, PL.Fit]
  refine ⟨?_, ?_, ?_, ?_, ?_, ?_, ?_, ?_, ?_, ?_, ?_, ?_, ?_, ?_, ?_, ?_, ?_, ?_, ?_, ?_, ?_, ?_⟩
  · simp only [e0, ev_eqi, ev_vr, ev_li, ev_mul, ev_wrap, ev_bits, h1, h3, lb, ob, wb, wb']
  · simp only [e1, ev_eqi, ev_vr, ev_li, ev_wrap, ev_bits, h1, lb, wb']
  · simp only [e2, ev_eqi, ev_vr, ev_li, ev_add, ev_mul, ev_wrap, ev_bits, h0, h1, h2, h3, la, lb, oa, ob, wa, wb, wa', wb']
  · simp only [e3, ev_eqi, ev_vr, ev_li, ev_add, ev_wrap, ev_bits, h0, h1, wa', wb']
    rw [show IntKind.u64.wrap ((a : Int) + b) = (((a + b) % 18446744073709551616 : Nat) : Int) by rw [wrap_u64]; omega, bits_low _ (by omega), wrap_u32]
    omega
  · simp only [e4, ev_eqi, ev_vr, ev_li, ev_mul, ev_wrap, ev_bits, h0, h1, h2, h3, la, lb, oa, ob, wa, wb, wa', wb']
  · simp only [e5, ev_eqi, ev_vr, ev_li, ev_wrap, ev_bits, h0, h1, wa', wb']
    rw [bits_xor32 _ _ am bm, bits_xor64 _ _ ha hb, bits_low _ xx, wrap_u64, wrap_u32, mx]
    have := Nat.xor_lt_two_pow (n := 32) am bm
    omega
  · simp only [e6, ev_eqi, ev_vr, ev_bits, h0, h1]
    rw [bits_xor64 _ _ ha hb, bits_xor64 _ _ xx hb, Nat.xor_assoc, Nat.xor_self, Nat.xor_zero]
  · simp only [e7, ev_eqi, ev_vr, ev_li, ev_mul, ev_wrap, ev_bits, h0, h1, h2, h3, la, lb, oa, ob, wa, wb, wa', wb']
  · simp only [e8, ev_eqi, ev_vr, ev_li, ev_wrap, ev_bits, h0, h1, wa', wb']
    rw [bits_and32 _ _ am bm, bits_and64 _ _ ha hb, bits_low _ xa, wrap_u64, wrap_u32, ma]
    have := Nat.lt_of_le_of_lt (Nat.and_le_left (n := a % 4294967296) (m := b % 4294967296)) am
    omega
  · simp only [e9, ev_eqi, ev_vr, ev_bits, h0, h1]
    rw [bits_and64 _ _ ha hb, bits_and64 _ _ xa hb, Nat.and_assoc, Nat.and_self]
  · simp only [e10, ev_eqi, ev_vr, ev_li, ev_mul, ev_wrap, ev_bits, h0, h1, h2, h3, la, lb, oa, ob, wa, wb, wa', wb']
  · simp only [e11, ev_eqi, ev_vr, ev_li, ev_wrap, ev_bits, h0, h1, wa', wb']
    rw [bits_or32 _ _ am bm, bits_or64 _ _ ha hb, bits_low _ xo, wrap_u64, wrap_u32, mo]
    have := Nat.or_lt_two_pow (n := 32) am bm
    omega
  · simp only [e12, ev_eqi, ev_vr, ev_bits, h0, h1]
    rw [bits_or64 _ _ ha hb, bits_or64 _ _ xo hb, Nat.or_assoc, Nat.or_self]
  · simp only [e13, ev_eqi, ev_lt, ev_vr, ev_li, ev_mul, ev_wrap, ev_bits, ev_ite, ite_int, h0, h1, h2, h3, la, lb, oa, ob, ia, ib]
  · simp only [e14, ev_eqi, ev_lt, ev_vr, ev_wrap, ev_ite, ite_int, h0, h1, m1]
    congr 1
    by_cases h : IntKind.i64.wrap (b : Int) < IntKind.i64.wrap (a : Int) <;> simp [h]
  · simp only [e15, ev_eqi, ev_lt, ev_vr, ev_li, ev_mul, ev_wrap, ev_bits, ev_ite, ite_int, h0, h1, h2, h3, la, lb, oa, ob, ia, ib]
  · simp only [e16, ev_eqi, ev_lt, ev_vr, ev_wrap, ev_ite, ite_int, h0, h1, m2]
    congr 1
    by_cases h : IntKind.i64.wrap (a : Int) < IntKind.i64.wrap (b : Int) <;> simp [h]
  · simp only [e17, ev_eqi, ev_lt, ev_vr, ev_li, ev_mul, ev_wrap, ev_bits, ev_ite, ite_int, h0, h1, h2, h3, la, lb, oa, ob, wa, wb, wa', wb']
  · simp only [e18, ev_eqi, ev_lt, ev_vr, ev_ite, ite_int, h0, h1]
    by_cases h : (b : Int) < a <;> simp [h]
  · simp only [e19, ev_eqi, ev_lt, ev_vr, ev_li, ev_mul, ev_wrap, ev_bits, ev_ite, ite_int, h0, h1, h2, h3, la, lb, oa, ob, wa, wb, wa', wb']
  · simp only [e20, ev_eqi, ev_lt, ev_vr, ev_ite, ite_int, h0, h1]
    by_cases h : (a : Int) < b <;> simp [h]
  · simp only [last, PL.Fit, oblT, ev_eqi, ev_eqif, ev_lt, ev_ltf, ev_vr, ev_li, ev_add, ev_sub, ev_wrap, ev_ite, ite_int, ev_lb, h0, h1, m1, m2]
    simp only [u1, u2]
    have back := wrap_back (a : Int) b na.1 na.2
    simp only [back]
    generalize IntKind.i64.wrap (a : Int) = p at *
    generalize IntKind.i64.wrap (b : Int) = q at *
    have key : ((a : Int) = b ∧ p = q) ∨ ((a : Int) ≠ b ∧ p ≠ q) := by
      by_cases e : (a : Int) = b
      · exact .inl ⟨e, hpq' e⟩
      · exact .inr ⟨e, fun h => e (hpq h)⟩
    clear hpq hpq' u1 u2 m1 m2 hUa hUb ma mo mx xa xo xx ia ib wa wb wa' wb' la lb oa ob back
    rcases key with ⟨e, e2⟩ | ⟨e, e2⟩ <;> by_cases c1 : q < p <;> by_cases c2 : p < q <;> by_cases c3 : (b : Int) < a <;> by_cases c4 : (a : Int) < b <;> (first | (exfalso; omega) | skip) <;>
      simp only [c1, c2, c3, c4, if_true, if_false] <;>
      (repeat' first | exact True.intro | exact rfl | omega | refine ⟨fun _ => ?_, fun _ => ?_⟩ | refine ⟨?_, ?_⟩)
end

theorem own : ownKnob Tryz.prog.godebug = none := by kernel_rfl
theorem laidOut : laidOutB Tryz.prog = true := by kernel_rfl
theorem shapes : allSh Tryz.prog Tryz.f4.params.toList = [sh0] := by kernel_rfl
theorem bnds0 : shB Tryz.prog sh0 0 = [((.vr 0), 0, 18446744073709551615), ((.vr 1), 0, 18446744073709551615), ((.vr 2), 0, 4294967295), ((.vr 3), 0, 4294967295)] := by kernel_rfl

theorem law1 : LawS Tryz.prog 4 sh0 := by
  refine law_points (root := root) (pts := []) (Γ := fun _ => Γw) (S := fun _ => True) Tryz.func4 (by kernel_rfl) (of_decide_eq_true (by kernel_rfl)) (fun F _ => Γw_ok F) (fun _ => ⟨fun _ => .I 0, trivial⟩) (fun p hp => by cases hp) (fun p hp => by cases hp) run0
    (fun _ _ => False) (fun _ _ => 0) (fun j p ρ hp _ => by cases hp) fun ρ _ hb => ?_
  rw [bnds0] at hb
  simp only [List.forall_mem_cons, List.not_mem_nil, false_implies, implies_true, and_true, ev_vr] at hb
  obtain ⟨b0, b1, b2, b3⟩ := hb
  exact e0_t (a := (ρ.v 0).int.toNat) (b := (ρ.v 1).int.toNat) (c := (ρ.v 2).int.toNat) (d := (ρ.v 3).int.toNat) (by omega) (by omega) (by omega) (by omega) (by omega) (by omega) (by omega) (by omega) _

theorem lifted (os : Os) (started : os.Started) (H : Type) (enc : TypeId × Value → H) :
    ReturnsInHanded {} Tryz.checked os 4 .any (Rows.amoApartSpec.pre6 enc Tryz.prog Tryz.f4 Rows.amoApartRow.domain false) (Rows.amoApartSpec.post enc Tryz.prog Tryz.f4 false true false false) :=
  lifted_shapes (C := Tryz.checked) (s := Rows.amoApartSpec) (conds := Rows.amoApartRow.domain) (apart := false) (enc := enc) own laidOut started (f := 4) (fn := Tryz.f4) (by kernel_rfl) Tryz.func4
    (ChangeSpec.witness6 (enc := enc) (C := Tryz.checked) false ⟨#[], #[.int .u64 0, .int .u64 0, .agg #[.int .u32 0, .int .u32 0]], []⟩ 8 (by kernel_rfl) (by kernel_rfl) (by kernel_rfl) (by kernel_rfl))
    (by kernel_rfl) rfl Tryz.underlying4 rfl (fun ds hl => by rcases ds with _ | ⟨a, _ | ⟨b, _ | ⟨c, _ | ⟨d, ds⟩⟩⟩⟩ <;> first | rfl | cases hl) (by kernel_rfl) (fun sh hsh => by
      change sh ∈ allSh Tryz.prog Tryz.f4.params.toList at hsh
      rw [shapes] at hsh
      obtain rfl := List.mem_singleton.1 hsh
      exact law1)

theorem law_holds : Rows.AmoApartSaid :=
  OpenClaim.holds_of_wide 4 Tryz.f4 rfl rfl rfl rfl rfl rfl rfl ⟨rfl, rfl, rfl, rfl, rfl⟩ rfl rfl rfl rfl rfl (by kernel_rfl) Tryz.func4 (by kernel_rfl)
    (of_decide_eq_true (by kernel_rfl)) (by unfold Func.isWrapper; first | (rw [if_pos (by decide +kernel)]; kernel_rfl) | (rw [if_neg (by decide +kernel)]; exact ⟨rfl, rfl⟩))
    (fun os started H enc _ => lifted os started H enc)
#print axioms law_holds
end Go.Proofs.YtdffbokmgdcjaaaGreat.AmoApartDone
