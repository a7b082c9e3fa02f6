/- The law AmoMakes of the layer amo: whatever operation and two numbers it is called with, it returns true. No condition. -/
import Derived.Test.YtdffbokmgdcjaaaGreatAmoMakesFitTC
import Derived.Test.YtdffbokmgdcjaaaGreatRows
namespace Go.Proofs.YtdffbokmgdcjaaaGreat.AmoMakesDone
open Go.Eng Go.RowKit Go.ChangeShapes Go.WideShapes Go.ChangeAt

theorem Γm_ok (F : Facts) : ΓOk Tryz.prog F (Γm F) := by
  intro f c hc
  unfold Γm at hc
  split at hc
  · rename_i e
    cases hc; subst e
    exact fun args h n r hr => pureC_ok call7 7 args h n r hr
  split at hc
  · rename_i e
    cases hc; subst e
    exact fun args h n r hr => pureC_ok call8 8 args h n r hr
  split at hc
  · rename_i e
    cases hc; subst e
    exact fun args h n r hr => pureC_ok call9 9 args h n r hr
  split at hc
  · rename_i e
    cases hc; subst e
    exact fun args h n r hr => pureC_ok call10 10 args h n r hr
  split at hc
  · rename_i e
    cases hc; subst e
    refine fun args h n r hr => readC_ok (fun ρ _ m w vs hvs hH hf => ?_) 11 args h n r hr
    refine (law_cases workRun (fun _ _ => trivial) (ρ.upd (T.ofList [])) (m.pull id 0) w vs (by intro p hp; simp [shB] at hp) (by simpa [shDV] using hvs) (by simpa [shH] using hH) (fun id hid => hf id (Nat.zero_le _))).mono fun e w' ⟨he, hb⟩ => ⟨_, he, ?_, hb⟩
    simp only [DV.R, E.ev, Sc.bool_B]
  · cases hc

theorem own : ownKnob Tryz.prog.godebug = none := by kernel_rfl
theorem laidOut : laidOutB Tryz.prog = true := by kernel_rfl
theorem shapes : allSh Tryz.prog Tryz.f3.params.toList = [sh0] := by kernel_rfl
theorem bnds0 : shB Tryz.prog sh0 0 = [((.vr 0), 0, 255), ((.vr 1), 0, 18446744073709551615), ((.vr 2), 0, 18446744073709551615)] := by kernel_rfl

theorem law1 : LawS Tryz.prog 3 sh0 := by
  refine law_points (root := root) (pts := []) (Γ := Γm) (S := fun _ => True) Tryz.func3 (by kernel_rfl) (of_decide_eq_true (by kernel_rfl)) (fun F _ => Γm_ok F) (fun _ => ⟨fun _ => .I 0, trivial⟩) (fun p hp => by cases hp) (fun p hp => by cases hp) run0
    (fun _ _ => False) (fun _ _ => 0) (fun j p ρ hp _ => by cases hp) fun ρ _ hb => ?_
  rw [bnds0] at hb
  simp only [List.forall_mem_cons, List.not_mem_nil, false_implies, implies_true, and_true, ev_vr] at hb
  obtain ⟨b0, b1, b2⟩ := hb
  have r0 := e0_t (ρ := ρ) (a := (ρ.v 1).int.toNat) (b := (ρ.v 2).int.toNat) (by omega) (by omega) (by omega) (by omega)
  have r1 := e1_t (ρ := ρ) ⟨(ρ.v 0).int.toNat, by omega⟩ (by simp only; omega)
  have r2 := e2_t (ρ := ρ) (a := (ρ.v 1).int.toNat) (by omega) b0.1 (by omega)
  exact ⟨r0, r1, r2, rfl⟩

theorem lifted (os : Os) (started : os.Started) (H : Type) (enc : TypeId × Value → H) :
    ReturnsInHanded {} Tryz.checked os 3 .any (Rows.amoMakesSpec.pre6 enc Tryz.prog Tryz.f3 Rows.amoMakesRow.domain false) (Rows.amoMakesSpec.post enc Tryz.prog Tryz.f3 false true false false) :=
  lifted_shapes (C := Tryz.checked) (s := Rows.amoMakesSpec) (conds := Rows.amoMakesRow.domain) (apart := false) (enc := enc) own laidOut started (f := 3) (fn := Tryz.f3) (by kernel_rfl) Tryz.func3
    (ChangeSpec.witness6 (enc := enc) (C := Tryz.checked) false ⟨#[], #[.int .u8 0, .int .u64 0, .int .u64 0], []⟩ 8 (by kernel_rfl) (by kernel_rfl) (by kernel_rfl) (by kernel_rfl))
    (by kernel_rfl) rfl Tryz.underlying4 rfl (fun ds hl => by rcases ds with _ | ⟨a, _ | ⟨b, _ | ⟨c, _ | ⟨d, ds⟩⟩⟩⟩ <;> first | rfl | cases hl) (by kernel_rfl) (fun sh hsh => by
      change sh ∈ allSh Tryz.prog Tryz.f3.params.toList at hsh
      rw [shapes] at hsh
      obtain rfl := List.mem_singleton.1 hsh
      exact law1)

theorem law_holds : Rows.AmoMakesSaid :=
  OpenClaim.holds_of_wide 3 Tryz.f3 rfl rfl rfl rfl rfl rfl rfl ⟨rfl, rfl, rfl, rfl, rfl⟩ rfl rfl rfl rfl rfl (by kernel_rfl) Tryz.func3 (by kernel_rfl)
    (of_decide_eq_true (by kernel_rfl)) (by unfold Func.isWrapper; first | (rw [if_pos (by decide +kernel)]; kernel_rfl) | (rw [if_neg (by decide +kernel)]; exact ⟨rfl, rfl⟩))
    (fun os started H enc _ => lifted os started H enc)
#print axioms law_holds
end Go.Proofs.YtdffbokmgdcjaaaGreat.AmoMakesDone
