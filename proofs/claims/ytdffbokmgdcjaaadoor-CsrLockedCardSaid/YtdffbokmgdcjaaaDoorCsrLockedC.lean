/- The law CsrLocked: of any state and any writes it returns true. Of the listed package-level variables the card speaks as its words say; the law reads none of them. No condition. -/
import Derived.Test.YtdffbokmgdcjaaaDoorCsrLockedFitC
import Derived.Test.YtdffbokmgdcjaaaDoorCsrLockedRaC
import Derived.Test.YtdffbokmgdcjaaaDoorCsrLockedRbC
import Derived.Test.YtdffbokmgdcjaaaDoorCsrLockedRcC
import Derived.Test.YtdffbokmgdcjaaaDoorRows
import Derived.Test.YtdffbokmgdcjaaaDoorCards
import Derived.Test.YtdffbokmgdcjaaaDoorTie
namespace Go.Proofs.YtdffbokmgdcjaaaDoor.CsrLockedDone
open Go.Eng Go.RowKit Go.ChangeShapes Go.WideShapes Go.ChangeAt
set_option maxRecDepth 100000

theorem own : ownKnob Tryd.prog.godebug = none := by kernel_rfl
theorem laidOut : laidOutB Tryd.prog = true := by kernel_rfl
theorem shapes : allSh Tryd.prog Tryd.f5.params.toList = [sh1, sh2] := by kernel_rfl
theorem run_pts {sg : Facts → Option SegR} {fin : Facts → Ex → St → Option DV → Bool} {pts pts' : List Pt} (h : ∀ j : Nat, (pts[j]?).map (fun p : Pt => (p.rp, p.tm)) = (pts'[j]?).map (fun p : Pt => (p.rp, p.tm))) : ∀ (pl : PL) (F : Facts), PL.run sg fin pts F pl = PL.run sg fin pts' F pl
  | .ret, F => rfl
  | .retd d, F => rfl
  | .absurd, F => rfl
  | .node c a b, F => by simp only [PL.run, run_pts h a, run_pts h b]
  | .know c b p, F => by simp only [PL.run, run_pts h p]
  | .go j σ r, F => by
    have hj := h j
    simp only [PL.run]
    cases h1 : pts[j]? with
    | none => rw [h1] at hj; cases h2 : pts'[j]? with
      | none => rfl
      | some q => rw [h2] at hj; cases hj
    | some p => rw [h1] at hj; cases h2 : pts'[j]? with
      | none => rw [h2] at hj; cases hj
      | some q =>
        rw [h2] at hj
        simp only [Option.map_some, Option.some.injEq, Prod.mk.injEq] at hj
        obtain ⟨e1, e2⟩ := hj
        split <;> split <;> simp_all
theorem locA : (match locate root rpA with | some (.loop _, _) => true | _ => false) = true := by kernel_rfl
theorem pa_r12 : segA ((((((((((((factsA.cons ltA true).cons (.bi .eqi (.bi (.bits .and .u16) (.bi .fdiv c0 (.li 256)) (.li 3)) (.li 3)) false).cons (.bi .eqi c0 (.li 256)) false).cons (.bi .eqi c0 (.li 260)) false).cons (.bi .eqi c0 (.li 261)) false).cons (.bi .eqi c0 (.li 262)) false).cons (.bi .eqi c0 (.li 320)) false).cons (.bi .eqi c0 (.li 321)) false).cons (.bi .eqi c0 (.li 322)) false).cons (.bi .eqi c0 (.li 323)) false).cons (.bi .eqi c0 (.li 324)) false).cons (.bi .eqi c0 (.li 384)) true) pa_p12 = true := segA_node pa_r10 pa_r11
theorem pa_r16 : segA ((((((((((((((factsA.cons ltA true).cons (.bi .eqi (.bi (.bits .and .u16) (.bi .fdiv c0 (.li 256)) (.li 3)) (.li 3)) false).cons (.bi .eqi c0 (.li 256)) false).cons (.bi .eqi c0 (.li 260)) false).cons (.bi .eqi c0 (.li 261)) false).cons (.bi .eqi c0 (.li 262)) false).cons (.bi .eqi c0 (.li 320)) false).cons (.bi .eqi c0 (.li 321)) false).cons (.bi .eqi c0 (.li 322)) false).cons (.bi .eqi c0 (.li 323)) false).cons (.bi .eqi c0 (.li 324)) false).cons (.bi .eqi c0 (.li 384)) false).cons (.bi .eqi c0 (.li 3072)) true).cons (.bi .eqi (.bi (.bits .and .u64) (.vr 1012) (.un (.wrap .u64) (.un .pow2 (.tr .ite (.bi .lt (.bi .add c0 (.li (-3072))) (.li 64)) (.bi .add c0 (.li (-3072))) (.li 64))))) (.li 0)) false) pa_p16 = true := segA_node pa_r14 pa_r15
theorem pa_r17 : segA (((((((((((((factsA.cons ltA true).cons (.bi .eqi (.bi (.bits .and .u16) (.bi .fdiv c0 (.li 256)) (.li 3)) (.li 3)) false).cons (.bi .eqi c0 (.li 256)) false).cons (.bi .eqi c0 (.li 260)) false).cons (.bi .eqi c0 (.li 261)) false).cons (.bi .eqi c0 (.li 262)) false).cons (.bi .eqi c0 (.li 320)) false).cons (.bi .eqi c0 (.li 321)) false).cons (.bi .eqi c0 (.li 322)) false).cons (.bi .eqi c0 (.li 323)) false).cons (.bi .eqi c0 (.li 324)) false).cons (.bi .eqi c0 (.li 384)) false).cons (.bi .eqi c0 (.li 3072)) true) pa_p17 = true := segA_node pa_r13 pa_r16
theorem pa_r21 : segA (((((((((((((((factsA.cons ltA true).cons (.bi .eqi (.bi (.bits .and .u16) (.bi .fdiv c0 (.li 256)) (.li 3)) (.li 3)) false).cons (.bi .eqi c0 (.li 256)) false).cons (.bi .eqi c0 (.li 260)) false).cons (.bi .eqi c0 (.li 261)) false).cons (.bi .eqi c0 (.li 262)) false).cons (.bi .eqi c0 (.li 320)) false).cons (.bi .eqi c0 (.li 321)) false).cons (.bi .eqi c0 (.li 322)) false).cons (.bi .eqi c0 (.li 323)) false).cons (.bi .eqi c0 (.li 324)) false).cons (.bi .eqi c0 (.li 384)) false).cons (.bi .eqi c0 (.li 3072)) false).cons (.bi .eqi c0 (.li 3073)) true).cons (.bi .eqi (.bi (.bits .and .u64) (.vr 1012) (.un (.wrap .u64) (.un .pow2 (.tr .ite (.bi .lt (.bi .add c0 (.li (-3072))) (.li 64)) (.bi .add c0 (.li (-3072))) (.li 64))))) (.li 0)) false) pa_p21 = true := segA_node pa_r19 pa_r20
theorem pa_r22 : segA ((((((((((((((factsA.cons ltA true).cons (.bi .eqi (.bi (.bits .and .u16) (.bi .fdiv c0 (.li 256)) (.li 3)) (.li 3)) false).cons (.bi .eqi c0 (.li 256)) false).cons (.bi .eqi c0 (.li 260)) false).cons (.bi .eqi c0 (.li 261)) false).cons (.bi .eqi c0 (.li 262)) false).cons (.bi .eqi c0 (.li 320)) false).cons (.bi .eqi c0 (.li 321)) false).cons (.bi .eqi c0 (.li 322)) false).cons (.bi .eqi c0 (.li 323)) false).cons (.bi .eqi c0 (.li 324)) false).cons (.bi .eqi c0 (.li 384)) false).cons (.bi .eqi c0 (.li 3072)) false).cons (.bi .eqi c0 (.li 3073)) true) pa_p22 = true := segA_node pa_r18 pa_r21
theorem pa_r26 : segA ((((((((((((((((factsA.cons ltA true).cons (.bi .eqi (.bi (.bits .and .u16) (.bi .fdiv c0 (.li 256)) (.li 3)) (.li 3)) false).cons (.bi .eqi c0 (.li 256)) false).cons (.bi .eqi c0 (.li 260)) false).cons (.bi .eqi c0 (.li 261)) false).cons (.bi .eqi c0 (.li 262)) false).cons (.bi .eqi c0 (.li 320)) false).cons (.bi .eqi c0 (.li 321)) false).cons (.bi .eqi c0 (.li 322)) false).cons (.bi .eqi c0 (.li 323)) false).cons (.bi .eqi c0 (.li 324)) false).cons (.bi .eqi c0 (.li 384)) false).cons (.bi .eqi c0 (.li 3072)) false).cons (.bi .eqi c0 (.li 3073)) false).cons (.bi .eqi c0 (.li 3074)) true).cons (.bi .eqi (.bi (.bits .and .u64) (.vr 1012) (.un (.wrap .u64) (.un .pow2 (.tr .ite (.bi .lt (.bi .add c0 (.li (-3072))) (.li 64)) (.bi .add c0 (.li (-3072))) (.li 64))))) (.li 0)) false) pa_p26 = true := segA_node pa_r24 pa_r25
theorem pa_r27 : segA (((((((((((((((factsA.cons ltA true).cons (.bi .eqi (.bi (.bits .and .u16) (.bi .fdiv c0 (.li 256)) (.li 3)) (.li 3)) false).cons (.bi .eqi c0 (.li 256)) false).cons (.bi .eqi c0 (.li 260)) false).cons (.bi .eqi c0 (.li 261)) false).cons (.bi .eqi c0 (.li 262)) false).cons (.bi .eqi c0 (.li 320)) false).cons (.bi .eqi c0 (.li 321)) false).cons (.bi .eqi c0 (.li 322)) false).cons (.bi .eqi c0 (.li 323)) false).cons (.bi .eqi c0 (.li 324)) false).cons (.bi .eqi c0 (.li 384)) false).cons (.bi .eqi c0 (.li 3072)) false).cons (.bi .eqi c0 (.li 3073)) false).cons (.bi .eqi c0 (.li 3074)) true) pa_p27 = true := segA_node pa_r23 pa_r26
theorem pa_r29 : segA ((((((((((((((factsA.cons ltA true).cons (.bi .eqi (.bi (.bits .and .u16) (.bi .fdiv c0 (.li 256)) (.li 3)) (.li 3)) false).cons (.bi .eqi c0 (.li 256)) false).cons (.bi .eqi c0 (.li 260)) false).cons (.bi .eqi c0 (.li 261)) false).cons (.bi .eqi c0 (.li 262)) false).cons (.bi .eqi c0 (.li 320)) false).cons (.bi .eqi c0 (.li 321)) false).cons (.bi .eqi c0 (.li 322)) false).cons (.bi .eqi c0 (.li 323)) false).cons (.bi .eqi c0 (.li 324)) false).cons (.bi .eqi c0 (.li 384)) false).cons (.bi .eqi c0 (.li 3072)) false).cons (.bi .eqi c0 (.li 3073)) false) pa_p29 = true := segA_node pa_r27 pa_r28
theorem pa_r30 : segA (((((((((((((factsA.cons ltA true).cons (.bi .eqi (.bi (.bits .and .u16) (.bi .fdiv c0 (.li 256)) (.li 3)) (.li 3)) false).cons (.bi .eqi c0 (.li 256)) false).cons (.bi .eqi c0 (.li 260)) false).cons (.bi .eqi c0 (.li 261)) false).cons (.bi .eqi c0 (.li 262)) false).cons (.bi .eqi c0 (.li 320)) false).cons (.bi .eqi c0 (.li 321)) false).cons (.bi .eqi c0 (.li 322)) false).cons (.bi .eqi c0 (.li 323)) false).cons (.bi .eqi c0 (.li 324)) false).cons (.bi .eqi c0 (.li 384)) false).cons (.bi .eqi c0 (.li 3072)) false) pa_p30 = true := segA_node pa_r22 pa_r29
theorem pa_r31 : segA ((((((((((((factsA.cons ltA true).cons (.bi .eqi (.bi (.bits .and .u16) (.bi .fdiv c0 (.li 256)) (.li 3)) (.li 3)) false).cons (.bi .eqi c0 (.li 256)) false).cons (.bi .eqi c0 (.li 260)) false).cons (.bi .eqi c0 (.li 261)) false).cons (.bi .eqi c0 (.li 262)) false).cons (.bi .eqi c0 (.li 320)) false).cons (.bi .eqi c0 (.li 321)) false).cons (.bi .eqi c0 (.li 322)) false).cons (.bi .eqi c0 (.li 323)) false).cons (.bi .eqi c0 (.li 324)) false).cons (.bi .eqi c0 (.li 384)) false) pa_p31 = true := segA_node pa_r17 pa_r30
theorem pa_r32 : segA (((((((((((factsA.cons ltA true).cons (.bi .eqi (.bi (.bits .and .u16) (.bi .fdiv c0 (.li 256)) (.li 3)) (.li 3)) false).cons (.bi .eqi c0 (.li 256)) false).cons (.bi .eqi c0 (.li 260)) false).cons (.bi .eqi c0 (.li 261)) false).cons (.bi .eqi c0 (.li 262)) false).cons (.bi .eqi c0 (.li 320)) false).cons (.bi .eqi c0 (.li 321)) false).cons (.bi .eqi c0 (.li 322)) false).cons (.bi .eqi c0 (.li 323)) false).cons (.bi .eqi c0 (.li 324)) false) pa_p32 = true := segA_node pa_r12 pa_r31
theorem pa_r33 : segA ((((((((((factsA.cons ltA true).cons (.bi .eqi (.bi (.bits .and .u16) (.bi .fdiv c0 (.li 256)) (.li 3)) (.li 3)) false).cons (.bi .eqi c0 (.li 256)) false).cons (.bi .eqi c0 (.li 260)) false).cons (.bi .eqi c0 (.li 261)) false).cons (.bi .eqi c0 (.li 262)) false).cons (.bi .eqi c0 (.li 320)) false).cons (.bi .eqi c0 (.li 321)) false).cons (.bi .eqi c0 (.li 322)) false).cons (.bi .eqi c0 (.li 323)) false) pa_p33 = true := segA_node pa_r9 pa_r32
theorem pa_r34 : segA (((((((((factsA.cons ltA true).cons (.bi .eqi (.bi (.bits .and .u16) (.bi .fdiv c0 (.li 256)) (.li 3)) (.li 3)) false).cons (.bi .eqi c0 (.li 256)) false).cons (.bi .eqi c0 (.li 260)) false).cons (.bi .eqi c0 (.li 261)) false).cons (.bi .eqi c0 (.li 262)) false).cons (.bi .eqi c0 (.li 320)) false).cons (.bi .eqi c0 (.li 321)) false).cons (.bi .eqi c0 (.li 322)) false) pa_p34 = true := segA_node pa_r8 pa_r33
theorem pa_r35 : segA ((((((((factsA.cons ltA true).cons (.bi .eqi (.bi (.bits .and .u16) (.bi .fdiv c0 (.li 256)) (.li 3)) (.li 3)) false).cons (.bi .eqi c0 (.li 256)) false).cons (.bi .eqi c0 (.li 260)) false).cons (.bi .eqi c0 (.li 261)) false).cons (.bi .eqi c0 (.li 262)) false).cons (.bi .eqi c0 (.li 320)) false).cons (.bi .eqi c0 (.li 321)) false) pa_p35 = true := segA_node pa_r7 pa_r34
theorem pa_r36 : segA (((((((factsA.cons ltA true).cons (.bi .eqi (.bi (.bits .and .u16) (.bi .fdiv c0 (.li 256)) (.li 3)) (.li 3)) false).cons (.bi .eqi c0 (.li 256)) false).cons (.bi .eqi c0 (.li 260)) false).cons (.bi .eqi c0 (.li 261)) false).cons (.bi .eqi c0 (.li 262)) false).cons (.bi .eqi c0 (.li 320)) false) pa_p36 = true := segA_node pa_r6 pa_r35
theorem pa_r37 : segA ((((((factsA.cons ltA true).cons (.bi .eqi (.bi (.bits .and .u16) (.bi .fdiv c0 (.li 256)) (.li 3)) (.li 3)) false).cons (.bi .eqi c0 (.li 256)) false).cons (.bi .eqi c0 (.li 260)) false).cons (.bi .eqi c0 (.li 261)) false).cons (.bi .eqi c0 (.li 262)) false) pa_p37 = true := segA_node pa_r5 pa_r36
theorem pa_r38 : segA (((((factsA.cons ltA true).cons (.bi .eqi (.bi (.bits .and .u16) (.bi .fdiv c0 (.li 256)) (.li 3)) (.li 3)) false).cons (.bi .eqi c0 (.li 256)) false).cons (.bi .eqi c0 (.li 260)) false).cons (.bi .eqi c0 (.li 261)) false) pa_p38 = true := segA_node pa_r4 pa_r37
theorem pa_r39 : segA ((((factsA.cons ltA true).cons (.bi .eqi (.bi (.bits .and .u16) (.bi .fdiv c0 (.li 256)) (.li 3)) (.li 3)) false).cons (.bi .eqi c0 (.li 256)) false).cons (.bi .eqi c0 (.li 260)) false) pa_p39 = true := segA_node pa_r3 pa_r38
theorem pa_r40 : segA (((factsA.cons ltA true).cons (.bi .eqi (.bi (.bits .and .u16) (.bi .fdiv c0 (.li 256)) (.li 3)) (.li 3)) false).cons (.bi .eqi c0 (.li 256)) false) pa_p40 = true := segA_node pa_r2 pa_r39
theorem pa_r41 : segA ((factsA.cons ltA true).cons (.bi .eqi (.bi (.bits .and .u16) (.bi .fdiv c0 (.li 256)) (.li 3)) (.li 3)) false) pa_p41 = true := segA_node pa_r1 pa_r40
theorem pa_r42 : segA (factsA.cons ltA true) pa_p42 = true := segA_node pa_r0 pa_r41
theorem runA : segA factsA planA = true := segA_node pa_r42 rX
theorem aOk : ptOk Tryd.prog Γa 6005000 50 root Tryd.f5 [ptA, ptB 1] ptA = true := by
  have h1 := runA
  unfold segA at h1
  rw [run_pts (pts' := [ptA, ptB 1]) (fun j => by rcases j with _ | _ | j <;> rfl)] at h1
  have h2 := locA
  unfold ptOk
  rw [show ptA.alts = [] from rfl, show ptA.rp = rpA from rfl]
  simp only
  cases hl : locate root rpA with
  | none => rw [hl] at h2; cases h2
  | some x =>
    obtain ⟨c, ks⟩ := x
    rw [hl] at h1 h2
    cases c <;> simp only [Bool.false_eq_true] at h2
    exact h1

theorem law1 : LawS Tryd.prog 5 sh1 := by
  refine ⟨fun _ => True, fun _ => ⟨fun _ => .I 0, trivial⟩, fun ρ m w vs _ hb hvs hH hf => ?_⟩
  refine law_by_points (P := Tryd.prog) (Γ := Γa) (S := fun _ => True) (loops := 6005000) (depth := 50) (root := root) (fun F _ => Γa_ok F) Tryd.func5 (by kernel_rfl) (of_decide_eq_true (by kernel_rfl)) (pts := [ptB 0])
    (fun p hp => ?_) (fun p hp => ?_) (F0 := { bnds := shB Tryd.prog sh1 0, sem := fun _ => True }) rfl (plan := plan1) e1 InvN muN (fun j p ρ hp h => ?_) (bnds1 hb) ?_ hvs hH hf (fun id B h => shH_ro _ (ofList_mem h))
  · obtain rfl := List.mem_singleton.1 hp; rfl
  · obtain rfl := List.mem_singleton.1 hp; exact b1
  · obtain ⟨rfl, hL, hi⟩ := h
    cases hp
    exact ⟨factsB_ok hL hi, fitB0 hL hi⟩
  · have h := go1
    have : ∃ σ r, plan1 = .go 0 σ r := ⟨_, _, rfl⟩
    obtain ⟨σ, r, e⟩ := this
    rw [e] at h ⊢
    obtain ⟨g1, g2⟩ := go_fit h (bnds1 hb)
    exact ⟨rfl, g1, by simp only [I, g2]; exact ⟨by decide, by decide⟩⟩
theorem law2 : LawS Tryd.prog 5 sh2 := by
  refine ⟨fun _ => True, fun _ => ⟨fun _ => .I 0, trivial⟩, fun ρ m w vs _ hb hvs hH hf => ?_⟩
  refine law_by_points (P := Tryd.prog) (Γ := Γa) (S := fun _ => True) (loops := 6005000) (depth := 50) (root := root) (fun F _ => Γa_ok F) Tryd.func5 (by kernel_rfl) (of_decide_eq_true (by kernel_rfl)) (pts := [ptA, ptB 1])
    (fun p hp => ?_) (fun p hp => ?_) (F0 := { bnds := shB Tryd.prog sh2 0, sem := fun _ => True }) rfl (plan := plan2) e2 Inv mu (fun j p ρ hp h => ?_) (bnds2 hb) ?_ hvs hH hf (fun id B h => shH_ro _ (ofList_mem h))
  · rcases List.mem_cons.1 hp with rfl | hp
    · rfl
    · obtain rfl := List.mem_singleton.1 hp; rfl
  · rcases List.mem_cons.1 hp with rfl | hp
    · exact aOk
    · obtain rfl := List.mem_singleton.1 hp; exact b2
  · rcases h with ⟨rfl, hC, hL, hi⟩ | ⟨rfl, hL, hi⟩
    · cases hp
      exact ⟨factsA_ok hC hL hi, fitA hC hL hi⟩
    · cases hp
      exact ⟨factsB_ok hL hi, fitB1 hL hi⟩
  · have hp2 : plan2 = .node (.bi .lt (.li 20) (.vr 33)) .ret plan2g := rfl
    rw [hp2]
    refine ⟨fun _ => rfl, fun hlt => ?_⟩
    have h := go2
    have : ∃ σ r, plan2g = .go 0 σ r ∧ (σ.all fun p => decide (1000 ≤ p.1)) = true := ⟨_, _, rfl, by kernel_rfl⟩
    obtain ⟨σ, r, e, hall⟩ := this
    rw [e] at h ⊢
    obtain ⟨g1, g2⟩ := go_fit h (bnds2 hb)
    exact .inl ⟨rfl, consts_upd (consts_at (bnds2 hb) hlt) hall, g1, by simp only [I, g2]; exact ⟨by decide, by decide⟩⟩

noncomputable def laidWorld (os : Os) : World := laidW Tryd.prog os [(0, Rows.laid_internal_strconv_uint64pow10), (1, Rows.laid_math_bits_deBruijn32tab), (2, Rows.laid_math_bits_deBruijn64tab)]
theorem laid_met (os : Os) (args : Array Value) : laidMet Tryd.prog Rows.csrLockedRow.laid ((laidWorld os).forCall (fun _ _ => 0) ⟨#[], args, []⟩).memory :=
  laidMet_of_run' 8 (by kernel_rfl) (by kernel_rfl)

theorem lifted (os : Os) (started : os.Started) (H : Type) (enc : TypeId × Value → H) :
    ReturnsInHanded {} Tryd.checked os 5 .any (fun w args => (Rows.csrLockedSpec.pre enc Tryd.prog Tryd.f5 [] false w args ∧ laidMet Tryd.prog Rows.csrLockedRow.laid w) ∧ sizedMet enc Tryd.prog Tryd.f5 (OpenSpec.ofChange Rows.csrLockedSpec) false w args)
      (Rows.csrLockedSpec.post enc Tryd.prog Tryd.f5 false true false false) :=
  lifted_laid (C := Tryd.checked) (s := Rows.csrLockedSpec) own laidOut started (by kernel_rfl) Tryd.func5
    (ChangeSpec.witness_at (enc := enc) (C := Tryd.checked) (os := os) (X := fun w _ => laidMet Tryd.prog Rows.csrLockedRow.laid w) false (laidWorld os) #[.agg (Array.replicate 31 (.int .u64 0)), .slice none 0 0] 8 rfl (by kernel_rfl) (by kernel_rfl) (by kernel_rfl) (by kernel_rfl) (by kernel_rfl) (laid_met os _))
    (by kernel_rfl) rfl Tryd.underlying4 rfl (fun ds hl => by rcases ds with _ | ⟨a, _ | ⟨b, _ | ⟨c, ds⟩⟩⟩ <;> first | rfl | cases hl) (by kernel_rfl) (fun sh hsh => by
      change sh ∈ allSh Tryd.prog Tryd.f5.params.toList at hsh
      rw [shapes] at hsh
      rcases List.mem_cons.1 hsh with rfl | hsh
      · exact law1
      · obtain rfl := List.mem_singleton.1 hsh
        exact law2)

theorem row_holds : Rows.CsrLockedSaid :=
  OpenClaim.holds_of_wide 5 Tryd.f5 rfl rfl rfl rfl rfl rfl rfl ⟨rfl, rfl, rfl, rfl, rfl⟩ rfl rfl rfl rfl rfl (by kernel_rfl) Tryd.func5 (by kernel_rfl)
    (of_decide_eq_true (by kernel_rfl)) (by unfold Func.isWrapper; first | (rw [if_pos (by decide +kernel)]; kernel_rfl) | (rw [if_neg (by decide +kernel)]; exact ⟨rfl, rfl⟩))
    (fun os started H enc _ => lifted os started H enc)

theorem card_holds : Rows.CsrLockedCardSaid :=
  Claim7.holds_tied_plain_at .later [] [.data, .data, .data] true (true, "6f6159bc4e4295399c46c7e777cd8a3a1ca9935b0d08bb4fdf293bdaa6a63570") false
    row_holds (fun _ h => by cases h) (by kernel_rfl) (fun _ h => by cases h) csrLocked_row_tie rfl ⟨rfl, rfl⟩ (by kernel_rfl) rfl
    (fun f fn hf hfn => by
      obtain rfl : f = 5 := Option.some.inj ((show Tryd.prog.funcNamed Rows.csrLockedRow.func = some 5 by kernel_rfl).symm.trans hf) |>.symm
      obtain rfl : fn = Tryd.f5 := (Option.some.inj (Tryd.func5.symm.trans hfn)).symm
      refine ⟨by kernel_rfl, fun j t ht => ?_⟩
      rw [show Tryd.f5.params = #[25, 39] by kernel_rfl] at ht
      have h25 : Tryd.prog.wantsStandIn 25 = false := by kernel_rfl
      have h39 : Tryd.prog.wantsStandIn 39 = false := by kernel_rfl
      rcases j with _ | _ | j
      · obtain rfl : 25 = t := by simpa using ht
        exact h25
      · obtain rfl : 39 = t := by simpa using ht
        exact h39
      · simp at ht)
    (by kernel_rfl)
#print axioms card_holds
end Go.Proofs.YtdffbokmgdcjaaaDoor.CsrLockedDone
