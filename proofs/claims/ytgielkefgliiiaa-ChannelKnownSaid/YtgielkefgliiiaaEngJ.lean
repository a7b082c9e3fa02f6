/-
  One operation that makes a value: what the machine makes of it.
-/
import Derived.Test.YtgielkefgliiiaaEngI
namespace Go.Eng

section
variable {P : Program} {F : Facts}

theorem opd_R {m : Emb} {ρ : Env} {t : T DV} {a : Act} (ht : TmpR m ρ t a) {x : Operand} {d : DV} (h : opd t x = some d) : d.R m ρ (a.eval x) := by
  cases x with
  | tmp i =>
    obtain ⟨v, hv, hr⟩ := ht.get i d h
    simp only [Act.eval, Array.getD_eq_getD_getElem?, hv, Option.getD_some]; exact hr
  | const v => exact DV.ofV_R m ρ _ h
  | global g => simp [opd] at h; subst h; simp [Act.eval, DV.R]
  | func f => simp [opd] at h; subst h; simp [Act.eval, DV.R, DV.RL]

theorem opds_R {m : Emb} {ρ : Env} {t : T DV} {a : Act} (ht : TmpR m ρ t a) : ∀ {l : List Operand} {ds : List DV}, l.mapM (opd t) = some ds → DV.RL m ρ ds (l.map a.eval)
  | [], ds, h => by simp at h; subst h; simp [DV.RL]
  | x :: l, ds, h => by
    simp only [List.mapM_cons, Option.bind_eq_bind, Option.pure_def, Option.bind_eq_some_iff] at h
    obtain ⟨d, hd, rs, hr, he⟩ := h
    simp at he; subst he
    simp only [List.map_cons, DV.RL]
    exact ⟨_, _, rfl, opd_R ht hd, opds_R ht hr⟩

theorem beq_some_true {o : Option Bool} {b : Bool} (h : (o == some b) = true) : o = some b := by
  cases o with
  | none => cases h
  | some x => cases x <;> cases b <;> first | rfl | cases h

theorem idxOk_spec {ρ : Env} (hF : F.ok ρ) {e n : E} (h : idxOk F e n = true) : 0 ≤ (e.ev ρ).int ∧ (e.ev ρ).int < (n.ev ρ).int := by
  simp only [idxOk, Bool.and_eq_true] at h
  exact ⟨nonneg_of hF (beq_some_true h.1), of_decide_eq_true (E.dec_sound hF (beq_some_true h.2))⟩

theorem binD_sound {m : Emb} {ρ : Env} (hF : F.ok ρ) {op : BinOp} {ty : TypeId} {cx : Bool} {x y d : DV} (h : binD P F op ty cx x y = some d) {ox oy : Operand} {vx vy : Value}
    (hc : cx = true → (ox matches .const _) = true ∨ (oy matches .const _) = true) (hx : x.R m ρ vx) (hy : y.R m ρ vy) (w : World) :
    ∃ v, (do eqGuard op ty ox oy vx vy; binOp op ty vx vy : Sem Value).run P w = .ok v w ∧ d.R m ρ v := by
  have guardless : ∀ {k k' : IntKind} {n n' : Int}, (eqGuard op ty ox oy (.int k n) (.int k' n')).run P w = .ok () w := by
    intro k k' n n'; cases op <;> rfl
  have guardlessS : ∀ {n n' : ByteArray}, (eqGuard op ty ox oy (.string n) (.string n')).run P w = .ok () w := by
    intro n n'; cases op <;> rfl
  unfold binD at h
  split at h
  · rename_i k a k' b
    simp only [DV.R] at hx hy
    subst hx; subst hy
    split at h
    · obtain ⟨v, hv, hr⟩ := shiftD_sound (P := P) (m := m) (k' := k') hF h w
      exact ⟨v, by simp only [Sem.run_bind, guardless, Result.andThen_ok]; exact hv, hr⟩
    · obtain ⟨v, hv, hr⟩ := shiftD_sound (P := P) (m := m) (k' := k') hF h w
      exact ⟨v, by simp only [Sem.run_bind, guardless, Result.andThen_ok]; exact hv, hr⟩
    · rename_i h1 h2
      split at h
      · rename_i hk
        subst hk
        obtain ⟨v, hv, hr⟩ := intBinD_sound (P := P) (m := m) hF h ty w h1 h2
        exact ⟨v, by simp only [Sem.run_bind, guardless, Result.andThen_ok]; exact hv, hr⟩
      · cases h
  · simp only [DV.R] at hx hy
    subst hx; subst hy
    obtain ⟨v, hv, hr⟩ := strBinD_sound (P := P) (m := m) hF h ty w
    exact ⟨v, by simp only [Sem.run_bind, guardlessS, Result.andThen_ok]; exact hv, hr⟩
  · rename_i hni hns
    -- the values are neither two integers nor two strings
    have eqlRun : ∀ {b : Bool} (vx vy : Value), x.R m ρ vx → y.R m ρ vy → (Op.equal ty vx vy).run P w = .ok b w → (binOp .eql ty vx vy).run P w = .ok (.bool b) w ∧ (binOp .neq ty vx vy).run P w = .ok (.bool (!b)) w := by
      intro b vx vy hx hy he
      by_cases hxi : ∃ k e, x = .int k e
      · obtain ⟨k, e, rfl⟩ := hxi
        simp only [DV.R] at hx; subst hx
        cases y <;> simp only [DV.R] at hy
        case int => exact (hni _ _ _ _ rfl rfl).elim
        all_goals first
          | (subst hy; refine ⟨?_, ?_⟩ <;> simp [binOp, he]; done)
          | (obtain ⟨z1, z2, rfl, z3⟩ := hy; refine ⟨?_, ?_⟩ <;> simp [binOp, he]; done)
          | (obtain ⟨z1, z2, rfl⟩ := hy; refine ⟨?_, ?_⟩ <;> simp [binOp, he]; done)
          | (obtain ⟨z1, rfl, z3⟩ := hy; refine ⟨?_, ?_⟩ <;> simp [binOp, he]; done)
      · by_cases hxs : ∃ e, x = .str e
        · obtain ⟨e, rfl⟩ := hxs
          simp only [DV.R] at hx; subst hx
          cases y <;> simp only [DV.R] at hy
          case str => exact (hns _ _ rfl rfl).elim
          all_goals first
            | (subst hy; refine ⟨?_, ?_⟩ <;> simp [binOp, he]; done)
            | (obtain ⟨z1, z2, rfl, z3⟩ := hy; refine ⟨?_, ?_⟩ <;> simp [binOp, he]; done)
            | (obtain ⟨z1, z2, rfl⟩ := hy; refine ⟨?_, ?_⟩ <;> simp [binOp, he]; done)
            | (obtain ⟨z1, rfl, z3⟩ := hy; refine ⟨?_, ?_⟩ <;> simp [binOp, he]; done)
        · cases x <;> simp only [DV.R] at hx
          case int => exact absurd ⟨_, _, rfl⟩ hxi
          case str => exact absurd ⟨_, rfl⟩ hxs
          all_goals first
            | (subst hx; refine ⟨?_, ?_⟩ <;> simp [binOp, he]; done)
            | (obtain ⟨z1, z2, rfl, z3⟩ := hx; refine ⟨?_, ?_⟩ <;> simp [binOp, he]; done)
            | (obtain ⟨z1, z2, rfl⟩ := hx; refine ⟨?_, ?_⟩ <;> simp [binOp, he]; done)
            | (obtain ⟨z1, rfl, z3⟩ := hx; refine ⟨?_, ?_⟩ <;> simp [binOp, he]; done)
    split at h
    · split at h
      · rename_i hg
        simp only [Option.map_eq_some_iff] at h
        obtain ⟨e, he, rfl⟩ := h
        have hg' := eqG_run (P := P) (op := .eql) (.inl rfl) hc hg hx hy w
        have hr := (eqlRun vx vy hx hy (eqOp_run hF he hx hy w)).1
        exact ⟨_, by simp only [Sem.run_bind, hg', Result.andThen_ok]; exact hr, rfl⟩
      · cases h
    · split at h
      · rename_i hg
        simp only [Option.map_eq_some_iff] at h
        obtain ⟨e, he, rfl⟩ := h
        have hg' := eqG_run (P := P) (op := .neq) (.inr rfl) hc hg hx hy w
        have hr := (eqlRun vx vy hx hy (eqOp_run hF he hx hy w)).2
        exact ⟨_, by simp only [Sem.run_bind, hg', Result.andThen_ok]; exact hr, by simp only [DV.R]; rw [notB_bool]⟩
      · cases h
    · cases h

theorem unD_sound {m : Emb} {ρ : Env} (hF : F.ok ρ) {op : UnOp} {x d : DV} (h : unD F op x = some d) {vx : Value} (hx : x.R m ρ vx) (w : World) :
    ∃ v, (Op.unary op vx).run P w = .ok v w ∧ d.R m ρ v := by
  unfold unD at h
  split at h
  · cases h; simp only [DV.R] at hx; subst hx
    exact ⟨_, rfl, by simp only [DV.R]; rw [rwE_ev hF, wrapI_int hF, subI_int]; rfl⟩
  · cases h; simp only [DV.R] at hx; subst hx
    exact ⟨_, rfl, by simp only [DV.R]; rw [rwE_ev hF, lit2_ev]; rfl⟩
  · cases h; simp only [DV.R] at hx; subst hx
    exact ⟨_, rfl, by simp only [DV.R]; rw [notB_bool]⟩
  · cases h

theorem notLt_spec {ρ : Env} (hF : F.ok ρ) {h l : E} (hh : notLt F h l = true) : ¬ (h.ev ρ).int < (l.ev ρ).int := by
  simp only [notLt, Bool.or_eq_true, beq_iff_eq] at hh
  rcases hh with h1 | h1
  · exact of_decide_eq_false (E.dec_sound hF h1)
  · split at h1
    · rename_i x c
      simp only [Bool.or_eq_true, Bool.and_eq_true, decide_eq_true_eq] at h1
      rcases h1 with ⟨h0, hs⟩ | h1
      · rw [E.same_eq hs]
        simp only [E.ev, B2.ev, Sc.int_I]
        omega
      · split at h1
        · simp only [Bool.and_eq_true, decide_eq_true_eq] at h1
          obtain ⟨h0, hs⟩ := h1
          rw [E.same_eq hs]
          simp only [E.ev, B2.ev, Sc.int_I]
          omega
        · cases h1
    · cases h1

theorem bndsD_spec {m : Emb} {ρ : Env} (hF : F.ok ρ) {lo hi : Option DV} {len cap a b : E} (h : bndsD F lo hi len cap = some (a, b)) {vlo vhi : Option Value} (hlo : ∀ d, lo = some d → ∃ v, vlo = some v ∧ d.R m ρ v) (hlon : lo = none → vlo = none)
    (hhi : ∀ d, hi = some d → ∃ v, vhi = some v ∧ d.R m ρ v) (hhin : hi = none → vhi = none) (nl nc : Nat) (hl : (len.ev ρ).int = nl) (hcp : (cap.ev ρ).int ≤ nc) (sl : Bool) (w : World) :
    (Instr.sliceBounds sl nl nc vlo vhi none).run P w = .ok ((a.ev ρ).int.toNat, (b.ev ρ).int.toNat, nc) w ∧ 0 ≤ (a.ev ρ).int ∧ 0 ≤ (b.ev ρ).int ∧ (lo ≠ none → (a.ev ρ).int ≤ (b.ev ρ).int) ∧ (lo = none → (a.ev ρ).int = 0) ∧ (hi = none → (b.ev ρ).int = nl) ∧ (hi ≠ none → (b.ev ρ).int ≤ nc) := by
  unfold bndsD at h
  split at h
  · cases h
  · rename_i hb hh
    have hB : ∃ bb : Nat, (match vhi with | some v => Instr.sliceBound v nc (if sl then .sliceAcap else .sliceAlen) | none => (pure nl : Sem Nat)).run P w = .ok bb w ∧ (hb.ev ρ).int = bb ∧ (hi = none → (hb.ev ρ).int = nl) ∧ (hi ≠ none → (hb.ev ρ).int ≤ nc) := by
      cases hi with
      | none =>
        simp at hh; subst hh
        rw [hhin rfl]
        exact ⟨nl, rfl, hl, fun _ => hl, fun hc => absurd rfl hc⟩
      | some d =>
        obtain ⟨v, rfl, hr⟩ := hhi d rfl
        skip
        split at hh
        · rename_i heq; cases heq
        · rename_i k e heq
          cases heq
          split at hh
          · rename_i hc
            cases hh
            simp only [DV.R] at hr; subst hr
            have h0 := nonneg_of hF hc.1
            have h1 : ¬ (cap.ev ρ).int < (hb.ev ρ).int := of_decide_eq_false (E.dec_sound hF hc.2)
            refine ⟨(hb.ev ρ).int.toNat, ?_, by omega, (fun hcn => by cases hcn), fun _ => by omega⟩
            simp only [Instr.sliceBound, asIntOf, Sem.run_bind, Sem.run_pure, Result.andThen_ok]
            rw [if_pos ⟨h0, by omega⟩]; rfl
          · cases hh
        · cases hh
    obtain ⟨bb, hbrun, hbb, hbn, hbc⟩ := hB
    have common : ∀ (vlo' : Option Value) (aa : Nat), (match vlo' with | some v => Instr.sliceBound v bb .sliceB | none => (pure 0 : Sem Nat)).run P w = .ok aa w → (Instr.sliceBounds sl nl nc vlo' vhi none).run P w = .ok (aa, bb, nc) w := by
      intro vlo' aa ha
      cases vhi with
      | none =>
        simp only [Sem.run_pure] at hbrun; cases hbrun
        cases vlo' with
        | none => simp only [Sem.run_pure] at ha; cases ha; rfl
        | some v => simp only [Instr.sliceBounds, Sem.run_bind, Sem.run_pure, Result.andThen_ok, Option.isSome_none, Bool.false_eq_true, if_false]; simp only at ha; rw [ha]; rfl
      | some u =>
        simp only at hbrun
        cases vlo' with
        | none => simp only [Sem.run_pure] at ha; cases ha; simp only [Instr.sliceBounds, Sem.run_bind, Sem.run_pure, Result.andThen_ok]; rw [hbrun]; rfl
        | some v => simp only [Instr.sliceBounds, Sem.run_bind, Sem.run_pure, Result.andThen_ok, Option.isSome_none, Bool.false_eq_true, if_false]; rw [hbrun]; simp only [Result.andThen_ok]; simp only at ha; rw [ha]; rfl
    cases lo with
    | none =>
      simp at h
      obtain ⟨rfl, rfl⟩ := h
      rw [hlon rfl]
      refine ⟨?_, by simp [E.ev], by omega, fun hc => absurd rfl hc, fun _ => rfl, hbn, hbc⟩
      rw [common none 0 rfl]
      simp [E.ev, hbb]
    | some d =>
      obtain ⟨v, rfl, hr⟩ := hlo d rfl
      skip
      split at h
      · rename_i heq; cases heq
      · rename_i k l heq
        cases heq
        split at h
        · rename_i hc
          simp at h
          obtain ⟨rfl, rfl⟩ := h
          simp only [DV.R] at hr; subst hr
          have h0 := nonneg_of hF hc.1
          have h1 : ¬ (hb.ev ρ).int < (l.ev ρ).int := notLt_spec hF hc.2
          refine ⟨?_, h0, by omega, fun _ => by omega, (fun hcn => by cases hcn), hbn, hbc⟩
          rw [common (some (.int k (l.ev ρ).int)) (l.ev ρ).int.toNat ?_]
          · simp [hbb]
          · simp only [Instr.sliceBound, asIntOf, Sem.run_bind, Sem.run_pure, Result.andThen_ok]
            rw [if_pos ⟨h0, by omega⟩]; rfl
        · cases h
      · cases h

end

end Go.Eng
