/-
  Regions in the order of the text, code, calls: what the symbolic machine tells of them, the machine does.
-/
import Derived.Test.YtdffbokmgdcjaaaGreatEngM
import Derived.LoopN
namespace Go.Eng

section
variable {P : Program} {F : Facts}

/-- One operation of a region, by the machine. -/
def StepPost (m : Emb) (ρ : Env) (st st' : St) (w : World) (K : Act → World → Prop) : Prop :=
  ∀ a' w' m', Rep m' ρ st' a' w' → Trans m st.heap w m' st'.heap w' → K a' w'

theorem stepX_sound {call : CallD} (hcall : CallOk P F call) {ρ : Env} (hF : F.ok ρ) {ops : Array Oper} {o : Oper} {st st' : St} (h : stepX P F call ops o st = some st') {m : Emb} {a : Act} {w : World} (hR : Rep m ρ st a w)
    {K : Act → World → Prop} {Q : Exit → Act → World → Prop} (hK : ∀ v w' m', Rep m' ρ st' (a.put o.dst v) w' → Trans m st.heap w m' st'.heap w' → K (a.put o.dst v) w') :
    if Region.wanted o (yielded ops a.tmps) then o.wp P a w K Q ∨ (o.asks P a w ∧ LetsOut Q) else K (a.put o.dst undef) w := by
  unfold stepX at h
  split at h
  · rename_i hw
    rw [wantD_spec hF hR hw]
    simp only [Bool.false_eq_true, if_false]
    obtain ⟨h1, h2, h3⟩ := rep_put hR (d := .tup []) (v := undef) (by simp [DV.R, DV.RL, undef]) h
    exact hK _ _ _ h1 (by rw [h2]; exact Trans.refl _ _ _)
  · rename_i hw
    rw [wantD_spec hF hR hw]
    simp only [if_true]
    left
    unfold Oper.wp
    split at h
    · rename_i d hd
      obtain ⟨v, hrun, hr⟩ := valD_sound hF hR.heap hR.tmps hd
      rw [hrun]
      simp only [Oper.upon]
      obtain ⟨h1, h2, h3⟩ := rep_put hR hr h
      exact hK _ _ _ h1 (by rw [h2]; exact Trans.refl _ _ _)
    · split at h
      · rename_i r hr
        obtain ⟨nx, v, w', m', hrun, hnx, hd, hH, hT, hf⟩ := memD_sound hF hR.heap hR.tmps hR.fresh hr
        rw [hrun]
        obtain ⟨h1, h2, h3⟩ := rep_put (rep_mem hR hH hT.ext hf) hd h
        rcases hnx with rfl | ⟨rfl, rfl⟩
        · simp only [Oper.upon]; exact hK _ _ _ h1 (by rw [h2]; exact hT)
        · simp only [Oper.upon]; exact hK _ _ _ h1 (by rw [h2]; exact hT)
      · split at h
        · rename_i g args hg
          split at h
          · rename_i r hr
            obtain ⟨vs, hrun, hvs⟩ := calleeD_run hR.tmps hg w
            rw [hrun]
            simp only [Oper.upon]
            refine (hcall g args st.heap st.next r hr ρ hF m w vs hvs hR.heap hR.fresh).mono fun e w' ⟨v, m', he, hd, hH, hT, hf⟩ => ?_
            subst he
            obtain ⟨h1, h2, h3⟩ := rep_put (rep_mem hR hH hT.ext hf) hd h
            exact hK _ _ _ h1 (by rw [h2]; exact hT)
          · cases h
        · cases h
  · cases h

theorem opsX_sound {call : CallD} (hcall : CallOk P F call) {ρ : Env} (hF : F.ok ρ) {ops : Array Oper} {Q : Exit → Act → World → Prop} :
    ∀ (l : List Nat) {st st' : St}, opsX P F call ops l st = some st' → ∀ {m : Emb} {a : Act} {w : World}, Rep m ρ st a w → StepPost m ρ st st' w (Q .normal) → wpOps P ops Q l a w
  | [], st, st', h, m, a, w, hR, hK => by
    simp [opsX] at h; subst h
    simp only [wpOps]
    exact hK _ _ _ hR (Trans.refl _ _ _)
  | i :: r, st, st', h, m, a, w, hR, hK => by
    simp only [opsX] at h
    simp only [wpOps]
    split at h
    · rename_i ho; simp only [ho]; exact opsX_sound hcall hF r h hR hK
    · rename_i o ho
      simp only [ho]
      split at h
      · rename_i st1 h1
        exact stepX_sound hcall hF h1 hR fun v w' m' hR' hT => opsX_sound hcall hF r h hR' fun a2 w2 m2 hR2 hT2 => hK _ _ _ hR2 (hT.trans hT2)
      · cases h

/-- What a region that draws its order is told to do. -/
def DrawOk (P : Program) (F : Facts) (draw : Array Oper → St → Option St) : Prop :=
  ∀ ops st st', draw ops st = some st' → ∀ ρ, F.ok ρ → ∀ m a w, Rep m ρ st a w → ∀ (id : Nat) (Q : Exit → Act → World → Prop), StepPost m ρ st st' w (Q .normal) → (Code.region id ops true).wp P Q a w

def CodePost (m : Emb) (ρ : Env) (st st' : St) (w : World) (K : Act → World → Prop) : Prop := StepPost m ρ st st' w K

theorem codeX_both {call : CallD} (hcall : CallOk P F call) {draw : Array Oper → St → Option St} (hdraw : DrawOk P F draw) {ρ : Env} (hF : F.ok ρ) :
    ∀ (n : Nat),
      (∀ {c : Code} {st st' : St} {x : Ex}, codeX P F call draw n c st = some (x, st') → ∀ {m : Emb} {a : Act} {w : World}, Rep m ρ st a w → ∀ {Q : Exit → Act → World → Prop}, StepPost m ρ st st' w (Q x.to) → c.wp P Q a w) ∧
      (∀ {b : Code} {st st' : St} {x : Ex}, codeX P F call draw n (.loop b) st = some (x, st') → ∀ {m : Emb} {a : Act} {w : World}, Rep m ρ st a w → ∀ {Q : Exit → Act → World → Prop}, StepPost m ρ st st' w (Q x.to) → Code.rounds P b Q n a w) := by
  intro n
  induction n with
  | zero => exact ⟨fun h => by simp [codeX] at h, fun h => by simp [codeX] at h⟩
  | succ n ihn =>
    obtain ⟨ih, ihl⟩ := ihn
    have B : ∀ {b : Code} {st st' : St} {x : Ex}, codeX P F call draw (n + 1) (.loop b) st = some (x, st') → ∀ {m : Emb} {a : Act} {w : World}, Rep m ρ st a w → ∀ {Q : Exit → Act → World → Prop}, StepPost m ρ st st' w (Q x.to) → Code.rounds P b Q (n + 1) a w := by
      intro b st st' x h m a w hR Q hK
      simp only [codeX] at h
      rw [rounds_succ]
      split at h
      · rename_i st1 h1
        exact ih h1 hR fun a1 w1 m1 hR1 hT1 => ihl h hR1 fun a2 w2 m2 hR2 hT2 => hK _ _ _ hR2 (hT1.trans hT2)
      · rename_i hn
        refine ih h hR fun a1 w1 m1 hR1 hT1 => ?_
        have := hK _ _ _ hR1 hT1
        cases x with
        | norm => exact (hn _ h).elim
        | exit id => exact this
        | ret => exact this
    refine ⟨?_, B⟩
    intro c st st' x h m a w hR Q hK
    by_cases hl : ∃ b, c = .loop b
    · obtain ⟨b, rfl⟩ := hl
      exact wp_loop_rounds (n + 1) (B h hR hK)
    cases c <;> simp only [codeX, reduceCtorEq] at h
    case loop b => exact absurd ⟨b, rfl⟩ hl
    case skip => cases h; exact wp_skip (hK _ _ _ hR (Trans.refl _ _ _))
    case label l => cases h; exact wp_label (hK _ _ _ hR (Trans.refl _ _ _))
    case exit id => cases h; exact wp_exit (hK _ _ _ hR (Trans.refl _ _ _))
    case ret => cases h; exact wp_ret (hK _ _ _ hR (Trans.refl _ _ _))
    case region id ops dr =>
      cases dr with
      | false =>
        simp only [Option.map_eq_some_iff] at h
        obtain ⟨st1, h1, h2⟩ := h
        cases h2
        exact wp_region (opsX_sound hcall hF _ h1 hR hK)
      | true =>
        simp only [Option.map_eq_some_iff] at h
        obtain ⟨st1, h1, h2⟩ := h
        cases h2
        exact hdraw ops st st' h1 ρ hF m a w hR id Q hK
    case seq c1 c2 =>
      split at h
      · rename_i st1 h1
        exact wp_seq (ih h1 hR fun a1 w1 m1 hR1 hT1 => ih h hR1 fun a2 w2 m2 hR2 hT2 => hK _ _ _ hR2 (hT1.trans hT2))
      · rename_i r hn
        refine wp_seq (ih h hR fun a1 w1 m1 hR1 hT1 => ?_)
        have := hK _ _ _ hR1 hT1
        cases x with
        | norm => exact (hn _ h).elim
        | exit id => exact this
        | ret => exact this
    case cond e0 c1 c2 =>
      split at h
      · rename_i e he
        have hc := opd_R hR.tmps he
        simp only [DV.R] at hc
        split at h
        · rename_i hd
          have := E.dec_sound hF hd
          rw [this] at hc
          exact wp_cond_true hc (ih h hR hK)
        · rename_i hd
          have := E.dec_sound hF hd
          rw [this] at hc
          exact wp_cond_false hc (ih h hR hK)
        · cases h
      · cases h
    case block id b =>
      split at h
      · rename_i id' st1 h1
        split at h
        · rename_i hid
          cases h
          refine wp_block (ih h1 hR fun a1 w1 m1 hR1 hT1 => ?_)
          simp only [Ex.to, Exit.inBlock, hid, if_true]
          exact hK _ _ _ hR1 hT1
        · rename_i hid
          cases h
          refine wp_block (ih h1 hR fun a1 w1 m1 hR1 hT1 => ?_)
          simp only [Ex.to, Exit.inBlock, hid, if_false]
          exact hK _ _ _ hR1 hT1
      · rename_i hn
        refine wp_block (ih h hR fun a1 w1 m1 hR1 hT1 => ?_)
        have := hK _ _ _ hR1 hT1
        cases x with
        | norm => exact this
        | exit id' => exact (hn _ _ h).elim
        | ret => exact this

theorem codeX_sound {call : CallD} (hcall : CallOk P F call) {draw : Array Oper → St → Option St} (hdraw : DrawOk P F draw) {ρ : Env} (hF : F.ok ρ)
    (n : Nat) {c : Code} {st st' : St} {x : Ex} (h : codeX P F call draw n c st = some (x, st')) {m : Emb} {a : Act} {w : World} (hR : Rep m ρ st a w) {Q : Exit → Act → World → Prop} (hK : StepPost m ρ st st' w (Q x.to)) : c.wp P Q a w :=
  (codeX_both hcall hdraw hF n).1 h hR hK

end

end Go.Eng
