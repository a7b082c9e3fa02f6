/-
  Regions in the order of the text, code, calls: what the symbolic machine tells of them, the machine does.
-/
import Derived.Test.YtgielkefgliiiaaEngM
import Derived.LoopN
namespace Go.Eng

section
variable {P : Program} {F : Facts}

/-- One operation of a region, by the machine. -/
def StepPost (m : Emb) (ρ : Env) (st st' : St) (w : World) (K : Act → World → Prop) : Prop :=
  ∀ a' w' m', Rep m' ρ st' a' w' → Trans m st.heap w m' st'.heap w' → K a' w'

theorem stepX_sound {call : CallD} (hcall : CallOk P F call) {ρ : Env} (hF : F.ok ρ) {ops : Array Oper} {o : Oper} {st st' : St} (h : stepX P F call ops o st = some st') {m : Emb} {a : Act} {w : World} (hR : Rep m ρ st a w)
    {K : Act → World → Prop} {Q : Exit → Act → World → Prop} (hK : ∀ v w' m', Rep m' ρ st' (a.put o.dst v) w' → Trans m st.heap w m' st'.heap w' → K (a.put o.dst v) w') :
    if Region.wanted o (yielded ops a.tmps) then o.wp P a w K Q ∨ (o.asks P a w ∧ LetsOut Q) else K (a.put o.dst undef) w := by
  unfold stepX at h
  split at h
  · rename_i hw
    rw [wantD_spec hF hR hw]
    simp only [Bool.false_eq_true, if_false]
    obtain ⟨h1, h2, h3⟩ := rep_put hR (d := .tup []) (v := undef) (by simp [DV.R, DV.RL, undef]) h
    exact hK _ _ _ h1 (by rw [h2]; exact Trans.refl _ _ _)
  · rename_i hw
    rw [wantD_spec hF hR hw]
    simp only [if_true]
    left
    unfold Oper.wp
    split at h
    · rename_i d hd
      obtain ⟨v, hrun, hr⟩ := valD_sound hF hR.heap hR.tmps hd
      rw [hrun]
      simp only [Oper.upon]
      obtain ⟨h1, h2, h3⟩ := rep_put hR hr h
      exact hK _ _ _ h1 (by rw [h2]; exact Trans.refl _ _ _)
    · split at h
      · rename_i r hr
        obtain ⟨nx, v, w', m', hrun, hnx, hd, hH, hT, hf⟩ := memD_sound hF hR.heap hR.tmps hR.fresh hr
        rw [hrun]
        obtain ⟨h1, h2, h3⟩ := rep_put (rep_mem hR hH hT.ext hf) hd h
        rcases hnx with rfl | ⟨rfl, rfl⟩
        · simp only [Oper.upon]; exact hK _ _ _ h1 (by rw [h2]; exact hT)
        · simp only [Oper.upon]; exact hK _ _ _ h1 (by rw [h2]; exact hT)
      · split at h
        · rename_i g args hg
          split at h
          · rename_i r hr
            obtain ⟨vs, hrun, hvs⟩ := calleeD_run hR.tmps hg w
            rw [hrun]
            simp only [Oper.upon]
            refine (hcall g args st.heap st.next r hr ρ hF m w vs hvs hR.heap hR.fresh).mono fun e w' ⟨v, m', he, hd, hH, hT, hf⟩ => ?_
            subst he
            obtain ⟨h1, h2, h3⟩ := rep_put (rep_mem hR hH hT.ext hf) hd h
            exact hK _ _ _ h1 (by rw [h2]; exact hT)
          · cases h
        · cases h
  · cases h

theorem opsX_sound {call : CallD} (hcall : CallOk P F call) {ρ : Env} (hF : F.ok ρ) {ops : Array Oper} {Q : Exit → Act → World → Prop} :
    ∀ (l : List Nat) {st st' : St}, opsX P F call ops l st = some st' → ∀ {m : Emb} {a : Act} {w : World}, Rep m ρ st a w → StepPost m ρ st st' w (Q .normal) → wpOps P ops Q l a w
  | [], st, st', h, m, a, w, hR, hK => by
    simp [opsX] at h; subst h
    simp only [wpOps]
    exact hK _ _ _ hR (Trans.refl _ _ _)
  | i :: r, st, st', h, m, a, w, hR, hK => by
    simp only [opsX] at h
    simp only [wpOps]
    split at h
    · rename_i ho; simp only [ho]; exact opsX_sound hcall hF r h hR hK
    · rename_i o ho
      simp only [ho]
      split at h
      · rename_i st1 h1
        exact stepX_sound hcall hF h1 hR fun v w' m' hR' hT => opsX_sound hcall hF r h hR' fun a2 w2 m2 hR2 hT2 => hK _ _ _ hR2 (hT.trans hT2)
      · cases h

/-- What a region that draws its order is told to do. -/
def DrawOk (P : Program) (F : Facts) (draw : Array Oper → St → Option St) : Prop :=
  ∀ ops st st', draw ops st = some st' → ∀ ρ, F.ok ρ → ∀ m a w, Rep m ρ st a w → ∀ (id : Nat) (Q : Exit → Act → World → Prop), StepPost m ρ st st' w (Q .normal) → (Code.region id ops true).wp P Q a w

/-- What is asked of each end. -/
def CR.Post (m : Emb) (ρ : Env) (st : St) (w : World) (Q : Exit → Act → World → Prop) : CR → Prop
  | .leaf x st' => StepPost m ρ st st' w (Q x.to)
  | .node e a b => ((e.ev ρ).bool = true → CR.Post m ρ st w Q a) ∧ ((e.ev ρ).bool = false → CR.Post m ρ st w Q b)

theorem CR.Post.shift {m m1 : Emb} {ρ : Env} {st st1 : St} {w w1 : World} {Q : Exit → Act → World → Prop} (hT : Trans m st.heap w m1 st1.heap w1) : ∀ {r : CR}, r.Post m ρ st w Q → r.Post m1 ρ st1 w1 Q
  | .leaf x st', h => fun a' w' m' hR hT' => h a' w' m' hR (hT.trans hT')
  | .node e a b, h => ⟨fun hc => CR.Post.shift hT (h.1 hc), fun hc => CR.Post.shift hT (h.2 hc)⟩

theorem mkCR_post {F : Facts} {ρ : Env} (hF : F.ok ρ) {e : E} {n0 : Nat} {a b : CR} {m : Emb} {st : St} {w : World} {Q : Exit → Act → World → Prop} (h : (mkCR F e n0 a b).Post m ρ st w Q) :
    ((e.ev ρ).bool = true → a.Post m ρ st w Q) ∧ ((e.ev ρ).bool = false → b.Post m ρ st w Q) := by
  unfold mkCR at h
  split at h
  · rename_i x s y t
    split at h
    · rename_i e1
      subst e1
      split at h
      · rename_i z hz
        refine ⟨fun hc a' w' m' hR hT => ?_, fun hc a' w' m' hR hT => ?_⟩
        · obtain ⟨g1, g2⟩ := (mergeSt_ok (m := m') hF hz).1 hc
          exact h a' w' m' (g1 hR) ⟨hT.ext, hT.size, hT.frame, fun b hb => hT.fp b (g2 b hb), hT.tape, hT.os, hT.output⟩
        · obtain ⟨g1, g2⟩ := (mergeSt_ok (m := m') hF hz).2 hc
          exact h a' w' m' (g1 hR) ⟨hT.ext, hT.size, hT.frame, fun b hb => hT.fp b (g2 b hb), hT.tape, hT.os, hT.output⟩
      · exact h
    · exact h
  · exact h

theorem CR.bind_post {S : Env → Prop} {ρ : Env} {n0 : Nat} {k : Facts → St → Option CR} {m : Emb} {st : St} {w : World} {Q : Exit → Act → World → Prop} {K : Act → World → Prop}
    (hk : ∀ F' st1 r1, F'.sem = S → F'.ok ρ → k F' st1 = some r1 → ∀ m1 a1 w1, Rep m1 ρ st1 a1 w1 → r1.Post m1 ρ st1 w1 Q → K a1 w1) :
    ∀ {r r' : CR} {F : Facts}, F.sem = S → F.ok ρ → CR.bind n0 k F r = some r' → r'.Post m ρ st w Q → r.Post m ρ st w (Exit.then K Q)
  | .leaf x st1, r', F, hS, hF, h, hp => by
    cases x with
    | norm =>
      simp only [CR.bind] at h
      exact fun a1 w1 m1 hR hT => hk F st1 r' hS hF h m1 a1 w1 hR (hp.shift hT)
    | exit id => simp only [CR.bind] at h; cases h; exact hp
    | ret => simp only [CR.bind] at h; cases h; exact hp
  | .node e a b, r', F, hS, hF, h, hp => by
    simp only [CR.bind] at h
    split at h
    · rename_i x y hx hy
      cases h
      obtain ⟨h1, h2⟩ := mkCR_post hF hp
      exact ⟨fun hc => CR.bind_post hk ((Facts.cons_sem F e true).trans hS) (facts_cons hF hc) hx (h1 hc), fun hc => CR.bind_post hk ((Facts.cons_sem F e false).trans hS) (facts_cons hF hc) hy (h2 hc)⟩
    · cases h

theorem CR.out_post {ρ : Env} {n0 id : Nat} {m : Emb} {st : St} {w : World} {Q : Exit → Act → World → Prop} : ∀ {r : CR} {F : Facts}, F.ok ρ → (CR.out n0 id F r).Post m ρ st w Q → r.Post m ρ st w (Exit.inBlock id Q)
  | .leaf x st1, F, hF, h => by
    cases x with
    | norm => exact h
    | ret => exact h
    | exit id' =>
      simp only [CR.out] at h
      intro a1 w1 m1 hR hT
      simp only [Ex.to, Exit.inBlock]
      split at h
      · rename_i e; simp only [e, if_true]; exact h a1 w1 m1 hR hT
      · rename_i e; simp only [e, if_false]; exact h a1 w1 m1 hR hT
  | .node e a b, F, hF, h => by
    simp only [CR.out] at h
    obtain ⟨h1, h2⟩ := mkCR_post hF h
    exact ⟨fun hc => CR.out_post (facts_cons hF hc) (h1 hc), fun hc => CR.out_post (facts_cons hF hc) (h2 hc)⟩

theorem codeX_both {S : Env → Prop} {callF : Facts → CallD} (hcall : ∀ F, F.sem = S → CallOk P F (callF F)) {drawF : Facts → Array Oper → St → Option St} (hdraw : ∀ F, F.sem = S → DrawOk P F (drawF F)) (lim : Nat) {ρ : Env} :
    ∀ (n : Nat),
      (∀ {F : Facts} {c : Code} {st : St} {r : CR}, F.sem = S → F.ok ρ → codeX P callF drawF lim n F c st = some r → ∀ {m : Emb} {a : Act} {w : World}, Rep m ρ st a w → ∀ {Q : Exit → Act → World → Prop}, r.Post m ρ st w Q → c.wp P Q a w) ∧
      (∀ {F : Facts} {b : Code} {st : St} {r : CR}, F.sem = S → F.ok ρ → codeX P callF drawF lim n F (.loop b) st = some r → ∀ {m : Emb} {a : Act} {w : World}, Rep m ρ st a w → ∀ {Q : Exit → Act → World → Prop}, r.Post m ρ st w Q → Code.rounds P b Q n a w) := by
  intro n
  induction n with
  | zero => exact ⟨fun _ _ h => by simp [codeX] at h, fun _ _ h => by simp [codeX] at h⟩
  | succ n ihn =>
    obtain ⟨ih, ihl⟩ := ihn
    have B : ∀ {F : Facts} {b : Code} {st : St} {r : CR}, F.sem = S → F.ok ρ → codeX P callF drawF lim (n + 1) F (.loop b) st = some r → ∀ {m : Emb} {a : Act} {w : World}, Rep m ρ st a w → ∀ {Q : Exit → Act → World → Prop}, r.Post m ρ st w Q → Code.rounds P b Q (n + 1) a w := by
      intro F b st r hS hF h m a w hR Q hK
      simp only [codeX] at h
      rw [rounds_succ]
      split at h
      · rename_i r1 h1
        exact ih hS hF h1 hR (CR.bind_post (S := S) (fun F' st1 r2 hS' hF' h2 m1 a1 w1 hR1 hp => ihl hS' hF' h2 hR1 hp) hS hF h hK)
      · cases h
    refine ⟨?_, B⟩
    intro F c st r hS hF h m a w hR Q hK
    by_cases hl : ∃ b, c = .loop b
    · obtain ⟨b, rfl⟩ := hl
      exact wp_loop_rounds (n + 1) (B hS hF h hR hK)
    cases c <;> simp only [codeX, reduceCtorEq] at h
    case loop b => exact absurd ⟨b, rfl⟩ hl
    case skip => cases h; exact wp_skip (hK _ _ _ hR (Trans.refl _ _ _))
    case label l => cases h; exact wp_label (hK _ _ _ hR (Trans.refl _ _ _))
    case exit id => cases h; exact wp_exit (hK _ _ _ hR (Trans.refl _ _ _))
    case ret => cases h; exact wp_ret (hK _ _ _ hR (Trans.refl _ _ _))
    case region id ops dr =>
      cases dr with
      | false =>
        simp only [Option.map_eq_some_iff] at h
        obtain ⟨st1, h1, rfl⟩ := h
        exact wp_region (opsX_sound (hcall F hS) hF _ h1 hR hK)
      | true =>
        simp only [Option.map_eq_some_iff] at h
        obtain ⟨st1, h1, rfl⟩ := h
        exact hdraw F hS ops st st1 h1 ρ hF m a w hR id Q hK
    case seq c1 c2 =>
      split at h
      · rename_i r1 h1
        exact wp_seq (ih hS hF h1 hR (CR.bind_post (S := S) (fun F' st1 r2 hS' hF' h2 m1 a1 w1 hR1 hp => ih hS' hF' h2 hR1 hp) hS hF h hK))
      · cases h
    case cond e0 c1 c2 =>
      split at h
      · rename_i e he
        have hc := opd_R hR.tmps he
        simp only [DV.R] at hc
        split at h
        · rename_i hd
          have := E.dec_sound hF hd
          rw [this] at hc
          exact wp_cond_true hc (ih hS hF h hR hK)
        · rename_i hd
          have := E.dec_sound hF hd
          rw [this] at hc
          exact wp_cond_false hc (ih hS hF h hR hK)
        · split at h
          · split at h
            · rename_i x y hx hy
              cases h
              obtain ⟨h1, h2⟩ := mkCR_post hF hK
              cases hv : (e.ev ρ).bool with
              | true => rw [hv] at hc; exact wp_cond_true hc (ih ((Facts.cons_sem F e true).trans hS) (facts_cons hF hv) hx hR (h1 hv))
              | false => rw [hv] at hc; exact wp_cond_false hc (ih ((Facts.cons_sem F e false).trans hS) (facts_cons hF hv) hy hR (h2 hv))
            · cases h
          · cases h
      · cases h
    case block id b =>
      simp only [Option.map_eq_some_iff] at h
      obtain ⟨r1, h1, rfl⟩ := h
      exact wp_block (ih hS hF h1 hR (CR.out_post hF hK))

theorem codeX_sound {S : Env → Prop} {callF : Facts → CallD} (hcall : ∀ F, F.sem = S → CallOk P F (callF F)) {drawF : Facts → Array Oper → St → Option St} (hdraw : ∀ F, F.sem = S → DrawOk P F (drawF F)) {lim : Nat} {ρ : Env}
    (n : Nat) {F : Facts} (hS : F.sem = S) (hF : F.ok ρ) {c : Code} {st : St} {r : CR} (h : codeX P callF drawF lim n F c st = some r) {m : Emb} {a : Act} {w : World} (hR : Rep m ρ st a w) {Q : Exit → Act → World → Prop} (hK : r.Post m ρ st w Q) : c.wp P Q a w :=
  (codeX_both hcall hdraw lim n).1 hS hF h hR hK

end

end Go.Eng
