/-
  Segments: the machine that stops at the heads of told loops.
-/
import Derived.Test.YtgielkefgliiiaaEngAA
namespace Go.Eng
open Go.RowKit

/-- What is still to be done behind a code. -/
inductive Kf where
  | seq (b : Code) (rp : List Nat)
  | block (id : Nat)
  | loop (b : Code) (rp : List Nat)

section
variable (P : Program)

/-- At the head of a loop. -/
def HeadWp (c : Code) (Q : Exit → Act → World → Prop) (a : Act) (w : World) : Prop :=
  ∀ (b : Frame) (k : List Item) (cs : List Frame), ∃ e a' w', Q e a' w' ∧ Arrives P (lone (b.at a (.code c :: .inLoop c :: k)) cs w) b k cs e a' w'

variable {P}

theorem HeadWp.loop {c : Code} {Q : Exit → Act → World → Prop} {a : Act} {w : World} (h : HeadWp P c Q a w) : (Code.loop c).wp P Q a w := by
  intro b k cs
  obtain ⟨e, a', w', hq, harr⟩ := h b k cs
  exact ⟨e, a', w', hq, .of_steps (.one step_loop) harr⟩

theorem HeadWp.step {c : Code} {Q : Exit → Act → World → Prop} {a : Act} {w : World} (h : c.wp P (Exit.then (HeadWp P c Q) Q) a w) : HeadWp P c Q a w := by
  intro b k cs
  obtain ⟨e, a₁, w₁, hq, harr⟩ := h b (.inLoop c :: k) cs
  cases e with
  | normal =>
    obtain ⟨e₂, a₂, w₂, hq₂, harr₂⟩ := hq b k cs
    exact ⟨e₂, a₂, w₂, hq₂, .of_steps (Steps.trans harr (.one step_inLoop)) harr₂⟩
  | exit id => exact ⟨_, a₁, w₁, hq, .pass (x := .inLoop c) rfl (fun _ _ => .inl (by simp)) harr⟩
  | goto l => exact ⟨_, a₁, w₁, hq, .pass (x := .inLoop c) rfl (fun _ _ => .inl (by simp)) harr⟩
  | ret => exact ⟨_, a₁, w₁, hq, .pass (x := .inLoop c) rfl (fun _ _ => .inl (by simp)) harr⟩
  | panic ch => exact ⟨_, a₁, w₁, hq, .pass (x := .inLoop c) rfl (fun _ _ => .inl (by simp)) harr⟩
  | outgrown => exact ⟨_, a₁, w₁, hq, .pass (x := .inLoop c) rfl (fun _ _ => .inl (by simp)) harr⟩

variable (P)

/-- What is asked ahead of what is still to be done. -/
def unw (Q : Exit → Act → World → Prop) : List Kf → Exit → Act → World → Prop
  | [] => Q
  | .seq b _ :: ks => Exit.then (b.wp P (unw Q ks)) (unw Q ks)
  | .block id :: ks => Exit.inBlock id (unw Q ks)
  | .loop b _ :: ks => Exit.then (HeadWp P b (unw Q ks)) (unw Q ks)

end

/-- Where a path leads. The path is told from its end. -/
def locate (root : Code) : List Nat → Option (Code × List Kf)
  | [] => some (root, [])
  | 0 :: rp => match locate root rp with
    | some (.seq a b, ks) => some (a, .seq b (1 :: rp) :: ks)
    | some (.cond _ a _, ks) => some (a, ks)
    | some (.block id b, ks) => some (b, .block id :: ks)
    | some (.loop b, ks) => some (b, .loop b rp :: ks)
    | _ => none
  | 1 :: rp => match locate root rp with
    | some (.seq _ b, ks) => some (b, ks)
    | some (.cond _ _ b, ks) => some (b, ks)
    | _ => none
  | _ => none

inductive SegR where
  | fin (x : Ex) (st : St)
  | head (rp : List Nat) (st : St)

def KsOk (root : Code) : List Kf → Prop
  | [] => True
  | .seq b rp :: ks => locate root rp = some (b, ks) ∧ KsOk root ks
  | .block _ :: ks => KsOk root ks
  | .loop b rp :: ks => locate root rp = some (.loop b, ks) ∧ KsOk root ks

section
variable (P : Program) (F : Facts) (call : CallD) (draw : Array Oper → St → Option St) (stops : List (List Nat))

/-- What comes next: a code at a path, or a way out. -/
inductive Nx where
  | code (c : Code) (rp : List Nat)
  | out (x : Ex)

def segX : Nat → Nx → List Kf → St → Option SegR
  | 0, _, _, _ => none
  | n + 1, .code c rp, ks, st => match c with
    | .skip => segX n (.out .norm) ks st
    | .label _ => segX n (.out .norm) ks st
    | .region _ ops false => match opsX P F call ops (List.range ops.size) st with
      | some st' => segX n (.out .norm) ks st'
      | none => none
    | .region _ ops true => match draw ops st with
      | some st' => segX n (.out .norm) ks st'
      | none => none
    | .seq a b => segX n (.code a (0 :: rp)) (.seq b (1 :: rp) :: ks) st
    | .cond c a b => match opd st.tmps c with
      | some (.bool e) => match e.dec F with
        | some true => segX n (.code a (0 :: rp)) ks st
        | some false => segX n (.code b (1 :: rp)) ks st
        | none => none
      | _ => none
    | .block id b => segX n (.code b (0 :: rp)) (.block id :: ks) st
    | .loop b => if stops.elem rp then some (.head rp st) else segX n (.code b (0 :: rp)) (.loop b rp :: ks) st
    | .exit id => segX n (.out (.exit id)) ks st
    | .ret => segX n (.out .ret) ks st
    | _ => none
  | n + 1, .out x, ks, st => match ks with
    | [] => some (.fin x st)
    | .seq b rp :: ks' => match x with
      | .norm => segX n (.code b rp) ks' st
      | x => segX n (.out x) ks' st
    | .block id :: ks' => match x with
      | .exit id' => if id' = id then segX n (.out .norm) ks' st else segX n (.out (.exit id')) ks' st
      | x => segX n (.out x) ks' st
    | .loop b rp :: ks' => match x with
      | .norm => if stops.elem rp then some (.head rp st) else segX n (.code b (0 :: rp)) (.loop b rp :: ks') st
      | x => segX n (.out x) ks' st

variable {P} {F} {call} {draw} {stops}

/-- What is asked of where a segment ends. -/
def SegPost (P : Program) (root : Code) (Q : Exit → Act → World → Prop) (m : Emb) (ρ : Env) (st : St) (w : World) : SegR → Prop
  | .fin x st' => StepPost m ρ st st' w (Q x.to)
  | .head rp st' => StepPost m ρ st st' w fun a' w' => ∀ b ks, locate root rp = some (.loop b, ks) → HeadWp P b (unw P Q ks) a' w'

theorem SegPost.shift {root : Code} {Q : Exit → Act → World → Prop} {m m1 : Emb} {ρ : Env} {st st1 : St} {w w1 : World} {r : SegR} (h : SegPost P root Q m ρ st w r) (hT : Trans m st.heap w m1 st1.heap w1) :
    SegPost P root Q m1 ρ st1 w1 r := by
  cases r with
  | fin x st' => exact fun a' w' m' hR hT' => h a' w' m' hR (hT.trans hT')
  | head rp st' => exact fun a' w' m' hR hT' => h a' w' m' hR (hT.trans hT')

def NxOk (root : Code) (ks : List Kf) : Nx → Prop
  | .code c rp => locate root rp = some (c, ks)
  | .out _ => True

def NxWp (P : Program) (Q : Exit → Act → World → Prop) (ks : List Kf) (a : Act) (w : World) : Nx → Prop
  | .code c _ => c.wp P (unw P Q ks) a w
  | .out x => unw P Q ks x.to a w

theorem segX_sound (hcall : CallOk P F call) (hdraw : DrawOk P F draw) {root : Code} {Q : Exit → Act → World → Prop} {ρ : Env} (hF : F.ok ρ) : ∀ (n : Nat) {s : Nx} {ks : List Kf} {st : St} {r : SegR}, segX P F call draw stops n s ks st = some r →
    KsOk root ks → NxOk root ks s → ∀ {m : Emb} {a : Act} {w : World}, Rep m ρ st a w → SegPost P root Q m ρ st w r → NxWp P Q ks a w s := by
  intro n
  induction n with
  | zero => intro s ks st r h; simp [segX] at h
  | succ n ih =>
    intro s ks st r h hks hs m a w hR hK
    cases s with
    | code c rp =>
      simp only [NxOk] at hs
      simp only [NxWp]
      cases c <;> simp only [segX, reduceCtorEq] at h
      case skip => exact wp_skip (ih h hks trivial hR hK)
      case label l => exact wp_label (ih h hks trivial hR hK)
      case exit id => exact wp_exit (ih (s := .out (.exit id)) h hks trivial hR hK)
      case ret => exact wp_ret (ih (s := .out .ret) h hks trivial hR hK)
      case region id ops dr =>
        cases dr with
        | false =>
          simp only at h
          split at h
          · rename_i st1 h1
            exact wp_region (opsX_sound hcall hF _ h1 hR fun a' w' m' hR' hT' => ih (s := .out .norm) h hks trivial hR' (hK.shift hT'))
          · cases h
        | true =>
          simp only at h
          split at h
          · rename_i st1 h1
            exact hdraw ops st st1 h1 ρ hF m a w hR id _ fun a' w' m' hR' hT' => ih (s := .out .norm) h hks trivial hR' (hK.shift hT')
          · cases h
      case seq c1 c2 =>
        refine wp_seq ?_
        have h0 : locate root (0 :: rp) = some (c1, .seq c2 (1 :: rp) :: ks) := by simp [locate, hs]
        have h1 : locate root (1 :: rp) = some (c2, ks) := by simp [locate, hs]
        have := ih (s := .code c1 (0 :: rp)) h ⟨h1, hks⟩ h0 hR hK
        exact this
      case cond e0 c1 c2 =>
        split at h
        · rename_i e he
          have hc := opd_R hR.tmps he
          simp only [DV.R] at hc
          split at h
          · rename_i hd
            have := E.dec_sound hF hd
            rw [this] at hc
            exact wp_cond_true hc (ih (s := .code c1 (0 :: rp)) h hks (by simp [NxOk, locate, hs]) hR hK)
          · rename_i hd
            have := E.dec_sound hF hd
            rw [this] at hc
            exact wp_cond_false hc (ih (s := .code c2 (1 :: rp)) h hks (by simp [NxOk, locate, hs]) hR hK)
          · cases h
        · cases h
      case block id b =>
        exact wp_block (ih (s := .code b (0 :: rp)) (ks := .block id :: ks) h hks (by simp [NxOk, locate, hs]) hR hK)
      case loop b =>
        split at h
        · cases h
          exact HeadWp.loop (hK a w m hR (Trans.refl _ _ _) b ks hs)
        · exact HeadWp.loop (HeadWp.step (ih (s := .code b (0 :: rp)) (ks := .loop b rp :: ks) h ⟨hs, hks⟩ (by simp [NxOk, locate, hs]) hR hK))
    | out x =>
      simp only [NxWp]
      simp only [segX] at h
      split at h
      · cases h
        exact hK a w m hR (Trans.refl _ _ _)
      · rename_i b rp ks'
        obtain ⟨hb, hks'⟩ := hks
        split at h
        · exact ih (s := .code b rp) h hks' hb hR hK
        · rename_i hx
          have := ih (s := .out x) h hks' trivial hR hK
          simp only [NxWp] at this
          cases x with
          | norm => exact absurd rfl hx
          | exit id => exact this
          | ret => exact this
      · rename_i id ks'
        split at h
        · rename_i id'
          simp only [unw, Ex.to, Exit.inBlock]
          split at h
          · rename_i e
            rw [if_pos e]
            exact ih (s := .out .norm) h hks trivial hR hK
          · rename_i e
            rw [if_neg e]
            exact ih (s := .out (.exit id')) h hks trivial hR hK
        · rename_i hx
          have := ih (s := .out x) h hks trivial hR hK
          simp only [NxWp] at this
          cases x with
          | norm => exact this
          | exit id' => exact absurd rfl (hx id')
          | ret => exact this
      · rename_i b rp ks'
        obtain ⟨hb, hks'⟩ := hks
        split at h
        · simp only [unw, Ex.to, Exit.then]
          split at h
          · cases h
            exact hK a w m hR (Trans.refl _ _ _) b ks' hb
          · exact HeadWp.step (ih (s := .code b (0 :: rp)) (ks := .loop b rp :: ks') h ⟨hb, hks'⟩ (by simp [NxOk, locate, hb]) hR hK)
        · rename_i hx
          have := ih (s := .out x) h hks' trivial hR hK
          simp only [NxWp] at this
          cases x with
          | norm => exact absurd rfl hx
          | exit id => exact this
          | ret => exact this
end
end Go.Eng
