/-
  Segments: the machine that stops at the heads of told loops.
-/
import Derived.Test.YtcebboibpbbgdaaGreatDoorEngG10
import Derived.Test.YtcebboibpbbgdaaGreatDoorEngG8
namespace Go.Eng
open Go.RowKit

/-- What is still to be done behind a code. -/
inductive Kf where
  | seq (b : Code) (rp : List Nat)
  | block (id : Nat)
  | loop (b : Code) (rp : List Nat)

section
variable (P : Program)

/-- At the head of a loop. -/
def HeadWp (c : Code) (Q : Exit → Act → World → Prop) (a : Act) (w : World) : Prop :=
  ∀ (b : Frame) (k : List Item) (cs : List Frame), ∃ e a' w', Q e a' w' ∧ Arrives P (lone (b.at a (.code c :: .inLoop c :: k)) cs w) b k cs e a' w'

variable {P}

theorem HeadWp.loop {c : Code} {Q : Exit → Act → World → Prop} {a : Act} {w : World} (h : HeadWp P c Q a w) : (Code.loop c).wp P Q a w := by
  intro b k cs
  obtain ⟨e, a', w', hq, harr⟩ := h b k cs
  exact ⟨e, a', w', hq, .of_steps (.one step_loop) harr⟩

theorem HeadWp.step {c : Code} {Q : Exit → Act → World → Prop} {a : Act} {w : World} (h : c.wp P (Exit.then (HeadWp P c Q) Q) a w) : HeadWp P c Q a w := by
  intro b k cs
  obtain ⟨e, a₁, w₁, hq, harr⟩ := h b (.inLoop c :: k) cs
  cases e with
  | normal =>
    obtain ⟨e₂, a₂, w₂, hq₂, harr₂⟩ := hq b k cs
    exact ⟨e₂, a₂, w₂, hq₂, .of_steps (Steps.trans harr (.one step_inLoop)) harr₂⟩
  | exit id => exact ⟨_, a₁, w₁, hq, .pass (x := .inLoop c) rfl (fun _ _ => .inl (by simp)) harr⟩
  | goto l => exact ⟨_, a₁, w₁, hq, .pass (x := .inLoop c) rfl (fun _ _ => .inl (by simp)) harr⟩
  | ret => exact ⟨_, a₁, w₁, hq, .pass (x := .inLoop c) rfl (fun _ _ => .inl (by simp)) harr⟩
  | panic ch => exact ⟨_, a₁, w₁, hq, .pass (x := .inLoop c) rfl (fun _ _ => .inl (by simp)) harr⟩
  | outgrown => exact ⟨_, a₁, w₁, hq, .pass (x := .inLoop c) rfl (fun _ _ => .inl (by simp)) harr⟩

variable (P)

/-- What is asked ahead of what is still to be done. -/
def unw (Q : Exit → Act → World → Prop) : List Kf → Exit → Act → World → Prop
  | [] => Q
  | .seq b _ :: ks => Exit.then (b.wp P (unw Q ks)) (unw Q ks)
  | .block id :: ks => Exit.inBlock id (unw Q ks)
  | .loop b _ :: ks => Exit.then (HeadWp P b (unw Q ks)) (unw Q ks)

end

/-- Where a path leads. The path is told from its end. -/
def locate (root : Code) : List Nat → Option (Code × List Kf)
  | [] => some (root, [])
  | 0 :: rp => match locate root rp with
    | some (.seq a b, ks) => some (a, .seq b (1 :: rp) :: ks)
    | some (.cond _ a _, ks) => some (a, ks)
    | some (.block id b, ks) => some (b, .block id :: ks)
    | some (.loop b, ks) => some (b, .loop b rp :: ks)
    | _ => none
  | 1 :: rp => match locate root rp with
    | some (.seq _ b, ks) => some (b, ks)
    | some (.cond _ _ b, ks) => some (b, ks)
    | _ => none
  | _ => none

inductive SegR where
  | fin (x : Ex) (st : St)
  | head (rp : List Nat) (st : St)

def KsOk (root : Code) : List Kf → Prop
  | [] => True
  | .seq b rp :: ks => locate root rp = some (b, ks) ∧ KsOk root ks
  | .block _ :: ks => KsOk root ks
  | .loop b rp :: ks => locate root rp = some (.loop b, ks) ∧ KsOk root ks

section
variable (P : Program) (F : Facts) (call : CallD) (draw : Array Oper → St → Option St) (stops : List (List Nat))

/-- What comes next: a code at a path, or a way out. -/
inductive Nx where
  | code (c : Code) (rp : List Nat)
  | out (x : Ex)

def segX : Nat → Nx → List Kf → St → Option SegR
  | 0, _, _, _ => none
  | n + 1, .code c rp, ks, st => match c with
    | .skip => segX n (.out .norm) ks st
    | .label _ => segX n (.out .norm) ks st
    | .region _ ops false => match opsX P F call ops (List.range ops.size) st with
      | some st' => segX n (.out .norm) ks st'
      | none => none
    | .region _ ops true => match draw ops st with
      | some st' => segX n (.out .norm) ks st'
      | none => none
    | .seq a b => segX n (.code a (0 :: rp)) (.seq b (1 :: rp) :: ks) st
    | .cond c a b => match opd st.tmps c with
      | some (.bool e) => match e.dec F with
        | some true => segX n (.code a (0 :: rp)) ks st
        | some false => segX n (.code b (1 :: rp)) ks st
        | none => none
      | _ => none
    | .block id b => segX n (.code b (0 :: rp)) (.block id :: ks) st
    | .loop b => if stops.elem rp then some (.head rp st) else segX n (.code b (0 :: rp)) (.loop b rp :: ks) st
    | .exit id => segX n (.out (.exit id)) ks st
    | .ret => segX n (.out .ret) ks st
    | _ => none
  | n + 1, .out x, ks, st => match ks with
    | [] => some (.fin x st)
    | .seq b rp :: ks' => match x with
      | .norm => segX n (.code b rp) ks' st
      | x => segX n (.out x) ks' st
    | .block id :: ks' => match x with
      | .exit id' => if id' = id then segX n (.out .norm) ks' st else segX n (.out (.exit id')) ks' st
      | x => segX n (.out x) ks' st
    | .loop b rp :: ks' => match x with
      | .norm => if stops.elem rp then some (.head rp st) else segX n (.code b (0 :: rp)) (.loop b rp :: ks') st
      | x => segX n (.out x) ks' st

variable {P} {F} {call} {draw} {stops}

/-- What is asked of where a segment ends. -/
def SegPost (P : Program) (root : Code) (Q : Exit → Act → World → Prop) (m : Emb) (ρ : Env) (st : St) (w : World) : SegR → Prop
  | .fin x st' => StepPost m ρ st st' w (Q x.to)
  | .head rp st' => StepPost m ρ st st' w fun a' w' => ∀ b ks, locate root rp = some (.loop b, ks) → HeadWp P b (unw P Q ks) a' w'

theorem SegPost.shift {root : Code} {Q : Exit → Act → World → Prop} {m m1 : Emb} {ρ : Env} {st st1 : St} {w w1 : World} {r : SegR} (h : SegPost P root Q m ρ st w r) (hT : Trans m st.heap w m1 st1.heap w1) :
    SegPost P root Q m1 ρ st1 w1 r := by
  cases r with
  | fin x st' => exact fun a' w' m' hR hT' => h a' w' m' hR (hT.trans hT')
  | head rp st' => exact fun a' w' m' hR hT' => h a' w' m' hR (hT.trans hT')

def NxOk (root : Code) (ks : List Kf) : Nx → Prop
  | .code c rp => locate root rp = some (c, ks)
  | .out _ => True

def NxWp (P : Program) (Q : Exit → Act → World → Prop) (ks : List Kf) (a : Act) (w : World) : Nx → Prop
  | .code c _ => c.wp P (unw P Q ks) a w
  | .out x => unw P Q ks x.to a w

theorem segX_sound (hcall : CallOk P F call) (hdraw : DrawOk P F draw) {root : Code} {Q : Exit → Act → World → Prop} {ρ : Env} (hF : F.ok ρ) : ∀ (n : Nat) {s : Nx} {ks : List Kf} {st : St} {r : SegR}, segX P F call draw stops n s ks st = some r →
    KsOk root ks → NxOk root ks s → ∀ {m : Emb} {a : Act} {w : World}, Rep m ρ st a w → SegPost P root Q m ρ st w r → NxWp P Q ks a w s := by
  intro n
  induction n with
  | zero => intro s ks st r h; simp [segX] at h
  | succ n ih =>
    intro s ks st r h hks hs m a w hR hK
    cases s with
    | code c rp =>
      simp only [NxOk] at hs
      simp only [NxWp]
      cases c <;> simp only [segX, reduceCtorEq] at h
      case skip => exact wp_skip (ih h hks trivial hR hK)
      case label l => exact wp_label (ih h hks trivial hR hK)
      case exit id => exact wp_exit (ih (s := .out (.exit id)) h hks trivial hR hK)
      case ret => exact wp_ret (ih (s := .out .ret) h hks trivial hR hK)
      case region id ops dr =>
        cases dr with
        | false =>
          simp only at h
          split at h
          · rename_i st1 h1
            exact wp_region (opsX_sound hcall hF _ h1 hR fun a' w' m' hR' hT' => ih (s := .out .norm) h hks trivial hR' (hK.shift hT'))
          · cases h
        | true =>
          simp only at h
          split at h
          · rename_i st1 h1
            exact wpIn_wide.1 (region_draw_in (l := none) (n := 0) (.inl rfl) (hdraw ops st st1 h1 ρ hF m a w hR _ fun a' w' m' hR' hT' => ih (s := .out .norm) h hks trivial hR' (hK.shift hT')))
          · cases h
      case seq c1 c2 =>
        refine wp_seq ?_
        have h0 : locate root (0 :: rp) = some (c1, .seq c2 (1 :: rp) :: ks) := by simp [locate, hs]
        have h1 : locate root (1 :: rp) = some (c2, ks) := by simp [locate, hs]
        have := ih (s := .code c1 (0 :: rp)) h ⟨h1, hks⟩ h0 hR hK
        exact this
      case cond e0 c1 c2 =>
        split at h
        · rename_i e he
          have hc := opd_R hR.tmps he
          simp only [DV.R] at hc
          split at h
          · rename_i hd
            have := E.dec_sound hF hd
            rw [this] at hc
            exact wp_cond_true hc (ih (s := .code c1 (0 :: rp)) h hks (by simp [NxOk, locate, hs]) hR hK)
          · rename_i hd
            have := E.dec_sound hF hd
            rw [this] at hc
            exact wp_cond_false hc (ih (s := .code c2 (1 :: rp)) h hks (by simp [NxOk, locate, hs]) hR hK)
          · cases h
        · cases h
      case block id b =>
        exact wp_block (ih (s := .code b (0 :: rp)) (ks := .block id :: ks) h hks (by simp [NxOk, locate, hs]) hR hK)
      case loop b =>
        split at h
        · cases h
          exact HeadWp.loop (hK a w m hR (Trans.refl _ _ _) b ks hs)
        · exact HeadWp.loop (HeadWp.step (ih (s := .code b (0 :: rp)) (ks := .loop b rp :: ks) h ⟨hs, hks⟩ (by simp [NxOk, locate, hs]) hR hK))
    | out x =>
      simp only [NxWp]
      simp only [segX] at h
      split at h
      · cases h
        exact hK a w m hR (Trans.refl _ _ _)
      · rename_i b rp ks'
        obtain ⟨hb, hks'⟩ := hks
        split at h
        · exact ih (s := .code b rp) h hks' hb hR hK
        · rename_i hx
          have := ih (s := .out x) h hks' trivial hR hK
          simp only [NxWp] at this
          cases x with
          | norm => exact absurd rfl hx
          | exit id => exact this
          | ret => exact this
      · rename_i id ks'
        split at h
        · rename_i id'
          simp only [unw, Ex.to, Exit.inBlock]
          split at h
          · rename_i e
            rw [if_pos e]
            exact ih (s := .out .norm) h hks trivial hR hK
          · rename_i e
            rw [if_neg e]
            exact ih (s := .out (.exit id')) h hks trivial hR hK
        · rename_i hx
          have := ih (s := .out x) h hks trivial hR hK
          simp only [NxWp] at this
          cases x with
          | norm => exact this
          | exit id' => exact absurd rfl (hx id')
          | ret => exact this
      · rename_i b rp ks'
        obtain ⟨hb, hks'⟩ := hks
        split at h
        · simp only [unw, Ex.to, Exit.then]
          split at h
          · cases h
            exact hK a w m hR (Trans.refl _ _ _) b ks' hb
          · exact HeadWp.step (ih (s := .code b (0 :: rp)) (ks := .loop b rp :: ks') h ⟨hb, hks'⟩ (by simp [NxOk, locate, hb]) hR hK)
        · rename_i hx
          have := ih (s := .out x) h hks' trivial hR hK
          simp only [NxWp] at this
          cases x with
          | norm => exact absurd rfl hx
          | exit id => exact this
          | ret => exact this
end
end Go.Eng

/-
  A law with loops: what a state is at the head of each loop, and what goes down from head to head.
-/
namespace Go.Eng
open Go.RowKit

/-- What was done since: old blocks that may not be written are as they were. -/
structure Since (w0 : World) (S : Nat → Prop) (m : Emb) (h : T Blk) (w : World) : Prop where
  size : w0.heap.size ≤ w.heap.size
  frame : ∀ b, b < w0.heap.size → ¬ S b → w.heap[b]? = w0.heap[b]?
  fp : ∀ b, Fp m h b → S b ∨ w0.heap.size ≤ b
  tape : w.tape = w0.tape
  os : w.os = w0.os
  output : w.output = w0.output

theorem Since.start (m : Emb) (h : T Blk) (w : World) : Since w (Fp m h) m h w := ⟨Nat.le_refl _, fun _ _ _ => rfl, fun _ hb => .inl hb, rfl, rfl, rfl⟩

theorem Since.step {w0 : World} {S : Nat → Prop} {m m' : Emb} {h h' : T Blk} {w w' : World} (s : Since w0 S m h w) (t : Trans m h w m' h' w') : Since w0 S m' h' w' where
  size := Nat.le_trans s.size t.size
  frame := fun b hb hn => by
    rw [t.frame b (Nat.lt_of_lt_of_le hb s.size) (fun hf => by
      rcases s.fp b hf with h1 | h1
      · exact hn h1
      · omega), s.frame b hb hn]
  fp := fun b hf => by
    rcases t.fp b hf with h1 | h1
    · exact s.fp b h1
    · exact .inr (Nat.le_trans s.size h1)
  tape := t.tape.trans s.tape
  os := t.os.trans s.os
  output := t.output.trans s.output

theorem Since.pull {w0 : World} {S : Nat → Prop} {m m' : Emb} {h h' : T Blk} {w : World} (s : Since w0 S m h w) (hf : ∀ b, Fp m' h' b → Fp m h b) : Since w0 S m' h' w :=
  ⟨s.size, s.frame, fun b hb => s.fp b (hf b hb), s.tape, s.os, s.output⟩

theorem Since.below {w0 : World} {m : Emb} {h : T Blk} {w : World} {S : Nat → Prop} (s : Since w0 S m h w) (hS : ∀ b, ¬ S b) : Below w0.heap.size w0 w :=
  ⟨s.os, s.tape, s.output, s.size, fun k hk => s.frame k hk (hS k)⟩

theorem locate_ok {root : Code} : ∀ {rp : List Nat} {c : Code} {ks : List Kf}, locate root rp = some (c, ks) → KsOk root ks
  | [], c, ks, h => by simp [locate] at h; rw [h.2]; trivial
  | 0 :: rp, c, ks, h => by
    simp only [locate] at h
    split at h
    · rename_i a b ks' h'; cases h
      exact ⟨by simp [locate, h'], locate_ok h'⟩
    · rename_i e a b ks' h'; cases h; exact locate_ok h'
    · rename_i id b ks' h'; cases h; show KsOk root ks'; exact locate_ok h'
    · rename_i b ks' h'; cases h; exact ⟨h', locate_ok h'⟩
    · cases h
  | 1 :: rp, c, ks, h => by
    simp only [locate] at h
    split at h
    · rename_i a b ks' h'; cases h; exact locate_ok h'
    · rename_i e a b ks' h'; cases h; exact locate_ok h'
    · cases h
  | (n + 2) :: rp, c, ks, h => by simp [locate] at h

/-- Cells that a template has as a row are made one. -/
def convSt (F : Facts) (r : Nat → Nat) : List (Nat × Blk) → St → St
  | [], st => st
  | (id, .arr q a n sh t md) :: l, st => match st.heap.get (r id) with
    | some (.cells c t' md') => convSt F r l { st with heap := st.heap.set (r id) (asRow F (.arr q a n sh t md) (.cells c t' md')) }
    | _ => convSt F r l st
  | (id, .mix p a n sh s t md) :: l, st => match st.heap.get (r id) with
    | some (.cells c t' md') => convSt F r l { st with heap := st.heap.set (r id) (asRow F (.mix p a n sh s t md) (.cells c t' md')) }
    | _ => convSt F r l st
  | _ :: l, st => convSt F r l st

/-- One state tells no more than another one. -/
def StLe (ρ : Env) (st st' : St) : Prop := ∀ m a w, Rep m ρ st a w → Rep m ρ st' a w ∧ ∀ b, Fp m st'.heap b → Fp m st.heap b

theorem convSt_ok {F : Facts} {ρ : Env} (hF : F.ok ρ) (r : Nat → Nat) : ∀ (l : List (Nat × Blk)) (st : St), StLe ρ st (convSt F r l st)
  | [], st => fun m a w h => ⟨h, fun b hb => hb⟩
  | (id, .cells ..) :: l, st => by unfold convSt; exact convSt_ok hF r l st
  | (id, .mpb ..) :: l, st => by unfold convSt; exact convSt_ok hF r l st
  | (id, .itb ..) :: l, st => by unfold convSt; exact convSt_ok hF r l st
  | (id, .dead) :: l, st => by unfold convSt; exact convSt_ok hF r l st
  | (id, .lpb _) :: l, st => by unfold convSt; exact convSt_ok hF r l st
  | (id, .defb _) :: l, st => by unfold convSt; exact convSt_ok hF r l st
  | (id, .arr q x n sh t md) :: l, st => by
    unfold convSt
    split
    · rename_i c t' md' hg
      intro m a w hR
      have step : Rep m ρ { st with heap := st.heap.set (r id) (asRow F (.arr q x n sh t md) (.cells c t' md')) } a w ∧ ∀ b, Fp m (st.heap.set (r id) (asRow F (.arr q x n sh t md) (.cells c t' md'))) b → Fp m st.heap b := by
        have back : ∀ i B, (st.heap.set (r id) (asRow F (.arr q x n sh t md) (.cells c t' md'))).get i = some B → ∃ B', st.heap.get i = some B' ∧ B.rw = B'.rw ∧ B.live = B'.live ∧ ∀ k o, B'.R m ρ k o → B.R m ρ k o := by
          intro i B hB
          rw [T.get_set] at hB
          split at hB
          · rename_i e
            cases hB; subst e
            have := fun k o (h : (Blk.cells c t' md').R m ρ k o) => asRow_ok (T := .arr q x n sh t md) hF h
            exact ⟨_, hg, (asRow_rw _ _).1, (asRow_rw _ _).2, fun k o h => (this k o h).1⟩
          · exact ⟨B, hB, rfl, rfl, fun k o h => h⟩
        refine ⟨⟨hR.tmps, hR.size, ⟨fun i B hB hl => ?_, fun i j B C b hB hC h1 h2 hi hj => ?_⟩, hR.fresh, hR.dfs⟩, fun b ⟨i, B, hB, h1, hi⟩ => ?_⟩
        · obtain ⟨B', g1, g2, g3, g4⟩ := back i B hB
          obtain ⟨b, o, q1, q2, q3⟩ := hR.heap.blk i B' g1 (g3 ▸ hl)
          exact ⟨b, o, q1, q2, g4 _ _ q3⟩
        · obtain ⟨B', g1, g2, g3, g4⟩ := back i B hB
          obtain ⟨C', q1, q2, q3, q4⟩ := back j C hC
          exact hR.heap.inj i j B' C' b g1 q1 (g2 ▸ h1) (q3 ▸ h2) hi hj
        · obtain ⟨B', g1, g2, g3, g4⟩ := back i B hB
          exact ⟨i, B', g1, g2 ▸ h1, hi⟩
      obtain ⟨h1, h2⟩ := convSt_ok hF r l _ m a w step.1
      exact ⟨h1, fun b hb => step.2 b (h2 b hb)⟩
    · exact convSt_ok hF r l st
  | (id, .mix p x n sh s t md) :: l, st => by
    unfold convSt
    split
    · rename_i c t' md' hg
      intro m a w hR
      have step : Rep m ρ { st with heap := st.heap.set (r id) (asRow F (.mix p x n sh s t md) (.cells c t' md')) } a w ∧ ∀ b, Fp m (st.heap.set (r id) (asRow F (.mix p x n sh s t md) (.cells c t' md'))) b → Fp m st.heap b := by
        have back : ∀ i B, (st.heap.set (r id) (asRow F (.mix p x n sh s t md) (.cells c t' md'))).get i = some B → ∃ B', st.heap.get i = some B' ∧ B.rw = B'.rw ∧ B.live = B'.live ∧ ∀ k o, B'.R m ρ k o → B.R m ρ k o := by
          intro i B hB
          rw [T.get_set] at hB
          split at hB
          · rename_i e
            cases hB; subst e
            have := fun k o (h : (Blk.cells c t' md').R m ρ k o) => asRow_ok (T := .mix p x n sh s t md) hF h
            exact ⟨_, hg, (asRow_rw _ _).1, (asRow_rw _ _).2, fun k o h => (this k o h).1⟩
          · exact ⟨B, hB, rfl, rfl, fun k o h => h⟩
        refine ⟨⟨hR.tmps, hR.size, ⟨fun i B hB hl => ?_, fun i j B C b hB hC h1 h2 hi hj => ?_⟩, hR.fresh, hR.dfs⟩, fun b ⟨i, B, hB, h1, hi⟩ => ?_⟩
        · obtain ⟨B', g1, g2, g3, g4⟩ := back i B hB
          obtain ⟨b, o, q1, q2, q3⟩ := hR.heap.blk i B' g1 (g3 ▸ hl)
          exact ⟨b, o, q1, q2, g4 _ _ q3⟩
        · obtain ⟨B', g1, g2, g3, g4⟩ := back i B hB
          obtain ⟨C', q1, q2, q3, q4⟩ := back j C hC
          exact hR.heap.inj i j B' C' b g1 q1 (g2 ▸ h1) (q3 ▸ h2) hi hj
        · obtain ⟨B', g1, g2, g3, g4⟩ := back i B hB
          exact ⟨i, B', g1, g2 ▸ h1, hi⟩
      obtain ⟨h1, h2⟩ := convSt_ok hF r l _ m a w step.1
      exact ⟨h1, fun b hb => step.2 b (h2 b hb)⟩
    · exact convSt_ok hF r l st

/-- How the cases of a segment end. -/
inductive PL where
  | ret
  | retd (d : DV)
  | go (j : Nat) (σ : List (Nat × E)) (r : List (Nat × Nat))
  | absurd
  | node (c : E) (t e : PL)
  | know (c : E) (b : Bool) (p : PL)

/-- A point: the head of a loop; of a loop over a map: the plan of its end, which entries have been handed out, and a plan for each entry. -/
structure Pt where
  rp : List Nat
  tm : Tm
  facts : Facts
  plan : PL
  seen : List E := []
  alts : List PL := []

def rnOf (r : List (Nat × Nat)) (id : Nat) : Nat := match (T.ofList r).get id with | some x => x | none => id

section
variable (seg : Facts → Option SegR) (fin : Facts → Ex → St → Option DV → Bool) (pts : List Pt)

def PL.run : Facts → PL → Bool
  | F, .ret => match seg F with
    | some (.fin x st) => fin F x st none
    | _ => false
  | F, .retd d => match seg F with
    | some (.fin x st) => fin F x st (some d)
    | _ => false
  | F, .go j σ r => match seg F, pts[j]? with
    | some (.head rp st), some p => decide (rp = p.rp) && matchSt (T.ofList σ) (rnOf r) p.tm (convSt F (rnOf r) p.tm.heap st)
    | _, _ => false
  | _, .absurd => true
  | F, .node c t e => PL.run (F.cons c true) t && PL.run (F.cons c false) e
  | F, .know c b p => PL.run (F.cons c b) p

def PL.Fit (oblR : DV → Env → Prop) (obl : Nat → Env → Prop) (ρ : Env) : PL → Prop
  | .ret => oblR (.bool (.lb true)) ρ
  | .retd d => oblR d ρ
  | .go j σ _ => obl j (ρ.upd (T.ofList σ))
  | .absurd => False
  | .node c t e => ((c.ev ρ).bool = true → PL.Fit oblR obl ρ t) ∧ ((c.ev ρ).bool = false → PL.Fit oblR obl ρ e)
  | .know c b p => (c.ev ρ).bool = b ∧ PL.Fit oblR obl ρ p

def Pt.Fit (p : Pt) (oblR : DV → Env → Prop) (obl : Nat → Env → Prop) (ρ : Env) : Prop := match p.alts with
  | [] => p.plan.Fit oblR obl ρ
  | _ => ((∀ e ∈ p.seen, (e.ev ρ).bool = true) → p.plan.Fit oblR obl ρ) ∧ ∀ (i : Nat) (e : E) (pl : PL), p.seen[i]? = some e → p.alts[i]? = some pl → (e.ev ρ).bool = false → pl.Fit oblR obl ρ

def segEnd (oblR : DV → Env → Prop) (obl : Nat → Env → Prop) (ρ : Env) (F : Facts) : SegR → Prop
  | .fin x st => ∃ o : Option DV, fin F x st o = true ∧ oblR (o.getD (.bool (.lb true))) ρ
  | .head rp st => ∃ (j : Nat) (p : Pt) (σ : T E) (r : Nat → Nat) (st' : St), pts[j]? = some p ∧ rp = p.rp ∧ StLe ρ st st' ∧ matchSt σ r p.tm st' = true ∧ obl j (ρ.upd σ)

variable {seg} {fin} {pts}

theorem PL.run_sound {oblR : DV → Env → Prop} {obl : Nat → Env → Prop} : ∀ {F : Facts} {pl : PL}, PL.run seg fin pts F pl = true → ∀ {ρ : Env}, F.ok ρ → pl.Fit oblR obl ρ → ∃ F' r, F'.sem = F.sem ∧ F'.ok ρ ∧ seg F' = some r ∧ segEnd fin pts oblR obl ρ F' r
  | F, .ret, h, ρ, hF, ho => by
    simp only [PL.run] at h
    split at h
    · rename_i x st hs; exact ⟨F, _, rfl, hF, hs, none, h, ho⟩
    · cases h
  | F, .retd d, h, ρ, hF, ho => by
    simp only [PL.run] at h
    split at h
    · rename_i x st hs; exact ⟨F, _, rfl, hF, hs, some d, h, ho⟩
    · cases h
  | F, .go j σ r, h, ρ, hF, ho => by
    simp only [PL.run] at h
    split at h
    · rename_i rp st p hs hp
      simp only [Bool.and_eq_true, decide_eq_true_eq] at h
      exact ⟨F, _, rfl, hF, hs, j, p, _, _, _, hp, h.1, convSt_ok hF _ _ _, h.2, ho⟩
    · cases h
  | F, .absurd, h, ρ, hF, ha => ha.elim
  | F, .node c t e, h, ρ, hF, ha => by
    simp only [PL.run, Bool.and_eq_true] at h
    cases hc : (c.ev ρ).bool with
    | true => obtain ⟨F', r, e, g⟩ := PL.run_sound h.1 (facts_cons hF hc) (ha.1 hc); exact ⟨F', r, e.trans (Facts.cons_sem F c true), g⟩
    | false => obtain ⟨F', r, e, g⟩ := PL.run_sound h.2 (facts_cons hF hc) (ha.2 hc); exact ⟨F', r, e.trans (Facts.cons_sem F c false), g⟩
  | F, .know c b p, h, ρ, hF, ha => by
    simp only [PL.run] at h
    obtain ⟨F', r, e, g⟩ := PL.run_sound h (facts_cons hF ha.1) ha.2
    exact ⟨F', r, e.trans (Facts.cons_sem F c b), g⟩
end

section
variable (P : Program) (Γ : Facts → FuncId → Option CallD) (loops depth : Nat) (root : Code) (stops : List (List Nat))

/-- A segment. -/
def seg (s : Nx) (ks : List Kf) (st : St) (F : Facts) : Option SegR :=
  segX P F (runX P F Γ loops depth) (drawY P F (runX P F Γ loops depth)) stops loops s ks st

def finO (F : Facts) (n : Nat) (d' : DV) : Option DV → Bool
  | none => (match d' with | .bool (.lb true) => true | _ => false)
  | some d => matchD .nil id n d d' || (d.scal && d'.scal && DV.eqv (d.r F .nil) (d'.r F .nil))

def finV (fn : Func) (F : Facts) (st : St) (o : Option DV) : Bool := st.dfs.isEmpty && match resultsD P F fn st with
  | some d' => finO F st.next d' o
  | none => false

/-- An end: it answers true, or what is told. -/
def finTrue (fn : Func) (F : Facts) (x : Ex) (st : St) (o : Option DV) : Bool := match x with
  | .exit _ => false
  | _ => finV P fn F st o

/-- What follows the step of a loop over a map. -/
def segAfter (rid : Nat) (ops : Array Oper) (c2 : Code) (rp : List Nat) (ks : List Kf) (st : Option St) (F : Facts) : Option SegR := match st with
  | some st1 => match opsX P F (runX P F Γ loops depth) ops (List.range' 1 (ops.size - 1)) st1 with
    | some st2 => segX P F (runX P F Γ loops depth) (drawY P F (runX P F Γ loops depth)) stops loops (.out .norm) (.seq c2 (1 :: 0 :: rp) :: .loop (.seq (.region rid ops false) c2) rp :: ks) st2
    | none => none
  | none => none

def seenFacts (F : Facts) (l : List E) : Facts := l.foldl (fun F e => F.cons e true) F

def ptNext (fn : Func) (pts : List Pt) (p : Pt) : Bool := match locate root p.rp with
  | some (.loop (.seq (.region rid ops false) c2), ks) => match ops[0]? with
    | some o => match o.op, o.guard with
      | .next it false, none => match iterD p.tm.st.heap p.tm.st.tmps it with
        | some (id, mp, seen, _, es) => seenEq p.seen seen && (PL.run (segAfter P Γ loops depth (pts.map (·.rp)) rid ops c2 p.rp ks (putT p.tm.st o.dst (.tup [.bool (.lb false)]))) (finTrue P fn) pts (seenFacts p.facts p.seen) p.plan &&
            (List.range seen.length).all fun i => match seen[i]?, es[i]?, p.alts[i]? with
              | some e, some (k, v), some pl => PL.run (segAfter P Γ loops depth (pts.map (·.rp)) rid ops c2 p.rp ks (putT { p.tm.st with heap := p.tm.st.heap.set id (.itb mp (seen.set i (.lb true)) (some i)) } o.dst (.tup [.bool (.lb true), k, v]))) (finTrue P fn) pts (p.facts.cons e false) pl
              | _, _, _ => false)
        | none => false
      | _, _ => false
    | none => false
  | _ => false

def ptOk (fn : Func) (pts : List Pt) (p : Pt) : Bool := match p.alts with
  | _ :: _ => ptNext P Γ loops depth root fn pts p
  | [] => match locate root p.rp with
  | some (.loop b, ks) => PL.run (seg P Γ loops depth (pts.map (·.rp)) (.code b (0 :: p.rp)) (.loop b p.rp :: ks) p.tm.st) (finTrue P fn) pts p.facts p.plan
  | _ => false

variable {P} {Γ} {loops} {depth} {root} {stops}

theorem seg_sound {F : Facts} (hΓ : ∀ F' : Facts, F'.sem = F.sem → ΓOk P F' (Γ F')) {s : Nx} {ks : List Kf} {st : St} {r : SegR} (h : seg P Γ loops depth stops s ks st F = some r) {Q : Exit → Act → World → Prop} {ρ : Env} (hF : F.ok ρ)
    (hks : KsOk root ks) (hs : NxOk root ks s) {m : Emb} {a : Act} {w : World} (hR : Rep m ρ st a w) (hK : SegPost P root Q m ρ st w r) : NxWp P Q ks a w s :=
  segX_sound (runX_ok hΓ loops depth) (drawY_ok (runX_ok hΓ loops depth)) hF loops h hks hs hR hK

theorem seenFacts_ok {ρ : Env} : ∀ {l : List E} {F : Facts}, F.ok ρ → (∀ e ∈ l, (e.ev ρ).bool = true) → (seenFacts F l).ok ρ ∧ (seenFacts F l).sem = F.sem
  | [], F, h, _ => ⟨h, rfl⟩
  | e :: l, F, h, hl => by
    obtain ⟨h1, h2⟩ := seenFacts_ok (l := l) (facts_cons h (hl e (List.mem_cons_self ..))) fun x hx => hl x (List.mem_cons_of_mem _ hx)
    exact ⟨h1, h2.trans (Facts.cons_sem F e true)⟩

theorem upd_nil' (ρ : Env) : ρ.upd .nil = ρ := by cases ρ; rfl

/-- What an end leaves. -/
def EndR (oblR : DV → Env → Prop) (w0 : World) (S : Nat → Prop) (e : Ending) (w' : World) : Prop :=
  ∃ (v : Value) (d : DV) (ρ : Env) (m : Emb) (h : T Blk), e = .returned v ∧ d.R m ρ v ∧ oblR d ρ ∧ HeapR m ρ h w' ∧ Since w0 S m h w'

theorem finTrue_sound {oblR : DV → Env → Prop} {fn : Func} {F : Facts} {x : Ex} {st : St} {o : Option DV} (h : finTrue P fn F x st o = true) {ρ : Env} (ho : oblR (o.getD (.bool (.lb true))) ρ) (hF : F.ok ρ) {m : Emb} {a : Act} {w : World} (hR : Rep m ρ st a w)
    {w0 : World} {S : Nat → Prop} (hs : Since w0 S m st.heap w) : bodyPost P fn (EndR oblR w0 S) x.to a w := by
  have key : ∀ (y : Ex), y = .norm ∨ y = .ret → finV P fn F st o = true → bodyPost P fn (EndR oblR w0 S) y.to a w := by
    intro y hy h
    unfold finV at h
    simp only [Bool.and_eq_true, List.isEmpty_iff] at h
    obtain ⟨hdf, h⟩ := h
    have hdef : a.defers = [] := by
      have := hR.dfs
      rw [hdf] at this; exact this
    split at h
    · rename_i d' hd
      obtain ⟨v, hv, hrv⟩ := resultsD_run (P := P) hF hd hR
      have : EndR oblR w0 S (.returned v) w := by
        cases o with
        | none =>
          simp only [finO] at h
          split at h
          · exact ⟨v, _, ρ, m, st.heap, rfl, hrv, ho, hR.heap, hs⟩
          · cases h
        | some d =>
          simp only [finO, Bool.or_eq_true, Bool.and_eq_true] at h
          rcases h with h | ⟨⟨g1, g2⟩, g3⟩
          case inr =>
            have e := DV.eqv_eq g3
            have h1 := (DV.r_R (σ := .nil) (m := m) (m' := m) hF g2).1 (by rw [upd_nil']; exact hrv)
            rw [← e] at h1
            have h2 := (DV.r_R (σ := .nil) (m := m) (m' := m) hF g1).2 h1
            rw [upd_nil'] at h2
            exact ⟨v, d, ρ, m, st.heap, rfl, h2, ho, hR.heap, hs⟩
          have h2 := matchD_ok (m := m) (ρ := ρ) h hrv
          rw [upd_nil'] at h2
          refine ⟨v, d, ρ, m, st.heap, rfl, h2.mono (fun id b hb => ?_), ho, hR.heap, hs⟩
          simp only [Emb.pull, id_eq] at hb ⊢
          split at hb
          · exact ⟨hb, trivial⟩
          · cases hb
      rcases hy with rfl | rfl
      · exact ⟨hdef, v, hv, this⟩
      · exact ⟨hdef, v, hv, this⟩
    · cases h
  unfold finTrue at h
  cases x with
  | norm => exact key .norm (.inl rfl) h
  | ret => exact key .ret (.inr rfl) h
  | exit id => cases h

/-- A function by its loops. -/
theorem calls_by_points {S : Env → Prop} (hΓ : ∀ F : Facts, F.sem = S → ΓOk P F (Γ F)) {f : FuncId} {fn : Func} (hfn : P.funcs[f]? = some fn) (hbody : fn.body = some root) {args : List DV} {h : T Blk} {n : Nat} (hlen : args.length ≤ fn.ntmps)
    {pts : List Pt} (hsem : ∀ p ∈ pts, p.facts.sem = S) (hpts : ∀ p ∈ pts, ptOk P Γ loops depth root fn pts p = true) {F0 : Facts} (hS0 : F0.sem = S) {plan : PL}
    (hrun : PL.run (seg P Γ loops depth (pts.map (·.rp)) (.code root []) [] ⟨argsT 0 args, h, n, fn.ntmps, []⟩) (finTrue P fn) pts F0 plan = true)
    (oblR : DV → Env → Prop) (Inv : Nat → Env → Prop) (μ : Nat → Env → Nat)
    (hI : ∀ j p ρ, pts[j]? = some p → Inv j ρ → p.facts.ok ρ ∧ p.Fit oblR (fun j' ρ' => Inv j' ρ' ∧ μ j' ρ' < μ j ρ) ρ)
    {ρ : Env} (hF : F0.ok ρ) (hfit : plan.Fit oblR Inv ρ) {m : Emb} {w : World} {vs : Array Value} (hvs : DV.RL m ρ args vs.toList) (hH : HeapR m ρ h w) (hf : ∀ id, n ≤ id → m.ι id = none) :
    Calls P f vs w (EndR oblR w (Fp m h)) := by
  refine calls_of_wp hfn hbody ?_
  have hl := hvs.length
  simp at hl
  have hR0 := rep_args (n := n) hvs hH hf hlen
  generalize hst : (⟨argsT 0 args, h, n, fn.ntmps, []⟩ : St) = st0 at hR0 hrun
  have hsth : st0.heap = h := by rw [← hst]
  have fin : ∀ (obl : Nat → Env → Prop) {m1 : Emb} {ρ1 : Env} {st1 : St} {w1 : World} {F1 : Facts} {r : SegR}, F1.ok ρ1 → Since w (Fp m h) m1 st1.heap w1 → segEnd (finTrue P fn) pts oblR obl ρ1 F1 r →
      (∀ j p, pts[j]? = some p → ∀ ρ2, obl j ρ2 → ∀ m2 a2 w2, Rep m2 ρ2 p.tm.st a2 w2 → Since w (Fp m h) m2 p.tm.st.heap w2 → ∀ b ks, locate root p.rp = some (.loop b, ks) → HeadWp P b (unw P (bodyPost P fn (EndR oblR w (Fp m h))) ks) a2 w2) →
      SegPost P root (bodyPost P fn (EndR oblR w (Fp m h))) m1 ρ1 st1 w1 r := by
    intro obl m1 ρ1 st1 w1 F1 r hF1 hs1 he hhead
    cases r with
    | fin x st =>
      obtain ⟨o, he, ho⟩ := he
      exact fun a' w' m' hR' hT' => finTrue_sound he ho hF1 hR' (hs1.step hT')
    | head rp st =>
      obtain ⟨j, p, σ, rr, st2, hp, rfl, hle, hm, ho⟩ := he
      intro a' w' m' hR' hT' b ks hloc
      obtain ⟨hR1, hfp1⟩ := hle _ _ _ hR'
      obtain ⟨hR2, hfp⟩ := matchSt_ok hm hR1
      exact hhead j p hp _ ho _ _ _ hR2 ((hs1.step hT').pull fun b hb => hfp1 b (hfp b hb)) b ks hloc
  have main : ∀ (N : Nat) j p, pts[j]? = some p → ∀ ρ2, Inv j ρ2 → μ j ρ2 = N → ∀ m2 a2 w2, Rep m2 ρ2 p.tm.st a2 w2 → Since w (Fp m h) m2 p.tm.st.heap w2 → ∀ b ks, locate root p.rp = some (.loop b, ks) →
      HeadWp P b (unw P (bodyPost P fn (EndR oblR w (Fp m h))) ks) a2 w2 := by
    intro N
    induction N using Nat.strongRecOn with
    | ind N ih =>
      intro j p hp ρ2 hinv hμ m2 a2 w2 hR2 hs2 b ks hloc
      have hmem := List.mem_of_getElem? hp
      have hok := hpts p hmem
      obtain ⟨hFp, hfp⟩ := hI j p ρ2 hp hinv
      have hnext : ∀ j' p', pts[j']? = some p' → ∀ ρ3, (Inv j' ρ3 ∧ μ j' ρ3 < μ j ρ2) → ∀ m3 a3 w3, Rep m3 ρ3 p'.tm.st a3 w3 → Since w (Fp m h) m3 p'.tm.st.heap w3 → ∀ b3 ks3, locate root p'.rp = some (.loop b3, ks3) → HeadWp P b3 (unw P (bodyPost P fn (EndR oblR w (Fp m h))) ks3) a3 w3 :=
        fun j' p' hp' ρ3 ho m3 a3 w3 hR3 hs3 b3 ks3 hloc3 => ih (μ j' ρ3) (hμ ▸ ho.2) j' p' hp' ρ3 ho.1 rfl m3 a3 w3 hR3 hs3 b3 ks3 hloc3
      unfold ptOk at hok
      cases halts : p.alts with
      | cons pl0 als =>
        rw [halts] at hok
        simp only at hok
        unfold ptNext at hok
        rw [hloc] at hok
        unfold Pt.Fit at hfp
        simp only [halts] at hfp
        split at hok
        · rename_i rid ops c2 ks' he
          cases he
          split at hok
          · rename_i o ho
            split at hok
            · rename_i it hop hg
              split at hok
              · rename_i id mp seen last es hit
                simp only [Bool.and_eq_true] at hok
                obtain ⟨hse, hend, hall⟩ := hok
                have hse' := seenEq_eq hse
                have hsz : 0 < ops.size := (Array.getElem?_eq_some_iff.1 ho).1
                have hrange : List.range ops.size = 0 :: List.range' 1 (ops.size - 1) := by
                  rw [List.range_eq_range']
                  obtain ⟨k, hk⟩ := Nat.exists_eq_succ_of_ne_zero (Nat.pos_iff_ne_zero.1 hsz)
                  rw [hk, List.range'_succ]
                  rfl
                have h0 : locate root (0 :: p.rp) = some (.seq (.region rid ops false) c2, .loop (.seq (.region rid ops false) c2) p.rp :: ks) := by simp [locate, hloc]
                have h1 : locate root (1 :: 0 :: p.rp) = some (c2, .loop (.seq (.region rid ops false) c2) p.rp :: ks) := by simp only [locate, hloc]
                have rest : ∀ (F1 : Facts) (pl : PL) (st1 : St) (m1 : Emb) (a1 : Act) (w1 : World), F1.ok ρ2 → F1.sem = S → Rep m1 ρ2 st1 a1 w1 → Since w (Fp m h) m1 st1.heap w1 →
                    PL.run (segAfter P Γ loops depth (pts.map (·.rp)) rid ops c2 p.rp ks (some st1)) (finTrue P fn) pts F1 pl = true → pl.Fit oblR (fun j' ρ' => Inv j' ρ' ∧ μ j' ρ' < μ j ρ2) ρ2 →
                    wpOps P ops (unw P (bodyPost P fn (EndR oblR w (Fp m h))) (.seq c2 (1 :: 0 :: p.rp) :: .loop (.seq (.region rid ops false) c2) p.rp :: ks)) (List.range' 1 (ops.size - 1)) a1 w1 := by
                  intro F1 pl st1 m1 a1 w1 hF1 hS1 hR1 hs1 hrun1 hfit1
                  obtain ⟨F', r, hsm, hF', hseg, hend⟩ := PL.run_sound hrun1 hF1 hfit1
                  unfold segAfter at hseg
                  simp only at hseg
                  split at hseg
                  · rename_i st2 hst2
                    have hΓ' : ∀ F'' : Facts, F''.sem = F'.sem → ΓOk P F'' (Γ F'') := fun F'' h'' => hΓ F'' (h''.trans (hsm.trans hS1))
                    refine opsX_sound (runX_ok hΓ' loops depth) hF' _ hst2 hR1 fun a2 w2 m2 hR2 hT2 => ?_
                    have := segX_sound (root := root) (Q := bodyPost P fn (EndR oblR w (Fp m h))) (runX_ok hΓ' loops depth) (drawY_ok (runX_ok hΓ' loops depth)) hF' loops hseg ⟨h1, hloc, locate_ok hloc⟩ trivial hR2
                      (fin _ hF' (hs1.step hT2) hend hnext)
                    exact this
                  · cases hseg
                refine HeadWp.step (wp_seq (wp_region ?_))
                show wpOps P ops (unw P (bodyPost P fn (EndR oblR w (Fp m h))) (.seq c2 (1 :: 0 :: p.rp) :: .loop (.seq (.region rid ops false) c2) p.rp :: ks)) (List.range ops.size) a2 w2
                rw [hrange]
                have hwant : Region.wanted o (yielded ops a2.tmps) = true := by simp [Region.wanted, hg]
                simp only [wpOps, ho, hwant, if_true]
                left
                unfold Oper.wp
                rcases next_run (P := P) hR2.heap hR2.tmps hit o.type with ⟨hdone, hrun1⟩ | ⟨i, e, k, v, vk, vv, w3, g1, g2, g3, g4, g5, hrun1, hH3, hT3⟩
                · have hx : (execOp a2.eval o).run P w2 = .ok (.value (.tuple #[.bool false])) w2 := by
                    obtain ⟨dst, op, type, pos, after, guard⟩ := o
                    simp only at hop hrun1 ⊢
                    subst hop
                    simp only [execOp, Sem.run_bind, hrun1, Result.andThen_ok, Sem.run_pure]
                  rw [hx]
                  simp only [Oper.upon]
                  have hdone' : ∀ e ∈ p.seen, (e.ev ρ2).bool = true := by rw [hse']; exact hdone
                  obtain ⟨q1, q2⟩ := seenFacts_ok hFp hdone'
                  cases hput : putT p.tm.st o.dst (.tup [.bool (.lb false)]) with
                  | none =>
                    rw [hput] at hend
                    obtain ⟨_, _, _, _, hseg, _⟩ := PL.run_sound hend q1 (hfp.1 hdone')
                    simp [segAfter] at hseg
                  | some st1 =>
                    obtain ⟨r1, r2, r3⟩ := rep_put hR2 (d := .tup [.bool (.lb false)]) (v := .tuple #[.bool false]) (by simp [DV.R, DV.RL, E.ev]) hput
                    rw [hput] at hend
                    exact rest _ _ st1 m2 _ w2 q1 (q2.trans (hsem p hmem)) r1 (by rw [r2]; exact hs2) hend (hfp.1 hdone')
                · have hx : (execOp a2.eval o).run P w2 = .ok (.value (.tuple #[.bool true, vk, vv])) w3 := by
                    obtain ⟨dst, op, type, pos, after, guard⟩ := o
                    simp only at hop hrun1 ⊢
                    subst hop
                    simp only [execOp, Sem.run_bind, hrun1, Result.andThen_ok, Sem.run_pure]
                  rw [hx]
                  simp only [Oper.upon]
                  have hi := (List.all_eq_true.1 hall) i (List.mem_range.2 (List.getElem?_eq_some_iff.1 g1).1)
                  simp only [g1, g3] at hi
                  split at hi
                  · rename_i e' k' v' pl h5 h6 h7
                    cases h5; cases h6
                    have hfit := hfp.2 i e pl (by rw [hse']; exact g1) (by rw [halts] at h7; exact h7) g2
                    have hF1 := facts_cons hFp g2
                    have hR3 : Rep m2 ρ2 { p.tm.st with heap := p.tm.st.heap.set id (.itb mp (seen.set i (.lb true)) (some i)) } a2 w3 := ⟨hR2.tmps, hR2.size, hH3, hR2.fresh, hR2.dfs⟩
                    cases hput : putT { p.tm.st with heap := p.tm.st.heap.set id (.itb mp (seen.set i (.lb true)) (some i)) } o.dst (.tup [.bool (.lb true), k, v]) with
                    | none =>
                      rw [hput] at hi
                      obtain ⟨_, _, _, _, hseg, _⟩ := PL.run_sound hi hF1 hfit
                      simp [segAfter] at hseg
                    | some st1 =>
                      obtain ⟨r1, r2, r3⟩ := rep_put hR3 (d := .tup [.bool (.lb true), k, v]) (v := .tuple #[.bool true, vk, vv]) (by simp only [DV.R, DV.RL]; exact ⟨_, rfl, _, _, rfl, rfl, _, _, rfl, g4, _, _, rfl, g5, rfl⟩) hput
                      rw [hput] at hi
                      exact rest _ _ st1 m2 _ w3 hF1 ((Facts.cons_sem _ _ _).trans (hsem p hmem)) r1 (by rw [r2]; exact hs2.step hT3) hi hfit
                  · cases hi
              · cases hok
            · cases hok
          · cases hok
        · cases hok
      | nil =>
      rw [halts] at hok
      simp only [hloc] at hok
      have hfp : p.plan.Fit oblR (fun j' ρ' => Inv j' ρ' ∧ μ j' ρ' < μ j ρ2) ρ2 := by
        unfold Pt.Fit at hfp
        simpa only [halts] using hfp
      obtain ⟨F', r, hsm, hF', hseg, hend⟩ := PL.run_sound hok hFp hfp
      have := seg_sound (root := root) (fun F'' h'' => hΓ F'' (h''.trans (hsm.trans (hsem p hmem)))) hseg (Q := bodyPost P fn (EndR oblR w (Fp m h))) hF' ⟨hloc, locate_ok hloc⟩ (by simp [NxOk, locate, hloc]) hR2
        (fin _ hF' hs2 hend hnext)
      exact HeadWp.step this
  obtain ⟨F', r, hsm, hF', hseg, hend⟩ := PL.run_sound hrun hF hfit
  have := seg_sound (root := root) (fun F'' h'' => hΓ F'' (h''.trans (hsm.trans hS0))) hseg (Q := bodyPost P fn (EndR oblR w (Fp m h))) hF' trivial (by simp [NxOk, locate]) hR0
    (fin _ hF' (by rw [hsth]; exact Since.start m h w) hend fun j p hp ρ2 ho m2 a2 w2 hR2 hs2 b ks hloc => main _ j p hp ρ2 ho rfl m2 a2 w2 hR2 hs2 b ks hloc)
  exact this

/-- What a law's end has to show. -/
def oblT : DV → Env → Prop
  | .bool e, ρ => (e.ev ρ).bool = true
  | _, _ => False

theorem endT {w : World} {S : Nat → Prop} (hS : ∀ b, ¬ S b) {e : Ending} {w' : World} (h : EndR oblT w S e w') : e = .returned (.bool true) ∧ Below w.heap.size w w' := by
  obtain ⟨v, d, ρ, m, h, rfl, hd, ho, _, hs⟩ := h
  refine ⟨?_, hs.below hS⟩
  cases d <;> simp only [oblT] at ho
  simp only [DV.R] at hd
  rw [hd, ho]

/-- A law by its loops. -/
theorem law_by_points {S : Env → Prop} (hΓ : ∀ F : Facts, F.sem = S → ΓOk P F (Γ F)) {f : FuncId} {fn : Func} (hfn : P.funcs[f]? = some fn) (hbody : fn.body = some root) {args : List DV} {h : T Blk} {n : Nat} (hlen : args.length ≤ fn.ntmps)
    {pts : List Pt} (hsem : ∀ p ∈ pts, p.facts.sem = S) (hpts : ∀ p ∈ pts, ptOk P Γ loops depth root fn pts p = true) {F0 : Facts} (hS0 : F0.sem = S) {plan : PL}
    (hrun : PL.run (seg P Γ loops depth (pts.map (·.rp)) (.code root []) [] ⟨argsT 0 args, h, n, fn.ntmps, []⟩) (finTrue P fn) pts F0 plan = true)
    (Inv : Nat → Env → Prop) (μ : Nat → Env → Nat)
    (hI : ∀ j p ρ, pts[j]? = some p → Inv j ρ → p.facts.ok ρ ∧ p.Fit oblT (fun j' ρ' => Inv j' ρ' ∧ μ j' ρ' < μ j ρ) ρ)
    {ρ : Env} (hF : F0.ok ρ) (hfit : plan.Fit oblT Inv ρ) {m : Emb} {w : World} {vs : Array Value} (hvs : DV.RL m ρ args vs.toList) (hH : HeapR m ρ h w) (hf : ∀ id, n ≤ id → m.ι id = none) (hro : ∀ id B, h.get id = some B → B.rw = false) :
    Calls P f vs w fun e w' => e = .returned (.bool true) ∧ Below w.heap.size w w' :=
  (calls_by_points hΓ hfn hbody hlen hsem hpts hS0 hrun oblT Inv μ hI hF hfit hvs hH hf).mono fun _ _ he => endT (fun b ⟨id, B, hB, hrw, _⟩ => by rw [hro id B hB] at hrw; cases hrw) he
end
end Go.Eng

/-
  Runs cut in pieces: from a place within a region to the next one, each with its state as a text.
-/
namespace Go.Eng
open Go.RowKit

section
variable (P : Program) (F : Facts) (call : CallD) (draw : Array Oper → St → Option St) (tgt : List Nat)

/-- The machine that stops ahead of a told region. -/
def segC : Nat → Nx → List Kf → St → Option SegR
  | 0, _, _, _ => none
  | n + 1, .code c rp, ks, st => match c with
    | .skip => segC n (.out .norm) ks st
    | .label _ => segC n (.out .norm) ks st
    | .region _ ops false => if rp = tgt then some (.head rp st) else match opsX P F call ops (List.range ops.size) st with
      | some st' => segC n (.out .norm) ks st'
      | none => none
    | .region _ ops true => match draw ops st with
      | some st' => segC n (.out .norm) ks st'
      | none => none
    | .seq a b => segC n (.code a (0 :: rp)) (.seq b (1 :: rp) :: ks) st
    | .cond c a b => match opd st.tmps c with
      | some (.bool e) => match e.dec F with
        | some true => segC n (.code a (0 :: rp)) ks st
        | some false => segC n (.code b (1 :: rp)) ks st
        | none => none
      | _ => none
    | .block id b => segC n (.code b (0 :: rp)) (.block id :: ks) st
    | .loop b => segC n (.code b (0 :: rp)) (.loop b rp :: ks) st
    | .exit id => segC n (.out (.exit id)) ks st
    | .ret => segC n (.out .ret) ks st
    | _ => none
  | n + 1, .out x, ks, st => match ks with
    | [] => some (.fin x st)
    | .seq b rp :: ks' => match x with
      | .norm => segC n (.code b rp) ks' st
      | x => segC n (.out x) ks' st
    | .block id :: ks' => match x with
      | .exit id' => if id' = id then segC n (.out .norm) ks' st else segC n (.out (.exit id')) ks' st
      | x => segC n (.out x) ks' st
    | .loop b rp :: ks' => match x with
      | .norm => segC n (.code b (0 :: rp)) (.loop b rp :: ks') st
      | x => segC n (.out x) ks' st

variable {P} {F} {call} {draw} {tgt}

/-- What is asked of where such a run ends. -/
def CutPost (P : Program) (root : Code) (Q : Exit → Act → World → Prop) (m : Emb) (ρ : Env) (st : St) (w : World) : SegR → Prop
  | .fin x st' => StepPost m ρ st st' w (Q x.to)
  | .head rp st' => StepPost m ρ st st' w fun a' w' => ∀ id ops ks, locate root rp = some (.region id ops false, ks) → wpOps P ops (unw P Q ks) (List.range ops.size) a' w'

theorem CutPost.shift {root : Code} {Q : Exit → Act → World → Prop} {m m1 : Emb} {ρ : Env} {st st1 : St} {w w1 : World} {r : SegR} (h : CutPost P root Q m ρ st w r) (hT : Trans m st.heap w m1 st1.heap w1) :
    CutPost P root Q m1 ρ st1 w1 r := by
  cases r with
  | fin x st' => exact fun a' w' m' hR hT' => h a' w' m' hR (hT.trans hT')
  | head rp st' => exact fun a' w' m' hR hT' => h a' w' m' hR (hT.trans hT')

theorem segC_sound (hcall : CallOk P F call) (hdraw : DrawOk P F draw) {root : Code} {Q : Exit → Act → World → Prop} {ρ : Env} (hF : F.ok ρ) : ∀ (n : Nat) {s : Nx} {ks : List Kf} {st : St} {r : SegR}, segC P F call draw tgt n s ks st = some r →
    KsOk root ks → NxOk root ks s → ∀ {m : Emb} {a : Act} {w : World}, Rep m ρ st a w → CutPost P root Q m ρ st w r → NxWp P Q ks a w s := by
  intro n
  induction n with
  | zero => intro s ks st r h; simp [segC] at h
  | succ n ih =>
    intro s ks st r h hks hs m a w hR hK
    cases s with
    | code c rp =>
      simp only [NxOk] at hs
      simp only [NxWp]
      cases c <;> simp only [segC, reduceCtorEq] at h
      case skip => exact wp_skip (ih h hks trivial hR hK)
      case label l => exact wp_label (ih h hks trivial hR hK)
      case exit id => exact wp_exit (ih (s := .out (.exit id)) h hks trivial hR hK)
      case ret => exact wp_ret (ih (s := .out .ret) h hks trivial hR hK)
      case region id ops dr =>
        cases dr with
        | false =>
          simp only at h
          split at h
          · rename_i e
            cases h
            exact wp_region (hK a w m hR (Trans.refl _ _ _) id ops ks hs)
          · split at h
            · rename_i st1 h1
              exact wp_region (opsX_sound hcall hF _ h1 hR fun a' w' m' hR' hT' => ih (s := .out .norm) h hks trivial hR' (hK.shift hT'))
            · cases h
        | true =>
          simp only at h
          split at h
          · rename_i st1 h1
            exact wpIn_wide.1 (region_draw_in (l := none) (n := 0) (.inl rfl) (hdraw ops st st1 h1 ρ hF m a w hR _ fun a' w' m' hR' hT' => ih (s := .out .norm) h hks trivial hR' (hK.shift hT')))
          · cases h
      case seq c1 c2 =>
        refine wp_seq ?_
        have h0 : locate root (0 :: rp) = some (c1, .seq c2 (1 :: rp) :: ks) := by simp [locate, hs]
        have h1 : locate root (1 :: rp) = some (c2, ks) := by simp [locate, hs]
        have := ih (s := .code c1 (0 :: rp)) h ⟨h1, hks⟩ h0 hR hK
        exact this
      case cond e0 c1 c2 =>
        split at h
        · rename_i e he
          have hc := opd_R hR.tmps he
          simp only [DV.R] at hc
          split at h
          · rename_i hd
            have := E.dec_sound hF hd
            rw [this] at hc
            exact wp_cond_true hc (ih (s := .code c1 (0 :: rp)) h hks (by simp [NxOk, locate, hs]) hR hK)
          · rename_i hd
            have := E.dec_sound hF hd
            rw [this] at hc
            exact wp_cond_false hc (ih (s := .code c2 (1 :: rp)) h hks (by simp [NxOk, locate, hs]) hR hK)
          · cases h
        · cases h
      case block id b =>
        exact wp_block (ih (s := .code b (0 :: rp)) (ks := .block id :: ks) h hks (by simp [NxOk, locate, hs]) hR hK)
      case loop b =>
        exact HeadWp.loop (HeadWp.step (ih (s := .code b (0 :: rp)) (ks := .loop b rp :: ks) h ⟨hs, hks⟩ (by simp [NxOk, locate, hs]) hR hK))
    | out x =>
      simp only [NxWp]
      simp only [segC] at h
      split at h
      · cases h
        exact hK a w m hR (Trans.refl _ _ _)
      · rename_i b rp ks'
        obtain ⟨hb, hks'⟩ := hks
        split at h
        · exact ih (s := .code b rp) h hks' hb hR hK
        · rename_i hx
          have := ih (s := .out x) h hks' trivial hR hK
          simp only [NxWp] at this
          cases x with
          | norm => exact absurd rfl hx
          | exit id => exact this
          | ret => exact this
      · rename_i id ks'
        split at h
        · rename_i id'
          simp only [unw, Ex.to, Exit.inBlock]
          split at h
          · rename_i e
            rw [if_pos e]
            exact ih (s := .out .norm) h hks trivial hR hK
          · rename_i e
            rw [if_neg e]
            exact ih (s := .out (.exit id')) h hks trivial hR hK
        · rename_i hx
          have := ih (s := .out x) h hks trivial hR hK
          simp only [NxWp] at this
          cases x with
          | norm => exact this
          | exit id' => exact absurd rfl (hx id')
          | ret => exact this
      · rename_i b rp ks'
        obtain ⟨hb, hks'⟩ := hks
        split at h
        · simp only [unw, Ex.to, Exit.then]
          exact HeadWp.step (ih (s := .code b (0 :: rp)) (ks := .loop b rp :: ks') h ⟨hb, hks'⟩ (by simp [NxOk, locate, hb]) hR hK)
        · rename_i hx
          have := ih (s := .out x) h hks' trivial hR hK
          simp only [NxWp] at this
          cases x with
          | norm => exact absurd rfl hx
          | exit id => exact this
          | ret => exact this

theorem opsX_then (hcall : CallOk P F call) {ρ : Env} (hF : F.ok ρ) {ops : Array Oper} {Q : Exit → Act → World → Prop} {l2 : List Nat} :
    ∀ (l : List Nat) {st st' : St}, opsX P F call ops l st = some st' → ∀ {m : Emb} {a : Act} {w : World}, Rep m ρ st a w → (∀ a' w' m', Rep m' ρ st' a' w' → Trans m st.heap w m' st'.heap w' → wpOps P ops Q l2 a' w') → wpOps P ops Q (l ++ l2) a w
  | [], st, st', h, m, a, w, hR, hK => by
    simp [opsX] at h; subst h
    exact hK _ _ _ hR (Trans.refl _ _ _)
  | i :: r, st, st', h, m, a, w, hR, hK => by
    simp only [opsX] at h
    simp only [List.cons_append, wpOps]
    split at h
    · rename_i ho; simp only [ho]; exact opsX_then hcall hF r h hR hK
    · rename_i o ho
      simp only [ho]
      split at h
      · rename_i st1 h1
        exact stepX_sound hcall hF h1 hR fun v w' m' hR' hT => opsX_then hcall hF r h hR' fun a2 w2 m2 hR2 hT2 => hK _ _ _ hR2 (hT.trans hT2)
      · cases h
end

/-- A place within a region, and the state there. -/
structure Cut where
  rp : List Nat
  k : Nat
  tm : Tm

section
variable (P : Program) (Γ : Facts → FuncId → Option CallD) (loops depth : Nat) (root : Code) (fn : Func) (F : Facts)

def cutTo (c : Cut) (ops : Array Oper) (l : List Nat) (st : St) : Bool := match opsX P F (runX P F Γ loops depth) ops l st with
  | some st' => matchSt .nil id c.tm st'
  | none => false

def cutEnd : Option Cut → SegR → Bool
  | none, .fin x st => finTrue P fn F x st none
  | some c, .head rp st => decide (rp = c.rp) && (match locate root c.rp with
    | some (.region _ ops false, _) => decide (c.k ≤ ops.size) && cutTo P Γ loops depth F c ops (List.range c.k) st
    | _ => false)
  | _, _ => false

def tgtOf : Option Cut → List Nat
  | some c => c.rp
  | none => [7]

def cutGo (c' : Option Cut) (s : Nx) (ks : List Kf) (st : St) : Bool := match segC P F (runX P F Γ loops depth) (drawY P F (runX P F Γ loops depth)) (tgtOf c') loops s ks st with
  | some r => cutEnd P Γ loops depth root fn F c' r
  | none => false

def cutOut (c : Cut) (c' : Option Cut) (ops : Array Oper) (ks : List Kf) : Bool := match opsX P F (runX P F Γ loops depth) ops (List.range' c.k (ops.size - c.k)) c.tm.st with
  | some st' => cutGo P Γ loops depth root fn F c' (.out .norm) ks st'
  | none => false

def cutRun (c : Cut) (c' : Option Cut) : Bool := match locate root c.rp with
  | some (.region _ ops false, ks) => (match c' with
    | some c2 => if c2.rp = c.rp then decide (c.k ≤ c2.k ∧ c2.k ≤ ops.size) && cutTo P Γ loops depth F c2 ops (List.range' c.k (c2.k - c.k)) c.tm.st else cutOut P Γ loops depth root fn F c c' ops ks
    | none => cutOut P Γ loops depth root fn F c c' ops ks)
  | _ => false

/-- From a place on, to the next time that one comes to another one, which may be the same. -/
def cutNext (c : Cut) (c' : Option Cut) : Bool := match locate root c.rp with
  | some (.region _ ops false, ks) => cutOut P Γ loops depth root fn F c c' ops ks
  | _ => false

/-- From there on all goes well. -/
def CutOk (c : Cut) : Prop := ∀ (w0 : World) (S : Nat → Prop) (ρ : Env) (m : Emb) (a : Act) (w : World), F.ok ρ → Rep m ρ c.tm.st a w → Since w0 S m c.tm.st.heap w → ∀ id ops ks, locate root c.rp = some (.region id ops false, ks) →
  wpOps P ops (unw P (bodyPost P fn (EndR oblT w0 S)) ks) (List.range' c.k (ops.size - c.k)) a w

variable {P} {Γ} {loops} {depth} {root} {fn} {F}

theorem cutTo_ok (hΓ : ∀ F' : Facts, F'.sem = F.sem → ΓOk P F' (Γ F')) {c : Cut} (hc : CutOk P root fn F c) {ops : Array Oper} {l : List Nat} {st : St} (h : cutTo P Γ loops depth F c ops l st = true) {id : Nat} {ks : List Kf}
    (hloc : locate root c.rp = some (.region id ops false, ks)) {w0 : World} {S : Nat → Prop} {ρ : Env} (hF : F.ok ρ) {m : Emb} {a : Act} {w : World} (hR : Rep m ρ st a w) (hs : Since w0 S m st.heap w) :
    wpOps P ops (unw P (bodyPost P fn (EndR oblT w0 S)) ks) (l ++ List.range' c.k (ops.size - c.k)) a w := by
  unfold cutTo at h
  split at h
  · rename_i st' h'
    refine opsX_then (runX_ok hΓ loops depth) hF l h' hR fun a' w' m' hR' hT' => ?_
    obtain ⟨hR2, hfp⟩ := matchSt_ok h hR'
    rw [upd_nil'] at hR2
    exact hc w0 S ρ _ a' w' hF hR2 ((hs.step hT').pull hfp) id ops ks hloc
  · cases h

theorem range_cut {k n : Nat} (h : k ≤ n) : List.range k ++ List.range' k (n - k) = List.range n := by
  rw [List.range_eq_range', List.range_eq_range', show n = k + (n - k) by omega, ← List.range'_append_1]
  simp

theorem cutEnd_ok (hΓ : ∀ F' : Facts, F'.sem = F.sem → ΓOk P F' (Γ F')) {c' : Option Cut} (hc : ∀ c, c' = some c → CutOk P root fn F c) {r : SegR} (h : cutEnd P Γ loops depth root fn F c' r = true) {w0 : World} {S : Nat → Prop} {ρ : Env} (hF : F.ok ρ)
    {m : Emb} {st : St} {w : World} (hs : Since w0 S m st.heap w) : CutPost P root (bodyPost P fn (EndR oblT w0 S)) m ρ st w r := by
  cases r with
  | fin x st' =>
    cases c' with
    | some c => simp [cutEnd] at h
    | none => exact fun a' w' m' hR' hT' => finTrue_sound (oblR := oblT) (o := none) h rfl hF hR' (hs.step hT')
  | head rp st' =>
    cases c' with
    | none => simp [cutEnd] at h
    | some c =>
      simp only [cutEnd, Bool.and_eq_true, decide_eq_true_eq] at h
      obtain ⟨rfl, h⟩ := h
      intro a' w' m' hR' hT' id ops ks hloc
      rw [hloc] at h
      simp only [Bool.and_eq_true, decide_eq_true_eq] at h
      have := cutTo_ok hΓ (hc c rfl) h.2 hloc hF hR' (hs.step hT')
      rw [range_cut h.1] at this
      exact this

theorem cutGo_ok (hΓ : ∀ F' : Facts, F'.sem = F.sem → ΓOk P F' (Γ F')) {c' : Option Cut} (hc : ∀ c, c' = some c → CutOk P root fn F c) {s : Nx} {ks : List Kf} {st : St} (h : cutGo P Γ loops depth root fn F c' s ks st = true) (hks : KsOk root ks) (hn : NxOk root ks s)
    {w0 : World} {S : Nat → Prop} {ρ : Env} (hF : F.ok ρ) {m : Emb} {a : Act} {w : World} (hR : Rep m ρ st a w) (hs : Since w0 S m st.heap w) : NxWp P (bodyPost P fn (EndR oblT w0 S)) ks a w s := by
  unfold cutGo at h
  split at h
  · rename_i r hr
    exact segC_sound (runX_ok hΓ loops depth) (drawY_ok (runX_ok hΓ loops depth)) hF loops hr hks hn hR (cutEnd_ok hΓ hc h hF hs)
  · cases h

theorem cutOut_ok (hΓ : ∀ F' : Facts, F'.sem = F.sem → ΓOk P F' (Γ F')) {c : Cut} {c' : Option Cut} (hc : ∀ c, c' = some c → CutOk P root fn F c) {ops : Array Oper} {ks : List Kf} (h : cutOut P Γ loops depth root fn F c c' ops ks = true) (hks : KsOk root ks)
    {w0 : World} {S : Nat → Prop} {ρ : Env} (hF : F.ok ρ) {m : Emb} {a : Act} {w : World} (hR : Rep m ρ c.tm.st a w) (hs : Since w0 S m c.tm.st.heap w) :
    wpOps P ops (unw P (bodyPost P fn (EndR oblT w0 S)) ks) (List.range' c.k (ops.size - c.k)) a w := by
  unfold cutOut at h
  split at h
  · rename_i st' h'
    refine opsX_sound (runX_ok hΓ loops depth) hF _ h' hR fun a' w' m' hR' hT' => ?_
    exact cutGo_ok hΓ hc (s := .out .norm) h hks trivial hF hR' (hs.step hT')
  · cases h

/-- From one place to the next one, or to the end. -/
theorem cut_step (hΓ : ∀ F' : Facts, F'.sem = F.sem → ΓOk P F' (Γ F')) {c : Cut} {c' : Option Cut} (h : cutRun P Γ loops depth root fn F c c' = true) (hc : ∀ c, c' = some c → CutOk P root fn F c) : CutOk P root fn F c := by
  intro w0 S ρ m a w hF hR hs id ops ks hloc
  unfold cutRun at h
  rw [hloc] at h
  have hks := locate_ok hloc
  cases c' with
  | none => exact cutOut_ok hΓ hc h hks hF hR hs
  | some c2 =>
    simp only at h
    split at h
    · rename_i e
      simp only [Bool.and_eq_true, decide_eq_true_eq] at h
      obtain ⟨⟨h1, h2⟩, h3⟩ := h
      have := cutTo_ok hΓ (hc c2 rfl) h3 (by rw [e]; exact hloc) hF hR hs
      rw [show List.range' c.k (c2.k - c.k) ++ List.range' c2.k (ops.size - c2.k) = List.range' c.k (ops.size - c.k) by
        rw [show ops.size - c.k = (c2.k - c.k) + (ops.size - c2.k) by omega, ← List.range'_append_1, show c.k + (c2.k - c.k) = c2.k by omega]] at this
      exact this
    · exact cutOut_ok hΓ hc h hks hF hR hs

theorem cut_next (hΓ : ∀ F' : Facts, F'.sem = F.sem → ΓOk P F' (Γ F')) {c : Cut} {c' : Option Cut} (h : cutNext P Γ loops depth root fn F c c' = true) (hc : ∀ c, c' = some c → CutOk P root fn F c) : CutOk P root fn F c := by
  intro w0 S ρ m a w hF hR hs id ops ks hloc
  unfold cutNext at h
  rw [hloc] at h
  exact cutOut_ok hΓ hc h (locate_ok hloc) hF hR hs

/-- So many places, one behind the other. -/
theorem cuts_count {ct : Nat → Cut} {n : Nat} (hΓ : ∀ F' : Facts, F'.sem = F.sem → ΓOk P F' (Γ F')) (h : ∀ i, i < n → cutNext P Γ loops depth root fn F (ct i) (some (ct (i + 1))) = true) (hl : CutOk P root fn F (ct n)) : ∀ k, k ≤ n → CutOk P root fn F (ct (n - k))
  | 0, _ => hl
  | k + 1, hk => by
    have h1 := h (n - (k + 1)) (by omega)
    rw [show n - (k + 1) + 1 = n - k by omega] at h1
    exact cut_next hΓ h1 fun c e => by cases e; exact cuts_count hΓ h hl k (by omega)

/-- The whole function, from its beginning to the first place. -/
theorem law_by_cuts (hΓ : ∀ F' : Facts, F'.sem = F.sem → ΓOk P F' (Γ F')) {f : FuncId} (hfn : P.funcs[f]? = some fn) (hbody : fn.body = some root) {args : List DV} {h : T Blk} {n : Nat} (hlen : args.length ≤ fn.ntmps) {c : Cut}
    (hrun : cutGo P Γ loops depth root fn F (some c) (.code root []) [] ⟨argsT 0 args, h, n, fn.ntmps, []⟩ = true) (hc : CutOk P root fn F c)
    {ρ : Env} (hF : F.ok ρ) {m : Emb} {w : World} {vs : Array Value} (hvs : DV.RL m ρ args vs.toList) (hH : HeapR m ρ h w) (hf : ∀ id, n ≤ id → m.ι id = none) (hro : ∀ id B, h.get id = some B → B.rw = false) :
    Calls P f vs w fun e w' => e = .returned (.bool true) ∧ Below w.heap.size w w' := by
  refine Calls.mono (R := EndR oblT w (Fp m h)) (calls_of_wp hfn hbody ?_) fun _ _ he => endT (fun b ⟨id, B, hB, hrw, _⟩ => by rw [hro id B hB] at hrw; cases hrw) he
  have hl := hvs.length
  simp at hl
  have hR0 := rep_args (n := n) hvs hH hf hlen
  exact cutGo_ok hΓ (fun c' e => by cases e; exact hc) hrun trivial (by simp [NxOk, locate]) hF hR0 (Since.start m h w)
end
end Go.Eng
