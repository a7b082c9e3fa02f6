/-
  A small region that draws its order: every order is run, and all come to one state.
-/
import Derived.Test.YtgielkefgliiiaaEngU
namespace Go.Eng

mutual
/-- Does it stand for one value alone? -/
def DV.det : DV → Bool
  | .mt => false
  | .agg l => DV.detL l
  | .tup l => DV.detL l
  | .ifc _ v => DV.det v
  | .fn _ a c => DV.detL a && DV.detL c
  | _ => true
def DV.detL : List DV → Bool
  | [] => true
  | d :: r => DV.det d && DV.detL r
end

mutual
theorem DV.det_eq {m : Emb} {ρ : Env} : ∀ {d : DV} {v u : Value}, d.det = true → d.R m ρ v → d.R m ρ u → v = u
  | .int _ _, v, u, _, h, g => by simp only [DV.R] at h g; rw [h, g]
  | .bool _, v, u, _, h, g => by simp only [DV.R] at h g; rw [h, g]
  | .str _, v, u, _, h, g => by simp only [DV.R] at h g; rw [h, g]
  | .ptr _ _, v, u, _, h, g => by
    simp only [DV.R] at h g
    obtain ⟨b, hb, rfl⟩ := h
    obtain ⟨c, hc, rfl⟩ := g
    rw [hb] at hc; cases hc; rfl
  | .nilp, v, u, _, h, g => by simp only [DV.R] at h g; rw [h, g]
  | .gptr _ _, v, u, _, h, g => by simp only [DV.R] at h g; rw [h, g]
  | .slc _ _ _ _, v, u, _, h, g => by
    simp only [DV.R] at h g
    obtain ⟨b, hb, rfl, _⟩ := h
    obtain ⟨c, hc, rfl, _⟩ := g
    rw [hb] at hc; cases hc; rfl
  | .nils, v, u, _, h, g => by simp only [DV.R] at h g; rw [h, g]
  | .mt, _, _, hd, _, _ => by simp [DV.det] at hd
  | .agg l, v, u, hd, h, g => by
    simp only [DV.R] at h g
    obtain ⟨x, rfl, hx⟩ := h
    obtain ⟨y, rfl, hy⟩ := g
    have := DV.detL_eq (by simpa [DV.det] using hd) hx hy
    rw [Array.toList_inj.1 this]
  | .tup l, v, u, hd, h, g => by
    simp only [DV.R] at h g
    obtain ⟨x, rfl, hx⟩ := h
    obtain ⟨y, rfl, hy⟩ := g
    have := DV.detL_eq (by simpa [DV.det] using hd) hx hy
    rw [Array.toList_inj.1 this]
  | .ifc t d, v, u, hd, h, g => by
    simp only [DV.R] at h g
    obtain ⟨x, rfl, hx⟩ := h
    obtain ⟨y, rfl, hy⟩ := g
    rw [DV.det_eq (by simpa [DV.det] using hd) hx hy]
  | .nili, v, u, _, h, g => by simp only [DV.R] at h g; rw [h, g]
  | .fn f a c, v, u, hd, h, g => by
    simp only [DV.det, Bool.and_eq_true] at hd
    simp only [DV.R] at h g
    obtain ⟨x, y, rfl, h1, h2⟩ := h
    obtain ⟨x', y', rfl, g1, g2⟩ := g
    rw [Array.toList_inj.1 (DV.detL_eq hd.1 h1 g1), Array.toList_inj.1 (DV.detL_eq hd.2 h2 g2)]
  | .nilf, v, u, _, h, g => by simp only [DV.R] at h g; rw [h, g]
  | .mp _, v, u, _, h, g => by
    simp only [DV.R] at h g
    obtain ⟨b, hb, rfl⟩ := h
    obtain ⟨c, hc, rfl⟩ := g
    rw [hb] at hc; cases hc; rfl
  | .nilm, v, u, _, h, g => by simp only [DV.R] at h g; rw [h, g]
theorem DV.detL_eq {m : Emb} {ρ : Env} : ∀ {d : List DV} {v u : List Value}, DV.detL d = true → DV.RL m ρ d v → DV.RL m ρ d u → v = u
  | [], v, u, _, h, g => by simp only [DV.RL] at h g; rw [h, g]
  | a :: r, v, u, hd, h, g => by
    simp only [DV.detL, Bool.and_eq_true] at hd
    simp only [DV.RL] at h g
    obtain ⟨x, xs, rfl, h1, h2⟩ := h
    obtain ⟨y, ys, rfl, g1, g2⟩ := g
    rw [DV.det_eq hd.1 h1 g1, DV.detL_eq hd.2 h2 g2]
end

section
variable (P : Program) (F : Facts)

/-- An operation that looks at no memory, and has nothing to do with those that may be done beside it: it may go first. -/
def okFree (md : Region.Mode) (ops : Array Oper) (listed : Array Bool) (st : St) (j : Nat) : Bool := match ops[j]? with
  | some o => (match wantD F ops st o with
    | some true => (match valD P F .nil st.tmps o.op with | some d => d.det | none => false)
    | some false => true
    | none => false) && Region.free md ops listed j
  | none => false

def stepI (call : CallD) (ops : Array Oper) (i : Nat) (st : St) : Option St := match ops[i]? with
  | some o => stepX P F call ops o st
  | none => some st

/-- The step of an operation that looks at no memory. -/
def stepN (ops : Array Oper) (j : Nat) (st : St) : Option St := match ops[j]? with
  | some o => (match wantD F ops st o with
    | some true => (match valD P F .nil st.tmps o.op with | some d => putT st o.dst d | none => none)
    | _ => putT st o.dst (.tup []))
  | none => none

def allX (call : CallD) (md : Region.Mode) (ops : Array Oper) : Nat → Array Bool → St → Option St
  | 0, listed, st => if (Region.ready md ops listed).isEmpty then some st else none
  | fuel + 1, listed, st => match Region.ready md ops listed with
    | [] => some st
    | j :: r => match (j :: r).find? (okFree P F md ops listed st) with
      | some i => (match stepN P F ops i st with
        | some st1 => allX call md ops fuel (listed.setIfInBounds i true) st1
        | none => none)
      | none => match stepI P F call ops j st with
        | some st1 => match allX call md ops fuel (listed.setIfInBounds j true) st1 with
          | some z => if r.all (fun i => match stepI P F call ops i st with
              | some st2 => (match allX call md ops fuel (listed.setIfInBounds i true) st2 with | some z' => z'.eqv z | none => false)
              | none => false) then some z else none
          | none => none
        | none => none

def allO (call : CallD) (ops : Array Oper) (s : St) : Option St :=
  if Region.noSelect ops then
    if P.follows .mixedOrders || !Region.departs ops then allX P F call .any ops ops.size (Array.replicate ops.size false) s
    else match allX P F call .text ops ops.size (Array.replicate ops.size false) s, allX P F call .gc ops ops.size (Array.replicate ops.size false) s with
      | some a, some b => if a.eqv b then some a else none
      | _, _ => none
  else none

/-- The blocks that a region's operations come to. -/
def regionIds (h : T Blk) (t : T DV) (ops : Array Oper) : List Nat :=
  reach h 2000 (ops.toList.flatMap fun o => o.op.operands.toList.flatMap fun x => opIds t x ++ gIds h t x) []

/-- The same over these blocks alone. -/
def allZ (call : CallD) (ops : Array Oper) (s : St) : Option St :=
  let I := regionIds s.heap s.tmps ops ++ regIds s.heap
  match allO P F call ops ⟨s.tmps, restH s.heap I, s.next, s.sz⟩ with
  | some p => if decide (s.next ≤ p.next) && ((I.all fun i => match p.heap.get i with | some B => !B.live || liveIn s.heap i | none => true) && ((I.all fun i => decide (i < s.next)) && freshOk p (range' s.next p.next))) then
      some ⟨p.tmps, copyH p.heap (I ++ range' s.next p.next) s.heap, p.next, p.sz⟩ else none
  | none => none

def drawY (call : CallD) (ops : Array Oper) (s : St) : Option St :=
  match drawX P F call ops s with
  | some z => some z
  | none => if ops.size ≤ 24 then allZ P F call ops s else none

variable {P} {F}

theorem stepI_wp {call : CallD} (hcall : CallOk P F call) {ρ : Env} (hF : F.ok ρ) {ops : Array Oper} {Q : Exit → Act → World → Prop} {i : Nat} {st st1 : St} (h : stepI P F call ops i st = some st1) {m : Emb} {a : Act} {w : World} (hR : Rep m ρ st a w)
    {K : Act → World → Prop} (hK : ∀ a' w' m', Rep m' ρ st1 a' w' → Trans m st.heap w m' st1.heap w' → K a' w') : wpOp P ops Q i K a w := by
  unfold stepI at h
  unfold wpOp
  split at h
  · rename_i o ho
    simp only [ho]
    exact stepX_sound hcall hF h hR fun v w' m' hR' hT => hK _ _ _ hR' hT
  · rename_i ho
    simp only [ho]
    cases h
    exact hK _ _ _ hR (Trans.refl _ _ _)

theorem heapR_nil (m : Emb) (ρ : Env) (w : World) : HeapR m ρ .nil w := ⟨fun id B h => by simp at h, fun id id' B B' b h => by simp at h⟩

theorem okFree_yields {ρ : Env} (hF : F.ok ρ) {md : Region.Mode} {ops : Array Oper} {listed : Array Bool} {st st1 : St} {j : Nat} (h : okFree P F md ops listed st j = true) (hs : stepN P F ops j st = some st1) {m : Emb} {a : Act} {w : World} (hR : Rep m ρ st a w) :
    ∃ o v, ops[j]? = some o ∧ Region.free md ops listed j = true ∧ Yields P ops o v a ∧ Rep m ρ st1 (a.put o.dst v) w ∧ st1.heap = st.heap := by
  unfold okFree at h
  unfold stepN at hs
  split at h
  · rename_i o ho
    rw [ho] at hs
    simp only at hs
    simp only [Bool.and_eq_true] at h
    obtain ⟨h, hfree⟩ := h
    split at h
    · rename_i hw
      rw [hw] at hs
      simp only at hs
      split at h
      · rename_i d hd
        rw [hd] at hs
        simp only at hs
        have hall : ∀ w', ∃ v, (execOp a.eval o).run P w' = .ok (.value v) w' ∧ d.R m ρ v := fun w' => valD_sound hF (heapR_nil m ρ w') hR.tmps hd
        obtain ⟨v, hv, hr⟩ := hall w
        obtain ⟨r1, r2, r3⟩ := rep_put hR hr hs
        refine ⟨o, v, ho, hfree, .inl ⟨wantD_spec hF hR hw, fun w' => ?_⟩, r1, r2⟩
        obtain ⟨u, hu, hru⟩ := hall w'
        rw [hu, DV.det_eq h hru hr]
      · cases h
    · rename_i hw
      rw [hw] at hs
      simp only at hs
      obtain ⟨r1, r2, r3⟩ := rep_put hR (d := .tup []) (v := undef) (by simp [DV.R, DV.RL, undef]) hs
      exact ⟨o, undef, ho, hfree, .inr ⟨wantD_spec hF hR hw, rfl⟩, r1, r2⟩
    · cases h
  · cases h

theorem allX_sound {call : CallD} (hcall : CallOk P F call) {ρ : Env} (hF : F.ok ρ) {md : Region.Mode} {ops : Array Oper} (hns : Region.noSelect ops = true) {Q : Exit → Act → World → Prop} (hQ : ∀ c a w, ¬ Q (.panic c) a w) :
    ∀ (fuel : Nat) {listed : Array Bool} {st z : St}, allX P F call md ops fuel listed st = some z → ∀ {m : Emb} {a : Act} {w : World}, Rep m ρ st a w → StepPost m ρ st z w (Q .normal) → wpAny P md ops Q fuel listed a w
  | 0, listed, st, z, h, m, a, w, hR, hK => by
    simp only [allX] at h
    split at h
    · rename_i he
      cases h
      exact ⟨List.isEmpty_iff.1 he, hK _ _ _ hR (Trans.refl _ _ _)⟩
    · cases h
  | fuel + 1, listed, st, z, h, m, a, w, hR, hK => by
    simp only [allX] at h
    split at h
    · rename_i hr
      cases h
      refine ⟨fun _ => hK _ _ _ hR (Trans.refl _ _ _), fun i hi => ?_⟩
      rw [hr] at hi; cases hi
    · rename_i j r hr
      split at h
      · rename_i i hi
        split at h
        · rename_i st1 hs
          have hok := List.find?_some hi
          have hmem := List.mem_of_find?_eq_some hi
          obtain ⟨o, v, ho, hfree, hy, hR1, he⟩ := okFree_yields hF hok hs hR
          refine wpAny_take ho hns hfree (by rw [hr]; simpa using hmem) (fun c a w hc => absurd hc (hQ c _ w)) hy ?_
          exact allX_sound hcall hF hns hQ fuel h hR1 fun a2 w2 m2 hR2 hT2 => hK _ _ _ hR2 (by rw [he] at hT2; exact hT2)
        · cases h
      · split at h
        · rename_i st1 h1
          split at h
          · rename_i z1 h2
            split at h
            · rename_i hall
              cases h
              refine ⟨fun h0 => (by rw [hr] at h0; cases h0), fun i hi => ?_⟩
              rw [hr] at hi
              rcases List.mem_cons.1 hi with rfl | hi
              · exact stepI_wp hcall hF h1 hR fun a1 w1 m1 hR1 hT1 => allX_sound hcall hF hns hQ fuel h2 hR1 fun a2 w2 m2 hR2 hT2 => hK _ _ _ hR2 (hT1.trans hT2)
              · have h3 := (List.all_eq_true.1 hall) i hi
                split at h3
                · rename_i st2 hs2
                  split at h3
                  · rename_i z' hz'
                    have e := St.eqv_eq h3
                    subst e
                    exact stepI_wp hcall hF hs2 hR fun a1 w1 m1 hR1 hT1 => allX_sound hcall hF hns hQ fuel hz' hR1 fun a2 w2 m2 hR2 hT2 => hK _ _ _ hR2 (hT1.trans hT2)
                  · cases h3
                · cases h3
            · cases h
          · cases h
        · cases h

theorem allO_ok {call : CallD} (hcall : CallOk P F call) {ops : Array Oper} {st st' : St} (h : allO P F call ops st = some st') {ρ : Env} (hF : F.ok ρ) {m : Emb} {a : Act} {w : World} (hR : Rep m ρ st a w) (id : Nat) {Q : Exit → Act → World → Prop} (hQ : ∀ c a w, ¬ Q (.panic c) a w)
    (hK : StepPost m ρ st st' w (Q .normal)) : (Code.region id ops true).wp P Q a w := by
  unfold allO at h
  split at h
  · rename_i hns
    refine wp_region_draw fun t => ?_
    have hR' : Rep m ρ st a { w with drawn := w.drawn + 1 } := ⟨hR.tmps, hR.size, ⟨hR.heap.blk, hR.heap.inj⟩, hR.fresh⟩
    have hK' : StepPost m ρ st st' { w with drawn := w.drawn + 1 } (Q .normal) := fun a' w' m' hR2 hT => hK a' w' m' hR2 ⟨hT.ext, hT.size, hT.frame, hT.fp, hT.tape, hT.os, hT.output⟩
    unfold Region.schedule Region.linearise
    split at h
    · rename_i hd
      rw [if_pos hd]
      exact wpAny_sound ops.size _ _ a _ (allX_sound hcall hF hns hQ _ h hR' hK')
    · rename_i hd
      rw [if_neg hd]
      split at h
      · rename_i x y hx hy
        split at h
        · rename_i hxy
          cases h
          have e := St.eqv_eq hxy
          subst e
          split
          · exact wpAny_sound ops.size _ _ a _ (allX_sound hcall hF hns hQ _ hx hR' hK')
          · exact wpAny_sound ops.size _ _ a _ (allX_sound hcall hF hns hQ _ hy hR' hK')
        · cases h
      · cases h
  · cases h

/-- What is known of other blocks stays known. -/
theorem frame_ok {ρ : Env} {m m' : Emb} {s p : St} {I : List Nat} {w w' : World} {a a' : Act} (hR : Rep m ρ s a w) (hn : s.next ≤ p.next)
    (hI : ∀ i ∈ I, ∀ B, p.heap.get i = some B → B.live = true → liveIn s.heap i = true) (hIn : ∀ i ∈ I, i < s.next) (hfr : freshOk p (range' s.next p.next) = true)
    (hR' : Rep m' ρ p a' w') (hT : Trans m (restH s.heap I) w m' p.heap w') :
    Rep m' ρ ⟨p.tmps, copyH p.heap (I ++ range' s.next p.next) s.heap, p.next, p.sz⟩ a' w' ∧ Trans m s.heap w m' (copyH p.heap (I ++ range' s.next p.next) s.heap) w' := by
  have hget : ∀ id B, (copyH p.heap (I ++ range' s.next p.next) s.heap).get id = some B → (id ∈ I ++ range' s.next p.next ∧ p.heap.get id = some B) ∨ (id ∉ I ++ range' s.next p.next ∧ s.heap.get id = some B) := by
    intro id B h
    rw [copyH_get] at h
    split at h
    · rename_i hm; exact .inl ⟨hm, h⟩
    · rename_i hm; exact .inr ⟨hm, h⟩
  have hfpR : ∀ b, Fp m (restH s.heap I) b → ∃ id B, id ∈ I ∧ s.heap.get id = some B ∧ B.rw = true ∧ m.ι id = some b := by
    rintro b ⟨id, B, hB, hrw, hb⟩
    rw [restH_get] at hB
    split at hB
    · rename_i hm; exact ⟨id, B, hm, hB, hrw, hb⟩
    · cases hB
  -- a block that was known and lies outside
  have hold : ∀ id B b, id ∉ I ++ range' s.next p.next → s.heap.get id = some B → B.live = true → m.ι id = some b → ¬ Fp m (restH s.heap I) b := by
    intro id B b hm hB hl hb hf
    obtain ⟨id', B', hm', hB', hrw', hb'⟩ := hfpR b hf
    have := hR.heap.inj id' id B' B b hB' hB hrw' hl hb' hb
    subst this
    exact hm (List.mem_append_left _ hm')
  have hlive : ∀ id B, id ∈ I ++ range' s.next p.next → p.heap.get id = some B → B.live = true → (id ∈ I ∧ ∃ C, s.heap.get id = some C ∧ C.live = true) ∨ (s.next ≤ id ∧ B.rw = true) := by
    intro id B hm hB hl
    rcases List.mem_append.1 hm with hm | hm
    · left
      refine ⟨hm, ?_⟩
      have := hI id hm B hB hl
      unfold liveIn at this
      split at this
      · rename_i C hC; exact ⟨C, hC, this⟩
      · cases this
    · right
      have h1 := mem_range'.1 hm
      refine ⟨h1.1, ?_⟩
      have := (List.all_eq_true.1 hfr) id hm
      simp only [hB, hl, Bool.not_true, Bool.false_or] at this
      exact this
  have hsame : ∀ id b, m.ι id = some b → m'.ι id = some b ∧ m'.κ id = m.κ id := fun id b h => hT.ext id b h
  have hblk : ∀ id B, (copyH p.heap (I ++ range' s.next p.next) s.heap).get id = some B → B.live = true → ∃ b o, m'.ι id = some b ∧ w'.heap[b]? = some o ∧ B.R m' ρ (m'.κ id) o := by
    intro id B hB hl
    rcases hget id B hB with ⟨hm, hB⟩ | ⟨hm, hB⟩
    · exact hR'.heap.blk id B hB hl
    · obtain ⟨b, o, h1, h2, h3⟩ := hR.heap.blk id B hB hl
      obtain ⟨g1, g2⟩ := hsame id b h1
      refine ⟨b, o, g1, ?_, by rw [g2]; exact h3.mono hT.ext⟩
      rw [hT.frame b (Array.getElem?_eq_some_iff.1 h2).1 (hold id B b hm hB hl h1)]; exact h2
  refine ⟨⟨⟨hR'.tmps.get, hR'.tmps.defers⟩, hR'.size, ⟨hblk, fun id id' B B' b hB hB' hrw hl hb hb' => ?_⟩, hR'.fresh⟩, ⟨hT.ext, hT.size, fun b hb hnf => hT.frame b hb fun hf => ?_, fun b ⟨id, B, hB, hrw, hb⟩ => ?_, hT.tape, hT.os, hT.output⟩⟩
  · rcases hget id B hB with ⟨hm, hB1⟩ | ⟨hm, hB1⟩
    · rcases hget id' B' hB' with ⟨hm', hB1'⟩ | ⟨hm', hB1'⟩
      · exact hR'.heap.inj id id' B B' b hB1 hB1' hrw hl hb hb'
      · exfalso
        obtain ⟨b2, o, h1, h2, _⟩ := hR.heap.blk id' B' hB1' hl
        have := (hsame id' b2 h1).1
        rw [hb'] at this; cases this
        rcases hT.fp b ⟨id, B, hB1, hrw, hb⟩ with hf | hf
        · exact hold id' B' b hm' hB1' hl h1 hf
        · have := (Array.getElem?_eq_some_iff.1 h2).1; omega
    · obtain ⟨b2, o, h1, h2, _⟩ := hR.heap.blk id B hB1 (Blk.live_of_rw hrw)
      have hbb := (hsame id b2 h1).1
      rw [hb] at hbb; cases hbb
      rcases hget id' B' hB' with ⟨hm', hB1'⟩ | ⟨hm', hB1'⟩
      · exfalso
        rcases hlive id' B' hm' hB1' hl with ⟨hi, C, hC, hCl⟩ | ⟨hge, hrw'⟩
        · obtain ⟨b3, o3, k1, k2, _⟩ := hR.heap.blk id' C hC hCl
          have := (hsame id' b3 k1).1
          rw [hb'] at this; cases this
          have := hR.heap.inj id id' B C b hB1 hC hrw hCl h1 k1
          subst this
          exact hm hm'
        · rcases hT.fp b ⟨id', B', hB1', hrw', hb'⟩ with hf | hf
          · exact hold id B b hm hB1 (Blk.live_of_rw hrw) h1 hf
          · have := (Array.getElem?_eq_some_iff.1 h2).1; omega
      · obtain ⟨b3, o3, k1, k2, _⟩ := hR.heap.blk id' B' hB1' hl
        have := (hsame id' b3 k1).1
        rw [hb'] at this; cases this
        exact hR.heap.inj id id' B B' b hB1 hB1' hrw hl h1 k1
  · obtain ⟨id, B, hm, hB, hrw, hb'⟩ := hfpR b hf
    exact hnf ⟨id, B, hB, hrw, hb'⟩
  · rcases hget id B hB with ⟨hm, hB1⟩ | ⟨hm, hB1⟩
    · rcases hT.fp b ⟨id, B, hB1, hrw, hb⟩ with hf | hf
      · obtain ⟨id', B', hm', hB', hrw', hb'⟩ := hfpR b hf
        exact .inl ⟨id', B', hB', hrw', hb'⟩
      · exact .inr hf
    · obtain ⟨b2, o, h1, h2, _⟩ := hR.heap.blk id B hB1 (Blk.live_of_rw hrw)
      have := (hsame id b2 h1).1
      rw [hb] at this; cases this
      exact .inl ⟨id, B, hB1, hrw, h1⟩

theorem drawY_ok {call : CallD} (hcall : CallOk P F call) : DrawOk P F (drawY P F call) := by
  intro ops st st' h ρ hF m a w hR id Q hK
  unfold drawY at h
  split at h
  · rename_i z hz
    cases h
    exact drawX_ok hcall ops st st' hz ρ hF m a w hR id Q hK
  · split at h
    · unfold allZ at h
      simp only at h
      split at h
      · rename_i p hp
        split at h
        · rename_i hc
          cases h
          simp only [Bool.and_eq_true, decide_eq_true_eq] at hc
          obtain ⟨hn, hI, hIn, hfr⟩ := hc
          have hRr : Rep m ρ ⟨st.tmps, restH st.heap (regionIds st.heap st.tmps ops ++ regIds st.heap), st.next, st.sz⟩ a w := by
            refine ⟨hR.tmps, hR.size, ⟨fun i B hB hl => ?_, fun i j B C b hB hC hrw hl hi hj => ?_⟩, hR.fresh⟩
            · simp only [restH_get] at hB
              split at hB
              · exact hR.heap.blk i B hB hl
              · cases hB
            · simp only [restH_get] at hB hC
              split at hB
              · split at hC
                · exact hR.heap.inj i j B C b hB hC hrw hl hi hj
                · cases hC
              · cases hB
          have hwp := allO_ok hcall hp hF hRr id (Q := fun e a' w' => e = .normal ∧ Q .normal a' w') (fun c a w h => by cases h.1) fun a' w' m' hR' hT' => by
            obtain ⟨g1, g2⟩ := frame_ok hR hn (fun i hi B hB hl => by
              have := (List.all_eq_true.1 hI) i hi
              simpa only [hB, hl, Bool.not_true, Bool.false_or] using this) (fun i hi => by simpa using (List.all_eq_true.1 hIn) i hi) hfr hR' hT'
            exact ⟨rfl, hK a' w' m' g1 g2⟩
          intro b k cs
          obtain ⟨e, a', w', ⟨rfl, hq⟩, harr⟩ := hwp b k cs
          exact ⟨.normal, a', w', hq, harr⟩
        · cases h
      · cases h
    · cases h

/-- The symbolic machine whole. Of 'loops': its last five digits tell how far a code goes, the others how many tests that are not decided a call may take both ways. -/
def runX (P : Program) (F : Facts) (Γ : Facts → FuncId → Option CallD) (loops depth : Nat) : CallD :=
  callX P Γ (fun F' call => drawY P F' call) (loops % 100000) (F.conds.length + loops / 100000) depth F

def ΓOk (P : Program) (F : Facts) (Γ : FuncId → Option CallD) : Prop :=
  ∀ f c, Γ f = some c → ∀ args h n r, c f args h n = some r → ∀ ρ, F.ok ρ → ∀ m w (vs : Array Value), DV.RL m ρ args vs.toList → HeapR m ρ h w → (∀ id, n ≤ id → m.ι id = none) →
    Calls P f vs w fun e w' => ∃ v m', e = .returned v ∧ r.d.R m' ρ v ∧ HeapR m' ρ r.h w' ∧ Trans m h w m' r.h w' ∧ (∀ id, r.n ≤ id → m'.ι id = none)

theorem runX_ok {Γ : Facts → FuncId → Option CallD} (hΓ : ∀ F' : Facts, F'.sem = F.sem → ΓOk P F' (Γ F')) (loops depth : Nat) : CallOk P F (runX P F Γ loops depth) :=
  callX_sound (S := F.sem) hΓ (fun _ _ _ h => drawY_ok h) _ _ depth F rfl

def Γ0 : FuncId → Option CallD := fun _ => none
theorem Γ0_ok : ΓOk P F Γ0 := fun _ _ h => by cases h

end

end Go.Eng
