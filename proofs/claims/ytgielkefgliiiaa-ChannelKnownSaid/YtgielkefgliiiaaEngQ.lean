/-
  A region that draws its order: in whatever order its operations are done, it comes to what the order of the text comes to.
-/
import Derived.Test.YtgielkefgliiiaaEngP
namespace Go.Eng

section
variable {P : Program} {F : Facts}

theorem stepV_sound {call : CallD} {ρ : Env} (hF : F.ok ρ) {ops : Array Oper} {o : Oper} {st st' : St} (h : stepX P F call ops o st = some st') (hv : wantD F ops st o = some false ∨ (wantD F ops st o = some true ∧ ∃ d, valD P F st.heap st.tmps o.op = some d))
    {m : Emb} {a : Act} {w : World} (hR : Rep m ρ st a w) {K : Act → World → Prop} {Q : Exit → Act → World → Prop} (hK : ∀ v, Rep m ρ st' (a.put o.dst v) w → K (a.put o.dst v) w) :
    if Region.wanted o (yielded ops a.tmps) then o.wp P a w K Q ∨ (o.asks P a w ∧ LetsOut Q) else K (a.put o.dst undef) w := by
  unfold stepX at h
  rcases hv with hw | ⟨hw, d, hd⟩
  · rw [hw] at h
    rw [wantD_spec hF hR hw]
    simp only [Bool.false_eq_true, if_false]
    obtain ⟨h1, h2, h3⟩ := rep_put hR (d := .tup []) (v := undef) (by simp [DV.R, DV.RL, undef]) h
    exact hK _ h1
  · rw [hw] at h
    simp only [hd] at h
    rw [wantD_spec hF hR hw]
    simp only [if_true]
    left
    unfold Oper.wp
    obtain ⟨v, hrun, hr⟩ := valD_sound hF hR.heap hR.tmps hd
    rw [hrun]
    simp only [Oper.upon]
    obtain ⟨h1, h2, h3⟩ := rep_put hR hr h
    exact hK _ h1

/-- A run of a region in the order of the text, with what each operation looks at. -/
structure DR where
  S : Nat → St
  R : Nat → St
  P : Nat → St
  ids : Nat → List Nat
  val : Nat → Bool

def DR.fresh (D : DR) (i id : Nat) : Prop := (D.S i).next ≤ id ∧ id < (D.S (i + 1)).next
def DR.foot (D : DR) (i id : Nat) : Prop := id ∈ D.ids i ∨ D.fresh i id
def DR.touched (D : DR) (i id : Nat) : Prop := D.val i = false ∧ D.foot i id
def DR.known (D : DR) (i id : Nat) : Prop :=
  D.fresh i id ∨ (∃ t d, (D.R i).tmps.get t = some d ∧ id ∈ d.ids) ∨ (∃ x B, (D.R i).heap.get x = some B ∧ B.live = true ∧ (id = x ∨ id ∈ B.ids))

structure DR.Ok (P : Program) (F : Facts) (call : CallD) (ops : Array Oper) (D : DR) : Prop where
  rt : ∀ i o, ops[i]? = some o → ∀ t, (D.R i).tmps.get t = if t ∈ o.looksAt ops then (D.S i).tmps.get t else none
  rh : ∀ i o, ops[i]? = some o → ∀ id, (D.R i).heap.get id = if id ∈ D.ids i then (D.S i).heap.get id else none
  rn : ∀ i o, ops[i]? = some o → (D.R i).next = (D.S i).next ∧ (D.R i).sz = (D.S i).sz ∧ (D.S (i + 1)).sz = (D.S i).sz
  live : ∀ i o, ops[i]? = some o → ∀ id ∈ D.ids i, ∃ B, (D.S i).heap.get id = some B ∧ B.live = true
  scT : ∀ i o, ops[i]? = some o → ∀ t d, (D.R i).tmps.get t = some d → ∀ id ∈ d.ids, id < (D.S i).next
  scB : ∀ i o, ops[i]? = some o → ∀ id B, (D.R i).heap.get id = some B → id < (D.S i).next ∧ ∀ x ∈ B.ids, x < (D.S i).next
  step : ∀ i o, ops[i]? = some o → stepX P F call ops o (D.R i) = some (D.P i)
  vals : ∀ i o, ops[i]? = some o → D.val i = true → (D.S (i + 1)).next = (D.S i).next ∧ (wantD F ops (D.R i) o = some false ∨ (wantD F ops (D.R i) o = some true ∧ ∃ d, valD P F (D.R i).heap (D.R i).tmps o.op = some d))
  nx : ∀ i o, ops[i]? = some o → (D.S i).next ≤ (D.S (i + 1)).next ∧ (D.S (i + 1)).next = (D.P i).next
  tm : ∀ i o, ops[i]? = some o → ∀ t, (D.S (i + 1)).tmps.get t = if o.dst = some t then (D.P i).tmps.get t else (D.S i).tmps.get t
  hp : ∀ i o, ops[i]? = some o → ∀ id, (D.touched i id → (D.S (i + 1)).heap.get id = (D.P i).heap.get id) ∧ (¬ D.touched i id → (D.S (i + 1)).heap.get id = (D.S i).heap.get id)
  outT : ∀ i o, ops[i]? = some o → ∀ t d, o.dst = some t → (D.P i).tmps.get t = some d → ∀ id ∈ d.ids, D.known i id
  outB : ∀ i o, ops[i]? = some o → ∀ id B, D.touched i id → (D.P i).heap.get id = some B → ∀ x ∈ B.ids, D.known i x
  newrw : ∀ i o, ops[i]? = some o → ∀ id B, D.fresh i id → (D.P i).heap.get id = some B → B.live = true → B.rw = true
  confT : ∀ i j oi oj, i < j → ops[i]? = some oi → ops[j]? = some oj → ((∃ t, oi.dst = some t ∧ (t ∈ oj.looksAt ops ∨ oj.dst = some t)) ∨ (∃ t, oj.dst = some t ∧ t ∈ oi.looksAt ops)) → ahead (befFrom [] ops.toList) i j = true
  confB : ∀ i j oi oj, i < j → ops[i]? = some oi → ops[j]? = some oj → (D.val i = false ∨ D.val j = false) → (∃ id, D.foot i id ∧ D.foot j id) → ahead (befFrom [] ops.toList) i j = true

variable {call : CallD} {ops : Array Oper} {D : DR}

/-- The state k of the text's order knows of the block id what the memory holds, where L is done. -/
def DR.Cons (D : DR) (n : Nat) (L : Nat → Prop) (k id : Nat) : Prop := ∀ i, i < n → D.touched i id → (i < k ↔ L i)
def DR.ConsT (ops : Array Oper) (L : Nat → Prop) (k t : Nat) : Prop := ∀ i o, ops[i]? = some o → o.dst = some t → (i < k ↔ L i)

structure DInv (D : DR) (ops : Array Oper) (ρ : Env) (m0 : Emb) (w0 : World) (L : Nat → Prop) (m : Emb) (a : Act) (w : World) : Prop where
  lt : ∀ i, L i → i < ops.size
  closed : Closed ops L
  size : a.tmps.size = (D.S 0).sz
  defers : a.defers = []
  tm : ∀ k, k ≤ ops.size → ∀ t d, (D.S k).tmps.get t = some d → DR.ConsT ops L k t → ∃ v, a.tmps[t]? = some v ∧ d.R m ρ v
  bl : ∀ k, k ≤ ops.size → ∀ id B, (D.S k).heap.get id = some B → B.live = true → D.Cons ops.size L k id → ∃ b o, m.ι id = some b ∧ w.heap[b]? = some o ∧ B.R m ρ (m.κ id) o
  inj : ∀ k k', k ≤ ops.size → k' ≤ ops.size → ∀ id id' B B' b, (D.S k).heap.get id = some B → (D.S k').heap.get id' = some B' → D.Cons ops.size L k id → D.Cons ops.size L k' id' → B.rw = true → B'.live = true → m.ι id = some b → m.ι id' = some b → id = id'
  un : ∀ i, i < ops.size → ¬ L i → ∀ id, D.fresh i id → m.ι id = none
  un' : ∀ id, (D.S ops.size).next ≤ id → m.ι id = none
  ext : m0.le m
  grow : w0.heap.size ≤ w.heap.size
  frame : ∀ b, b < w0.heap.size → ¬ Fp m0 (D.S 0).heap b → w.heap[b]? = w0.heap[b]?
  fp : ∀ k, k ≤ ops.size → ∀ id B b, (D.S k).heap.get id = some B → B.rw = true → D.Cons ops.size L k id → m.ι id = some b → Fp m0 (D.S 0).heap b ∨ w0.heap.size ≤ b
  tape : w.tape = w0.tape
  os : w.os = w0.os
  output : w.output = w0.output

theorem getlt {ops : Array Oper} {i : Nat} (h : i < ops.size) : ∃ o, ops[i]? = some o := ⟨ops[i], by simp [h]⟩

theorem next_mono (hD : D.Ok P F call ops) : ∀ {i k : Nat}, i ≤ k → k ≤ ops.size → (D.S i).next ≤ (D.S k).next := by
  intro i k h
  induction k with
  | zero => intro _; have : i = 0 := by omega
            subst this; exact Nat.le_refl _
  | succ k ih =>
    intro hk
    by_cases e : i = k + 1
    · subst e; exact Nat.le_refl _
    · obtain ⟨o, ho⟩ := getlt (ops := ops) (i := k) (by omega)
      exact Nat.le_trans (ih (by omega) (by omega)) (hD.nx k o ho).1

theorem fresh_apart (hD : D.Ok P F call ops) {i j id : Nat} (hi : i < ops.size) (hj : j < ops.size) (h1 : D.fresh i id) (h2 : D.fresh j id) : i = j := by
  rcases Nat.lt_trichotomy i j with h | h | h
  · have := next_mono hD (i := i + 1) (k := j) (by omega) (by omega)
    have := h1.2; have := h2.1; omega
  · exact h
  · have := next_mono hD (i := j + 1) (k := i) (by omega) (by omega)
    have := h2.2; have := h1.1; omega

theorem tmps_stay (hD : D.Ok P F call ops) {t : Nat} : ∀ {p q : Nat}, p ≤ q → q ≤ ops.size → (∀ i o, p ≤ i → i < q → ops[i]? = some o → o.dst ≠ some t) → (D.S q).tmps.get t = (D.S p).tmps.get t := by
  intro p q h
  induction q with
  | zero => intro _ _; have : p = 0 := by omega
            subst this; rfl
  | succ q ih =>
    intro hq hn
    by_cases e : p = q + 1
    · subst e; rfl
    · obtain ⟨o, ho⟩ := getlt (ops := ops) (i := q) (by omega)
      rw [hD.tm q o ho t, if_neg (hn q o (by omega) (by omega) ho)]
      exact ih (by omega) (by omega) fun i o h1 h2 => hn i o h1 (by omega)

theorem heap_stay (hD : D.Ok P F call ops) {id : Nat} : ∀ {p q : Nat}, p ≤ q → q ≤ ops.size → (∀ i, p ≤ i → i < q → ¬ D.touched i id) → (D.S q).heap.get id = (D.S p).heap.get id := by
  intro p q h
  induction q with
  | zero => intro _ _; have : p = 0 := by omega
            subst this; rfl
  | succ q ih =>
    intro hq hn
    by_cases e : p = q + 1
    · subst e; rfl
    · obtain ⟨o, ho⟩ := getlt (ops := ops) (i := q) (by omega)
      rw [(hD.hp q o ho id).2 (hn q (by omega) (by omega))]
      exact ih (by omega) (by omega) fun i h1 h2 => hn i h1 (by omega)

/-- Operation j may be done next: the states know what it looks at. -/
theorem consT_at (hD : D.Ok P F call ops) {L : Nat → Prop} (hlt : ∀ i, L i → i < ops.size) (hcl : Closed ops L) {j : Nat} {o : Oper} (ho : ops[j]? = some o) (hj : ¬ L j) (hall : ∀ e ∈ o.after, Region.binds .any e = true → L e.on)
    {t : Nat} (ht : t ∈ o.looksAt ops ∨ o.dst = some t) : DR.ConsT ops L j t := by
  intro i oi hoi hd
  constructor
  · intro hij
    exact ahead_spec hcl ho (hD.confT i j oi o hij hoi ho (.inl ⟨t, hd, ht⟩)) hall
  · intro hL
    rcases Nat.lt_trichotomy i j with h | h | h
    · exact h
    · subst h; exact absurd hL hj
    · exfalso
      refine hj (ahead_spec hcl hoi (hD.confT j i o oi h ho hoi ?_) (hcl i oi hL hoi))
      rcases ht with ht | ht
      · exact .inr ⟨t, hd, ht⟩
      · exact .inl ⟨t, ht, .inr hd⟩

theorem cons_at (hD : D.Ok P F call ops) {L : Nat → Prop} (hlt : ∀ i, L i → i < ops.size) (hcl : Closed ops L) {j : Nat} {o : Oper} (ho : ops[j]? = some o) (hj : ¬ L j) (hall : ∀ e ∈ o.after, Region.binds .any e = true → L e.on)
    {id : Nat} (hid : D.foot j id) : D.Cons ops.size L j id := by
  intro i hi ht
  obtain ⟨oi, hoi⟩ := getlt hi
  constructor
  · intro hij
    exact ahead_spec hcl ho (hD.confB i j oi o hij hoi ho (.inl ht.1) ⟨id, ht.2, hid⟩) hall
  · intro hL
    rcases Nat.lt_trichotomy i j with h | h | h
    · exact h
    · subst h; exact absurd hL hj
    · exact absurd (ahead_spec hcl hoi (hD.confB j i o oi h ho hoi (.inr ht.1) ⟨id, hid, ht.2⟩) (hcl i oi hL hoi)) hj

/-- Once j is done: a state that knows of what j writes stands behind j, and has what j left. -/
theorem after_tm (hD : D.Ok P F call ops) {L : Nat → Prop} (hlt : ∀ i, L i → i < ops.size) (hcl : Closed ops L) {j : Nat} {o : Oper} (ho : ops[j]? = some o) (hj : ¬ L j) (hall : ∀ e ∈ o.after, Region.binds .any e = true → L e.on)
    {t k : Nat} (hk : k ≤ ops.size) (ht : o.dst = some t) (hc : DR.ConsT ops (fun i => L i ∨ i = j) k t) : (D.S k).tmps.get t = (D.P j).tmps.get t := by
  have hjk : j < k := (hc j o ho ht).2 (.inr rfl)
  have h1 := tmps_stay hD (t := t) (p := j + 1) (q := k) hjk hk (fun i oi h1 h2 hoi hd => by
    have := (hc i oi hoi hd).1 h2
    rcases this with hL | rfl
    · have := (consT_at hD hlt hcl ho hj hall (.inr ht) i oi hoi hd).2 hL; omega
    · omega)
  rw [h1, hD.tm j o ho t, if_pos ht]

theorem after_bl (hD : D.Ok P F call ops) {L : Nat → Prop} (hlt : ∀ i, L i → i < ops.size) (hcl : Closed ops L) {j : Nat} {o : Oper} (ho : ops[j]? = some o) (hj : ¬ L j) (hall : ∀ e ∈ o.after, Region.binds .any e = true → L e.on)
    {id k : Nat} (hk : k ≤ ops.size) (ht : D.touched j id) (hc : D.Cons ops.size (fun i => L i ∨ i = j) k id) : (D.S k).heap.get id = (D.P j).heap.get id := by
  have hjs : j < ops.size := (Array.getElem?_eq_some_iff.1 ho).1
  have hjk : j < k := (hc j hjs ht).2 (.inr rfl)
  have h1 := heap_stay hD (id := id) (p := j + 1) (q := k) hjk hk (fun i h1 h2 hti => by
    have := (hc i (by omega) hti).1 h2
    rcases this with hL | rfl
    · have := (cons_at hD hlt hcl ho hj hall ht.2 i (by omega) hti).2 hL; omega
    · omega)
  rw [h1, (hD.hp j o ho id).1 ht]

theorem cons_back {L : Nat → Prop} {j id k : Nat} (ht : ¬ D.touched j id) (hc : D.Cons ops.size (fun i => L i ∨ i = j) k id) : D.Cons ops.size L k id := fun i hi hti => by
  rw [hc i hi hti]
  exact ⟨fun h => h.resolve_right (fun e => ht (e ▸ hti)), .inl⟩

theorem consT_back {L : Nat → Prop} {j t k : Nat} {o : Oper} (ho : ops[j]? = some o) (ht : o.dst ≠ some t) (hc : DR.ConsT ops (fun i => L i ∨ i = j) k t) : DR.ConsT ops L k t := fun i oi hoi hd => by
  rw [hc i oi hoi hd]
  exact ⟨fun h => h.resolve_right (fun e => by subst e; rw [ho] at hoi; cases hoi; exact ht hd), .inl⟩

theorem closed_add {L : Nat → Prop} (hcl : Closed ops L) {j : Nat} {o : Oper} (ho : ops[j]? = some o) (hall : ∀ e ∈ o.after, Region.binds .any e = true → L e.on) : Closed ops fun i => L i ∨ i = j := by
  intro i oi hL hoi e he hb
  rcases hL with hL | rfl
  · exact .inl (hcl i oi hL hoi e he hb)
  · rw [ho] at hoi; cases hoi; exact .inl (hall e he hb)

def Emb.below (m : Emb) (n : Nat) : Emb := ⟨fun id => if id < n then m.ι id else none, m.κ⟩

theorem Emb.below_same {m : Emb} {n id : Nat} (h : id < n) : m.same (m.below n) id := ⟨by simp [Emb.below, h], rfl⟩

theorem put_get (a : Act) (dst : Option Tmp) (v : Value) (t : Nat) (h : dst ≠ some t) : (a.put dst v).tmps[t]? = a.tmps[t]? := by
  cases dst with
  | none => rfl
  | some d => simp only [Act.put]; rw [Array.getElem?_setIfInBounds_ne (fun e => h (by rw [e]))]

theorem put_size (a : Act) (dst : Option Tmp) (v : Value) : (a.put dst v).tmps.size = a.tmps.size := by cases dst <;> simp [Act.put]
theorem put_defers' (a : Act) (dst : Option Tmp) (v : Value) : (a.put dst v).defers = a.defers := by cases dst <;> rfl

theorem sz_all (hD : D.Ok P F call ops) : ∀ {k : Nat}, k ≤ ops.size → (D.S k).sz = (D.S 0).sz := by
  intro k
  induction k with
  | zero => intro _; rfl
  | succ k ih => intro hk; obtain ⟨o, ho⟩ := getlt (ops := ops) (i := k) (by omega); rw [(hD.rn k o ho).2.2]; exact ih (by omega)

end

end Go.Eng
