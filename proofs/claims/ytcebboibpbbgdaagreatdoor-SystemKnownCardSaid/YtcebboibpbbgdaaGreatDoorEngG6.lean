/-
  A region that draws its order, whose last operations are behind all others and in the order of the text: its orders are those of what is ahead, then these.
-/
import Derived.Test.YtcebboibpbbgdaaGreatDoorEngG5
import Derived.Deep.Draws
import Derived.LoopNIn
import Derived.RangeFuncLeaves
import Derived.Scope
namespace Go.Eng

/-- Is the operation i told to be behind the operation j? -/
def afterB (ops : Array Oper) (i j : Nat) : Bool := match ops[i]? with
  | some o => o.after.toList.any fun e => Region.binds .any e && e.on == j
  | none => false

def guardOk (ops : Array Oper) (k i : Nat) : Bool := match ops[i]? with
  | some o => (match o.guard with
    | none => true
    | some (g, _) => decide (g < k))
  | none => true

def upOk (ops : Array Oper) (i : Nat) : Bool := match ops[i]? with
  | some o => o.after.toList.all fun e => decide (e.on < i)
  | none => true

/-- The operations from k on are behind all ahead of k, one behind the other. -/
def splitOk (ops : Array Oper) (k : Nat) : Bool :=
  !Region.departs ops && (!Region.departs (ops.extract 0 k) && (decide (k < ops.size) && ((List.range k).all (fun j => (List.range (k + 1)).any fun s => decide (j < s) && afterB ops s j) &&
    ((List.range ops.size).all (fun i => decide (i ≤ k) || afterB ops i (i - 1)) && ((List.range ops.size).all (upOk ops) && (List.range k).all (guardOk ops k))))))

theorem afterB_iff {ops : Array Oper} {i j : Nat} : afterB ops i j = true ↔ ∃ o, ops[i]? = some o ∧ ∃ e ∈ o.after.toList, Region.binds .any e = true ∧ e.on = j := by
  unfold afterB
  cases ho : ops[i]? with
  | none => simp
  | some o => simp only [Option.some.injEq, exists_eq_left', List.any_eq_true, Bool.and_eq_true, beq_iff_eq]

theorem gdB (L : Array Bool) (i : Nat) (d : Bool) : L.getD i d = (L[i]?).getD d := by simp

def rdy (ops : Array Oper) (L : Array Bool) (i : Nat) : Bool := !L.getD i true && ((ops[i]?).map (·.after.all fun e => !Region.binds .any e || L.getD e.on false)).getD false

theorem ready_rdy (ops : Array Oper) (L : Array Bool) : Region.ready .any ops L = (List.range ops.size).filter (rdy ops L) := rfl

theorem rdy_iff {ops : Array Oper} {L : Array Bool} {i : Nat} : rdy ops L i = true ↔ L[i]? = some false ∧ ∃ o, ops[i]? = some o ∧ ∀ e ∈ o.after.toList, Region.binds .any e = true → L[e.on]? = some true := by
  have hi : (L.getD i true = false) ↔ L[i]? = some false := by
    rw [gdB]; cases L[i]? with
    | none => simp
    | some b => simp
  have he : ∀ j, (L.getD j false = true) ↔ L[j]? = some true := fun j => by
    rw [gdB]; cases L[j]? with
    | none => simp
    | some b => simp
  unfold rdy
  cases ho : ops[i]? with
  | none => simp
  | some o =>
    simp only [Option.map_some, Option.getD_some, Bool.and_eq_true, Bool.not_eq_true', hi, ← Array.all_toList, List.all_eq_true, Bool.or_eq_true, he]
    constructor
    · rintro ⟨h1, h2⟩
      exact ⟨h1, o, rfl, fun e h hb => (h2 e h).resolve_left (by simp [hb])⟩
    · rintro ⟨h1, o', ho', h2⟩
      cases ho'
      refine ⟨h1, fun e h => ?_⟩
      cases hb : Region.binds .any e with
      | false => exact .inl rfl
      | true => exact .inr (h2 e h hb)

structure SplitP (ops : Array Oper) (k : Nat) : Prop where
  hk : k < ops.size
  suc : ∀ j, j < k → ∃ s, j < s ∧ s ≤ k ∧ afterB ops s j = true
  tail : ∀ i, k < i → i < ops.size → afterB ops i (i - 1) = true
  up : ∀ (i : Nat) (o : Oper), ops[i]? = some o → ∀ e ∈ o.after.toList, e.on < i

theorem splitP {ops : Array Oper} {k : Nat} (h : splitOk ops k = true) : SplitP ops k ∧ Region.departs ops = false ∧ Region.departs (ops.extract 0 k) = false ∧ ∀ (i : Nat) (o : Oper), i < k → ops[i]? = some o → ∀ g b, o.guard = some (g, b) → g < k := by
  unfold splitOk at h
  simp only [Bool.and_eq_true, Bool.not_eq_true', decide_eq_true_eq, List.all_eq_true, List.mem_range, List.any_eq_true, Bool.or_eq_true] at h
  obtain ⟨h1, h2, h3, h4, h5, h6, h7⟩ := h
  refine ⟨⟨h3, fun j hj => ?_, fun i h1 h2 => ?_, fun i o ho e he => ?_⟩, h1, h2, fun i o hi ho g b hgb => ?_⟩
  · obtain ⟨s, hs, g1, g2⟩ := h4 j hj
    exact ⟨s, g1, by omega, g2⟩
  · rcases h5 i h2 with x | x
    · omega
    · exact x
  · have := h6 i (Array.getElem?_eq_some_iff.1 ho).1
    unfold upOk at this
    rw [ho] at this
    simp only [List.all_eq_true, decide_eq_true_eq] at this
    exact this e he
  · have := h7 i hi
    unfold guardOk at this
    rw [ho] at this
    simp only [hgb, decide_eq_true_eq] at this
    exact this

structure InvB (ops : Array Oper) (k : Nat) (L L' : Array Bool) : Prop where
  sz : L.size = ops.size
  sz' : L'.size = k
  same : ∀ (i : Nat), i < k → L[i]? = L'[i]?
  rest : ∀ (i : Nat), k ≤ i → i < ops.size → L[i]? = some false
  cl : ∀ (i : Nat), L[i]? = some true → ∀ o : Oper, ops[i]? = some o → ∀ e ∈ o.after.toList, Region.binds .any e = true → L[e.on]? = some true

theorem not_rdy {ops : Array Oper} {L : Array Bool} {i j : Nat} (ha : afterB ops i j = true) (hf : L[j]? = some false) : rdy ops L i = false := by
  cases h : rdy ops L i with
  | false => rfl
  | true =>
    obtain ⟨_, o, ho, h2⟩ := rdy_iff.1 h
    obtain ⟨o', ho', e, he, hb, rfl⟩ := afterB_iff.1 ha
    rw [ho] at ho'; cases ho'
    have := h2 e he hb
    rw [hf] at this
    cases this

theorem some_bool {L : Array Bool} {i : Nat} (h : i < L.size) : L[i]? = some true ∨ L[i]? = some false := by
  rw [Array.getElem?_eq_getElem h]
  cases L[i] <;> simp

theorem behindK {ops : Array Oper} {k : Nat} (S : SplitP ops k) {L L' : Array Bool} (I : InvB ops k L L') : ∀ (d j : Nat), k - j = d → j < k → L[j]? = some false → rdy ops L k = false := by
  intro d
  induction d using Nat.strongRecOn with
  | _ d ih =>
    intro j hd hj hf
    obtain ⟨s, h1, h2, h3⟩ := S.suc j hj
    by_cases hs : s = k
    · subst hs; exact not_rdy h3 hf
    · have hsk : s < k := by omega
      have hk := S.hk
      rcases some_bool (L := L) (i := s) (by rw [I.sz]; omega) with g | g
      · obtain ⟨o, ho, e, he, hb, rfl⟩ := afterB_iff.1 h3
        have := I.cl s g o ho e he hb
        rw [hf] at this; cases this
      · exact ih (k - s) (by omega) s rfl hsk g

theorem behind {ops : Array Oper} {k : Nat} (S : SplitP ops k) {L L' : Array Bool} (I : InvB ops k L L') {j : Nat} (hj : j < k) (hf : L[j]? = some false) {i : Nat} (hi : k ≤ i) (hin : i < ops.size) : rdy ops L i = false := by
  by_cases h : i = k
  · subst h; exact behindK S I _ j rfl hj hf
  · exact not_rdy (S.tail i (by omega) hin) (I.rest (i - 1) (by omega) (by omega))

theorem someRdy {ops : Array Oper} {k : Nat} (S : SplitP ops k) {L L' : Array Bool} (I : InvB ops k L L') : ∀ (j : Nat), j < k → L[j]? = some false → ∃ i, i < k ∧ rdy ops L i = true := by
  intro j
  induction j using Nat.strongRecOn with
  | _ j ih =>
    intro hj hf
    cases h : rdy ops L j with
    | true => exact ⟨j, hj, h⟩
    | false =>
      have hk := S.hk
      have ho : ops[j]? = some ops[j] := Array.getElem?_eq_getElem (by omega)
      by_cases hall : ∀ e ∈ (ops[j]'(by omega)).after.toList, Region.binds .any e = true → L[e.on]? = some true
      · have := rdy_iff.2 ⟨hf, _, ho, hall⟩
        rw [h] at this; cases this
      · simp only [Classical.not_forall] at hall
        obtain ⟨e, he, hb, hn⟩ := hall
        have hlt := S.up j _ ho e he
        rcases some_bool (L := L) (i := e.on) (by rw [I.sz]; omega) with g | g
        · exact absurd g hn
        · exact ih e.on hlt (by omega) g

theorem go_step {md : Region.Mode} {ops : Array Oper} {fuel t i : Nat} {L : Array Bool} (h : (Region.ready md ops L)[t % (Region.ready md ops L).length]? = some i) :
    Region.linearise.go md ops (fuel + 1) t L [] = i :: Region.linearise.go md ops fuel (t / (Region.ready md ops L).length) (L.setIfInBounds i true) [] := by
  simp only [Region.linearise.go]
  change (match (Region.ready md ops L)[t % (Region.ready md ops L).length]? with
    | some i => Region.linearise.go md ops fuel (t / (Region.ready md ops L).length) (L.setIfInBounds i true) [i]
    | none => [].reverse) = _
  rw [h]
  simp only []
  rw [linearise_go_acc, List.reverse_singleton, List.singleton_append]

theorem go_none {md : Region.Mode} {ops : Array Oper} {fuel t : Nat} {L : Array Bool} (h : (Region.ready md ops L)[t % (Region.ready md ops L).length]? = none) :
    Region.linearise.go md ops (fuel + 1) t L [] = [] := by
  simp only [Region.linearise.go]
  change (match (Region.ready md ops L)[t % (Region.ready md ops L).length]? with
    | some i => Region.linearise.go md ops fuel (t / (Region.ready md ops L).length) (L.setIfInBounds i true) [i]
    | none => [].reverse) = _
  rw [h]
  rfl

theorem mem_go {md : Region.Mode} {ops : Array Oper} : ∀ (fuel t : Nat) (L : Array Bool), ∀ i ∈ Region.linearise.go md ops fuel t L [], i < ops.size
  | 0, t, L, i, hi => by simp [Region.linearise.go] at hi
  | fuel + 1, t, L, i, hi => by
    cases h : (Region.ready md ops L)[t % (Region.ready md ops L).length]? with
    | none => rw [go_none h] at hi; cases hi
    | some j =>
      rw [go_step h] at hi
      rcases List.mem_cons.1 hi with rfl | hi
      · exact List.mem_range.1 (List.mem_filter.1 (List.mem_of_getElem? h)).1
      · exact mem_go fuel _ _ i hi

theorem pick_some {l : List Nat} {x : Nat} (h : x ∈ l) (t : Nat) : ∃ i, l[t % l.length]? = some i ∧ i ∈ l := by
  have hlt := Nat.mod_lt t (List.length_pos_of_mem h)
  exact ⟨l[t % l.length], List.getElem?_eq_getElem hlt, List.getElem_mem hlt⟩

theorem go_tail {ops : Array Oper} {k : Nat} (S : SplitP ops k) : ∀ (m : Nat) (L : Array Bool) (t j : Nat), j + m = ops.size → k ≤ j → (∀ i, i < j → L[i]? = some true) → (∀ i, j ≤ i → i < ops.size → L[i]? = some false) → L.size = ops.size →
    Region.linearise.go .any ops m t L [] = List.range' j m
  | 0, L, t, j, _, _, _, _, _ => by simp [Region.linearise.go]
  | m + 1, L, t, j, hm, hkj, h1, h2, hsz => by
    have hj : j ∈ Region.ready .any ops L := by
      rw [ready_rdy]
      have ho : ops[j]? = some (ops[j]'(by omega)) := Array.getElem?_eq_getElem (by omega)
      exact List.mem_filter.2 ⟨List.mem_range.2 (by omega), rdy_iff.2 ⟨h2 j (Nat.le_refl _) (by omega), _, ho, fun e he _ => h1 e.on (S.up j _ ho e he)⟩⟩
    obtain ⟨i, hi, hir⟩ := pick_some hj t
    have hij : i = j := by
      rw [ready_rdy] at hir
      obtain ⟨g1, g2⟩ := List.mem_filter.1 hir
      have g1 := List.mem_range.1 g1
      have g3 := (rdy_iff.1 g2).1
      by_cases hlt : i < j
      · rw [h1 i hlt] at g3; cases g3
      · by_cases he : i = j
        · exact he
        · rw [not_rdy (S.tail i (by omega) g1) (h2 (i - 1) (by omega) (by omega))] at g2; cases g2
    subst hij
    rw [go_step hi, List.range'_succ]
    congr 1
    refine go_tail S m _ _ (i + 1) (by omega) (by omega) (fun x hx => ?_) (fun x hx hx2 => ?_) (by simp [hsz])
    · rw [Array.getElem?_setIfInBounds]
      split
      · rw [if_pos (by omega)]
      · exact h1 x (by omega)
    · rw [Array.getElem?_setIfInBounds, if_neg (by omega)]
      exact h2 x (by omega) hx2

theorem inv_set {ops : Array Oper} {k : Nat} (S : SplitP ops k) {L L' : Array Bool} (I : InvB ops k L L') {i : Nat} (hi : i < k) (hr : rdy ops L i = true) : InvB ops k (L.setIfInBounds i true) (L'.setIfInBounds i true) := by
  have hk := S.hk
  have hget : ∀ j, (L.setIfInBounds i true)[j]? = if i = j then some true else L[j]? := fun j => by
    rw [Array.getElem?_setIfInBounds]
    split
    · rw [if_pos (by rw [I.sz]; omega)]
    · rfl
  have hget' : ∀ j, (L'.setIfInBounds i true)[j]? = if i = j then some true else L'[j]? := fun j => by
    rw [Array.getElem?_setIfInBounds]
    split
    · rw [if_pos (by rw [I.sz']; omega)]
    · rfl
  have hmono : ∀ j, L[j]? = some true → (L.setIfInBounds i true)[j]? = some true := fun j h => by
    rw [hget]; split
    · rfl
    · exact h
  refine ⟨by simp [I.sz], by simp [I.sz'], fun j hj => by rw [hget, hget', I.same j hj], fun j h1 h2 => by rw [hget, if_neg (by omega)]; exact I.rest j h1 h2, fun j hj o ho e he hb => ?_⟩
  rw [hget] at hj
  split at hj
  · rename_i hij
    subst hij
    obtain ⟨_, o', ho', h2⟩ := rdy_iff.1 hr
    rw [ho] at ho'; cases ho'
    exact hmono _ (h2 e he hb)
  · exact hmono _ (I.cl j hj o ho e he hb)

theorem ex_get {ops : Array Oper} {k i : Nat} (hk : k < ops.size) (hi : i < k) : (ops.extract 0 k)[i]? = ops[i]? := by
  rw [Array.getElem?_extract, if_pos (by omega), Nat.zero_add]

theorem ready_split {ops : Array Oper} {k : Nat} (S : SplitP ops k) {L L' : Array Bool} (I : InvB ops k L L') {j : Nat} (hj : j < k) (hf : L[j]? = some false) : Region.ready .any ops L = Region.ready .any (ops.extract 0 k) L' := by
  have hk := S.hk
  have hs : (ops.extract 0 k).size = k := by simp; omega
  rw [ready_rdy, ready_rdy, hs, show ops.size = k + (ops.size - k) by omega, List.range_add, List.filter_append]
  have h2 : ((List.range (ops.size - k)).map (k + ·)).filter (rdy ops L) = [] := by
    rw [List.filter_eq_nil_iff]
    intro x hx
    obtain ⟨y, hy, rfl⟩ := List.mem_map.1 hx
    have := List.mem_range.1 hy
    rw [behind S I hj hf (Nat.le_add_right ..) (by omega)]
    simp
  rw [h2, List.append_nil]
  refine List.filter_congr fun x hx => ?_
  have hx := List.mem_range.1 hx
  rw [Bool.eq_iff_iff, rdy_iff, rdy_iff, ex_get hk hx, I.same x hx]
  refine and_congr_right fun _ => exists_congr fun o => and_congr_right fun ho => forall_congr' fun e => forall_congr' fun he => ?_
  rw [I.same e.on (Nat.lt_trans (S.up x o ho e he) hx)]

theorem go_split {ops : Array Oper} {k : Nat} (S : SplitP ops k) : ∀ (m : Nat) (L L' : Array Bool) (t : Nat), InvB ops k L L' → L'.toList.count false = m →
    Region.linearise.go .any ops (m + (ops.size - k)) t L [] = Region.linearise.go .any (ops.extract 0 k) m t L' [] ++ List.range' k (ops.size - k)
  | 0, L, L', t, I, hc => by
    have hk := S.hk
    have ht : ∀ i, i < k → L[i]? = some true := fun i hi => by
      rw [I.same i hi]
      rcases some_bool (L := L') (i := i) (by rw [I.sz']; exact hi) with g | g
      · exact g
      · have : false ∈ L'.toList := by
          obtain ⟨h1, h2⟩ := Array.getElem?_eq_some_iff.1 g
          rw [← h2]; simp
        exact absurd this (List.count_eq_zero.1 hc)
    rw [Nat.zero_add, go_tail S (ops.size - k) L t k (by omega) (Nat.le_refl _) ht I.rest I.sz]
    simp [Region.linearise.go]
  | m + 1, L, L', t, I, hc => by
    have hk := S.hk
    have hmem : false ∈ L'.toList := List.count_pos_iff.1 (by omega)
    obtain ⟨j, hj, hjf⟩ := List.mem_iff_getElem.1 hmem
    have hjk : j < k := by have := I.sz'; simp at hj; omega
    have hjf' : L'[j]? = some false := by
      rw [← Array.getElem?_toList, List.getElem?_eq_getElem hj, hjf]
    have hf : L[j]? = some false := by rw [I.same j hjk]; exact hjf'
    have hrr := ready_split S I hjk hf
    obtain ⟨x, hxk, hxr⟩ := someRdy S I j hjk hf
    have hx : x ∈ Region.ready .any ops L := by rw [ready_rdy]; exact List.mem_filter.2 ⟨List.mem_range.2 (by omega), hxr⟩
    obtain ⟨i, hi, hir⟩ := pick_some hx t
    have hir' : rdy ops L i = true := by rw [ready_rdy] at hir; exact (List.mem_filter.1 hir).2
    have hik : i < k := by
      rw [hrr] at hir
      have := List.mem_range.1 (List.mem_filter.1 hir).1
      simp at this; omega
    have hif : L'[i]? = some false := by rw [← I.same i hik]; exact (rdy_iff.1 hir').1
    have hi' : (Region.ready .any (ops.extract 0 k) L')[t % (Region.ready .any (ops.extract 0 k) L').length]? = some i := by rw [← hrr]; exact hi
    rw [show m + 1 + (ops.size - k) = (m + (ops.size - k)) + 1 by omega, go_step hi, go_step hi', ← hrr, List.cons_append]
    congr 1
    refine go_split S m _ _ _ (inv_set S I hik hir') ?_
    rw [Array.toList_setIfInBounds, List.count_set (by simpa [I.sz'] using hik)]
    have : L'.toList[i]'(by simpa [I.sz'] using hik) = false := by
      have := (Array.getElem?_eq_some_iff.1 hif).2
      simpa using this
    rw [this, hc]
    simp

theorem lin_split {ops : Array Oper} {k : Nat} (S : SplitP ops k) (t : Nat) : Region.linearise .any ops t = Region.linearise .any (ops.extract 0 k) t ++ List.range' k (ops.size - k) := by
  have hk := S.hk
  have hs : (ops.extract 0 k).size = k := by simp; omega
  have I : InvB ops k (Array.replicate ops.size false) (Array.replicate k false) := by
    refine ⟨by simp, by simp, fun i hi => ?_, fun i _ hi => ?_, fun i hi => ?_⟩
    · rw [Array.getElem?_replicate, Array.getElem?_replicate, if_pos (by omega), if_pos hi]
    · rw [Array.getElem?_replicate, if_pos hi]
    · rw [Array.getElem?_replicate] at hi
      split at hi <;> cases hi
  have := go_split S k _ _ t I (by simp)
  rw [show k + (ops.size - k) = ops.size by omega] at this
  unfold Region.linearise
  rw [hs]
  exact this
end Go.Eng

/-
  Regions in the order of the text, code, calls.
-/
namespace Go.Eng

abbrev CallD := FuncId → List DV → T Blk → Nat → Option Out
/-- A round of a range over a function: what it does with the record. -/
abbrev RndD := Nat → List DV → T Blk → Nat → Option Out

section
variable (P : Program) (F : Facts)

def wantD (ops : Array Oper) (st : St) (o : Oper) : Option Bool :=
  match o.guard with
  | none => some true
  | some (j, want) => match (ops[j]?).bind (·.dst) with
    | some t => match st.tmps.get t with
      | some (.bool e) => (e.dec F).map (· == want)
      | some (.tup []) => some false
      | _ => none
    | none => none

def putT (st : St) (dst : Option Tmp) (d : DV) : Option St :=
  match dst with
  | none => some st
  | some t => if t < st.sz then some { st with tmps := st.tmps.set t d } else none

def bodyOk (g : FuncId) : Bool := match P.funcs[g]? with
  | some fn => fn.body.isSome && !(fn.name == "runtime.NumGoroutine")
  | none => false

/-- Which function is called with what. -/
def calleeD (t : T DV) : Op → Option (FuncId × List DV)
  | .call c => match c.callee, c.args.toList.mapM (opd t) with
    | .value f, some as => match opd t f with
      | some (.fn (.func g) first cap) => if bodyOk P g then some (g, first ++ as ++ cap) else none
      | some (.fn (.method name) (.ifc ty d :: r) _) => match methodD P ty name with
        | some g => if bodyOk P g then some (g, d :: (r ++ as)) else none
        | none => none
      | _ => none
    | .invoke recv name, some as => match opd t recv with
      | some (.ifc ty d) => match methodD P ty name with
        | some g => if bodyOk P g then some (g, d :: as) else none
        | none => none
      | _ => none
    | _, _ => none
  | _ => none

def stepX (call : CallD) (ops : Array Oper) (o : Oper) (st : St) : Option St :=
  match wantD F ops st o with
  | some false => putT st o.dst (.tup [])
  | some true => match valD P F st.heap st.tmps o.op with
    | some d => putT st o.dst d
    | none => match memD P F st.heap st.next st.tmps o.op with
      | some r => putT { st with heap := r.h, next := r.n } o.dst r.d
      | none => match calleeD P st.tmps o.op with
        | some (g, args) => match call g args st.heap st.next with
          | some r => putT { st with heap := r.h, next := r.n } o.dst r.d
          | none => none
        | none => none
  | none => none

def opsX (call : CallD) (ops : Array Oper) : List Nat → St → Option St
  | [], st => some st
  | i :: r, st => match ops[i]? with
    | none => opsX call ops r st
    | some o => match stepX P F call ops o st with
      | some st' => opsX call ops r st'
      | none => none

/-- A call of what a range over a function gives. -/
def yieldD (t : T DV) : Op → Option (Nat × List DV)
  | .call c => match c.callee with
    | .value f => match opd t f with
      | some (.yld id) => (c.args.toList.mapM (opd t)).map fun as => (id, as)
      | _ => none
    | _ => none
  | _ => none

/-- What is deferred. -/
def deferD (t : T DV) : Op → Option Dfr
  | .defer c => match c.callee, c.args.toList.mapM (opd t) with
    | .value f, some as => match opd t f with
      | some (.fn (.func g) first cap) => if bodyOk P g then some (.call g (first ++ as) cap) else none
      | _ => none
    | _, _ => none
  | _ => none

/-- One operation, in a round or not. -/
def stepR (call : CallD) (rnd : RndD) (ro : Option Nat) (ops : Array Oper) (o : Oper) (st : St) : Option St :=
  match stepX P F call ops o st with
  | some st' => some st'
  | none => match wantD F ops st o with
    | some true => match yieldD st.tmps o.op with
      | some (id, args) => match rnd id args st.heap st.next with
        | some r => putT { st with heap := r.h, next := r.n } o.dst r.d
        | none => none
      | none => match ro, deferD P st.tmps o.op with
        | none, some d => putT { st with dfs := d :: st.dfs } o.dst (.tup [])
        | _, _ => none
    | _ => none

def opsR (call : CallD) (rnd : RndD) (ro : Option Nat) (ops : Array Oper) : List Nat → St → Option St
  | [], st => some st
  | i :: r, st => match ops[i]? with
    | none => opsR call rnd ro ops r st
    | some o => match stepR P F call rnd ro ops o st with
      | some st' => opsR call rnd ro ops r st'
      | none => none

/-- The first operation that calls a value. -/
def callAt (ops : Array Oper) : Option Nat := ops.toList.findIdx? fun o => match o.op with
  | .call c => (match c.callee with
    | .value _ => true
    | _ => false)
  | _ => false

/-- A region that draws the order of what is ahead of a call of a value. -/
def splitX (call : CallD) (rnd : RndD) (ro : Option Nat) (draw : Array Oper → St → Option St) (ops : Array Oper) (st : St) : Option St := match callAt ops with
  | some k => if splitOk ops k then (match draw (ops.extract 0 k) st with
    | some st1 => opsR P F call rnd ro ops (List.range' k (ops.size - k)) st1
    | none => none) else none
  | none => none

inductive Ex where
  | norm | exit (id : Nat) | ret
  deriving DecidableEq

def Ex.to : Ex → Exit
  | .norm => .normal
  | .exit id => .exit id
  | .ret => .ret

def argsT : Nat → List DV → T DV
  | _, [] => .nil
  | i, d :: r => (argsT (i + 1) r).set i d

def resD (st : St) : ResultVar → Option DV
  | .tmp t => st.tmps.get t
  | .cell a ty => match st.tmps.get a with
    | some p => loadD P F st.heap ty p
    | none => none

def resultsD (fn : Func) (st : St) : Option DV :=
  match fn.results.toList.mapM (resD P F st) with
  | some [d] => some d
  | some ds => some (.tup ds)
  | none => none

end

/-- How a code ends: by tests that are not decided. -/
inductive CR where
  | leaf (x : Ex) (st : St)
  | node (e : E) (a b : CR)

/-- Two ends that a test tells apart: made one, where they may be. -/
def mkCR (F : Facts) (e : E) (n0 : Nat) (a b : CR) : CR := match a, b with
  | .leaf x s, .leaf y t => if x = y then (match mergeSt F e n0 s t with | some z => .leaf x z | none => .node e (.leaf x s) (.leaf y t)) else .node e (.leaf x s) (.leaf y t)
  | a, b => .node e a b

def CR.bind (n0 : Nat) (k : Facts → St → Option CR) : Facts → CR → Option CR
  | F, .leaf .norm st => k F st
  | _, .leaf x st => some (.leaf x st)
  | F, .node e a b => match CR.bind n0 k (F.cons e true) a, CR.bind n0 k (F.cons e false) b with
    | some x, some y => some (mkCR F e n0 x y)
    | _, _ => none

/-- At the end of a block. -/
def CR.out (n0 : Nat) (id : Nat) : Facts → CR → CR
  | _, .leaf (.exit id') st => if id' = id then .leaf .norm st else .leaf (.exit id') st
  | _, .leaf x st => .leaf x st
  | F, .node e a b => mkCR F e n0 (CR.out n0 id (F.cons e true) a) (CR.out n0 id (F.cons e false) b)

/-- A test in an expression that is not decided. -/
def atomE (F : Facts) : E → E
  | .un .not a => atomE F a
  | .bi .and a b => if (a.dec F).isNone then atomE F a else atomE F b
  | .bi .or a b => if (a.dec F).isNone then atomE F a else atomE F b
  | e => e

/-- What an operation that is not done wants to know. -/
def needOp (F : Facts) (ops : Array Oper) (st : St) (o : Oper) : Option E := match wantD F ops st o with
  | none => (match o.guard with
    | some (j, _) => (match (ops[j]?).bind (·.dst) with
      | some t => (match st.tmps.get t with | some (.bool e) => some (atomE F e) | _ => none)
      | none => none)
    | none => none)
  | some _ => match o.op with
    | .lookup _ x ix _ => (match (opd st.tmps x).bind (entriesD st.heap), opd st.tmps ix with
      | some es, some (.int _ e) => es.findSome? fun p => (match p.1 with | .int _ k => if ((E.bi .eqi e k).dec F).isNone then some (E.bi .eqi e k) else none | _ => none)
      | _, _ => none)
    | .indexAddr _ x ix => (match opd st.tmps x, opd st.tmps ix with
      | some (.slc _ _ l _), some (.int _ e) => if ((E.bi .lt e (.li 0)).dec F).isNone then some (.bi .lt e (.li 0)) else some (.bi .lt e l)
      | _, _ => none)
    | .index _ x ix => (match opd st.tmps x, opd st.tmps ix with
      | some (.str s), some (.int _ e) => if ((E.bi .lt e (.li 0)).dec F).isNone then some (.bi .lt e (.li 0)) else some (.bi .lt e (lenS s))
      | _, _ => none)
    | _ => none

section
variable (P : Program) (callF : Facts → CallD) (rndF : Facts → RndD) (drawF : Facts → Array Oper → St → Option St) (lim : Nat) (ro : Option Nat)

def needOps (F : Facts) (ops : Array Oper) : List Nat → St → Option E
  | [], _ => none
  | i :: r, st => match ops[i]? with
    | none => needOps F ops r st
    | some o => match stepR P F (callF F) (rndF F) ro ops o st with
      | some st' => needOps F ops r st'
      | none => needOp F ops st o

def noDefer (ops : Array Oper) : Bool := ops.all fun o => match o.op with | .defer _ => false | _ => true

/-- What the record of a range over a function is laid by. -/
def enterD (st : St) : Option (Nat × T Blk × Nat × List Dfr) := match ro with
  | none => some (st.next, st.heap.set st.next (.defb true), st.next + 1, .coll st.next :: st.dfs)
  | some l => match st.heap.get l with
    | some (.lpb L) => some (L.dfs, st.heap, st.next, st.dfs)
    | _ => none

def Pend.cr (st : St) : Pend → CR
  | .none => .leaf .norm st
  | .ret => .leaf .ret st
  | .exit i => .leaf (.exit i) st

/-- A range over a function. -/
def rangeX (F : Facts) (g : Operand) (ps : Array Tmp) (assign body : Code) (st : St) : Option CR := match opd st.tmps g with
  | some (.fn (.func gf) first cap) => if bodyOk P gf then
      match enterD ro st with
      | some (idd, h1, n1, dfs1) => match callF F gf (first ++ .yld n1 :: cap) (h1.set n1 (.lpb ⟨false, false, .none, st.tmps, st.sz, ps, assign, body, idd⟩)) (n1 + 1) with
        | some r => match r.h.get n1 with
          | some (.lpb L) => if L.busy then none else some (L.pend.cr { st with heap := r.h.set n1 .dead, next := r.n, dfs := dfs1 })
          | _ => none
        | none => none
      | none => none
    else none
  | _ => none

def codeX : Nat → Facts → Code → St → Option CR
  | 0, _, _, _ => none
  | n + 1, F, c, st => match c with
    | .skip => some (.leaf .norm st)
    | .label _ => some (.leaf .norm st)
    | .region id ops dr => match (match dr with | false => opsR P F (callF F) (rndF F) ro ops (List.range ops.size) st | true => if ro.isNone || noDefer ops then (match drawF F ops st with
          | some z => some z
          | none => splitX P F (callF F) (rndF F) ro (drawF F) ops st) else none) with
      | some st' => some (.leaf .norm st')
      | none => if F.conds.length < lim then (match needOps P callF rndF ro F ops (List.range ops.size) st with
        | some e => (match codeX n (F.cons e true) (.region id ops dr) st, codeX n (F.cons e false) (.region id ops dr) st with
          | some x, some y => some (mkCR F e st.next x y)
          | _, _ => none)
        | none => none) else none
    | .seq a b => match codeX n F a st with
      | some r => CR.bind st.next (fun F' st' => codeX n F' b st') F r
      | none => none
    | .cond c a b => match opd st.tmps c with
      | some (.bool e) => match e.dec F with
        | some true => codeX n F a st
        | some false => codeX n F b st
        | none => if F.conds.length < lim then (match codeX n (F.cons e true) a st, codeX n (F.cons e false) b st with
          | some x, some y => some (mkCR F e st.next x y)
          | _, _ => none) else none
      | _ => none
    | .block id b => (codeX n F b st).map fun r => CR.out st.next id F r
    | .loop b => match codeX n F b st with
      | some r => CR.bind st.next (fun F' st' => codeX n F' (.loop b) st') F r
      | none => none
    | .exit id => some (.leaf (.exit id) st)
    | .ret => some (.leaf .ret st)
    | .rangeFunc g ps assign body => rangeX P callF ro F g ps assign body st
    | .scope b => codeX n F b st
    | _ => none

def mergeOut (F : Facts) (e : E) (n0 : Nat) (x y : Out) : Option Out := match mergeD F e x.d y.d, mergeH F e n0 x.h y.h with
  | some d, some h => some ⟨d, h, max x.n y.n⟩
  | _, _ => none

/-- What is deferred is done. -/
def exitX (dcall : CallD) : List Dfr → T Blk → Nat → Option (T Blk × Nat)
  | [], h, n => some (h, n)
  | .coll id :: r, h, n => match h.get id with
    | some (.defb true) => exitX dcall r (h.set id (.defb false)) n
    | _ => none
  | .call g pre cap :: r, h, n => if bodyOk P g then (match dcall g (pre ++ cap) h n with
    | some o => exitX dcall r o.h o.n
    | none => none) else none

/-- Nothing is deferred. -/
def exit0 : List Dfr → T Blk → Nat → Option (T Blk × Nat)
  | [], h, n => some (h, n)
  | _, _, _ => none

/-- What a call answers. -/
def CR.fin (ex : Facts → List Dfr → T Blk → Nat → Option (T Blk × Nat)) (fn : Func) (n0 : Nat) : Facts → CR → Option Out
  | _, .leaf (.exit _) _ => none
  | F, .leaf _ st => match ex F st.dfs st.heap st.next with
    | some (h, n) => (resultsD P F fn { st with heap := h, next := n, dfs := [] }).map fun d => ⟨d, h, n⟩
    | none => none
  | F, .node e a b => match CR.fin ex fn n0 (F.cons e true) a, CR.fin ex fn n0 (F.cons e false) b with
    | some x, some y => mergeOut F e n0 x y
    | _, _ => none

/-- How a round ends. -/
def CR.endR (id : Nat) (n0 : Nat) : Facts → CR → Option Out
  | _, .leaf x st => match st.heap.get id, st.dfs with
    | some (.lpb L), [] => (match x with
      | .norm => some ⟨.bool (.lb true), st.heap.set id (.lpb { L with busy := false, done := false, pend := .none }), st.next⟩
      | .ret => some ⟨.bool (.lb false), st.heap.set id (.lpb { L with busy := false, done := true, pend := .ret }), st.next⟩
      | .exit i => some ⟨.bool (.lb false), st.heap.set id (.lpb { L with busy := false, done := true, pend := .exit i }), st.next⟩)
    | _, _ => none
  | F, .node e a b => match CR.endR id n0 (F.cons e true) a, CR.endR id n0 (F.cons e false) b with
    | some x, some y => mergeOut F e n0 x y
    | _, _ => none

section
variable (P : Program) (draw : Facts → CallD → Array Oper → St → Option St) (fuel lim : Nat) (callF : Facts → CallD) (rndF : Facts → RndD)

/-- A function's body. -/
def bodyX (F : Facts) (f : FuncId) (args : List DV) (h : T Blk) (n : Nat) : Option (Func × CR) := match P.funcs[f]? with
  | some fn => match fn.body with
    | some body => if args.length ≤ fn.ntmps then (codeX P callF rndF (fun F' => draw F' (callF F')) lim none fuel F body ⟨argsT 0 args, h, n, fn.ntmps, []⟩).map fun r => (fn, r) else none
    | none => none
  | none => none

/-- A call that was deferred. -/
def dcallX (F : Facts) : CallD := fun f args h n => match bodyX P draw fuel lim callF rndF F f args h n with
  | some (fn, r) => r.fin P (fun _ => exit0) fn n F
  | none => none

def callB (Γ : Facts → FuncId → Option CallD) (F : Facts) : CallD := fun f args h n => match Γ F f with
  | some c => c f args h n
  | none => match bodyX P draw fuel lim callF rndF F f args h n with
    | some (fn, r) => r.fin P (fun F' => exitX P (dcallX P draw fuel lim callF rndF F')) fn n F
    | none => none

def rndB (F : Facts) : RndD := fun id args h n => match h.get id with
  | some (.lpb L) => if L.busy || (L.done || (args.length != L.params.size || !(L.params.toList.all fun p => decide (p < L.sz)))) then none else
      match codeX P callF rndF (fun F' => draw F' (callF F')) lim (some id) fuel F L.assign ⟨(L.params.toList.zip args).foldl (fun t p => t.set p.1 p.2) L.tmps, h, n, L.sz, []⟩ with
      | some (.leaf .norm st) => match st.heap.get id with
        | some (.lpb L1) => if L1.busy || L1.done then none else
            match codeX P callF rndF (fun F' => draw F' (callF F')) lim (some id) fuel F L.body { st with heap := st.heap.set id (.lpb { L1 with busy := true }) } with
            | some r => CR.endR id n F r
            | none => none
        | _ => none
      | _ => none
  | _ => none
end

/-- Calls and rounds, so deep. -/
def bothX (P : Program) (Γ : Facts → FuncId → Option CallD) (draw : Facts → CallD → Array Oper → St → Option St) (fuel lim : Nat) : Nat → (Facts → CallD) × (Facts → RndD)
  | 0 => (fun _ _ _ _ _ => none, fun _ _ _ _ _ => none)
  | k + 1 => (callB P draw fuel lim (bothX P Γ draw fuel lim k).1 (bothX P Γ draw fuel lim k).2 Γ, rndB P draw fuel lim (bothX P Γ draw fuel lim k).1 (bothX P Γ draw fuel lim k).2)

def callX (P : Program) (Γ : Facts → FuncId → Option CallD) (draw : Facts → CallD → Array Oper → St → Option St) (fuel lim : Nat) (k : Nat) : Facts → CallD := (bothX P Γ draw fuel lim k).1
end

section
variable {P : Program} {F : Facts}

/-- What a call of the symbolic machine says of the machine's. -/
def CallOk (P : Program) (F : Facts) (call : CallD) : Prop :=
  ∀ f args h n r, call f args h n = some r → ∀ ρ, F.ok ρ → ∀ m w (vs : Array Value), DV.RL m ρ args vs.toList → HeapR m ρ h w → (∀ id, n ≤ id → m.ι id = none) →
    Calls P f vs w fun e w' => ∃ v m', e = .returned v ∧ r.d.R m' ρ v ∧ HeapR m' ρ r.h w' ∧ Trans m h w m' r.h w' ∧ (∀ id, r.n ≤ id → m'.ι id = none)

theorem rep_put {m : Emb} {ρ : Env} {st st' : St} {a : Act} {w : World} (hR : Rep m ρ st a w) {dst : Option Tmp} {d : DV} {v : Value} (hd : d.R m ρ v) (h : putT st dst d = some st') :
    Rep m ρ st' (a.put dst v) w ∧ st'.heap = st.heap ∧ st'.next = st.next := by
  unfold putT at h
  cases dst with
  | none => cases h; exact ⟨hR, rfl, rfl⟩
  | some t =>
    simp only at h
    split at h
    · rename_i hlt
      cases h
      refine ⟨⟨⟨fun i e he => ?_⟩, by simpa [Act.put] using hR.size, hR.heap, hR.fresh, hR.dfs⟩, rfl, rfl⟩
      rw [T.get_set] at he
      split at he
      · rename_i e1; cases he; subst e1
        exact ⟨v, by simp [Act.put, hR.size, hlt], hd⟩
      · rename_i e1
        obtain ⟨u, hu, hr⟩ := hR.tmps.get i e he
        exact ⟨u, by simp only [Act.put]; rw [Array.getElem?_setIfInBounds_ne (fun h => e1 h.symm)]; exact hu, hr⟩
    · cases h

theorem rep_mem {m m' : Emb} {ρ : Env} {st : St} {a : Act} {w w' : World} (hR : Rep m ρ st a w) {h' : T Blk} {n' : Nat} (hH : HeapR m' ρ h' w') (hm : m.le m') (hf : ∀ id, n' ≤ id → m'.ι id = none) :
    Rep m' ρ { st with heap := h', next := n' } a w' := ⟨hR.tmps.mono hm, hR.size, hH, hf, hR.dfs.mono hm⟩

theorem wantD_spec {m : Emb} {ρ : Env} (hF : F.ok ρ) {ops : Array Oper} {st : St} {a : Act} {w : World} (hR : Rep m ρ st a w) {o : Oper} {b : Bool} (h : wantD F ops st o = some b) : Region.wanted o (yielded ops a.tmps) = b := by
  unfold wantD at h
  unfold Region.wanted
  split at h
  · rename_i hg; cases h; simp [hg]
  · rename_i j want hg
    simp only [hg]
    split at h
    · rename_i t ht
      split at h
      · rename_i e he
        simp only [Option.map_eq_some_iff] at h
        obtain ⟨c, hc, rfl⟩ := h
        obtain ⟨v, hv, hr⟩ := hR.tmps.get t _ he
        simp only [DV.R] at hr
        subst hr
        have := E.dec_sound hF hc
        simp [yielded, ht, hv, this]
      · rename_i he
        cases h
        obtain ⟨v, hv, hr⟩ := hR.tmps.get t _ he
        simp only [DV.R, DV.RL] at hr
        obtain ⟨vs, rfl, _⟩ := hr
        simp [yielded, ht, hv]
      · cases h
    · cases h

theorem run_callFunc_body (w : World) (f : FuncId) (args : Array Value) (fn : Func) (hf : P.funcs[f]? = some fn) (hn : (fn.name == "runtime.NumGoroutine") = false) {c : Code} (hb : fn.body = some c) :
    (callFunc f args).run P w = .ok (.enter f args) w := by
  have h1 : fn.name ≠ "runtime.NumGoroutine" := by simpa using hn
  simp [callFunc, hf, h1, hb]

theorem ext1 (x : Value) (xs : List Value) : ((x :: xs).toArray).extract 1 ((x :: xs).toArray).size = xs.toArray := by
  apply Array.ext'
  simp

theorem ext1' {A : Array Value} {x : Value} {B : Array Value} (h : A = (x :: B.toList).toArray) : A.extract 1 A.size = B := by
  rw [h, ext1]

theorem bodyOk_run {g : FuncId} (h : bodyOk P g = true) (w : World) (args : Array Value) : (callFunc g args).run P w = .ok (.enter g args) w := by
  unfold bodyOk at h
  split at h
  · rename_i fn hfn
    simp only [Bool.and_eq_true, Bool.not_eq_true'] at h
    obtain ⟨body, hbody⟩ := Option.isSome_iff_exists.1 h.1
    exact run_callFunc_body w g args fn hfn h.2 hbody
  · cases h

theorem methodD_run {t : TypeId} {name : String} {f : FuncId} (h : methodD P t name = some f) (v : Value) (w : World) : (method (P.types.size + Made.depth) t v name).run P w = .ok (f, v) w := by
  have hn : P.types.size + Made.depth = (P.types.size + 99) + 1 := rfl
  rw [hn]
  generalize P.types.size + 99 = n
  unfold methodD at h
  split at h
  · rename_i i hi
    split at h
    · rename_i m hm
      split at h
      · rename_i hp
        have hp' : m.path.toList = [] := List.isEmpty_iff.1 hp
        split at h
        · rename_i f' e hf hu
          cases h
          simp only [method, typeInfo, Sem.run_bind, run_program, hi, hm, hp', follow, hf, receiverAt, run_underlying hu, Place.get, Sem.run_pure, Result.andThen_ok]
        · cases h
        · rename_i f' d hne hf hu
          cases h
          simp only [method, typeInfo, Sem.run_bind, run_program, hi, hm, hp', follow, hf, receiverAt, run_underlying hu, Sem.run_pure, Result.andThen_ok]
          cases d <;> simp_all [Place.get]
        · cases h
      · cases h
    · cases h
  · cases h

theorem calleeD_run {m : Emb} {ρ : Env} {t : T DV} {a : Act} (ht : TmpR m ρ t a) {o : Oper} {g : FuncId} {args : List DV} (h : calleeD P t o.op = some (g, args)) (w : World) :
    ∃ vs : Array Value, (execOp a.eval o).run P w = .ok (.enter g vs) w ∧ DV.RL m ρ args vs.toList := by
  obtain ⟨dst, op, type, pos, after, guard⟩ := o
  simp only at h
  cases op <;> simp only [calleeD, reduceCtorEq] at h
  case call c =>
    obtain ⟨callee, cargs, argTypes⟩ := c
    simp only at h
    split at h
    · rename_i f as hargs
      have hA := opds_R ht hargs
      split at h
      · rename_i g' first cap hf
        split at h
        · rename_i hb
          simp at h
          obtain ⟨rfl, rfl⟩ := h
          have hfR := opd_R ht hf
          simp only [DV.R] at hfR
          obtain ⟨x, y, hv, hx, hy⟩ := hfR
          refine ⟨x ++ cargs.map a.eval ++ y, ?_, ?_⟩
          · have hcall := bodyOk_run hb w (x ++ cargs.map a.eval ++ y)
            simp [execOp, resolve, hv, Deferred.ofValue, invoke]; simpa [Array.append_assoc] using hcall
          · simpa using (hx.append hA).append hy
        · cases h
      · rename_i name ty d r cap hf
        split at h
        · rename_i g' hg'
          split at h
          · rename_i hb
            simp at h
            obtain ⟨rfl, rfl⟩ := h
            have hfR := opd_R ht hf
            simp only [DV.R, DV.RL] at hfR
            obtain ⟨x, y, hv, ⟨u, ur, hxl, ⟨u', rfl, hd⟩, hr⟩, hy⟩ := hfR
            have hx : x = (Value.iface ty u' :: ur).toArray := by rw [← hxl]
            subst hx
            refine ⟨#[u'] ++ (ur.toArray ++ cargs.map a.eval), ?_, ?_⟩
            · have hcall := bodyOk_run hb w (#[u'] ++ (ur.toArray ++ cargs.map a.eval))
              have hm := methodD_run hg' u' w
              have he : ((Value.iface ty u' :: ur).toArray ++ cargs.map a.eval).extract 1 ((Value.iface ty u' :: ur).toArray ++ cargs.map a.eval).size = ur.toArray ++ cargs.map a.eval := ext1' (x := Value.iface ty u') (by apply Array.ext'; simp)
              have h0 : ((Value.iface ty u' :: ur).toArray ++ cargs.map a.eval)[0]? = some (Value.iface ty u') := by
                rw [Array.getElem?_append_left (by simp)]; simp
              simp only [execOp, resolve, hv, Deferred.ofValue, Sem.run_bind, Sem.run_pure, Result.andThen_ok, invoke, h0, he, callMethod, run_program, hm]
              exact hcall
            · simp only [Array.toList_append, List.cons_append, List.nil_append]
              simp only [DV.RL]
              exact ⟨u', _, rfl, hd, by simpa using hr.append hA⟩
          · cases h
        · cases h
      · cases h
    · rename_i recv name as hargs
      have hA := opds_R ht hargs
      split at h
      · rename_i ty d hf
        split at h
        · rename_i g' hg'
          split at h
          · rename_i hb
            simp at h
            obtain ⟨rfl, rfl⟩ := h
            have hfR := opd_R ht hf
            simp only [DV.R] at hfR
            obtain ⟨u', hv, hd⟩ := hfR
            refine ⟨#[u'] ++ cargs.map a.eval, ?_, ?_⟩
            · have hcall := bodyOk_run hb w (#[u'] ++ cargs.map a.eval)
              have hm := methodD_run hg' u' w
              have he : (#[Value.iface ty u'] ++ cargs.map a.eval).extract 1 (#[Value.iface ty u'] ++ cargs.map a.eval).size = cargs.map a.eval := ext1' (x := Value.iface ty u') (by apply Array.ext'; simp)
              have h0 : (#[Value.iface ty u'] ++ cargs.map a.eval)[0]? = some (Value.iface ty u') := by
                rw [Array.getElem?_append_left (by simp)]; simp
              simp only [execOp, resolve, hv, Sem.run_bind, Sem.run_pure, Result.andThen_ok, invoke, h0, he, callMethod, run_program, hm]
              exact hcall
            · simp only [Array.toList_append, List.cons_append, List.nil_append]
              simp only [DV.RL]
              exact ⟨u', _, rfl, hd, by simpa using hA⟩
          · cases h
        · cases h
      · cases h
    · cases h

end

end Go.Eng

/-
  Regions in the order of the text, code, calls: what the symbolic machine tells of them, the machine does.
-/
namespace Go.Eng

section
variable {P : Program} {F : Facts}

/-- One operation of a region, by the machine. -/
def StepPost (m : Emb) (ρ : Env) (st st' : St) (w : World) (K : Act → World → Prop) : Prop :=
  ∀ a' w' m', Rep m' ρ st' a' w' → Trans m st.heap w m' st'.heap w' → K a' w'

theorem stepX_sound {call : CallD} (hcall : CallOk P F call) {ρ : Env} (hF : F.ok ρ) {ops : Array Oper} {o : Oper} {st st' : St} (h : stepX P F call ops o st = some st') {m : Emb} {a : Act} {w : World} (hR : Rep m ρ st a w)
    {K : Act → World → Prop} {Q : Exit → Act → World → Prop} (hK : ∀ v w' m', Rep m' ρ st' (a.put o.dst v) w' → Trans m st.heap w m' st'.heap w' → K (a.put o.dst v) w') :
    if Region.wanted o (yielded ops a.tmps) then o.wp P a w K Q ∨ (o.asks P a w ∧ LetsOut Q) else K (a.put o.dst undef) w := by
  unfold stepX at h
  split at h
  · rename_i hw
    rw [wantD_spec hF hR hw]
    simp only [Bool.false_eq_true, if_false]
    obtain ⟨h1, h2, h3⟩ := rep_put hR (d := .tup []) (v := undef) (by simp [DV.R, DV.RL, undef]) h
    exact hK _ _ _ h1 (by rw [h2]; exact Trans.refl _ _ _)
  · rename_i hw
    rw [wantD_spec hF hR hw]
    simp only [if_true]
    left
    unfold Oper.wp
    split at h
    · rename_i d hd
      obtain ⟨v, hrun, hr⟩ := valD_sound hF hR.heap hR.tmps hd
      rw [hrun]
      simp only [Oper.upon]
      obtain ⟨h1, h2, h3⟩ := rep_put hR hr h
      exact hK _ _ _ h1 (by rw [h2]; exact Trans.refl _ _ _)
    · split at h
      · rename_i r hr
        obtain ⟨nx, v, w', m', hrun, hnx, hd, hH, hT, hf⟩ := memD_sound hF hR.heap hR.tmps hR.fresh hr
        rw [hrun]
        obtain ⟨h1, h2, h3⟩ := rep_put (rep_mem hR hH hT.ext hf) hd h
        rcases hnx with rfl | ⟨rfl, rfl⟩
        · simp only [Oper.upon]; exact hK _ _ _ h1 (by rw [h2]; exact hT)
        · simp only [Oper.upon]; exact hK _ _ _ h1 (by rw [h2]; exact hT)
      · split at h
        · rename_i g args hg
          split at h
          · rename_i r hr
            obtain ⟨vs, hrun, hvs⟩ := calleeD_run hR.tmps hg w
            rw [hrun]
            simp only [Oper.upon]
            refine (hcall g args st.heap st.next r hr ρ hF m w vs hvs hR.heap hR.fresh).mono fun e w' ⟨v, m', he, hd, hH, hT, hf⟩ => ?_
            subst he
            obtain ⟨h1, h2, h3⟩ := rep_put (rep_mem hR hH hT.ext hf) hd h
            exact hK _ _ _ h1 (by rw [h2]; exact hT)
          · cases h
        · cases h
  · cases h

theorem opsX_sound {call : CallD} (hcall : CallOk P F call) {ρ : Env} (hF : F.ok ρ) {ops : Array Oper} {Q : Exit → Act → World → Prop} :
    ∀ (l : List Nat) {st st' : St}, opsX P F call ops l st = some st' → ∀ {m : Emb} {a : Act} {w : World}, Rep m ρ st a w → StepPost m ρ st st' w (Q .normal) → wpOps P ops Q l a w
  | [], st, st', h, m, a, w, hR, hK => by
    simp [opsX] at h; subst h
    simp only [wpOps]
    exact hK _ _ _ hR (Trans.refl _ _ _)
  | i :: r, st, st', h, m, a, w, hR, hK => by
    simp only [opsX] at h
    simp only [wpOps]
    split at h
    · rename_i ho; simp only [ho]; exact opsX_sound hcall hF r h hR hK
    · rename_i o ho
      simp only [ho]
      split at h
      · rename_i st1 h1
        exact stepX_sound hcall hF h1 hR fun v w' m' hR' hT => opsX_sound hcall hF r h hR' fun a2 w2 m2 hR2 hT2 => hK _ _ _ hR2 (hT.trans hT2)
      · cases h

/-- At the end alone. -/
def nQ (K : Act → World → Prop) : Exit → Act → World → Prop := fun e a w => e = .normal ∧ K a w

/-- What a region that draws its order does. -/
def RegW (P : Program) (ops : Array Oper) (K : Act → World → Prop) (a : Act) (w : World) : Prop :=
  ∀ t, wpOps P ops (nQ K) (Region.schedule (P.follows .mixedOrders) ops t) a { w with drawn := w.drawn + 1 }

/-- What a region that draws its order is told to do. -/
def DrawOk (P : Program) (F : Facts) (draw : Array Oper → St → Option St) : Prop :=
  ∀ ops st st', draw ops st = some st' → ∀ ρ, F.ok ρ → ∀ m a w, Rep m ρ st a w → ∀ (K : Act → World → Prop), StepPost m ρ st st' w K → RegW P ops K a w

/-- The fence of a frame: of a round, or not. -/
def fz : Option Nat → Fence
  | none => Fence.wide
  | some b => Fence.wide.inRound b
theorem fz_fn (l : Option Nat) (f : FuncId) : (fz l).fn f := by cases l <;> exact trivial
theorem fz_depth (l : Option Nat) {p : Prop} : (fz l).depth.isSome = true → p := by cases l <;> intro h <;> simp [fz, Fence.wide, Fence.inRound] at h
theorem fz_round (l : Option Nat) : (fz l).round = l := by cases l <;> rfl
theorem callsIn_fz {l : Option Nat} {n : Nat} {f : FuncId} {args : Array Value} {w : World} {R : Ending → World → Prop} (h : Calls P f args w R) : CallsIn (fz l) n P f args w R := by
  cases l with
  | none => exact callsIn_wide.2 h
  | some b => exact (callsIn_wide (n := n).2 h : CallsIn Fence.wide n P f args w R)
theorem rowsIn_fz {l : Option Nat} {n : Nat} {row : String} {args : Array Value} {w : World} {R : Value → World → Prop} (h : Rows P row args w R) : RowsIn (fz l) n P row args w R := by
  have : RowsIn Fence.wide n P row args w R := fun c cs _ => let ⟨v, w', r, s⟩ := h c cs; ⟨v, w', r, stepsIn_wide.2 s⟩
  cases l with
  | none => exact this
  | some b => exact this

theorem noDefer_spec {ops : Array Oper} (h : noDefer ops = true) {i : Nat} {o : Oper} (ho : ops[i]? = some o) : ∀ c, o.op ≠ .defer c := by
  intro c hc
  unfold noDefer at h
  rw [Array.all_eq_true] at h
  obtain ⟨hi, he⟩ := Array.getElem?_eq_some_iff.1 ho
  have := h i hi
  rw [he, hc] at this
  cases this

/-- What is told of a frame that is of no round holds of one that is of a round. -/
theorem ops_in {l : Option Nat} {n : Nat} {ops : Array Oper} (hd : l = none ∨ noDefer ops = true) {K : Act → World → Prop} : ∀ (is : List Nat) (a : Act) (w : World), wpOps P ops (nQ K) is a w → wpOpsIn (fz l) n P ops (nQ K) is a w
  | [], a, w, h => h
  | i :: r, a, w, h => by
    simp only [wpOps] at h
    simp only [wpOpsIn]
    cases ho : ops[i]? with
    | none => rw [ho] at h; exact ops_in hd r a w h
    | some o =>
      rw [ho] at h
      simp only at h ⊢
      by_cases hw : Region.wanted o (yielded ops a.tmps) = true
      · simp only [hw, if_true] at h ⊢
        have h1 : o.wp P a w (wpOps P ops (nQ K) r) (nQ K) := by
          rcases h with h | ⟨_, a1, w1, h1⟩
          · exact h
          · exact absurd h1.1 (by simp)
        refine ⟨fun f _ => fz_fn l f, ?_⟩
        have hs : o.semAt (fz l).round a.eval = execOp a.eval o := by
          rw [fz_round]
          rcases hd with rfl | hd
          · rfl
          · exact Oper.semAt_eq l a.eval o (noDefer_spec hd ho)
        rw [hs]
        unfold Oper.wp at h1
        generalize (execOp a.eval o).run P w = res at h1 ⊢
        cases res with
        | ok x w' =>
          cases x <;> simp only [Oper.upon] at h1 <;> simp only [Oper.uponIn]
          case value v => exact ops_in hd r _ _ h1
          case skip => exact ops_in hd r _ _ h1
          case defer d => exact ops_in hd r _ _ h1
          case enter f args =>
            refine ⟨fz_depth l, callsIn_fz (h1.mono fun e w'' he => ?_)⟩
            cases e with
            | returned v => exact ops_in hd r _ _ he
            | panicked c => exact he
            | outgrown => exact he
          case row row args => exact ⟨fz_depth l, (rowsIn_fz h1).mono fun v w'' he => ops_in hd r _ _ he⟩
        | halt x w' => cases x <;> simp only [Oper.upon] at h1 <;> simp only [Oper.uponIn] <;> exact h1
      · rw [if_neg hw] at h ⊢
        exact ⟨fun f _ => fz_fn l f, ops_in hd r _ _ h⟩

theorem region_draw_in {l : Option Nat} {n : Nat} {ops : Array Oper} (hd : l = none ∨ noDefer ops = true) {id : Nat} {Q : Exit → Act → World → Prop} {a : Act} {w : World} (h : RegW P ops (Q .normal) a w) : (Code.region id ops true).wpIn (fz l) n P Q a w :=
  wpIn_mono (wpIn_region_draw fun t => ops_in hd _ _ _ (h t)) fun e a w he => by obtain ⟨rfl, he⟩ := he; exact he

/-- What is told of the operations ahead, and then of the others. -/
theorem ops_in_app {l : Option Nat} {n k : Nat} {ops : Array Oper} (hd : l = none ∨ noDefer ops = true) (hk : k < ops.size) (hg : ∀ i o, i < k → ops[i]? = some o → ∀ g b, o.guard = some (g, b) → g < k) {K : Act → World → Prop} {Q : Exit → Act → World → Prop} {js : List Nat}
    (hK : ∀ a w, K a w → wpOpsIn (fz l) n P ops Q js a w) : ∀ (is : List Nat) (a : Act) (w : World), (∀ i ∈ is, i < k) → wpOps P (ops.extract 0 k) (nQ K) is a w → wpOpsIn (fz l) n P ops Q (is ++ js) a w
  | [], a, w, _, h => hK a w h.2
  | i :: r, a, w, hi, h => by
    have hik : i < k := hi i (List.mem_cons_self ..)
    have hir : ∀ j ∈ r, j < k := fun j hj => hi j (List.mem_cons_of_mem _ hj)
    have hex := ex_get hk hik
    simp only [wpOps] at h
    simp only [List.cons_append, wpOpsIn]
    cases ho : ops[i]? with
    | none => rw [hex, ho] at h; exact ops_in_app hd hk hg hK r a w hir h
    | some o =>
      rw [hex, ho] at h
      simp only at h ⊢
      have hy : Region.wanted o (yielded (ops.extract 0 k) a.tmps) = Region.wanted o (yielded ops a.tmps) := by
        unfold Region.wanted
        split
        · rfl
        · rename_i g b hgb
          have : yielded (ops.extract 0 k) a.tmps g = yielded ops a.tmps g := by
            unfold yielded
            rw [ex_get hk (hg i o hik ho g b hgb)]
          rw [this]
      rw [hy] at h
      by_cases hw : Region.wanted o (yielded ops a.tmps) = true
      · simp only [hw, if_true] at h ⊢
        have h1 : o.wp P a w (wpOps P (ops.extract 0 k) (nQ K) r) (nQ K) := by
          rcases h with h | ⟨_, a1, w1, h1⟩
          · exact h
          · exact absurd h1.1 (by simp)
        refine ⟨fun f _ => fz_fn l f, ?_⟩
        have hs : o.semAt (fz l).round a.eval = execOp a.eval o := by
          rw [fz_round]
          rcases hd with rfl | hd
          · rfl
          · exact Oper.semAt_eq l a.eval o (noDefer_spec hd ho)
        rw [hs]
        unfold Oper.wp at h1
        generalize (execOp a.eval o).run P w = res at h1 ⊢
        cases res with
        | ok x w' =>
          cases x <;> simp only [Oper.upon] at h1 <;> simp only [Oper.uponIn]
          case value v => exact ops_in_app hd hk hg hK r _ _ hir h1
          case skip => exact ops_in_app hd hk hg hK r _ _ hir h1
          case defer d => exact ops_in_app hd hk hg hK r _ _ hir h1
          case enter f args =>
            refine ⟨fz_depth l, callsIn_fz (h1.mono fun e w'' he => ?_)⟩
            cases e with
            | returned v => exact ops_in_app hd hk hg hK r _ _ hir he
            | panicked c => exact absurd he.1 (by simp)
            | outgrown =>
              obtain ⟨a1, w1, he⟩ := he
              exact absurd he.1 (by simp)
          case row row args => exact ⟨fz_depth l, (rowsIn_fz h1).mono fun v w'' he => ops_in_app hd hk hg hK r _ _ hir he⟩
        | halt x w' => cases x <;> simp only [Oper.upon] at h1 <;> simp only [Oper.uponIn] <;> first | exact h1 | exact absurd h1.1 (by simp)
      · rw [if_neg hw] at h ⊢
        exact ⟨fun f _ => fz_fn l f, ops_in_app hd hk hg hK r _ _ hir h⟩

theorem schedule_any {ops : Array Oper} (h : Region.departs ops = false) (b : Bool) (t : Nat) : Region.schedule b ops t = Region.linearise .any ops t := by
  unfold Region.schedule
  rw [if_pos (by simp [h])]

theorem region_split_in {l : Option Nat} {n k : Nat} {ops : Array Oper} (hd : l = none ∨ noDefer ops = true) (hs : splitOk ops k = true) {id : Nat} {Q : Exit → Act → World → Prop} {a : Act} {w : World}
    (h : RegW P (ops.extract 0 k) (wpOpsIn (fz l) n P ops Q (List.range' k (ops.size - k))) a w) : (Code.region id ops true).wpIn (fz l) n P Q a w := by
  obtain ⟨S, h1, h2, hg⟩ := splitP hs
  refine wpIn_region_draw fun t => ?_
  have ht := h t
  rw [schedule_any h2] at ht
  rw [schedule_any h1, lin_split S]
  refine ops_in_app hd S.hk hg (fun _ _ h => h) _ a _ (fun i hi => ?_) ht
  have := mem_go _ _ _ i hi
  simp at this
  omega

theorem valD_defer {h : T Blk} {t : T DV} {c : Call} : valD P F h t (.defer c) = none := rfl
theorem memD_defer {h : T Blk} {n : Nat} {t : T DV} {c : Call} : memD P F h n t (.defer c) = none := rfl
theorem calleeD_defer {t : T DV} {c : Call} : calleeD P t (.defer c) = none := rfl

/-- A round of a range over a function, by the machine. -/
def RndOk (P : Program) (F : Facts) (rnd : RndD) : Prop :=
  ∀ id args h n r, rnd id args h n = some r → ∀ ρ, F.ok ρ → ∀ m w (vs : Array Value), DV.RL m ρ args vs.toList → HeapR m ρ h w → (∀ i, n ≤ i → m.ι i = none) → ∀ b, m.ι id = some b →
    ∃ fn tmps assign body, (Instr.yield b vs).run P w = .ok (.round b fn tmps assign body) w ∧
      RoundIn Fence.wide 0 P b fn tmps assign body w fun e w' => ∃ v m', e = .returned v ∧ r.d.R m' ρ v ∧ HeapR m' ρ r.h w' ∧ Trans m h w m' r.h w' ∧ (∀ i, r.n ≤ i → m'.ι i = none)

theorem stepX_in {call : CallD} (hcall : CallOk P F call) {ρ : Env} (hF : F.ok ρ) {l : Option Nat} {n : Nat} {ops : Array Oper} {o : Oper} {st st' : St} (h : stepX P F call ops o st = some st') {m : Emb} {a : Act} {w : World} (hR : Rep m ρ st a w)
    {K : Act → World → Prop} {Q : Exit → Act → World → Prop} (hK : ∀ a' w' m', Rep m' ρ st' a' w' → Trans m st.heap w m' st'.heap w' → K a' w') :
    if Region.wanted o (yielded ops a.tmps) then o.wpIn (fz l) n P a w K Q else (∀ f, o.about P w a.eval = some f → (fz l).fn f) ∧ K (a.put o.dst undef) w := by
  unfold stepX at h
  split at h
  · rename_i hw
    rw [wantD_spec hF hR hw]
    simp only [Bool.false_eq_true, if_false]
    obtain ⟨h1, h2, h3⟩ := rep_put hR (d := .tup []) (v := undef) (by simp [DV.R, DV.RL, undef]) h
    exact ⟨fun f _ => fz_fn l f, hK _ _ _ h1 (by rw [h2]; exact Trans.refl _ _ _)⟩
  · rename_i hw
    rw [wantD_spec hF hR hw]
    simp only [if_true]
    refine ⟨fun f _ => fz_fn l f, ?_⟩
    split at h
    · rename_i d hd
      rw [Oper.semAt_eq _ _ _ (fun c hc => by rw [hc, valD_defer] at hd; cases hd)]
      obtain ⟨v, hrun, hr⟩ := valD_sound hF hR.heap hR.tmps hd
      rw [hrun]
      simp only [Oper.uponIn]
      obtain ⟨h1, h2, h3⟩ := rep_put hR hr h
      exact hK _ _ _ h1 (by rw [h2]; exact Trans.refl _ _ _)
    · split at h
      · rename_i r hr
        rw [Oper.semAt_eq _ _ _ (fun c hc => by rw [hc, memD_defer] at hr; cases hr)]
        obtain ⟨nx, v, w', m', hrun, hnx, hd, hH, hT, hf⟩ := memD_sound hF hR.heap hR.tmps hR.fresh hr
        rw [hrun]
        obtain ⟨h1, h2, h3⟩ := rep_put (rep_mem hR hH hT.ext hf) hd h
        rcases hnx with rfl | ⟨rfl, rfl⟩
        · simp only [Oper.uponIn]; exact hK _ _ _ h1 (by rw [h2]; exact hT)
        · simp only [Oper.uponIn]; exact hK _ _ _ h1 (by rw [h2]; exact hT)
      · split at h
        · rename_i g args hg
          rw [Oper.semAt_eq _ _ _ (fun c hc => by rw [hc, calleeD_defer] at hg; cases hg)]
          split at h
          · rename_i r hr
            obtain ⟨vs, hrun, hvs⟩ := calleeD_run hR.tmps hg w
            rw [hrun]
            simp only [Oper.uponIn]
            refine ⟨fz_depth l, callsIn_fz ((hcall g args st.heap st.next r hr ρ hF m w vs hvs hR.heap hR.fresh).mono fun e w' ⟨v, m', he, hd, hH, hT, hf⟩ => ?_)⟩
            subst he
            obtain ⟨h1, h2, h3⟩ := rep_put (rep_mem hR hH hT.ext hf) hd h
            exact hK _ _ _ h1 (by rw [h2]; exact hT)
          · cases h
        · cases h
  · cases h

theorem roundIn_fz {l : Option Nat} {n b : Nat} {fn : FuncId} {tmps : Array Value} {assign body : Code} {w : World} {R : Ending → World → Prop} (h : RoundIn Fence.wide 0 P b fn tmps assign body w R) : RoundIn (fz l) n P b fn tmps assign body w R := by
  have : RoundIn Fence.wide n P b fn tmps assign body w R := ⟨h.1, fun c cs _ => h.2 c cs (room_wide _)⟩
  cases l with
  | none => exact this
  | some b => exact this

theorem yieldD_run {m : Emb} {ρ : Env} {t : T DV} {a : Act} (ht : TmpR m ρ t a) {o : Oper} {id : Nat} {args : List DV} (h : yieldD t o.op = some (id, args)) (w : World) :
    ∃ (vs : Array Value) (b : Nat), m.ι id = some b ∧ (execOp a.eval o).run P w = (Instr.yield b vs).run P w ∧ DV.RL m ρ args vs.toList ∧ ∀ c, o.op ≠ .defer c := by
  obtain ⟨dst, op, type, pos, after, guard⟩ := o
  simp only at h
  cases op <;> simp only [yieldD, reduceCtorEq] at h
  case call c =>
    obtain ⟨callee, cargs, argTypes⟩ := c
    simp only at h
    split at h
    · rename_i f
      split at h
      · rename_i id' hf
        simp only [Option.map_eq_some_iff] at h
        obtain ⟨as, has, he⟩ := h
        cases he
        have hA := opds_R ht has
        have hfR := opd_R ht hf
        simp only [DV.R] at hfR
        obtain ⟨b, hb, hv⟩ := hfR
        refine ⟨cargs.map a.eval, b, hb, ?_, by simpa using hA, fun c hc => by cases hc⟩
        simp [execOp, resolve, hv, Deferred.ofValue, invoke]
      · cases h
    · cases h

theorem deferD_run {m : Emb} {ρ : Env} {t : T DV} {a : Act} (ht : TmpR m ρ t a) {o : Oper} {d : Dfr} (h : deferD P t o.op = some d) (w : World) :
    ∃ df : Deferred, (execOp a.eval o).run P w = .ok (.defer df) w ∧ d.R m ρ df := by
  obtain ⟨dst, op, type, pos, after, guard⟩ := o
  simp only at h
  cases op <;> simp only [deferD, reduceCtorEq] at h
  case defer c =>
    obtain ⟨callee, cargs, argTypes⟩ := c
    simp only at h
    split at h
    · rename_i f as hargs
      have hA := opds_R ht hargs
      split at h
      · rename_i g first cap hf
        split at h
        · cases h
          have hfR := opd_R ht hf
          simp only [DV.R] at hfR
          obtain ⟨x, y, hv, hx, hy⟩ := hfR
          refine ⟨{ target := .fn (.func g) y, args := x ++ cargs.map a.eval }, ?_, x ++ cargs.map a.eval, y, rfl, ?_, hy⟩
          · simp [execOp, resolve, hv, Deferred.ofValue]
          · simpa using hx.append hA
        · cases h
      · cases h
    · cases h

/-- In which frame one is: the round's record is known. -/
def RoR (m : Emb) : Option Nat → Option Nat → Prop
  | none, l => l = none
  | some id, l => ∃ b, m.ι id = some b ∧ l = some b
theorem RoR.mono {m m' : Emb} (hm : m.le m') {ro l : Option Nat} (h : RoR m ro l) : RoR m' ro l := by
  cases ro with
  | none => exact h
  | some id => obtain ⟨b, hb, he⟩ := h; exact ⟨b, (hm _ _ hb).1, he⟩

theorem stepR_sound {call : CallD} {rnd : RndD} (hcall : CallOk P F call) (hrnd : RndOk P F rnd) {ρ : Env} (hF : F.ok ρ) {ro l : Option Nat} {n : Nat} {ops : Array Oper} {o : Oper} {st st' : St} (h : stepR P F call rnd ro ops o st = some st') {m : Emb} {a : Act} {w : World} (hro : RoR m ro l)
    (hR : Rep m ρ st a w) {K : Act → World → Prop} {Q : Exit → Act → World → Prop} (hK : ∀ a' w' m', Rep m' ρ st' a' w' → Trans m st.heap w m' st'.heap w' → K a' w') :
    if Region.wanted o (yielded ops a.tmps) then o.wpIn (fz l) n P a w K Q else (∀ f, o.about P w a.eval = some f → (fz l).fn f) ∧ K (a.put o.dst undef) w := by
  unfold stepR at h
  split at h
  · rename_i st1 h1; cases h; exact stepX_in hcall hF h1 hR hK
  · split at h
    · rename_i hw
      rw [wantD_spec hF hR hw]
      simp only [if_true]
      refine ⟨fun f _ => fz_fn l f, ?_⟩
      split at h
      · rename_i id args hy
        split at h
        · rename_i r hr
          obtain ⟨vs, b, hb, hrun, hvs, hnd⟩ := yieldD_run (P := P) hR.tmps hy w
          obtain ⟨fn, tmps, assign, body, hyr, hround⟩ := hrnd id args st.heap st.next r hr ρ hF m w vs hvs hR.heap hR.fresh b hb
          rw [Oper.semAt_eq _ _ _ hnd, hrun, hyr]
          simp only [Oper.uponIn]
          refine ⟨fz_depth l, (roundIn_fz hround).mono fun e w' ⟨v, m', he, hd, hH, hT, hf⟩ => ?_⟩
          subst he
          obtain ⟨h1, h2, h3⟩ := rep_put (rep_mem hR hH hT.ext hf) hd h
          exact hK _ _ _ h1 (by rw [h2]; exact hT)
        · cases h
      · split at h
        · rename_i d hd
          obtain rfl : l = none := hro
          obtain ⟨df, hrun, hdf⟩ := deferD_run hR.tmps hd w
          have : o.semAt (fz none).round a.eval = execOp a.eval o := rfl
          rw [this, hrun]
          simp only [Oper.uponIn]
          have hR2 : Rep m ρ { st with dfs := d :: st.dfs } { a with defers := df :: a.defers } w := ⟨⟨hR.tmps.get⟩, hR.size, hR.heap, hR.fresh, ⟨df, _, rfl, hdf, hR.dfs⟩⟩
          obtain ⟨h1, h2, h3⟩ := rep_put hR2 (d := .tup []) (v := undef) (by simp [DV.R, DV.RL, undef]) h
          exact hK _ _ _ h1 (by rw [h2]; exact Trans.refl _ _ _)
        · cases h
    · cases h

theorem opsR_sound {call : CallD} {rnd : RndD} (hcall : CallOk P F call) (hrnd : RndOk P F rnd) {ρ : Env} (hF : F.ok ρ) {ro l : Option Nat} {n : Nat} {ops : Array Oper} {Q : Exit → Act → World → Prop} :
    ∀ (is : List Nat) {st st' : St}, opsR P F call rnd ro ops is st = some st' → ∀ {m : Emb} {a : Act} {w : World}, RoR m ro l → Rep m ρ st a w → StepPost m ρ st st' w (Q .normal) → wpOpsIn (fz l) n P ops Q is a w
  | [], st, st', h, m, a, w, _, hR, hK => by
    simp [opsR] at h; subst h
    simp only [wpOpsIn]
    exact hK _ _ _ hR (Trans.refl _ _ _)
  | i :: r, st, st', h, m, a, w, hro, hR, hK => by
    simp only [opsR] at h
    simp only [wpOpsIn]
    split at h
    · rename_i ho; simp only [ho]; exact opsR_sound hcall hrnd hF r h hro hR hK
    · rename_i o ho
      simp only [ho]
      split at h
      · rename_i st1 h1
        exact stepR_sound hcall hrnd hF h1 hro hR fun a' w' m' hR' hT => opsR_sound hcall hrnd hF r h (hro.mono hT.ext) hR' fun a2 w2 m2 hR2 hT2 => hK _ _ _ hR2 (hT.trans hT2)
      · cases h

/-- What is asked of each end. -/
def CR.Post (m : Emb) (ρ : Env) (st : St) (w : World) (Q : Exit → Act → World → Prop) : CR → Prop
  | .leaf x st' => StepPost m ρ st st' w (Q x.to)
  | .node e a b => ((e.ev ρ).bool = true → CR.Post m ρ st w Q a) ∧ ((e.ev ρ).bool = false → CR.Post m ρ st w Q b)

theorem CR.Post.shift {m m1 : Emb} {ρ : Env} {st st1 : St} {w w1 : World} {Q : Exit → Act → World → Prop} (hT : Trans m st.heap w m1 st1.heap w1) : ∀ {r : CR}, r.Post m ρ st w Q → r.Post m1 ρ st1 w1 Q
  | .leaf _ _, h => fun a' w' m' hR hT' => h a' w' m' hR (hT.trans hT')
  | .node _ _ _, h => ⟨fun hc => CR.Post.shift hT (h.1 hc), fun hc => CR.Post.shift hT (h.2 hc)⟩

theorem mkCR_post {F : Facts} {ρ : Env} (hF : F.ok ρ) {e : E} {n0 : Nat} {a b : CR} {m : Emb} {st : St} {w : World} {Q : Exit → Act → World → Prop} (h : (mkCR F e n0 a b).Post m ρ st w Q) :
    ((e.ev ρ).bool = true → a.Post m ρ st w Q) ∧ ((e.ev ρ).bool = false → b.Post m ρ st w Q) := by
  unfold mkCR at h
  split at h
  · rename_i x s y t
    split at h
    · rename_i e1
      subst e1
      split at h
      · rename_i z hz
        refine ⟨fun hc a' w' m' hR hT => ?_, fun hc a' w' m' hR hT => ?_⟩
        · obtain ⟨g1, g2⟩ := (mergeSt_ok (m := m') hF hz).1 hc
          exact h a' w' m' (g1 hR) ⟨hT.ext, hT.size, hT.frame, fun b hb => hT.fp b (g2 b hb), hT.tape, hT.os, hT.output⟩
        · obtain ⟨g1, g2⟩ := (mergeSt_ok (m := m') hF hz).2 hc
          exact h a' w' m' (g1 hR) ⟨hT.ext, hT.size, hT.frame, fun b hb => hT.fp b (g2 b hb), hT.tape, hT.os, hT.output⟩
      · exact h
    · exact h
  · exact h

theorem CR.bind_post {S : Env → Prop} {ρ : Env} {n0 : Nat} {k : Facts → St → Option CR} {m : Emb} {st : St} {w : World} {Q : Exit → Act → World → Prop} {K : Act → World → Prop}
    (hk : ∀ F' st1 r1, F'.sem = S → F'.ok ρ → k F' st1 = some r1 → ∀ m1 a1 w1, m.le m1 → Rep m1 ρ st1 a1 w1 → r1.Post m1 ρ st1 w1 Q → K a1 w1) :
    ∀ {r r' : CR} {F : Facts}, F.sem = S → F.ok ρ → CR.bind n0 k F r = some r' → r'.Post m ρ st w Q → r.Post m ρ st w (Exit.then K Q)
  | .leaf x st1, r', F, hS, hF, h, hp => by
    cases x with
    | norm =>
      simp only [CR.bind] at h
      exact fun a1 w1 m1 hR hT => hk F st1 r' hS hF h m1 a1 w1 hT.ext hR (hp.shift hT)
    | exit id => simp only [CR.bind] at h; cases h; exact hp
    | ret => simp only [CR.bind] at h; cases h; exact hp
  | .node e a b, r', F, hS, hF, h, hp => by
    simp only [CR.bind] at h
    split at h
    · rename_i x y hx hy
      cases h
      obtain ⟨h1, h2⟩ := mkCR_post hF hp
      exact ⟨fun hc => CR.bind_post hk ((Facts.cons_sem F e true).trans hS) (facts_cons hF hc) hx (h1 hc), fun hc => CR.bind_post hk ((Facts.cons_sem F e false).trans hS) (facts_cons hF hc) hy (h2 hc)⟩
    · cases h

theorem CR.out_post {ρ : Env} {n0 id : Nat} {m : Emb} {st : St} {w : World} {Q : Exit → Act → World → Prop} : ∀ {r : CR} {F : Facts}, F.ok ρ → (CR.out n0 id F r).Post m ρ st w Q → r.Post m ρ st w (Exit.inBlock id Q)
  | .leaf x st1, F, hF, h => by
    cases x with
    | norm => exact h
    | ret => exact h
    | exit id' =>
      simp only [CR.out] at h
      intro a1 w1 m1 hR hT
      simp only [Ex.to, Exit.inBlock]
      split at h
      · rename_i e; simp only [e, if_true]; exact h a1 w1 m1 hR hT
      · rename_i e; simp only [e, if_false]; exact h a1 w1 m1 hR hT
  | .node e a b, F, hF, h => by
    simp only [CR.out] at h
    obtain ⟨h1, h2⟩ := mkCR_post hF h
    exact ⟨fun hc => CR.out_post (facts_cons hF hc) (h1 hc), fun hc => CR.out_post (facts_cons hF hc) (h2 hc)⟩

/-- A block of which nothing is asked any more is written. -/
theorem HeapR.drop {m : Emb} {ρ : Env} {h : T Blk} {w w' : World} (hr : HeapR m ρ h w) {id b : Nat} {B : Blk} (hB : h.get id = some B) (hrw : B.rw = true)
    (hb : m.ι id = some b) (hk : ∀ c, c ≠ b → w'.heap[c]? = w.heap[c]?) : HeapR m ρ (h.set id .dead) w' where
  blk := fun i D hD hl => by
    rw [T.get_set] at hD
    split at hD
    · cases hD; cases hl
    · rename_i e
      obtain ⟨c, p, h1, h2, h3⟩ := hr.blk i D hD hl
      refine ⟨c, p, h1, ?_, h3⟩
      rw [hk c (fun ec => e ((hr.inj id i B D b hB hD hrw hl hb (ec ▸ h1)).symm)), h2]
  inj := fun i j D D' c hD hD' h1 h2 hi hj => by
    rw [T.get_set] at hD hD'
    split at hD
    · cases hD; cases h1
    · split at hD'
      · cases hD'; cases h2
      · exact hr.inj i j D D' c hD hD' h1 h2 hi hj

/-- The world where one block is another object. -/
def setObjW (w : World) (b : Nat) (o : Obj) : World := { w with heap := w.heap.setIfInBounds b o }
theorem setObjW_self {w : World} {b : Nat} {o o' : Obj} (h : w.heap[b]? = some o') : (setObjW w b o).heap[b]? = some o := by
  have := (Array.getElem?_eq_some_iff.1 h).1
  simp [setObjW, this]
theorem setObjW_other {w : World} {b c : Nat} {o : Obj} (h : c ≠ b) : (setObjW w b o).heap[c]? = w.heap[c]? := by
  simp only [setObjW]
  exact Array.getElem?_setIfInBounds_ne (fun e => h e.symm)
theorem setObjW_size {w : World} {b : Nat} {o : Obj} : (setObjW w b o).heap.size = w.heap.size := by simp [setObjW]

theorem run_getLoop {w : World} {b : Nat} {lp : Loop} (h : w.heap[b]? = some (.loop lp)) : (Instr.getLoop b).run P w = .ok lp w := by
  simp [Instr.getLoop, getObj, Sem.run, h]
theorem run_setLoop {w : World} {b : Nat} {o o' : Obj} (h : w.heap[b]? = some o') (hn : ∀ c t f, o' ≠ .cells c t f) : (setObj b o).run P w = .ok () (setObjW w b o) := by
  cases o' <;> first | (exact absurd rfl (hn _ _ _)) | simp [setObj, Sem.run, h, setObjW]

theorem lpb_inv {m : Emb} {ρ : Env} {h : T Blk} {w : World} (hH : HeapR m ρ h w) {id : Nat} {L : LpD} (hg : h.get id = some (.lpb L)) : ∃ b lp, m.ι id = some b ∧ w.heap[b]? = some (.loop lp) ∧ (Blk.lpb L).R m ρ (m.κ id) (.loop lp) := by
  obtain ⟨b, o, h1, h2, h3⟩ := hH.blk id _ hg rfl
  have hR := h3
  obtain ⟨lp, rfl, _⟩ := h3
  exact ⟨b, lp, h1, h2, hR⟩

/-- The record is turned. -/
theorem lpb_turn {m : Emb} {ρ : Env} {h : T Blk} {w : World} (hH : HeapR m ρ h w) {id b : Nat} {L L' : LpD} {lp lp' : Loop} (hg : h.get id = some (.lpb L)) (hb : m.ι id = some b) (ho : w.heap[b]? = some (.loop lp))
    (hC : (Blk.lpb L').R m ρ (m.κ id) (.loop lp')) : HeapR m ρ (h.set id (.lpb L')) (setObjW w b (.loop lp')) ∧ Trans m h w m (h.set id (.lpb L')) (setObjW w b (.loop lp')) :=
  ⟨hH.write hg rfl hb (setObjW_self ho) hC rfl fun _ hc => setObjW_other hc, Trans.write hg rfl hb (fun _ hc => setObjW_other hc) setObjW_size rfl rfl rfl⟩

theorem beginRound_run {w : World} {b : Nat} {lp : Loop} (ho : w.heap[b]? = some (.loop lp)) (hs : lp.state = .ready) : (Instr.beginRound b).run P w = .ok () (setObjW w b (.loop { lp with state := .busy })) := by
  have h1 := run_setLoop (P := P) (o := .loop { lp with state := .busy }) ho (fun _ _ _ e => by cases e)
  simp only [Instr.beginRound, Sem.run_bind, run_getLoop ho, Result.andThen_ok, h1, hs, Sem.run_pure]
theorem endRound_run {w : World} {b : Nat} {lp : Loop} (ho : w.heap[b]? = some (.loop lp)) (j : Option Code) : (Instr.endRound b j).run P w = .ok (.bool j.isNone) (setObjW w b (.loop { lp with state := if j.isNone then .ready else .done, pending := j })) := by
  have h1 := run_setLoop (P := P) (o := .loop { lp with state := if j.isNone then .ready else .done, pending := j }) ho (fun _ _ _ e => by cases e)
  simp only [Instr.endRound, Sem.run_bind, run_getLoop ho, Result.andThen_ok, h1, Sem.run_pure]
theorem endLoop_run {w : World} {b : Nat} {lp : Loop} (ho : w.heap[b]? = some (.loop lp)) (hs : lp.state ≠ .busy) : (Instr.endLoop b).run P w = .ok lp.pending (setObjW w b (.loop { lp with state := .exhausted })) := by
  have h1 := run_setLoop (P := P) (o := .loop { lp with state := .exhausted }) ho (fun _ _ _ e => by cases e)
  have h2 : (lp.state == LoopState.busy) = false := by
    cases h : lp.state <;> first | rfl | exact absurd h hs
  simp only [Instr.endLoop, Sem.run_bind, run_getLoop ho, Result.andThen_ok, h2, Bool.false_eq_true, if_false, Sem.run_pure, h1]

theorem rangeX_sound {S : Env → Prop} {callF : Facts → CallD} (hcall : ∀ F, F.sem = S → CallOk P F (callF F)) {ρ : Env} {F : Facts} (hS : F.sem = S) (hF : F.ok ρ) {ro l : Option Nat} {n : Nat} {g : Operand} {ps : Array Tmp} {assign body : Code} {st : St} {r : CR}
    (h : rangeX P callF ro F g ps assign body st = some r) {m : Emb} {a : Act} {w : World} (hro : RoR m ro l) (hR : Rep m ρ st a w) {Q : Exit → Act → World → Prop} (hK : r.Post m ρ st w Q) : (Code.rangeFunc g ps assign body).wpIn (fz l) n P Q a w := by
  unfold rangeX at h
  split at h
  · rename_i gf first cap hg
    split at h
    · rename_i hbody
      split at h
      · rename_i idd h1 n1 dfs1 hen
        split at h
        · rename_i o ho
          split at h
          · rename_i L hL
            split at h
            · cases h
            · rename_i hbusy
              cases h
              have hgR := opd_R hR.tmps hg
              simp only [DV.R] at hgR
              obtain ⟨x, y, hv, hx, hy⟩ := hgR
              -- what the record is laid by
              have enter : ∀ fn : FuncId, ∃ (m1 : Emb) (w1 : World) (df : Nat) (mark : List Deferred), (∀ rest : Nat → Sem (Nat × List Deferred), True) ∧ m.le m1 ∧ HeapR m1 ρ h1 w1 ∧ Trans m st.heap w m1 h1 w1 ∧ (∀ i, n1 ≤ i → m1.ι i = none) ∧ m1.ι idd = some df ∧
                  DfsR m1 ρ dfs1 (mark ++ a.defers) ∧ (Instr.enterLoop fn a.tmps ps assign body (fz l).round).run P w = .ok (w1.heap.size, mark) (w1.alloc (.loop { state := .ready, pending := none, fn, tmps := a.tmps, params := ps, assign, body, defers := df })) := by
                intro fn
                rw [fz_round]
                unfold enterD at hen
                cases ro with
                | none =>
                  obtain rfl : l = none := hro
                  cases hen
                  have hn := hR.fresh st.next (Nat.le_refl _)
                  refine ⟨m.put st.next w.heap.size 0, w.alloc (.deferred (some [])), w.heap.size, [{ target := .collected w.heap.size, args := #[] }], fun _ => trivial, Emb.le_put hn, ?_, Trans.push hn _ _, put_fresh hR.fresh, by simp [Emb.put], ?_, ?_⟩
                  · exact hR.heap.push hn rfl
                  · exact ⟨_, _, rfl, ⟨w.heap.size, by simp [Emb.put], rfl⟩, hR.dfs.mono (Emb.le_put hn)⟩
                  · simp only [Instr.enterLoop, Sem.run_bind]
                    rfl
                | some id =>
                  obtain ⟨b, hb, rfl⟩ := hro
                  simp only at hen
                  split at hen
                  · rename_i L0 hL0
                    cases hen
                    obtain ⟨b', lp, hb', hlp, hLR⟩ := lpb_inv hR.heap hL0
                    rw [hb] at hb'; cases hb'
                    obtain ⟨lp', e, _, _, _, _, _, _, _, hdf⟩ := hLR
                    cases e
                    refine ⟨m, w, lp.defers, [], fun _ => trivial, Emb.le_refl m, hR.heap, Trans.refl _ _ _, hR.fresh, hdf, hR.dfs, ?_⟩
                    simp only [Instr.enterLoop, Sem.run_bind, run_getLoop hlp, Result.andThen_ok, Sem.run_pure]
                    rfl
                  · cases hen
              refine wpIn_rangeFunc fun fn _ => ?_
              obtain ⟨m1, w1, df, mark, _, hle, hH1, hT1, hf1, hdf, hds, hrun⟩ := enter fn
              have hn1 := hf1 n1 (Nat.le_refl _)
              have hle2 := Emb.le_put (b := w1.heap.size) (n := 0) hn1
              generalize hlp : ({ state := .ready, pending := none, fn, tmps := a.tmps, params := ps, assign, body, defers := df } : Loop) = lp at hrun
              have hLR : (Blk.lpb ⟨false, false, .none, st.tmps, st.sz, ps, assign, body, idd⟩).R (m1.put n1 w1.heap.size 0) ρ 0 (.loop lp) := by
                subst hlp
                refine ⟨_, rfl, rfl, rfl, rfl, rfl, rfl, hR.size, fun i d hd => ?_, (hle2 _ _ hdf).1⟩
                obtain ⟨v, hv', hr⟩ := hR.tmps.get i d hd
                exact ⟨v, hv', (hr.mono hle).mono hle2⟩
              have hH2 := hH1.push hn1 hLR
              have hT2 : Trans m st.heap w (m1.put n1 w1.heap.size 0) (h1.set n1 (.lpb ⟨false, false, .none, st.tmps, st.sz, ps, assign, body, idd⟩)) (w1.alloc (.loop lp)) := hT1.trans (Trans.push hn1 _ _)
              have hresolve : (resolve a.eval (rangeCall g w1.heap.size) 0).run P (w1.alloc (.loop lp)) = .ok { target := .fn (.func gf) y, args := x ++ #[.func (.yield w1.heap.size) #[] #[]] } (w1.alloc (.loop lp)) := by
                have e1 : (#[Operand.const (Value.func (Fn.yield w1.heap.size) #[] #[])] : Array Operand).map a.eval = #[Value.func (Fn.yield w1.heap.size) #[] #[]] := by simp [Act.eval]
                simp only [resolve, e1, hv, Deferred.ofValue, Sem.run_pure]
              refine ⟨w1.heap.size, mark, _, _, _, gf, x ++ #[Value.func (Fn.yield w1.heap.size) #[] #[]] ++ y, _, hrun, hresolve, fun f' _ => fz_fn l f', by simp only [invoke]; exact bodyOk_run hbody _ _, fz_depth l, callsIn_fz ?_⟩
              have hargs : DV.RL (m1.put n1 w1.heap.size 0) ρ (first ++ .yld n1 :: cap) (x ++ #[Value.func (Fn.yield w1.heap.size) #[] #[]] ++ y).toList := by
                have e : (x ++ #[Value.func (Fn.yield w1.heap.size) #[] #[]] ++ y).toList = x.toList ++ (Value.func (Fn.yield w1.heap.size) #[] #[] :: y.toList) := by simp
                rw [e]
                refine ((hx.mono hle).mono hle2).append ?_
                simp only [DV.RL, DV.R]
                exact ⟨_, _, rfl, ⟨w1.heap.size, by simp [Emb.put], rfl⟩, (hy.mono hle).mono hle2⟩
              refine (hcall F hS gf _ _ _ o ho ρ hF _ _ _ hargs hH2 (put_fresh hf1)).mono fun e w3 ⟨v, m3, he, hd, hH3, hT3, hf3⟩ => ?_
              subst he
              obtain ⟨b3, lp3, hb3, hlp3, hL3⟩ := lpb_inv hH3 hL
              have hb4 := (hT3.ext n1 w1.heap.size (by simp [Emb.put])).1
              rw [hb3] at hb4; cases hb4
              obtain ⟨lp', e, hst, hpend, _⟩ := hL3
              cases e
              have hnb : lp3.state ≠ .busy := by
                rw [hst]
                simp only [hbusy, Bool.false_eq_true, if_false]
                split <;> simp
              have hTT := hT2.trans hT3
              have hH4 := hH3.drop hL rfl hb3 (w' := setObjW w3 w1.heap.size (.loop { lp3 with state := .exhausted })) fun c hc => setObjW_other hc
              have hT4 : Trans m3 o.h w3 m3 (o.h.set n1 .dead) (setObjW w3 w1.heap.size (.loop { lp3 with state := .exhausted })) := Trans.write hL rfl hb3 (fun c hc => setObjW_other hc) setObjW_size rfl rfl rfl
              have hle3 : m.le m3 := hTT.ext
              have hRep : Rep m3 ρ { st with heap := o.h.set n1 .dead, next := o.n, dfs := dfs1 } { a with defers := mark ++ a.defers } (setObjW w3 w1.heap.size (.loop { lp3 with state := .exhausted })) :=
                ⟨⟨fun i d hd => let ⟨v, hv', hr⟩ := hR.tmps.get i d hd; ⟨v, hv', hr.mono hle3⟩⟩, hR.size, hH4, hf3, (hds.mono hle2).mono hT3.ext⟩
              have hrunE := endLoop_run (P := P) hlp3 hnb
              generalize setObjW w3 w1.heap.size (.loop { lp3 with state := .exhausted }) = w4 at hrunE hH4 hT4 hRep
              refine ⟨lp3.pending, w4, hrunE, ?_⟩
              have hTf := hTT.trans hT4
              rw [hpend]
              cases hp : L.pend with
              | none =>
                rw [hp] at hK
                exact hK _ _ _ hRep hTf
              | ret =>
                rw [hp] at hK
                exact wpIn_ret (hK _ _ _ hRep hTf)
              | exit i =>
                rw [hp] at hK
                exact wpIn_exit (hK _ _ _ hRep hTf)
          · cases h
        · cases h
      · cases h
    · cases h
  · cases h

theorem stepR_scope {b : Frame} {a : Act} {k : List Item} {cs : List Frame} {w : World} {c : Code} : step P (lone (b.atR a (.code (.scope c) :: k)) cs w) = .next (lone (b.atR a (.code c :: .inScope c :: k)) cs w) :=
  step_lone_go (by simp [stepG, stepG.exec, Frame.atR])
theorem stepR_inScope {b : Frame} {a : Act} {k : List Item} {cs : List Frame} {w : World} {c : Code} : step P (lone (b.atR a (.inScope c :: k)) cs w) = .next (lone (b.atR a k) cs w) :=
  step_lone_go (by simp [stepG, stepG.exec, Frame.atR])

/-- A scope through which one goes without a goto. -/
theorem wpIn_scope {F : Fence} {n : Nat} {Q : Exit → Act → World → Prop} {a : Act} {w : World} {c : Code} (h : c.wpIn F n P (Exit.noGoto Q) a w) : (Code.scope c).wpIn F n P Q a w := by
  intro b k cs hro hb hr
  have h0 : (lone (b.atR a (.code (.scope c) :: k)) cs w).fenced P F := fenced_calm hb hr rfl
  obtain ⟨e, a₁, w₁, hq, harr⟩ := h b (.inScope c :: k) cs hro hb hr
  cases e with
  | normal => exact ⟨.normal, a₁, w₁, hq, .head h0 stepR_scope (StepsIn.trans harr (.one (fenced_calm hb hr rfl) stepR_inScope))⟩
  | exit id =>
    have hx : exitTo id (.inScope c :: k) = exitTo id k := by simp [exitTo]
    exact ⟨.exit id, a₁, w₁, hq, fun k' hk => .head h0 stepR_scope (harr.1 k' (by rw [hx]; exact hk)),
      fun hr' hk => let ⟨k₁, h1, h2⟩ := harr.2 hr' (by rw [hx]; exact hk); ⟨k₁, h1, .head h0 stepR_scope h2⟩⟩
  | goto l => exact hq.elim
  | ret => exact ⟨_, a₁, w₁, hq, .of_steps (.one h0 stepR_scope) harr⟩
  | panic ch => exact ⟨_, a₁, w₁, hq, .of_steps (.one h0 stepR_scope) harr⟩
  | outgrown => exact ⟨_, a₁, w₁, hq, .of_steps (.one h0 stepR_scope) harr⟩

theorem CR.noGoto_post {ρ : Env} {m : Emb} {st : St} {w : World} {Q : Exit → Act → World → Prop} : ∀ {r : CR}, r.Post m ρ st w Q → r.Post m ρ st w (Exit.noGoto Q)
  | .leaf x _, h => by cases x <;> exact h
  | .node _ _ _, h => ⟨fun hc => CR.noGoto_post (h.1 hc), fun hc => CR.noGoto_post (h.2 hc)⟩

theorem codeX_both {S : Env → Prop} {callF : Facts → CallD} (hcall : ∀ F, F.sem = S → CallOk P F (callF F)) {rndF : Facts → RndD} (hrnd : ∀ F, F.sem = S → RndOk P F (rndF F)) {drawF : Facts → Array Oper → St → Option St} (hdraw : ∀ F, F.sem = S → DrawOk P F (drawF F)) (lim : Nat) {ro l : Option Nat} {ρ : Env} (N : Nat) :
    ∀ (n : Nat),
      (∀ {F : Facts} {c : Code} {st : St} {r : CR}, F.sem = S → F.ok ρ → codeX P callF rndF drawF lim ro n F c st = some r → ∀ {m : Emb} {a : Act} {w : World}, RoR m ro l → Rep m ρ st a w → ∀ {Q : Exit → Act → World → Prop}, r.Post m ρ st w Q → c.wpIn (fz l) N P Q a w) ∧
      (∀ {F : Facts} {b : Code} {st : St} {r : CR}, F.sem = S → F.ok ρ → codeX P callF rndF drawF lim ro n F (.loop b) st = some r → ∀ {m : Emb} {a : Act} {w : World}, RoR m ro l → Rep m ρ st a w → ∀ {Q : Exit → Act → World → Prop}, r.Post m ρ st w Q → Code.roundsIn (fz l) N P b Q n a w) := by
  intro n
  induction n with
  | zero => exact ⟨fun _ _ h => by simp [codeX] at h, fun _ _ h => by simp [codeX] at h⟩
  | succ n ihn =>
    obtain ⟨ih, ihl⟩ := ihn
    have B : ∀ {F : Facts} {b : Code} {st : St} {r : CR}, F.sem = S → F.ok ρ → codeX P callF rndF drawF lim ro (n + 1) F (.loop b) st = some r → ∀ {m : Emb} {a : Act} {w : World}, RoR m ro l → Rep m ρ st a w → ∀ {Q : Exit → Act → World → Prop}, r.Post m ρ st w Q → Code.roundsIn (fz l) N P b Q (n + 1) a w := by
      intro F b st r hS hF h m a w hro hR Q hK
      simp only [codeX] at h
      rw [roundsIn_succ]
      split at h
      · rename_i r1 h1
        exact ih hS hF h1 hro hR (CR.bind_post (S := S) (fun F' st1 r2 hS' hF' h2 m1 a1 w1 hle hR1 hp => ihl hS' hF' h2 (hro.mono hle) hR1 hp) hS hF h hK)
      · cases h
    refine ⟨?_, B⟩
    intro F c st r hS hF h m a w hro hR Q hK
    by_cases hl : ∃ b, c = .loop b
    · obtain ⟨b, rfl⟩ := hl
      exact wpIn_loop_rounds (n + 1) (B hS hF h hro hR hK)
    cases c <;> simp only [codeX, reduceCtorEq] at h
    case loop b => exact absurd ⟨b, rfl⟩ hl
    case skip => cases h; exact wpIn_skip (hK _ _ _ hR (Trans.refl _ _ _))
    case label l' => cases h; exact wpIn_label (hK _ _ _ hR (Trans.refl _ _ _))
    case exit id => cases h; exact wpIn_exit (hK _ _ _ hR (Trans.refl _ _ _))
    case ret => cases h; exact wpIn_ret (hK _ _ _ hR (Trans.refl _ _ _))
    case rangeFunc g ps assign body => exact rangeX_sound hcall hS hF h hro hR hK
    case scope b => exact wpIn_scope (ih hS hF h hro hR (CR.noGoto_post hK))
    case region id ops dr =>
      split at h
      · rename_i st1 h1
        cases h
        cases dr with
        | false => exact wpIn_region (opsR_sound (hcall F hS) (hrnd F hS) hF _ h1 hro hR hK)
        | true =>
          simp only at h1
          split at h1
          · rename_i hd
            have hd' : l = none ∨ noDefer ops = true := by
              simp only [Bool.or_eq_true, Option.isNone_iff_eq_none] at hd
              rcases hd with rfl | hd
              · exact .inl hro
              · exact .inr hd
            split at h1
            · rename_i z hz
              cases h1
              exact region_draw_in hd' (hdraw F hS ops st _ hz ρ hF m a w hR _ hK)
            · unfold splitX at h1
              split at h1
              · rename_i k hk
                split at h1
                · rename_i hs
                  split at h1
                  · rename_i st2 h2
                    refine region_split_in hd' hs (hdraw F hS _ st st2 h2 ρ hF m a w hR _ fun a' w' m' hR' hT' => ?_)
                    exact opsR_sound (hcall F hS) (hrnd F hS) hF _ h1 (hro.mono hT'.ext) hR' fun a2 w2 m2 hR2 hT2 => hK _ _ _ hR2 (hT'.trans hT2)
                  · cases h1
                · cases h1
              · cases h1
          · cases h1
      · split at h
        · split at h
          · rename_i e he
            split at h
            · rename_i x y hx hy
              cases h
              obtain ⟨h1, h2⟩ := mkCR_post hF hK
              cases hv : (e.ev ρ).bool with
              | true => exact ih ((Facts.cons_sem F e true).trans hS) (facts_cons hF hv) hx hro hR (h1 hv)
              | false => exact ih ((Facts.cons_sem F e false).trans hS) (facts_cons hF hv) hy hro hR (h2 hv)
            · cases h
          · cases h
        · cases h
    case seq c1 c2 =>
      split at h
      · rename_i r1 h1
        exact wpIn_seq (ih hS hF h1 hro hR (CR.bind_post (S := S) (fun F' st1 r2 hS' hF' h2 m1 a1 w1 hle hR1 hp => ih hS' hF' h2 (hro.mono hle) hR1 hp) hS hF h hK))
      · cases h
    case cond e0 c1 c2 =>
      split at h
      · rename_i e he
        have hc := opd_R hR.tmps he
        simp only [DV.R] at hc
        split at h
        · rename_i hd
          have := E.dec_sound hF hd
          rw [this] at hc
          exact wpIn_cond_true hc (ih hS hF h hro hR hK)
        · rename_i hd
          have := E.dec_sound hF hd
          rw [this] at hc
          exact wpIn_cond_false hc (ih hS hF h hro hR hK)
        · split at h
          · split at h
            · rename_i x y hx hy
              cases h
              obtain ⟨h1, h2⟩ := mkCR_post hF hK
              cases hv : (e.ev ρ).bool with
              | true => rw [hv] at hc; exact wpIn_cond_true hc (ih ((Facts.cons_sem F e true).trans hS) (facts_cons hF hv) hx hro hR (h1 hv))
              | false => rw [hv] at hc; exact wpIn_cond_false hc (ih ((Facts.cons_sem F e false).trans hS) (facts_cons hF hv) hy hro hR (h2 hv))
            · cases h
          · cases h
      · cases h
    case block id b =>
      simp only [Option.map_eq_some_iff] at h
      obtain ⟨r1, h1, rfl⟩ := h
      exact wpIn_block (ih hS hF h1 hro hR (CR.out_post hF hK))

theorem codeX_sound {S : Env → Prop} {callF : Facts → CallD} (hcall : ∀ F, F.sem = S → CallOk P F (callF F)) {rndF : Facts → RndD} (hrnd : ∀ F, F.sem = S → RndOk P F (rndF F)) {drawF : Facts → Array Oper → St → Option St} (hdraw : ∀ F, F.sem = S → DrawOk P F (drawF F)) (lim : Nat) {ro l : Option Nat} {ρ : Env} (N : Nat)
    (n : Nat) {F : Facts} (hS : F.sem = S) (hF : F.ok ρ) {c : Code} {st : St} {r : CR} (h : codeX P callF rndF drawF lim ro n F c st = some r) {m : Emb} {a : Act} {w : World} (hro : RoR m ro l) (hR : Rep m ρ st a w) {Q : Exit → Act → World → Prop} (hK : r.Post m ρ st w Q) : c.wpIn (fz l) N P Q a w :=
  (codeX_both hcall hrnd hdraw lim N n).1 hS hF h hro hR hK

end

end Go.Eng

/-
  Calls: what the symbolic machine tells of a call, the machine does.
-/
namespace Go.Eng

section
variable {P : Program} {F : Facts}

theorem argsT_get : ∀ (args : List DV) (i k : Nat), (argsT i args).get k = if i ≤ k then args[k - i]? else none
  | [], i, k => by simp [argsT]
  | d :: r, i, k => by
    simp only [argsT, T.get_set, argsT_get r (i + 1) k]
    by_cases h : k = i
    · subst h; simp
    · rw [if_neg h]
      by_cases h1 : i + 1 ≤ k
      · rw [if_pos h1, if_pos (by omega)]
        rw [show k - i = (k - (i + 1)) + 1 by omega, List.getElem?_cons_succ]
      · rw [if_neg h1, if_neg (by omega)]

theorem rep_args {m : Emb} {ρ : Env} {args : List DV} {vs : Array Value} (hvs : DV.RL m ρ args vs.toList) {h : T Blk} {n k : Nat} {w : World} (hH : HeapR m ρ h w) (hf : ∀ id, n ≤ id → m.ι id = none) (hk : args.length ≤ k) :
    Rep m ρ ⟨argsT 0 args, h, n, k, []⟩ { tmps := vs ++ Array.replicate (k - vs.size) undef, defers := [] } w := by
  have hl := hvs.length
  simp at hl
  refine ⟨⟨fun i d hd => ?_⟩, by simp; omega, hH, hf, rfl⟩
  rw [argsT_get] at hd
  simp at hd
  obtain ⟨v, hv, hr⟩ := hvs.get hd
  refine ⟨v, ?_, hr⟩
  have hv' : vs[i]? = some v := by simpa using hv
  have hlt := (Array.getElem?_eq_some_iff.1 hv').1
  rw [Array.getElem?_append_left hlt]; exact hv'

def resSem (tmps : Array Value) : ResultVar → Sem Value
  | .tmp t => pure (tmps.getD t undef)
  | .cell a t => do loadVar t (← asAddr (tmps.getD a undef))

theorem results_eq (fn : Func) (tmps : Array Value) : results fn tmps = (do let vs ← fn.results.mapM (resSem tmps); pure (if h : vs.size = 1 then vs[0] else .tuple vs)) := rfl

theorem resD_run {m : Emb} {ρ : Env} (hF : F.ok ρ) {st : St} {a : Act} {w : World} (hR : Rep m ρ st a w) : ∀ {l : List ResultVar} {ds : List DV}, l.mapM (resD P F st) = some ds →
    ∃ vs : List Value, (l.mapM (resSem a.tmps)).run P w = .ok vs w ∧ DV.RL m ρ ds vs
  | [], ds, h => by simp at h; subst h; exact ⟨[], by simp, by simp [DV.RL]⟩
  | x :: l, ds, h => by
    simp only [List.mapM_cons, Option.bind_eq_bind, Option.pure_def, Option.bind_eq_some_iff] at h
    obtain ⟨d, hd, rs, hr, he⟩ := h
    simp at he; subst he
    obtain ⟨vs, hvs, hrl⟩ := resD_run hF hR hr
    cases x with
    | tmp t =>
      simp only [resD] at hd
      obtain ⟨v, hv, hrv⟩ := hR.tmps.get t d hd
      refine ⟨v :: vs, ?_, by simp only [DV.RL]; exact ⟨v, vs, rfl, hrv, hrl⟩⟩
      have hone : (resSem a.tmps (.tmp t)).run P w = .ok v w := by simp [resSem, Array.getD_eq_getD_getElem?, hv]
      simp only [List.mapM_cons, Sem.run_bind, hone, Sem.run_pure, Result.andThen_ok, hvs]
    | cell b t =>
      simp only [resD] at hd
      split at hd
      · rename_i p hp
        obtain ⟨pv, hpv, hpr⟩ := hR.tmps.get b p hp
        obtain ⟨v, hv, hrv⟩ := loadD_sound (P := P) hF hR.heap hd hpr
        refine ⟨v :: vs, ?_, by simp only [DV.RL]; exact ⟨v, vs, rfl, hrv, hrl⟩⟩
        have hload : (resSem a.tmps (.cell b t)).run P w = .ok v w := by
          simp only [resSem, Array.getD_eq_getD_getElem?, hpv, Option.getD_some]
          -- the address is one
          have hp' : ∃ aa, pv = .pointer (some aa) := by
            unfold loadD at hd
            split at hd
            · simp only [DV.R] at hpr; obtain ⟨b', _, rfl⟩ := hpr; exact ⟨_, rfl⟩
            · cases hd
          obtain ⟨aa, rfl⟩ := hp'
          simpa [Instr.loadAt, Instr.sureAddr, asAddr] using hv
        simp only [List.mapM_cons, Sem.run_bind, hload, Result.andThen_ok, hvs, Sem.run_pure]
      · cases hd

theorem resultsD_run {m : Emb} {ρ : Env} (hF : F.ok ρ) {fn : Func} {st : St} {d : DV} (h : resultsD P F fn st = some d) {a : Act} {w : World} (hR : Rep m ρ st a w) : ∃ v, (results fn a.tmps).run P w = .ok v w ∧ d.R m ρ v := by
  unfold resultsD at h
  have key : ∀ {ds : List DV}, fn.results.toList.mapM (resD P F st) = some ds → ∃ vs : Array Value, (results fn a.tmps).run P w = .ok (if h : vs.size = 1 then vs[0] else .tuple vs) w ∧ DV.RL m ρ ds vs.toList := by
    intro ds hds
    obtain ⟨vs, hvs, hrl⟩ := resD_run hF hR hds
    refine ⟨vs.toArray, ?_, by simpa using hrl⟩
    rw [results_eq, Array.mapM_eq_mapM_toList]
    simp [hvs]
  split at h
  · rename_i d' hds
    cases h
    obtain ⟨vs, hrun, hrl⟩ := key hds
    simp only [DV.RL] at hrl
    obtain ⟨v, vr, he, hr, rfl⟩ := hrl
    have hvs : vs = #[v] := Array.toList_inj.1 (by simpa using he)
    subst hvs
    exact ⟨v, by simpa using hrun, hr⟩
  · rename_i ds hne hds
    cases h
    obtain ⟨vs, hrun, hrl⟩ := key hds
    have hl := hrl.length
    have hn : vs.size ≠ 1 := by
      intro hc
      have : ds.length = 1 := by simpa [hc] using hl.symm
      match ds, this with
      | [x], _ => exact hne x rfl
    refine ⟨.tuple vs, by rw [hrun]; simp [hn], ?_⟩
    simp only [DV.R]; exact ⟨vs, rfl, hrl⟩
  · cases h

theorem mergeOut_ok {ρ : Env} (hF : F.ok ρ) {e : E} {n0 : Nat} {x y o : Out} (h : mergeOut F e n0 x y = some o) {m m' : Emb} {h0 : T Blk} {w w' : World} {v : Value} :
    ((e.ev ρ).bool = true → x.d.R m' ρ v → HeapR m' ρ x.h w' → Trans m h0 w m' x.h w' → (∀ id, x.n ≤ id → m'.ι id = none) → o.d.R m' ρ v ∧ HeapR m' ρ o.h w' ∧ Trans m h0 w m' o.h w' ∧ ∀ id, o.n ≤ id → m'.ι id = none) ∧
    ((e.ev ρ).bool = false → y.d.R m' ρ v → HeapR m' ρ y.h w' → Trans m h0 w m' y.h w' → (∀ id, y.n ≤ id → m'.ι id = none) → o.d.R m' ρ v ∧ HeapR m' ρ o.h w' ∧ Trans m h0 w m' o.h w' ∧ ∀ id, o.n ≤ id → m'.ι id = none) := by
  unfold mergeOut at h
  split at h
  · rename_i d hh hd hhh
    cases h
    have h1 := mergeD_ok (m := m') (v := v) hF hd
    have h2 := mergeH_ok (m := m') hF hhh
    refine ⟨fun hc g1 g2 g3 g4 => ⟨h1.1 hc g1, (h2.1 hc).1 g2, ⟨g3.ext, g3.size, g3.frame, fun b hb => g3.fp b ((h2.1 hc).2 b hb), g3.tape, g3.os, g3.output⟩, fun id hid => g4 id (by simp only at hid; omega)⟩,
      fun hc g1 g2 g3 g4 => ⟨h1.2 hc g1, (h2.2 hc).1 g2, ⟨g3.ext, g3.size, g3.frame, fun b hb => g3.fp b ((h2.2 hc).2 b hb), g3.tape, g3.os, g3.output⟩, fun id hid => g4 id (by simp only at hid; omega)⟩⟩
  · cases h

/-- How what is deferred is done. -/
def ExOk (P : Program) (F : Facts) (ex : List Dfr → T Blk → Nat → Option (T Blk × Nat)) : Prop :=
  ∀ l h n h' n', ex l h n = some (h', n') → ∀ ρ, F.ok ρ → ∀ m w ds fn tmps R, DfsR m ρ l ds → HeapR m ρ h w → (∀ i, n ≤ i → m.ι i = none) →
    (∀ m' w', HeapR m' ρ h' w' → Trans m h w m' h' w' → (∀ i, n' ≤ i → m'.ι i = none) → LeavesInM Fence.wide 0 P fn tmps R [] .returning w') → LeavesInM Fence.wide 0 P fn tmps R ds .returning w

theorem fin_results {m m' : Emb} {ρ : Env} (hF : F.ok ρ) {fn : Func} {st : St} {d : DV} {h : T Blk} {n : Nat} (hd : resultsD P F fn { st with heap := h, next := n, dfs := [] } = some d) {a : Act} {w w' : World} (hR : Rep m ρ st a w) (hle : m.le m') (hH : HeapR m' ρ h w')
    (hf : ∀ i, n ≤ i → m'.ι i = none) : ∃ v, (results fn a.tmps).run P w' = .ok v w' ∧ d.R m' ρ v := by
  have hR2 : Rep m' ρ { st with heap := h, next := n, dfs := [] } { tmps := a.tmps, defers := [] } w' := ⟨⟨fun i d hd => let ⟨v, hv, hr⟩ := hR.tmps.get i d hd; ⟨v, hv, hr.mono hle⟩⟩, hR.size, hH, hf, rfl⟩
  exact resultsD_run (P := P) (a := { tmps := a.tmps, defers := [] }) hF hd hR2

theorem CR.fin_node {ex : Facts → List Dfr → T Blk → Nat → Option (T Blk × Nat)} {fn : Func} {n0 : Nat} {ρ : Env} {m : Emb} {st0 : St} {w : World} {R : Ending → World → Prop} {Q : Exit → Act → World → Prop} {S : Env → Prop}
    (hleaf : ∀ {F : Facts} {x : Ex} {st : St} {o : Out}, F.sem = S → F.ok ρ → (CR.leaf x st).fin P ex fn n0 F = some o → (∀ v m' w', o.d.R m' ρ v → HeapR m' ρ o.h w' → Trans m st0.heap w m' o.h w' → (∀ id, o.n ≤ id → m'.ι id = none) → R (.returned v) w') → (CR.leaf x st).Post m ρ st0 w Q) :
    ∀ {r : CR} {F : Facts} {o : Out}, F.sem = S → F.ok ρ → r.fin P ex fn n0 F = some o →
    (∀ v m' w', o.d.R m' ρ v → HeapR m' ρ o.h w' → Trans m st0.heap w m' o.h w' → (∀ id, o.n ≤ id → m'.ι id = none) → R (.returned v) w') → r.Post m ρ st0 w Q
  | .leaf x st, F, o, hS, hF, h, hR => hleaf hS hF h hR
  | .node e a b, F, o, hS, hF, h, hR => by
    simp only [CR.fin] at h
    split at h
    · rename_i x y hx hy
      refine ⟨fun hc => CR.fin_node hleaf ((Facts.cons_sem F e true).trans hS) (facts_cons hF hc) hx fun v m' w' g1 g2 g3 g4 => ?_, fun hc => CR.fin_node hleaf ((Facts.cons_sem F e false).trans hS) (facts_cons hF hc) hy fun v m' w' g1 g2 g3 g4 => ?_⟩
      · obtain ⟨q1, q2, q3, q4⟩ := (mergeOut_ok hF h).1 hc g1 g2 g3 g4
        exact hR v m' w' q1 q2 q3 q4
      · obtain ⟨q1, q2, q3, q4⟩ := (mergeOut_ok hF h).2 hc g1 g2 g3 g4
        exact hR v m' w' q1 q2 q3 q4
    · cases h

theorem CR.fin_postM {ex : Facts → List Dfr → T Blk → Nat → Option (T Blk × Nat)} {S : Env → Prop} (hex : ∀ F, F.sem = S → ExOk P F (ex F)) {fn : Func} {n0 : Nat} {ρ : Env} {m : Emb} {st0 : St} {w : World} {R : Ending → World → Prop} {r : CR} {F : Facts} {o : Out} (hS : F.sem = S) (hF : F.ok ρ)
    (h : r.fin P ex fn n0 F = some o) (hR : ∀ v m' w', o.d.R m' ρ v → HeapR m' ρ o.h w' → Trans m st0.heap w m' o.h w' → (∀ id, o.n ≤ id → m'.ι id = none) → R (.returned v) w') : r.Post m ρ st0 w (bodyPostM Fence.wide 0 P fn R) := by
  refine CR.fin_node (ex := ex) (Q := bodyPostM Fence.wide 0 P fn R) (S := S) (fun {F x st o} hS hF h hR => ?_) hS hF h hR
  have key : (match ex F st.dfs st.heap st.next with
      | some (h, n) => (resultsD P F fn { st with heap := h, next := n, dfs := [] }).map fun d => (⟨d, h, n⟩ : Out)
      | none => none) = some o → ∀ a' w' m', Rep m' ρ st a' w' → Trans m st0.heap w m' st.heap w' → LeavesInM Fence.wide 0 P fn a'.tmps R a'.defers .returning w' := by
    intro h a' w' m' hR' hT'
    split at h
    · rename_i h2 n2 he
      simp only [Option.map_eq_some_iff] at h
      obtain ⟨d, hd, rfl⟩ := h
      refine hex F hS _ _ _ _ _ he ρ hF m' w' _ fn a'.tmps R hR'.dfs hR'.heap hR'.fresh fun m2 w2 hH2 hT2 hf2 => ?_
      obtain ⟨v, hv, hrv⟩ := fin_results (P := P) hF hd hR' hT2.ext hH2 hf2
      exact ⟨v, hv, hR v m2 w2 hrv hH2 (hT'.trans hT2) hf2⟩
    · cases h
  cases x with
  | norm => simp only [CR.fin] at h; exact key h
  | ret => simp only [CR.fin] at h; exact key h
  | exit id => simp [CR.fin] at h

theorem CR.fin_post0 {fn : Func} {n0 : Nat} {ρ : Env} {m : Emb} {st0 : St} {w : World} {R : Ending → World → Prop} {r : CR} {F : Facts} {o : Out} (hF : F.ok ρ)
    (h : r.fin P (fun _ => exit0) fn n0 F = some o) (hR : ∀ v m' w', o.d.R m' ρ v → HeapR m' ρ o.h w' → Trans m st0.heap w m' o.h w' → (∀ id, o.n ≤ id → m'.ι id = none) → R (.returned v) w') : r.Post m ρ st0 w (bodyPost P fn R) := by
  refine CR.fin_node (ex := fun _ => exit0) (Q := bodyPost P fn R) (S := F.sem) (fun {F x st o} hS hF h hR => ?_) rfl hF h hR
  have key : (match exit0 st.dfs st.heap st.next with
      | some (h, n) => (resultsD P F fn { st with heap := h, next := n, dfs := [] }).map fun d => (⟨d, h, n⟩ : Out)
      | none => none) = some o → ∀ a' w' m', Rep m' ρ st a' w' → Trans m st0.heap w m' st.heap w' → a'.defers = [] ∧ ∃ v, (results fn a'.tmps).run P w' = .ok v w' ∧ R (.returned v) w' := by
    intro h a' w' m' hR' hT'
    have hdf := hR'.dfs
    cases hd : st.dfs with
    | cons x r => rw [hd] at h; simp [exit0] at h
    | nil =>
      rw [hd] at h hdf
      simp only [exit0, Option.map_eq_some_iff] at h
      obtain ⟨d, hd, rfl⟩ := h
      obtain ⟨v, hv, hrv⟩ := fin_results (P := P) hF hd hR' (Emb.le_refl _) hR'.heap hR'.fresh
      exact ⟨hdf, v, hv, hR v m' w' hrv hR'.heap hT' hR'.fresh⟩
  cases x with
  | norm => simp only [CR.fin] at h; exact key h
  | ret => simp only [CR.fin] at h; exact key h
  | exit id => simp [CR.fin] at h

/-- A call that was deferred. -/
def DCallOk (P : Program) (F : Facts) (call : CallD) : Prop :=
  ∀ f args h n r, call f args h n = some r → ∀ ρ, F.ok ρ → ∀ m w (vs : Array Value), DV.RL m ρ args vs.toList → HeapR m ρ h w → (∀ id, n ≤ id → m.ι id = none) →
    CallsDIn Fence.wide 0 P f vs .returning w fun e u' w' => u' = .returning ∧ ∃ v m', e = .returned v ∧ HeapR m' ρ r.h w' ∧ Trans m h w m' r.h w' ∧ (∀ id, r.n ≤ id → m'.ι id = none)

theorem CallsDIn.mono' {F : Fence} {n : Nat} {f : FuncId} {args : Array Value} {u : FrameMode} {w : World} {R R' : Ending → FrameMode → World → Prop} (h : CallsDIn F n P f args u w R) (hr : ∀ e u' w', R e u' w' → R' e u' w') : CallsDIn F n P f args u w R' :=
  ⟨h.1, fun c cs hu hroom => let ⟨e, u', w', fr, r, rest⟩ := h.2 c cs hu hroom; ⟨e, u', w', fr, hr _ _ _ r, rest⟩⟩

theorem takeDeferred_run {w : World} {b : Nat} (h : w.heap[b]? = some (.deferred (some []))) : (Instr.takeDeferred b).run P w = .ok [] (setObjW w b (.deferred none)) := by
  have h1 := run_setLoop (P := P) (o := .deferred none) h (fun _ _ _ e => by cases e)
  have h2 : (getObj b).run P w = .ok (.deferred (some [])) w := by simp [getObj, Sem.run, h]
  simp only [Instr.takeDeferred, Sem.run_bind, h2, Result.andThen_ok, h1, Sem.run_pure]

theorem exitX_ok {dcall : CallD} (hd : DCallOk P F dcall) : ExOk P F (exitX P dcall) := by
  intro l
  induction l with
  | nil =>
    intro h n h' n' he ρ hF m w ds fn tmps R hds hH hf hk
    simp only [exitX, Option.some.injEq, Prod.mk.injEq] at he
    obtain ⟨rfl, rfl⟩ := he
    obtain rfl : ds = [] := hds
    exact hk m w hH (Trans.refl _ _ _) hf
  | cons x r ih =>
    intro h n h' n' he ρ hF m w ds fn tmps R hds hH hf hk
    obtain ⟨d, dr, rfl, hx, hr⟩ := hds
    cases x with
    | coll id =>
      obtain ⟨b, hb, rfl⟩ := hx
      simp only [exitX] at he
      split at he
      · rename_i hg
        obtain ⟨b', o, hb', ho, hB⟩ := hH.blk id _ hg rfl
        rw [hb] at hb'; cases hb'
        obtain rfl : o = .deferred (some []) := hB
        have hH2 : HeapR m ρ (h.set id (.defb false)) (setObjW w b (.deferred none)) := hH.write hg rfl hb (setObjW_self ho) rfl rfl fun c hc => setObjW_other hc
        have hT2 : Trans m h w m (h.set id (.defb false)) (setObjW w b (.deferred none)) := Trans.write hg rfl hb (fun c hc => setObjW_other hc) setObjW_size rfl rfl rfl
        refine ⟨by simp, .inl ⟨b, _, rfl, takeDeferred_run ho, ?_⟩⟩
        exact ih _ _ _ _ he ρ hF m _ dr fn tmps R hr hH2 hf fun m' w' g1 g2 g3 => hk m' w' g1 (hT2.trans g2) g3
      · cases he
    | call g pre cap =>
      obtain ⟨a, c, rfl, ha, hc⟩ := hx
      simp only [exitX] at he
      split at he
      · rename_i hbody
        split at he
        · rename_i o ho
          have hargs : DV.RL m ρ (pre ++ cap) (a ++ c).toList := by simpa using ha.append hc
          refine ⟨by simp, .inr ⟨fz_depth none, _, _, g, a ++ c, rfl, by simp only [invoke]; exact bodyOk_run hbody w _, fun f' _ => trivial, ?_⟩⟩
          refine CallsDIn.mono' (hd g _ h n o ho ρ hF m w _ hargs hH hf) fun e u' w' ⟨hu, v, m', he', hH', hT', hf'⟩ => ?_
          subst hu; subst he'
          exact ih _ _ _ _ he ρ hF m' w' dr fn tmps R (hr.mono hT'.ext) hH' hf' fun m2 w2 g1 g2 g3 => hk m2 w2 g1 (hT'.trans g2) g3
        · cases he
      · cases he

theorem setParams {m : Emb} {ρ : Env} : ∀ {ps : List Tmp} {ds : List DV} {vs : List Value} {t : T DV} {tm : Array Value}, DV.RL m ρ ds vs → (∀ i d, t.get i = some d → ∃ v, tm[i]? = some v ∧ d.R m ρ v) → (∀ p ∈ ps, p < tm.size) →
    (∀ i d, ((ps.zip ds).foldl (fun t p => t.set p.1 p.2) t).get i = some d → ∃ v, ((ps.zip vs).foldl (fun tm p => tm.setIfInBounds p.1 p.2) tm)[i]? = some v ∧ d.R m ρ v) ∧ ((ps.zip vs).foldl (fun tm p => tm.setIfInBounds p.1 p.2) tm).size = tm.size
  | [], ds, vs, t, tm, _, h, _ => by simpa using h
  | p :: ps, [], vs, t, tm, hv, h, _ => by
    simp only [DV.RL] at hv; subst hv
    simpa using h
  | p :: ps, d :: ds, vs, t, tm, hv, h, hp => by
    simp only [DV.RL] at hv
    obtain ⟨v, vr, rfl, h1, h2⟩ := hv
    simp only [List.zip_cons_cons, List.foldl_cons]
    have := setParams (ps := ps) (t := t.set p d) (tm := tm.setIfInBounds p v) h2 (fun i d' hd' => by
      rw [T.get_set] at hd'
      split at hd'
      · rename_i e; cases hd'; subst e
        exact ⟨v, by simp [hp i (List.mem_cons_self ..)], h1⟩
      · rename_i e
        obtain ⟨u, hu, hr⟩ := h i d' hd'
        exact ⟨u, by rw [Array.getElem?_setIfInBounds_ne (fun h => e h.symm)]; exact hu, hr⟩) (fun q hq => by simpa using hp q (List.mem_cons_of_mem _ hq))
    exact ⟨this.1, by rw [this.2]; simp⟩

section
variable {S : Env → Prop} {callF : Facts → CallD} {rndF : Facts → RndD} (hcall : ∀ F, F.sem = S → CallOk P F (callF F)) (hrnd : ∀ F, F.sem = S → RndOk P F (rndF F)) {draw : Facts → CallD → Array Oper → St → Option St} (hdraw : ∀ F, F.sem = S → ∀ call, CallOk P F call → DrawOk P F (draw F call)) (fuel lim : Nat)
include hcall hrnd hdraw

theorem bodyX_sound {ρ : Env} {F : Facts} (hS : F.sem = S) (hF : F.ok ρ) {f : FuncId} {args : List DV} {h : T Blk} {n : Nat} {fn : Func} {r : CR} (hb : bodyX P draw fuel lim callF rndF F f args h n = some (fn, r)) :
    P.funcs[f]? = some fn ∧ ∃ body, fn.body = some body ∧ ∀ {m : Emb} {w : World} {vs : Array Value}, DV.RL m ρ args vs.toList → HeapR m ρ h w → (∀ id, n ≤ id → m.ι id = none) → ∀ {Q : Exit → Act → World → Prop}, r.Post m ρ ⟨argsT 0 args, h, n, fn.ntmps, []⟩ w Q →
      body.wpIn Fence.wide 0 P Q { tmps := vs ++ Array.replicate (fn.ntmps - vs.size) undef, defers := [] } w := by
  unfold bodyX at hb
  split at hb
  · rename_i fn' hfn
    split at hb
    · rename_i body hbody
      split at hb
      · rename_i hlen
        simp only [Option.map_eq_some_iff, Prod.mk.injEq] at hb
        obtain ⟨r', hcode, rfl, rfl⟩ := hb
        refine ⟨hfn, body, hbody, fun {m w vs} hvs hH hf {Q} hK => ?_⟩
        exact codeX_sound (l := none) (S := S) hcall hrnd (fun F' hS' => hdraw F' hS' _ (hcall F' hS')) lim 0 fuel hS hF hcode rfl (rep_args hvs hH hf hlen) hK
      · cases hb
    · cases hb
  · cases hb

theorem dcallX_ok (F : Facts) (hS : F.sem = S) : DCallOk P F (dcallX P draw fuel lim callF rndF F) := by
  intro f args h n r hr ρ hF m w vs hvs hH hf
  unfold dcallX at hr
  split at hr
  · rename_i fn cr hb
    obtain ⟨hfn, body, hbody, hwp⟩ := bodyX_sound hcall hrnd hdraw fuel lim hS hF hb
    refine CallsDIn.mono' (callsDIn_of_wp (R := fun e w' => ∃ v m', e = .returned v ∧ HeapR m' ρ r.h w' ∧ Trans m h w m' r.h w' ∧ (∀ id, r.n ≤ id → m'.ι id = none)) hfn hbody trivial (hwp hvs hH hf (CR.fin_post0 hF hr fun v m' w' g1 g2 g3 g4 => ?_))) fun e u' w' h => h
    exact ⟨v, m', rfl, g2, g3, g4⟩
  · cases hr

theorem callB_ok {Γ : Facts → FuncId → Option CallD} (hΓ : ∀ F : Facts, F.sem = S → ∀ f c, Γ F f = some c → ∀ args h n r, c f args h n = some r → ∀ ρ, F.ok ρ → ∀ m w (vs : Array Value), DV.RL m ρ args vs.toList → HeapR m ρ h w → (∀ id, n ≤ id → m.ι id = none) →
      Calls P f vs w fun e w' => ∃ v m', e = .returned v ∧ r.d.R m' ρ v ∧ HeapR m' ρ r.h w' ∧ Trans m h w m' r.h w' ∧ (∀ id, r.n ≤ id → m'.ι id = none)) (F : Facts) (hS : F.sem = S) : CallOk P F (callB P draw fuel lim callF rndF Γ F) := by
  intro f args h n r hr ρ hF m w vs hvs hH hf
  unfold callB at hr
  split at hr
  · rename_i c hc
    exact hΓ F hS f c hc args h n r hr ρ hF m w vs hvs hH hf
  · split at hr
    · rename_i fn cr hb
      obtain ⟨hfn, body, hbody, hwp⟩ := bodyX_sound hcall hrnd hdraw fuel lim hS hF hb
      refine (callsIn_wide (n := 0)).1 (callsIn_of_wp_marks hfn hbody trivial (hwp hvs hH hf (CR.fin_postM (S := S) (fun F' hS' => exitX_ok (dcallX_ok hcall hrnd hdraw fuel lim F' hS')) hS hF hr fun v m' w' g1 g2 g3 g4 => ?_)))
      exact ⟨v, m', rfl, g1, g2, g3, g4⟩
    · cases hr

theorem rndB_ok (F : Facts) (hS : F.sem = S) : RndOk P F (rndB P draw fuel lim callF rndF F) := by
  intro id args h n r hr ρ hF m w vs hvs hH hf b hb
  unfold rndB at hr
  split at hr
  · rename_i L hL
    split at hr
    · cases hr
    · rename_i hcond
      simp only [Bool.or_eq_true, not_or, Bool.not_eq_true, bne_iff_ne, ne_eq, Classical.not_not, Bool.not_eq_false', List.all_eq_true, decide_eq_true_eq] at hcond
      obtain ⟨hbusy, hdone, hlen, hps⟩ := hcond
      obtain ⟨b', lp, hb', hlp, hLR⟩ := lpb_inv hH hL
      rw [hb] at hb'; cases hb'
      obtain ⟨lp0, e, hst, hpend, hpar, has, hbo, hsz, htm, hdf⟩ := hLR
      cases e
      have hvl := hvs.length
      simp only [Array.length_toList] at hvl
      refine ⟨lp.fn, (lp.params.zip vs).foldl (fun tmps (t, a) => tmps.setIfInBounds t a) lp.tmps, lp.assign, lp.body, ?_, ?_⟩
      · have hne : ¬ (vs.size ≠ lp.params.size) := by rw [hpar]; omega
        simp only [Instr.yield, Sem.run_bind, run_getLoop hlp, Result.andThen_ok, hne, if_false, Sem.run_pure]
      · rw [has, hbo]
        obtain ⟨p1, p2⟩ := setParams (ps := L.params.toList) hvs htm (fun p hp => by rw [hsz]; exact hps p hp)
        have hfold : (lp.params.zip vs).foldl (fun tmps (t, a) => tmps.setIfInBounds t a) lp.tmps = (L.params.toList.zip vs.toList).foldl (fun tm p => tm.setIfInBounds p.1 p.2) lp.tmps := by
          rw [hpar, ← Array.foldl_toList, Array.toList_zip]
        rw [hfold]
        split at hr
        · rename_i st hcode
          split at hr
          · rename_i L1 hL1
            split at hr
            · cases hr
            · rename_i hc1
              simp only [Bool.or_eq_true, not_or, Bool.not_eq_true] at hc1
              split at hr
              · rename_i cr hbody
                refine roundIn_of_wpIn trivial ?_
                have hR0 : Rep m ρ ⟨(L.params.toList.zip args).foldl (fun t p => t.set p.1 p.2) L.tmps, h, n, L.sz, []⟩ { tmps := (L.params.toList.zip vs.toList).foldl (fun tm p => tm.setIfInBounds p.1 p.2) lp.tmps, defers := [] } w :=
                  ⟨⟨p1⟩, by rw [p2]; exact hsz, hH, hf, rfl⟩
                refine codeX_sound (ro := some id) (l := some b) (S := S) hcall hrnd (fun F' hS' => hdraw F' hS' _ (hcall F' hS')) lim 0 fuel hS hF hcode ⟨b, hb, rfl⟩ hR0 ?_
                intro a1 w1 m1 hR1 hT1
                have hb1 := (hT1.ext id b hb).1
                obtain ⟨b', lp1, hb', hlp1, hLR1⟩ := lpb_inv hR1.heap hL1
                rw [hb1] at hb'; cases hb'
                have hLR1' := hLR1
                obtain ⟨lp0, e, hst1, hpend1, hpar1, has1, hbo1, hsz1, htm1, hdf1⟩ := hLR1
                cases e
                have hready : lp1.state = .ready := by rw [hst1, hc1.1, hc1.2]; rfl
                have hC : (Blk.lpb { L1 with busy := true }).R m1 ρ (m1.κ id) (.loop { lp1 with state := .busy }) := ⟨_, rfl, rfl, hpend1, hpar1, has1, hbo1, hsz1, htm1, hdf1⟩
                obtain ⟨hH2, hT2⟩ := lpb_turn hR1.heap hL1 hb1 hlp1 hC
                refine ⟨_, beginRound_run hlp1 hready, ?_⟩
                have hR2 : Rep m1 ρ { st with heap := st.heap.set id (.lpb { L1 with busy := true }) } a1 (setObjW w1 b (.loop { lp1 with state := .busy })) := ⟨hR1.tmps, hR1.size, hH2, hR1.fresh, hR1.dfs⟩
                refine codeX_sound (ro := some id) (l := some b) (S := S) hcall hrnd (fun F' hS' => hdraw F' hS' _ (hcall F' hS')) lim 0 fuel hS hF hbody ⟨b, hb1, rfl⟩ hR2 ?_
                have hT12 := hT1.trans hT2
                -- the round's end
                have fin : ∀ {cr : CR} {F : Facts} {o : Out}, F.ok ρ → CR.endR id n F cr = some o → (∀ v m' w', o.d.R m' ρ v → HeapR m' ρ o.h w' → Trans m h w m' o.h w' → (∀ i, o.n ≤ i → m'.ι i = none) → ∃ v' m'', Ending.returned v = .returned v' ∧ r.d.R m'' ρ v' ∧ HeapR m'' ρ r.h w' ∧ Trans m h w m'' r.h w' ∧ (∀ i, r.n ≤ i → m''.ι i = none)) →
                    cr.Post m1 ρ { st with heap := st.heap.set id (.lpb { L1 with busy := true }) } (setObjW w1 b (.loop { lp1 with state := .busy })) (roundPost P b fun e w' => ∃ v m', e = .returned v ∧ r.d.R m' ρ v ∧ HeapR m' ρ r.h w' ∧ Trans m h w m' r.h w' ∧ (∀ i, r.n ≤ i → m'.ι i = none)) := by
                  intro cr
                  induction cr with
                  | leaf x st3 =>
                    intro F o hF ho hk a3 w3 m3 hR3 hT3
                    simp only [CR.endR] at ho
                    split at ho
                    · rename_i L3 hL3 hd3
                      have hb3 := (hT3.ext id b hb1).1
                      obtain ⟨b', lp3, hb', hlp3, hLR3⟩ := lpb_inv hR3.heap hL3
                      rw [hb3] at hb'; cases hb'
                      obtain ⟨lp0, e, hst3, hpend3, hpar3, has3, hbo3, hsz3, htm3, hdf3⟩ := hLR3
                      cases e
                      have turn : ∀ (L' : LpD) (j : Option Code) (v : Bool), v = j.isNone → L' = { L3 with busy := false, done := !j.isNone, pend := L'.pend } → L'.pend.to = j → o = ⟨.bool (.lb v), st3.heap.set id (.lpb L'), st3.next⟩ →
                          ∃ v' w', (Instr.endRound b j).run P w3 = .ok v' w' ∧ ∃ v m', Ending.returned v' = .returned v ∧ r.d.R m' ρ v ∧ HeapR m' ρ r.h w' ∧ Trans m h w m' r.h w' ∧ (∀ i, r.n ≤ i → m'.ι i = none) := by
                        intro L' j v hv hL' hj ho
                        have hC3 : (Blk.lpb L').R m3 ρ (m3.κ id) (.loop { lp3 with state := if j.isNone then .ready else .done, pending := j }) := by
                          rw [hL']
                          refine ⟨_, rfl, ?_, hj.symm, hpar3, has3, hbo3, hsz3, htm3, hdf3⟩
                          cases j.isNone <;> rfl
                        obtain ⟨hH4, hT4⟩ := lpb_turn hR3.heap hL3 hb3 hlp3 hC3
                        refine ⟨_, _, endRound_run hlp3 j, ?_⟩
                        subst ho
                        exact hk _ m3 _ (by simp only [DV.R, E.ev, Sc.bool_B, hv]) hH4 ((hT12.trans hT3).trans hT4) hR3.fresh
                      cases x with
                      | norm => cases ho; exact turn _ none true rfl rfl rfl rfl
                      | ret => cases ho; exact turn _ (some .ret) false rfl rfl rfl rfl
                      | exit i => cases ho; exact turn _ (some (.exit i)) false rfl rfl rfl rfl
                    · cases ho
                  | node e x y ihx ihy =>
                    intro F o hF ho hk
                    simp only [CR.endR] at ho
                    split at ho
                    · rename_i ox oy hx hy
                      refine ⟨fun hc => ihx (facts_cons hF hc) hx fun v m' w' g1 g2 g3 g4 => ?_, fun hc => ihy (facts_cons hF hc) hy fun v m' w' g1 g2 g3 g4 => ?_⟩
                      · obtain ⟨q1, q2, q3, q4⟩ := (mergeOut_ok hF ho).1 hc g1 g2 g3 g4
                        exact hk v m' w' q1 q2 q3 q4
                      · obtain ⟨q1, q2, q3, q4⟩ := (mergeOut_ok hF ho).2 hc g1 g2 g3 g4
                        exact hk v m' w' q1 q2 q3 q4
                    · cases ho
                exact fin hF hr fun v m' w' g1 g2 g3 g4 => ⟨v, m', rfl, g1, g2, g3, g4⟩
              · cases hr
          · cases hr
        · cases hr
  · cases hr
end

theorem bothX_sound {S : Env → Prop} {Γ : Facts → FuncId → Option CallD} (hΓ : ∀ F : Facts, F.sem = S → ∀ f c, Γ F f = some c → ∀ args h n r, c f args h n = some r → ∀ ρ, F.ok ρ → ∀ m w (vs : Array Value), DV.RL m ρ args vs.toList → HeapR m ρ h w → (∀ id, n ≤ id → m.ι id = none) →
      Calls P f vs w fun e w' => ∃ v m', e = .returned v ∧ r.d.R m' ρ v ∧ HeapR m' ρ r.h w' ∧ Trans m h w m' r.h w' ∧ (∀ id, r.n ≤ id → m'.ι id = none))
    {draw : Facts → CallD → Array Oper → St → Option St} (hdraw : ∀ F, F.sem = S → ∀ call, CallOk P F call → DrawOk P F (draw F call)) (fuel lim : Nat) : ∀ k, (∀ F, F.sem = S → CallOk P F ((bothX P Γ draw fuel lim k).1 F)) ∧ ∀ F, F.sem = S → RndOk P F ((bothX P Γ draw fuel lim k).2 F)
  | 0 => ⟨fun F hS f args h n r hr => by simp [bothX] at hr, fun F hS id args h n r hr => by simp [bothX] at hr⟩
  | k + 1 => by
    obtain ⟨h1, h2⟩ := bothX_sound hΓ hdraw fuel lim k
    exact ⟨fun F hS => callB_ok h1 h2 hdraw fuel lim hΓ F hS, fun F hS => rndB_ok h1 h2 hdraw fuel lim F hS⟩

theorem callX_sound {S : Env → Prop} {Γ : Facts → FuncId → Option CallD} (hΓ : ∀ F : Facts, F.sem = S → ∀ f c, Γ F f = some c → ∀ args h n r, c f args h n = some r → ∀ ρ, F.ok ρ → ∀ m w (vs : Array Value), DV.RL m ρ args vs.toList → HeapR m ρ h w → (∀ id, n ≤ id → m.ι id = none) →
      Calls P f vs w fun e w' => ∃ v m', e = .returned v ∧ r.d.R m' ρ v ∧ HeapR m' ρ r.h w' ∧ Trans m h w m' r.h w' ∧ (∀ id, r.n ≤ id → m'.ι id = none))
    {draw : Facts → CallD → Array Oper → St → Option St} (hdraw : ∀ F, F.sem = S → ∀ call, CallOk P F call → DrawOk P F (draw F call)) (fuel lim : Nat) (k : Nat) (F : Facts) (hS : F.sem = S) : CallOk P F (callX P Γ draw fuel lim k F) :=
  (bothX_sound hΓ hdraw fuel lim k).1 F hS
end

end Go.Eng
