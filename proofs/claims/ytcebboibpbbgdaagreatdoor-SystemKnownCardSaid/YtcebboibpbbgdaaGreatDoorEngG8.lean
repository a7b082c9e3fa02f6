/-
  A region that draws its order: the run in the order of the text, and that it serves for every order.
-/
import Derived.Test.YtcebboibpbbgdaaGreatDoorEngG7
namespace Go.Eng

section
variable (P : Program) (F : Facts)

def restT (t : T DV) : List Tmp → T DV
  | [] => .nil
  | i :: r => match t.get i with
    | some d => (restT t r).set i d
    | none => restT t r
def restH (h : T Blk) : List Nat → T Blk
  | [] => .nil
  | i :: r => match h.get i with
    | some b => (restH h r).set i b
    | none => restH h r

def liveIn (h : T Blk) (id : Nat) : Bool := match h.get id with | some B => B.live | none => false

/-- What is reached from some blocks. -/
def reach (h : T Blk) : Nat → List Nat → List Nat → List Nat
  | 0, _, seen => seen
  | _, [], seen => seen
  | f + 1, i :: r, seen => if seen.contains i then reach h f r seen else
    match h.get i with
    | some B => if B.live then reach h f (B.ids ++ r) (i :: seen) else reach h f r seen
    | none => reach h f r seen

def opIds (t : T DV) (x : Operand) : List Nat := match opd t x with | some d => d.ids | none => []

/-- The number under which the variables of packages are listed. -/
def regIds (h : T Blk) : List Nat := match h.get 500 with | some (.cells _ _ (.reg l)) => 500 :: l | _ => []
def gIds (h : T Blk) (t : T DV) (x : Operand) : List Nat := match opd t x with
  | some (.gptr g _) => (match h.get g with | some (.cells _ _ (.gl _)) => [g] | _ => [])
  | _ => []

def footD (h : T Blk) (t : T DV) (op : Op) : List Nat :=
  match op with
  | .load _ x => (opIds t x ++ gIds h t x).filter (liveIn h)
  | .indexAddr _ x _ => gIds h t x
  | .fieldAddr _ x _ => gIds h t x
  | .store _ x _ => (opIds t x).filter (liveIn h)
  | .convert _ _ x => (opIds t x).filter (liveIn h)
  | .lookup _ x _ _ => (opIds t x).filter (liveIn h)
  | .mapUpdate _ x _ _ => (opIds t x).filter (liveIn h)
  | .mapEntry _ x _ => (opIds t x).filter (liveIn h)
  | .entryStore _ x _ _ => (opIds t x).filter (liveIn h)
  | .insert _ x _ _ => (opIds t x).filter (liveIn h)
  | .call c => match c.callee with
    | .builtin .len => (c.args.toList.flatMap fun x => match opd t x with | some (.mp id) => [id] | _ => []).filter (liveIn h)
    | .builtin .max => []
    | .builtin .min => []
    | _ => reach h 1000 (c.operands.toList.flatMap (opIds t) ++ regIds h) []
  | _ => []

def tmpsOk (n : Nat) (t : T DV) (l : List Tmp) : Bool := l.all fun i => match t.get i with | some d => d.ids.all fun x => decide (x < n) | none => true
def blksOk (n : Nat) (h : T Blk) (l : List Nat) : Bool := l.all fun i => decide (i < n) && match h.get i with | some B => B.ids.all fun x => decide (x < n) | none => true

def namedT (t : T DV) (l : List Tmp) : List Nat := l.flatMap fun i => match t.get i with | some d => d.ids | none => []
def namedH (h : T Blk) (l : List Nat) : List Nat := l.flatMap fun i => match h.get i with | some B => i :: B.ids | none => []

def copyH (src : T Blk) (l : List Nat) (h : T Blk) : T Blk := l.foldl (fun h i => match src.get i with | some B => h.set i B | none => h.del i) h

structure Ent where
  s : St
  r : St
  p : St
  ids : List Nat
  val : Bool

def range' (a b : Nat) : List Nat := (List.range (b - a)).map (a + ·)

def isVal (ops : Array Oper) (o : Oper) (r : St) : Bool :=
  match wantD F ops r o with
  | some false => true
  | some true => (valD P F r.heap r.tmps o.op).isSome
  | none => false

def entPre (s : St) (looks : List Tmp) (ids : List Nat) : Bool := tmpsOk s.next s.tmps looks && (blksOk s.next s.heap ids && ids.all (liveIn s.heap))

def outTOk (o : Oper) (p : St) (known : List Nat) : Bool :=
  match o.dst with
  | some t => (match p.tmps.get t with | some d => d.ids.all known.contains | none => true)
  | none => true
def outBOk (p : St) (l known : List Nat) : Bool := l.all fun i => match p.heap.get i with | some B => B.ids.all known.contains | none => true
def freshOk (p : St) (l : List Nat) : Bool := l.all fun i => match p.heap.get i with | some B => !B.live || B.rw | none => true

def entPost (o : Oper) (s p : St) (looks : List Tmp) (ids : List Nat) (val : Bool) : Bool :=
  let fresh := range' s.next p.next
  let known := fresh ++ namedT s.tmps looks ++ namedH s.heap ids
  decide (s.next ≤ p.next) && ((!val || decide (p.next = s.next)) && (outTOk o p known && ((val || outBOk p (ids ++ fresh) known) && freshOk p fresh)))

def entR (ops : Array Oper) (o : Oper) (s : St) : St := ⟨restT s.tmps (o.looksAt ops), restH s.heap (footD s.heap s.tmps o.op), s.next, s.sz, []⟩

def entD (rd : Bool) (call : CallD) (ops : Array Oper) (o : Oper) (s : St) : Option Ent :=
  if entPre s (o.looksAt ops) (footD s.heap s.tmps o.op) then
    match (if rd then rdD P F call ops o (entR ops o s) else none) with
    | some d => match putT (entR ops o s) o.dst d with
      | some p => if entPost o s p (o.looksAt ops) (footD s.heap s.tmps o.op) true then some ⟨s, entR ops o s, p, footD s.heap s.tmps o.op, true⟩ else none
      | none => none
    | none => match stepX P F call ops o (entR ops o s) with
      | some p => if entPost o s p (o.looksAt ops) (footD s.heap s.tmps o.op) (isVal P F ops o (entR ops o s)) then some ⟨s, entR ops o s, p, footD s.heap s.tmps o.op, isVal P F ops o (entR ops o s)⟩ else none
      | none => none
  else none

def nextSt (o : Oper) (e : Ent) : St :=
  { tmps := match o.dst with
      | some t => (match e.p.tmps.get t with | some d => e.s.tmps.set t d | none => e.s.tmps.del t)
      | none => e.s.tmps,
    heap := if e.val then e.s.heap else copyH e.p.heap (e.ids ++ range' e.s.next e.p.next) e.s.heap,
    next := e.p.next, sz := e.s.sz }

def runD (rd : Bool) (call : CallD) (ops : Array Oper) : List Oper → St → Option (List Ent × St)
  | [], s => some ([], s)
  | o :: r, s => match entD P F rd call ops o s with
    | some e => match runD rd call ops r (nextSt o e) with
      | some (es, z) => some (e :: es, z)
      | none => none
    | none => none

def Ent.foot (e : Ent) : List Nat := e.ids ++ range' e.s.next e.p.next

def confOk (ops : Array Oper) (oi oj : Oper) (ei ej : Ent) : Bool :=
  !((match oi.dst with | some t => (oj.looksAt ops).contains t || oj.dst == some t | none => false) ||
    (match oj.dst with | some t => (oi.looksAt ops).contains t | none => false) ||
    ((!ei.val || !ej.val) && ei.foot.any ej.foot.contains))

/-- A list of numbers as bits. -/
def maskL : List Nat → Nat
  | [] => 0
  | i :: r => 2 ^ i ||| maskL r
def apart (a b : Nat) : Bool := Nat.beq (Nat.land a b) 0
def tb (b i : Nat) : Bool := Nat.beq (Nat.land 1 (Nat.shiftRight b i)) 1

/-- What an operation of a region comes to, as bits. -/
structure PM where
  ix : Nat
  dst : Nat
  lk : Nat
  ft : Nat
  val : Bool

def bitO : Option Nat → Nat
  | some t => 2 ^ t
  | none => 0

def pmOf (ops : Array Oper) (i : Nat) (x : Oper × Ent) : PM := ⟨i, bitO x.1.dst, maskL (x.1.looksAt ops), maskL x.2.foot, x.2.val⟩

def confM (y x : PM) : Bool := apart y.dst (Nat.lor x.lk x.dst) && (apart x.dst y.lk && ((y.val && x.val) || apart y.ft x.ft))

def pairsG (ops : Array Oper) : List PM → Nat → List Nat → List (Oper × Ent) → Bool
  | _, _, _, [] => true
  | done, j, bs, x :: xs => (done.all fun y => tb (bs.headD 0) y.ix || confM y (pmOf ops j x)) && pairsG ops (pmOf ops j x :: done) (j + 1) bs.tail xs

def pairsOk (ops : Array Oper) (bf : List Nat) (l : List (Oper × Ent)) : Bool := pairsG ops [] 0 bf l

/-- An order in which all may be done: each operation's edges lead to what stands ahead of it. -/
def orderOk (md : Region.Mode) (ops : Array Oper) (l : List Nat) : Bool :=
  (l.all (fun i => decide (i < ops.size)) && (List.range ops.size).all l.contains) &&
  l.zipIdx.all fun x => match ops[x.1]? with
    | some o => o.after.toList.all fun e => !Region.binds md e || (l.take x.2).contains e.on
    | none => true

def ordersOk (mixed : Bool) (ops : Array Oper) : Bool :=
  if mixed || !Region.departs ops then orderOk .any ops (List.range ops.size)
  else orderOk .text ops (List.range ops.size) && orderOk .gc ops (Region.linearise .gc ops 0)

/-- The same, as it is computed. -/
def orderR (md : Region.Mode) : Nat → List Oper → Bool
  | _, [] => true
  | i, o :: r => (o.after.toList.all fun e => !Region.binds md e || decide (e.on < i)) && orderR md (i + 1) r

def ordersQ (mixed : Bool) (ops : Array Oper) : Bool :=
  if mixed || !Region.departs ops then orderR .any 0 ops.toList
  else orderR .text 0 ops.toList && orderOk .gc ops (Region.linearise .gc ops 0)

def bitsT (t : T Nat) (o : Oper) : Nat :=
  o.after.toList.foldl (fun s e => if Region.binds .any e then s ||| 2 ^ e.on ||| (t.get e.on).getD 0 else s) 0

def befT (t : T Nat) (i : Nat) : List Oper → List Nat
  | [] => []
  | o :: r => bitsT t o :: befT (t.set i (bitsT t o)) (i + 1) r

def drawR (rd : Bool) (call : CallD) (ops : Array Oper) (s : St) : Option St :=
  match runD P F rd call ops ops.toList s with
  | some (es, z) => if pairsOk ops (befT .nil 0 ops.toList) (ops.toList.zip es) then some z else none
  | none => none

/-- With calls that only read, where it does not go without. -/
def drawX (call : CallD) (ops : Array Oper) (s : St) : Option St :=
  if ordersQ (P.follows .mixedOrders) ops then
    match drawR P F false call ops s with
    | some z => some z
    | none => drawR P F true call ops s
  else none

variable {P} {F}

theorem restT_get (t : T DV) : ∀ (l : List Tmp) (i : Nat), (restT t l).get i = if i ∈ l then t.get i else none
  | [], i => by simp [restT]
  | j :: r, i => by
    simp only [restT]
    split
    · rename_i d hd
      rw [T.get_set, restT_get t r i]
      by_cases h : i = j
      · subst h; simp [hd]
      · simp [h]
    · rename_i hd
      rw [restT_get t r i]
      by_cases h : i = j
      · subst h; simp [hd]
      · simp [h]

theorem restH_get (t : T Blk) : ∀ (l : List Nat) (i : Nat), (restH t l).get i = if i ∈ l then t.get i else none
  | [], i => by simp [restH]
  | j :: r, i => by
    simp only [restH]
    split
    · rename_i d hd
      rw [T.get_set, restH_get t r i]
      by_cases h : i = j
      · subst h; simp [hd]
      · simp [h]
    · rename_i hd
      rw [restH_get t r i]
      by_cases h : i = j
      · subst h; simp [hd]
      · simp [h]

theorem copyH_get (src : T Blk) : ∀ (l : List Nat) (h : T Blk) (i : Nat), (copyH src l h).get i = if i ∈ l then src.get i else h.get i
  | [], h, i => by simp [copyH]
  | j :: r, h, i => by
    have : copyH src (j :: r) h = copyH src r (match src.get j with | some B => h.set j B | none => h.del j) := rfl
    rw [this, copyH_get src r]
    by_cases h1 : i ∈ r
    · simp [h1]
    · rw [if_neg h1]
      by_cases h2 : i = j
      · subst h2
        rw [if_pos (by simp)]
        split
        · rename_i B hB; rw [T.get_set, if_pos rfl, hB]
        · rename_i hB; rw [T.get_del, if_pos rfl, hB]
      · rw [if_neg (by simp [h1, h2])]
        split
        · rw [T.get_set, if_neg h2]
        · rw [T.get_del, if_neg h2]

theorem mem_range' {a b i : Nat} : i ∈ range' a b ↔ a ≤ i ∧ i < b := by
  simp only [range', List.mem_map, List.mem_range]
  constructor
  · rintro ⟨k, hk, rfl⟩; omega
  · intro h; exact ⟨i - a, by omega, by omega⟩

def stAt : List Ent → St → Nat → St
  | [], z, _ => z
  | e :: _, _, 0 => e.s
  | _ :: es, z, k + 1 => stAt es z k

theorem entD_spec {rd : Bool} {call : CallD} {ops : Array Oper} {o : Oper} {s : St} {e : Ent} (h : entD P F rd call ops o s = some e) :
    e.s = s ∧ e.r = entR ops o s ∧ e.ids = footD s.heap s.tmps o.op ∧ ((e.val = isVal P F ops o (entR ops o s) ∧ stepX P F call ops o e.r = some e.p) ∨ (rd = true ∧ e.val = true ∧ ∃ d, rdD P F call ops o e.r = some d ∧ putT e.r o.dst d = some e.p)) ∧ entPre s (o.looksAt ops) e.ids = true ∧ entPost o s e.p (o.looksAt ops) e.ids e.val = true := by
  unfold entD at h
  split at h
  · rename_i h1
    split at h
    · rename_i d hd
      split at h
      · rename_i p hp
        split at h
        · rename_i h2
          cases h
          cases rd with
          | true => exact ⟨rfl, rfl, rfl, .inr ⟨rfl, rfl, d, by simpa using hd, hp⟩, h1, h2⟩
          | false => simp at hd
        · cases h
      · cases h
    · split at h
      · rename_i p hp
        split at h
        · rename_i h2
          cases h
          exact ⟨rfl, rfl, rfl, .inl ⟨rfl, hp⟩, h1, h2⟩
        · cases h
      · cases h
  · cases h

theorem entD_s {rd : Bool} {call : CallD} {ops : Array Oper} {o : Oper} {s : St} {e : Ent} (h : entD P F rd call ops o s = some e) : e.s = s := (entD_spec h).1

theorem runD_spec {rd : Bool} {call : CallD} {ops : Array Oper} : ∀ {l : List Oper} {s z : St} {es : List Ent}, runD P F rd call ops l s = some (es, z) →
    es.length = l.length ∧ stAt es z 0 = s ∧ stAt es z l.length = z ∧ ∀ k o, l[k]? = some o → ∃ e, es[k]? = some e ∧ entD P F rd call ops o (stAt es z k) = some e ∧ stAt es z (k + 1) = nextSt o e
  | [], s, z, es, h => by
    simp [runD] at h
    obtain ⟨rfl, rfl⟩ := h
    exact ⟨rfl, rfl, rfl, fun k o hk => by simp at hk⟩
  | o :: r, s, z, es, h => by
    simp only [runD] at h
    split at h
    · rename_i e he
      split at h
      · rename_i es' z' hr
        cases h
        obtain ⟨h1, h2, h3, h4⟩ := runD_spec hr
        have hs := entD_s he
        refine ⟨by simp [h1], by simp only [stAt]; exact hs, by simp only [List.length_cons, stAt]; exact h3, fun k o' hk => ?_⟩
        cases k with
        | zero =>
          simp at hk; subst hk
          exact ⟨e, rfl, by simp only [stAt]; rw [hs]; exact he, by simp only [stAt]; exact h2⟩
        | succ k =>
          obtain ⟨e', he', h5, h6⟩ := h4 k o' (by simpa using hk)
          exact ⟨e', by simpa using he', h5, h6⟩
      · cases h
    · cases h

theorem mem_namedT {t : T DV} {l : List Tmp} {id : Nat} (h : id ∈ namedT t l) : ∃ i d, i ∈ l ∧ t.get i = some d ∧ id ∈ d.ids := by
  simp only [namedT, List.mem_flatMap] at h
  obtain ⟨i, hi, h⟩ := h
  split at h
  · rename_i d hd; exact ⟨i, d, hi, hd, h⟩
  · cases h
theorem mem_namedH {t : T Blk} {l : List Nat} {id : Nat} (h : id ∈ namedH t l) : ∃ i B, i ∈ l ∧ t.get i = some B ∧ (id = i ∨ id ∈ B.ids) := by
  simp only [namedH, List.mem_flatMap] at h
  obtain ⟨i, hi, h⟩ := h
  split at h
  · rename_i B hB; exact ⟨i, B, hi, hB, by simpa using h⟩
  · cases h

end

end Go.Eng

/-
  A region that draws its order: every order.
-/
namespace Go.Eng

section
variable {P : Program} {F : Facts} {call : CallD} {ops : Array Oper}

def drOf (es : List Ent) (z : St) : DR :=
  ⟨stAt es z, fun k => (es[k]?.map (·.r)).getD z, fun k => (es[k]?.map (·.p)).getD z, fun k => (es[k]?.map (·.ids)).getD [], fun k => (es[k]?.map (·.val)).getD true⟩

theorem mem_zipIdx' {α : Type} {l : List α} {i : Nat} {a : α} (ha : l[i]? = some a) : (a, i) ∈ l.zipIdx := by
  rw [List.mem_iff_getElem?]
  exact ⟨i, by simp [ha]⟩

theorem maskL_bit : ∀ {l : List Nat} {i : Nat}, (maskL l).testBit i = true ↔ i ∈ l
  | [], i => by simp [maskL]
  | j :: r, i => by
    simp only [maskL, Nat.testBit_or, Bool.or_eq_true, Nat.testBit_two_pow, decide_eq_true_eq, List.mem_cons, maskL_bit (l := r)]
    exact ⟨fun h => h.imp Eq.symm id, fun h => h.imp Eq.symm id⟩

theorem apart_bit {a b i : Nat} (h : apart a b = true) (ha : a.testBit i = true) : b.testBit i = false := by
  have h0 : Nat.land a b = 0 := Nat.eq_of_beq_eq_true h
  have h1 : (a &&& b).testBit i = false := by rw [show a &&& b = 0 from h0]; simp
  rw [Nat.testBit_and, ha] at h1
  simpa using h1

theorem tb_bit {b i : Nat} (h : tb b i = true) : b.testBit i = true := by
  have h0 : Nat.land 1 (Nat.shiftRight b i) = 1 := Nat.eq_of_beq_eq_true h
  unfold Nat.testBit
  rw [show (1 &&& b >>> i) = 1 from h0]
  rfl

theorem confM_ok {y x : Oper × Ent} {i j : Nat} (h : confM (pmOf ops i y) (pmOf ops j x) = true) : confOk ops y.1 x.1 y.2 x.2 = true := by
  simp only [confM, pmOf, Bool.and_eq_true, Bool.or_eq_true] at h
  obtain ⟨h1, h2, h3⟩ := h
  simp only [confOk, Bool.not_eq_true', Bool.or_eq_false_iff]
  refine ⟨⟨?_, ?_⟩, ?_⟩
  · cases hd : y.1.dst with
    | none => rfl
    | some t =>
      rw [hd] at h1
      have h4 := apart_bit h1 (i := t) (by simp only [bitO, Nat.testBit_two_pow, decide_true])
      change (maskL (x.1.looksAt ops) ||| bitO x.1.dst).testBit t = false at h4
      rw [Nat.testBit_or, Bool.or_eq_false_iff] at h4
      simp only [Bool.or_eq_false_iff]
      refine ⟨?_, ?_⟩
      · rw [← Bool.not_eq_true]
        intro hc
        have := maskL_bit.2 (List.contains_iff_mem.1 hc)
        rw [h4.1] at this; cases this
      · rw [← Bool.not_eq_true]
        intro hc
        have e : x.1.dst = some t := by simpa using hc
        have := h4.2
        rw [e] at this
        simp only [bitO, Nat.testBit_two_pow, decide_true] at this
        cases this
  · cases hd : x.1.dst with
    | none => rfl
    | some t =>
      rw [hd] at h2
      have h4 := apart_bit h2 (i := t) (by simp only [bitO, Nat.testBit_two_pow, decide_true])
      rw [← Bool.not_eq_true]
      intro hc
      have := maskL_bit.2 (List.contains_iff_mem.1 hc)
      rw [h4] at this; cases this
  · rcases h3 with h3 | h3
    · rw [h3.1, h3.2]; rfl
    · rw [← Bool.not_eq_true]
      intro hc
      simp only [Bool.and_eq_true, List.any_eq_true] at hc
      obtain ⟨_, k, hk1, hk2⟩ := hc
      have h4 := apart_bit h3 (maskL_bit.2 hk1)
      have := maskL_bit.2 (List.contains_iff_mem.1 hk2)
      rw [h4] at this; cases this

theorem pairsG_spec : ∀ {l : List (Oper × Ent)} {done : List PM} {k : Nat} {bs : List Nat}, pairsG ops done k bs l = true → ∀ {j : Nat} {x : Oper × Ent}, l[j]? = some x →
    (∀ y ∈ done, (bs.getD j 0).testBit y.ix = true ∨ confM y (pmOf ops (k + j) x) = true) ∧
    ∀ {i : Nat} {y : Oper × Ent}, i < j → l[i]? = some y → (bs.getD j 0).testBit (k + i) = true ∨ confM (pmOf ops (k + i) y) (pmOf ops (k + j) x) = true
  | [], done, k, bs, _, j, x, hx => by simp at hx
  | x0 :: xs, done, k, bs, h, j, x, hx => by
    simp only [pairsG, Bool.and_eq_true, List.all_eq_true, Bool.or_eq_true] at h
    obtain ⟨h1, h2⟩ := h
    cases j with
    | zero =>
      simp at hx; subst hx
      refine ⟨fun y hy => ?_, fun hi => absurd hi (Nat.not_lt_zero _)⟩
      have := h1 y hy
      rw [show bs.headD 0 = bs.getD 0 0 by cases bs <;> rfl] at this
      exact this.imp tb_bit id
    | succ j =>
      have hx' : xs[j]? = some x := by simpa using hx
      obtain ⟨g1, g2⟩ := pairsG_spec h2 hx'
      have eb : bs.tail.getD j 0 = bs.getD (j + 1) 0 := by cases bs <;> simp
      rw [eb, show k + 1 + j = k + (j + 1) by omega] at g1
      refine ⟨fun y hy => g1 y (List.mem_cons_of_mem _ hy), fun {i y} hi hy => ?_⟩
      cases i with
      | zero =>
        simp at hy; subst hy
        exact g1 _ (List.mem_cons_self ..)
      | succ i =>
        have := g2 (i := i) (y := y) (by omega) (by simpa using hy)
        rw [eb, show k + 1 + j = k + (j + 1) by omega, show k + 1 + i = k + (i + 1) by omega] at this
        exact this

theorem pairsOk_spec {bf : List Nat} {l : List (Oper × Ent)} (h : pairsOk ops bf l = true) {i j : Nat} {x y : Oper × Ent} (hij : i < j) (hj : l[j]? = some x) (hi : l[i]? = some y) :
    ahead bf i j = true ∨ confOk ops y.1 x.1 y.2 x.2 = true := by
  have := (pairsG_spec h hj).2 hij hi
  simp only [Nat.zero_add] at this
  exact this.imp id confM_ok

theorem befT_eq : ∀ (r : List Oper) (acc : List Nat) (t : T Nat), (∀ k, (t.get k).getD 0 = acc.getD k 0) → befFrom acc r = acc ++ befT t acc.length r
  | [], acc, t, _ => by simp [befFrom, befT]
  | o :: r, acc, t, h => by
    have hb : bitsT t o = bits acc o := by
      unfold bitsT bits
      congr 1
      funext s e
      rw [h]
    simp only [befFrom, befT]
    rw [befT_eq r (acc ++ [bits acc o]) (t.set acc.length (bits acc o)) (fun k => ?_), hb]
    · simp
    · rw [T.get_set]
      by_cases hk : k = acc.length
      · subst hk
        simp
      · rw [if_neg hk, h]
        by_cases hlt : k < acc.length
        · simp [List.getD_eq_getElem?_getD, List.getElem?_append_left hlt]
        · have h1 : acc.length < k := by omega
          simp [List.getD_eq_getElem?_getD, List.getElem?_append_right (Nat.le_of_lt h1), List.getElem?_eq_none (Nat.le_of_lt h1), show ¬ k - acc.length = 0 by omega]

theorem orderR_spec {md : Region.Mode} : ∀ {l : List Oper} {i : Nat}, orderR md i l = true → ∀ {k : Nat} {o : Oper}, l[k]? = some o → ∀ e ∈ o.after.toList, Region.binds md e = true → e.on < i + k
  | [], i, _, k, o, hk, _, _, _ => by simp at hk
  | o0 :: r, i, h, k, o, hk, e, he, hb => by
    simp only [orderR, Bool.and_eq_true, List.all_eq_true, Bool.or_eq_true, Bool.not_eq_true', decide_eq_true_eq] at h
    cases k with
    | zero =>
      simp at hk; subst hk
      rcases h.1 e he with h1 | h1
      · rw [hb] at h1; cases h1
      · exact h1
    | succ k =>
      have := orderR_spec h.2 (k := k) (o := o) (by simpa using hk) e he hb
      omega

theorem orderR_ok {md : Region.Mode} (h : orderR md 0 ops.toList = true) : orderOk md ops (List.range ops.size) = true := by
  simp only [orderOk, Bool.and_eq_true, List.all_eq_true, decide_eq_true_eq]
  refine ⟨⟨fun i hi => List.mem_range.1 hi, fun i hi => List.contains_iff_mem.2 hi⟩, fun x hx => ?_⟩
  obtain ⟨i, k⟩ := x
  have hik : (List.range ops.size)[k]? = some i := by
    have := List.mem_zipIdx_iff_getElem?.1 hx
    simpa using this
  obtain ⟨hk, e⟩ := List.getElem?_eq_some_iff.1 hik
  simp at hk e
  subst e
  split
  · rename_i o ho
    rw [List.all_eq_true]
    intro e he
    by_cases hb : Region.binds md e = true
    · have hlt := orderR_spec h (k := k) (o := o) (by simpa using ho) e he hb
      rw [hb]
      simp only [Bool.not_true, Bool.false_or]
      refine List.contains_iff_mem.2 ?_
      rw [List.take_range]
      exact List.mem_range.2 (by omega)
    · have hb' : Region.binds md e = false := by simpa using hb
      rw [hb']; rfl
  · rfl

theorem ordersQ_ok {mixed : Bool} (h : ordersQ mixed ops = true) : ordersOk mixed ops = true := by
  unfold ordersQ at h
  unfold ordersOk
  split at h
  · rename_i hc
    rw [if_pos hc]
    exact orderR_ok h
  · rename_i hc
    rw [if_neg hc]
    simp only [Bool.and_eq_true] at h ⊢
    exact ⟨orderR_ok h.1, h.2⟩

theorem contains_iff {l : List Nat} {i : Nat} : l.contains i = true ↔ i ∈ l := by simp

theorem drOf_ok {rd : Bool} {s z : St} {es : List Ent} (hrun : runD P F rd call ops ops.toList s = some (es, z)) (hpairs : pairsOk ops (befFrom [] ops.toList) (ops.toList.zip es) = true) : (drOf es z).Ok P F call ops := by
  obtain ⟨hlen, h0, hn, hall⟩ := runD_spec hrun
  have key : ∀ i o, ops[i]? = some o → ∃ e, es[i]? = some e ∧ e.s = stAt es z i ∧ e.r = entR ops o (stAt es z i) ∧ e.ids = footD (stAt es z i).heap (stAt es z i).tmps o.op ∧ True ∧
      entPre (stAt es z i) (o.looksAt ops) e.ids = true ∧ ((e.val = isVal P F ops o (entR ops o (stAt es z i)) ∧ stepX P F call ops o e.r = some e.p) ∨ (rd = true ∧ e.val = true ∧ ∃ d, rdD P F call ops o e.r = some d ∧ putT e.r o.dst d = some e.p)) ∧ entPost o (stAt es z i) e.p (o.looksAt ops) e.ids e.val = true ∧ stAt es z (i + 1) = nextSt o e := by
    intro i o ho
    obtain ⟨e, he, hd, hnx⟩ := hall i o (by simpa using ho)
    obtain ⟨h1, h2, h3, h4, h5, h7⟩ := entD_spec hd
    exact ⟨e, he, h1, h2, h3, trivial, h5, h4, h7, hnx⟩
  have unf : ∀ {i o e}, ops[i]? = some o → es[i]? = some e → (drOf es z).S i = stAt es z i ∧ (drOf es z).R i = e.r ∧ (drOf es z).P i = e.p ∧ (drOf es z).ids i = e.ids ∧ (drOf es z).val i = e.val := by
    intro i o e _ he; simp [drOf, he]
  have knownIn : ∀ {i o e}, ops[i]? = some o → es[i]? = some e → e.s = stAt es z i → e.r = entR ops o (stAt es z i) → e.ids = footD (stAt es z i).heap (stAt es z i).tmps o.op → entPre (stAt es z i) (o.looksAt ops) e.ids = true → stAt es z (i + 1) = nextSt o e →
      ∀ id, id ∈ range' (stAt es z i).next e.p.next ++ namedT (stAt es z i).tmps (o.looksAt ops) ++ namedH (stAt es z i).heap e.ids → (drOf es z).known i id := by
    intro i o e ho he hs hr hids hpre hnx id hid
    obtain ⟨u1, u2, u3, u4, u5⟩ := unf ho he
    simp only [entPre, Bool.and_eq_true] at hpre
    simp only [List.mem_append] at hid
    rcases hid with (hid | hid) | hid
    · left
      rw [mem_range'] at hid
      refine ⟨by rw [u1]; exact hid.1, ?_⟩
      show id < (stAt es z (i + 1)).next
      rw [hnx]; exact hid.2
    · right; left
      obtain ⟨t, d, ht, hd, hm⟩ := mem_namedT hid
      refine ⟨t, d, ?_, hm⟩
      rw [u2, hr]
      show (restT _ _).get t = some d
      rw [restT_get, if_pos ht]; exact hd
    · right; right
      obtain ⟨x, B, hx, hB, hm⟩ := mem_namedH hid
      refine ⟨x, B, ?_, ?_, hm⟩
      · rw [u2, hr]
        show (restH _ _).get x = some B
        rw [restH_get, if_pos (hids ▸ hx)]; exact hB
      · have := (List.all_eq_true.1 hpre.2.2) x hx
        simp [liveIn, hB] at this; exact this
  have pair : ∀ i j oi oj ei ej, i < j → ops[i]? = some oi → ops[j]? = some oj → es[i]? = some ei → es[j]? = some ej → ahead (befFrom [] ops.toList) i j = true ∨ confOk ops oi oj ei ej = true := by
    intro i j oi oj ei ej hij hi hj hei hej
    have hzj : (ops.toList.zip es)[j]? = some (oj, ej) := by
      rw [List.getElem?_zip_eq_some]; exact ⟨by simpa using hj, hej⟩
    have hzi : (ops.toList.zip es)[i]? = some (oi, ei) := by
      rw [List.getElem?_zip_eq_some]; exact ⟨by simpa using hi, hei⟩
    exact pairsOk_spec hpairs hij hzj hzi
  have footIn : ∀ {i o e}, ops[i]? = some o → es[i]? = some e → stAt es z (i + 1) = nextSt o e → e.s = stAt es z i → ∀ id, (drOf es z).foot i id → id ∈ e.foot := by
    intro i o e ho he hnx hs id hf
    obtain ⟨u1, u2, u3, u4, u5⟩ := unf ho he
    simp only [Ent.foot, List.mem_append]
    rcases hf with hf | hf
    · left; rwa [u4] at hf
    · right
      rw [mem_range', hs]
      refine ⟨by have := hf.1; rwa [u1] at this, ?_⟩
      have h2 : id < (stAt es z (i + 1)).next := hf.2
      rw [hnx] at h2; exact h2
  constructor
  case rt =>
    intro i o ho t
    obtain ⟨e, he, hs, hr, hids, hval, hpre, hst, hpost, hnx⟩ := key i o ho
    obtain ⟨u1, u2, u3, u4, u5⟩ := unf ho he
    rw [u1, u2, hr]
    show (restT _ _).get t = _
    rw [restT_get]
  case rh =>
    intro i o ho id
    obtain ⟨e, he, hs, hr, hids, hval, hpre, hst, hpost, hnx⟩ := key i o ho
    obtain ⟨u1, u2, u3, u4, u5⟩ := unf ho he
    rw [u1, u2, u4, hr, hids]
    show (restH _ _).get id = _
    rw [restH_get]
  case rn =>
    intro i o ho
    obtain ⟨e, he, hs, hr, hids, hval, hpre, hst, hpost, hnx⟩ := key i o ho
    obtain ⟨u1, u2, u3, u4, u5⟩ := unf ho he
    refine ⟨by rw [u1, u2, hr]; rfl, by rw [u1, u2, hr]; rfl, ?_, by rw [u2, hr]; rfl, ?_⟩
    · show (stAt es z (i + 1)).sz = _
      rw [hnx, u1, ← hs]; rfl
    · show (stAt es z (i + 1)).dfs = _
      rw [hnx]; rfl
  case live =>
    intro i o ho id hid
    obtain ⟨e, he, hs, hr, hids, hval, hpre, hst, hpost, hnx⟩ := key i o ho
    obtain ⟨u1, u2, u3, u4, u5⟩ := unf ho he
    rw [u4] at hid
    simp only [entPre, Bool.and_eq_true] at hpre
    have := (List.all_eq_true.1 hpre.2.2) id hid
    unfold liveIn at this
    rw [u1]
    split at this
    · rename_i B hB; exact ⟨B, hB, this⟩
    · cases this
  case scT =>
    intro i o ho t d hd id hid
    obtain ⟨e, he, hs, hr, hids, hval, hpre, hst, hpost, hnx⟩ := key i o ho
    obtain ⟨u1, u2, u3, u4, u5⟩ := unf ho he
    rw [u2, hr] at hd
    have hd' : (restT (stAt es z i).tmps (o.looksAt ops)).get t = some d := hd
    rw [restT_get] at hd'
    split at hd'
    · rename_i hm
      simp only [entPre, Bool.and_eq_true] at hpre
      have := (List.all_eq_true.1 hpre.1) t hm
      simp only [hd'] at this
      have := (List.all_eq_true.1 this) id hid
      rw [u1]; simpa using this
    · cases hd'
  case scB =>
    intro i o ho id B hB
    obtain ⟨e, he, hs, hr, hids, hval, hpre, hst, hpost, hnx⟩ := key i o ho
    obtain ⟨u1, u2, u3, u4, u5⟩ := unf ho he
    rw [u2, hr] at hB
    have hB' : (restH (stAt es z i).heap (footD (stAt es z i).heap (stAt es z i).tmps o.op)).get id = some B := hB
    rw [restH_get] at hB'
    split at hB'
    · rename_i hm
      simp only [entPre, Bool.and_eq_true] at hpre
      have := (List.all_eq_true.1 hpre.2.1) id (hids ▸ hm)
      simp only [hB', Bool.and_eq_true, decide_eq_true_eq] at this
      rw [u1]
      exact ⟨this.1, fun x hx => by simpa using (List.all_eq_true.1 this.2) x hx⟩
    · cases hB'
  case step =>
    intro i o ho hvf
    obtain ⟨e, he, hs, hr, hids, hval, hpre, hst, hpost, hnx⟩ := key i o ho
    obtain ⟨u1, u2, u3, u4, u5⟩ := unf ho he
    rw [u2, u3]
    rcases hst with hst | hst
    · exact hst.2
    · rw [u5, hst.2.1] at hvf; cases hvf
  case vals =>
    intro i o ho hv
    obtain ⟨e, he, hs, hr, hids, hval, hpre, hst, hpost, hnx⟩ := key i o ho
    obtain ⟨u1, u2, u3, u4, u5⟩ := unf ho he
    rw [u5] at hv
    simp only [entPost, Bool.and_eq_true, hv, Bool.not_true, Bool.false_or, decide_eq_true_eq] at hpost
    refine ⟨?_, ?_⟩
    · show (stAt es z (i + 1)).next = _
      rw [hnx, u1]; exact hpost.2.1
    · rw [u2, u3]
      rcases hst with ⟨hval, hst⟩ | ⟨_, _, d, h1, h2⟩
      · refine .inl ⟨hst, ?_⟩
        rw [hr]
        rw [hval] at hv
        unfold isVal at hv
        split at hv
        · rename_i hw; exact .inl hw
        · rename_i hw; exact .inr ⟨hw, Option.isSome_iff_exists.1 hv⟩
        · cases hv
      · exact .inr ⟨d, h1, h2⟩
  case nx =>
    intro i o ho
    obtain ⟨e, he, hs, hr, hids, hval, hpre, hst, hpost, hnx⟩ := key i o ho
    obtain ⟨u1, u2, u3, u4, u5⟩ := unf ho he
    simp only [entPost, Bool.and_eq_true, decide_eq_true_eq] at hpost
    have h1 : (stAt es z (i + 1)).next = e.p.next := by rw [hnx]; rfl
    refine ⟨?_, ?_⟩
    · show _ ≤ (stAt es z (i + 1)).next
      rw [h1, u1]; exact hpost.1
    · show (stAt es z (i + 1)).next = _
      rw [h1, u3]
  case tm =>
    intro i o ho t
    obtain ⟨e, he, hs, hr, hids, hval, hpre, hst, hpost, hnx⟩ := key i o ho
    obtain ⟨u1, u2, u3, u4, u5⟩ := unf ho he
    show (stAt es z (i + 1)).tmps.get t = _
    rw [hnx, u1, u3, ← hs]
    simp only [nextSt]
    cases hdst : o.dst with
    | none => simp
    | some t' =>
      simp only [Option.some.injEq]
      by_cases ht : t = t'
      · subst ht
        rw [if_pos rfl]
        split
        · rename_i d hd; rw [T.get_set, if_pos rfl, hd]
        · rename_i hd; rw [T.get_del, if_pos rfl, hd]
      · rw [if_neg (fun h => ht h.symm)]
        split
        · rw [T.get_set, if_neg ht]
        · rw [T.get_del, if_neg ht]
  case hp =>
    intro i o ho id
    obtain ⟨e, he, hs, hr, hids, hval, hpre, hst, hpost, hnx⟩ := key i o ho
    obtain ⟨u1, u2, u3, u4, u5⟩ := unf ho he
    show (_ → (stAt es z (i + 1)).heap.get id = _) ∧ (_ → (stAt es z (i + 1)).heap.get id = _)
    have hfr : (drOf es z).fresh i id ↔ id ∈ range' e.s.next e.p.next := by
      rw [mem_range', hs]
      show (_ ≤ id ∧ id < (stAt es z (i + 1)).next) ↔ _
      rw [hnx, u1]; rfl
    rw [hnx, u1, u3, ← hs]
    simp only [nextSt]
    cases hv : e.val with
    | true =>
      refine ⟨fun ht => ?_, fun _ => rfl⟩
      have := ht.1; rw [u5, hv] at this; cases this
    | false =>
      simp only [Bool.false_eq_true, if_false]
      rw [copyH_get]
      have hiff : (drOf es z).touched i id ↔ id ∈ e.ids ++ range' e.s.next e.p.next := by
        rw [List.mem_append, ← hfr]
        constructor
        · intro h; rcases h.2 with h | h
          · left; rwa [u4] at h
          · exact .inr h
        · intro h; refine ⟨by rw [u5, hv], ?_⟩
          rcases h with h | h
          · left; rwa [u4]
          · exact .inr h
      refine ⟨fun ht => by rw [if_pos (hiff.1 ht)], fun ht => by rw [if_neg (fun h => ht (hiff.2 h))]⟩
  case outT =>
    intro i o ho t d hdst hd id hid
    obtain ⟨e, he, hs, hr, hids, hval, hpre, hst, hpost, hnx⟩ := key i o ho
    obtain ⟨u1, u2, u3, u4, u5⟩ := unf ho he
    rw [u3] at hd
    simp only [entPost, Bool.and_eq_true] at hpost
    have := hpost.2.2.1
    simp only [outTOk, hdst, hd] at this
    exact knownIn ho he hs hr hids hpre hnx id (contains_iff.1 ((List.all_eq_true.1 this) id hid))
  case outB =>
    intro i o ho id B ht hB x hx
    obtain ⟨e, he, hs, hr, hids, hval, hpre, hst, hpost, hnx⟩ := key i o ho
    obtain ⟨u1, u2, u3, u4, u5⟩ := unf ho he
    rw [u3] at hB
    simp only [entPost, Bool.and_eq_true] at hpost
    have hv := ht.1
    rw [u5] at hv
    have := hpost.2.2.2.1
    rw [hv] at this
    simp only [Bool.false_or, outBOk] at this
    have hm := footIn ho he hnx hs id ht.2
    simp only [Ent.foot] at hm
    rw [hs] at hm
    have := (List.all_eq_true.1 this) id hm
    simp only [hB] at this
    exact knownIn ho he hs hr hids hpre hnx x (contains_iff.1 ((List.all_eq_true.1 this) x hx))
  case newrw =>
    intro i o ho id B hf hB hl
    obtain ⟨e, he, hs, hr, hids, hval, hpre, hst, hpost, hnx⟩ := key i o ho
    obtain ⟨u1, u2, u3, u4, u5⟩ := unf ho he
    rw [u3] at hB
    simp only [entPost, Bool.and_eq_true] at hpost
    have := hpost.2.2.2.2
    simp only [freshOk] at this
    have hm : id ∈ range' (stAt es z i).next e.p.next := by
      rw [mem_range']
      refine ⟨by have := hf.1; rwa [u1] at this, ?_⟩
      have h2 : id < (stAt es z (i + 1)).next := hf.2
      rw [hnx] at h2; exact h2
    have := (List.all_eq_true.1 this) id hm
    simp only [hB, hl, Bool.not_true, Bool.false_or] at this
    exact this
  case confT =>
    intro i j oi oj hij hi hj hc
    obtain ⟨ei, hei, _⟩ := key i oi hi
    obtain ⟨ej, hej, _⟩ := key j oj hj
    refine (pair i j oi oj ei ej hij hi hj hei hej).resolve_right fun h => ?_
    simp only [confOk, Bool.not_eq_true', Bool.or_eq_false_iff] at h
    rcases hc with ⟨t, hd, ht⟩ | ⟨t, hd, ht⟩
    · have := h.1.1
      simp only [hd, Bool.or_eq_false_iff] at this
      rcases ht with ht | ht
      · have h2 := this.1; simp at h2; exact h2 ht
      · have h2 := this.2; rw [ht] at h2; simp at h2
    · have := h.1.2
      simp only [hd] at this
      simp at this; exact this ht
  case confB =>
    intro i j oi oj hij hi hj hv hc
    obtain ⟨ei, hei, hsi, hri, hidsi, hvali, hprei, hsti, hposti, hnxi⟩ := key i oi hi
    obtain ⟨ej, hej, hsj, hrj, hidsj, hvalj, hprej, hstj, hpostj, hnxj⟩ := key j oj hj
    obtain ⟨_, _, _, _, u5i⟩ := unf hi hei
    obtain ⟨_, _, _, _, u5j⟩ := unf hj hej
    refine (pair i j oi oj ei ej hij hi hj hei hej).resolve_right fun h => ?_
    simp only [confOk, Bool.not_eq_true', Bool.or_eq_false_iff] at h
    have h3 := h.2
    obtain ⟨id, hfi, hfj⟩ := hc
    have hmi := footIn hi hei hnxi hsi id hfi
    have hmj := footIn hj hej hnxj hsj id hfj
    have hvv : (!ei.val || !ej.val) = true := by
      rcases hv with hv | hv
      · rw [u5i] at hv; simp [hv]
      · rw [u5j] at hv; simp [hv]
    rw [hvv] at h3
    simp only [Bool.true_and] at h3
    have : (ei.foot.any ej.foot.contains) = true := List.any_eq_true.2 ⟨id, hmi, contains_iff.2 hmj⟩
    rw [this] at h3; cases h3

end

end Go.Eng

/-
  Every order of a region; the symbolic machine whole.
-/
namespace Go.Eng

section
variable {P : Program} {F : Facts} {call : CallD} {ops : Array Oper}

def doneL (listed : Array Bool) (i : Nat) : Prop := listed.getD i false = true

theorem getD_true {listed : Array Bool} {j : Nat} : listed.getD j true = false ↔ j < listed.size ∧ ¬ doneL listed j := by
  unfold doneL
  rw [Array.getD_eq_getD_getElem?, Array.getD_eq_getD_getElem?]
  by_cases h : j < listed.size
  · simp [h]
  · simp [h]

theorem binds_any {md : Region.Mode} {e : Edge} (h : Region.binds .any e = true) : Region.binds md e = true := by
  unfold Region.binds at *
  split at h <;> simp_all

/-- Where nothing is ready, all is done. -/
theorem all_done {md : Region.Mode} {l : List Nat} (hl : orderOk md ops l = true) {listed : Array Bool} (hs : listed.size = ops.size) (hr : Region.ready md ops listed = []) : ∀ i, i < ops.size → doneL listed i := by
  simp only [orderOk, Bool.and_eq_true] at hl
  obtain ⟨⟨h0, h1⟩, h2⟩ := hl
  have key : ∀ (k : Nat) (i : Nat), l[k]? = some i → i < ops.size → doneL listed i := by
    intro k
    induction k using Nat.strongRecOn with
    | _ k ih =>
      intro i hi hlt
      apply Classical.byContradiction
      intro hn
      obtain ⟨o, ho⟩ := getlt hlt
      have h3 := (List.all_eq_true.1 h2) (i, k) (mem_zipIdx' hi)
      simp only [ho] at h3
      have : i ∈ Region.ready md ops listed := mem_ready.2 ⟨getD_true.2 ⟨by omega, hn⟩, o, ho, fun e hem hb => by
        have h4 := (List.all_eq_true.1 h3) e (by simpa using hem)
        simp only [hb, Bool.not_true, Bool.false_or] at h4
        have h5 := contains_iff.1 h4
        obtain ⟨p, hp⟩ := List.mem_iff_getElem?.1 h5
        rw [List.getElem?_take] at hp
        split at hp
        · rename_i hpk
          by_cases hsz : e.on < ops.size
          · exact ih p hpk e.on hp hsz
          · exfalso
            -- an edge to no operation: it is never done
            exact absurd ((List.all_eq_true.1 h0) e.on (List.mem_iff_getElem?.2 ⟨p, hp⟩)) (by simpa using hsz)
        · cases hp⟩
      rw [hr] at this; cases this
  intro i hi
  have := (List.all_eq_true.1 h1) i (by simp [hi])
  obtain ⟨k, hk⟩ := List.mem_iff_getElem?.1 (contains_iff.1 this)
  exact key k i hk hi

theorem doneL_set {listed : Array Bool} {j : Nat} (hj : j < listed.size) (i : Nat) : doneL (listed.setIfInBounds j true) i ↔ doneL listed i ∨ i = j := by
  unfold doneL
  rw [Array.getD_eq_getD_getElem?, Array.getD_eq_getD_getElem?]
  by_cases h : i = j
  · subst h; simp [hj]
  · rw [Array.getElem?_setIfInBounds_ne (fun e => h e.symm)]; simp [h]

theorem dinv_congr {D : DR} {ρ : Env} {m0 m : Emb} {w0 w : World} {a : Act} {L L' : Nat → Prop} (h : ∀ i, L i ↔ L' i) (I : DInv D ops ρ m0 w0 L m a w) : DInv D ops ρ m0 w0 L' m a w := by
  have : L = L' := funext fun i => propext (h i)
  rw [← this]; exact I

theorem anyOrder (hcall : CallOk P F call) {ρ : Env} (hF : F.ok ρ) {D : DR} (hD : D.Ok P F call ops) {md : Region.Mode} {l : List Nat} (he : orderOk md ops l = true) {m0 : Emb} {w0 : World} {Q : Exit → Act → World → Prop}
    (hQ : ∀ m a w, DInv D ops ρ m0 w0 (fun i => i < ops.size) m a w → Q .normal a w) :
    ∀ (fuel : Nat) (listed : Array Bool) (m : Emb) (a : Act) (w : World), listed.size = ops.size → ops.size ≤ fuel + (List.range ops.size).countP (fun i => listed.getD i false) → DInv D ops ρ m0 w0 (doneL listed) m a w → wpAny P md ops Q fuel listed a w := by
  have fin : ∀ (listed : Array Bool) (m : Emb) (a : Act) (w : World), listed.size = ops.size → Region.ready md ops listed = [] → DInv D ops ρ m0 w0 (doneL listed) m a w → Q .normal a w := by
    intro listed m a w hs hr I
    have hall := all_done he hs hr
    exact hQ m a w (dinv_congr (fun i => ⟨I.lt i, hall i⟩) I)
  intro fuel
  induction fuel with
  | zero =>
    intro listed m a w hs hc I
    have hr : Region.ready md ops listed = [] := by
      have hle := List.countP_le_length (p := fun i => listed.getD i false) (l := List.range ops.size)
      simp only [List.length_range] at hle
      have hcnt : (List.range ops.size).countP (fun i => listed.getD i false) = (List.range ops.size).length := by rw [List.length_range]; omega
      have hall := List.countP_eq_length.1 hcnt
      cases hrd : Region.ready md ops listed with
      | nil => rfl
      | cons x xs =>
        have hx : x ∈ Region.ready md ops listed := by rw [hrd]; simp
        obtain ⟨h1, o, ho, _⟩ := mem_ready.1 hx
        have hxs : x < ops.size := (Array.getElem?_eq_some_iff.1 ho).1
        exact absurd (hall x (by simp [hxs])) (getD_true.1 h1).2
    exact ⟨hr, fin listed m a w hs hr I⟩
  | succ fuel ih =>
    intro listed m a w hs hc I
    refine ⟨fun hr => fin listed m a w hs hr I, fun j hj => ?_⟩
    obtain ⟨h1, o, ho, hall⟩ := mem_ready.1 hj
    obtain ⟨hjs, hjn⟩ := getD_true.1 h1
    have hjo : j < ops.size := by omega
    have hset := doneL_set (listed := listed) hjs
    have := dstep hcall hF hD I ho hjn (fun e hem hb => hall e hem (binds_any hb)) (Q := Q) (K := wpAny P md ops Q fuel (listed.setIfInBounds j true)) (fun m' a' w' I' => by
      refine ih _ m' a' w' (by simpa using hs) ?_ (dinv_congr (fun i => (hset i).symm) I')
      have hcnt : (List.range ops.size).countP (fun i => (listed.setIfInBounds j true).getD i false) = (List.range ops.size).countP (fun i => listed.getD i false) + 1 := by
        have gen : ∀ n, n ≤ ops.size → (List.range n).countP (fun i => (listed.setIfInBounds j true).getD i false) = (List.range n).countP (fun i => listed.getD i false) + (if j < n then 1 else 0) := by
          intro n
          induction n with
          | zero => intro _; simp
          | succ n ihn =>
            intro hn
            rw [List.range_succ, List.countP_append, List.countP_append, ihn (by omega)]
            by_cases hjn' : n = j
            · subst hjn'
              have e1 : (listed.setIfInBounds n true).getD n false = true := (hset n).2 (.inr rfl)
              have e2 : listed.getD n false = false := by
                cases hh : listed.getD n false with
                | false => rfl
                | true => exact absurd hh hjn
              have c1 : [n].countP (fun i => (listed.setIfInBounds n true).getD i false) = 1 := by rw [List.countP_cons, List.countP_nil]; simp only [e1, if_true]
              have c2 : [n].countP (fun i => listed.getD i false) = 0 := by rw [List.countP_cons, List.countP_nil]; simp only [e2, Bool.false_eq_true, if_false]
              rw [c1, c2, if_neg (Nat.lt_irrefl n), if_pos (Nat.lt_succ_self n)]
            · have e1 : (listed.setIfInBounds j true).getD n false = listed.getD n false := getD_set_ne (d := false) (fun e => hjn' e.symm)
              have c1 : [n].countP (fun i => (listed.setIfInBounds j true).getD i false) = [n].countP (fun i => listed.getD i false) := by
                rw [List.countP_cons, List.countP_cons, List.countP_nil, List.countP_nil]; simp only [e1]
              rw [c1]
              generalize [n].countP (fun i => listed.getD i false) = c
              by_cases hlt : j < n
              · rw [if_pos hlt, if_pos (by omega)]; omega
              · rw [if_neg hlt, if_neg (by omega)]; omega
        rw [gen ops.size (Nat.le_refl _), if_pos hjo]
      omega)
    unfold wpOp
    simp only [ho]
    exact this

/-- The same where nothing is deferred. -/
def DrawOk0 (P : Program) (F : Facts) (draw : Array Oper → St → Option St) : Prop :=
  ∀ ops st st', draw ops st = some st' → st.dfs = [] → ∀ ρ, F.ok ρ → ∀ m a w, Rep m ρ st a w → ∀ (K : Act → World → Prop), StepPost m ρ st st' w K → RegW P ops K a w

theorem drawX_ok (hcall : CallOk P F call) : DrawOk0 P F (drawX P F call) := by
  intro ops st st' h hd0 ρ hF m a w hR K hK
  have ha0 : a.defers = [] := by
    have := hR.dfs
    rw [hd0] at this; exact this
  unfold drawX at h
  split at h
  · rename_i hcq
    have hc := ordersQ_ok hcq
    obtain ⟨rd, h⟩ : ∃ rd, drawR P F rd call ops st = some st' := by
      split at h
      · rename_i z hz; cases h; exact ⟨_, hz⟩
      · exact ⟨_, h⟩
    unfold drawR at h
    split at h
    · rename_i es z hrun
      split at h
      · rename_i hpq
        have hp : pairsOk ops (befFrom [] ops.toList) (ops.toList.zip es) = true := by
          rw [befT_eq ops.toList [] .nil (fun k => by simp [T.get])]
          exact hpq
        cases h
        have hD := drOf_ok hrun hp
        obtain ⟨hlen, h0, hn, hall⟩ := runD_spec hrun
        have hS0 : (drOf es st').S 0 = st := h0
        have hSn : (drOf es st').S ops.size = st' := by
          have h2 := hn
          rw [Array.length_toList] at h2; exact h2
        have hdn : st'.dfs = [] := by
          rw [← hSn]
          cases hsz : ops.size with
          | zero => rw [hS0]; exact hd0
          | succ k =>
            have hlt : k < ops.size := by omega
            exact (hD.rn k ops[k] (Array.getElem?_eq_getElem hlt)).2.2.2.2
        refine fun t => ?_
        have key : ∀ (md : Region.Mode) (l : List Nat), orderOk md ops l = true → wpAny P md ops (nQ K) ops.size (Array.replicate ops.size false) a { w with drawn := w.drawn + 1 } := fun md l hord => by
         have key := anyOrder (P := P) (F := F) (ops := ops) hcall hF hD hord (m0 := m) (w0 := { w with drawn := w.drawn + 1 }) (Q := nQ K) (fun m' a' w' I => by
          have cons : ∀ x, (drOf es st').Cons ops.size (fun i => i < ops.size) ops.size x := fun x i hi _ => ⟨fun _ => hi, fun _ => hi⟩
          have consT : ∀ t, DR.ConsT ops (fun i => i < ops.size) ops.size t := fun t i o ho _ => ⟨fun h => h, fun h => h⟩
          refine ⟨rfl, hK a' w' m' ⟨⟨fun t d hd => I.tm ops.size (Nat.le_refl _) t d (by rw [hSn]; exact hd) (consT t)⟩, ?_, ⟨fun x B hB hl => I.bl ops.size (Nat.le_refl _) x B (by rw [hSn]; exact hB) hl (cons x), fun x x' B B' b hB hB' hrw hl hi hi' => I.inj ops.size ops.size (Nat.le_refl _) (Nat.le_refl _) x x' B B' b (by rw [hSn]; exact hB) (by rw [hSn]; exact hB') (cons x) (cons x') hrw hl hi hi'⟩, fun x hx => I.un' x (by rw [hSn]; exact hx), by rw [hdn]; exact I.defers⟩ ?_⟩
          · have h3 := sz_all hD (Nat.le_refl ops.size)
            rw [hSn] at h3; rw [I.size]; exact h3.symm
          · exact ⟨I.ext, I.grow, fun b hb hnf => I.frame b hb (by rw [hS0]; exact hnf), fun b ⟨x, B, hB, hrw, hx⟩ => by
              have := I.fp ops.size (Nat.le_refl _) x B b (by rw [hSn]; exact hB) hrw (cons x) hx
              rw [hS0] at this; exact this, I.tape, I.os, I.output⟩)
         refine key ops.size (Array.replicate ops.size false) m a { w with drawn := w.drawn + 1 } (by simp) (by omega) ?_
         have hno : ∀ i, ¬ doneL (Array.replicate ops.size false) i := by
           intro i; unfold doneL
           rw [Array.getD_eq_getD_getElem?]
           by_cases h : i < ops.size <;> simp [h]
         have back : ∀ k x, k ≤ ops.size → (drOf es st').Cons ops.size (doneL (Array.replicate ops.size false)) k x → ((drOf es st').S k).heap.get x = st.heap.get x := by
           intro k x hk hc'
           rw [← hS0]
           refine heap_stay hD (Nat.zero_le _) hk fun i _ hik ht => hno i ((hc' i (by omega) ht).1 hik)
         have backT : ∀ k t, k ≤ ops.size → DR.ConsT ops (doneL (Array.replicate ops.size false)) k t → ((drOf es st').S k).tmps.get t = st.tmps.get t := by
           intro k t hk hc'
           rw [← hS0]
           refine tmps_stay hD (Nat.zero_le _) hk fun i o _ hik ho hd => hno i ((hc' i o ho hd).1 hik)
         exact {
           lt := fun i h => absurd h (hno i)
           closed := fun i o h => absurd h (hno i)
           size := by rw [hS0]; exact hR.size
           defers := ha0
           tm := fun k hk t d hd hc' => by rw [backT k t hk hc'] at hd; exact hR.tmps.get t d hd
           bl := fun k hk x B hB hl hc' => by rw [back k x hk hc'] at hB; exact hR.heap.blk x B hB hl
           inj := fun k k' hk hk' x x' B B' b hB hB' hc1 hc2 hrw hl hi hi' => by
             rw [back k x hk hc1] at hB; rw [back k' x' hk' hc2] at hB'
             exact hR.heap.inj x x' B B' b hB hB' hrw hl hi hi'
           un := fun i hi _ x hx => hR.fresh x (by
             have h1 := next_mono hD (i := 0) (k := i) (Nat.zero_le _) (by omega)
             rw [hS0] at h1
             exact Nat.le_trans h1 hx.1)
           un' := fun x hx => hR.fresh x (by
             have h1 := next_mono hD (i := 0) (k := ops.size) (Nat.zero_le _) (Nat.le_refl _)
             rw [hS0] at h1
             exact Nat.le_trans h1 hx)
           ext := Emb.le_refl m
           grow := Nat.le_refl _
           frame := fun b _ _ => rfl
           fp := fun k hk x B b hB hrw hc' hi => by
             rw [back k x hk hc'] at hB
             rw [hS0]; exact .inl ⟨x, B, hB, hrw, hi⟩
           tape := rfl
           os := rfl
           output := rfl }
        have hord := hc
        unfold ordersOk at hord
        unfold Region.schedule Region.linearise
        split at hord
        · rename_i hdep
          rw [if_pos hdep]
          exact wpAny_sound ops.size _ _ a _ (key .any _ hord)
        · rename_i hdep
          rw [if_neg hdep]
          simp only [Bool.and_eq_true] at hord
          split
          · exact wpAny_sound ops.size _ _ a _ (key .text _ hord.1)
          · exact wpAny_sound ops.size _ _ a _ (key .gc _ hord.2)
      · cases h
    · cases h
  · cases h

end

end Go.Eng

/-
  A small region that draws its order: every order is run, and all come to one state.
-/
namespace Go.Eng

mutual
/-- Does it stand for one value alone? -/
def DV.det : DV → Bool
  | .mt => false
  | .anyi => false
  | .agg l => DV.detL l
  | .tup l => DV.detL l
  | .ifc _ v => DV.det v
  | .fn _ a c => DV.detL a && DV.detL c
  | _ => true
def DV.detL : List DV → Bool
  | [] => true
  | d :: r => DV.det d && DV.detL r
end

mutual
theorem DV.det_eq {m : Emb} {ρ : Env} : ∀ {d : DV} {v u : Value}, d.det = true → d.R m ρ v → d.R m ρ u → v = u
  | .int _ _, v, u, _, h, g => by simp only [DV.R] at h g; rw [h, g]
  | .bool _, v, u, _, h, g => by simp only [DV.R] at h g; rw [h, g]
  | .str _, v, u, _, h, g => by simp only [DV.R] at h g; rw [h, g]
  | .ptr _ _, v, u, _, h, g => by
    simp only [DV.R] at h g
    obtain ⟨b, hb, rfl⟩ := h
    obtain ⟨c, hc, rfl⟩ := g
    rw [hb] at hc; cases hc; rfl
  | .nilp, v, u, _, h, g => by simp only [DV.R] at h g; rw [h, g]
  | .gptr _ _, v, u, _, h, g => by simp only [DV.R] at h g; rw [h, g]
  | .slc _ _ _ _, v, u, _, h, g => by
    simp only [DV.R] at h g
    obtain ⟨b, hb, rfl, _⟩ := h
    obtain ⟨c, hc, rfl, _⟩ := g
    rw [hb] at hc; cases hc; rfl
  | .nils, v, u, _, h, g => by simp only [DV.R] at h g; rw [h, g]
  | .mt, _, _, hd, _, _ => by simp [DV.det] at hd
  | .agg l, v, u, hd, h, g => by
    simp only [DV.R] at h g
    obtain ⟨x, rfl, hx⟩ := h
    obtain ⟨y, rfl, hy⟩ := g
    have := DV.detL_eq (by simpa [DV.det] using hd) hx hy
    rw [Array.toList_inj.1 this]
  | .tup l, v, u, hd, h, g => by
    simp only [DV.R] at h g
    obtain ⟨x, rfl, hx⟩ := h
    obtain ⟨y, rfl, hy⟩ := g
    have := DV.detL_eq (by simpa [DV.det] using hd) hx hy
    rw [Array.toList_inj.1 this]
  | .ifc t d, v, u, hd, h, g => by
    simp only [DV.R] at h g
    obtain ⟨x, rfl, hx⟩ := h
    obtain ⟨y, rfl, hy⟩ := g
    rw [DV.det_eq (by simpa [DV.det] using hd) hx hy]
  | .nili, v, u, _, h, g => by simp only [DV.R] at h g; rw [h, g]
  | .fn f a c, v, u, hd, h, g => by
    simp only [DV.det, Bool.and_eq_true] at hd
    simp only [DV.R] at h g
    obtain ⟨x, y, rfl, h1, h2⟩ := h
    obtain ⟨x', y', rfl, g1, g2⟩ := g
    rw [Array.toList_inj.1 (DV.detL_eq hd.1 h1 g1), Array.toList_inj.1 (DV.detL_eq hd.2 h2 g2)]
  | .nilf, v, u, _, h, g => by simp only [DV.R] at h g; rw [h, g]
  | .mp _, v, u, _, h, g => by
    simp only [DV.R] at h g
    obtain ⟨b, hb, rfl⟩ := h
    obtain ⟨c, hc, rfl⟩ := g
    rw [hb] at hc; cases hc; rfl
  | .nilm, v, u, _, h, g => by simp only [DV.R] at h g; rw [h, g]
  | .yld i, v, u, _, h, g => by
    simp only [DV.R] at h g
    obtain ⟨b, hb, rfl⟩ := h
    obtain ⟨b', hb', rfl⟩ := g
    rw [hb] at hb'; cases hb'; rfl
theorem DV.detL_eq {m : Emb} {ρ : Env} : ∀ {d : List DV} {v u : List Value}, DV.detL d = true → DV.RL m ρ d v → DV.RL m ρ d u → v = u
  | [], v, u, _, h, g => by simp only [DV.RL] at h g; rw [h, g]
  | a :: r, v, u, hd, h, g => by
    simp only [DV.detL, Bool.and_eq_true] at hd
    simp only [DV.RL] at h g
    obtain ⟨x, xs, rfl, h1, h2⟩ := h
    obtain ⟨y, ys, rfl, g1, g2⟩ := g
    rw [DV.det_eq hd.1 h1 g1, DV.detL_eq hd.2 h2 g2]
end

section
variable (P : Program) (F : Facts)

/-- An operation that looks at no memory, and has nothing to do with those that may be done beside it: it may go first. -/
def okFree (md : Region.Mode) (ops : Array Oper) (listed : Array Bool) (st : St) (j : Nat) : Bool := match ops[j]? with
  | some o => (match wantD F ops st o with
    | some true => (match valD P F .nil st.tmps o.op with | some d => d.det | none => false)
    | some false => true
    | none => false) && Region.free md ops listed j
  | none => false

def stepI (call : CallD) (ops : Array Oper) (i : Nat) (st : St) : Option St := match ops[i]? with
  | some o => stepX P F call ops o st
  | none => some st

/-- The step of an operation that looks at no memory. -/
def stepN (ops : Array Oper) (j : Nat) (st : St) : Option St := match ops[j]? with
  | some o => (match wantD F ops st o with
    | some true => (match valD P F .nil st.tmps o.op with | some d => putT st o.dst d | none => none)
    | _ => putT st o.dst (.tup []))
  | none => none

def allX (call : CallD) (md : Region.Mode) (ops : Array Oper) : Nat → Array Bool → St → Option St
  | 0, listed, st => if (Region.ready md ops listed).isEmpty then some st else none
  | fuel + 1, listed, st => match Region.ready md ops listed with
    | [] => some st
    | j :: r => match (j :: r).find? (okFree P F md ops listed st) with
      | some i => (match stepN P F ops i st with
        | some st1 => allX call md ops fuel (listed.setIfInBounds i true) st1
        | none => none)
      | none => match stepI P F call ops j st with
        | some st1 => match allX call md ops fuel (listed.setIfInBounds j true) st1 with
          | some z => if r.all (fun i => match stepI P F call ops i st with
              | some st2 => (match allX call md ops fuel (listed.setIfInBounds i true) st2 with | some z' => z'.eqv z | none => false)
              | none => false) then some z else none
          | none => none
        | none => none

def allO (call : CallD) (ops : Array Oper) (s : St) : Option St :=
  if Region.noSelect ops then
    if P.follows .mixedOrders || !Region.departs ops then allX P F call .any ops ops.size (Array.replicate ops.size false) s
    else match allX P F call .text ops ops.size (Array.replicate ops.size false) s, allX P F call .gc ops ops.size (Array.replicate ops.size false) s with
      | some a, some b => if a.eqv b then some a else none
      | _, _ => none
  else none

/-- The blocks that a region's operations come to. -/
def regionIds (h : T Blk) (t : T DV) (ops : Array Oper) : List Nat :=
  reach h 2000 (ops.toList.flatMap fun o => o.op.operands.toList.flatMap fun x => opIds t x ++ gIds h t x) []

/-- The same over these blocks alone. -/
def allZ (call : CallD) (ops : Array Oper) (s : St) : Option St :=
  let I := regionIds s.heap s.tmps ops ++ regIds s.heap
  match allO P F call ops ⟨s.tmps, restH s.heap I, s.next, s.sz, []⟩ with
  | some p => if p.dfs.isEmpty && (decide (s.next ≤ p.next) && ((I.all fun i => match p.heap.get i with | some B => !B.live || liveIn s.heap i | none => true) && ((I.all fun i => decide (i < s.next)) && freshOk p (range' s.next p.next)))) then
      some ⟨p.tmps, copyH p.heap (I ++ range' s.next p.next) s.heap, p.next, p.sz, []⟩ else none
  | none => none

def drawZ (call : CallD) (ops : Array Oper) (s : St) : Option St :=
  match drawX P F call ops s with
  | some z => some z
  | none => if ops.size ≤ 24 then allZ P F call ops s else none

/-- What is deferred is laid aside. -/
def drawY (call : CallD) (ops : Array Oper) (s : St) : Option St := match s.dfs with
  | [] => (match drawZ P F call ops s with
    | some z => if z.dfs.isEmpty then some z else none
    | none => none)
  | ds => (match drawZ P F call ops { s with dfs := [] } with
    | some z => if z.dfs.isEmpty then some { z with dfs := ds } else none
    | none => none)

variable {P} {F}

theorem stepI_wp {call : CallD} (hcall : CallOk P F call) {ρ : Env} (hF : F.ok ρ) {ops : Array Oper} {Q : Exit → Act → World → Prop} {i : Nat} {st st1 : St} (h : stepI P F call ops i st = some st1) {m : Emb} {a : Act} {w : World} (hR : Rep m ρ st a w)
    {K : Act → World → Prop} (hK : ∀ a' w' m', Rep m' ρ st1 a' w' → Trans m st.heap w m' st1.heap w' → K a' w') : wpOp P ops Q i K a w := by
  unfold stepI at h
  unfold wpOp
  split at h
  · rename_i o ho
    simp only [ho]
    exact stepX_sound hcall hF h hR fun v w' m' hR' hT => hK _ _ _ hR' hT
  · rename_i ho
    simp only [ho]
    cases h
    exact hK _ _ _ hR (Trans.refl _ _ _)

theorem heapR_nil (m : Emb) (ρ : Env) (w : World) : HeapR m ρ .nil w := ⟨fun id B h => by simp at h, fun id id' B B' b h => by simp at h⟩

theorem okFree_yields {ρ : Env} (hF : F.ok ρ) {md : Region.Mode} {ops : Array Oper} {listed : Array Bool} {st st1 : St} {j : Nat} (h : okFree P F md ops listed st j = true) (hs : stepN P F ops j st = some st1) {m : Emb} {a : Act} {w : World} (hR : Rep m ρ st a w) :
    ∃ o v, ops[j]? = some o ∧ Region.free md ops listed j = true ∧ Yields P ops o v a ∧ Rep m ρ st1 (a.put o.dst v) w ∧ st1.heap = st.heap := by
  unfold okFree at h
  unfold stepN at hs
  split at h
  · rename_i o ho
    rw [ho] at hs
    simp only at hs
    simp only [Bool.and_eq_true] at h
    obtain ⟨h, hfree⟩ := h
    split at h
    · rename_i hw
      rw [hw] at hs
      simp only at hs
      split at h
      · rename_i d hd
        rw [hd] at hs
        simp only at hs
        have hall : ∀ w', ∃ v, (execOp a.eval o).run P w' = .ok (.value v) w' ∧ d.R m ρ v := fun w' => valD_sound hF (heapR_nil m ρ w') hR.tmps hd
        obtain ⟨v, hv, hr⟩ := hall w
        obtain ⟨r1, r2, r3⟩ := rep_put hR hr hs
        refine ⟨o, v, ho, hfree, .inl ⟨wantD_spec hF hR hw, fun w' => ?_⟩, r1, r2⟩
        obtain ⟨u, hu, hru⟩ := hall w'
        rw [hu, DV.det_eq h hru hr]
      · cases h
    · rename_i hw
      rw [hw] at hs
      simp only at hs
      obtain ⟨r1, r2, r3⟩ := rep_put hR (d := .tup []) (v := undef) (by simp [DV.R, DV.RL, undef]) hs
      exact ⟨o, undef, ho, hfree, .inr ⟨wantD_spec hF hR hw, rfl⟩, r1, r2⟩
    · cases h
  · cases h

theorem allX_sound {call : CallD} (hcall : CallOk P F call) {ρ : Env} (hF : F.ok ρ) {md : Region.Mode} {ops : Array Oper} (hns : Region.noSelect ops = true) {Q : Exit → Act → World → Prop} (hQ : ∀ c a w, ¬ Q (.panic c) a w) :
    ∀ (fuel : Nat) {listed : Array Bool} {st z : St}, allX P F call md ops fuel listed st = some z → ∀ {m : Emb} {a : Act} {w : World}, Rep m ρ st a w → StepPost m ρ st z w (Q .normal) → wpAny P md ops Q fuel listed a w
  | 0, listed, st, z, h, m, a, w, hR, hK => by
    simp only [allX] at h
    split at h
    · rename_i he
      cases h
      exact ⟨List.isEmpty_iff.1 he, hK _ _ _ hR (Trans.refl _ _ _)⟩
    · cases h
  | fuel + 1, listed, st, z, h, m, a, w, hR, hK => by
    simp only [allX] at h
    split at h
    · rename_i hr
      cases h
      refine ⟨fun _ => hK _ _ _ hR (Trans.refl _ _ _), fun i hi => ?_⟩
      rw [hr] at hi; cases hi
    · rename_i j r hr
      split at h
      · rename_i i hi
        split at h
        · rename_i st1 hs
          have hok := List.find?_some hi
          have hmem := List.mem_of_find?_eq_some hi
          obtain ⟨o, v, ho, hfree, hy, hR1, he⟩ := okFree_yields hF hok hs hR
          refine wpAny_take ho hns hfree (by rw [hr]; simpa using hmem) (fun c a w hc => absurd hc (hQ c _ w)) hy ?_
          exact allX_sound hcall hF hns hQ fuel h hR1 fun a2 w2 m2 hR2 hT2 => hK _ _ _ hR2 (by rw [he] at hT2; exact hT2)
        · cases h
      · split at h
        · rename_i st1 h1
          split at h
          · rename_i z1 h2
            split at h
            · rename_i hall
              cases h
              refine ⟨fun h0 => (by rw [hr] at h0; cases h0), fun i hi => ?_⟩
              rw [hr] at hi
              rcases List.mem_cons.1 hi with rfl | hi
              · exact stepI_wp hcall hF h1 hR fun a1 w1 m1 hR1 hT1 => allX_sound hcall hF hns hQ fuel h2 hR1 fun a2 w2 m2 hR2 hT2 => hK _ _ _ hR2 (hT1.trans hT2)
              · have h3 := (List.all_eq_true.1 hall) i hi
                split at h3
                · rename_i st2 hs2
                  split at h3
                  · rename_i z' hz'
                    have e := St.eqv_eq h3
                    subst e
                    exact stepI_wp hcall hF hs2 hR fun a1 w1 m1 hR1 hT1 => allX_sound hcall hF hns hQ fuel hz' hR1 fun a2 w2 m2 hR2 hT2 => hK _ _ _ hR2 (hT1.trans hT2)
                  · cases h3
                · cases h3
            · cases h
          · cases h
        · cases h

theorem allO_ok {call : CallD} (hcall : CallOk P F call) {ops : Array Oper} {st st' : St} (h : allO P F call ops st = some st') {ρ : Env} (hF : F.ok ρ) {m : Emb} {a : Act} {w : World} (hR : Rep m ρ st a w) {K : Act → World → Prop}
    (hK : StepPost m ρ st st' w K) : RegW P ops K a w := by
  unfold allO at h
  split at h
  · rename_i hns
    refine fun t => ?_
    have hR' : Rep m ρ st a { w with drawn := w.drawn + 1 } := ⟨hR.tmps, hR.size, ⟨hR.heap.blk, hR.heap.inj⟩, hR.fresh, hR.dfs⟩
    have hQ : ∀ c a w, ¬ nQ K (.panic c) a w := fun c a w h => by cases h.1
    have hK' : StepPost m ρ st st' { w with drawn := w.drawn + 1 } (nQ K .normal) := fun a' w' m' hR2 hT => ⟨rfl, hK a' w' m' hR2 ⟨hT.ext, hT.size, hT.frame, hT.fp, hT.tape, hT.os, hT.output⟩⟩
    unfold Region.schedule Region.linearise
    split at h
    · rename_i hd
      rw [if_pos hd]
      exact wpAny_sound ops.size _ _ a _ (allX_sound hcall hF hns hQ _ h hR' hK')
    · rename_i hd
      rw [if_neg hd]
      split at h
      · rename_i x y hx hy
        split at h
        · rename_i hxy
          cases h
          have e := St.eqv_eq hxy
          subst e
          split
          · exact wpAny_sound ops.size _ _ a _ (allX_sound hcall hF hns hQ _ hx hR' hK')
          · exact wpAny_sound ops.size _ _ a _ (allX_sound hcall hF hns hQ _ hy hR' hK')
        · cases h
      · cases h
  · cases h

/-- What is known of other blocks stays known. -/
theorem frame_ok {ρ : Env} {m m' : Emb} {s p : St} {I : List Nat} {w w' : World} {a a' : Act} (hR : Rep m ρ s a w) (_ : s.next ≤ p.next)
    (hI : ∀ i ∈ I, ∀ B, p.heap.get i = some B → B.live = true → liveIn s.heap i = true) (_ : ∀ i ∈ I, i < s.next) (hfr : freshOk p (range' s.next p.next) = true)
    (hR' : Rep m' ρ p a' w') (hpd : p.dfs = []) (hT : Trans m (restH s.heap I) w m' p.heap w') :
    Rep m' ρ ⟨p.tmps, copyH p.heap (I ++ range' s.next p.next) s.heap, p.next, p.sz, []⟩ a' w' ∧ Trans m s.heap w m' (copyH p.heap (I ++ range' s.next p.next) s.heap) w' := by
  have hget : ∀ id B, (copyH p.heap (I ++ range' s.next p.next) s.heap).get id = some B → (id ∈ I ++ range' s.next p.next ∧ p.heap.get id = some B) ∨ (id ∉ I ++ range' s.next p.next ∧ s.heap.get id = some B) := by
    intro id B h
    rw [copyH_get] at h
    split at h
    · rename_i hm; exact .inl ⟨hm, h⟩
    · rename_i hm; exact .inr ⟨hm, h⟩
  have hfpR : ∀ b, Fp m (restH s.heap I) b → ∃ id B, id ∈ I ∧ s.heap.get id = some B ∧ B.rw = true ∧ m.ι id = some b := by
    rintro b ⟨id, B, hB, hrw, hb⟩
    rw [restH_get] at hB
    split at hB
    · rename_i hm; exact ⟨id, B, hm, hB, hrw, hb⟩
    · cases hB
  -- a block that was known and lies outside
  have hold : ∀ id B b, id ∉ I ++ range' s.next p.next → s.heap.get id = some B → B.live = true → m.ι id = some b → ¬ Fp m (restH s.heap I) b := by
    intro id B b hm hB hl hb hf
    obtain ⟨id', B', hm', hB', hrw', hb'⟩ := hfpR b hf
    have := hR.heap.inj id' id B' B b hB' hB hrw' hl hb' hb
    subst this
    exact hm (List.mem_append_left _ hm')
  have hlive : ∀ id B, id ∈ I ++ range' s.next p.next → p.heap.get id = some B → B.live = true → (id ∈ I ∧ ∃ C, s.heap.get id = some C ∧ C.live = true) ∨ (s.next ≤ id ∧ B.rw = true) := by
    intro id B hm hB hl
    rcases List.mem_append.1 hm with hm | hm
    · left
      refine ⟨hm, ?_⟩
      have := hI id hm B hB hl
      unfold liveIn at this
      split at this
      · rename_i C hC; exact ⟨C, hC, this⟩
      · cases this
    · right
      have h1 := mem_range'.1 hm
      refine ⟨h1.1, ?_⟩
      have := (List.all_eq_true.1 hfr) id hm
      simp only [hB, hl, Bool.not_true, Bool.false_or] at this
      exact this
  have hsame : ∀ id b, m.ι id = some b → m'.ι id = some b ∧ m'.κ id = m.κ id := fun id b h => hT.ext id b h
  have hblk : ∀ id B, (copyH p.heap (I ++ range' s.next p.next) s.heap).get id = some B → B.live = true → ∃ b o, m'.ι id = some b ∧ w'.heap[b]? = some o ∧ B.R m' ρ (m'.κ id) o := by
    intro id B hB hl
    rcases hget id B hB with ⟨hm, hB⟩ | ⟨hm, hB⟩
    · exact hR'.heap.blk id B hB hl
    · obtain ⟨b, o, h1, h2, h3⟩ := hR.heap.blk id B hB hl
      obtain ⟨g1, g2⟩ := hsame id b h1
      refine ⟨b, o, g1, ?_, by rw [g2]; exact h3.mono hT.ext⟩
      rw [hT.frame b (Array.getElem?_eq_some_iff.1 h2).1 (hold id B b hm hB hl h1)]; exact h2
  refine ⟨⟨⟨hR'.tmps.get⟩, hR'.size, ⟨hblk, fun id id' B B' b hB hB' hrw hl hb hb' => ?_⟩, hR'.fresh, by have := hR'.dfs; rw [hpd] at this; exact this⟩, ⟨hT.ext, hT.size, fun b hb hnf => hT.frame b hb fun hf => ?_, fun b ⟨id, B, hB, hrw, hb⟩ => ?_, hT.tape, hT.os, hT.output⟩⟩
  · rcases hget id B hB with ⟨hm, hB1⟩ | ⟨hm, hB1⟩
    · rcases hget id' B' hB' with ⟨hm', hB1'⟩ | ⟨hm', hB1'⟩
      · exact hR'.heap.inj id id' B B' b hB1 hB1' hrw hl hb hb'
      · exfalso
        obtain ⟨b2, o, h1, h2, _⟩ := hR.heap.blk id' B' hB1' hl
        have := (hsame id' b2 h1).1
        rw [hb'] at this; cases this
        rcases hT.fp b ⟨id, B, hB1, hrw, hb⟩ with hf | hf
        · exact hold id' B' b hm' hB1' hl h1 hf
        · have := (Array.getElem?_eq_some_iff.1 h2).1; omega
    · obtain ⟨b2, o, h1, h2, _⟩ := hR.heap.blk id B hB1 (Blk.live_of_rw hrw)
      have hbb := (hsame id b2 h1).1
      rw [hb] at hbb; cases hbb
      rcases hget id' B' hB' with ⟨hm', hB1'⟩ | ⟨hm', hB1'⟩
      · exfalso
        rcases hlive id' B' hm' hB1' hl with ⟨hi, C, hC, hCl⟩ | ⟨hge, hrw'⟩
        · obtain ⟨b3, o3, k1, k2, _⟩ := hR.heap.blk id' C hC hCl
          have := (hsame id' b3 k1).1
          rw [hb'] at this; cases this
          have := hR.heap.inj id id' B C b hB1 hC hrw hCl h1 k1
          subst this
          exact hm hm'
        · rcases hT.fp b ⟨id', B', hB1', hrw', hb'⟩ with hf | hf
          · exact hold id B b hm hB1 (Blk.live_of_rw hrw) h1 hf
          · have := (Array.getElem?_eq_some_iff.1 h2).1; omega
      · obtain ⟨b3, o3, k1, k2, _⟩ := hR.heap.blk id' B' hB1' hl
        have := (hsame id' b3 k1).1
        rw [hb'] at this; cases this
        exact hR.heap.inj id id' B B' b hB1 hB1' hrw hl h1 k1
  · obtain ⟨id, B, hm, hB, hrw, hb'⟩ := hfpR b hf
    exact hnf ⟨id, B, hB, hrw, hb'⟩
  · rcases hget id B hB with ⟨hm, hB1⟩ | ⟨hm, hB1⟩
    · rcases hT.fp b ⟨id, B, hB1, hrw, hb⟩ with hf | hf
      · obtain ⟨id', B', hm', hB', hrw', hb'⟩ := hfpR b hf
        exact .inl ⟨id', B', hB', hrw', hb'⟩
      · exact .inr hf
    · obtain ⟨b2, o, h1, h2, _⟩ := hR.heap.blk id B hB1 (Blk.live_of_rw hrw)
      have := (hsame id b2 h1).1
      rw [hb] at this; cases this
      exact .inl ⟨id, B, hB1, hrw, h1⟩

theorem drawZ_ok {call : CallD} (hcall : CallOk P F call) : DrawOk0 P F (drawZ P F call) := by
  intro ops st st' h hd0 ρ hF m a w hR K hK
  unfold drawZ at h
  split at h
  · rename_i z hz
    cases h
    exact drawX_ok hcall ops st st' hz hd0 ρ hF m a w hR K hK
  · split at h
    · unfold allZ at h
      simp only at h
      split at h
      · rename_i p hp
        split at h
        · rename_i hc
          cases h
          simp only [Bool.and_eq_true, decide_eq_true_eq, List.isEmpty_iff] at hc
          obtain ⟨hpd, hn, hI, hIn, hfr⟩ := hc
          have hRr : Rep m ρ ⟨st.tmps, restH st.heap (regionIds st.heap st.tmps ops ++ regIds st.heap), st.next, st.sz, []⟩ a w := by
            refine ⟨hR.tmps, hR.size, ⟨fun i B hB hl => ?_, fun i j B C b hB hC hrw hl hi hj => ?_⟩, hR.fresh, by have := hR.dfs; rw [hd0] at this; exact this⟩
            · simp only [restH_get] at hB
              split at hB
              · exact hR.heap.blk i B hB hl
              · cases hB
            · simp only [restH_get] at hB hC
              split at hB
              · split at hC
                · exact hR.heap.inj i j B C b hB hC hrw hl hi hj
                · cases hC
              · cases hB
          exact allO_ok hcall hp hF hRr fun a' w' m' hR' hT' => by
            obtain ⟨g1, g2⟩ := frame_ok hR hn (fun i hi B hB hl => by
              have := (List.all_eq_true.1 hI) i hi
              simpa only [hB, hl, Bool.not_true, Bool.false_or] using this) (fun i hi => by simpa using (List.all_eq_true.1 hIn) i hi) hfr hR' hpd hT'
            exact hK a' w' m' g1 g2
        · cases h
      · cases h
    · cases h

/-- What is deferred makes no difference to operations. -/
def Act.with' (ds : List Deferred) (a : Act) : Act := { a with defers := a.defers ++ ds }
theorem Act.with'_put (ds : List Deferred) (a : Act) (dst : Option Tmp) (v : Value) : (Act.with' ds a).put dst v = Act.with' ds (a.put dst v) := by cases dst <;> rfl
theorem wpOps_with {ops : Array Oper} {K : Act → World → Prop} (ds : List Deferred) : ∀ (is : List Nat) (a : Act) (w : World), wpOps P ops (nQ fun a w => K (Act.with' ds a) w) is a w → wpOps P ops (nQ K) is (Act.with' ds a) w
  | [], a, w, h => h
  | i :: r, a, w, h => by
    simp only [wpOps] at h ⊢
    cases ho : ops[i]? with
    | none => rw [ho] at h; exact wpOps_with ds r a w h
    | some o =>
      rw [ho] at h
      simp only at h ⊢
      have htm : (Act.with' ds a).tmps = a.tmps := rfl
      have hev : (Act.with' ds a).eval = a.eval := rfl
      rw [htm]
      split
      · rename_i hw
        rw [if_pos hw] at h
        left
        have h1 : o.wp P a w (wpOps P ops (nQ fun a w => K (Act.with' ds a) w) r) (nQ fun a w => K (Act.with' ds a) w) := by
          rcases h with h | ⟨_, a1, w1, h1⟩
          · exact h
          · exact absurd h1.1 (by simp)
        unfold Oper.wp at h1 ⊢
        rw [hev]
        generalize (execOp a.eval o).run P w = res at h1 ⊢
        cases res with
        | ok x w' =>
          cases x <;> simp only [Oper.upon] at h1 ⊢
          case value v => rw [Act.with'_put]; exact wpOps_with ds r _ _ h1
          case skip => rw [Act.with'_put]; exact wpOps_with ds r _ _ h1
          case defer d =>
            have := wpOps_with ds r _ _ h1
            rw [← Act.with'_put] at this
            exact this
          case enter f args =>
            refine h1.mono fun e w'' he => ?_
            cases e with
            | returned v => exact (show wpOps P ops (nQ K) r ((Act.with' ds a).put o.dst v) w'' from by rw [Act.with'_put]; exact wpOps_with ds r _ _ he)
            | panicked c => exact absurd he.1 (by simp)
            | outgrown => obtain ⟨a1, w1, h2⟩ := he; exact absurd h2.1 (by simp)
          case row row args => exact h1.mono fun v w'' he => by rw [Act.with'_put]; exact wpOps_with ds r _ _ he
        | halt x w' =>
          cases x <;> simp only [Oper.upon] at h1 ⊢
          exact absurd h1.1 (by simp)
      · rename_i hw
        rw [if_neg hw] at h
        rw [Act.with'_put]
        exact wpOps_with ds r _ _ h

theorem drawY_ok {call : CallD} (hcall : CallOk P F call) : DrawOk P F (drawY P F call) := by
  intro ops st st' h ρ hF m a w hR K hK
  unfold drawY at h
  split at h
  · rename_i hd0
    split at h
    · rename_i z hz
      split at h
      · cases h; exact drawZ_ok hcall ops st _ hz hd0 ρ hF m a w hR K hK
      · cases h
    · cases h
  · split at h
    · rename_i z hz
      split at h
      · rename_i hzd
        cases h
        have hR0 : Rep m ρ { st with dfs := [] } { tmps := a.tmps, defers := [] } w := ⟨⟨hR.tmps.get⟩, hR.size, hR.heap, hR.fresh, rfl⟩
        have h0 := drawZ_ok hcall ops { st with dfs := [] } _ hz rfl ρ hF m _ w hR0 (fun a' w' => K (Act.with' a.defers a') w') fun a' w' m' hR' hT' => by
          refine hK _ w' m' ⟨⟨hR'.tmps.get⟩, hR'.size, hR'.heap, hR'.fresh, ?_⟩ hT'
          have hde : a'.defers = [] := by
            have := hR'.dfs
            rw [List.isEmpty_iff.1 hzd] at this; exact this
          have : (Act.with' a.defers a').defers = a.defers := by simp [Act.with', hde]
          rw [this]
          exact hR.dfs.mono hT'.ext
        intro t
        exact wpOps_with a.defers _ _ _ (h0 t)
      · cases h
    · cases h

/-- The symbolic machine whole. Of 'loops': its last five digits tell how far a code goes, the others how many tests that are not decided a call may take both ways. -/
def runX (P : Program) (F : Facts) (Γ : Facts → FuncId → Option CallD) (loops depth : Nat) : CallD :=
  callX P Γ (fun F' call => drawY P F' call) (loops % 100000) (F.conds.length + loops / 100000) depth F

def ΓOk (P : Program) (F : Facts) (Γ : FuncId → Option CallD) : Prop :=
  ∀ f c, Γ f = some c → ∀ args h n r, c f args h n = some r → ∀ ρ, F.ok ρ → ∀ m w (vs : Array Value), DV.RL m ρ args vs.toList → HeapR m ρ h w → (∀ id, n ≤ id → m.ι id = none) →
    Calls P f vs w fun e w' => ∃ v m', e = .returned v ∧ r.d.R m' ρ v ∧ HeapR m' ρ r.h w' ∧ Trans m h w m' r.h w' ∧ (∀ id, r.n ≤ id → m'.ι id = none)

theorem runX_ok {Γ : Facts → FuncId → Option CallD} (hΓ : ∀ F' : Facts, F'.sem = F.sem → ΓOk P F' (Γ F')) (loops depth : Nat) : CallOk P F (runX P F Γ loops depth) :=
  callX_sound (S := F.sem) hΓ (fun _ _ _ h => drawY_ok h) _ _ depth F rfl

def Γ0 : FuncId → Option CallD := fun _ => none
theorem Γ0_ok : ΓOk P F Γ0 := fun _ _ h => by cases h

end

end Go.Eng
