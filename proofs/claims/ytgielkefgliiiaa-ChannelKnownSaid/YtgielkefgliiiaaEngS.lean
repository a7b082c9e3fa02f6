/-
  A region that draws its order: the run in the order of the text, and that it serves for every order.
-/
import Derived.Test.YtgielkefgliiiaaEngR
namespace Go.Eng

section
variable (P : Program) (F : Facts)

def restT (t : T DV) : List Tmp → T DV
  | [] => .nil
  | i :: r => match t.get i with
    | some d => (restT t r).set i d
    | none => restT t r
def restH (h : T Blk) : List Nat → T Blk
  | [] => .nil
  | i :: r => match h.get i with
    | some b => (restH h r).set i b
    | none => restH h r

def liveIn (h : T Blk) (id : Nat) : Bool := match h.get id with | some B => B.live | none => false

/-- What is reached from some blocks. -/
def reach (h : T Blk) : Nat → List Nat → List Nat → List Nat
  | 0, _, seen => seen
  | _, [], seen => seen
  | f + 1, i :: r, seen => if seen.contains i then reach h f r seen else
    match h.get i with
    | some B => if B.live then reach h f (B.ids ++ r) (i :: seen) else reach h f r seen
    | none => reach h f r seen

def opIds (t : T DV) (x : Operand) : List Nat := match opd t x with | some d => d.ids | none => []

/-- The number under which the variables of packages are listed. -/
def regIds (h : T Blk) : List Nat := match h.get 500 with | some (.cells _ _ (.reg l)) => 500 :: l | _ => []
def gIds (h : T Blk) (t : T DV) (x : Operand) : List Nat := match opd t x with
  | some (.gptr g _) => (match h.get g with | some (.cells _ _ (.gl _)) => [g] | _ => [])
  | _ => []

def footD (h : T Blk) (t : T DV) (op : Op) : List Nat :=
  match op with
  | .load _ x => (opIds t x ++ gIds h t x).filter (liveIn h)
  | .indexAddr _ x _ => gIds h t x
  | .fieldAddr _ x _ => gIds h t x
  | .store _ x _ => (opIds t x).filter (liveIn h)
  | .convert _ _ x => (opIds t x).filter (liveIn h)
  | .lookup _ x _ _ => (opIds t x).filter (liveIn h)
  | .mapUpdate _ x _ _ => (opIds t x).filter (liveIn h)
  | .mapEntry _ x _ => (opIds t x).filter (liveIn h)
  | .entryStore _ x _ _ => (opIds t x).filter (liveIn h)
  | .insert _ x _ _ => (opIds t x).filter (liveIn h)
  | .call c => match c.callee with
    | .builtin .len => (c.args.toList.flatMap fun x => match opd t x with | some (.mp id) => [id] | _ => []).filter (liveIn h)
    | .builtin .max => []
    | .builtin .min => []
    | _ => reach h 1000 (c.operands.toList.flatMap (opIds t) ++ regIds h) []
  | _ => []

def tmpsOk (n : Nat) (t : T DV) (l : List Tmp) : Bool := l.all fun i => match t.get i with | some d => d.ids.all fun x => decide (x < n) | none => true
def blksOk (n : Nat) (h : T Blk) (l : List Nat) : Bool := l.all fun i => decide (i < n) && match h.get i with | some B => B.ids.all fun x => decide (x < n) | none => true

def namedT (t : T DV) (l : List Tmp) : List Nat := l.flatMap fun i => match t.get i with | some d => d.ids | none => []
def namedH (h : T Blk) (l : List Nat) : List Nat := l.flatMap fun i => match h.get i with | some B => i :: B.ids | none => []

def copyH (src : T Blk) (l : List Nat) (h : T Blk) : T Blk := l.foldl (fun h i => match src.get i with | some B => h.set i B | none => h.del i) h

structure Ent where
  s : St
  r : St
  p : St
  ids : List Nat
  val : Bool

def range' (a b : Nat) : List Nat := (List.range (b - a)).map (a + ·)

def isVal (ops : Array Oper) (o : Oper) (r : St) : Bool :=
  match wantD F ops r o with
  | some false => true
  | some true => (valD P F r.heap r.tmps o.op).isSome
  | none => false

def entPre (s : St) (looks : List Tmp) (ids : List Nat) : Bool := tmpsOk s.next s.tmps looks && (blksOk s.next s.heap ids && ids.all (liveIn s.heap))

def outTOk (o : Oper) (p : St) (known : List Nat) : Bool :=
  match o.dst with
  | some t => (match p.tmps.get t with | some d => d.ids.all known.contains | none => true)
  | none => true
def outBOk (p : St) (l known : List Nat) : Bool := l.all fun i => match p.heap.get i with | some B => B.ids.all known.contains | none => true
def freshOk (p : St) (l : List Nat) : Bool := l.all fun i => match p.heap.get i with | some B => !B.live || B.rw | none => true

def entPost (o : Oper) (s p : St) (looks : List Tmp) (ids : List Nat) (val : Bool) : Bool :=
  let fresh := range' s.next p.next
  let known := fresh ++ namedT s.tmps looks ++ namedH s.heap ids
  decide (s.next ≤ p.next) && ((!val || decide (p.next = s.next)) && (outTOk o p known && ((val || outBOk p (ids ++ fresh) known) && freshOk p fresh)))

def entR (ops : Array Oper) (o : Oper) (s : St) : St := ⟨restT s.tmps (o.looksAt ops), restH s.heap (footD s.heap s.tmps o.op), s.next, s.sz⟩

def entD (call : CallD) (ops : Array Oper) (o : Oper) (s : St) : Option Ent :=
  if entPre s (o.looksAt ops) (footD s.heap s.tmps o.op) then
    match stepX P F call ops o (entR ops o s) with
    | some p => if entPost o s p (o.looksAt ops) (footD s.heap s.tmps o.op) (isVal P F ops o (entR ops o s)) then some ⟨s, entR ops o s, p, footD s.heap s.tmps o.op, isVal P F ops o (entR ops o s)⟩ else none
    | none => none
  else none

def nextSt (o : Oper) (e : Ent) : St :=
  { tmps := match o.dst with
      | some t => (match e.p.tmps.get t with | some d => e.s.tmps.set t d | none => e.s.tmps.del t)
      | none => e.s.tmps,
    heap := if e.val then e.s.heap else copyH e.p.heap (e.ids ++ range' e.s.next e.p.next) e.s.heap,
    next := e.p.next, sz := e.s.sz }

def runD (call : CallD) (ops : Array Oper) : List Oper → St → Option (List Ent × St)
  | [], s => some ([], s)
  | o :: r, s => match entD P F call ops o s with
    | some e => match runD call ops r (nextSt o e) with
      | some (es, z) => some (e :: es, z)
      | none => none
    | none => none

def Ent.foot (e : Ent) : List Nat := e.ids ++ range' e.s.next e.p.next

def confOk (ops : Array Oper) (oi oj : Oper) (ei ej : Ent) : Bool :=
  !((match oi.dst with | some t => (oj.looksAt ops).contains t || oj.dst == some t | none => false) ||
    (match oj.dst with | some t => (oi.looksAt ops).contains t | none => false) ||
    ((!ei.val || !ej.val) && ei.foot.any ej.foot.contains))

def pairsOk (ops : Array Oper) (bf : List Nat) (l : List (Oper × Ent)) : Bool :=
  l.zipIdx.all fun x => (l.take x.2).zipIdx.all fun y => ahead bf y.2 x.2 || confOk ops y.1.1 x.1.1 y.1.2 x.1.2

/-- An order in which all may be done: each operation's edges lead to what stands ahead of it. -/
def orderOk (md : Region.Mode) (ops : Array Oper) (l : List Nat) : Bool :=
  (l.all (fun i => decide (i < ops.size)) && (List.range ops.size).all l.contains) &&
  l.zipIdx.all fun x => match ops[x.1]? with
    | some o => o.after.toList.all fun e => !Region.binds md e || (l.take x.2).contains e.on
    | none => true

def ordersOk (mixed : Bool) (ops : Array Oper) : Bool :=
  if mixed || !Region.departs ops then orderOk .any ops (List.range ops.size)
  else orderOk .text ops (List.range ops.size) && orderOk .gc ops (Region.linearise .gc ops 0)

def drawX (call : CallD) (ops : Array Oper) (s : St) : Option St :=
  if ordersOk (P.follows .mixedOrders) ops then
    match runD P F call ops ops.toList s with
    | some (es, z) => if pairsOk ops (befFrom [] ops.toList) (ops.toList.zip es) then some z else none
    | none => none
  else none

variable {P} {F}

theorem restT_get (t : T DV) : ∀ (l : List Tmp) (i : Nat), (restT t l).get i = if i ∈ l then t.get i else none
  | [], i => by simp [restT]
  | j :: r, i => by
    simp only [restT]
    split
    · rename_i d hd
      rw [T.get_set, restT_get t r i]
      by_cases h : i = j
      · subst h; simp [hd]
      · simp [h]
    · rename_i hd
      rw [restT_get t r i]
      by_cases h : i = j
      · subst h; simp [hd]
      · simp [h]

theorem restH_get (t : T Blk) : ∀ (l : List Nat) (i : Nat), (restH t l).get i = if i ∈ l then t.get i else none
  | [], i => by simp [restH]
  | j :: r, i => by
    simp only [restH]
    split
    · rename_i d hd
      rw [T.get_set, restH_get t r i]
      by_cases h : i = j
      · subst h; simp [hd]
      · simp [h]
    · rename_i hd
      rw [restH_get t r i]
      by_cases h : i = j
      · subst h; simp [hd]
      · simp [h]

theorem copyH_get (src : T Blk) : ∀ (l : List Nat) (h : T Blk) (i : Nat), (copyH src l h).get i = if i ∈ l then src.get i else h.get i
  | [], h, i => by simp [copyH]
  | j :: r, h, i => by
    have : copyH src (j :: r) h = copyH src r (match src.get j with | some B => h.set j B | none => h.del j) := rfl
    rw [this, copyH_get src r]
    by_cases h1 : i ∈ r
    · simp [h1]
    · rw [if_neg h1]
      by_cases h2 : i = j
      · subst h2
        rw [if_pos (by simp)]
        split
        · rename_i B hB; rw [T.get_set, if_pos rfl, hB]
        · rename_i hB; rw [T.get_del, if_pos rfl, hB]
      · rw [if_neg (by simp [h1, h2])]
        split
        · rw [T.get_set, if_neg h2]
        · rw [T.get_del, if_neg h2]

theorem mem_range' {a b i : Nat} : i ∈ range' a b ↔ a ≤ i ∧ i < b := by
  simp only [range', List.mem_map, List.mem_range]
  constructor
  · rintro ⟨k, hk, rfl⟩; omega
  · intro h; exact ⟨i - a, by omega, by omega⟩

def stAt : List Ent → St → Nat → St
  | [], z, _ => z
  | e :: _, _, 0 => e.s
  | _ :: es, z, k + 1 => stAt es z k

theorem entD_spec {call : CallD} {ops : Array Oper} {o : Oper} {s : St} {e : Ent} (h : entD P F call ops o s = some e) :
    e.s = s ∧ e.r = entR ops o s ∧ e.ids = footD s.heap s.tmps o.op ∧ e.val = isVal P F ops o (entR ops o s) ∧ entPre s (o.looksAt ops) e.ids = true ∧ stepX P F call ops o e.r = some e.p ∧ entPost o s e.p (o.looksAt ops) e.ids e.val = true := by
  unfold entD at h
  split at h
  · rename_i h1
    split at h
    · rename_i p hp
      split at h
      · rename_i h2
        cases h
        exact ⟨rfl, rfl, rfl, rfl, h1, hp, h2⟩
      · cases h
    · cases h
  · cases h

theorem entD_s {call : CallD} {ops : Array Oper} {o : Oper} {s : St} {e : Ent} (h : entD P F call ops o s = some e) : e.s = s := (entD_spec h).1

theorem runD_spec {call : CallD} {ops : Array Oper} : ∀ {l : List Oper} {s z : St} {es : List Ent}, runD P F call ops l s = some (es, z) →
    es.length = l.length ∧ stAt es z 0 = s ∧ stAt es z l.length = z ∧ ∀ k o, l[k]? = some o → ∃ e, es[k]? = some e ∧ entD P F call ops o (stAt es z k) = some e ∧ stAt es z (k + 1) = nextSt o e
  | [], s, z, es, h => by
    simp [runD] at h
    obtain ⟨rfl, rfl⟩ := h
    exact ⟨rfl, rfl, rfl, fun k o hk => by simp at hk⟩
  | o :: r, s, z, es, h => by
    simp only [runD] at h
    split at h
    · rename_i e he
      split at h
      · rename_i es' z' hr
        cases h
        obtain ⟨h1, h2, h3, h4⟩ := runD_spec hr
        have hs := entD_s he
        refine ⟨by simp [h1], by simp only [stAt]; exact hs, by simp only [List.length_cons, stAt]; exact h3, fun k o' hk => ?_⟩
        cases k with
        | zero =>
          simp at hk; subst hk
          exact ⟨e, rfl, by simp only [stAt]; rw [hs]; exact he, by simp only [stAt]; exact h2⟩
        | succ k =>
          obtain ⟨e', he', h5, h6⟩ := h4 k o' (by simpa using hk)
          exact ⟨e', by simpa using he', h5, h6⟩
      · cases h
    · cases h

theorem mem_namedT {t : T DV} {l : List Tmp} {id : Nat} (h : id ∈ namedT t l) : ∃ i d, i ∈ l ∧ t.get i = some d ∧ id ∈ d.ids := by
  simp only [namedT, List.mem_flatMap] at h
  obtain ⟨i, hi, h⟩ := h
  split at h
  · rename_i d hd; exact ⟨i, d, hi, hd, h⟩
  · cases h
theorem mem_namedH {t : T Blk} {l : List Nat} {id : Nat} (h : id ∈ namedH t l) : ∃ i B, i ∈ l ∧ t.get i = some B ∧ (id = i ∨ id ∈ B.ids) := by
  simp only [namedH, List.mem_flatMap] at h
  obtain ⟨i, hi, h⟩ := h
  split at h
  · rename_i B hB; exact ⟨i, B, hi, hB, by simpa using h⟩
  · cases h

end

end Go.Eng
