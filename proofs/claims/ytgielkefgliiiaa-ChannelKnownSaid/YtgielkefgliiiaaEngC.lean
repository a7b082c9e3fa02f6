/-
  Symbolic values, blocks, states; how they stand to the values, the memory and the frames of the machine.
-/
import Derived.Test.YtgielkefgliiiaaEngBF
import Derived.WalkKit
namespace Go.Eng

/-- A finite map from numbers. -/
inductive T (α : Type) where
  | nil | node (x : Option α) (l r : T α)
  deriving Inhabited

namespace T
variable {α : Type}
def get : T α → Nat → Option α
  | nil, _ => none
  | node x l r, n => if n = 0 then x else if n % 2 = 1 then l.get (n / 2) else r.get (n / 2 - 1)
def root : T α → Option α | nil => none | node x _ _ => x
def left : T α → T α | nil => nil | node _ l _ => l
def right : T α → T α | nil => nil | node _ _ r => r
def put (x : Option α) : Nat → Nat → T α → T α
  | 0, _, t => node x t.left t.right
  | f + 1, n, t => if n = 0 then node x t.left t.right
    else if n % 2 = 1 then node t.root (put x f (n / 2) t.left) t.right
    else node t.root t.left (put x f (n / 2 - 1) t.right)
def set (t : T α) (n : Nat) (x : α) : T α := put (some x) n n t
def del (t : T α) (n : Nat) : T α := put none n n t

theorem get_left (t : T α) (k : Nat) (h : k ≠ 0) (h1 : k % 2 = 1) : t.get k = t.left.get (k / 2) := by
  cases t <;> simp [get, left, h, h1]
theorem get_right (t : T α) (k : Nat) (h : k ≠ 0) (h1 : ¬ k % 2 = 1) : t.get k = t.right.get (k / 2 - 1) := by
  cases t <;> simp [get, right, h, h1]
theorem get_root (t : T α) : t.get 0 = t.root := by
  cases t <;> simp [get, root]

theorem get_put (x : Option α) : ∀ (f n : Nat) (t : T α) (k : Nat), n ≤ f → (put x f n t).get k = if k = n then x else t.get k := by
  intro f
  induction f with
  | zero =>
    intro n t k h
    have : n = 0 := by omega
    subst this
    simp only [put, get]
    split
    · rfl
    · rename_i hk
      split
      · rename_i h1; rw [get_left t k hk h1]
      · rename_i h1; rw [get_right t k hk h1]
  | succ f ih =>
    intro n t k h
    simp only [put]
    split
    · rename_i hn
      subst hn
      simp only [get]
      split
      · rfl
      · rename_i hk
        split
        · rename_i h1; rw [get_left t k hk h1]
        · rename_i h1; rw [get_right t k hk h1]
    · rename_i hn
      split
      · rename_i h1
        simp only [get]
        by_cases hk : k = 0
        · subst hk; rw [if_pos rfl, if_neg (by omega), get_root]
        · rw [if_neg hk]
          by_cases h2 : k % 2 = 1
          · rw [if_pos h2, ih _ _ _ (by omega)]
            by_cases e : k = n
            · subst e; simp
            · rw [if_neg (by omega), if_neg e, get_left t k hk h2]
          · rw [if_neg h2, if_neg (by omega), get_right t k hk h2]
      · rename_i h1
        simp only [get]
        by_cases hk : k = 0
        · subst hk; rw [if_pos rfl, if_neg (by omega), get_root]
        · rw [if_neg hk]
          by_cases h2 : k % 2 = 1
          · rw [if_pos h2, if_neg (by omega), get_left t k hk h2]
          · rw [if_neg h2, ih _ _ _ (by omega)]
            by_cases e : k = n
            · subst e; simp
            · rw [if_neg (by omega), if_neg e, get_right t k hk h2]

theorem get_set (t : T α) (n : Nat) (x : α) (k : Nat) : (t.set n x).get k = if k = n then some x else t.get k := get_put _ _ _ _ _ (Nat.le_refl _)
theorem get_del (t : T α) (n : Nat) (k : Nat) : (t.del n).get k = if k = n then none else t.get k := get_put _ _ _ _ _ (Nat.le_refl _)
@[simp] theorem get_nil (k : Nat) : (nil : T α).get k = none := rfl

def ofList : List (Nat × α) → T α
  | [] => nil
  | (n, x) :: r => (ofList r).set n x
end T

structure Off where
  base : Nat
  terms : List (E × Nat)

def sumT (ρ : Env) : List (E × Nat) → Nat
  | [] => 0
  | (e, s) :: r => (e.ev ρ).int.toNat * s + sumT ρ r

def Off.den (ρ : Env) (o : Off) : Nat := o.base + sumT ρ o.terms
def Off.add (o : Off) (n : Nat) : Off := { o with base := o.base + n }
def Off.addE (o : Off) (e : E) (s : Nat) : Off :=
  match e with
  | .li n => o.add (n.toNat * s)
  | e => { o with terms := o.terms ++ [(e, s)] }

theorem sumT_append (ρ : Env) (l : List (E × Nat)) (e : E) (s : Nat) : sumT ρ (l ++ [(e, s)]) = sumT ρ l + (e.ev ρ).int.toNat * s := by
  induction l with
  | nil => simp [sumT]
  | cons p l ih => obtain ⟨a, b⟩ := p; simp only [List.cons_append, sumT, ih]; omega

@[simp] theorem Off.den_add (ρ : Env) (o : Off) (n : Nat) : (o.add n).den ρ = o.den ρ + n := by
  simp only [Off.den, Off.add]; omega
theorem Off.den_addE (ρ : Env) (o : Off) (e : E) (s : Nat) : (o.addE e s).den ρ = o.den ρ + (e.ev ρ).int.toNat * s := by
  unfold Off.addE
  split
  · simp [E.ev]
  · simp only [Off.den, sumT_append]; omega

/-- A capacity: told, or what the block bears less what was skipped. -/
inductive Cap where
  | ex (e : E) | own (skip : E)

inductive DV where
  | int (k : IntKind) (e : E) | bool (e : E) | str (e : E)
  | ptr (id : Nat) (o : Off) | nilp | gptr (g off : Nat)
  | slc (id : Nat) (o : Off) (len : E) (cap : Cap) | nils | mt
  | agg (l : List DV) | tup (l : List DV)
  | ifc (t : TypeId) (v : DV) | nili
  | fn (f : Fn) (first cap : List DV) | nilf
  | mp (id : Nat) | nilm
  deriving Inhabited

/-- Where the blocks lie: the number of each, and how many elements it bears. -/
structure Emb where
  ι : Nat → Option Nat
  κ : Nat → Nat

def Emb.le (m m' : Emb) : Prop := ∀ id b, m.ι id = some b → m'.ι id = some b ∧ m'.κ id = m.κ id

theorem Emb.le_refl (m : Emb) : m.le m := fun _ _ h => ⟨h, rfl⟩
theorem Emb.le_trans {m m' m'' : Emb} (h : m.le m') (h' : m'.le m'') : m.le m'' := fun id b hb => by
  obtain ⟨h1, h2⟩ := h id b hb
  obtain ⟨h3, h4⟩ := h' id b h1
  exact ⟨h3, h4.trans h2⟩

def Cap.den (m : Emb) (ρ : Env) (id : Nat) : Cap → Nat
  | .ex e => (e.ev ρ).int.toNat
  | .own skip => m.κ id - (skip.ev ρ).int.toNat

mutual
def DV.R (m : Emb) (ρ : Env) : DV → Value → Prop
  | .int k e, v => v = .int k (e.ev ρ).int
  | .bool e, v => v = .bool (e.ev ρ).bool
  | .str e, v => v = .string (e.ev ρ).str
  | .ptr id o, v => ∃ b, m.ι id = some b ∧ v = .pointer (some ⟨b, o.den ρ, none⟩)
  | .nilp, v => v = .pointer none
  | .gptr g off, v => v = .pointer (some ⟨g, off, none⟩)
  | .slc id o len cap, v => ∃ b, m.ι id = some b ∧ v = .slice (some ⟨b, o.den ρ, none⟩) (len.ev ρ).int.toNat (cap.den m ρ id) ∧ 0 ≤ (len.ev ρ).int ∧ (len.ev ρ).int.toNat ≤ cap.den m ρ id
  | .nils, v => v = .slice none 0 0
  | .mt, v => ∃ a c, v = .slice a 0 c
  | .agg l, v => ∃ vs : Array Value, v = .agg vs ∧ DV.RL m ρ l vs.toList
  | .tup l, v => ∃ vs : Array Value, v = .tuple vs ∧ DV.RL m ρ l vs.toList
  | .ifc t d, v => ∃ x, v = .iface t x ∧ DV.R m ρ d x
  | .nili, v => v = .nilIface
  | .fn f a c, v => ∃ x y : Array Value, v = .func f x y ∧ DV.RL m ρ a x.toList ∧ DV.RL m ρ c y.toList
  | .nilf, v => v = .nilFunc
  | .mp id, v => ∃ b, m.ι id = some b ∧ v = .map (some b)
  | .nilm, v => v = .map none
def DV.RL (m : Emb) (ρ : Env) : List DV → List Value → Prop
  | [], vs => vs = []
  | d :: r, vs => ∃ v vr, vs = v :: vr ∧ DV.R m ρ d v ∧ DV.RL m ρ r vr
end

mutual
theorem DV.R.mono {m m' : Emb} {ρ : Env} (hm : m.le m') : ∀ {d : DV} {v : Value}, d.R m ρ v → d.R m' ρ v
  | .int k e, v, h => h
  | .bool e, v, h => h
  | .str e, v, h => h
  | .ptr id o, v, h => by
    simp only [DV.R] at h ⊢
    obtain ⟨b, hb, hv⟩ := h; exact ⟨b, (hm _ _ hb).1, hv⟩
  | .nilp, v, h => h
  | .gptr g off, v, h => h
  | .slc id o len cap, v, h => by
    simp only [DV.R] at h ⊢
    obtain ⟨b, hb, hv, h0, hc⟩ := h
    have e : cap.den m' ρ id = cap.den m ρ id := by cases cap <;> simp [Cap.den, (hm _ _ hb).2]
    exact ⟨b, (hm _ _ hb).1, by rw [e]; exact hv, h0, by rw [e]; exact hc⟩
  | .nils, v, h => h
  | .mt, v, h => h
  | .agg l, v, h => by
    simp only [DV.R] at h ⊢
    obtain ⟨vs, hv, hl⟩ := h; exact ⟨vs, hv, DV.RL.mono hm hl⟩
  | .tup l, v, h => by
    simp only [DV.R] at h ⊢
    obtain ⟨vs, hv, hl⟩ := h; exact ⟨vs, hv, DV.RL.mono hm hl⟩
  | .ifc t d, v, h => by
    simp only [DV.R] at h ⊢
    obtain ⟨x, hv, hl⟩ := h; exact ⟨x, hv, DV.R.mono hm hl⟩
  | .nili, v, h => h
  | .fn f a c, v, h => by
    simp only [DV.R] at h ⊢
    obtain ⟨x, y, hv, h1, h2⟩ := h; exact ⟨x, y, hv, DV.RL.mono hm h1, DV.RL.mono hm h2⟩
  | .nilf, v, h => h
  | .mp id, v, h => by
    simp only [DV.R] at h ⊢
    obtain ⟨b, hb, hv⟩ := h; exact ⟨b, (hm _ _ hb).1, hv⟩
  | .nilm, v, h => h
theorem DV.RL.mono {m m' : Emb} {ρ : Env} (hm : m.le m') : ∀ {l : List DV} {vs : List Value}, DV.RL m ρ l vs → DV.RL m' ρ l vs
  | [], vs, h => h
  | d :: r, vs, h => by
    simp only [DV.RL] at h ⊢
    obtain ⟨v, vr, hv, h1, h2⟩ := h
    exact ⟨v, vr, hv, DV.R.mono hm h1, DV.RL.mono hm h2⟩
end

theorem DV.RL.length {m : Emb} {ρ : Env} : ∀ {l : List DV} {vs : List Value}, DV.RL m ρ l vs → vs.length = l.length
  | [], vs, h => by simp only [DV.RL] at h; simp [h]
  | d :: r, vs, h => by
    simp only [DV.RL] at h
    obtain ⟨v, vr, hv, _, h2⟩ := h
    simp [hv, h2.length]

theorem DV.RL.get {m : Emb} {ρ : Env} : ∀ {l : List DV} {vs : List Value}, DV.RL m ρ l vs → ∀ {i : Nat} {d : DV}, l[i]? = some d → ∃ v, vs[i]? = some v ∧ d.R m ρ v
  | [], vs, _, i, d, hd => by simp at hd
  | a :: r, vs, h, i, d, hd => by
    simp only [DV.RL] at h
    obtain ⟨v, vr, hv, h1, h2⟩ := h
    subst hv
    cases i with
    | zero => simp at hd; subst hd; exact ⟨v, rfl, h1⟩
    | succ i => simp at hd; simpa using DV.RL.get h2 hd

theorem DV.RL.of_get {m : Emb} {ρ : Env} : ∀ {l : List DV} {vs : List Value}, vs.length = l.length → (∀ (i : Nat) (d : DV), l[i]? = some d → ∃ v, vs[i]? = some v ∧ d.R m ρ v) → DV.RL m ρ l vs
  | [], vs, hl, _ => by simp only [DV.RL]; simpa using hl
  | a :: r, vs, hl, h => by
    simp only [DV.RL]
    match vs, hl with
    | v :: vr, hl =>
      obtain ⟨u, hu, hr⟩ := h 0 a rfl
      simp at hu; subst hu
      exact ⟨v, vr, rfl, hr, DV.RL.of_get (by simpa using hl) fun i d hd => by simpa using h (i + 1) d (by simpa using hd)⟩

theorem DV.RL.append {m : Emb} {ρ : Env} : ∀ {l r : List DV} {vs us : List Value}, DV.RL m ρ l vs → DV.RL m ρ r us → DV.RL m ρ (l ++ r) (vs ++ us)
  | [], r, vs, us, h, h' => by simp only [DV.RL] at h; subst h; simpa using h'
  | a :: l, r, vs, us, h, h' => by
    simp only [DV.RL] at h
    obtain ⟨v, vr, hv, h1, h2⟩ := h
    subst hv
    simp only [List.cons_append, DV.RL]
    exact ⟨v, vr ++ us, rfl, h1, DV.RL.append h2 h'⟩

/-- What one cell of a row of cells is. -/
inductive Kd where
  | int (k : IntKind) | bool | str | any
  deriving DecidableEq

def Kd.ok : Kd → Value → Prop
  | .int k, v => ∃ n, v = .int k n ∧ k.min ≤ n ∧ n ≤ k.max
  | .bool, v => ∃ b, v = .bool b
  | .str, v => ∃ s, v = .string s
  | .any, _ => True

/-- How a block is held: to be read alone; to be written; to be written, and with room behind for elements of so many cells; a variable of the package, to be read alone; a list of such variables. -/
inductive Md where
  | ro | rw | own (s : Nat) | gl (g : Nat) | reg (l : List Nat)
  deriving DecidableEq

def Md.rw' : Md → Bool
  | .rw => true
  | .own _ => true
  | _ => false
/-- Which blocks a way of holding names. -/
def Md.ids : Md → List Nat
  | .gl g => [g]
  | _ => []

inductive Blk where
  | cells (l : List DV) (t : TypeId) (md : Md)
  | arr (q a n : E) (sh : List Kd) (t : TypeId) (md : Md)
  | mpb (es : List (DV × DV))
  | itb (mp : Nat) (seen : List E) (last : Option Nat)
  | dead

def Blk.live : Blk → Bool
  | .dead => false
  | _ => true
/-- May it be written? -/
def Blk.rw : Blk → Bool
  | .cells _ _ md => md.rw'
  | .arr _ _ _ _ _ md => md.rw'
  | .mpb _ => true
  | .itb _ _ _ => true
  | .dead => false

/-- What the way of holding says of the row. -/
def Md.ok (m : Emb) (k : Nat) (md : Md) (c : Array Value) (fr : Nat × Nat) : Prop :=
  match md with
  | .ro => True
  | .gl g => m.ι g = some g
  | .reg _ => True
  | .rw => fr = (0, 0)
  | .own s => fr = (0, 0) ∧ k * s ≤ c.size

def Blk.R (m : Emb) (ρ : Env) (k : Nat) : Blk → Obj → Prop
  | .cells l _ md, o => ∃ (c : Array Value) (fr : Nat × Nat), (∃ t', o = .cells c t' fr) ∧ l.length ≤ c.size ∧ (∀ (i : Nat) (d : DV), l[i]? = some d → ∃ v, c[i]? = some v ∧ d.R m ρ v) ∧ md.ok m k c fr
  | .arr q a n sh _ md, o => ∃ (c : Array Value) (fr : Nat × Nat), (∃ t', o = .cells c t' fr) ∧ (a.ev ρ).arr.length = (n.ev ρ).int.toNat * sh.length ∧ (q.ev ρ).int.toNat + (a.ev ρ).arr.length ≤ c.size ∧ (∀ (i : Nat) (v : Value), (a.ev ρ).arr[i]? = some v → c[(q.ev ρ).int.toNat + i]? = some v) ∧
      (∀ (i : Nat) (v : Value), (a.ev ρ).arr[i]? = some v → (sh.getD (i % sh.length) .any).ok v) ∧ md.ok m k c fr
  | .mpb es, o => ∃ (en : Array MapEntry) (clk : Nat), o = .map en clk ∧ DV.RL m ρ (es.map (·.1)) (en.toList.map (·.key)) ∧ DV.RL m ρ (es.map (·.2)) (en.toList.map (·.val)) ∧ clk = en.size ∧ en.toList.map (·.born) = List.range en.size
  | .itb mp seen last, o => ∃ (b : Nat) (sn : Array Nat), o = .mapIter (some b) seen.length sn seen.length ∧ m.ι mp = some b ∧ (∀ (i : Nat) (e : E), seen[i]? = some e → (sn.contains i = (e.ev ρ).bool)) ∧ ∀ i, last = some i → ∃ s0 : Array Nat, sn = s0.push i
  | .dead, _ => True

theorem Md.ok.mono {m m' : Emb} (hm : m.le m') {k : Nat} {md : Md} {c : Array Value} {fr : Nat × Nat} (h : md.ok m k c fr) : md.ok m' k c fr := by
  cases md with
  | gl g => exact (hm g g h).1
  | ro => exact h
  | rw => exact h
  | own s => exact h
  | reg l => exact h

theorem Md.fr_of {m : Emb} {k : Nat} {md : Md} {c : Array Value} {fr : Nat × Nat} (h : md.ok m k c fr) (hr : md.rw' = true) : fr = (0, 0) := by
  cases md with
  | rw => exact h
  | own s => exact h.1
  | ro => cases hr
  | gl g => cases hr
  | reg l => cases hr

theorem Blk.R.mono {m m' : Emb} {ρ : Env} {k : Nat} (hm : m.le m') {B : Blk} {o : Obj} (h : B.R m ρ k o) : B.R m' ρ k o := by
  cases B with
  | cells l t md =>
    obtain ⟨c, fr, h1, h2, h3, h4⟩ := h
    exact ⟨c, fr, h1, h2, fun i d hd => let ⟨v, hv, hr⟩ := h3 i d hd; ⟨v, hv, hr.mono hm⟩, h4.mono hm⟩
  | arr q a n sh t md =>
    obtain ⟨c, fr, h1, h2, h3, h4, h5, h6⟩ := h
    exact ⟨c, fr, h1, h2, h3, h4, h5, h6.mono hm⟩
  | mpb es =>
    obtain ⟨en, clk, h1, h2, h3, h4⟩ := h
    exact ⟨en, clk, h1, h2.mono hm, h3.mono hm, h4⟩
  | itb mp seen last =>
    obtain ⟨b, sn, h1, h2, h3⟩ := h
    exact ⟨b, sn, h1, (hm _ _ h2).1, h3⟩
  | dead => trivial

structure HeapR (m : Emb) (ρ : Env) (h : T Blk) (w : World) : Prop where
  blk : ∀ id B, h.get id = some B → B.live = true → ∃ b o, m.ι id = some b ∧ w.heap[b]? = some o ∧ B.R m ρ (m.κ id) o
  inj : ∀ id id' B B' b, h.get id = some B → h.get id' = some B' → B.rw = true → B'.live = true → m.ι id = some b → m.ι id' = some b → id = id'

/-- The blocks that may be written. -/
def Fp (m : Emb) (h : T Blk) (b : Nat) : Prop := ∃ id B, h.get id = some B ∧ B.rw = true ∧ m.ι id = some b

/-- From one memory to a later one: what was known lies where it lay; what may not be written is as it was. -/
structure Trans (m : Emb) (h : T Blk) (w : World) (m' : Emb) (h' : T Blk) (w' : World) : Prop where
  ext : m.le m'
  size : w.heap.size ≤ w'.heap.size
  frame : ∀ b, b < w.heap.size → ¬ Fp m h b → w'.heap[b]? = w.heap[b]?
  fp : ∀ b, Fp m' h' b → Fp m h b ∨ w.heap.size ≤ b
  tape : w'.tape = w.tape
  os : w'.os = w.os
  output : w'.output = w.output

theorem Trans.refl (m : Emb) (h : T Blk) (w : World) : Trans m h w m h w :=
  ⟨Emb.le_refl m, Nat.le_refl _, fun _ _ _ => rfl, fun _ hb => .inl hb, rfl, rfl, rfl⟩

theorem Trans.trans {m m' m'' : Emb} {h h' h'' : T Blk} {w w' w'' : World} (t : Trans m h w m' h' w') (t' : Trans m' h' w' m'' h'' w'') :
    Trans m h w m'' h'' w'' where
  ext := Emb.le_trans t.ext t'.ext
  size := Nat.le_trans t.size t'.size
  frame := fun b hb hn => by
    rw [t'.frame b (Nat.lt_of_lt_of_le hb t.size) (fun hf => by
      rcases t.fp b hf with h1 | h1
      · exact hn h1
      · omega), t.frame b hb hn]
  fp := fun b hf => by
    rcases t'.fp b hf with h1 | h1
    · exact t.fp b h1
    · exact .inr (Nat.le_trans t.size h1)
  tape := t'.tape.trans t.tape
  os := t'.os.trans t.os
  output := t'.output.trans t.output

structure St where
  tmps : T DV
  heap : T Blk
  next : Nat
  sz : Nat

structure TmpR (m : Emb) (ρ : Env) (t : T DV) (a : Act) : Prop where
  get : ∀ i d, t.get i = some d → ∃ v, a.tmps[i]? = some v ∧ d.R m ρ v
  defers : a.defers = []

theorem TmpR.mono {m m' : Emb} {ρ : Env} {t : T DV} {a : Act} (hm : m.le m') (h : TmpR m ρ t a) : TmpR m' ρ t a :=
  ⟨fun i d hd => let ⟨v, hv, hr⟩ := h.get i d hd; ⟨v, hv, hr.mono hm⟩, h.defers⟩

structure Rep (m : Emb) (ρ : Env) (st : St) (a : Act) (w : World) : Prop where
  tmps : TmpR m ρ st.tmps a
  size : a.tmps.size = st.sz
  heap : HeapR m ρ st.heap w
  fresh : ∀ id, st.next ≤ id → m.ι id = none

/-- A new block. -/
def Emb.put (m : Emb) (id b n : Nat) : Emb := ⟨fun i => if i = id then some b else m.ι i, fun i => if i = id then n else m.κ i⟩

theorem Emb.le_put {m : Emb} {id b n : Nat} (h : m.ι id = none) : m.le (m.put id b n) := fun i c hc => by
  have hne : i ≠ id := fun e => by subst e; rw [h] at hc; cases hc
  simp [Emb.put, hne, hc]

theorem HeapR.lt {m : Emb} {ρ : Env} {h : T Blk} {w : World} (hr : HeapR m ρ h w) {id b : Nat} {B : Blk} (hB : h.get id = some B) (hl : B.live = true) (hb : m.ι id = some b) :
    b < w.heap.size := by
  obtain ⟨b', o, h1, h2, _⟩ := hr.blk id B hB hl
  rw [hb] at h1; cases h1
  exact (Array.getElem?_eq_some_iff.1 h2).1

theorem Blk.live_of_rw {B : Blk} (h : B.rw = true) : B.live = true := by cases B <;> simp_all [Blk.rw, Blk.live]

theorem World.alloc_heap (w : World) (o : Obj) : (w.alloc o).heap = w.heap.push o := rfl

/-- What is known stays known where a block is laid. -/
theorem HeapR.push {m : Emb} {ρ : Env} {h : T Blk} {w : World} (hr : HeapR m ρ h w) {id n : Nat} (hid : m.ι id = none) {B : Blk} {o : Obj}
    (hB : B.R (m.put id w.heap.size n) ρ n o) : HeapR (m.put id w.heap.size n) ρ (h.set id B) (w.alloc o) where
  blk := fun i C hC hl => by
    rw [T.get_set] at hC
    split at hC
    · rename_i e; cases hC; subst e
      exact ⟨w.heap.size, o, by simp [Emb.put], by rw [World.alloc_heap, Array.getElem?_push_size], by simpa [Emb.put] using hB⟩
    · rename_i e
      obtain ⟨b, p, h1, h2, h3⟩ := hr.blk i C hC hl
      refine ⟨b, p, by simp [Emb.put, e, h1], ?_, by simpa [Emb.put, e] using h3.mono (Emb.le_put hid)⟩
      have hlt := (Array.getElem?_eq_some_iff.1 h2).1
      rw [World.alloc_heap, Array.getElem?_push_lt hlt]
      rw [← h2, Array.getElem?_eq_getElem hlt]
  inj := fun i j C D b hC hD hrw hl hi hj => by
    rw [T.get_set] at hC hD
    split at hC
    · rename_i e; subst e
      split at hD
      · rename_i e'; exact e'.symm
      · rename_i e'
        simp [Emb.put] at hi
        simp [Emb.put, e'] at hj
        have := hr.lt hD hl hj
        omega
    · rename_i e
      split at hD
      · rename_i e'; subst e'
        simp [Emb.put] at hj
        simp [Emb.put, e] at hi
        have := hr.lt hC (Blk.live_of_rw hrw) hi
        omega
      · rename_i e'
        simp [Emb.put, e, e'] at hi hj
        exact hr.inj i j C D b hC hD hrw hl hi hj

theorem Trans.push {m : Emb} {h : T Blk} {w : World} {id n : Nat} (hid : m.ι id = none) (B : Blk) (o : Obj) :
    Trans m h w (m.put id w.heap.size n) (h.set id B) (w.alloc o) where
  ext := Emb.le_put hid
  size := by rw [World.alloc_heap, Array.size_push]; omega
  frame := fun b hb _ => by rw [World.alloc_heap, Array.getElem?_push_lt hb, Array.getElem?_eq_getElem hb]
  fp := fun b ⟨i, C, hC, hrw, hi⟩ => by
    rw [T.get_set] at hC
    split at hC
    · rename_i e; subst e; simp [Emb.put] at hi; exact .inr (by omega)
    · rename_i e; simp [Emb.put, e] at hi; exact .inl ⟨i, C, hC, hrw, hi⟩
  tape := rfl
  os := rfl
  output := rfl

/-- What is known stays known where a known block is written. -/
theorem HeapR.write {m : Emb} {ρ : Env} {h : T Blk} {w w' : World} (hr : HeapR m ρ h w) {id b : Nat} {B C : Blk} {o : Obj} (hB : h.get id = some B) (hrw : B.rw = true)
    (hb : m.ι id = some b) (ho : w'.heap[b]? = some o) (hC : C.R m ρ (m.κ id) o) (hCrw : C.rw = true)
    (hk : ∀ c, c ≠ b → w'.heap[c]? = w.heap[c]?) : HeapR m ρ (h.set id C) w' where
  blk := fun i D hD hl => by
    rw [T.get_set] at hD
    split at hD
    · rename_i e; cases hD; subst e; exact ⟨b, o, hb, ho, hC⟩
    · rename_i e
      obtain ⟨c, p, h1, h2, h3⟩ := hr.blk i D hD hl
      refine ⟨c, p, h1, ?_, h3⟩
      rw [hk c (fun ec => e ((hr.inj id i B D b hB hD hrw hl hb (ec ▸ h1)).symm)), h2]
  inj := fun i j D D' c hD hD' h1 h2 hi hj => by
    rw [T.get_set] at hD hD'
    split at hD
    · rename_i e; subst e
      split at hD'
      · rename_i e'; exact e'.symm
      · exact hr.inj i j B D' c hB hD' hrw h2 hi hj
    · split at hD'
      · rename_i e'; subst e'
        exact hr.inj i j D B c hD hB h1 (Blk.live_of_rw hrw) hi hj
      · exact hr.inj i j D D' c hD hD' h1 h2 hi hj

theorem Trans.write {m : Emb} {h : T Blk} {w w' : World} {id b : Nat} {B C : Blk} (hB : h.get id = some B) (hrw : B.rw = true) (hb : m.ι id = some b)
    (hk : ∀ c, c ≠ b → w'.heap[c]? = w.heap[c]?) (hs : w'.heap.size = w.heap.size) (ht : w'.tape = w.tape) (ho : w'.os = w.os) (hout : w'.output = w.output) :
    Trans m h w m (h.set id C) w' where
  ext := Emb.le_refl m
  size := by omega
  frame := fun c _ hn => hk c (fun e => hn ⟨id, B, hB, hrw, e ▸ hb⟩)
  fp := fun c ⟨i, D, hD, h1, hi⟩ => by
    rw [T.get_set] at hD
    split at hD
    · rename_i e; subst e; exact .inl ⟨i, B, hB, hrw, hi⟩
    · exact .inl ⟨i, D, hD, h1, hi⟩
  tape := ht
  os := ho
  output := hout

end Go.Eng
