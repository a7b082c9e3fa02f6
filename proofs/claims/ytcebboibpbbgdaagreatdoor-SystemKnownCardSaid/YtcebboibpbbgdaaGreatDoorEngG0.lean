/-
  Symbolic scalars: deep expressions for integers, booleans, byte strings and rows of cells; what they mean under an environment; what is decided of them.
-/
import Derived.Calls
import Derived.Orders
import Derived.WalkKit
namespace Go.Eng

/-- What an expression means: an integer, a boolean, a string, or a row of cells. -/
inductive Sc where
  | I (n : Int) | B (b : Bool) | S (s : ByteArray) | A (l : List Value)
  deriving Inhabited

def Sc.int : Sc → Int | .I n => n | _ => 0
def Sc.bool : Sc → Bool | .B b => b | _ => false
def Sc.str : Sc → ByteArray | .S s => s | _ => ByteArray.empty
def Sc.arr : Sc → List Value | .A l => l | _ => []
def Sc.ofValue : Value → Sc
  | .int _ n => .I n
  | .bool b => .B b
  | .string s => .S s
  | _ => .I 0

@[simp] theorem Sc.int_I (n : Int) : (Sc.I n).int = n := rfl
@[simp] theorem Sc.bool_B (b : Bool) : (Sc.B b).bool = b := rfl
@[simp] theorem Sc.str_S (s : ByteArray) : (Sc.S s).str = s := rfl
@[simp] theorem Sc.arr_A (l : List Value) : (Sc.A l).arr = l := rfl

/-- Rows of cells: a row of one cell; the bytes of a string; the string of bytes; two rows; a row so many times; a row where another one is laid over; a part. -/
inductive RU where
  | cI (k : IntKind) | cB | cS | ofS | toS
  deriving DecidableEq
inductive RB where
  | cat | rep
  deriving DecidableEq
inductive RT where
  | set | sub
  deriving DecidableEq

inductive U where
  | not | len | chr | pow2 | alen | wrap (k : IntKind) | row (o : RU)
  deriving DecidableEq
inductive B2 where
  | add | sub | mul | tdiv | tmod | fdiv | lt | eqi | eqs | lts | eqb | and | or | at | cat | cell | land | lor | lxor
  | bits (o : BinOp) (k : IntKind) | row (o : RB)
  deriving DecidableEq
inductive B3 where
  | ite | sub | app (f : Nat) | row (o : RT)
  deriving DecidableEq

inductive E where
  | vr (n : Nat) | li (n : Int) | lb (w : Bool) | ls (x : ByteArray)
  | un (o : U) (a : E) | bi (o : B2) (a b : E) | tr (o : B3) (a b c : E)
  deriving Inhabited

structure Env where
  v : Nat → Sc
  f : Nat → Sc → Sc → Sc → Sc := fun _ _ _ _ => .I 0

/-- What the operators on bits make (the model's own reckoning). -/
def bitsOf (o : BinOp) (k : IntKind) (x y : Int) : Int :=
  let a := BitVec.ofInt k.bits x
  let b := BitVec.ofInt k.bits y
  match o with
  | .and => k.wrap (a &&& b).toNat
  | .or => k.wrap (a ||| b).toNat
  | .xor => k.wrap (a ^^^ b).toNat
  | _ => k.wrap (a &&& ~~~b).toNat

def byteAt (s : ByteArray) (n : Int) : Int := ((s.data.toList.getD n.toNat 0).toNat : Int)
def chrOf (n : Int) : ByteArray := ⟨#[n.toNat.toUInt8]⟩

def byteCell (b : UInt8) : Value := .int .u8 (b.toNat : Int)
def cellByte : Value → UInt8 | .int _ n => n.toNat.toUInt8 | _ => 0

def RU.ev : RU → Sc → Sc
  | .cI k, a => .A [.int k a.int]
  | .cB, a => .A [.bool a.bool]
  | .cS, a => .A [.string a.str]
  | .ofS, a => .A (a.str.data.toList.map byteCell)
  | .toS, a => .S ⟨(a.arr.map cellByte).toArray⟩

def RB.ev : RB → Sc → Sc → Sc
  | .cat, a, b => .A (a.arr ++ b.arr)
  | .rep, a, b => .A (List.replicate b.int.toNat a.arr).flatten

/-- A row where another one is laid over, if it fits. -/
def setRow (a : List Value) (p : Nat) (r : List Value) : List Value := if p + r.length ≤ a.length then a.take p ++ r ++ a.drop (p + r.length) else a

def RT.ev : RT → Sc → Sc → Sc → Sc
  | .set, a, b, c => .A (setRow a.arr b.int.toNat c.arr)
  | .sub, a, b, c => .A ((a.arr.take c.int.toNat).drop b.int.toNat)

def U.ev : U → Sc → Sc
  | .not, a => .B (!a.bool)
  | .len, a => .I a.str.size
  | .chr, a => .S (chrOf a.int)
  | .pow2, a => .I (2 ^ a.int.toNat)
  | .alen, a => .I a.arr.length
  | .wrap k, a => .I (k.wrap a.int)
  | .row o, a => o.ev a

def B2.ev : B2 → Sc → Sc → Sc
  | .add, a, b => .I (a.int + b.int)
  | .sub, a, b => .I (a.int - b.int)
  | .mul, a, b => .I (a.int * b.int)
  | .tdiv, a, b => .I (a.int.tdiv b.int)
  | .tmod, a, b => .I (a.int.tmod b.int)
  | .fdiv, a, b => .I (a.int.fdiv b.int)
  | .lt, a, b => .B (decide (a.int < b.int))
  | .eqi, a, b => .B (decide (a.int = b.int))
  | .eqs, a, b => .B (decide (a.str = b.str))
  | .lts, a, b => .B (Op.bytesLess a.str.toList b.str.toList)
  | .eqb, a, b => .B (decide (a.bool = b.bool))
  | .and, a, b => .B (a.bool && b.bool)
  | .or, a, b => .B (a.bool || b.bool)
  | .at, a, b => .I (byteAt a.str b.int)
  | .cat, a, b => .S (a.str ++ b.str)
  | .cell, a, b => Sc.ofValue (a.arr.getD b.int.toNat undef)
  | .land, a, b => .I (a.int.toNat &&& b.int.toNat : Nat)
  | .lor, a, b => .I (a.int.toNat ||| b.int.toNat : Nat)
  | .lxor, a, b => .I (a.int.toNat ^^^ b.int.toNat : Nat)
  | .bits o k, a, b => .I (bitsOf o k a.int b.int)
  | .row o, a, b => o.ev a b

def B3.ev (ρ : Env) : B3 → Sc → Sc → Sc → Sc
  | .ite, a, b, c => if a.bool then b else c
  | .sub, a, b, c => .S (a.str.extract b.int.toNat c.int.toNat)
  | .app f, a, b, c => ρ.f f a b c
  | .row o, a, b, c => o.ev a b c

def E.ev (ρ : Env) : E → Sc
  | .vr n => ρ.v n
  | .li n => .I n
  | .lb w => .B w
  | .ls x => .S x
  | .un o a => o.ev (a.ev ρ)
  | .bi o a b => o.ev (a.ev ρ) (b.ev ρ)
  | .tr o a b c => o.ev ρ (a.ev ρ) (b.ev ρ) (c.ev ρ)

def E.same : E → E → Bool
  | .vr n, .vr m => n == m
  | .li n, .li m => decide (n = m)
  | .lb x, .lb y => x == y
  | .ls x, .ls y => decide (x.data.toList = y.data.toList)
  | .un o a, .un p b => decide (o = p) && a.same b
  | .bi o a b, .bi p c d => decide (o = p) && (a.same c && b.same d)
  | .tr o a b c, .tr p d e f => decide (o = p) && (a.same d && (b.same e && c.same f))
  | _, _ => false

theorem E.same_eq : ∀ {a b : E}, a.same b = true → a = b := by
  intro a
  induction a with
  | vr n => intro b h; cases b <;> simp_all [E.same]
  | li n => intro b h; cases b <;> simp_all [E.same]
  | lb w => intro b h; cases b <;> simp_all [E.same]
  | ls x =>
    intro b h
    cases b <;> simp_all [E.same]
    rename_i y
    obtain ⟨x⟩ := x; obtain ⟨y⟩ := y
    simp at h
    rw [h]
  | un o a ih => intro b h; cases b <;> simp_all [E.same]; exact ih h.2
  | bi o a b iha ihb => intro c h; cases c <;> simp_all [E.same]; exact ⟨iha h.2.1, ihb h.2.2⟩
  | tr o a b c iha ihb ihc => intro d h; cases d <;> simp_all [E.same]; exact ⟨iha h.2.1, ihb h.2.2.1, ihc h.2.2.2⟩

/-- What is known of the environment: tests that are decided, and bounds of expressions. -/
structure Facts where
  conds : List (E × Bool) := []
  bnds : List (E × Int × Int) := []
  eqs : List (E × E) := []
  sem : Env → Prop := fun _ => True

structure Facts.ok (F : Facts) (ρ : Env) : Prop where
  conds : ∀ p ∈ F.conds, (p.1.ev ρ).bool = p.2
  bnds : ∀ p ∈ F.bnds, p.2.1 ≤ (p.1.ev ρ).int ∧ (p.1.ev ρ).int ≤ p.2.2
  eqs : ∀ p ∈ F.eqs, p.1.ev ρ = p.2.ev ρ
  sem : F.sem ρ

def findE {β : Type} (e : E) : List (E × β) → Option β
  | [] => none
  | (a, x) :: r => if a.same e then some x else findE e r

theorem findE_mem {β : Type} {e : E} {x : β} : ∀ {l : List (E × β)}, findE e l = some x → (e, x) ∈ l
  | [], h => by simp [findE] at h
  | (a, y) :: r, h => by
    simp only [findE] at h
    split at h
    · rename_i hs
      have := E.same_eq hs
      subst this
      simp at h; subst h; simp
    · exact List.mem_cons_of_mem _ (findE_mem h)

/-- The bounds of an expression (none: not known). -/
def bnd2 (f : Int → Int → Int) : Option Int → Option Int → Option Int
  | some a, some b => some (f a b)
  | _, _ => none

abbrev Rng := Option Int × Option Int

def Rng.has (r : Rng) (n : Int) : Prop := (∀ a, r.1 = some a → a ≤ n) ∧ (∀ b, r.2 = some b → n ≤ b)

theorem Rng.has_none (n : Int) : Rng.has (none, none) n := ⟨by simp, by simp⟩

def kindRng (k : IntKind) : Rng := (some k.min, some k.max)

theorem wrap_rng (k : IntKind) (n : Int) : k.min ≤ k.wrap n ∧ k.wrap n ≤ k.max := by
  cases k <;> simp [IntKind.min, IntKind.max, IntKind.wrap, IntKind.signed, IntKind.bits] <;> omega

theorem wrap_id {k : IntKind} {n : Int} (h1 : k.min ≤ n) (h2 : n ≤ k.max) : k.wrap n = n := by
  cases k <;> simp [IntKind.min, IntKind.max, IntKind.wrap, IntKind.signed, IntKind.bits] at * <;> omega

theorem byteAt_rng (s : ByteArray) (n : Int) : 0 ≤ byteAt s n ∧ byteAt s n ≤ 255 := by
  unfold byteAt
  have := (s.data.toList.getD n.toNat 0).toNat_lt
  omega

def litI? : E → Option Int
  | .li n => some n
  | _ => none

/-- The least and the greatest byte of a piece of a string. -/
def byteRng (x : ByteArray) (lo : Int) : Nat → Int × Int
  | 0 => (byteAt x lo, byteAt x lo)
  | n + 1 => let r := byteRng x (lo + 1) n; (min (byteAt x lo) r.1, max (byteAt x lo) r.2)

theorem byteRng_spec (x : ByteArray) : ∀ (n : Nat) (lo k : Int), lo ≤ k → k ≤ lo + n → (byteRng x lo n).1 ≤ byteAt x k ∧ byteAt x k ≤ (byteRng x lo n).2
  | 0, lo, k, h1, h2 => by
    have : k = lo := by simp at h2; omega
    subst this
    exact ⟨Int.le_refl _, Int.le_refl _⟩
  | n + 1, lo, k, h1, h2 => by
    simp only [byteRng]
    by_cases e : k = lo
    · subst e; omega
    · have := byteRng_spec x n (lo + 1) k (by omega) (by omega)
      omega

/-- The range of what an operator on bits makes, the second number told or not. -/
def andRng (o : BinOp) (k : IntKind) (c : Option Int) : Rng := match o, c with
  | .and, some c => if k.min = 0 ∧ 0 ≤ c ∧ c ≤ k.max then (some 0, some c) else kindRng k
  | _, _ => kindRng k

theorem bitsOf_rng (o : BinOp) (k : IntKind) (x y : Int) : k.min ≤ bitsOf o k x y ∧ bitsOf o k x y ≤ k.max := by
  unfold bitsOf
  cases o <;> exact wrap_rng _ _

theorem and_le (k : IntKind) (x c : Int) (h0 : k.min = 0) (h1 : 0 ≤ c) (h2 : c ≤ k.max) : 0 ≤ bitsOf .and k x c ∧ bitsOf .and k x c ≤ c := by
  have hc : (BitVec.ofInt k.bits c).toNat = c.toNat := by
    rw [BitVec.toNat_ofInt]
    have : c < 2 ^ k.bits := by
      cases k <;> simp [IntKind.min, IntKind.max, IntKind.signed, IntKind.bits] at * <;> omega
    rw [Int.emod_eq_of_lt h1 (by simpa using this)]
  have hle : ((BitVec.ofInt k.bits x) &&& (BitVec.ofInt k.bits c)).toNat ≤ c.toNat := by
    rw [BitVec.toNat_and, hc]; exact Nat.and_le_right
  have hn : (0 : Int) ≤ (((BitVec.ofInt k.bits x) &&& (BitVec.ofInt k.bits c)).toNat : Int) := Int.natCast_nonneg _
  have hm : (((BitVec.ofInt k.bits x) &&& (BitVec.ofInt k.bits c)).toNat : Int) ≤ c := by omega
  have e : bitsOf .and k x c = (((BitVec.ofInt k.bits x) &&& (BitVec.ofInt k.bits c)).toNat : Int) := by
    unfold bitsOf
    exact wrap_id (by omega) (by omega)
  rw [e]
  exact ⟨hn, hm⟩

theorem andRng_has {o : BinOp} {k : IntKind} {c : Option Int} {x y : Int} (h : ∀ n, c = some n → y = n) : (andRng o k c).has (bitsOf o k x y) := by
  have h0 := bitsOf_rng o k x y
  have hk : (kindRng k).has (bitsOf o k x y) := ⟨fun _ e => by cases e; exact h0.1, fun _ e => by cases e; exact h0.2⟩
  unfold andRng
  split
  · rename_i c
    split
    · rename_i hc
      rw [h c rfl]
      have := and_le k x c hc.1 hc.2.1 hc.2.2
      exact ⟨fun _ e => by cases e; exact this.1, fun _ e => by cases e; exact this.2⟩
    · exact hk
  · exact hk

def E.rng (F : Facts) : E → Rng
  | .li n => (some n, some n)
  | .un .len a => match findE (.un .len a) F.bnds with | some (x, y) => (some (max x 0), some y) | none => (some 0, none)
  | .un .alen a => match findE (.un .alen a) F.bnds with | some (x, y) => (some (max x 0), some y) | none => (some 0, none)
  | .un (.wrap k) a => match findE (.un (.wrap k) a) F.bnds with
    | some (x, y) => (some (max x k.min), some (min y k.max))
    | none => kindRng k
  | .bi .add a b => match findE (.bi .add a b) F.bnds with
    | some (x, y) => (some x, some y)
    | none => let r := a.rng F; let q := b.rng F; (bnd2 (· + ·) r.1 q.1, bnd2 (· + ·) r.2 q.2)
  | .bi .sub a b => match findE (.bi .sub a b) F.bnds with
    | some (x, y) => (some x, some y)
    | none => let r := a.rng F; let q := b.rng F; (bnd2 (· - ·) r.1 q.2, bnd2 (· - ·) r.2 q.1)
  | .bi .mul a b => match findE (.bi .mul a b) F.bnds with
    | some (x, y) => (some x, some y)
    | none => match litI? b with
      | some c => if 0 ≤ c then let r := a.rng F; (r.1.map (· * c), r.2.map (· * c)) else (none, none)
      | none => (none, none)
  | .bi .at a b => match findE (.bi .at a b) F.bnds with
    | some (x, y) => (some (max x 0), some (min y 255))
    | none => match a, b.rng F with
      | .ls x, (some lo, some hi) => if lo ≤ hi ∧ hi - lo ≤ 300 then (let r := byteRng x lo (hi - lo).toNat; (some r.1, some r.2)) else (some 0, some 255)
      | _, _ => (some 0, some 255)
  | .bi .fdiv a b => match findE (.bi .fdiv a b) F.bnds with
    | some (x, y) => (some x, some y)
    | none => match litI? b with
      | some c => if 0 < c then (let r := a.rng F; (r.1.map (·.fdiv c), r.2.map (·.fdiv c))) else (none, none)
      | none => (none, none)
  | .bi .tmod a b => match findE (.bi .tmod a b) F.bnds with
    | some (x, y) => (some x, some y)
    | none => match litI? b, a.rng F with
      | some c, (some l, some h) => if 0 < c ∧ 0 ≤ l then (if l = h then (some (l.tmod c), some (l.tmod c)) else (some 0, some (c - 1))) else (none, none)
      | some c, (some l, none) => if 0 < c ∧ 0 ≤ l then (some 0, some (c - 1)) else (none, none)
      | _, _ => (none, none)
  | .bi .tdiv a b => match findE (.bi .tdiv a b) F.bnds with
    | some (x, y) => (some x, some y)
    | none => match litI? b, a.rng F with
      | some c, (some l, h) => if 0 < c ∧ 0 ≤ l then (some (l.tdiv c), h.map (·.tdiv c)) else (none, none)
      | _, _ => (none, none)
  | .bi (.bits o k) a b => match findE (.bi (.bits o k) a b) F.bnds with
    | some (x, y) => (some (max x k.min), some (min y k.max))
    | none => match a.rng F, b.rng F with
      | (some x, some x'), (some y, some y') => if x = x' ∧ y = y' then (some (bitsOf o k x y), some (bitsOf o k x y)) else andRng o k (litI? b)
      | _, _ => andRng o k (litI? b)
  | .un .pow2 a => match findE (.un .pow2 a) F.bnds with
    | some (x, y) => (some x, some y)
    | none => match a.rng F with
      | (some x, some x') => if x = x' then (some (2 ^ x.toNat), some (2 ^ x.toNat)) else (none, none)
      | _ => (none, none)
  | .tr .ite c a b => match findE (.tr .ite c a b) F.bnds with
    | some (x, y) => (some x, some y)
    | none => let r := a.rng F; let q := b.rng F; (bnd2 min r.1 q.1, bnd2 max r.2 q.2)
  | e => match findE e F.bnds with | some (x, y) => (some x, some y) | none => (none, none)

theorem bnds_rng {F : Facts} {ρ : Env} (hF : F.ok ρ) {e : E} {x y : Int} (h : findE e F.bnds = some (x, y)) :
    x ≤ (e.ev ρ).int ∧ (e.ev ρ).int ≤ y := hF.bnds _ (findE_mem h)

theorem has_of {x y n : Int} (h : x ≤ n ∧ n ≤ y) : Rng.has (some x, some y) n :=
  ⟨fun _ e => by cases e; exact h.1, fun _ e => by cases e; exact h.2⟩

theorem has_bnds {F : Facts} {ρ : Env} (hF : F.ok ρ) (e : E) :
    Rng.has (match findE e F.bnds with | some (x, y) => (some x, some y) | none => (none, none)) (e.ev ρ).int := by
  split
  · rename_i h; exact has_of (bnds_rng hF h)
  · exact Rng.has_none _

theorem tdiv_mono {a b c : Int} (hc : 0 < c) (ha : 0 ≤ a) (h : a ≤ b) : a.tdiv c ≤ b.tdiv c := by
  rw [Int.tdiv_eq_ediv_of_nonneg ha, Int.tdiv_eq_ediv_of_nonneg (by omega)]
  exact Int.ediv_le_ediv hc h

theorem E.rng_has {F : Facts} {ρ : Env} (hF : F.ok ρ) : ∀ e : E, (e.rng F).has (e.ev ρ).int := by
  intro e
  induction e with
  | vr n => exact has_bnds hF _
  | li n => exact has_of ⟨Int.le_refl _, Int.le_refl _⟩
  | lb w => exact has_bnds hF _
  | ls x => exact has_bnds hF _
  | un o a ih =>
    cases o with
    | len =>
      simp only [E.rng]
      have h0 : (0 : Int) ≤ ((E.un .len a).ev ρ).int := by simp [E.ev, U.ev, Sc.int]
      split
      · rename_i h; have := bnds_rng hF h; exact has_of ⟨by omega, this.2⟩
      · exact ⟨fun _ e => by cases e; exact h0, by simp⟩
    | alen =>
      simp only [E.rng]
      have h0 : (0 : Int) ≤ ((E.un .alen a).ev ρ).int := by simp [E.ev, U.ev, Sc.int]
      split
      · rename_i h; have := bnds_rng hF h; exact has_of ⟨by omega, this.2⟩
      · exact ⟨fun _ e => by cases e; exact h0, by simp⟩
    | wrap k =>
      simp only [E.rng]
      have h0 : k.min ≤ ((E.un (.wrap k) a).ev ρ).int ∧ ((E.un (.wrap k) a).ev ρ).int ≤ k.max := by
        simp only [E.ev, U.ev, Sc.int_I]; exact wrap_rng _ _
      split
      · rename_i h; have := bnds_rng hF h; exact has_of ⟨by omega, by omega⟩
      · exact has_of h0
    | pow2 =>
      simp only [E.rng]
      split
      · rename_i h; exact has_of (bnds_rng hF h)
      · split
        · rename_i x x' ea
          split
          · rename_i hx
            rw [ea] at ih
            have q1 := ih.1 _ rfl; have q2 := ih.2 _ rfl
            have e1 : (a.ev ρ).int = x := by omega
            simp only [E.ev, U.ev, Sc.int_I, e1]
            exact has_of ⟨Int.le_refl _, Int.le_refl _⟩
          · exact Rng.has_none _
        · exact Rng.has_none _
    | _ => exact has_bnds hF _
  | bi o a b iha ihb =>
    cases o with
    | add =>
      simp only [E.rng]
      split
      · rename_i h; exact has_of (bnds_rng hF h)
      · simp only [E.ev, B2.ev, Sc.int_I]
        constructor
        · intro x hx
          simp only [bnd2] at hx; split at hx
          · rename_i h1 h2; cases hx; have := iha.1 _ h1; have := ihb.1 _ h2; omega
          · cases hx
        · intro x hx
          simp only [bnd2] at hx; split at hx
          · rename_i h1 h2; cases hx; have := iha.2 _ h1; have := ihb.2 _ h2; omega
          · cases hx
    | sub =>
      simp only [E.rng]
      split
      · rename_i h; exact has_of (bnds_rng hF h)
      · simp only [E.ev, B2.ev, Sc.int_I]
        constructor
        · intro x hx
          simp only [bnd2] at hx; split at hx
          · rename_i h1 h2; cases hx; have := iha.1 _ h1; have := ihb.2 _ h2; omega
          · cases hx
        · intro x hx
          simp only [bnd2] at hx; split at hx
          · rename_i h1 h2; cases hx; have := iha.2 _ h1; have := ihb.1 _ h2; omega
          · cases hx
    | mul =>
      simp only [E.rng]
      split
      · rename_i h; exact has_of (bnds_rng hF h)
      · split
        · rename_i c hc
          split
          · rename_i h0
            have hb : b = .li c := by cases b <;> simp_all [litI?]
            subst hb
            simp only [E.ev, B2.ev, Sc.int_I]
            constructor
            · intro x hx
              simp only [Option.map_eq_some_iff] at hx
              obtain ⟨y, hy, rfl⟩ := hx
              exact Int.mul_le_mul_of_nonneg_right (iha.1 _ hy) h0
            · intro x hx
              simp only [Option.map_eq_some_iff] at hx
              obtain ⟨y, hy, rfl⟩ := hx
              exact Int.mul_le_mul_of_nonneg_right (iha.2 _ hy) h0
          · exact Rng.has_none _
        · exact Rng.has_none _
    | «at» =>
      simp only [E.rng]
      have h0 : 0 ≤ ((E.bi .at a b).ev ρ).int ∧ ((E.bi .at a b).ev ρ).int ≤ 255 := by
        simp only [E.ev, B2.ev, Sc.int_I]; exact byteAt_rng _ _
      split
      · rename_i h; have := bnds_rng hF h; exact has_of ⟨by omega, by omega⟩
      · split
        · rename_i x lo hi hr _
          split
          · have h1 := ihb.1 lo (by rw [hr])
            have h2 := ihb.2 hi (by rw [hr])
            exact has_of (byteRng_spec x (hi - lo).toNat lo (b.ev ρ).int h1 (by omega))
          · exact has_of h0
        · exact has_of h0
    | bits o k =>
      simp only [E.rng]
      have h0 : k.min ≤ ((E.bi (.bits o k) a b).ev ρ).int ∧ ((E.bi (.bits o k) a b).ev ρ).int ≤ k.max := by
        simp only [E.ev, B2.ev, Sc.int_I]; exact bitsOf_rng _ _ _ _
      split
      · rename_i h; have := bnds_rng hF h; exact has_of ⟨by omega, by omega⟩
      · have hand : (andRng o k (litI? b)).has ((E.bi (.bits o k) a b).ev ρ).int := by
          simp only [E.ev, B2.ev, Sc.int_I]
          refine andRng_has fun n hn => ?_
          have hb : b = .li n := by cases b <;> simp_all [litI?]
          rw [hb]; rfl
        split
        · rename_i x x' y y' ea eb
          split
          · rename_i hxy
            rw [ea] at iha; rw [eb] at ihb
            have q1 := iha.1 _ rfl; have q2 := iha.2 _ rfl
            have q3 := ihb.1 _ rfl; have q4 := ihb.2 _ rfl
            have e1 : (a.ev ρ).int = x := by omega
            have e2 : (b.ev ρ).int = y := by omega
            simp only [E.ev, B2.ev, Sc.int_I, e1, e2]
            exact has_of ⟨Int.le_refl _, Int.le_refl _⟩
          · exact hand
        · exact hand
    | fdiv =>
      simp only [E.rng]
      split
      · rename_i h; exact has_of (bnds_rng hF h)
      · split
        · rename_i c hc
          split
          · rename_i h0
            have hb : b = .li c := by cases b <;> simp_all [litI?]
            subst hb
            simp only [E.ev, B2.ev, Sc.int_I]
            constructor
            · intro x hx
              simp only [Option.map_eq_some_iff] at hx
              obtain ⟨y, hy, rfl⟩ := hx
              rw [Int.fdiv_eq_ediv_of_nonneg _ (by omega), Int.fdiv_eq_ediv_of_nonneg _ (by omega)]
              exact Int.ediv_le_ediv h0 (iha.1 _ hy)
            · intro x hx
              simp only [Option.map_eq_some_iff] at hx
              obtain ⟨y, hy, rfl⟩ := hx
              rw [Int.fdiv_eq_ediv_of_nonneg _ (by omega), Int.fdiv_eq_ediv_of_nonneg _ (by omega)]
              exact Int.ediv_le_ediv h0 (iha.2 _ hy)
          · exact Rng.has_none _
        · exact Rng.has_none _
    | tmod =>
      simp only [E.rng]
      split
      · rename_i h; exact has_of (bnds_rng hF h)
      · have gen : ∀ (c l : Int), litI? b = some c → (a.rng F).1 = some l → 0 < c → 0 ≤ l → Rng.has (some 0, some (c - 1)) ((E.bi .tmod a b).ev ρ).int := by
          intro c l hc hl h1 h2
          have hb : b = .li c := by cases b <;> simp_all [litI?]
          subst hb
          have := iha.1 _ hl
          simp only [E.ev, B2.ev, Sc.int_I]
          have hn : 0 ≤ (a.ev ρ).int := by omega
          rw [Int.tmod_eq_emod_of_nonneg hn]
          exact has_of ⟨Int.emod_nonneg _ (by omega), by have := Int.emod_lt_of_pos (a.ev ρ).int h1; omega⟩
        split
        · rename_i c l h' hc hl
          split
          · rename_i h0
            split
            · rename_i hlh
              have hb : b = .li c := by cases b <;> simp_all [litI?]
              subst hb
              have q1 := iha.1 l (by rw [hl])
              have q2 := iha.2 h' (by rw [hl])
              have e : (a.ev ρ).int = l := by omega
              simp only [E.ev, B2.ev, Sc.int_I, e]
              exact has_of ⟨Int.le_refl _, Int.le_refl _⟩
            · exact gen c l hc (by rw [hl]) h0.1 h0.2
          · exact Rng.has_none _
        · rename_i c l hc hl
          split
          · rename_i h0; exact gen c l hc (by rw [hl]) h0.1 h0.2
          · exact Rng.has_none _
        · exact Rng.has_none _
    | tdiv =>
      simp only [E.rng]
      split
      · rename_i h; exact has_of (bnds_rng hF h)
      · split
        · rename_i c l hh hc hl
          split
          · rename_i h0
            have hb : b = .li c := by cases b <;> simp_all [litI?]
            subst hb
            have h1 := iha.1 l (by rw [hl])
            simp only [E.ev, B2.ev, Sc.int_I]
            refine ⟨fun x hx => ?_, fun x hx => ?_⟩
            · cases hx; exact tdiv_mono h0.1 h0.2 h1
            · simp only [Option.map_eq_some_iff] at hx
              obtain ⟨y, hy, rfl⟩ := hx
              exact tdiv_mono h0.1 (by omega) (iha.2 y (by rw [hl]; exact hy))
          · exact Rng.has_none _
        · exact Rng.has_none _
    | _ => exact has_bnds hF _
  | tr o a b c iha ihb ihc =>
    cases o with
    | ite =>
      simp only [E.rng]
      split
      · rename_i h; exact has_of (bnds_rng hF h)
      · simp only [E.ev, B3.ev]
        constructor
        · intro x hx
          simp only [bnd2] at hx; split at hx
          · rename_i h1 h2; cases hx; have := ihb.1 _ h1; have := ihc.1 _ h2; split <;> omega
          · cases hx
        · intro x hx
          simp only [bnd2] at hx; split at hx
          · rename_i h1 h2; cases hx; have := ihb.2 _ h1; have := ihc.2 _ h2; split <;> omega
          · cases hx
    | _ => exact has_bnds hF _

end Go.Eng

/-
  What is decided of symbolic tests, and how expressions are made small: each step keeps what the expression means.
-/
namespace Go.Eng

def ltR (r q : Rng) : Option Bool :=
  match r.2, q.1 with
  | some h, some l => if h < l then some true else
    match r.1, q.2 with
    | some l', some h' => if h' ≤ l' then some false else none
    | _, _ => none
  | _, _ =>
    match r.1, q.2 with
    | some l', some h' => if h' ≤ l' then some false else none
    | _, _ => none

theorem ltR_sound {r q : Rng} {x y : Int} {b : Bool} (h : ltR r q = some b) (hr : r.has x) (hq : q.has y) : decide (x < y) = b := by
  unfold ltR at h
  have hh := hr.2; have hl := hr.1; have gh := hq.2; have gl := hq.1
  split at h
  · rename_i a c e1 e2
    have h1 := hh _ e1; have h2 := gl _ e2
    split at h
    · cases h; simp; omega
    · split at h
      · rename_i a' c' e3 e4
        have h3 := hl _ e3; have h4 := gh _ e4
        split at h
        · cases h; simp; omega
        · cases h
      · cases h
  · split at h
    · rename_i a' c' e3 e4
      have h3 := hl _ e3; have h4 := gh _ e4
      split at h
      · cases h; simp; omega
      · cases h
    · cases h

def eqR (r q : Rng) : Option Bool :=
  if ltR r q = some true then some false else if ltR q r = some true then some false else
  match r, q with
  | (some a, some b), (some c, some d) => if a = b ∧ c = d ∧ a = c then some true else none
  | _, _ => none

theorem eqR_sound {r q : Rng} {x y : Int} {b : Bool} (h : eqR r q = some b) (hr : r.has x) (hq : q.has y) : decide (x = y) = b := by
  unfold eqR at h
  split at h
  · rename_i h1; cases h; have := ltR_sound h1 hr hq; simp at this; simp; omega
  · split at h
    · rename_i h1; cases h; have := ltR_sound h1 hq hr; simp at this; simp; omega
    · rename_i n1 n2; clear n1 n2
      obtain ⟨r1, r2⟩ := r; obtain ⟨q1, q2⟩ := q
      cases r1 <;> cases r2 <;> cases q1 <;> cases q2 <;> simp only [reduceCtorEq] at h
      rename_i a b' c d
      split at h
      · rename_i e; cases h
        have := hr.1 a rfl; have := hr.2 b' rfl; have := hq.1 c rfl; have := hq.2 d rfl
        simp; omega
      · cases h

def litS? : E → Option ByteArray
  | .ls x => some x
  | _ => none

theorem litS?_eq {e : E} {x : ByteArray} (h : litS? e = some x) : e = .ls x := by cases e <;> simp_all [litS?]

def addI : E → E → E
  | .li n, .li m => .li (n + m)
  | .bi .add x (.li n), .li m => if n + m = 0 then x else .bi .add x (.li (n + m))
  | a, .li m => if m = 0 then a else .bi .add a (.li m)
  | .li m, b => if m = 0 then b else .bi .add b (.li m)
  | a, b => .bi .add a b

theorem addI_int (ρ : Env) (a b : E) : ((addI a b).ev ρ).int = (a.ev ρ).int + (b.ev ρ).int := by
  unfold addI
  split
  · rfl
  · split <;> simp [E.ev, B2.ev] <;> omega
  · split <;> simp [E.ev, B2.ev] ; omega
  · split <;> simp [E.ev, B2.ev] <;> omega
  · rfl

def lenS : E → E
  | .ls x => .li x.size
  | .un .chr _ => .li 1
  | .bi .cat a b => addI (lenS a) (lenS b)
  | e => .un .len e

theorem chrOf_size (n : Int) : (chrOf n).size = 1 := rfl

theorem lenS_int (ρ : Env) : ∀ e : E, ((lenS e).ev ρ).int = ((e.ev ρ).str.size : Int) := by
  intro e
  induction e with
  | ls x => rfl
  | un o a _ => cases o <;> first | rfl | simp [lenS, E.ev, U.ev, chrOf_size]
  | bi o a b iha ihb =>
    cases o <;> first | rfl | skip
    simp [lenS, addI_int, iha, ihb, E.ev, B2.ev, ByteArray.size_append]
  | vr n => rfl
  | li n => rfl
  | lb w => rfl
  | tr o a b c _ _ _ => rfl

def orElse' {α : Type} (a : Option α) (b : Option α) : Option α := match a with | some x => some x | none => b

def E.dec (F : Facts) : E → Option Bool
  | .lb w => some w
  | .un .not a => (a.dec F).map (!·)
  | .bi .and a b => match a.dec F, b.dec F with
    | some false, _ => some false
    | _, some false => some false
    | some true, some true => some true
    | _, _ => findE (.bi .and a b) F.conds
  | .bi .or a b => match a.dec F, b.dec F with
    | some true, _ => some true
    | _, some true => some true
    | some false, some false => some false
    | _, _ => findE (.bi .or a b) F.conds
  | .bi .lt a b => match findE (.bi .lt a b) F.conds with
    | some w => some w
    | none => ltR (a.rng F) (b.rng F)
  | .bi .eqi a b => match findE (.bi .eqi a b) F.conds with
    | some w => some w
    | none => if a.same b then some true else eqR (a.rng F) (b.rng F)
  | .bi .eqs a b => match findE (.bi .eqs a b) F.conds with
    | some w => some w
    | none => if a.same b then some true else match litS? a, litS? b with
      | some x, some y => some (decide (x.data.toList = y.data.toList))
      | _, _ => match lenS a, lenS b with
        | .li n, .li m => if n = m then none else some false
        | _, _ => none
  | .bi .eqb a b => match findE (.bi .eqb a b) F.conds with
    | some w => some w
    | none => if a.same b then some true else match a.dec F, b.dec F with
      | some x, some y => some (x == y)
      | _, _ => none
  | .tr .ite c a b => match findE (.tr .ite c a b) F.conds with
    | some w => some w
    | none => match c.dec F, a.dec F, b.dec F with
      | some true, x, _ => x
      | some false, _, y => y
      | none, some x, some y => if x = y then some x else none
      | _, _, _ => none
  | e => findE e F.conds

theorem conds_dec {F : Facts} {ρ : Env} (hF : F.ok ρ) {e : E} {w : Bool} (h : findE e F.conds = some w) : (e.ev ρ).bool = w :=
  hF.conds _ (findE_mem h)

theorem ext_str {x y : ByteArray} : x = y ↔ x.data.toList = y.data.toList := by
  obtain ⟨⟨x⟩⟩ := x; obtain ⟨⟨y⟩⟩ := y
  simp

theorem E.dec_sound {F : Facts} {ρ : Env} (hF : F.ok ρ) : ∀ {e : E} {w : Bool}, e.dec F = some w → (e.ev ρ).bool = w := by
  intro e
  induction e with
  | lb v => intro w h; simp [E.dec] at h; subst h; rfl
  | vr n => intro w h; exact conds_dec hF h
  | li n => intro w h; exact conds_dec hF h
  | ls x => intro w h; exact conds_dec hF h
  | un o a ih =>
    intro w h
    cases o with
    | not =>
      simp only [E.dec, Option.map_eq_some_iff] at h
      obtain ⟨v, hv, rfl⟩ := h
      simp [E.ev, U.ev, ih hv]
    | _ => exact conds_dec hF h
  | bi o a b iha ihb =>
    intro w h
    cases o with
    | and =>
      simp only [E.dec] at h
      split at h
      · rename_i h1; cases h; simp [E.ev, B2.ev, iha h1]
      · rename_i h1 _; cases h; simp [E.ev, B2.ev, ihb h1]
      · rename_i h1 h2; cases h; simp [E.ev, B2.ev, iha h1, ihb h2]
      · exact conds_dec hF h
    | or =>
      simp only [E.dec] at h
      split at h
      · rename_i h1; cases h; simp [E.ev, B2.ev, iha h1]
      · rename_i h1 _; cases h; simp [E.ev, B2.ev, ihb h1]
      · rename_i h1 h2; cases h; simp [E.ev, B2.ev, iha h1, ihb h2]
      · exact conds_dec hF h
    | lt =>
      simp only [E.dec] at h
      split at h
      · rename_i h1; cases h; exact conds_dec hF h1
      · simp only [E.ev, B2.ev, Sc.bool_B]; exact ltR_sound h (E.rng_has hF a) (E.rng_has hF b)
    | eqi =>
      simp only [E.dec] at h
      split at h
      · rename_i h1; cases h; exact conds_dec hF h1
      · split at h
        · rename_i hs; cases h; have := E.same_eq hs; subst this; simp [E.ev, B2.ev]
        · simp only [E.ev, B2.ev, Sc.bool_B]; exact eqR_sound h (E.rng_has hF a) (E.rng_has hF b)
    | eqs =>
      simp only [E.dec] at h
      split at h
      · rename_i h1; cases h; exact conds_dec hF h1
      · split at h
        · rename_i hs; cases h; have := E.same_eq hs; subst this; simp [E.ev, B2.ev]
        · split at h
          · rename_i x y e1 e2
            cases h
            rw [litS?_eq e1, litS?_eq e2]
            simp [E.ev, B2.ev, ext_str]
          · split at h
            · rename_i n m e1 e2
              split at h
              · cases h
              · rename_i hne
                cases h
                have h1 := lenS_int ρ a
                have h2 := lenS_int ρ b
                rw [e1] at h1; rw [e2] at h2
                simp only [E.ev, Sc.int_I] at h1 h2
                simp only [E.ev, B2.ev, Sc.bool_B, decide_eq_false_iff_not]
                intro he
                rw [he] at h1
                omega
            · cases h
    | eqb =>
      simp only [E.dec] at h
      split at h
      · rename_i h1; cases h; exact conds_dec hF h1
      · split at h
        · rename_i hs; cases h; have := E.same_eq hs; subst this; simp [E.ev, B2.ev]
        · split at h
          · rename_i x y e1 e2
            cases h
            simp only [E.ev, B2.ev, Sc.bool_B, iha e1, ihb e2]
            cases x <;> cases y <;> rfl
          · cases h
    | _ => exact conds_dec hF h
  | tr o c a b ihc iha ihb =>
    intro w h
    cases o with
    | ite =>
      simp only [E.dec] at h
      split at h
      · rename_i h1; cases h; exact conds_dec hF h1
      · split at h
        · rename_i h1; simp [E.ev, B3.ev, ihc h1, iha h]
        · rename_i h1; simp [E.ev, B3.ev, ihc h1, ihb h]
        · rename_i x y h1 h2 h3
          split at h
          · rename_i hxy; cases h; subst hxy; simp only [E.ev, B3.ev]; split
            · exact iha h2
            · exact ihb h3
          · cases h
        · cases h
    | _ => exact conds_dec hF h

/-- Made small: an expression whose integer counts. -/
def inKind (F : Facts) (k : IntKind) (a : E) : Bool :=
  match a.rng F with
  | (some l, some h) => decide (k.min ≤ l) && decide (h ≤ k.max)
  | _ => false

theorem inKind_sound {F : Facts} {ρ : Env} (hF : F.ok ρ) {k : IntKind} {a : E} (h : inKind F k a = true) : k.wrap (a.ev ρ).int = (a.ev ρ).int := by
  unfold inKind at h
  have hr := E.rng_has hF a
  split at h
  · rename_i l h' he
    simp at h
    rw [he] at hr
    have := hr.1 l rfl; have := hr.2 h' rfl
    exact wrap_id (by omega) (by omega)
  · cases h

def subI (a b : E) : E :=
  if a.same b then .li 0 else
  match b with
  | .li m => addI a (.li (-m))
  | b => .bi .sub a b

theorem subI_int (ρ : Env) (a b : E) : ((subI a b).ev ρ).int = (a.ev ρ).int - (b.ev ρ).int := by
  unfold subI
  split
  · rename_i h; rw [E.same_eq h]; simp [E.ev]
  · split
    · rw [addI_int]; simp [E.ev]; omega
    · rfl

def mulI : E → E → E
  | .li n, .li m => .li (n * m)
  | a, .li m => if m = 1 then a else if m = 0 then .li 0 else .bi .mul a (.li m)
  | .li m, b => if m = 1 then b else if m = 0 then .li 0 else .bi .mul b (.li m)
  | a, b => .bi .mul a b

theorem mulI_int (ρ : Env) (a b : E) : ((mulI a b).ev ρ).int = (a.ev ρ).int * (b.ev ρ).int := by
  unfold mulI
  split
  · rfl
  · split
    · rename_i h; simp [E.ev, h]
    · split
      · rename_i h; simp [E.ev, h]
      · rfl
  · split
    · rename_i h; simp [E.ev, h]
    · split
      · rename_i h; simp [E.ev, h]
      · simp [E.ev, B2.ev, Int.mul_comm]
  · rfl

def wrapI (F : Facts) (k : IntKind) (a : E) : E :=
  match a with
  | .li n => .li (k.wrap n)
  | a => if inKind F k a then a else if inKind F k (addI a (.li (2 ^ k.bits))) then addI a (.li (2 ^ k.bits)) else if inKind F k (addI a (.li (-2 ^ k.bits))) then addI a (.li (-2 ^ k.bits)) else .un (.wrap k) a

theorem wrap_add (k : IntKind) (n : Int) : k.wrap (n + 2 ^ k.bits) = k.wrap n ∧ k.wrap (n + -2 ^ k.bits) = k.wrap n := by
  cases k <;> simp [IntKind.wrap, IntKind.signed, IntKind.bits] <;> omega

theorem wrapI_int {F : Facts} {ρ : Env} (hF : F.ok ρ) (k : IntKind) (a : E) : ((wrapI F k a).ev ρ).int = k.wrap (a.ev ρ).int := by
  unfold wrapI
  split
  · rfl
  · split
    · rename_i h; exact (inKind_sound hF h).symm
    · split
      · rename_i h
        have := inKind_sound hF h
        rw [addI_int] at this ⊢
        rw [← this]
        exact (wrap_add k _).1
      · split
        · rename_i h
          have := inKind_sound hF h
          rw [addI_int] at this ⊢
          rw [← this]
          exact (wrap_add k _).2
        · rfl

/-- Both literals: reckoned at once. -/
def lit2 (o : B2) (a b : E) : E :=
  match a, b with
  | .li n, .li m => match o.ev (.I n) (.I m) with
    | .I r => .li r
    | _ => .bi o a b
  | a, b => .bi o a b

theorem lit2_ev (ρ : Env) (o : B2) (a b : E) : (lit2 o a b).ev ρ = o.ev (a.ev ρ) (b.ev ρ) := by
  unfold lit2
  split
  · split
    · rename_i n m r h; simp [E.ev, h]
    · rfl
  · rfl

def rwE (F : Facts) (e : E) : E := match findE e F.eqs with | some x => x | none => e

theorem rwE_ev {F : Facts} {ρ : Env} (hF : F.ok ρ) (e : E) : (rwE F e).ev ρ = e.ev ρ := by
  unfold rwE
  split
  · rename_i h; exact (hF.eqs _ (findE_mem h)).symm
  · rfl

/-- A test, decided where it can be. -/
def boolE (F : Facts) (e : E) : E := match e.dec F with | some w => .lb w | none => e

theorem boolE_bool {F : Facts} {ρ : Env} (hF : F.ok ρ) (e : E) : ((boolE F e).ev ρ).bool = (e.ev ρ).bool := by
  unfold boolE
  split
  · rename_i h; rw [E.dec_sound hF h]; rfl
  · rfl

def notB (e : E) : E :=
  match e with
  | .lb w => .lb (!w)
  | .un .not a => a
  | a => .un .not a

theorem notB_bool (ρ : Env) (e : E) : ((notB e).ev ρ).bool = !(e.ev ρ).bool := by
  unfold notB
  split
  · rfl
  · simp [E.ev, U.ev]
  · rfl

def iteE (F : Facts) (c a b : E) : E :=
  match c.dec F with
  | some true => a
  | some false => b
  | none => if a.same b then a else .tr .ite c a b

theorem iteE_ev {F : Facts} {ρ : Env} (hF : F.ok ρ) (c a b : E) : (iteE F c a b).ev ρ = if (c.ev ρ).bool then a.ev ρ else b.ev ρ := by
  unfold iteE
  split
  · rename_i h; simp [E.dec_sound hF h]
  · rename_i h; simp [E.dec_sound hF h]
  · split
    · rename_i h; rw [E.same_eq h]; simp
    · rfl

/-- Two strings, one behind the other: over lists, which the kernel walks fast. -/
def catB (x y : ByteArray) : ByteArray := ⟨⟨x.data.toList ++ y.data.toList⟩⟩
theorem catB_eq (x y : ByteArray) : catB x y = x ++ y := by
  apply ByteArray.ext
  rw [ByteArray.data_append]
  apply Array.toList_inj.1
  simp [catB]
/-- A string cut out. -/
def cutB (x : ByteArray) (a b : Nat) : ByteArray := ⟨⟨(x.data.toList.drop a).take (b - a)⟩⟩
theorem cutB_eq (x : ByteArray) (a b : Nat) : cutB x a b = x.extract a b := by
  apply ByteArray.ext
  rw [ByteArray.data_extract]
  apply Array.toList_inj.1
  simp [cutB, Array.toList_extract, List.extract_eq_take_drop]

def catS : E → E → E
  | .ls x, .ls y => .ls (catB x y)
  | a, b => if litS? a = some ByteArray.empty then b else if litS? b = some ByteArray.empty then a else .bi .cat a b

theorem append_empty' (x : ByteArray) : x ++ ByteArray.empty = x := by
  apply ByteArray.ext; simp
theorem empty_append' (x : ByteArray) : ByteArray.empty ++ x = x := by
  apply ByteArray.ext; simp

theorem catS_str (ρ : Env) (a b : E) : ((catS a b).ev ρ).str = (a.ev ρ).str ++ (b.ev ρ).str := by
  unfold catS
  split
  · simp only [E.ev, Sc.str_S]; exact catB_eq _ _
  · split
    · rename_i h; rw [litS?_eq h]; simp only [E.ev, Sc.str_S]; exact (empty_append' _).symm
    · split
      · rename_i h; rw [litS?_eq h]; simp only [E.ev, Sc.str_S]; exact (append_empty' _).symm
      · rfl

def subS : E → E → E → E
  | .ls x, .li a, .li b => .ls (cutB x a.toNat b.toNat)
  | x, a, b => .tr .sub x a b

theorem subS_ev (ρ : Env) (x a b : E) : ((subS x a b).ev ρ).str = (x.ev ρ).str.extract (a.ev ρ).int.toNat (b.ev ρ).int.toNat := by
  unfold subS
  split
  · simp only [E.ev, Sc.str_S, Sc.int_I]; exact cutB_eq _ _ _
  · rfl

def atS : E → E → E
  | .ls x, .li n => .li (byteAt x n)
  | x, n => .bi .at x n

theorem atS_int (ρ : Env) (x n : E) : ((atS x n).ev ρ).int = byteAt (x.ev ρ).str (n.ev ρ).int := by
  unfold atS
  split <;> rfl

def chrS : E → E
  | .li n => .ls (chrOf n)
  | e => .un .chr e

theorem chrS_str (ρ : Env) (e : E) : ((chrS e).ev ρ).str = chrOf (e.ev ρ).int := by
  unfold chrS
  split <;> rfl

end Go.Eng

/-
  What is known, and one test more.
-/
namespace Go.Eng

/-- What a range adds. -/
def addB (e : E) (r : Option Int × Option Int) (l : List (E × Int × Int)) : List (E × Int × Int) :=
  match e, r with
  | .li _, _ => l
  | .bi .add a (.li c), (some x, some y) => (.bi .add a (.li c), x, y) :: (a, x - c, y - c) :: l
  | e, (some x, some y) => (e, x, y) :: l
  | _, _ => l

def maxO : Option Int → Option Int → Option Int
  | some a, some b => some (max a b)
  | some a, none => some a
  | none, b => b
def minO : Option Int → Option Int → Option Int
  | some a, some b => some (min a b)
  | some a, none => some a
  | none, b => b

/-- One test more is known. -/
def Facts.cons1 (F : Facts) (c : E) (b : Bool) : Facts :=
  match c, b with
  | .bi .lt x y, true => let r := x.rng F; let q := y.rng F
    { F with conds := (c, b) :: F.conds, bnds := addB x (r.1, minO r.2 (q.2.map (· - 1))) (addB y (maxO q.1 (r.1.map (· + 1)), q.2) F.bnds) }
  | .bi .lt x y, false => let r := x.rng F; let q := y.rng F
    { F with conds := (c, b) :: F.conds, bnds := addB x (maxO r.1 q.1, r.2) (addB y (q.1, minO q.2 r.2) F.bnds) }
  | .bi .eqi x y, true => let r := x.rng F; let q := y.rng F
    { F with conds := (c, b) :: F.conds, bnds := addB x (maxO r.1 q.1, minO r.2 q.2) (addB y (maxO r.1 q.1, minO r.2 q.2) F.bnds) }
  | _, _ => { F with conds := (c, b) :: F.conds }

theorem addB_ok {ρ : Env} {e : E} {r : Rng} {l : List (E × Int × Int)} (h : r.has (e.ev ρ).int) (hl : ∀ p ∈ l, p.2.1 ≤ (p.1.ev ρ).int ∧ (p.1.ev ρ).int ≤ p.2.2) : ∀ p ∈ addB e r l, p.2.1 ≤ (p.1.ev ρ).int ∧ (p.1.ev ρ).int ≤ p.2.2 := by
  unfold addB
  split
  · exact hl
  · rename_i a c x y
    intro p hp
    have h1 := h.1 _ rfl
    have h2 := h.2 _ rfl
    rcases List.mem_cons.1 hp with rfl | hp
    · exact ⟨h1, h2⟩
    · rcases List.mem_cons.1 hp with rfl | hp
      · simp only [E.ev, B2.ev, Sc.int_I] at h1 h2 ⊢
        omega
      · exact hl p hp
  · intro p hp
    rcases List.mem_cons.1 hp with rfl | hp
    · exact ⟨h.1 _ rfl, h.2 _ rfl⟩
    · exact hl p hp
  · exact hl

theorem has_maxO {a b : Option Int} {n : Int} (h1 : ∀ x, a = some x → x ≤ n) (h2 : ∀ x, b = some x → x ≤ n) : ∀ x, maxO a b = some x → x ≤ n := by
  intro x hx
  cases a <;> cases b <;> simp_all [maxO]
  omega
theorem has_minO {a b : Option Int} {n : Int} (h1 : ∀ x, a = some x → n ≤ x) (h2 : ∀ x, b = some x → n ≤ x) : ∀ x, minO a b = some x → n ≤ x := by
  intro x hx
  cases a <;> cases b <;> simp_all [minO]
  omega

theorem facts_cons1 {F : Facts} {ρ : Env} (hF : F.ok ρ) {c : E} {b : Bool} (hc : (c.ev ρ).bool = b) : Facts.ok (F.cons1 c b) ρ := by
  have hcs : ∀ p ∈ (c, b) :: F.conds, (p.1.ev ρ).bool = p.2 := fun p hp => by
    rcases List.mem_cons.1 hp with rfl | hp
    · exact hc
    · exact hF.conds p hp
  unfold Facts.cons1
  split
  · rename_i x y
    have hx := E.rng_has hF x
    have hy := E.rng_has hF y
    simp only [E.ev, B2.ev, Sc.bool_B, decide_eq_true_eq] at hc
    refine ⟨hcs, addB_ok ⟨hx.1, has_minO hx.2 fun z hz => ?_⟩ (addB_ok ⟨has_maxO hy.1 fun z hz => ?_, hy.2⟩ hF.bnds), hF.eqs, hF.sem⟩
    · simp only [Option.map_eq_some_iff] at hz
      obtain ⟨u, hu, rfl⟩ := hz
      have := hy.2 u hu; omega
    · simp only [Option.map_eq_some_iff] at hz
      obtain ⟨u, hu, rfl⟩ := hz
      have := hx.1 u hu; omega
  · rename_i x y
    have hx := E.rng_has hF x
    have hy := E.rng_has hF y
    simp only [E.ev, B2.ev, Sc.bool_B, decide_eq_false_iff_not] at hc
    refine ⟨hcs, addB_ok ⟨has_maxO hx.1 fun z hz => ?_, hx.2⟩ (addB_ok ⟨hy.1, has_minO hy.2 fun z hz => ?_⟩ hF.bnds), hF.eqs, hF.sem⟩
    · have := hy.1 z hz; omega
    · have := hx.2 z hz; omega
  · rename_i x y
    have hx := E.rng_has hF x
    have hy := E.rng_has hF y
    simp only [E.ev, B2.ev, Sc.bool_B, decide_eq_true_eq] at hc
    refine ⟨hcs, addB_ok ⟨has_maxO hx.1 fun z hz => ?_, has_minO hx.2 fun z hz => ?_⟩ (addB_ok ⟨has_maxO (fun z hz => ?_) hy.1, has_minO (fun z hz => ?_) hy.2⟩ hF.bnds), hF.eqs, hF.sem⟩
    · have := hy.1 z hz; omega
    · have := hy.2 z hz; omega
    · have := hx.1 z hz; omega
    · have := hx.2 z hz; omega
  · exact ⟨hcs, hF.bnds, hF.eqs, hF.sem⟩

theorem Facts.cons1_sem (F : Facts) (c : E) (b : Bool) : (F.cons1 c b).sem = F.sem := by
  unfold Facts.cons1; split <;> rfl

/-- One test more is known, and its parts. -/
def Facts.cons : Facts → E → Bool → Facts
  | F, .bi .and x y, true => Facts.cons (Facts.cons (F.cons1 (.bi .and x y) true) x true) y true
  | F, .bi .or x y, false => Facts.cons (Facts.cons (F.cons1 (.bi .or x y) false) x false) y false
  | F, .un .not x, b => Facts.cons (F.cons1 (.un .not x) b) x (!b)
  | F, c, b => F.cons1 c b

theorem Facts.cons_sem : ∀ (F : Facts) (c : E) (b : Bool), (F.cons c b).sem = F.sem := by
  intro F c
  induction c generalizing F with
  | un o a ih =>
    intro b
    cases o <;> simp only [Facts.cons, Facts.cons1_sem, ih]
  | bi o x y ihx ihy =>
    intro b
    cases o <;> cases b <;> simp only [Facts.cons, Facts.cons1_sem, ihx, ihy]
  | _ => intro b; simp only [Facts.cons, Facts.cons1_sem]

theorem facts_cons {ρ : Env} : ∀ {c : E} {F : Facts} (_ : F.ok ρ) {b : Bool} (_ : (c.ev ρ).bool = b), Facts.ok (F.cons c b) ρ := by
  intro c
  induction c with
  | un o a ih =>
    intro F hF b hc
    cases o <;> simp only [Facts.cons] <;> try exact facts_cons1 hF hc
    refine ih (facts_cons1 hF hc) ?_
    simp only [E.ev, U.ev, Sc.bool_B] at hc
    rw [← hc]; simp
  | bi o x y ihx ihy =>
    intro F hF b hc
    cases o <;> cases b <;> simp only [Facts.cons] <;> try exact facts_cons1 hF hc
    · have h := hc
      simp only [E.ev, B2.ev, Sc.bool_B, Bool.and_eq_true] at h
      exact ihy (ihx (facts_cons1 hF hc) h.1) h.2
    · have h := hc
      simp only [E.ev, B2.ev, Sc.bool_B, Bool.or_eq_false_iff] at h
      exact ihy (ihx (facts_cons1 hF hc) h.1) h.2
  | _ => intro F hF b hc; simp only [Facts.cons]; exact facts_cons1 hF hc

end Go.Eng

/-
  Symbolic values, blocks, states; how they stand to the values, the memory and the frames of the machine.
-/
namespace Go.Eng

/-- A finite map from numbers. -/
inductive T (α : Type) where
  | nil | node (x : Option α) (l r : T α)
  deriving Inhabited

namespace T
variable {α : Type}
def get : T α → Nat → Option α
  | nil, _ => none
  | node x l r, n => if n = 0 then x else if n % 2 = 1 then l.get (n / 2) else r.get (n / 2 - 1)
def root : T α → Option α | nil => none | node x _ _ => x
def left : T α → T α | nil => nil | node _ l _ => l
def right : T α → T α | nil => nil | node _ _ r => r
def put (x : Option α) : Nat → Nat → T α → T α
  | 0, _, t => node x t.left t.right
  | f + 1, n, t => if n = 0 then node x t.left t.right
    else if n % 2 = 1 then node t.root (put x f (n / 2) t.left) t.right
    else node t.root t.left (put x f (n / 2 - 1) t.right)
def set (t : T α) (n : Nat) (x : α) : T α := put (some x) n n t
def del (t : T α) (n : Nat) : T α := put none n n t

theorem get_left (t : T α) (k : Nat) (h : k ≠ 0) (h1 : k % 2 = 1) : t.get k = t.left.get (k / 2) := by
  cases t <;> simp [get, left, h, h1]
theorem get_right (t : T α) (k : Nat) (h : k ≠ 0) (h1 : ¬ k % 2 = 1) : t.get k = t.right.get (k / 2 - 1) := by
  cases t <;> simp [get, right, h, h1]
theorem get_root (t : T α) : t.get 0 = t.root := by
  cases t <;> simp [get, root]

theorem get_put (x : Option α) : ∀ (f n : Nat) (t : T α) (k : Nat), n ≤ f → (put x f n t).get k = if k = n then x else t.get k := by
  intro f
  induction f with
  | zero =>
    intro n t k h
    have : n = 0 := by omega
    subst this
    simp only [put, get]
    split
    · rfl
    · rename_i hk
      split
      · rename_i h1; rw [get_left t k hk h1]
      · rename_i h1; rw [get_right t k hk h1]
  | succ f ih =>
    intro n t k h
    simp only [put]
    split
    · rename_i hn
      subst hn
      simp only [get]
      split
      · rfl
      · rename_i hk
        split
        · rename_i h1; rw [get_left t k hk h1]
        · rename_i h1; rw [get_right t k hk h1]
    · rename_i hn
      split
      · rename_i h1
        simp only [get]
        by_cases hk : k = 0
        · subst hk; rw [if_pos rfl, if_neg (by omega), get_root]
        · rw [if_neg hk]
          by_cases h2 : k % 2 = 1
          · rw [if_pos h2, ih _ _ _ (by omega)]
            by_cases e : k = n
            · subst e; simp
            · rw [if_neg (by omega), if_neg e, get_left t k hk h2]
          · rw [if_neg h2, if_neg (by omega), get_right t k hk h2]
      · rename_i h1
        simp only [get]
        by_cases hk : k = 0
        · subst hk; rw [if_pos rfl, if_neg (by omega), get_root]
        · rw [if_neg hk]
          by_cases h2 : k % 2 = 1
          · rw [if_pos h2, if_neg (by omega), get_left t k hk h2]
          · rw [if_neg h2, ih _ _ _ (by omega)]
            by_cases e : k = n
            · subst e; simp
            · rw [if_neg (by omega), if_neg e, get_right t k hk h2]

theorem get_set (t : T α) (n : Nat) (x : α) (k : Nat) : (t.set n x).get k = if k = n then some x else t.get k := get_put _ _ _ _ _ (Nat.le_refl _)
theorem get_del (t : T α) (n : Nat) (k : Nat) : (t.del n).get k = if k = n then none else t.get k := get_put _ _ _ _ _ (Nat.le_refl _)
@[simp] theorem get_nil (k : Nat) : (nil : T α).get k = none := rfl

def ofList : List (Nat × α) → T α
  | [] => nil
  | (n, x) :: r => (ofList r).set n x
end T

structure Off where
  base : Nat
  terms : List (E × Nat)

def sumT (ρ : Env) : List (E × Nat) → Nat
  | [] => 0
  | (e, s) :: r => (e.ev ρ).int.toNat * s + sumT ρ r

def Off.den (ρ : Env) (o : Off) : Nat := o.base + sumT ρ o.terms
def Off.add (o : Off) (n : Nat) : Off := { o with base := o.base + n }
def Off.addE (o : Off) (e : E) (s : Nat) : Off :=
  match e with
  | .li n => o.add (n.toNat * s)
  | e => { o with terms := o.terms ++ [(e, s)] }

theorem sumT_append (ρ : Env) (l : List (E × Nat)) (e : E) (s : Nat) : sumT ρ (l ++ [(e, s)]) = sumT ρ l + (e.ev ρ).int.toNat * s := by
  induction l with
  | nil => simp [sumT]
  | cons p l ih => obtain ⟨a, b⟩ := p; simp only [List.cons_append, sumT, ih]; omega

@[simp] theorem Off.den_add (ρ : Env) (o : Off) (n : Nat) : (o.add n).den ρ = o.den ρ + n := by
  simp only [Off.den, Off.add]; omega
theorem Off.den_addE (ρ : Env) (o : Off) (e : E) (s : Nat) : (o.addE e s).den ρ = o.den ρ + (e.ev ρ).int.toNat * s := by
  unfold Off.addE
  split
  · simp [E.ev]
  · simp only [Off.den, sumT_append]; omega

/-- A capacity: told, or what the block bears less what was skipped. -/
inductive Cap where
  | ex (e : E) | own (skip : E)

inductive DV where
  | int (k : IntKind) (e : E) | bool (e : E) | str (e : E)
  | ptr (id : Nat) (o : Off) | nilp | gptr (g off : Nat)
  | slc (id : Nat) (o : Off) (len : E) (cap : Cap) | nils | mt
  | agg (l : List DV) | tup (l : List DV)
  | ifc (t : TypeId) (v : DV) | nili
  | fn (f : Fn) (first cap : List DV) | nilf
  | mp (id : Nat) | nilm | yld (id : Nat) | anyi
  deriving Inhabited

/-- Where the blocks lie: the number of each, and how many elements it bears. -/
structure Emb where
  ι : Nat → Option Nat
  κ : Nat → Nat

def Emb.le (m m' : Emb) : Prop := ∀ id b, m.ι id = some b → m'.ι id = some b ∧ m'.κ id = m.κ id

theorem Emb.le_refl (m : Emb) : m.le m := fun _ _ h => ⟨h, rfl⟩
theorem Emb.le_trans {m m' m'' : Emb} (h : m.le m') (h' : m'.le m'') : m.le m'' := fun id b hb => by
  obtain ⟨h1, h2⟩ := h id b hb
  obtain ⟨h3, h4⟩ := h' id b h1
  exact ⟨h3, h4.trans h2⟩

def Cap.den (m : Emb) (ρ : Env) (id : Nat) : Cap → Nat
  | .ex e => (e.ev ρ).int.toNat
  | .own skip => m.κ id - (skip.ev ρ).int.toNat

mutual
def DV.R (m : Emb) (ρ : Env) : DV → Value → Prop
  | .int k e, v => v = .int k (e.ev ρ).int
  | .bool e, v => v = .bool (e.ev ρ).bool
  | .str e, v => v = .string (e.ev ρ).str
  | .ptr id o, v => ∃ b, m.ι id = some b ∧ v = .pointer (some ⟨b, o.den ρ, none⟩)
  | .nilp, v => v = .pointer none
  | .gptr g off, v => v = .pointer (some ⟨g, off, none⟩)
  | .slc id o len cap, v => ∃ b, m.ι id = some b ∧ v = .slice (some ⟨b, o.den ρ, none⟩) (len.ev ρ).int.toNat (cap.den m ρ id) ∧ 0 ≤ (len.ev ρ).int ∧ (len.ev ρ).int.toNat ≤ cap.den m ρ id
  | .nils, v => v = .slice none 0 0
  | .mt, v => ∃ a c, v = .slice a 0 c
  | .agg l, v => ∃ vs : Array Value, v = .agg vs ∧ DV.RL m ρ l vs.toList
  | .tup l, v => ∃ vs : Array Value, v = .tuple vs ∧ DV.RL m ρ l vs.toList
  | .ifc t d, v => ∃ x, v = .iface t x ∧ DV.R m ρ d x
  | .nili, v => v = .nilIface
  | .fn f a c, v => ∃ x y : Array Value, v = .func f x y ∧ DV.RL m ρ a x.toList ∧ DV.RL m ρ c y.toList
  | .nilf, v => v = .nilFunc
  | .mp id, v => ∃ b, m.ι id = some b ∧ v = .map (some b)
  | .nilm, v => v = .map none
  | .yld id, v => ∃ b, m.ι id = some b ∧ v = .func (.yield b) #[] #[]
  | .anyi, v => v = .nilIface ∨ ∃ t x, v = .iface t x
def DV.RL (m : Emb) (ρ : Env) : List DV → List Value → Prop
  | [], vs => vs = []
  | d :: r, vs => ∃ v vr, vs = v :: vr ∧ DV.R m ρ d v ∧ DV.RL m ρ r vr
end

mutual
theorem DV.R.mono {m m' : Emb} {ρ : Env} (hm : m.le m') : ∀ {d : DV} {v : Value}, d.R m ρ v → d.R m' ρ v
  | .int k e, v, h => h
  | .bool e, v, h => h
  | .str e, v, h => h
  | .ptr id o, v, h => by
    simp only [DV.R] at h ⊢
    obtain ⟨b, hb, hv⟩ := h; exact ⟨b, (hm _ _ hb).1, hv⟩
  | .nilp, v, h => h
  | .gptr g off, v, h => h
  | .slc id o len cap, v, h => by
    simp only [DV.R] at h ⊢
    obtain ⟨b, hb, hv, h0, hc⟩ := h
    have e : cap.den m' ρ id = cap.den m ρ id := by cases cap <;> simp [Cap.den, (hm _ _ hb).2]
    exact ⟨b, (hm _ _ hb).1, by rw [e]; exact hv, h0, by rw [e]; exact hc⟩
  | .nils, v, h => h
  | .mt, v, h => h
  | .agg l, v, h => by
    simp only [DV.R] at h ⊢
    obtain ⟨vs, hv, hl⟩ := h; exact ⟨vs, hv, DV.RL.mono hm hl⟩
  | .tup l, v, h => by
    simp only [DV.R] at h ⊢
    obtain ⟨vs, hv, hl⟩ := h; exact ⟨vs, hv, DV.RL.mono hm hl⟩
  | .ifc t d, v, h => by
    simp only [DV.R] at h ⊢
    obtain ⟨x, hv, hl⟩ := h; exact ⟨x, hv, DV.R.mono hm hl⟩
  | .nili, v, h => h
  | .fn f a c, v, h => by
    simp only [DV.R] at h ⊢
    obtain ⟨x, y, hv, h1, h2⟩ := h; exact ⟨x, y, hv, DV.RL.mono hm h1, DV.RL.mono hm h2⟩
  | .nilf, v, h => h
  | .mp id, v, h => by
    simp only [DV.R] at h ⊢
    obtain ⟨b, hb, hv⟩ := h; exact ⟨b, (hm _ _ hb).1, hv⟩
  | .nilm, v, h => h
  | .yld id, v, h => by
    simp only [DV.R] at h ⊢
    obtain ⟨b, hb, hv⟩ := h; exact ⟨b, (hm _ _ hb).1, hv⟩
  | .anyi, v, h => h
theorem DV.RL.mono {m m' : Emb} {ρ : Env} (hm : m.le m') : ∀ {l : List DV} {vs : List Value}, DV.RL m ρ l vs → DV.RL m' ρ l vs
  | [], vs, h => h
  | d :: r, vs, h => by
    simp only [DV.RL] at h ⊢
    obtain ⟨v, vr, hv, h1, h2⟩ := h
    exact ⟨v, vr, hv, DV.R.mono hm h1, DV.RL.mono hm h2⟩
end

theorem DV.RL.length {m : Emb} {ρ : Env} : ∀ {l : List DV} {vs : List Value}, DV.RL m ρ l vs → vs.length = l.length
  | [], vs, h => by simp only [DV.RL] at h; simp [h]
  | d :: r, vs, h => by
    simp only [DV.RL] at h
    obtain ⟨v, vr, hv, _, h2⟩ := h
    simp [hv, h2.length]

theorem DV.RL.get {m : Emb} {ρ : Env} : ∀ {l : List DV} {vs : List Value}, DV.RL m ρ l vs → ∀ {i : Nat} {d : DV}, l[i]? = some d → ∃ v, vs[i]? = some v ∧ d.R m ρ v
  | [], vs, _, i, d, hd => by simp at hd
  | a :: r, vs, h, i, d, hd => by
    simp only [DV.RL] at h
    obtain ⟨v, vr, hv, h1, h2⟩ := h
    subst hv
    cases i with
    | zero => simp at hd; subst hd; exact ⟨v, rfl, h1⟩
    | succ i => simp at hd; simpa using DV.RL.get h2 hd

theorem DV.RL.of_get {m : Emb} {ρ : Env} : ∀ {l : List DV} {vs : List Value}, vs.length = l.length → (∀ (i : Nat) (d : DV), l[i]? = some d → ∃ v, vs[i]? = some v ∧ d.R m ρ v) → DV.RL m ρ l vs
  | [], vs, hl, _ => by simp only [DV.RL]; simpa using hl
  | a :: r, vs, hl, h => by
    simp only [DV.RL]
    match vs, hl with
    | v :: vr, hl =>
      obtain ⟨u, hu, hr⟩ := h 0 a rfl
      simp at hu; subst hu
      exact ⟨v, vr, rfl, hr, DV.RL.of_get (by simpa using hl) fun i d hd => by simpa using h (i + 1) d (by simpa using hd)⟩

theorem DV.RL.append {m : Emb} {ρ : Env} : ∀ {l r : List DV} {vs us : List Value}, DV.RL m ρ l vs → DV.RL m ρ r us → DV.RL m ρ (l ++ r) (vs ++ us)
  | [], r, vs, us, h, h' => by simp only [DV.RL] at h; subst h; simpa using h'
  | a :: l, r, vs, us, h, h' => by
    simp only [DV.RL] at h
    obtain ⟨v, vr, hv, h1, h2⟩ := h
    subst hv
    simp only [List.cons_append, DV.RL]
    exact ⟨v, vr ++ us, rfl, h1, DV.RL.append h2 h'⟩

/-- What one cell of a row of cells is. -/
inductive Kd where
  | int (k : IntKind) | bool | str | any
  deriving DecidableEq

def Kd.ok : Kd → Value → Prop
  | .int k, v => ∃ n, v = .int k n ∧ k.min ≤ n ∧ n ≤ k.max
  | .bool, v => ∃ b, v = .bool b
  | .str, v => ∃ s, v = .string s
  | .any, _ => True

/-- How a block is held: to be read alone; to be written; to be written, and with room behind for elements of so many cells; a variable of the package, to be read alone; a list of such variables. -/
inductive Md where
  | ro | rw | own (s : Nat) | gl (g : Nat) | reg (l : List Nat)
  deriving DecidableEq

def Md.rw' : Md → Bool
  | .rw => true
  | .own _ => true
  | _ => false
/-- Which blocks a way of holding names. -/
def Md.ids : Md → List Nat
  | .gl g => [g]
  | _ => []

/-- How a round was left. -/
inductive Pend where
  | none | ret | exit (id : Nat)
  deriving DecidableEq
def Pend.to : Pend → Option Code
  | .none => Option.none
  | .ret => some .ret
  | .exit id => some (.exit id)

/-- The record of a range over a function. -/
structure LpD where
  busy : Bool
  done : Bool
  pend : Pend
  tmps : T DV
  sz : Nat
  params : Array Tmp
  assign : Code
  body : Code
  dfs : Nat

inductive Blk where
  | cells (l : List DV) (t : TypeId) (md : Md)
  | arr (q a n : E) (sh : List Kd) (t : TypeId) (md : Md)
  | mix (pre : List DV) (a n : E) (sh : List Kd) (suf : List DV) (t : TypeId) (md : Md)
  | mpb (es : List (DV × DV))
  | itb (mp : Nat) (seen : List E) (last : Option Nat)
  | lpb (L : LpD)
  | defb (open' : Bool)
  | dead

def Blk.live : Blk → Bool
  | .dead => false
  | _ => true
/-- May it be written? -/
def Blk.rw : Blk → Bool
  | .cells _ _ md => md.rw'
  | .arr _ _ _ _ _ md => md.rw'
  | .mix _ _ _ _ _ _ md => md.rw'
  | .mpb _ => true
  | .itb _ _ _ => true
  | .lpb _ => true
  | .defb _ => true
  | .dead => false

/-- What the way of holding says of the row. -/
def Md.ok (m : Emb) (k : Nat) (md : Md) (c : Array Value) (fr : Nat × Nat) : Prop :=
  match md with
  | .ro => True
  | .gl g => m.ι g = some g
  | .reg _ => True
  | .rw => fr = (0, 0)
  | .own s => fr = (0, 0) ∧ k * s ≤ c.size

def Blk.R (m : Emb) (ρ : Env) (k : Nat) : Blk → Obj → Prop
  | .cells l _ md, o => ∃ (c : Array Value) (fr : Nat × Nat), (∃ t', o = .cells c t' fr) ∧ l.length ≤ c.size ∧ (∀ (i : Nat) (d : DV), l[i]? = some d → ∃ v, c[i]? = some v ∧ d.R m ρ v) ∧ md.ok m k c fr
  | .arr q a n sh _ md, o => ∃ (c : Array Value) (fr : Nat × Nat), (∃ t', o = .cells c t' fr) ∧ (a.ev ρ).arr.length = (n.ev ρ).int.toNat * sh.length ∧ (q.ev ρ).int.toNat + (a.ev ρ).arr.length ≤ c.size ∧ (∀ (i : Nat) (v : Value), (a.ev ρ).arr[i]? = some v → c[(q.ev ρ).int.toNat + i]? = some v) ∧
      (∀ (i : Nat) (v : Value), (a.ev ρ).arr[i]? = some v → (sh.getD (i % sh.length) .any).ok v) ∧ md.ok m k c fr
  | .mix pre a n sh suf _ md, o => ∃ (c : Array Value) (fr : Nat × Nat), (∃ t', o = .cells c t' fr) ∧ (a.ev ρ).arr.length = (n.ev ρ).int.toNat * sh.length ∧ pre.length + (a.ev ρ).arr.length + suf.length ≤ c.size ∧
      (∀ (i : Nat) (d : DV), pre[i]? = some d → ∃ v, c[i]? = some v ∧ d.R m ρ v) ∧
      (∀ (i : Nat) (v : Value), (a.ev ρ).arr[i]? = some v → sh.getD (i % sh.length) .any = .any ∨ c[pre.length + i]? = some v) ∧
      (∀ (i : Nat) (v : Value), (a.ev ρ).arr[i]? = some v → (sh.getD (i % sh.length) .any).ok v) ∧
      (∀ (i : Nat) (d : DV), suf[i]? = some d → ∃ v, c[pre.length + (a.ev ρ).arr.length + i]? = some v ∧ d.R m ρ v) ∧ md.ok m k c fr
  | .mpb es, o => ∃ (en : Array MapEntry) (clk : Nat), o = .map en clk ∧ DV.RL m ρ (es.map (·.1)) (en.toList.map (·.key)) ∧ DV.RL m ρ (es.map (·.2)) (en.toList.map (·.val)) ∧ clk = en.size ∧ en.toList.map (·.born) = List.range en.size
  | .itb mp seen last, o => ∃ (b : Nat) (sn : Array Nat), o = .mapIter (some b) seen.length sn seen.length ∧ m.ι mp = some b ∧ (∀ (i : Nat) (e : E), seen[i]? = some e → (sn.contains i = (e.ev ρ).bool)) ∧ ∀ i, last = some i → ∃ s0 : Array Nat, sn = s0.push i
  | .lpb L, o => ∃ lp : Loop, o = .loop lp ∧ lp.state = (if L.busy then .busy else if L.done then .done else .ready) ∧ lp.pending = L.pend.to ∧ lp.params = L.params ∧ lp.assign = L.assign ∧ lp.body = L.body ∧ lp.tmps.size = L.sz ∧
      (∀ i d, L.tmps.get i = some d → ∃ v, lp.tmps[i]? = some v ∧ d.R m ρ v) ∧ m.ι L.dfs = some lp.defers
  | .defb b, o => o = .deferred (if b then some [] else none)
  | .dead, _ => True

theorem Md.ok.mono {m m' : Emb} (hm : m.le m') {k : Nat} {md : Md} {c : Array Value} {fr : Nat × Nat} (h : md.ok m k c fr) : md.ok m' k c fr := by
  cases md with
  | gl g => exact (hm g g h).1
  | ro => exact h
  | rw => exact h
  | own s => exact h
  | reg l => exact h

theorem Md.fr_of {m : Emb} {k : Nat} {md : Md} {c : Array Value} {fr : Nat × Nat} (h : md.ok m k c fr) (hr : md.rw' = true) : fr = (0, 0) := by
  cases md with
  | rw => exact h
  | own s => exact h.1
  | ro => cases hr
  | gl g => cases hr
  | reg l => cases hr

theorem Blk.R.mono {m m' : Emb} {ρ : Env} {k : Nat} (hm : m.le m') {B : Blk} {o : Obj} (h : B.R m ρ k o) : B.R m' ρ k o := by
  cases B with
  | cells l t md =>
    obtain ⟨c, fr, h1, h2, h3, h4⟩ := h
    exact ⟨c, fr, h1, h2, fun i d hd => let ⟨v, hv, hr⟩ := h3 i d hd; ⟨v, hv, hr.mono hm⟩, h4.mono hm⟩
  | arr q a n sh t md =>
    obtain ⟨c, fr, h1, h2, h3, h4, h5, h6⟩ := h
    exact ⟨c, fr, h1, h2, h3, h4, h5, h6.mono hm⟩
  | mix pre a n sh suf t md =>
    obtain ⟨c, fr, h1, h2, h3, h4, h5, h6, h7, h8⟩ := h
    exact ⟨c, fr, h1, h2, h3, fun i d hd => let ⟨v, hv, hr⟩ := h4 i d hd; ⟨v, hv, hr.mono hm⟩, h5, h6, fun i d hd => let ⟨v, hv, hr⟩ := h7 i d hd; ⟨v, hv, hr.mono hm⟩, h8.mono hm⟩
  | mpb es =>
    obtain ⟨en, clk, h1, h2, h3, h4⟩ := h
    exact ⟨en, clk, h1, h2.mono hm, h3.mono hm, h4⟩
  | itb mp seen last =>
    obtain ⟨b, sn, h1, h2, h3⟩ := h
    exact ⟨b, sn, h1, (hm _ _ h2).1, h3⟩
  | lpb L =>
    obtain ⟨lp, h1, h2, h3, h4, h5, h6, h7, h8, h9⟩ := h
    exact ⟨lp, h1, h2, h3, h4, h5, h6, h7, fun i d hd => let ⟨v, hv, hr⟩ := h8 i d hd; ⟨v, hv, hr.mono hm⟩, (hm _ _ h9).1⟩
  | defb b => exact h
  | dead => trivial

structure HeapR (m : Emb) (ρ : Env) (h : T Blk) (w : World) : Prop where
  blk : ∀ id B, h.get id = some B → B.live = true → ∃ b o, m.ι id = some b ∧ w.heap[b]? = some o ∧ B.R m ρ (m.κ id) o
  inj : ∀ id id' B B' b, h.get id = some B → h.get id' = some B' → B.rw = true → B'.live = true → m.ι id = some b → m.ι id' = some b → id = id'

/-- The blocks that may be written. -/
def Fp (m : Emb) (h : T Blk) (b : Nat) : Prop := ∃ id B, h.get id = some B ∧ B.rw = true ∧ m.ι id = some b

/-- From one memory to a later one: what was known lies where it lay; what may not be written is as it was. -/
structure Trans (m : Emb) (h : T Blk) (w : World) (m' : Emb) (h' : T Blk) (w' : World) : Prop where
  ext : m.le m'
  size : w.heap.size ≤ w'.heap.size
  frame : ∀ b, b < w.heap.size → ¬ Fp m h b → w'.heap[b]? = w.heap[b]?
  fp : ∀ b, Fp m' h' b → Fp m h b ∨ w.heap.size ≤ b
  tape : w'.tape = w.tape
  os : w'.os = w.os
  output : w'.output = w.output

theorem Trans.refl (m : Emb) (h : T Blk) (w : World) : Trans m h w m h w :=
  ⟨Emb.le_refl m, Nat.le_refl _, fun _ _ _ => rfl, fun _ hb => .inl hb, rfl, rfl, rfl⟩

theorem Trans.trans {m m' m'' : Emb} {h h' h'' : T Blk} {w w' w'' : World} (t : Trans m h w m' h' w') (t' : Trans m' h' w' m'' h'' w'') :
    Trans m h w m'' h'' w'' where
  ext := Emb.le_trans t.ext t'.ext
  size := Nat.le_trans t.size t'.size
  frame := fun b hb hn => by
    rw [t'.frame b (Nat.lt_of_lt_of_le hb t.size) (fun hf => by
      rcases t.fp b hf with h1 | h1
      · exact hn h1
      · omega), t.frame b hb hn]
  fp := fun b hf => by
    rcases t'.fp b hf with h1 | h1
    · exact t.fp b h1
    · exact .inr (Nat.le_trans t.size h1)
  tape := t'.tape.trans t.tape
  os := t'.os.trans t.os
  output := t'.output.trans t.output

/-- What is done when the function is left: the calls of a range over a function; a call. -/
inductive Dfr where
  | coll (id : Nat)
  | call (g : FuncId) (pre cap : List DV)

def Dfr.R (m : Emb) (ρ : Env) : Dfr → Deferred → Prop
  | .coll id, d => ∃ b, m.ι id = some b ∧ d = { target := .collected b, args := #[] }
  | .call g pre cap, d => ∃ a c : Array Value, d = { target := .fn (.func g) c, args := a } ∧ DV.RL m ρ pre a.toList ∧ DV.RL m ρ cap c.toList
def DfsR (m : Emb) (ρ : Env) : List Dfr → List Deferred → Prop
  | [], ds => ds = []
  | x :: r, ds => ∃ d dr, ds = d :: dr ∧ x.R m ρ d ∧ DfsR m ρ r dr

theorem Dfr.R.mono {m m' : Emb} {ρ : Env} (hm : m.le m') {x : Dfr} {d : Deferred} (h : x.R m ρ d) : x.R m' ρ d := by
  cases x with
  | coll id => obtain ⟨b, hb, he⟩ := h; exact ⟨b, (hm _ _ hb).1, he⟩
  | call g pre cap => obtain ⟨a, c, he, h1, h2⟩ := h; exact ⟨a, c, he, h1.mono hm, h2.mono hm⟩
theorem DfsR.mono {m m' : Emb} {ρ : Env} (hm : m.le m') : ∀ {l : List Dfr} {ds : List Deferred}, DfsR m ρ l ds → DfsR m' ρ l ds
  | [], _, h => h
  | _ :: _, _, ⟨d, dr, he, h1, h2⟩ => ⟨d, dr, he, h1.mono hm, DfsR.mono hm h2⟩

structure St where
  tmps : T DV
  heap : T Blk
  next : Nat
  sz : Nat
  dfs : List Dfr := []

structure TmpR (m : Emb) (ρ : Env) (t : T DV) (a : Act) : Prop where
  get : ∀ i d, t.get i = some d → ∃ v, a.tmps[i]? = some v ∧ d.R m ρ v

theorem TmpR.mono {m m' : Emb} {ρ : Env} {t : T DV} {a : Act} (hm : m.le m') (h : TmpR m ρ t a) : TmpR m' ρ t a :=
  ⟨fun i d hd => let ⟨v, hv, hr⟩ := h.get i d hd; ⟨v, hv, hr.mono hm⟩⟩

structure Rep (m : Emb) (ρ : Env) (st : St) (a : Act) (w : World) : Prop where
  tmps : TmpR m ρ st.tmps a
  size : a.tmps.size = st.sz
  heap : HeapR m ρ st.heap w
  fresh : ∀ id, st.next ≤ id → m.ι id = none
  dfs : DfsR m ρ st.dfs a.defers

/-- A new block. -/
def Emb.put (m : Emb) (id b n : Nat) : Emb := ⟨fun i => if i = id then some b else m.ι i, fun i => if i = id then n else m.κ i⟩

theorem Emb.le_put {m : Emb} {id b n : Nat} (h : m.ι id = none) : m.le (m.put id b n) := fun i c hc => by
  have hne : i ≠ id := fun e => by subst e; rw [h] at hc; cases hc
  simp [Emb.put, hne, hc]

theorem HeapR.lt {m : Emb} {ρ : Env} {h : T Blk} {w : World} (hr : HeapR m ρ h w) {id b : Nat} {B : Blk} (hB : h.get id = some B) (hl : B.live = true) (hb : m.ι id = some b) :
    b < w.heap.size := by
  obtain ⟨b', o, h1, h2, _⟩ := hr.blk id B hB hl
  rw [hb] at h1; cases h1
  exact (Array.getElem?_eq_some_iff.1 h2).1

theorem Blk.live_of_rw {B : Blk} (h : B.rw = true) : B.live = true := by cases B <;> simp_all [Blk.rw, Blk.live]

theorem World.alloc_heap (w : World) (o : Obj) : (w.alloc o).heap = w.heap.push o := rfl

/-- What is known stays known where a block is laid. -/
theorem HeapR.push {m : Emb} {ρ : Env} {h : T Blk} {w : World} (hr : HeapR m ρ h w) {id n : Nat} (hid : m.ι id = none) {B : Blk} {o : Obj}
    (hB : B.R (m.put id w.heap.size n) ρ n o) : HeapR (m.put id w.heap.size n) ρ (h.set id B) (w.alloc o) where
  blk := fun i C hC hl => by
    rw [T.get_set] at hC
    split at hC
    · rename_i e; cases hC; subst e
      exact ⟨w.heap.size, o, by simp [Emb.put], by rw [World.alloc_heap, Array.getElem?_push_size], by simpa [Emb.put] using hB⟩
    · rename_i e
      obtain ⟨b, p, h1, h2, h3⟩ := hr.blk i C hC hl
      refine ⟨b, p, by simp [Emb.put, e, h1], ?_, by simpa [Emb.put, e] using h3.mono (Emb.le_put hid)⟩
      have hlt := (Array.getElem?_eq_some_iff.1 h2).1
      rw [World.alloc_heap, Array.getElem?_push_lt hlt]
      rw [← h2, Array.getElem?_eq_getElem hlt]
  inj := fun i j C D b hC hD hrw hl hi hj => by
    rw [T.get_set] at hC hD
    split at hC
    · rename_i e; subst e
      split at hD
      · rename_i e'; exact e'.symm
      · rename_i e'
        simp [Emb.put] at hi
        simp [Emb.put, e'] at hj
        have := hr.lt hD hl hj
        omega
    · rename_i e
      split at hD
      · rename_i e'; subst e'
        simp [Emb.put] at hj
        simp [Emb.put, e] at hi
        have := hr.lt hC (Blk.live_of_rw hrw) hi
        omega
      · rename_i e'
        simp [Emb.put, e, e'] at hi hj
        exact hr.inj i j C D b hC hD hrw hl hi hj

theorem Trans.push {m : Emb} {h : T Blk} {w : World} {id n : Nat} (hid : m.ι id = none) (B : Blk) (o : Obj) :
    Trans m h w (m.put id w.heap.size n) (h.set id B) (w.alloc o) where
  ext := Emb.le_put hid
  size := by rw [World.alloc_heap, Array.size_push]; omega
  frame := fun b hb _ => by rw [World.alloc_heap, Array.getElem?_push_lt hb, Array.getElem?_eq_getElem hb]
  fp := fun b ⟨i, C, hC, hrw, hi⟩ => by
    rw [T.get_set] at hC
    split at hC
    · rename_i e; subst e; simp [Emb.put] at hi; exact .inr (by omega)
    · rename_i e; simp [Emb.put, e] at hi; exact .inl ⟨i, C, hC, hrw, hi⟩
  tape := rfl
  os := rfl
  output := rfl

/-- What is known stays known where a known block is written. -/
theorem HeapR.write {m : Emb} {ρ : Env} {h : T Blk} {w w' : World} (hr : HeapR m ρ h w) {id b : Nat} {B C : Blk} {o : Obj} (hB : h.get id = some B) (hrw : B.rw = true)
    (hb : m.ι id = some b) (ho : w'.heap[b]? = some o) (hC : C.R m ρ (m.κ id) o) (_ : C.rw = true)
    (hk : ∀ c, c ≠ b → w'.heap[c]? = w.heap[c]?) : HeapR m ρ (h.set id C) w' where
  blk := fun i D hD hl => by
    rw [T.get_set] at hD
    split at hD
    · rename_i e; cases hD; subst e; exact ⟨b, o, hb, ho, hC⟩
    · rename_i e
      obtain ⟨c, p, h1, h2, h3⟩ := hr.blk i D hD hl
      refine ⟨c, p, h1, ?_, h3⟩
      rw [hk c (fun ec => e ((hr.inj id i B D b hB hD hrw hl hb (ec ▸ h1)).symm)), h2]
  inj := fun i j D D' c hD hD' h1 h2 hi hj => by
    rw [T.get_set] at hD hD'
    split at hD
    · rename_i e; subst e
      split at hD'
      · rename_i e'; exact e'.symm
      · exact hr.inj i j B D' c hB hD' hrw h2 hi hj
    · split at hD'
      · rename_i e'; subst e'
        exact hr.inj i j D B c hD hB h1 (Blk.live_of_rw hrw) hi hj
      · exact hr.inj i j D D' c hD hD' h1 h2 hi hj

theorem Trans.write {m : Emb} {h : T Blk} {w w' : World} {id b : Nat} {B C : Blk} (hB : h.get id = some B) (hrw : B.rw = true) (hb : m.ι id = some b)
    (hk : ∀ c, c ≠ b → w'.heap[c]? = w.heap[c]?) (hs : w'.heap.size = w.heap.size) (ht : w'.tape = w.tape) (ho : w'.os = w.os) (hout : w'.output = w.output) :
    Trans m h w m (h.set id C) w' where
  ext := Emb.le_refl m
  size := by omega
  frame := fun c _ hn => hk c (fun e => hn ⟨id, B, hB, hrw, e ▸ hb⟩)
  fp := fun c ⟨i, D, hD, h1, hi⟩ => by
    rw [T.get_set] at hD
    split at hD
    · rename_i e; subst e; exact .inl ⟨i, B, hB, hrw, hi⟩
    · exact .inl ⟨i, D, hD, h1, hi⟩
  tape := ht
  os := ho
  output := hout

end Go.Eng

/-
  When two symbolic states are the same.
-/
namespace Go.Eng

def termsEq : List (E × Nat) → List (E × Nat) → Bool
  | [], [] => true
  | (a, s) :: r, (b, t) :: q => a.same b && (s == t && termsEq r q)
  | _, _ => false
theorem termsEq_eq : ∀ {l r : List (E × Nat)}, termsEq l r = true → l = r
  | [], [], _ => rfl
  | [], _ :: _, h => by simp [termsEq] at h
  | _ :: _, [], h => by simp [termsEq] at h
  | (a, s) :: l, (b, t) :: r, h => by
    simp only [termsEq, Bool.and_eq_true, beq_iff_eq] at h
    rw [E.same_eq h.1, h.2.1, termsEq_eq h.2.2]

def Off.eqv (a b : Off) : Bool := a.base == b.base && termsEq a.terms b.terms
theorem Off.eqv_eq {a b : Off} (h : a.eqv b = true) : a = b := by
  obtain ⟨x, l⟩ := a; obtain ⟨y, r⟩ := b
  simp only [Off.eqv, Bool.and_eq_true, beq_iff_eq] at h
  rw [h.1, termsEq_eq h.2]

def Cap.eqv : Cap → Cap → Bool
  | .ex a, .ex b => a.same b
  | .own a, .own b => a.same b
  | _, _ => false
theorem Cap.eqv_eq {a b : Cap} (h : a.eqv b = true) : a = b := by
  cases a <;> cases b <;> simp only [Cap.eqv, Bool.false_eq_true] at h <;> rw [E.same_eq h]

def fnEqv : Fn → Fn → Bool
  | .func a, .func b => a == b
  | .method a, .method b => a == b
  | _, _ => false
theorem fnEqv_eq {a b : Fn} (h : fnEqv a b = true) : a = b := by
  cases a <;> cases b <;> simp only [fnEqv, Bool.false_eq_true, beq_iff_eq] at h <;> rw [h]

mutual
def DV.eqv : DV → DV → Bool
  | .int k a, .int k' b => decide (k = k') && a.same b
  | .bool a, .bool b => a.same b
  | .str a, .str b => a.same b
  | .ptr i o, .ptr j p => i == j && o.eqv p
  | .nilp, .nilp => true
  | .gptr g o, .gptr g' o' => g == g' && o == o'
  | .slc i o l c, .slc j p m d => i == j && (o.eqv p && (l.same m && c.eqv d))
  | .nils, .nils => true
  | .mt, .mt => true
  | .agg l, .agg r => DV.eqvL l r
  | .tup l, .tup r => DV.eqvL l r
  | .ifc t v, .ifc t' v' => t == t' && DV.eqv v v'
  | .nili, .nili => true
  | .fn f a c, .fn f' a' c' => fnEqv f f' && (DV.eqvL a a' && DV.eqvL c c')
  | .nilf, .nilf => true
  | .mp i, .mp j => i == j
  | .nilm, .nilm => true
  | .yld i, .yld j => i == j
  | .anyi, .anyi => true
  | _, _ => false
def DV.eqvL : List DV → List DV → Bool
  | [], [] => true
  | d :: r, e :: q => DV.eqv d e && DV.eqvL r q
  | _, _ => false
end

mutual
theorem DV.eqv_eq : ∀ {a b : DV}, a.eqv b = true → a = b
  | .int k a, b, h => by cases b <;> simp only [DV.eqv, Bool.false_eq_true, Bool.and_eq_true, decide_eq_true_eq] at h; rw [h.1, E.same_eq h.2]
  | .bool a, b, h => by cases b <;> simp only [DV.eqv, Bool.false_eq_true] at h; rw [E.same_eq h]
  | .str a, b, h => by cases b <;> simp only [DV.eqv, Bool.false_eq_true] at h; rw [E.same_eq h]
  | .ptr i o, b, h => by cases b <;> simp only [DV.eqv, Bool.false_eq_true, Bool.and_eq_true, beq_iff_eq] at h; rw [h.1, Off.eqv_eq h.2]
  | .nilp, b, h => by cases b <;> simp only [DV.eqv, Bool.false_eq_true] at h; rfl
  | .gptr g o, b, h => by cases b <;> simp only [DV.eqv, Bool.false_eq_true, Bool.and_eq_true, beq_iff_eq] at h; rw [h.1, h.2]
  | .slc i o l c, b, h => by cases b <;> simp only [DV.eqv, Bool.false_eq_true, Bool.and_eq_true, beq_iff_eq] at h; rw [h.1, Off.eqv_eq h.2.1, E.same_eq h.2.2.1, Cap.eqv_eq h.2.2.2]
  | .nils, b, h => by cases b <;> simp only [DV.eqv, Bool.false_eq_true] at h; rfl
  | .mt, b, h => by cases b <;> simp only [DV.eqv, Bool.false_eq_true] at h; rfl
  | .agg l, b, h => by cases b <;> simp only [DV.eqv, Bool.false_eq_true] at h; rw [DV.eqvL_eq h]
  | .tup l, b, h => by cases b <;> simp only [DV.eqv, Bool.false_eq_true] at h; rw [DV.eqvL_eq h]
  | .ifc t v, b, h => by cases b <;> simp only [DV.eqv, Bool.false_eq_true, Bool.and_eq_true, beq_iff_eq] at h; rw [h.1, DV.eqv_eq h.2]
  | .nili, b, h => by cases b <;> simp only [DV.eqv, Bool.false_eq_true] at h; rfl
  | .fn f x y, b, h => by cases b <;> simp only [DV.eqv, Bool.false_eq_true, Bool.and_eq_true] at h; rw [fnEqv_eq h.1, DV.eqvL_eq h.2.1, DV.eqvL_eq h.2.2]
  | .nilf, b, h => by cases b <;> simp only [DV.eqv, Bool.false_eq_true] at h; rfl
  | .mp i, b, h => by cases b <;> simp only [DV.eqv, Bool.false_eq_true, beq_iff_eq] at h; rw [h]
  | .nilm, b, h => by cases b <;> simp only [DV.eqv, Bool.false_eq_true] at h; rfl
  | .yld i, b, h => by cases b <;> simp only [DV.eqv, Bool.false_eq_true, beq_iff_eq] at h; rw [h]
  | .anyi, b, h => by cases b <;> simp only [DV.eqv, Bool.false_eq_true] at h; rfl
theorem DV.eqvL_eq : ∀ {a b : List DV}, DV.eqvL a b = true → a = b
  | [], b, h => by cases b <;> simp only [DV.eqvL, Bool.false_eq_true] at h; rfl
  | d :: r, b, h => by
    cases b with
    | nil => simp only [DV.eqvL, Bool.false_eq_true] at h
    | cons e q =>
      simp only [DV.eqvL, Bool.and_eq_true] at h
      rw [DV.eqv_eq h.1, DV.eqvL_eq h.2]
end

def pairsEq : List (DV × DV) → List (DV × DV) → Bool
  | [], [] => true
  | (a, b) :: r, (c, d) :: q => a.eqv c && (b.eqv d && pairsEq r q)
  | _, _ => false
theorem pairsEq_eq : ∀ {a b : List (DV × DV)}, pairsEq a b = true → a = b
  | [], b, h => by cases b <;> simp only [pairsEq, Bool.false_eq_true] at h; rfl
  | (x, y) :: r, b, h => by
    cases b with
    | nil => simp only [pairsEq, Bool.false_eq_true] at h
    | cons e q =>
      obtain ⟨c, d⟩ := e
      simp only [pairsEq, Bool.and_eq_true] at h
      rw [DV.eqv_eq h.1, DV.eqv_eq h.2.1, pairsEq_eq h.2.2]

def seenEq : List E → List E → Bool
  | [], [] => true
  | a :: r, b :: q => a.same b && seenEq r q
  | _, _ => false
theorem seenEq_eq : ∀ {a b : List E}, seenEq a b = true → a = b
  | [], b, h => by cases b <;> simp only [seenEq, Bool.false_eq_true] at h; rfl
  | x :: r, b, h => by
    cases b with
    | nil => simp only [seenEq, Bool.false_eq_true] at h
    | cons e q =>
      simp only [seenEq, Bool.and_eq_true] at h
      rw [E.same_eq h.1, seenEq_eq h.2]

def Blk.eqv : Blk → Blk → Bool
  | .cells l t md, .cells l' t' md' => DV.eqvL l l' && (t == t' && decide (md = md'))
  | .arr q a n sh t md, .arr q' a' n' sh' t' md' => q.same q' && (a.same a' && (n.same n' && (decide (sh = sh') && (t == t' && decide (md = md')))))
  | .mix p a n sh s t md, .mix p' a' n' sh' s' t' md' => DV.eqvL p p' && (a.same a' && (n.same n' && (DV.eqvL s s' && (decide (sh = sh') && (t == t' && decide (md = md'))))))
  | .mpb es, .mpb es' => pairsEq es es'
  | .itb m s l, .itb m' s' l' => m == m' && (seenEq s s' && l == l')
  | .defb a, .defb b => a == b
  | .dead, .dead => true
  | _, _ => false
theorem Blk.eqv_eq {a b : Blk} (h : a.eqv b = true) : a = b := by
  cases a <;> cases b <;> simp only [Blk.eqv, Bool.false_eq_true, Bool.and_eq_true, beq_iff_eq, decide_eq_true_eq] at h
  · rw [DV.eqvL_eq h.1, h.2.1, h.2.2]
  · rw [E.same_eq h.1, E.same_eq h.2.1, E.same_eq h.2.2.1, h.2.2.2.1, h.2.2.2.2.1, h.2.2.2.2.2]
  · rw [DV.eqvL_eq h.1, E.same_eq h.2.1, E.same_eq h.2.2.1, DV.eqvL_eq h.2.2.2.1, h.2.2.2.2.1, h.2.2.2.2.2.1, h.2.2.2.2.2.2]
  · rw [pairsEq_eq h]
  · rw [h.1, seenEq_eq h.2.1, h.2.2]
  · rw [h]
  · rfl

def optEq {α : Type} (f : α → α → Bool) : Option α → Option α → Bool
  | none, none => true
  | some a, some b => f a b
  | _, _ => false
def T.eqv {α : Type} (f : α → α → Bool) : T α → T α → Bool
  | .nil, .nil => true
  | .node x l r, .node y l' r' => optEq f x y && (T.eqv f l l' && T.eqv f r r')
  | _, _ => false
theorem T.eqv_eq {α : Type} {f : α → α → Bool} (hf : ∀ {a b}, f a b = true → a = b) : ∀ {a b : T α}, a.eqv f b = true → a = b
  | .nil, b, h => by cases b <;> simp only [T.eqv, Bool.false_eq_true] at h; rfl
  | .node x l r, b, h => by
    cases b with
    | nil => simp only [T.eqv, Bool.false_eq_true] at h
    | node y l' r' =>
      simp only [T.eqv, Bool.and_eq_true] at h
      have hx : x = y := by
        have := h.1
        cases x <;> cases y <;> simp only [optEq, Bool.false_eq_true] at this
        · rfl
        · rw [hf this]
      rw [hx, T.eqv_eq hf h.2.1, T.eqv_eq hf h.2.2]

def dfsEq : List Dfr → List Dfr → Bool
  | [], [] => true
  | .coll i :: r, .coll j :: r' => i == j && dfsEq r r'
  | .call g a c :: r, .call g' a' c' :: r' => g == g' && (DV.eqvL a a' && (DV.eqvL c c' && dfsEq r r'))
  | _, _ => false
theorem dfsEq_eq : ∀ {a b : List Dfr}, dfsEq a b = true → a = b
  | [], b, h => by cases b <;> simp only [dfsEq, Bool.false_eq_true] at h; rfl
  | x :: r, b, h => by
    cases b with
    | nil => cases x <;> simp only [dfsEq, Bool.false_eq_true] at h
    | cons y q =>
      cases x <;> cases y <;> simp only [dfsEq, Bool.false_eq_true, Bool.and_eq_true, beq_iff_eq] at h
      · rw [h.1, dfsEq_eq h.2]
      · rw [h.1, DV.eqvL_eq h.2.1, DV.eqvL_eq h.2.2.1, dfsEq_eq h.2.2.2]
def St.eqv (a b : St) : Bool := a.next == b.next && (a.sz == b.sz && (dfsEq a.dfs b.dfs && (T.eqv DV.eqv a.tmps b.tmps && T.eqv Blk.eqv a.heap b.heap)))
theorem St.eqv_eq {a b : St} (h : a.eqv b = true) : a = b := by
  obtain ⟨t, h1, n, s, f⟩ := a; obtain ⟨t', h1', n', s', f'⟩ := b
  simp only [St.eqv, Bool.and_eq_true, beq_iff_eq] at h
  have e3 := T.eqv_eq DV.eqv_eq h.2.2.2.1
  have e4 := T.eqv_eq Blk.eqv_eq h.2.2.2.2
  have e1 := h.1
  have e2 := h.2.1
  have e5 := dfsEq_eq h.2.2.1
  subst e1; subst e2; subst e3; subst e4; subst e5; rfl

end Go.Eng
