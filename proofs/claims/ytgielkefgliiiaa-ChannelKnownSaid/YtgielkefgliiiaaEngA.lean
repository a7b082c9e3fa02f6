/-
  Symbolic scalars: deep expressions for integers, booleans, byte strings and rows of cells; what they mean under an environment; what is decided of them.
-/
import Derived.Calls
import Derived.Orders
namespace Go.Eng

/-- What an expression means: an integer, a boolean, a string, or a row of cells. -/
inductive Sc where
  | I (n : Int) | B (b : Bool) | S (s : ByteArray) | A (l : List Value)
  deriving Inhabited

def Sc.int : Sc → Int | .I n => n | _ => 0
def Sc.bool : Sc → Bool | .B b => b | _ => false
def Sc.str : Sc → ByteArray | .S s => s | _ => ByteArray.empty
def Sc.arr : Sc → List Value | .A l => l | _ => []
def Sc.ofValue : Value → Sc
  | .int _ n => .I n
  | .bool b => .B b
  | .string s => .S s
  | _ => .I 0

@[simp] theorem Sc.int_I (n : Int) : (Sc.I n).int = n := rfl
@[simp] theorem Sc.bool_B (b : Bool) : (Sc.B b).bool = b := rfl
@[simp] theorem Sc.str_S (s : ByteArray) : (Sc.S s).str = s := rfl
@[simp] theorem Sc.arr_A (l : List Value) : (Sc.A l).arr = l := rfl

inductive U where
  | not | len | chr | pow2 | alen | wrap (k : IntKind)
  deriving DecidableEq
inductive B2 where
  | add | sub | mul | tdiv | tmod | fdiv | lt | eqi | eqs | lts | eqb | and | or | at | cat | cell | land | lor | lxor
  | bits (o : BinOp) (k : IntKind)
  deriving DecidableEq
inductive B3 where
  | ite | sub | app (f : Nat)
  deriving DecidableEq

inductive E where
  | vr (n : Nat) | li (n : Int) | lb (w : Bool) | ls (x : ByteArray)
  | un (o : U) (a : E) | bi (o : B2) (a b : E) | tr (o : B3) (a b c : E)
  deriving Inhabited

structure Env where
  v : Nat → Sc
  f : Nat → Sc → Sc → Sc → Sc := fun _ _ _ _ => .I 0

/-- What the operators on bits make (the model's own reckoning). -/
def bitsOf (o : BinOp) (k : IntKind) (x y : Int) : Int :=
  let a := BitVec.ofInt k.bits x
  let b := BitVec.ofInt k.bits y
  match o with
  | .and => k.wrap (a &&& b).toNat
  | .or => k.wrap (a ||| b).toNat
  | .xor => k.wrap (a ^^^ b).toNat
  | _ => k.wrap (a &&& ~~~b).toNat

def byteAt (s : ByteArray) (n : Int) : Int := ((s.data.toList.getD n.toNat 0).toNat : Int)
def chrOf (n : Int) : ByteArray := ⟨#[n.toNat.toUInt8]⟩

def U.ev : U → Sc → Sc
  | .not, a => .B (!a.bool)
  | .len, a => .I a.str.size
  | .chr, a => .S (chrOf a.int)
  | .pow2, a => .I (2 ^ a.int.toNat)
  | .alen, a => .I a.arr.length
  | .wrap k, a => .I (k.wrap a.int)

def B2.ev : B2 → Sc → Sc → Sc
  | .add, a, b => .I (a.int + b.int)
  | .sub, a, b => .I (a.int - b.int)
  | .mul, a, b => .I (a.int * b.int)
  | .tdiv, a, b => .I (a.int.tdiv b.int)
  | .tmod, a, b => .I (a.int.tmod b.int)
  | .fdiv, a, b => .I (a.int.fdiv b.int)
  | .lt, a, b => .B (decide (a.int < b.int))
  | .eqi, a, b => .B (decide (a.int = b.int))
  | .eqs, a, b => .B (decide (a.str = b.str))
  | .lts, a, b => .B (Op.bytesLess a.str.toList b.str.toList)
  | .eqb, a, b => .B (decide (a.bool = b.bool))
  | .and, a, b => .B (a.bool && b.bool)
  | .or, a, b => .B (a.bool || b.bool)
  | .at, a, b => .I (byteAt a.str b.int)
  | .cat, a, b => .S (a.str ++ b.str)
  | .cell, a, b => Sc.ofValue (a.arr.getD b.int.toNat undef)
  | .land, a, b => .I (a.int.toNat &&& b.int.toNat : Nat)
  | .lor, a, b => .I (a.int.toNat ||| b.int.toNat : Nat)
  | .lxor, a, b => .I (a.int.toNat ^^^ b.int.toNat : Nat)
  | .bits o k, a, b => .I (bitsOf o k a.int b.int)

def B3.ev (ρ : Env) : B3 → Sc → Sc → Sc → Sc
  | .ite, a, b, c => if a.bool then b else c
  | .sub, a, b, c => .S (a.str.extract b.int.toNat c.int.toNat)
  | .app f, a, b, c => ρ.f f a b c

def E.ev (ρ : Env) : E → Sc
  | .vr n => ρ.v n
  | .li n => .I n
  | .lb w => .B w
  | .ls x => .S x
  | .un o a => o.ev (a.ev ρ)
  | .bi o a b => o.ev (a.ev ρ) (b.ev ρ)
  | .tr o a b c => o.ev ρ (a.ev ρ) (b.ev ρ) (c.ev ρ)

def E.same : E → E → Bool
  | .vr n, .vr m => n == m
  | .li n, .li m => decide (n = m)
  | .lb x, .lb y => x == y
  | .ls x, .ls y => decide (x.data.toList = y.data.toList)
  | .un o a, .un p b => decide (o = p) && a.same b
  | .bi o a b, .bi p c d => decide (o = p) && (a.same c && b.same d)
  | .tr o a b c, .tr p d e f => decide (o = p) && (a.same d && (b.same e && c.same f))
  | _, _ => false

theorem E.same_eq : ∀ {a b : E}, a.same b = true → a = b := by
  intro a
  induction a with
  | vr n => intro b h; cases b <;> simp_all [E.same]
  | li n => intro b h; cases b <;> simp_all [E.same]
  | lb w => intro b h; cases b <;> simp_all [E.same]
  | ls x =>
    intro b h
    cases b <;> simp_all [E.same]
    rename_i y
    obtain ⟨x⟩ := x; obtain ⟨y⟩ := y
    simp at h
    rw [h]
  | un o a ih => intro b h; cases b <;> simp_all [E.same]; exact ih h.2
  | bi o a b iha ihb => intro c h; cases c <;> simp_all [E.same]; exact ⟨iha h.2.1, ihb h.2.2⟩
  | tr o a b c iha ihb ihc => intro d h; cases d <;> simp_all [E.same]; exact ⟨iha h.2.1, ihb h.2.2.1, ihc h.2.2.2⟩

/-- What is known of the environment: tests that are decided, and bounds of expressions. -/
structure Facts where
  conds : List (E × Bool) := []
  bnds : List (E × Int × Int) := []
  eqs : List (E × E) := []
  sem : Env → Prop := fun _ => True

structure Facts.ok (F : Facts) (ρ : Env) : Prop where
  conds : ∀ p ∈ F.conds, (p.1.ev ρ).bool = p.2
  bnds : ∀ p ∈ F.bnds, p.2.1 ≤ (p.1.ev ρ).int ∧ (p.1.ev ρ).int ≤ p.2.2
  eqs : ∀ p ∈ F.eqs, p.1.ev ρ = p.2.ev ρ
  sem : F.sem ρ

def findE {β : Type} (e : E) : List (E × β) → Option β
  | [] => none
  | (a, x) :: r => if a.same e then some x else findE e r

theorem findE_mem {β : Type} {e : E} {x : β} : ∀ {l : List (E × β)}, findE e l = some x → (e, x) ∈ l
  | [], h => by simp [findE] at h
  | (a, y) :: r, h => by
    simp only [findE] at h
    split at h
    · rename_i hs
      have := E.same_eq hs
      subst this
      simp at h; subst h; simp
    · exact List.mem_cons_of_mem _ (findE_mem h)

/-- The bounds of an expression (none: not known). -/
def bnd2 (f : Int → Int → Int) : Option Int → Option Int → Option Int
  | some a, some b => some (f a b)
  | _, _ => none

abbrev Rng := Option Int × Option Int

def Rng.has (r : Rng) (n : Int) : Prop := (∀ a, r.1 = some a → a ≤ n) ∧ (∀ b, r.2 = some b → n ≤ b)

theorem Rng.has_none (n : Int) : Rng.has (none, none) n := ⟨by simp, by simp⟩

def kindRng (k : IntKind) : Rng := (some k.min, some k.max)

theorem wrap_rng (k : IntKind) (n : Int) : k.min ≤ k.wrap n ∧ k.wrap n ≤ k.max := by
  cases k <;> simp [IntKind.min, IntKind.max, IntKind.wrap, IntKind.signed, IntKind.bits] <;> omega

theorem wrap_id {k : IntKind} {n : Int} (h1 : k.min ≤ n) (h2 : n ≤ k.max) : k.wrap n = n := by
  cases k <;> simp [IntKind.min, IntKind.max, IntKind.wrap, IntKind.signed, IntKind.bits] at * <;> omega

theorem byteAt_rng (s : ByteArray) (n : Int) : 0 ≤ byteAt s n ∧ byteAt s n ≤ 255 := by
  unfold byteAt
  have := (s.data.toList.getD n.toNat 0).toNat_lt
  omega

def litI? : E → Option Int
  | .li n => some n
  | _ => none

/-- The least and the greatest byte of a piece of a string. -/
def byteRng (x : ByteArray) (lo : Int) : Nat → Int × Int
  | 0 => (byteAt x lo, byteAt x lo)
  | n + 1 => let r := byteRng x (lo + 1) n; (min (byteAt x lo) r.1, max (byteAt x lo) r.2)

theorem byteRng_spec (x : ByteArray) : ∀ (n : Nat) (lo k : Int), lo ≤ k → k ≤ lo + n → (byteRng x lo n).1 ≤ byteAt x k ∧ byteAt x k ≤ (byteRng x lo n).2
  | 0, lo, k, h1, h2 => by
    have : k = lo := by simp at h2; omega
    subst this
    exact ⟨Int.le_refl _, Int.le_refl _⟩
  | n + 1, lo, k, h1, h2 => by
    simp only [byteRng]
    by_cases e : k = lo
    · subst e; omega
    · have := byteRng_spec x n (lo + 1) k (by omega) (by omega)
      omega

/-- The range of what an operator on bits makes, the second number told or not. -/
def andRng (o : BinOp) (k : IntKind) (c : Option Int) : Rng := match o, c with
  | .and, some c => if k.min = 0 ∧ 0 ≤ c ∧ c ≤ k.max then (some 0, some c) else kindRng k
  | _, _ => kindRng k

theorem bitsOf_rng (o : BinOp) (k : IntKind) (x y : Int) : k.min ≤ bitsOf o k x y ∧ bitsOf o k x y ≤ k.max := by
  unfold bitsOf
  cases o <;> exact wrap_rng _ _

theorem and_le (k : IntKind) (x c : Int) (h0 : k.min = 0) (h1 : 0 ≤ c) (h2 : c ≤ k.max) : 0 ≤ bitsOf .and k x c ∧ bitsOf .and k x c ≤ c := by
  have hc : (BitVec.ofInt k.bits c).toNat = c.toNat := by
    rw [BitVec.toNat_ofInt]
    have : c < 2 ^ k.bits := by
      cases k <;> simp [IntKind.min, IntKind.max, IntKind.signed, IntKind.bits] at * <;> omega
    rw [Int.emod_eq_of_lt h1 (by simpa using this)]
  have hle : ((BitVec.ofInt k.bits x) &&& (BitVec.ofInt k.bits c)).toNat ≤ c.toNat := by
    rw [BitVec.toNat_and, hc]; exact Nat.and_le_right
  have hn : (0 : Int) ≤ (((BitVec.ofInt k.bits x) &&& (BitVec.ofInt k.bits c)).toNat : Int) := Int.natCast_nonneg _
  have hm : (((BitVec.ofInt k.bits x) &&& (BitVec.ofInt k.bits c)).toNat : Int) ≤ c := by omega
  have e : bitsOf .and k x c = (((BitVec.ofInt k.bits x) &&& (BitVec.ofInt k.bits c)).toNat : Int) := by
    unfold bitsOf
    exact wrap_id (by omega) (by omega)
  rw [e]
  exact ⟨hn, hm⟩

theorem andRng_has {o : BinOp} {k : IntKind} {c : Option Int} {x y : Int} (h : ∀ n, c = some n → y = n) : (andRng o k c).has (bitsOf o k x y) := by
  have h0 := bitsOf_rng o k x y
  have hk : (kindRng k).has (bitsOf o k x y) := ⟨fun _ e => by cases e; exact h0.1, fun _ e => by cases e; exact h0.2⟩
  unfold andRng
  split
  · rename_i c
    split
    · rename_i hc
      rw [h c rfl]
      have := and_le k x c hc.1 hc.2.1 hc.2.2
      exact ⟨fun _ e => by cases e; exact this.1, fun _ e => by cases e; exact this.2⟩
    · exact hk
  · exact hk

def E.rng (F : Facts) : E → Rng
  | .li n => (some n, some n)
  | .un .len a => match findE (.un .len a) F.bnds with | some (x, y) => (some (max x 0), some y) | none => (some 0, none)
  | .un .alen a => match findE (.un .alen a) F.bnds with | some (x, y) => (some (max x 0), some y) | none => (some 0, none)
  | .un (.wrap k) a => match findE (.un (.wrap k) a) F.bnds with
    | some (x, y) => (some (max x k.min), some (min y k.max))
    | none => kindRng k
  | .bi .add a b => match findE (.bi .add a b) F.bnds with
    | some (x, y) => (some x, some y)
    | none => let r := a.rng F; let q := b.rng F; (bnd2 (· + ·) r.1 q.1, bnd2 (· + ·) r.2 q.2)
  | .bi .sub a b => match findE (.bi .sub a b) F.bnds with
    | some (x, y) => (some x, some y)
    | none => let r := a.rng F; let q := b.rng F; (bnd2 (· - ·) r.1 q.2, bnd2 (· - ·) r.2 q.1)
  | .bi .mul a b => match findE (.bi .mul a b) F.bnds with
    | some (x, y) => (some x, some y)
    | none => match litI? b with
      | some c => if 0 ≤ c then let r := a.rng F; (r.1.map (· * c), r.2.map (· * c)) else (none, none)
      | none => (none, none)
  | .bi .at a b => match findE (.bi .at a b) F.bnds with
    | some (x, y) => (some (max x 0), some (min y 255))
    | none => match a, b.rng F with
      | .ls x, (some lo, some hi) => if lo ≤ hi ∧ hi - lo ≤ 300 then (let r := byteRng x lo (hi - lo).toNat; (some r.1, some r.2)) else (some 0, some 255)
      | _, _ => (some 0, some 255)
  | .bi .fdiv a b => match findE (.bi .fdiv a b) F.bnds with
    | some (x, y) => (some x, some y)
    | none => match litI? b with
      | some c => if 0 < c then (let r := a.rng F; (r.1.map (·.fdiv c), r.2.map (·.fdiv c))) else (none, none)
      | none => (none, none)
  | .bi .tmod a b => match findE (.bi .tmod a b) F.bnds with
    | some (x, y) => (some x, some y)
    | none => match litI? b, (a.rng F).1 with
      | some c, some l => if 0 < c ∧ 0 ≤ l then (some 0, some (c - 1)) else (none, none)
      | _, _ => (none, none)
  | .bi .tdiv a b => match findE (.bi .tdiv a b) F.bnds with
    | some (x, y) => (some x, some y)
    | none => match litI? b, a.rng F with
      | some c, (some l, h) => if 0 < c ∧ 0 ≤ l then (some (l.tdiv c), h.map (·.tdiv c)) else (none, none)
      | _, _ => (none, none)
  | .bi (.bits o k) a b => match findE (.bi (.bits o k) a b) F.bnds with
    | some (x, y) => (some (max x k.min), some (min y k.max))
    | none => match a.rng F, b.rng F with
      | (some x, some x'), (some y, some y') => if x = x' ∧ y = y' then (some (bitsOf o k x y), some (bitsOf o k x y)) else andRng o k (litI? b)
      | _, _ => andRng o k (litI? b)
  | .un .pow2 a => match findE (.un .pow2 a) F.bnds with
    | some (x, y) => (some x, some y)
    | none => match a.rng F with
      | (some x, some x') => if x = x' then (some (2 ^ x.toNat), some (2 ^ x.toNat)) else (none, none)
      | _ => (none, none)
  | .tr .ite c a b => match findE (.tr .ite c a b) F.bnds with
    | some (x, y) => (some x, some y)
    | none => let r := a.rng F; let q := b.rng F; (bnd2 min r.1 q.1, bnd2 max r.2 q.2)
  | e => match findE e F.bnds with | some (x, y) => (some x, some y) | none => (none, none)

theorem bnds_rng {F : Facts} {ρ : Env} (hF : F.ok ρ) {e : E} {x y : Int} (h : findE e F.bnds = some (x, y)) :
    x ≤ (e.ev ρ).int ∧ (e.ev ρ).int ≤ y := hF.bnds _ (findE_mem h)

theorem has_of {x y n : Int} (h : x ≤ n ∧ n ≤ y) : Rng.has (some x, some y) n :=
  ⟨fun _ e => by cases e; exact h.1, fun _ e => by cases e; exact h.2⟩

theorem has_bnds {F : Facts} {ρ : Env} (hF : F.ok ρ) (e : E) :
    Rng.has (match findE e F.bnds with | some (x, y) => (some x, some y) | none => (none, none)) (e.ev ρ).int := by
  split
  · rename_i h; exact has_of (bnds_rng hF h)
  · exact Rng.has_none _

theorem tdiv_mono {a b c : Int} (hc : 0 < c) (ha : 0 ≤ a) (h : a ≤ b) : a.tdiv c ≤ b.tdiv c := by
  rw [Int.tdiv_eq_ediv_of_nonneg ha, Int.tdiv_eq_ediv_of_nonneg (by omega)]
  exact Int.ediv_le_ediv hc h

theorem E.rng_has {F : Facts} {ρ : Env} (hF : F.ok ρ) : ∀ e : E, (e.rng F).has (e.ev ρ).int := by
  intro e
  induction e with
  | vr n => exact has_bnds hF _
  | li n => exact has_of ⟨Int.le_refl _, Int.le_refl _⟩
  | lb w => exact has_bnds hF _
  | ls x => exact has_bnds hF _
  | un o a ih =>
    cases o with
    | len =>
      simp only [E.rng]
      have h0 : (0 : Int) ≤ ((E.un .len a).ev ρ).int := by simp [E.ev, U.ev, Sc.int]
      split
      · rename_i h; have := bnds_rng hF h; exact has_of ⟨by omega, this.2⟩
      · exact ⟨fun _ e => by cases e; exact h0, by simp⟩
    | alen =>
      simp only [E.rng]
      have h0 : (0 : Int) ≤ ((E.un .alen a).ev ρ).int := by simp [E.ev, U.ev, Sc.int]
      split
      · rename_i h; have := bnds_rng hF h; exact has_of ⟨by omega, this.2⟩
      · exact ⟨fun _ e => by cases e; exact h0, by simp⟩
    | wrap k =>
      simp only [E.rng]
      have h0 : k.min ≤ ((E.un (.wrap k) a).ev ρ).int ∧ ((E.un (.wrap k) a).ev ρ).int ≤ k.max := by
        simp only [E.ev, U.ev, Sc.int_I]; exact wrap_rng _ _
      split
      · rename_i h; have := bnds_rng hF h; exact has_of ⟨by omega, by omega⟩
      · exact has_of h0
    | pow2 =>
      simp only [E.rng]
      split
      · rename_i h; exact has_of (bnds_rng hF h)
      · split
        · rename_i x x' ea
          split
          · rename_i hx
            rw [ea] at ih
            have q1 := ih.1 _ rfl; have q2 := ih.2 _ rfl
            have e1 : (a.ev ρ).int = x := by omega
            simp only [E.ev, U.ev, Sc.int_I, e1]
            exact has_of ⟨Int.le_refl _, Int.le_refl _⟩
          · exact Rng.has_none _
        · exact Rng.has_none _
    | _ => exact has_bnds hF _
  | bi o a b iha ihb =>
    cases o with
    | add =>
      simp only [E.rng]
      split
      · rename_i h; exact has_of (bnds_rng hF h)
      · simp only [E.ev, B2.ev, Sc.int_I]
        constructor
        · intro x hx
          simp only [bnd2] at hx; split at hx
          · rename_i h1 h2; cases hx; have := iha.1 _ h1; have := ihb.1 _ h2; omega
          · cases hx
        · intro x hx
          simp only [bnd2] at hx; split at hx
          · rename_i h1 h2; cases hx; have := iha.2 _ h1; have := ihb.2 _ h2; omega
          · cases hx
    | sub =>
      simp only [E.rng]
      split
      · rename_i h; exact has_of (bnds_rng hF h)
      · simp only [E.ev, B2.ev, Sc.int_I]
        constructor
        · intro x hx
          simp only [bnd2] at hx; split at hx
          · rename_i h1 h2; cases hx; have := iha.1 _ h1; have := ihb.2 _ h2; omega
          · cases hx
        · intro x hx
          simp only [bnd2] at hx; split at hx
          · rename_i h1 h2; cases hx; have := iha.2 _ h1; have := ihb.1 _ h2; omega
          · cases hx
    | mul =>
      simp only [E.rng]
      split
      · rename_i h; exact has_of (bnds_rng hF h)
      · split
        · rename_i c hc
          split
          · rename_i h0
            have hb : b = .li c := by cases b <;> simp_all [litI?]
            subst hb
            simp only [E.ev, B2.ev, Sc.int_I]
            constructor
            · intro x hx
              simp only [Option.map_eq_some_iff] at hx
              obtain ⟨y, hy, rfl⟩ := hx
              exact Int.mul_le_mul_of_nonneg_right (iha.1 _ hy) h0
            · intro x hx
              simp only [Option.map_eq_some_iff] at hx
              obtain ⟨y, hy, rfl⟩ := hx
              exact Int.mul_le_mul_of_nonneg_right (iha.2 _ hy) h0
          · exact Rng.has_none _
        · exact Rng.has_none _
    | «at» =>
      simp only [E.rng]
      have h0 : 0 ≤ ((E.bi .at a b).ev ρ).int ∧ ((E.bi .at a b).ev ρ).int ≤ 255 := by
        simp only [E.ev, B2.ev, Sc.int_I]; exact byteAt_rng _ _
      split
      · rename_i h; have := bnds_rng hF h; exact has_of ⟨by omega, by omega⟩
      · split
        · rename_i x lo hi hr _
          split
          · have h1 := ihb.1 lo (by rw [hr])
            have h2 := ihb.2 hi (by rw [hr])
            exact has_of (byteRng_spec x (hi - lo).toNat lo (b.ev ρ).int h1 (by omega))
          · exact has_of h0
        · exact has_of h0
    | bits o k =>
      simp only [E.rng]
      have h0 : k.min ≤ ((E.bi (.bits o k) a b).ev ρ).int ∧ ((E.bi (.bits o k) a b).ev ρ).int ≤ k.max := by
        simp only [E.ev, B2.ev, Sc.int_I]; exact bitsOf_rng _ _ _ _
      split
      · rename_i h; have := bnds_rng hF h; exact has_of ⟨by omega, by omega⟩
      · have hand : (andRng o k (litI? b)).has ((E.bi (.bits o k) a b).ev ρ).int := by
          simp only [E.ev, B2.ev, Sc.int_I]
          refine andRng_has fun n hn => ?_
          have hb : b = .li n := by cases b <;> simp_all [litI?]
          rw [hb]; rfl
        split
        · rename_i x x' y y' ea eb
          split
          · rename_i hxy
            rw [ea] at iha; rw [eb] at ihb
            have q1 := iha.1 _ rfl; have q2 := iha.2 _ rfl
            have q3 := ihb.1 _ rfl; have q4 := ihb.2 _ rfl
            have e1 : (a.ev ρ).int = x := by omega
            have e2 : (b.ev ρ).int = y := by omega
            simp only [E.ev, B2.ev, Sc.int_I, e1, e2]
            exact has_of ⟨Int.le_refl _, Int.le_refl _⟩
          · exact hand
        · exact hand
    | fdiv =>
      simp only [E.rng]
      split
      · rename_i h; exact has_of (bnds_rng hF h)
      · split
        · rename_i c hc
          split
          · rename_i h0
            have hb : b = .li c := by cases b <;> simp_all [litI?]
            subst hb
            simp only [E.ev, B2.ev, Sc.int_I]
            constructor
            · intro x hx
              simp only [Option.map_eq_some_iff] at hx
              obtain ⟨y, hy, rfl⟩ := hx
              rw [Int.fdiv_eq_ediv_of_nonneg _ (by omega), Int.fdiv_eq_ediv_of_nonneg _ (by omega)]
              exact Int.ediv_le_ediv h0 (iha.1 _ hy)
            · intro x hx
              simp only [Option.map_eq_some_iff] at hx
              obtain ⟨y, hy, rfl⟩ := hx
              rw [Int.fdiv_eq_ediv_of_nonneg _ (by omega), Int.fdiv_eq_ediv_of_nonneg _ (by omega)]
              exact Int.ediv_le_ediv h0 (iha.2 _ hy)
          · exact Rng.has_none _
        · exact Rng.has_none _
    | tmod =>
      simp only [E.rng]
      split
      · rename_i h; exact has_of (bnds_rng hF h)
      · split
        · rename_i c l hc hl
          split
          · rename_i h0
            have hb : b = .li c := by cases b <;> simp_all [litI?]
            subst hb
            have := iha.1 _ hl
            simp only [E.ev, B2.ev, Sc.int_I]
            have hn : 0 ≤ (a.ev ρ).int := by omega
            rw [Int.tmod_eq_emod_of_nonneg hn]
            exact has_of ⟨Int.emod_nonneg _ (by omega), by have := Int.emod_lt_of_pos (a.ev ρ).int h0.1; omega⟩
          · exact Rng.has_none _
        · exact Rng.has_none _
    | tdiv =>
      simp only [E.rng]
      split
      · rename_i h; exact has_of (bnds_rng hF h)
      · split
        · rename_i c l hh hc hl
          split
          · rename_i h0
            have hb : b = .li c := by cases b <;> simp_all [litI?]
            subst hb
            have h1 := iha.1 l (by rw [hl])
            simp only [E.ev, B2.ev, Sc.int_I]
            refine ⟨fun x hx => ?_, fun x hx => ?_⟩
            · cases hx; exact tdiv_mono h0.1 h0.2 h1
            · simp only [Option.map_eq_some_iff] at hx
              obtain ⟨y, hy, rfl⟩ := hx
              exact tdiv_mono h0.1 (by omega) (iha.2 y (by rw [hl]; exact hy))
          · exact Rng.has_none _
        · exact Rng.has_none _
    | _ => exact has_bnds hF _
  | tr o a b c iha ihb ihc =>
    cases o with
    | ite =>
      simp only [E.rng]
      split
      · rename_i h; exact has_of (bnds_rng hF h)
      · simp only [E.ev, B3.ev]
        constructor
        · intro x hx
          simp only [bnd2] at hx; split at hx
          · rename_i h1 h2; cases hx; have := ihb.1 _ h1; have := ihc.1 _ h2; split <;> omega
          · cases hx
        · intro x hx
          simp only [bnd2] at hx; split at hx
          · rename_i h1 h2; cases hx; have := ihb.2 _ h1; have := ihc.2 _ h2; split <;> omega
          · cases hx
    | _ => exact has_bnds hF _

end Go.Eng
