/-
  What is decided of symbolic tests, and how expressions are made small: each step keeps what the expression means.
-/
import Derived.Test.YtgielkefgliiiaaEngA
namespace Go.Eng

def ltR (r q : Rng) : Option Bool :=
  match r.2, q.1 with
  | some h, some l => if h < l then some true else
    match r.1, q.2 with
    | some l', some h' => if h' ≤ l' then some false else none
    | _, _ => none
  | _, _ =>
    match r.1, q.2 with
    | some l', some h' => if h' ≤ l' then some false else none
    | _, _ => none

theorem ltR_sound {r q : Rng} {x y : Int} {b : Bool} (h : ltR r q = some b) (hr : r.has x) (hq : q.has y) : decide (x < y) = b := by
  unfold ltR at h
  have hh := hr.2; have hl := hr.1; have gh := hq.2; have gl := hq.1
  split at h
  · rename_i a c e1 e2
    have h1 := hh _ e1; have h2 := gl _ e2
    split at h
    · cases h; simp; omega
    · split at h
      · rename_i a' c' e3 e4
        have h3 := hl _ e3; have h4 := gh _ e4
        split at h
        · cases h; simp; omega
        · cases h
      · cases h
  · split at h
    · rename_i a' c' e3 e4
      have h3 := hl _ e3; have h4 := gh _ e4
      split at h
      · cases h; simp; omega
      · cases h
    · cases h

def eqR (r q : Rng) : Option Bool :=
  if ltR r q = some true then some false else if ltR q r = some true then some false else
  match r, q with
  | (some a, some b), (some c, some d) => if a = b ∧ c = d ∧ a = c then some true else none
  | _, _ => none

theorem eqR_sound {r q : Rng} {x y : Int} {b : Bool} (h : eqR r q = some b) (hr : r.has x) (hq : q.has y) : decide (x = y) = b := by
  unfold eqR at h
  split at h
  · rename_i h1; cases h; have := ltR_sound h1 hr hq; simp at this; simp; omega
  · split at h
    · rename_i h1; cases h; have := ltR_sound h1 hq hr; simp at this; simp; omega
    · rename_i n1 n2; clear n1 n2
      obtain ⟨r1, r2⟩ := r; obtain ⟨q1, q2⟩ := q
      cases r1 <;> cases r2 <;> cases q1 <;> cases q2 <;> simp only [reduceCtorEq] at h
      rename_i a b' c d
      split at h
      · rename_i e; cases h
        have := hr.1 a rfl; have := hr.2 b' rfl; have := hq.1 c rfl; have := hq.2 d rfl
        simp; omega
      · cases h

def litS? : E → Option ByteArray
  | .ls x => some x
  | _ => none

theorem litS?_eq {e : E} {x : ByteArray} (h : litS? e = some x) : e = .ls x := by cases e <;> simp_all [litS?]

def orElse' {α : Type} (a : Option α) (b : Option α) : Option α := match a with | some x => some x | none => b

def E.dec (F : Facts) : E → Option Bool
  | .lb w => some w
  | .un .not a => (a.dec F).map (!·)
  | .bi .and a b => match a.dec F, b.dec F with
    | some false, _ => some false
    | _, some false => some false
    | some true, some true => some true
    | _, _ => findE (.bi .and a b) F.conds
  | .bi .or a b => match a.dec F, b.dec F with
    | some true, _ => some true
    | _, some true => some true
    | some false, some false => some false
    | _, _ => findE (.bi .or a b) F.conds
  | .bi .lt a b => match findE (.bi .lt a b) F.conds with
    | some w => some w
    | none => ltR (a.rng F) (b.rng F)
  | .bi .eqi a b => match findE (.bi .eqi a b) F.conds with
    | some w => some w
    | none => if a.same b then some true else eqR (a.rng F) (b.rng F)
  | .bi .eqs a b => match findE (.bi .eqs a b) F.conds with
    | some w => some w
    | none => if a.same b then some true else match litS? a, litS? b with
      | some x, some y => some (decide (x.data.toList = y.data.toList))
      | _, _ => none
  | .bi .eqb a b => match findE (.bi .eqb a b) F.conds with
    | some w => some w
    | none => if a.same b then some true else match a.dec F, b.dec F with
      | some x, some y => some (x == y)
      | _, _ => none
  | .tr .ite c a b => match findE (.tr .ite c a b) F.conds with
    | some w => some w
    | none => match c.dec F, a.dec F, b.dec F with
      | some true, x, _ => x
      | some false, _, y => y
      | none, some x, some y => if x = y then some x else none
      | _, _, _ => none
  | e => findE e F.conds

theorem conds_dec {F : Facts} {ρ : Env} (hF : F.ok ρ) {e : E} {w : Bool} (h : findE e F.conds = some w) : (e.ev ρ).bool = w :=
  hF.conds _ (findE_mem h)

theorem ext_str {x y : ByteArray} : x = y ↔ x.data.toList = y.data.toList := by
  obtain ⟨⟨x⟩⟩ := x; obtain ⟨⟨y⟩⟩ := y
  simp

theorem E.dec_sound {F : Facts} {ρ : Env} (hF : F.ok ρ) : ∀ {e : E} {w : Bool}, e.dec F = some w → (e.ev ρ).bool = w := by
  intro e
  induction e with
  | lb v => intro w h; simp [E.dec] at h; subst h; rfl
  | vr n => intro w h; exact conds_dec hF h
  | li n => intro w h; exact conds_dec hF h
  | ls x => intro w h; exact conds_dec hF h
  | un o a ih =>
    intro w h
    cases o with
    | not =>
      simp only [E.dec, Option.map_eq_some_iff] at h
      obtain ⟨v, hv, rfl⟩ := h
      simp [E.ev, U.ev, ih hv]
    | _ => exact conds_dec hF h
  | bi o a b iha ihb =>
    intro w h
    cases o with
    | and =>
      simp only [E.dec] at h
      split at h
      · rename_i h1; cases h; simp [E.ev, B2.ev, iha h1]
      · rename_i h1 _; cases h; simp [E.ev, B2.ev, ihb h1]
      · rename_i h1 h2; cases h; simp [E.ev, B2.ev, iha h1, ihb h2]
      · exact conds_dec hF h
    | or =>
      simp only [E.dec] at h
      split at h
      · rename_i h1; cases h; simp [E.ev, B2.ev, iha h1]
      · rename_i h1 _; cases h; simp [E.ev, B2.ev, ihb h1]
      · rename_i h1 h2; cases h; simp [E.ev, B2.ev, iha h1, ihb h2]
      · exact conds_dec hF h
    | lt =>
      simp only [E.dec] at h
      split at h
      · rename_i h1; cases h; exact conds_dec hF h1
      · simp only [E.ev, B2.ev, Sc.bool_B]; exact ltR_sound h (E.rng_has hF a) (E.rng_has hF b)
    | eqi =>
      simp only [E.dec] at h
      split at h
      · rename_i h1; cases h; exact conds_dec hF h1
      · split at h
        · rename_i hs; cases h; have := E.same_eq hs; subst this; simp [E.ev, B2.ev]
        · simp only [E.ev, B2.ev, Sc.bool_B]; exact eqR_sound h (E.rng_has hF a) (E.rng_has hF b)
    | eqs =>
      simp only [E.dec] at h
      split at h
      · rename_i h1; cases h; exact conds_dec hF h1
      · split at h
        · rename_i hs; cases h; have := E.same_eq hs; subst this; simp [E.ev, B2.ev]
        · split at h
          · rename_i x y e1 e2
            cases h
            rw [litS?_eq e1, litS?_eq e2]
            simp [E.ev, B2.ev, ext_str]
          · cases h
    | eqb =>
      simp only [E.dec] at h
      split at h
      · rename_i h1; cases h; exact conds_dec hF h1
      · split at h
        · rename_i hs; cases h; have := E.same_eq hs; subst this; simp [E.ev, B2.ev]
        · split at h
          · rename_i x y e1 e2
            cases h
            simp only [E.ev, B2.ev, Sc.bool_B, iha e1, ihb e2]
            cases x <;> cases y <;> rfl
          · cases h
    | _ => exact conds_dec hF h
  | tr o c a b ihc iha ihb =>
    intro w h
    cases o with
    | ite =>
      simp only [E.dec] at h
      split at h
      · rename_i h1; cases h; exact conds_dec hF h1
      · split at h
        · rename_i h1; simp [E.ev, B3.ev, ihc h1, iha h]
        · rename_i h1; simp [E.ev, B3.ev, ihc h1, ihb h]
        · rename_i x y h1 h2 h3
          split at h
          · rename_i hxy; cases h; subst hxy; simp only [E.ev, B3.ev]; split
            · exact iha h2
            · exact ihb h3
          · cases h
        · cases h
    | _ => exact conds_dec hF h

/-- Made small: an expression whose integer counts. -/
def inKind (F : Facts) (k : IntKind) (a : E) : Bool :=
  match a.rng F with
  | (some l, some h) => decide (k.min ≤ l) && decide (h ≤ k.max)
  | _ => false

theorem inKind_sound {F : Facts} {ρ : Env} (hF : F.ok ρ) {k : IntKind} {a : E} (h : inKind F k a = true) : k.wrap (a.ev ρ).int = (a.ev ρ).int := by
  unfold inKind at h
  have hr := E.rng_has hF a
  split at h
  · rename_i l h' he
    simp at h
    rw [he] at hr
    have := hr.1 l rfl; have := hr.2 h' rfl
    exact wrap_id (by omega) (by omega)
  · cases h

def addI : E → E → E
  | .li n, .li m => .li (n + m)
  | .bi .add x (.li n), .li m => if n + m = 0 then x else .bi .add x (.li (n + m))
  | a, .li m => if m = 0 then a else .bi .add a (.li m)
  | .li m, b => if m = 0 then b else .bi .add b (.li m)
  | a, b => .bi .add a b

theorem addI_int (ρ : Env) (a b : E) : ((addI a b).ev ρ).int = (a.ev ρ).int + (b.ev ρ).int := by
  unfold addI
  split
  · rfl
  · split <;> simp [E.ev, B2.ev] <;> omega
  · split <;> simp [E.ev, B2.ev] ; omega
  · split <;> simp [E.ev, B2.ev] <;> omega
  · rfl

def subI (a b : E) : E :=
  if a.same b then .li 0 else
  match b with
  | .li m => addI a (.li (-m))
  | b => .bi .sub a b

theorem subI_int (ρ : Env) (a b : E) : ((subI a b).ev ρ).int = (a.ev ρ).int - (b.ev ρ).int := by
  unfold subI
  split
  · rename_i h; rw [E.same_eq h]; simp [E.ev]
  · split
    · rw [addI_int]; simp [E.ev]; omega
    · rfl

def mulI : E → E → E
  | .li n, .li m => .li (n * m)
  | a, .li m => if m = 1 then a else if m = 0 then .li 0 else .bi .mul a (.li m)
  | .li m, b => if m = 1 then b else if m = 0 then .li 0 else .bi .mul b (.li m)
  | a, b => .bi .mul a b

theorem mulI_int (ρ : Env) (a b : E) : ((mulI a b).ev ρ).int = (a.ev ρ).int * (b.ev ρ).int := by
  unfold mulI
  split
  · rfl
  · split
    · rename_i h; simp [E.ev, h]
    · split
      · rename_i h; simp [E.ev, h]
      · rfl
  · split
    · rename_i h; simp [E.ev, h]
    · split
      · rename_i h; simp [E.ev, h]
      · simp [E.ev, B2.ev, Int.mul_comm]
  · rfl

def wrapI (F : Facts) (k : IntKind) (a : E) : E :=
  match a with
  | .li n => .li (k.wrap n)
  | a => if inKind F k a then a else .un (.wrap k) a

theorem wrapI_int {F : Facts} {ρ : Env} (hF : F.ok ρ) (k : IntKind) (a : E) : ((wrapI F k a).ev ρ).int = k.wrap (a.ev ρ).int := by
  unfold wrapI
  split
  · rfl
  · split
    · rename_i h; exact (inKind_sound hF h).symm
    · rfl

/-- Both literals: reckoned at once. -/
def lit2 (o : B2) (a b : E) : E :=
  match a, b with
  | .li n, .li m => match o.ev (.I n) (.I m) with
    | .I r => .li r
    | _ => .bi o a b
  | a, b => .bi o a b

theorem lit2_ev (ρ : Env) (o : B2) (a b : E) : (lit2 o a b).ev ρ = o.ev (a.ev ρ) (b.ev ρ) := by
  unfold lit2
  split
  · split
    · rename_i n m r h; simp [E.ev, h]
    · rfl
  · rfl

def rwE (F : Facts) (e : E) : E := match findE e F.eqs with | some x => x | none => e

theorem rwE_ev {F : Facts} {ρ : Env} (hF : F.ok ρ) (e : E) : (rwE F e).ev ρ = e.ev ρ := by
  unfold rwE
  split
  · rename_i h; exact (hF.eqs _ (findE_mem h)).symm
  · rfl

/-- A test, decided where it can be. -/
def boolE (F : Facts) (e : E) : E := match e.dec F with | some w => .lb w | none => e

theorem boolE_bool {F : Facts} {ρ : Env} (hF : F.ok ρ) (e : E) : ((boolE F e).ev ρ).bool = (e.ev ρ).bool := by
  unfold boolE
  split
  · rename_i h; rw [E.dec_sound hF h]; rfl
  · rfl

def notB (e : E) : E :=
  match e with
  | .lb w => .lb (!w)
  | .un .not a => a
  | a => .un .not a

theorem notB_bool (ρ : Env) (e : E) : ((notB e).ev ρ).bool = !(e.ev ρ).bool := by
  unfold notB
  split
  · rfl
  · simp [E.ev, U.ev]
  · rfl

def iteE (F : Facts) (c a b : E) : E :=
  match c.dec F with
  | some true => a
  | some false => b
  | none => if a.same b then a else .tr .ite c a b

theorem iteE_ev {F : Facts} {ρ : Env} (hF : F.ok ρ) (c a b : E) : (iteE F c a b).ev ρ = if (c.ev ρ).bool then a.ev ρ else b.ev ρ := by
  unfold iteE
  split
  · rename_i h; simp [E.dec_sound hF h]
  · rename_i h; simp [E.dec_sound hF h]
  · split
    · rename_i h; rw [E.same_eq h]; simp
    · rfl

def lenS : E → E
  | .ls x => .li x.size
  | .un .chr _ => .li 1
  | .bi .cat a b => addI (lenS a) (lenS b)
  | e => .un .len e

theorem chrOf_size (n : Int) : (chrOf n).size = 1 := rfl

theorem lenS_int (ρ : Env) : ∀ e : E, ((lenS e).ev ρ).int = ((e.ev ρ).str.size : Int) := by
  intro e
  induction e with
  | ls x => rfl
  | un o a _ => cases o <;> first | rfl | simp [lenS, E.ev, U.ev, chrOf_size]
  | bi o a b iha ihb =>
    cases o <;> first | rfl | skip
    simp [lenS, addI_int, iha, ihb, E.ev, B2.ev, ByteArray.size_append]
  | vr n => rfl
  | li n => rfl
  | lb w => rfl
  | tr o a b c _ _ _ => rfl

def catS : E → E → E
  | .ls x, .ls y => .ls (x ++ y)
  | a, b => if litS? a = some ByteArray.empty then b else if litS? b = some ByteArray.empty then a else .bi .cat a b

theorem append_empty' (x : ByteArray) : x ++ ByteArray.empty = x := by
  apply ByteArray.ext; simp
theorem empty_append' (x : ByteArray) : ByteArray.empty ++ x = x := by
  apply ByteArray.ext; simp

theorem catS_str (ρ : Env) (a b : E) : ((catS a b).ev ρ).str = (a.ev ρ).str ++ (b.ev ρ).str := by
  unfold catS
  split
  · rfl
  · split
    · rename_i h; rw [litS?_eq h]; simp only [E.ev, Sc.str_S]; exact (empty_append' _).symm
    · split
      · rename_i h; rw [litS?_eq h]; simp only [E.ev, Sc.str_S]; exact (append_empty' _).symm
      · rfl

def subS : E → E → E → E
  | .ls x, .li a, .li b => .ls (x.extract a.toNat b.toNat)
  | x, a, b => .tr .sub x a b

theorem subS_ev (ρ : Env) (x a b : E) : ((subS x a b).ev ρ).str = (x.ev ρ).str.extract (a.ev ρ).int.toNat (b.ev ρ).int.toNat := by
  unfold subS
  split <;> rfl

def atS : E → E → E
  | .ls x, .li n => .li (byteAt x n)
  | x, n => .bi .at x n

theorem atS_int (ρ : Env) (x n : E) : ((atS x n).ev ρ).int = byteAt (x.ev ρ).str (n.ev ρ).int := by
  unfold atS
  split <;> rfl

def chrS : E → E
  | .li n => .ls (chrOf n)
  | e => .un .chr e

theorem chrS_str (ρ : Env) (e : E) : ((chrS e).ev ρ).str = chrOf (e.ev ρ).int := by
  unfold chrS
  split <;> rfl

end Go.Eng
