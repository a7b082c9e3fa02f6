/-
  Blocks that begin and end with cells known one by one, between them a row of cells that are not: what is read and what is written, at whatever place.
-/
import Derived.Test.YtcebboibpbbgdaaGreatDoorEngG4
import Derived.Test.YtcebboibpbbgdaaGreatDoorEngG0
namespace Go.Eng

section
variable (P : Program) (F : Facts)

/-- What is added to an offset, as a number. -/
def sumE : List (E × Nat) → E
  | [] => .li 0
  | (e, s) :: r => match r with
    | [] => mulI e (.li s)
    | _ => addI (mulI e (.li s)) (sumE r)

def posE (b : Nat) (l : List (E × Nat)) : E := addI (sumE l) (.li b)
def nnT (l : List (E × Nat)) : Bool := l.all fun p => (E.bi .lt p.1 (.li 0)).dec F == some false

/-- Is the one below the other? -/
def ltD (a b : E) : Option Bool := match diffL a b with
  | some d => some (decide (d < 0))
  | none => (E.bi .lt a b).dec F

/-- The kind of all cells from a place on. -/
def segK (sh : List Kd) (b w : Nat) : Option Kd := match sh with
  | [k] => some k
  | _ => if b % sh.length + w < sh.length then
      (match (sh.drop (b % sh.length)).take (w + 1) with
      | k :: r => if r.all (fun x => decide (x = k)) then some k else none
      | [] => none)
    else none

def allK (f : Nat → Option Kd) : Nat → Option Kd
  | 0 => f 0
  | n + 1 => match f (n + 1), allK f n with
    | some a, some b => if a = b then some a else none
    | _, _ => none

/-- The kind of all cells that a place may be, and of so many behind it. -/
def kindsAt (sh : List Kd) : List (E × Nat) → Nat → Nat → Option Kd
  | [], b, w => segK sh b w
  | (e, s) :: r, b, w => if s % sh.length = 0 then kindsAt sh r b w else
    match e.rng F with
    | (some lo, some hi) => if 0 ≤ lo ∧ lo ≤ hi then
        (if s = 1 then kindsAt sh r (b + lo.toNat) (w + (hi - lo).toNat) else allK (fun j => kindsAt sh r (b + (lo.toNat + j) * s) w) (hi - lo).toNat)
      else none
    | _ => none

/-- How long a row is, where it is told. -/
def lenR : E → Option E
  | .un (.row (.cI _)) _ => some (.li 1)
  | .un (.row .cB) _ => some (.li 1)
  | .un (.row .cS) _ => some (.li 1)
  | .un (.row .ofS) s => some (lenS s)
  | .bi (.row .cat) a b => match lenR a, lenR b with
    | some x, some y => some (addI x y)
    | _, _ => none
  | .bi (.row .rep) r (.li n) => match lenR r with
    | some (.li 1) => if 0 ≤ n then some (.li n) else none
    | _ => none
  | .tr (.row .set) a _ _ => lenR a
  | _ => none

/-- What one place is behind another one. -/
def offL (j i : E) : E := match diffL j i with
  | some d => .li d
  | none => subI j i

/-- A cell of a row: what was laid there last. 'N': so many cells the row has at least. -/
def cellX (kd : Kd) : Nat → E → E → E
  | N, .tr .ite c x y, j => iteE F c (cellX kd N x j) (cellX kd N y j)
  | N, .tr (.row .set) a i r, j => match lenR r with
    | some n =>
      if ltD F j i = some true then cellX kd N a j
      else if ltD F i (.li 0) = some false then
        (if ltD F j (addI i n) = some false then cellX kd N a j
        else if ltD F j i = some false ∧ ltD F j (addI i n) = some true ∧ (litI? n = some 1 ∨ ltD F (.li N) (addI i n) = some false) then cellX kd 0 r (offL j i)
        else .bi .cell (.tr (.row .set) a i r) j)
      else .bi .cell (.tr (.row .set) a i r) j
    | none => .bi .cell (.tr (.row .set) a i r) j
  | _, .tr (.row .sub) a lo hi, j => if ltD F lo (.li 0) = some false then cellX kd 0 a (addI j lo) else .bi .cell (.tr (.row .sub) a lo hi) j
  | _, .bi (.row .rep) r n, j => match oneOf kd r with
    | some v => v
    | none => .bi .cell (.bi (.row .rep) r n) j
  | _, .bi (.row .cat) x y, j => match lenR x with
    | some n => (match ltD F j n with
      | some true => cellX kd 0 x j
      | some false => cellX kd 0 y (offL j n)
      | none => .bi .cell (.bi (.row .cat) x y) j)
    | none => .bi .cell (.bi (.row .cat) x y) j
  | _, .un (.row .ofS) s, j => if kd = .int .u8 then atS s j else .bi .cell (.un (.row .ofS) s) j
  | _, a, j => match oneOf kd a with
    | some v => v
    | none => .bi .cell a j

def cellK (N : Nat) (a pos : E) : Kd → Option DV
  | .int k => some (.int k (wrapI F k (rwE F (cellX F (.int k) N a pos))))
  | .bool => some (.bool (boolE F (cellX F .bool N a pos)))
  | .str => some (.str (rwE F (cellX F .str N a pos)))
  | .any => none

def cellsK (N : Nat) (a : E) (l : List (E × Nat)) : Nat → List Kd → Option (List DV)
  | _, [] => some []
  | b, k :: ks => match cellK F N a (posE b l) k, cellsK N a l (b + 1) ks with
    | some d, some r => some (d :: r)
    | _, _ => none

def ksAt (sh : List Kd) (l : List (E × Nat)) : Nat → Nat → Option (List Kd)
  | _, 0 => some []
  | b, s + 1 => match kindsAt F sh l b 0, ksAt sh l (b + 1) s with
    | some k, some r => some (k :: r)
    | _, _ => none

def ksOf (sh : List Kd) (l : List (E × Nat)) (b size : Nat) : Option (List Kd) :=
  if l.isEmpty && decide (b % sh.length + size ≤ sh.length) then some ((sh.drop (b % sh.length)).take size) else ksAt F sh l b size

def litN (n : E) (k : Nat) : Nat := match n with
  | .li x => x.toNat * k
  | _ => 0

/-- Does so much fit from a place on? -/
def fitsR (n : E) (k : Nat) (l : List (E × Nat)) (b : Nat) (w : E) : Bool := nnT F l && (ltD F (mulI n (.li k)) (addI (posE b l) w) == some false)

def loadRow (t : TypeId) (a n : E) (sh : List Kd) (b : Nat) (l : List (E × Nat)) : Option DV :=
  match aggT P t, P.info? t with
  | some false, some _ => if fitsR F n sh.length l b (.li 1) then (kindsAt F sh l b 0).bind (cellK F (litN n sh.length) a (posE b l)) else none
  | some true, some i => if fitsR F n sh.length l b (.li i.size) then (ksOf F sh l b i.size).bind fun ks => (cellsK F (litN n sh.length) a l b ks).map .agg else none
  | _, _ => none

def pickL (g : Bool) (l : List DV) (b size : Nat) : Option DV := if g then (if b + size ≤ l.length then some (.agg ((l.drop b).take size)) else none) else l[b]?

/-- Which of the last cells. -/
def sufAt (p : Nat) (n : E) (sh : List Kd) (o : Off) : Option Nat :=
  if nnT F o.terms then (match diffL (posE (o.base - p) o.terms) (mulI n (.li sh.length)) with
    | some k => if 0 ≤ k ∧ (E.bi .lt n (.li 0)).dec F = some false then some k.toNat else none
    | none => none) else none

/-- Is it among the first cells? -/
def inPre (g : Bool) (o : Off) (size p : Nat) : Bool := o.terms.isEmpty && decide (o.base + (if g then size else 1) ≤ p)

def loadMix (h : T Blk) (t : TypeId) (id : Nat) (o : Off) : Option DV := match h.get id with
  | some (.mix pre a n sh suf _ _) => match aggT P t, P.info? t with
    | some g, some i =>
      if inPre g o i.size pre.length then pickL g pre o.base i.size
      else if pre.length ≤ o.base then (match sufAt F pre.length n sh o with
        | some k => pickL g suf k i.size
        | none => loadRow P F t a n sh (o.base - pre.length) o.terms)
      else none
    | _, _ => none
  | _ => none

/-- A row where cells are laid over; one that is there already changes nothing. -/
def setX (N : Nat) (a pos row : E) (ks : List Kd) (cs : List DV) : E := match ks, cs with
  | [k], [c] => (match cellK F N a pos k with
    | some c' => if c'.eqv c then a else .tr (.row .set) a pos row
    | none => .tr (.row .set) a pos row)
  | _, _ => .tr (.row .set) a pos row

def storeMix (h : T Blk) (t : TypeId) (id : Nat) (o : Off) (x : DV) : Option (T Blk) := match h.get id, P.info? t with
  | some (.mix pre a n sh suf t0 md), some i =>
    if x.cells.length = i.size ∧ x.cells.all DV.one = true ∧ md.rw' = true then
      (if o.terms.isEmpty && decide (o.base + x.cells.length ≤ pre.length) then some (h.set id (.mix (setL pre o.base x.cells) a n sh suf t0 md))
      else if pre.length ≤ o.base then (match sufAt F pre.length n sh o with
        | some k => if k + x.cells.length ≤ suf.length then some (h.set id (.mix pre a n sh (setL suf k x.cells) t0 md)) else none
        | none => if fitsR F n sh.length o.terms (o.base - pre.length) (.li x.cells.length) then
            (match ksOf F sh o.terms (o.base - pre.length) x.cells.length with
            | some ks => (match rowE F ks x.cells with
              | some row => some (h.set id (.mix pre (setX F (litN n sh.length) a (posE (o.base - pre.length) o.terms) row ks x.cells) n sh suf t0 md))
              | none => none)
            | none => none)
          else none)
      else none)
    else none
  | _, _ => none

/-- Are these cells bytes? -/
def bytesK (sh : List Kd) (l : List (E × Nat)) (b : Nat) (w : E) : Bool := match (w.rng F).2 with
  | some hi => decide (hi ≤ 0) || kindsAt F sh l b (hi - 1).toNat == some (.int .u8)
  | none => false

/-- How many bytes of a string are copied, and which. -/
def copyS (len e : E) : Option (E × E) := match ltD F len (lenS e) with
  | some false => some (lenS e, e)
  | some true => some (len, subS e (.li 0) len)
  | none => none

def copyMix (h : T Blk) (n0 : Nat) (e : E) : DV → Option Out
  | .slc id o len _ => match h.get id with
    | some (.mix pre a n sh suf t0 md) =>
      if pre.length ≤ o.base ∧ md.rw' = true ∧ (E.bi .lt len (.li 0)).dec F = some false then (match copyS F len e with
        | some (k, s) => if fitsR F n sh.length o.terms (o.base - pre.length) k && bytesK F sh o.terms (o.base - pre.length) k then
            some ⟨.int .i64 k, h.set id (.mix pre (.tr (.row .set) a (posE (o.base - pre.length) o.terms) (.un (.row .ofS) s)) n sh suf t0 md), n0⟩ else none
        | none => none)
      else none
    | _ => none
  | _ => none

/-- A part of a row, without what was laid beside it. -/
def subR : E → E → E → E
  | .tr (.row .set) a i r, lo, hi => match lenR r with
    | some n => if ltD F i hi = some false then subR a lo hi
      else if ltD F i (.li 0) = some false ∧ ltD F lo (addI i n) = some false then subR a lo hi
      else .tr (.row .sub) (.tr (.row .set) a i r) lo hi
    | none => .tr (.row .sub) (.tr (.row .set) a i r) lo hi
  | a, lo, hi => .tr (.row .sub) a lo hi

/-- A row of told bytes. -/
def bytesR : E → Option (List Int)
  | .un (.row (.cI .u8)) (.li n) => some [n]
  | .un (.row .ofS) (.ls s) => some (s.data.toList.map fun b => (b.toNat : Int))
  | .bi (.row .cat) a b => match bytesR a, bytesR b with
    | some x, some y => some (x ++ y)
    | _, _ => none
  | .bi (.row .rep) r (.li n) => match bytesR r with
    | some [x] => some (List.replicate n.toNat x)
    | _ => none
  | .tr (.row .set) a (.li i) r => match bytesR a, bytesR r with
    | some x, some y => if i.toNat + y.length ≤ x.length then some (x.take i.toNat ++ y ++ x.drop (i.toNat + y.length)) else none
    | _, _ => none
  | .tr (.row .sub) a (.li lo) (.li hi) => (bytesR a).map fun x => (x.take hi.toNat).drop lo.toNat
  | _ => none
/-- The same, ahead of others. -/
def bytesA : E → List Int → Option (List Int)
  | .bi (.row .cat) a b, acc => (bytesA b acc).bind (bytesA a)
  | e, acc => (bytesR e).map (· ++ acc)
/-- The string of a row of bytes. -/
def strR (e : E) : E := match bytesA e [] with
  | some ns => .ls (strOfNums ns)
  | none => .un (.row .toS) e

def bytesMix (h : T Blk) : DV → Option E
  | .slc id o len _ => match h.get id with
    | some (.mix pre a n sh _ _ _) =>
      if pre.length ≤ o.base ∧ (E.bi .lt len (.li 0)).dec F = some false ∧ fitsR F n sh.length o.terms (o.base - pre.length) len = true ∧ bytesK F sh o.terms (o.base - pre.length) len = true then
        (match litI? len with
        | some k => if k ≤ 16 then (cellsK F (litN n sh.length) a o.terms (o.base - pre.length) (List.replicate k.toNat (.int .u8))).bind strE
          else some (strR (subR F a (posE (o.base - pre.length) o.terms) (addI (posE (o.base - pre.length) o.terms) len)))
        | none => some (strR (subR F a (posE (o.base - pre.length) o.terms) (addI (posE (o.base - pre.length) o.terms) len))))
      else none
    | _ => none
  | _ => none

/-- The string of a whole row of bytes and the last ones behind it. -/
def bytesEnd (h : T Blk) : DV → Option E
  | .slc id o (.li x) _ => match o.terms, h.get id with
    | [], some (.mix [] a (.li y) [.int .u8] suf _ _) => if o.base = 0 ∧ 0 ≤ y ∧ x = y + suf.length then (strE suf).map (catS (strR a)) else none
    | _, _ => none
  | _ => none

variable {P} {F}

theorem ltD_true {ρ : Env} (hF : F.ok ρ) {a b : E} (h : ltD F a b = some true) : (a.ev ρ).int < (b.ev ρ).int := by
  unfold ltD at h
  split at h
  · rename_i d hd
    have := diffL_ok (ρ := ρ) hd
    simp only [Option.some.injEq, decide_eq_true_eq] at h
    omega
  · exact of_decide_eq_true (E.dec_sound hF h)

theorem ltD_false {ρ : Env} (hF : F.ok ρ) {a b : E} (h : ltD F a b = some false) : (b.ev ρ).int ≤ (a.ev ρ).int := by
  unfold ltD at h
  split at h
  · rename_i d hd
    have := diffL_ok (ρ := ρ) hd
    simp only [Option.some.injEq, decide_eq_false_iff_not] at h
    omega
  · exact Int.not_lt.1 (of_decide_eq_false (E.dec_sound hF h))

theorem sumE_int {ρ : Env} (hF : F.ok ρ) : ∀ {l : List (E × Nat)}, nnT F l = true → ((sumE l).ev ρ).int = (sumT ρ l : Int)
  | [], _ => rfl
  | (e, s) :: r, h => by
    simp only [nnT, List.all_cons, Bool.and_eq_true, beq_iff_eq] at h
    have h0 := nonneg_of hF h.1
    have ih := sumE_int hF (l := r) h.2
    have h1 : (e.ev ρ).int * (s : Int) = (((e.ev ρ).int.toNat * s : Nat) : Int) := by rw [Int.natCast_mul, Int.toNat_of_nonneg h0]
    cases r with
    | nil => simp only [sumE, mulI_int, sumT, E.ev, Sc.int_I, Nat.add_zero]; exact h1
    | cons p r =>
      simp only [sumE] at ih ⊢
      rw [addI_int, mulI_int]
      simp only [sumT, E.ev, Sc.int_I] at ih ⊢
      rw [ih, h1]; omega

theorem posE_int {ρ : Env} (hF : F.ok ρ) {l : List (E × Nat)} (h : nnT F l = true) (b : Nat) : ((posE b l).ev ρ).int = ((b + sumT ρ l : Nat) : Int) := by
  unfold posE
  rw [addI_int, sumE_int hF h]
  simp only [E.ev, Sc.int_I]; omega

theorem segK_ok {sh : List Kd} {b w : Nat} {k : Kd} (h : segK sh b w = some k) {j : Nat} (hj : j ≤ w) : sh.getD ((b + j) % sh.length) .any = k := by
  unfold segK at h
  split at h
  · cases h; simp [Nat.mod_one]
  · split at h
    · rename_i hw
      have hm : (b + j) % sh.length = b % sh.length + j := by
        rw [← Nat.mod_add_mod, Nat.mod_eq_of_lt (by omega)]
      rw [hm]
      split at h
      · rename_i x r hx
        split at h
        · rename_i hall
          cases h
          have hlt : b % sh.length + j < sh.length := by omega
          have hg : ((sh.drop (b % sh.length)).take (w + 1))[j]? = sh[b % sh.length + j]? := by
            rw [List.getElem?_take, if_pos (by omega), List.getElem?_drop]
          rw [hx] at hg
          rw [List.getD_eq_getElem?_getD, ← hg]
          cases j with
          | zero => rfl
          | succ j =>
            rw [List.getElem?_cons_succ]
            have : j < r.length := by
              have hl := congrArg List.length hx
              simp only [List.length_take, List.length_drop, List.length_cons] at hl
              omega
            rw [List.getElem?_eq_getElem this]
            have := List.all_eq_true.1 hall _ (List.getElem_mem this)
            simpa using this
        · cases h
      · cases h
    · cases h

theorem allK_ok {f : Nat → Option Kd} : ∀ {n : Nat} {k : Kd}, allK f n = some k → ∀ {j : Nat}, j ≤ n → f j = some k
  | 0, k, h, j, hj => by
    obtain rfl := Nat.le_zero.1 hj
    exact h
  | n + 1, k, h, j, hj => by
    simp only [allK] at h
    split at h
    · rename_i a b ha hb
      split at h
      · rename_i e
        cases h
        subst e
        by_cases hn : j = n + 1
        · subst hn; exact ha
        · exact allK_ok hb (by omega)
      · cases h
    · cases h

theorem kindsAt_ok {ρ : Env} (hF : F.ok ρ) {sh : List Kd} : ∀ {l : List (E × Nat)} {b w : Nat} {k : Kd}, kindsAt F sh l b w = some k → ∀ {j : Nat}, j ≤ w → sh.getD ((b + j + sumT ρ l) % sh.length) .any = k
  | [], b, w, k, h, j, hj => segK_ok h hj
  | (e, s) :: r, b, w, k, h, j, hj => by
    simp only [kindsAt] at h
    simp only [sumT]
    split at h
    · rename_i hs
      have ih := kindsAt_ok hF h hj
      obtain ⟨q, hq⟩ := Nat.dvd_of_mod_eq_zero hs
      rw [show b + j + ((e.ev ρ).int.toNat * s + sumT ρ r) = (b + j + sumT ρ r) + sh.length * ((e.ev ρ).int.toNat * q) by rw [hq, Nat.mul_left_comm]; omega, Nat.add_mul_mod_self_left]
      exact ih
    · split at h
      · rename_i lo hi hr
        split at h
        · rename_i hlo
          have hrng := E.rng_has hF e
          rw [hr] at hrng
          have h1 := hrng.1 lo rfl
          have h2 := hrng.2 hi rfl
          split at h
          · rename_i hs1
            subst hs1
            have := kindsAt_ok hF h (j := j + ((e.ev ρ).int.toNat - lo.toNat)) (by omega)
            rw [show b + j + ((e.ev ρ).int.toNat * 1 + sumT ρ r) = b + lo.toNat + (j + ((e.ev ρ).int.toNat - lo.toNat)) + sumT ρ r by omega]
            exact this
          · have h3 := allK_ok h (j := (e.ev ρ).int.toNat - lo.toNat) (by omega)
            rw [show lo.toNat + ((e.ev ρ).int.toNat - lo.toNat) = (e.ev ρ).int.toNat by omega] at h3
            have := kindsAt_ok hF h3 hj
            rw [show b + j + ((e.ev ρ).int.toNat * s + sumT ρ r) = b + (e.ev ρ).int.toNat * s + j + sumT ρ r by omega]
            exact this
        · cases h
      · cases h

theorem setRow_length (l : List Value) (p : Nat) (r : List Value) : (setRow l p r).length = l.length := by
  unfold setRow
  split
  · simp only [List.length_append, List.length_take, List.length_drop]; omega
  · rfl

theorem setRow_get {l r : List Value} {p : Nat} (hfit : p + r.length ≤ l.length) (i : Nat) : (setRow l p r)[i]? = if i < p then l[i]? else if i < p + r.length then r[i - p]? else l[i]? := by
  unfold setRow
  rw [if_pos hfit]
  exact set_get hfit i

theorem lenR_ok {ρ : Env} : ∀ {a n : E}, lenR a = some n → ((a.ev ρ).arr.length : Int) = (n.ev ρ).int := by
  intro a
  induction a with
  | un o a ih =>
    intro n h
    cases o with
    | row o =>
      cases o with
      | cI k => simp only [lenR, Option.some.injEq] at h; subst h; rfl
      | cB => simp only [lenR, Option.some.injEq] at h; subst h; rfl
      | cS => simp only [lenR, Option.some.injEq] at h; subst h; rfl
      | ofS =>
        simp only [lenR, Option.some.injEq] at h; subst h
        rw [lenS_int]
        simp [E.ev, U.ev, RU.ev]
      | toS => simp [lenR] at h
    | _ => simp [lenR] at h
  | bi o a b iha ihb =>
    intro n h
    cases o with
    | row o =>
      cases o with
      | cat =>
        simp only [lenR] at h
        split at h
        · rename_i x y hx hy
          cases h
          rw [addI_int, ← iha hx, ← ihb hy]
          simp [E.ev, B2.ev, RB.ev]
        · cases h
      | rep =>
        cases b with
        | li x =>
          simp only [lenR] at h
          split at h
          · rename_i h1
            split at h
            · rename_i hn
              cases h
              have := iha h1
              simp only [E.ev, Sc.int_I] at this
              have h1 : (a.ev ρ).arr.length = 1 := by omega
              simp only [E.ev, B2.ev, RB.ev, Sc.arr_A, Sc.int_I, List.length_flatten, List.map_replicate, h1, List.sum_replicate_nat]
              omega
            · cases h
          · cases h
        | _ => simp [lenR] at h
    | _ => simp [lenR] at h
  | tr o a b c iha ihb ihc =>
    intro n h
    cases o with
    | row o =>
      cases o with
      | set =>
        simp only [lenR] at h
        rw [← iha h]
        simp only [E.ev, B3.ev, RT.ev, Sc.arr_A, setRow_length]
      | sub => simp [lenR] at h
    | _ => simp [lenR] at h
  | vr n => intro n h; simp [lenR] at h
  | li n => intro n h; simp [lenR] at h
  | lb n => intro n h; simp [lenR] at h
  | ls n => intro n h; simp [lenR] at h

theorem offL_int (ρ : Env) (j i : E) : ((offL j i).ev ρ).int = (j.ev ρ).int - (i.ev ρ).int := by
  unfold offL
  split
  · rename_i d hd; rw [diffL_ok (ρ := ρ) hd]; rfl
  · rw [subI_int]

theorem cell_base {ρ : Env} {kd : Kd} {a j : E} {v : Value} (hv : (a.ev ρ).arr[(j.ev ρ).int.toNat]? = some v) : kd.eqS ((E.bi .cell a j).ev ρ) (Sc.ofValue v) := by
  have : (E.bi .cell a j).ev ρ = Sc.ofValue v := by simp only [E.ev, B2.ev, List.getD_eq_getElem?_getD, hv]; rfl
  rw [this]; exact Kd.eqS_refl _ _

theorem one_or {ρ : Env} {kd : Kd} {a j : E} {v : Value} (hv : (a.ev ρ).arr[(j.ev ρ).int.toNat]? = some v) : kd.eqS ((match oneOf kd a with | some v => v | none => E.bi .cell a j).ev ρ) (Sc.ofValue v) := by
  split
  · rename_i e he
    obtain ⟨x, hx, heq⟩ := oneOf_ok (ρ := ρ) he
    rw [hx] at hv
    have : v = x := by have := List.mem_of_getElem? hv; simpa using this
    subst this; exact heq
  · exact cell_base hv

theorem cellX_ok {ρ : Env} (hF : F.ok ρ) {kd : Kd} : ∀ {a j : E} {N : Nat} {v : Value}, 0 ≤ (j.ev ρ).int → N ≤ (a.ev ρ).arr.length → (a.ev ρ).arr[(j.ev ρ).int.toNat]? = some v → kd.eqS ((cellX F kd N a j).ev ρ) (Sc.ofValue v) := by
  intro a
  induction a with
  | un o a ih =>
    clear ih
    intro j N v h0 hN hv
    by_cases ho : o = .row .ofS
    · subst ho
      simp only [cellX]
      split
      · rename_i hk
        subst hk
        simp only [E.ev, U.ev, RU.ev, Sc.arr_A, List.getElem?_map, Option.map_eq_some_iff] at hv
        obtain ⟨b, hb, rfl⟩ := hv
        simp only [Kd.eqS]
        rw [atS_int]
        show byteAt _ _ = (b.toNat : Int)
        unfold byteAt
        rw [List.getD_eq_getElem?_getD, hb]; rfl
      · exact cell_base hv
    · have e : cellX F kd N (.un o a) j = (match oneOf kd (.un o a) with | some v => v | none => E.bi .cell (.un o a) j) := by
        cases o with
        | row x => cases x <;> first | rfl | exact absurd rfl ho
        | _ => rfl
      rw [e]; exact one_or hv
  | bi o x y ihx ihy =>
    intro j N v h0 hN hv
    by_cases ho : o = .row .rep
    · subst ho
      simp only [cellX]
      split
      · rename_i v' hone
        obtain ⟨z, hz, he⟩ := oneOf_ok (ρ := ρ) hone
        have hmem := List.mem_of_getElem? hv
        simp only [E.ev, B2.ev, RB.ev, Sc.arr_A, hz, List.mem_flatten, List.mem_replicate] at hmem
        obtain ⟨l, ⟨_, rfl⟩, hl⟩ := hmem
        obtain rfl := List.mem_singleton.1 hl
        exact he
      · exact cell_base hv
    · by_cases hc : o = .row .cat
      · subst hc
        have hcat : ((E.bi (.row .cat) x y).ev ρ).arr = (x.ev ρ).arr ++ (y.ev ρ).arr := rfl
        simp only [cellX]
        split
        · rename_i n hn
          have hl := lenR_ok (ρ := ρ) hn
          split
          · rename_i hlt
            have := ltD_true hF hlt
            rw [hcat, List.getElem?_append_left (by omega)] at hv
            exact ihx h0 (Nat.zero_le _) hv
          · rename_i hlt
            have := ltD_false hF hlt
            rw [hcat, List.getElem?_append_right (by omega)] at hv
            have ho := offL_int ρ j n
            refine ihy (by omega) (Nat.zero_le _) ?_
            rw [show ((offL j n).ev ρ).int.toNat = (j.ev ρ).int.toNat - (x.ev ρ).arr.length by omega]
            exact hv
          · exact cell_base hv
        · exact cell_base hv
      · have e : cellX F kd N (.bi o x y) j = (match oneOf kd (.bi o x y) with | some v => v | none => E.bi .cell (.bi o x y) j) := by
          cases o with
          | row x => cases x <;> first | exact absurd rfl ho | exact absurd rfl hc
          | _ => rfl
        rw [e]; exact one_or hv
  | tr o a b c iha ihb ihc =>
    intro j N v h0 hN hv
    by_cases ho : o = .ite
    · subst ho
      simp only [cellX]
      rw [iteE_ev hF]
      simp only [E.ev, B3.ev] at hv hN
      cases hc : (a.ev ρ).bool with
      | true =>
        simp only [hc, if_true] at hv hN ⊢
        exact ihb h0 hN hv
      | false =>
        simp only [hc, Bool.false_eq_true, if_false] at hv hN ⊢
        exact ihc h0 hN hv
    · by_cases hs : o = .row .set
      · subst hs
        have hset : ((E.tr (.row .set) a b c).ev ρ).arr = setRow (a.ev ρ).arr (b.ev ρ).int.toNat (c.ev ρ).arr := rfl
        have hlen := setRow_length (a.ev ρ).arr (b.ev ρ).int.toNat (c.ev ρ).arr
        have hN' : N ≤ (a.ev ρ).arr.length := by rw [hset, hlen] at hN; exact hN
        have skip : ((j.ev ρ).int < (b.ev ρ).int ∨ (b.ev ρ).int + (c.ev ρ).arr.length ≤ (j.ev ρ).int ∧ 0 ≤ (b.ev ρ).int) → (a.ev ρ).arr[(j.ev ρ).int.toNat]? = some v := by
          intro hor
          rw [hset] at hv
          by_cases hfit : (b.ev ρ).int.toNat + (c.ev ρ).arr.length ≤ (a.ev ρ).arr.length
          · rw [setRow_get hfit] at hv
            split at hv
            · exact hv
            · split at hv
              · rcases hor with h | ⟨h, _⟩ <;> omega
              · exact hv
          · unfold setRow at hv
            rw [if_neg hfit] at hv; exact hv
        simp only [cellX]
        split
        · rename_i n hn
          have hl := lenR_ok (ρ := ρ) hn
          split
          · rename_i h1
            exact iha h0 hN' (skip (.inl (ltD_true hF h1)))
          · split
            · rename_i h2
              have hb0 := ltD_false hF h2
              simp only [E.ev, Sc.int_I] at hb0
              split
              · rename_i h3
                have := ltD_false hF h3
                rw [addI_int, ← hl] at this
                exact iha h0 hN' (skip (.inr ⟨this, hb0⟩))
              · split
                · rename_i h3
                  obtain ⟨g1, g2, g3⟩ := h3
                  have k1 := ltD_false hF g1
                  have k2 := ltD_true hF g2
                  rw [addI_int, ← hl] at k2
                  have hlt : (j.ev ρ).int.toNat < (a.ev ρ).arr.length := by
                    have := (List.getElem?_eq_some_iff.1 hv).1
                    rw [hset, hlen] at this; exact this
                  have hfit : (b.ev ρ).int.toNat + (c.ev ρ).arr.length ≤ (a.ev ρ).arr.length := by
                    rcases g3 with g3 | g3
                    · rw [litI?_eq g3] at hl
                      simp only [E.ev, Sc.int_I] at hl
                      omega
                    · have k3 := ltD_false hF g3
                      rw [addI_int, ← hl] at k3
                      simp only [E.ev, Sc.int_I] at k3
                      omega
                  rw [hset, setRow_get hfit, if_neg (by omega), if_pos (by omega)] at hv
                  have ho := offL_int ρ j b
                  refine ihc (by omega) (Nat.zero_le _) ?_
                  rw [show ((offL j b).ev ρ).int.toNat = (j.ev ρ).int.toNat - (b.ev ρ).int.toNat by omega]
                  exact hv
                · exact cell_base hv
            · exact cell_base hv
        · exact cell_base hv
      · by_cases hu : o = .row .sub
        · subst hu
          simp only [cellX]
          split
          · rename_i h1
            have hb0 := ltD_false hF h1
            simp only [E.ev, Sc.int_I] at hb0
            simp only [E.ev, B3.ev, RT.ev, Sc.arr_A, List.getElem?_drop] at hv
            rw [List.getElem?_take] at hv
            split at hv
            · have ha : ((addI j b).ev ρ).int = (j.ev ρ).int + (b.ev ρ).int := addI_int ρ j b
              refine iha (by omega) (Nat.zero_le _) ?_
              rw [show ((addI j b).ev ρ).int.toNat = (b.ev ρ).int.toNat + (j.ev ρ).int.toNat by omega]
              exact hv
            · cases hv
          · exact cell_base hv
        · have e : cellX F kd N (.tr o a b c) j = (match oneOf kd (.tr o a b c) with | some v => v | none => E.bi .cell (.tr o a b c) j) := by
            cases o with
            | row x => cases x <;> first | exact absurd rfl hs | exact absurd rfl hu
            | ite => exact absurd rfl ho
            | _ => rfl
          rw [e]; exact one_or hv
  | vr n => intro j N v h0 hN hv; exact one_or hv
  | li n => intro j N v h0 hN hv; exact one_or hv
  | lb n => intro j N v h0 hN hv; exact one_or hv
  | ls n => intro j N v h0 hN hv; exact one_or hv

theorem cellK_R {ρ : Env} (hF : F.ok ρ) {m : Emb} {N : Nat} {a pos : E} {k : Kd} {d : DV} (h : cellK F N a pos k = some d) (h0 : 0 ≤ (pos.ev ρ).int) (hN : N ≤ (a.ev ρ).arr.length) {v : Value}
    (hv : (a.ev ρ).arr[(pos.ev ρ).int.toNat]? = some v) (hk : k.ok v) : d.R m ρ v := by
  have hc := fun kd => cellX_ok (F := F) (kd := kd) hF h0 hN hv
  cases k with
  | int k =>
    simp only [cellK] at h; cases h
    obtain ⟨n, rfl, hn1, hn2⟩ := hk
    have hc' := hc (.int k)
    simp only [Kd.eqS] at hc'
    simp only [DV.R]; rw [wrapI_int hF, rwE_ev hF, hc']
    show Value.int k n = Value.int k (k.wrap n)
    rw [wrap_id hn1 hn2]
  | bool =>
    simp only [cellK] at h; cases h
    obtain ⟨n, rfl⟩ := hk
    have hc' := hc .bool
    simp only [Kd.eqS] at hc'
    simp only [DV.R]; rw [boolE_bool hF, hc']; rfl
  | str =>
    simp only [cellK] at h; cases h
    obtain ⟨n, rfl⟩ := hk
    have hc' := hc .str
    simp only [Kd.eqS] at hc'
    simp only [DV.R]; rw [rwE_ev hF, hc']; rfl
  | any => cases h

theorem cellK_any {N : Nat} {a pos : E} {k : Kd} {d : DV} (h : cellK F N a pos k = some d) : k ≠ .any := by
  intro e; subst e; cases h

theorem ksAt_ok {ρ : Env} (hF : F.ok ρ) {sh : List Kd} {l : List (E × Nat)} : ∀ {s b : Nat} {ks : List Kd}, ksAt F sh l b s = some ks → ks.length = s ∧ ∀ (j : Nat) (k : Kd), ks[j]? = some k → sh.getD ((b + j + sumT ρ l) % sh.length) .any = k
  | 0, b, ks, h => by simp only [ksAt, Option.some.injEq] at h; subst h; exact ⟨rfl, fun j k hk => by simp at hk⟩
  | s + 1, b, ks, h => by
    simp only [ksAt] at h
    split at h
    · rename_i k r hk hr
      cases h
      obtain ⟨h1, h2⟩ := ksAt_ok hF hr
      refine ⟨by simp [h1], fun j k' hj => ?_⟩
      cases j with
      | zero =>
        simp at hj; subst hj
        exact kindsAt_ok hF hk (Nat.zero_le _)
      | succ j =>
        have := h2 j k' (by simpa using hj)
        rw [show b + (j + 1) = b + 1 + j by omega]; exact this
    · cases h

theorem ksOf_ok {ρ : Env} (hF : F.ok ρ) {sh : List Kd} {l : List (E × Nat)} {s b : Nat} {ks : List Kd} (h : ksOf F sh l b s = some ks) : ks.length = s ∧ ∀ (j : Nat) (k : Kd), ks[j]? = some k → sh.getD ((b + j + sumT ρ l) % sh.length) .any = k := by
  unfold ksOf at h
  split at h
  · rename_i hc
    simp only [Bool.and_eq_true, List.isEmpty_iff, decide_eq_true_eq] at hc
    obtain ⟨rfl, hfit⟩ := hc
    cases h
    refine ⟨by simp; omega, fun j k hk => ?_⟩
    have hj : j < s := by
      have := (List.getElem?_eq_some_iff.1 hk).1
      simp at this; omega
    rw [List.getElem?_take, if_pos hj, List.getElem?_drop] at hk
    have hm : (b + j + sumT ρ []) % sh.length = b % sh.length + j := by
      simp only [sumT, Nat.add_zero]
      rw [← Nat.mod_add_mod, Nat.mod_eq_of_lt (by omega)]
    rw [hm, List.getD_eq_getElem?_getD, hk]; rfl
  · exact ksAt_ok hF h

theorem fitsR_ok {ρ : Env} (hF : F.ok ρ) {n w : E} {k : Nat} {l : List (E × Nat)} {b : Nat} (h : fitsR F n k l b w = true) : nnT F l = true ∧ (((b + sumT ρ l : Nat) : Int) + (w.ev ρ).int ≤ (n.ev ρ).int * k) := by
  unfold fitsR at h
  simp only [Bool.and_eq_true, beq_iff_eq] at h
  have := ltD_false hF h.2
  rw [addI_int, posE_int hF h.1, mulI_int] at this
  exact ⟨h.1, by simpa [E.ev] using this⟩

theorem mul_toNat {x : Int} {k p : Nat} (h : (p : Int) ≤ x * k) : p ≤ x.toNat * k := by
  by_cases hx : 0 ≤ x
  · have : ((x.toNat * k : Nat) : Int) = x * k := by rw [Int.natCast_mul, Int.toNat_of_nonneg hx]
    omega
  · have : x * (k : Int) ≤ 0 := Int.mul_nonpos_of_nonpos_of_nonneg (by omega) (Int.natCast_nonneg k)
    omega

/-- What is known of such a block's cells. -/
structure MixR (m : Emb) (ρ : Env) (pre : List DV) (a n : E) (sh : List Kd) (suf : List DV) (c : Array Value) : Prop where
  len : (a.ev ρ).arr.length = (n.ev ρ).int.toNat * sh.length
  le : pre.length + (a.ev ρ).arr.length + suf.length ≤ c.size
  fst : ∀ (i : Nat) (d : DV), pre[i]? = some d → ∃ v, c[i]? = some v ∧ d.R m ρ v
  row : ∀ (i : Nat) (v : Value), (a.ev ρ).arr[i]? = some v → sh.getD (i % sh.length) .any = .any ∨ c[pre.length + i]? = some v
  kd : ∀ (i : Nat) (v : Value), (a.ev ρ).arr[i]? = some v → (sh.getD (i % sh.length) .any).ok v
  lst : ∀ (i : Nat) (d : DV), suf[i]? = some d → ∃ v, c[pre.length + (a.ev ρ).arr.length + i]? = some v ∧ d.R m ρ v

theorem mix_at {m : Emb} {ρ : Env} {h : T Blk} {w : World} (hH : HeapR m ρ h w) {id b : Nat} {pre suf : List DV} {a n : E} {sh : List Kd} {t0 : TypeId} {md : Md} (hg : h.get id = some (.mix pre a n sh suf t0 md)) (hb : m.ι id = some b) :
    ∃ c fr t', w.heap[b]? = some (.cells c t' fr) ∧ MixR m ρ pre a n sh suf c ∧ md.ok m (m.κ id) c fr := by
  obtain ⟨b', ob, hb', ho, c, fr, ⟨t', rfl⟩, h1, h2, h3, h4, h5, h6, h7⟩ := hH.blk id _ hg rfl
  rw [hb] at hb'; cases hb'
  exact ⟨c, fr, t', ho, ⟨h1, h2, h3, h4, h5, h6⟩, h7⟩

theorem MixR.blk {m : Emb} {ρ : Env} {pre suf : List DV} {a n : E} {sh : List Kd} {c : Array Value} (h : MixR m ρ pre a n sh suf c) {t t' : TypeId} {md : Md} {k : Nat} {fr : Nat × Nat} (hmd : md.ok m k c fr) : (Blk.mix pre a n sh suf t md).R m ρ k (.cells c t' fr) :=
  ⟨c, fr, ⟨_, rfl⟩, h.len, h.le, h.fst, h.row, h.kd, h.lst, hmd⟩

theorem litN_le {ρ : Env} {n : E} {k L : Nat} (h : L = (n.ev ρ).int.toNat * k) : litN n k ≤ L := by
  unfold litN
  split
  · simp only [E.ev, Sc.int_I] at h; omega
  · exact Nat.zero_le _

/-- Cells of the row that are known. -/
theorem MixR.cell {m : Emb} {ρ : Env} (hF : F.ok ρ) {pre suf : List DV} {a n : E} {sh : List Kd} {c : Array Value} (h : MixR m ρ pre a n sh suf c) {l : List (E × Nat)} (hnn : nnT F l = true) {b : Nat} (hlt : b + sumT ρ l < (a.ev ρ).arr.length) {k : Kd}
    (hk : sh.getD ((b + sumT ρ l) % sh.length) .any = k) {d : DV} (hd : cellK F (litN n sh.length) a (posE b l) k = some d) : ∃ v, c[pre.length + (b + sumT ρ l)]? = some v ∧ (a.ev ρ).arr[b + sumT ρ l]? = some v ∧ k.ok v ∧ d.R m ρ v := by
  have hget : (a.ev ρ).arr[b + sumT ρ l]? = some ((a.ev ρ).arr[b + sumT ρ l]'hlt) := by simp [hlt]
  have hp := posE_int hF hnn b
  have hkv := h.kd _ _ hget
  rw [hk] at hkv
  refine ⟨_, ?_, hget, hkv, cellK_R hF hd (by rw [hp]; omega) (litN_le h.len) (by rw [hp, Int.toNat_natCast]; exact hget) hkv⟩
  rcases h.row _ _ hget with h1 | h1
  · rw [hk] at h1; exact absurd h1 (cellK_any hd)
  · exact h1

theorem cellsK_ok {m : Emb} {ρ : Env} (hF : F.ok ρ) {pre suf : List DV} {a n : E} {sh : List Kd} {c : Array Value} (h : MixR m ρ pre a n sh suf c) {l : List (E × Nat)} (hnn : nnT F l = true) : ∀ {ks : List Kd} {b : Nat} {ds : List DV}, cellsK F (litN n sh.length) a l b ks = some ds →
    b + sumT ρ l + ks.length ≤ (a.ev ρ).arr.length → (∀ (j : Nat) (k : Kd), ks[j]? = some k → sh.getD ((b + j + sumT ρ l) % sh.length) .any = k) →
    ds.length = ks.length ∧ ∀ (j : Nat) (d : DV), ds[j]? = some d → ∃ v, c[pre.length + (b + sumT ρ l) + j]? = some v ∧ d.R m ρ v ∧ (a.ev ρ).arr[b + sumT ρ l + j]? = some v ∧ ∃ k, ks[j]? = some k ∧ k.ok v
  | [], b, ds, hd, _, _ => by simp only [cellsK, Option.some.injEq] at hd; subst hd; exact ⟨rfl, fun j d hj => by simp at hj⟩
  | k :: ks, b, ds, hd, hle, hks => by
    simp only [cellsK] at hd
    split at hd
    · rename_i d r h1 h2
      cases hd
      simp only [List.length_cons] at hle
      obtain ⟨g1, g2⟩ := cellsK_ok hF h hnn h2 (by omega) fun j k' hj => by
        have := hks (j + 1) k' (by simpa using hj)
        rw [show b + 1 + j = b + (j + 1) by omega]; exact this
      refine ⟨by simp [g1], fun j d' hj => ?_⟩
      cases j with
      | zero =>
        simp at hj; subst hj
        obtain ⟨v, q1, q2, q3, q4⟩ := h.cell hF hnn (b := b) (by omega) (by simpa using hks 0 k rfl) h1
        exact ⟨v, by simpa using q1, q4, by simpa using q2, k, rfl, q3⟩
      | succ j =>
        obtain ⟨v, q1, q2, q3, k', q4, q5⟩ := g2 j d' (by simpa using hj)
        exact ⟨v, by rw [show pre.length + (b + sumT ρ l) + (j + 1) = pre.length + (b + 1 + sumT ρ l) + j by omega]; exact q1, q2, by rw [show b + sumT ρ l + (j + 1) = b + 1 + sumT ρ l + j by omega]; exact q3, k', by simpa using q4, q5⟩
    · cases hd

theorem sufAt_ok {ρ : Env} (hF : F.ok ρ) {p : Nat} {n : E} {sh : List Kd} {o : Off} {k : Nat} (h : sufAt F p n sh o = some k) (hp : p ≤ o.base) : o.den ρ = p + (n.ev ρ).int.toNat * sh.length + k := by
  unfold sufAt at h
  split at h
  · rename_i hnn
    split at h
    · rename_i d hd
      split at h
      · rename_i hc
        cases h
        have h1 := diffL_ok (ρ := ρ) hd
        have h2 := nonneg_of hF hc.2
        rw [posE_int hF hnn, mulI_int] at h1
        simp only [E.ev, Sc.int_I] at h1
        have : (((n.ev ρ).int.toNat * sh.length : Nat) : Int) = (n.ev ρ).int * sh.length := by rw [Int.natCast_mul, Int.toNat_of_nonneg h2]
        simp only [Off.den]
        omega
      · cases h
    · cases h
  · cases h

/-- What is picked out of known cells. -/
theorem pickL_load {m : Emb} {ρ : Env} {l : List DV} {c : Array Value} {at' : Nat} (hl : ∀ (i : Nat) (d : DV), l[i]? = some d → ∃ v, c[at' + i]? = some v ∧ d.R m ρ v) {t : TypeId} {g : Bool} (hg : aggT P t = some g) {i : TypeInfo} (hi : P.info? t = some i)
    {b : Nat} {d : DV} (hd : pickL g l b i.size = some d) {w : World} {r : Nat} {t0 : TypeId} {fr : Nat × Nat} (hr : w.heap[r]? = some (.cells c t0 fr)) : ∃ v, (loadVar t ⟨r, at' + b, none⟩).run P w = .ok v w ∧ d.R m ρ v := by
  unfold pickL at hd
  cases g with
  | true =>
    simp only [if_true] at hd
    split at hd
    · rename_i hfit
      cases hd
      refine ⟨.agg ((List.range i.size).map fun j => c.getD (at' + b + j) undef).toArray, loadVar_many hg hi hr (by simp) (fun j v hv => ?_), ?_⟩
      · simp only [List.getElem?_map, Option.map_eq_some_iff] at hv
        obtain ⟨j', hj', rfl⟩ := hv
        obtain ⟨hlt, rfl⟩ := range_get hj'
        obtain ⟨v, hv, _⟩ := hl (b + j) l[b + j] (by simp)
        rw [← Nat.add_assoc] at hv
        simp [Array.getD_eq_getD_getElem?, hv]
      · simp only [DV.R]
        refine ⟨_, rfl, DV.RL.of_get (by simp; omega) (fun j d' hd' => ?_)⟩
        rw [List.getElem?_take] at hd'
        split at hd'
        · rename_i hj
          rw [List.getElem?_drop] at hd'
          obtain ⟨v, hv, hr⟩ := hl _ _ hd'
          rw [← Nat.add_assoc] at hv
          exact ⟨v, by simp [hj, Array.getD_eq_getD_getElem?, hv], hr⟩
        · cases hd'
    · cases hd
  | false =>
    simp only [Bool.false_eq_true, if_false] at hd
    obtain ⟨v, hv, hr'⟩ := hl _ _ hd
    exact ⟨v, loadVar_one hg hr hv, hr'⟩

theorem loadMix_sound {ρ : Env} (hF : F.ok ρ) {m : Emb} {h : T Blk} {w : World} (hH : HeapR m ρ h w) {t : TypeId} {id : Nat} {o : Off} {d : DV} (hd : loadMix P F h t id o = some d) {vp : Value} (hp : (DV.ptr id o).R m ρ vp) :
    ∃ v, (Instr.loadAt t vp).run P w = .ok v w ∧ d.R m ρ v := by
  simp only [DV.R] at hp
  obtain ⟨b, hb, rfl⟩ := hp
  have red : ∀ {v}, (loadVar t ⟨b, o.den ρ, none⟩).run P w = .ok v w → (Instr.loadAt t (.pointer (some ⟨b, o.den ρ, none⟩))).run P w = .ok v w := fun h => by
    simp only [Instr.loadAt, Instr.sureAddr, Sem.run_bind, Sem.run_pure, Result.andThen_ok, h]
  unfold loadMix at hd
  split at hd
  · rename_i pre a n sh suf t0 md hg
    obtain ⟨c, fr, t', ho, hM, hmd⟩ := mix_at hH hg hb
    split at hd
    · rename_i g i hga hi
      split at hd
      · rename_i hc
        simp only [inPre, Bool.and_eq_true, List.isEmpty_iff, decide_eq_true_eq] at hc
        have hden : o.den ρ = 0 + o.base := by simp [Off.den, hc.1, sumT]
        obtain ⟨v, h1, h2⟩ := pickL_load (at' := 0) (c := c) (fun i d hd => by simpa using hM.fst i d hd) hga hi hd ho
        exact ⟨v, red (by rw [hden]; exact h1), h2⟩
      · split at hd
        · rename_i hle
          split at hd
          · rename_i k hk
            have hden := sufAt_ok hF hk hle
            obtain ⟨v, h1, h2⟩ := pickL_load (at' := pre.length + (a.ev ρ).arr.length) (c := c) hM.lst hga hi hd ho
            exact ⟨v, red (by rw [hden, ← hM.len]; exact h1), h2⟩
          · have hden : o.den ρ = pre.length + (o.base - pre.length + sumT ρ o.terms) := by simp only [Off.den]; omega
            unfold loadRow at hd
            rw [hga, hi] at hd
            cases g with
            | false =>
              simp only at hd
              split at hd
              · rename_i hfit
                obtain ⟨hnn, hfit⟩ := fitsR_ok hF hfit
                simp only [E.ev, Sc.int_I] at hfit
                have hlt : o.base - pre.length + sumT ρ o.terms + 1 ≤ (a.ev ρ).arr.length := by rw [hM.len]; exact mul_toNat (by omega)
                simp only [Option.bind_eq_some_iff] at hd
                obtain ⟨k, hk, hd⟩ := hd
                obtain ⟨v, q1, _, _, q4⟩ := hM.cell hF hnn (b := o.base - pre.length) (by omega) (by simpa using kindsAt_ok hF hk (Nat.zero_le _)) hd
                exact ⟨v, red (by rw [hden]; exact loadVar_one hga ho q1), q4⟩
              · cases hd
            | true =>
              simp only at hd
              split at hd
              · rename_i hfit
                obtain ⟨hnn, hfit⟩ := fitsR_ok hF hfit
                simp only [E.ev, Sc.int_I] at hfit
                have hlt : o.base - pre.length + sumT ρ o.terms + i.size ≤ (a.ev ρ).arr.length := by rw [hM.len]; exact mul_toNat (by omega)
                simp only [Option.bind_eq_some_iff, Option.map_eq_some_iff] at hd
                obtain ⟨ks, hks, ds, hds, rfl⟩ := hd
                obtain ⟨kl, kk⟩ := ksOf_ok (ρ := ρ) hF hks
                obtain ⟨g1, g2⟩ := cellsK_ok hF hM hnn hds (by omega) kk
                have hle2 := hM.le
                refine ⟨.agg ((List.range i.size).map fun j => c.getD (o.den ρ + j) undef).toArray, red (loadVar_many hga hi ho (by simp) (fun j v hv => ?_)), ?_⟩
                · simp only [List.getElem?_map, Option.map_eq_some_iff] at hv
                  obtain ⟨j', hj', rfl⟩ := hv
                  obtain ⟨hj, rfl⟩ := range_get hj'
                  have : o.den ρ + j < c.size := by omega
                  simp [Array.getD_eq_getD_getElem?, this]
                · simp only [DV.R]
                  refine ⟨_, rfl, DV.RL.of_get (by simp; omega) (fun j d' hd' => ?_)⟩
                  have hj : j < i.size := by have := (List.getElem?_eq_some_iff.1 hd').1; omega
                  obtain ⟨v, q1, q2, _⟩ := g2 j d' hd'
                  rw [show pre.length + (o.base - pre.length + sumT ρ o.terms) + j = o.den ρ + j by omega] at q1
                  exact ⟨v, by simp [hj, Array.getD_eq_getD_getElem?, q1], q2⟩
              · cases hd
        · cases hd
    · cases hd
  · cases hd
end
end Go.Eng

/-
  Such blocks written: stores, copies of strings; the string of bytes among them; great slices of numbers made.
-/
namespace Go.Eng

section
variable {P : Program} {F : Facts}

/-- A row of cells where others are laid over. -/
abbrev splice (c : Array Value) (p : Nat) (vs : List Value) : Array Value := (c.toList.take p ++ vs ++ c.toList.drop (p + vs.length)).toArray

theorem splice_size {c : Array Value} {p : Nat} {vs : List Value} (h : p + vs.length ≤ c.size) : (splice c p vs).size = c.size := by
  simp only [splice, List.size_toArray, List.length_append, List.length_take, List.length_drop, Array.length_toList]; omega

theorem setL_length {l cs : List DV} {b : Nat} (h : b + cs.length ≤ l.length) : (setL l b cs).length = l.length := by
  unfold setL
  simp only [List.length_append, List.length_take, List.length_drop]; omega

theorem MixR.set {m : Emb} {ρ : Env} {pre suf : List DV} {a a' n : E} {sh : List Kd} {c : Array Value} (h : MixR m ρ pre a n sh suf c) {q : Nat} {vs : List Value} (hq : q + vs.length ≤ (a.ev ρ).arr.length)
    (hk : ∀ (j : Nat) (v : Value), vs[j]? = some v → (sh.getD ((q + j) % sh.length) .any).ok v) (ha : (a'.ev ρ).arr = setRow (a.ev ρ).arr q vs) : MixR m ρ pre a' n sh suf (splice c (pre.length + q) vs) := by
  have hle := h.le
  have hfit : pre.length + q + vs.length ≤ c.size := by omega
  have hl : (a'.ev ρ).arr.length = (a.ev ρ).arr.length := by rw [ha, setRow_length]
  have hs := splice_size hfit
  have hg : ∀ (i : Nat), (splice c (pre.length + q) vs)[i]? = if i < pre.length + q then c[i]? else if i < pre.length + q + vs.length then vs[i - (pre.length + q)]? else c[i]? := fun i => splice_get hfit i
  refine ⟨by rw [hl]; exact h.len, by rw [hl, hs]; exact hle, fun i d hd => ?_, fun i v hv => ?_, fun i v hv => ?_, fun i d hd => ?_⟩
  · have hi := (List.getElem?_eq_some_iff.1 hd).1
    rw [hg, if_pos (by omega)]; exact h.fst i d hd
  · rw [ha, setRow_get hq] at hv
    rw [hg]
    split at hv
    · rename_i h1; rw [if_pos (by omega)]; exact h.row i v hv
    · rename_i h1
      rw [if_neg (by omega)]
      split at hv
      · rename_i h2
        rw [if_pos (by omega), show pre.length + i - (pre.length + q) = i - q by omega]
        exact .inr hv
      · rename_i h2; rw [if_neg (by omega)]; exact h.row i v hv
  · rw [ha, setRow_get hq] at hv
    split at hv
    · exact h.kd i v hv
    · rename_i h1
      split at hv
      · have := hk _ v hv
        rw [show q + (i - q) = i by omega] at this; exact this
      · exact h.kd i v hv
  · rw [hl, hg, if_neg (by omega), if_neg (by omega)]
    exact h.lst i d hd

theorem MixR.setPre {m : Emb} {ρ : Env} {pre suf cs : List DV} {a n : E} {sh : List Kd} {c : Array Value} (h : MixR m ρ pre a n sh suf c) {b : Nat} {vs : List Value} (hb : b + cs.length ≤ pre.length) (hv : DV.RL m ρ cs vs) : MixR m ρ (setL pre b cs) a n sh suf (splice c b vs) := by
  have hle := h.le
  have hvl := hv.length
  have hpl := setL_length hb
  have hfit : b + vs.length ≤ c.size := by omega
  have hs := splice_size hfit
  have hg : ∀ (i : Nat), (splice c b vs)[i]? = if i < b then c[i]? else if i < b + vs.length then vs[i - b]? else c[i]? := fun i => splice_get hfit i
  refine ⟨h.len, by rw [hpl, hs]; exact hle, fun i d hd => ?_, fun i v hv => ?_, h.kd, fun i d hd => ?_⟩
  · rw [setL_get hb] at hd
    rw [hg]
    split at hd
    · rename_i h1; rw [if_pos h1]; exact h.fst i d hd
    · rename_i h1
      rw [if_neg h1]
      split at hd
      · rename_i h2
        rw [if_pos (by omega)]
        exact hv.get hd
      · rename_i h2; rw [if_neg (by omega)]; exact h.fst i d hd
  · rw [hpl, hg, if_neg (by omega), if_neg (by omega)]; exact h.row i v hv
  · rw [hpl, hg, if_neg (by omega), if_neg (by omega)]; exact h.lst i d hd

theorem MixR.setSuf {m : Emb} {ρ : Env} {pre suf cs : List DV} {a n : E} {sh : List Kd} {c : Array Value} (h : MixR m ρ pre a n sh suf c) {b : Nat} {vs : List Value} (hb : b + cs.length ≤ suf.length) (hv : DV.RL m ρ cs vs) :
    MixR m ρ pre a n sh (setL suf b cs) (splice c (pre.length + (a.ev ρ).arr.length + b) vs) := by
  have hle := h.le
  have hvl := hv.length
  have hpl := setL_length hb
  have hfit : pre.length + (a.ev ρ).arr.length + b + vs.length ≤ c.size := by omega
  have hs := splice_size hfit
  have hg : ∀ (i : Nat), (splice c (pre.length + (a.ev ρ).arr.length + b) vs)[i]? = if i < pre.length + (a.ev ρ).arr.length + b then c[i]? else if i < pre.length + (a.ev ρ).arr.length + b + vs.length then vs[i - (pre.length + (a.ev ρ).arr.length + b)]? else c[i]? := fun i => splice_get hfit i
  refine ⟨h.len, by rw [hpl, hs]; exact hle, fun i d hd => ?_, fun i v hv => ?_, h.kd, fun i d hd => ?_⟩
  · have hi := (List.getElem?_eq_some_iff.1 hd).1
    rw [hg, if_pos (by omega)]; exact h.fst i d hd
  · have hi := (List.getElem?_eq_some_iff.1 hv).1
    rw [hg, if_pos (by omega)]; exact h.row i v hv
  · rw [setL_get hb] at hd
    rw [hg]
    split at hd
    · rename_i h1; rw [if_pos (by omega)]; exact h.lst i d hd
    · rename_i h1
      rw [if_neg (by omega)]
      split at hd
      · rename_i h2
        rw [if_pos (by omega), show pre.length + (a.ev ρ).arr.length + i - (pre.length + (a.ev ρ).arr.length + b) = i - b by omega]
        exact hv.get hd
      · rename_i h2; rw [if_neg (by omega)]; exact h.lst i d hd

theorem md_splice {m : Emb} {k : Nat} {md : Md} {c : Array Value} (h : md.ok m k c (0, 0)) (hro : md.rw' = true) {c' : Array Value} (hs : c'.size = c.size) : md.ok m k c' (0, 0) := by
  cases md with
  | ro => cases hro
  | gl g => cases hro
  | reg l => cases hro
  | rw => rfl
  | own s => exact ⟨rfl, by rw [hs]; exact h.2⟩

/-- Cells written in such a block. -/
theorem mix_write {m : Emb} {ρ : Env} {h : T Blk} {w : World} (hH : HeapR m ρ h w) {id b : Nat} {pre suf pre' suf' : List DV} {a n a' n' : E} {sh sh' : List Kd} {t0 t1 t' : TypeId} {md : Md} {fr : Nat × Nat} {c : Array Value} (hg : h.get id = some (.mix pre a n sh suf t0 md)) (hb : m.ι id = some b)
    (ho : w.heap[b]? = some (.cells c t' fr)) (hmd : md.ok m (m.κ id) c fr) (hro : md.rw' = true) {p : Nat} {vs : List Value} (hfit : p + vs.length ≤ c.size) (hM : MixR m ρ pre' a' n' sh' suf' (splice c p vs)) :
    HeapR m ρ (h.set id (.mix pre' a' n' sh' suf' t1 md)) (w.setRow b (splice c p vs)) ∧ Trans m h w m (h.set id (.mix pre' a' n' sh' suf' t1 md)) (w.setRow b (splice c p vs)) := by
  have hfr := Md.fr_of hmd hro
  subst hfr
  have hrw : (Blk.mix pre a n sh suf t0 md).rw = true := hro
  exact ⟨hH.write hg hrw hb (setRow_heap w b c _ t' (0, 0) ho) (hM.blk (md_splice hmd hro (splice_size hfit))) hro (fun k hk => setRow_other w b k _ hk), Trans.write hg hrw hb (fun k hk => setRow_other w b k _ hk) (by simp) rfl rfl rfl⟩

theorem cellK_fun {N : Nat} {a pos : E} {k : Kd} {d : DV} (h : cellK F N a pos k = some d) {m : Emb} {ρ : Env} {u v : Value} (hu : d.R m ρ u) (hv : d.R m ρ v) : u = v := by
  cases k <;> simp only [cellK, Option.some.injEq, reduceCtorEq] at h <;> subst h <;> simp only [DV.R] at hu hv <;> rw [hu, hv]

theorem setRow_same {l : List Value} {p : Nat} {v : Value} (h : l[p]? = some v) : setRow l p [v] = l := by
  refine List.ext_getElem? fun i => ?_
  rw [setRow_one]
  split
  · rename_i hc; rw [hc.2, h]
  · rfl

theorem setX_ok {m : Emb} {ρ : Env} (hF : F.ok ρ) {pre suf : List DV} {a n : E} {sh : List Kd} {c : Array Value} (hM : MixR m ρ pre a n sh suf c) {l : List (E × Nat)} (hnn : nnT F l = true) {b : Nat} {ks : List Kd} {cs : List DV} {vs : List Value} {row : E}
    (hfit : b + sumT ρ l + vs.length ≤ (a.ev ρ).arr.length) (hks : ∀ (j : Nat) (k : Kd), ks[j]? = some k → sh.getD ((b + j + sumT ρ l) % sh.length) .any = k) (hv : DV.RL m ρ cs vs) (hrow : (row.ev ρ).arr = vs) :
    ((setX F (litN n sh.length) a (posE b l) row ks cs).ev ρ).arr = setRow (a.ev ρ).arr (b + sumT ρ l) vs := by
  have hset : ((E.tr (.row .set) a (posE b l) row).ev ρ).arr = setRow (a.ev ρ).arr (b + sumT ρ l) vs := by
    simp only [E.ev, B3.ev, RT.ev, Sc.arr_A, posE_int hF hnn, Int.toNat_natCast, hrow]
  unfold setX
  split
  · rename_i k c0
    split
    · rename_i c' hc'
      split
      · rename_i he
        have e := DV.eqv_eq he
        subst e
        simp only [DV.RL] at hv
        obtain ⟨v, vr, rfl, h1, rfl⟩ := hv
        simp only [List.length_singleton] at hfit
        obtain ⟨u, _, q2, _, q4⟩ := hM.cell hF hnn (b := b) (by omega) (by simpa using hks 0 k rfl) hc'
        have := cellK_fun hc' q4 h1
        subst this
        exact (setRow_same q2).symm
      · exact hset
    · exact hset
  · exact hset

theorem storeMix_sound {ρ : Env} (hF : F.ok ρ) {m : Emb} {h h' : T Blk} {w : World} (hH : HeapR m ρ h w) {t : TypeId} {id : Nat} {o : Off} {x : DV} (hd : storeMix P F h t id o x = some h') {vp vx : Value} (hp : (DV.ptr id o).R m ρ vp) (hx : x.R m ρ vx) :
    ∃ w', (Instr.storeAt t vp vx).run P w = .ok () w' ∧ HeapR m ρ h' w' ∧ Trans m h w m h' w' := by
  simp only [DV.R] at hp
  obtain ⟨b, hb, rfl⟩ := hp
  unfold storeMix at hd
  split at hd
  · rename_i pre a n sh suf t0 md i hg hi
    obtain ⟨c, fr, t', ho, hM, hmd⟩ := mix_at hH hg hb
    have hle := hM.le
    have hlen := hM.len
    split at hd
    · rename_i hcond
      obtain ⟨hsz, hone, hro⟩ := hcond
      have hcs := hx.cells
      have hl := hcs.length
      have hvsz : vx.cells.size = i.size := by simpa [hsz] using hl
      have hfr := Md.fr_of hmd hro
      have fin : ∀ {pre' suf' : List DV} {a' : E}, o.den ρ + vx.cells.toList.length ≤ c.size → MixR m ρ pre' a' n sh suf' (splice c (o.den ρ) vx.cells.toList) →
          ∃ w', (Instr.storeAt t (.pointer (some ⟨b, o.den ρ, none⟩)) vx).run P w = .ok () w' ∧ HeapR m ρ (h.set id (.mix pre' a' n sh suf' t0 md)) w' ∧ Trans m h w m (h.set id (.mix pre' a' n sh suf' t0 md)) w' := by
        intro pre' suf' a' hfit hM'
        subst hfr
        have hrun := storeVar_row (P := P) (ty := t) ho hi hvsz (by simpa using hfit) (RL_one hcs hone)
        obtain ⟨g1, g2⟩ := mix_write (t1 := t0) hH hg hb ho hmd hro hfit hM'
        exact ⟨_, by simp only [Instr.storeAt, Instr.sureAddr, Sem.run_bind, Sem.run_pure, Result.andThen_ok]; exact hrun, g1, g2⟩
      split at hd
      · rename_i hc
        cases hd
        simp only [Bool.and_eq_true, List.isEmpty_iff, decide_eq_true_eq] at hc
        have hden : o.den ρ = o.base := by simp [Off.den, hc.1, sumT]
        refine fin (by rw [hden, hl]; omega) ?_
        rw [hden]
        exact hM.setPre hc.2 hcs
      · split at hd
        · rename_i hpl
          split at hd
          · rename_i k hk
            split at hd
            · rename_i hks
              cases hd
              have hden := sufAt_ok hF hk hpl
              rw [← hlen] at hden
              refine fin (by rw [hden, hl]; omega) ?_
              rw [hden]
              exact hM.setSuf hks hcs
            · cases hd
          · split at hd
            · rename_i hfit
              obtain ⟨hnn, hfit⟩ := fitsR_ok hF hfit
              simp only [E.ev, Sc.int_I] at hfit
              have hlt : o.base - pre.length + sumT ρ o.terms + x.cells.length ≤ (a.ev ρ).arr.length := by rw [hlen]; exact mul_toNat (by omega)
              split at hd
              · rename_i ks hks
                split at hd
                · rename_i row hrow
                  cases hd
                  obtain ⟨kl, kk⟩ := ksOf_ok (ρ := ρ) hF hks
                  obtain ⟨er, kr⟩ := rowE_ok hF hrow hcs
                  have hden : o.den ρ = pre.length + (o.base - pre.length + sumT ρ o.terms) := by simp only [Off.den]; omega
                  refine fin (by rw [hden, hl]; omega) ?_
                  rw [hden]
                  refine hM.set (by rw [hl]; omega) (fun j v hj => ?_) (setX_ok hF hM hnn (by rw [hl]; omega) kk hcs er)
                  obtain ⟨k, g1, g2⟩ := kr j v hj
                  have := kk j k g1
                  rw [show o.base - pre.length + sumT ρ o.terms + j = o.base - pre.length + j + sumT ρ o.terms by omega, this]
                  exact g2
                · cases hd
              · cases hd
            · cases hd
        · cases hd
    · cases hd
  · cases hd

theorem bytesK_ok {ρ : Env} (hF : F.ok ρ) {sh : List Kd} {l : List (E × Nat)} {b : Nat} {w : E} (h : bytesK F sh l b w = true) {j : Nat} (hj : (j : Int) < (w.ev ρ).int) : sh.getD ((b + j + sumT ρ l) % sh.length) .any = .int .u8 := by
  unfold bytesK at h
  split at h
  · rename_i hi hr
    have := (E.rng_has hF w).2 hi hr
    simp only [Bool.or_eq_true, decide_eq_true_eq, beq_iff_eq] at h
    rcases h with h | h
    · omega
    · exact kindsAt_ok hF h (by omega)
  · cases h

theorem ofS_arr (ρ : Env) (s : E) : ((E.un (.row .ofS) s).ev ρ).arr = byteCells (s.ev ρ).str := rfl

theorem byte_ok (s : ByteArray) : ∀ (j : Nat) (v : Value), (byteCells s)[j]? = some v → (Kd.int .u8).ok v := by
  intro j v hv
  simp only [byteCells, List.getElem?_map, Option.map_eq_some_iff] at hv
  obtain ⟨x, _, rfl⟩ := hv
  have := x.toNat_lt
  exact ⟨_, rfl, by simp [IntKind.min, IntKind.signed], by simp [IntKind.max, IntKind.signed, IntKind.bits]; omega⟩

theorem copyMix_sound {m : Emb} {ρ : Env} (hF : F.ok ρ) {h : T Blk} {n0 : Nat} {w : World} (hH : HeapR m ρ h w) (hf : ∀ id, n0 ≤ id → m.ι id = none) {t tx ty e : TypeId} {rest : List TypeId} {ie : TypeInfo} (ht : P.underlying t = some (.slice e)) (htx : P.underlying tx = some .string) (hie : P.info? e = some ie)
    {d : DV} {vd : Value} {s : E} (hvd : d.R m ρ vd) {r : Out} (hd : copyMix F h n0 s d = some r) {run : Result Next} (hrun : ∀ v w', (Builtin.copy_ (t :: tx :: rest).toArray ty #[vd, .string (s.ev ρ).str]).run P w = .ok v w' → run = .ok (.value v) w') : OpOk m ρ h w run r := by
  unfold copyMix at hd
  split at hd
  · rename_i id o len cap
    split at hd
    · rename_i pre a n sh suf t0 md hg
      split at hd
      · rename_i hcond
        obtain ⟨hpl, hro, hl0⟩ := hcond
        split at hd
        · rename_i k z hkz
          split at hd
          · rename_i hfb
            cases hd
            simp only [Bool.and_eq_true] at hfb
            obtain ⟨hnn, hfit⟩ := fitsR_ok hF hfb.1
            simp only [DV.R] at hvd
            obtain ⟨b, hb, rfl, hln, _⟩ := hvd
            obtain ⟨c, fr, t', ho, hM, hmd⟩ := mix_at hH hg hb
            have hfr := Md.fr_of hmd hro
            subst hfr
            -- how many, and which
            have hcnt : (k.ev ρ).int = ((min (s.ev ρ).str.size (len.ev ρ).int.toNat : Nat) : Int) ∧ byteCells (z.ev ρ).str = (byteCells (s.ev ρ).str).take (min (s.ev ρ).str.size (len.ev ρ).int.toNat) := by
              unfold copyS at hkz
              split at hkz
              · rename_i hlt
                cases hkz
                have := ltD_false hF hlt
                have hls := lenS_int ρ s
                refine ⟨by rw [hls]; omega, ?_⟩
                rw [List.take_of_length_le]
                rw [byteCells_length]; omega
              · rename_i hlt
                cases hkz
                have := ltD_true hF hlt
                have hls := lenS_int ρ s
                rw [hls] at this
                refine ⟨by omega, ?_⟩
                rw [subS_ev]
                simp only [byteCells, E.ev, Sc.int_I, Int.toNat_zero, ByteArray.data_extract, Array.toList_extract, List.extract_eq_take_drop, List.drop_zero, Nat.sub_zero, ← List.map_take]
                congr 2; omega
              · cases hkz
            obtain ⟨hk, hz⟩ := hcnt
            have hsrc := Src.ofString (P := P) (tx := tx) w htx (s.ev ρ).str
            have hvl : (byteCells (z.ev ρ).str).length = min (s.ev ρ).str.size (len.ev ρ).int.toNat := by
              rw [hz, List.length_take, byteCells_length]; omega
            have hden : o.den ρ = pre.length + (o.base - pre.length + sumT ρ o.terms) := by simp only [Off.den]; omega
            have hin : o.base - pre.length + sumT ρ o.terms + (byteCells (z.ev ρ).str).length ≤ (a.ev ρ).arr.length := by
              rw [hM.len, hvl]; exact mul_toNat (by rw [hk] at hfit; omega)
            have hle := hM.le
            have hfitc : o.den ρ + (byteCells (z.ev ρ).str).length ≤ c.size := by rw [hden]; omega
            have h1 : ∀ u ∈ byteCells (z.ev ρ).str, u.oneCell' = true := fun u hu => by
              rw [hz] at hu; exact hsrc.one u (List.mem_of_mem_take hu)
            have hst := run_storeCells_at (P := P) b (o.den ρ) t' _ 0 c w ho (by simpa using hfitc) h1
            simp only [Nat.add_zero] at hst
            have hf2 : (Builtin.firstCells ie.size (Nat.min (s.ev ρ).str.size (len.ev ρ).int.toNat) (.string (s.ev ρ).str)).run P w = .ok (byteCells (z.ev ρ).str).toArray w := by
              rw [hz]
              simp only [Builtin.firstCells, Sem.run_pure]
              congr 1
              apply Array.ext'
              simp [byteCells]
            have hr0 : (Builtin.copy_ (t :: tx :: rest).toArray ty #[.slice (some ⟨b, o.den ρ, none⟩) (len.ev ρ).int.toNat (cap.den m ρ id), .string (s.ev ρ).str]).run P w = .ok (.int .i64 ((min (s.ev ρ).str.size (len.ev ρ).int.toNat : Nat) : Int)) (w.setRow b (splice c (o.den ρ) (byteCells (z.ev ρ).str))) := by
              simp [Builtin.copy_, run_underlying ht, sizeOf, typeInfo, hie, hsrc.len, hf2, hst, goInt, splice]
            have hM' : MixR m ρ pre (.tr (.row .set) a (posE (o.base - pre.length) o.terms) (.un (.row .ofS) z)) n sh suf (splice c (o.den ρ) (byteCells (z.ev ρ).str)) := by
              rw [hden]
              refine hM.set hin (fun j v hj => ?_) ?_
              · have hj' := (List.getElem?_eq_some_iff.1 hj).1
                have := bytesK_ok hF hfb.2 (j := j) (by rw [hk]; omega)
                rw [show o.base - pre.length + sumT ρ o.terms + j = o.base - pre.length + j + sumT ρ o.terms by omega, this]
                exact byte_ok _ j v hj
              · simp only [E.ev, B3.ev, RT.ev, Sc.arr_A, posE_int hF hnn, Int.toNat_natCast]
                rfl
            obtain ⟨g1, g2⟩ := mix_write (t1 := t0) hH hg hb ho hmd hro hfitc hM'
            refine ⟨_, _, _, m, hrun _ _ hr0, .inl rfl, by simp only [DV.R]; rw [hk], g1, g2, hf⟩
          · cases hd
        · cases hd
      · cases hd
    · cases hd
  · cases hd

theorem subR_arr {ρ : Env} (hF : F.ok ρ) {lo hi : E} : ∀ {a : E}, ((subR F a lo hi).ev ρ).arr = ((a.ev ρ).arr.take (hi.ev ρ).int.toNat).drop (lo.ev ρ).int.toNat := by
  intro a
  induction a with
  | tr o a i r iha _ _ =>
    by_cases ho : o = .row .set
    · subst ho
      have hset : ((E.tr (.row .set) a i r).ev ρ).arr = setRow (a.ev ρ).arr (i.ev ρ).int.toNat (r.ev ρ).arr := rfl
      have hraw : ((E.tr (.row .sub) (.tr (.row .set) a i r) lo hi).ev ρ).arr = (((E.tr (.row .set) a i r).ev ρ).arr.take (hi.ev ρ).int.toNat).drop (lo.ev ρ).int.toNat := rfl
      have skip : ((hi.ev ρ).int.toNat ≤ (i.ev ρ).int.toNat ∨ (i.ev ρ).int.toNat + (r.ev ρ).arr.length ≤ (lo.ev ρ).int.toNat) → ((a.ev ρ).arr.take (hi.ev ρ).int.toNat).drop (lo.ev ρ).int.toNat = (((E.tr (.row .set) a i r).ev ρ).arr.take (hi.ev ρ).int.toNat).drop (lo.ev ρ).int.toNat := by
        intro hor
        rw [hset]
        by_cases hfit : (i.ev ρ).int.toNat + (r.ev ρ).arr.length ≤ (a.ev ρ).arr.length
        · refine List.ext_getElem? fun j => ?_
          rw [List.getElem?_drop, List.getElem?_drop, List.getElem?_take, List.getElem?_take]
          split
          · rename_i hj
            rw [setRow_get hfit]
            split
            · rfl
            · split
              · omega
              · rfl
          · rfl
        · unfold setRow; rw [if_neg hfit]
      simp only [subR]
      split
      · rename_i n hn
        have hl := lenR_ok (ρ := ρ) hn
        split
        · rename_i h1
          have := ltD_false hF h1
          rw [iha]; exact skip (.inl (by omega))
        · split
          · rename_i h1
            have g1 := ltD_false hF h1.1
            have g2 := ltD_false hF h1.2
            rw [addI_int, ← hl] at g2
            simp only [E.ev, Sc.int_I] at g1
            rw [iha]; exact skip (.inr (by omega))
          · exact hraw
      · exact hraw
    · have e : subR F (.tr o a i r) lo hi = .tr (.row .sub) (.tr o a i r) lo hi := by
        cases o with
        | row x => cases x <;> first | rfl | exact absurd rfl ho
        | _ => rfl
      rw [e]; rfl
  | _ => rfl

theorem bytesR_ok (ρ : Env) : ∀ {e : E} {ns : List Int}, bytesR e = some ns → (e.ev ρ).arr = ns.map (Value.int .u8) := by
  intro e
  induction e with
  | un o a ih =>
    intro ns h
    cases o with
    | row o =>
      cases o with
      | cI k =>
        cases k <;> cases a <;> simp only [bytesR, reduceCtorEq, Option.some.injEq] at h
        subst h; rfl
      | ofS =>
        cases a <;> simp only [bytesR, reduceCtorEq, Option.some.injEq] at h
        subst h
        simp only [E.ev, U.ev, RU.ev, Sc.arr_A, Sc.str_S, List.map_map]
        rfl
      | _ => simp [bytesR] at h
    | _ => simp [bytesR] at h
  | bi o a b iha ihb =>
    intro ns h
    cases o with
    | row o =>
      cases o with
      | cat =>
        simp only [bytesR] at h
        split at h
        · rename_i x y hx hy
          cases h
          simp only [E.ev, B2.ev, RB.ev, Sc.arr_A, iha hx, ihb hy, List.map_append]
        · cases h
      | rep =>
        cases b <;> simp only [bytesR, reduceCtorEq] at h
        rename_i n
        split at h
        · rename_i x hx
          cases h
          simp only [E.ev, B2.ev, RB.ev, Sc.arr_A, Sc.int_I, iha hx, List.map_cons, List.map_nil, List.map_replicate]
          exact List.flatten_replicate_singleton
        · cases h
    | _ => simp [bytesR] at h
  | tr o a b c iha ihb ihc =>
    intro ns h
    cases o with
    | row o =>
      cases o with
      | set =>
        cases b <;> simp only [bytesR, reduceCtorEq] at h
        rename_i i
        split at h
        · rename_i x y hx hy
          split at h
          · rename_i hc
            cases h
            simp only [E.ev, B3.ev, RT.ev, Sc.arr_A, Sc.int_I, iha hx, ihc hy, setRow, List.length_map]
            rw [if_pos hc]
            simp only [List.map_append, List.map_take, List.map_drop]
          · cases h
        · cases h
      | sub =>
        cases b <;> cases c <;> simp only [bytesR, reduceCtorEq, Option.map_eq_some_iff] at h
        rename_i lo hi
        obtain ⟨x, hx, rfl⟩ := h
        simp only [E.ev, B3.ev, RT.ev, Sc.arr_A, Sc.int_I, iha hx, List.map_drop, List.map_take]
    | _ => simp [bytesR] at h
  | vr n => intro ns h; simp [bytesR] at h
  | li n => intro ns h; simp [bytesR] at h
  | lb n => intro ns h; simp [bytesR] at h
  | ls n => intro ns h; simp [bytesR] at h

theorem bytesA_ok (ρ : Env) : ∀ {e : E} {acc ns : List Int}, bytesA e acc = some ns → (e.ev ρ).arr ++ acc.map (Value.int .u8) = ns.map (Value.int .u8) := by
  intro e
  have dflt : ∀ {e : E} {acc ns : List Int}, (bytesR e).map (· ++ acc) = some ns → (e.ev ρ).arr ++ acc.map (Value.int .u8) = ns.map (Value.int .u8) := by
    intro e acc ns h
    simp only [Option.map_eq_some_iff] at h
    obtain ⟨x, hx, rfl⟩ := h
    rw [bytesR_ok ρ hx, List.map_append]
  induction e with
  | bi o a b iha ihb =>
    intro acc ns h
    by_cases ho : o = .row .cat
    · subst ho
      simp only [bytesA, Option.bind_eq_some_iff] at h
      obtain ⟨x, hx, hy⟩ := h
      have h1 := ihb hx
      have h2 := iha hy
      rw [← h2, ← h1]
      simp only [E.ev, B2.ev, RB.ev, Sc.arr_A, List.append_assoc]
    · have e : bytesA (.bi o a b) acc = (bytesR (.bi o a b)).map (· ++ acc) := by
        cases o with
        | row x => cases x <;> first | exact absurd rfl ho | rfl
        | _ => rfl
      rw [e] at h; exact dflt h
  | _ => intro acc ns h; exact dflt h

theorem strR_str (ρ : Env) (e : E) : ((strR e).ev ρ).str = ((E.un (.row .toS) e).ev ρ).str := by
  unfold strR
  split
  · rename_i ns h
    have h1 := bytesA_ok ρ h
    simp only [List.map_nil, List.append_nil] at h1
    simp only [E.ev, U.ev, RU.ev, Sc.str_S, h1, List.map_map]
    rfl
  · rfl

theorem bytesMix_sound {m : Emb} {ρ : Env} (hF : F.ok ρ) {h : T Blk} {w : World} (hH : HeapR m ρ h w) {d : DV} {e : E} (hd : bytesMix F h d = some e) {v : Value} (hv : d.R m ρ v) {src el dst : TypeId} (hs : P.underlying src = some (.slice el))
    (he : P.underlying el = some (.int .u8)) (hdst : P.underlying dst = some .string) : (convert src dst v).run P w = .ok (.string (e.ev ρ).str) w := by
  unfold bytesMix at hd
  split at hd
  · rename_i id o len cap
    split at hd
    · rename_i pre a n sh suf t0 md hg
      split at hd
      · rename_i hcond
        obtain ⟨hpl, hl0, hfit, hby⟩ := hcond
        obtain ⟨hnn, hfit⟩ := fitsR_ok hF hfit
        simp only [DV.R] at hv
        obtain ⟨b, hb, rfl, h0, _⟩ := hv
        obtain ⟨c, fr, t', ho, hM, hmd⟩ := mix_at hH hg hb
        have hden : o.den ρ = pre.length + (o.base - pre.length + sumT ρ o.terms) := by simp only [Off.den]; omega
        have hin : o.base - pre.length + sumT ρ o.terms + (len.ev ρ).int.toNat ≤ (a.ev ρ).arr.length := by
          rw [hM.len]; exact mul_toNat (by omega)
        have hle := hM.le
        -- the bytes
        have fin : ∀ ns : List Int, ns.length = (len.ev ρ).int.toNat → (∀ (j : Nat) (v : Value), (ns.map (Value.int .u8))[j]? = some v → c[o.den ρ + j]? = some v) → (e.ev ρ).str = strOfNums ns →
            (convert src dst (.slice (some ⟨b, o.den ρ, none⟩) (len.ev ρ).int.toNat (cap.den m ρ id))).run P w = .ok (.string (e.ev ρ).str) w := by
          intro ns hlen hc hstr
          have hl : (loadCells ⟨b, o.den ρ, none⟩ (len.ev ρ).int.toNat).run P w = .ok (ns.map (Value.int .u8)).toArray w := by
            have := run_loadCells_list (P := P) w ⟨b, o.den ρ, none⟩ (ns.map (Value.int .u8)) (fun j v hj => by rw [add_none, cell_at ho]; exact hc j v hj)
            simpa [hlen] using this
          rw [run_convert_bytes_string w src dst el _ _ _ hs he hdst, run_bytesToString w _ _ _ ns hl, foldl_push_bytes, hstr]
          simp [strOfNums, ByteArray.empty, ByteArray.emptyWithCapacity]
          rfl
        have kdv : ∀ j, j < (len.ev ρ).int.toNat → sh.getD ((o.base - pre.length + sumT ρ o.terms + j) % sh.length) .any = .int .u8 := fun j hj => by
          have := bytesK_ok hF hby (j := j) (by omega)
          rw [show o.base - pre.length + sumT ρ o.terms + j = o.base - pre.length + j + sumT ρ o.terms by omega]; exact this
        have whole : e = strR (subR F a (posE (o.base - pre.length) o.terms) (addI (posE (o.base - pre.length) o.terms) len)) →
            (convert src dst (.slice (some ⟨b, o.den ρ, none⟩) (len.ev ρ).int.toNat (cap.den m ρ id))).run P w = .ok (.string (e.ev ρ).str) w := by
          intro e1
          subst e1
          have harr : ((subR F a (posE (o.base - pre.length) o.terms) (addI (posE (o.base - pre.length) o.terms) len)).ev ρ).arr = ((a.ev ρ).arr.take (o.base - pre.length + sumT ρ o.terms + (len.ev ρ).int.toNat)).drop (o.base - pre.length + sumT ρ o.terms) := by
            rw [subR_arr hF, addI_int, posE_int hF hnn]
            congr 2
            omega
          generalize hA : ((a.ev ρ).arr.take (o.base - pre.length + sumT ρ o.terms + (len.ev ρ).int.toNat)).drop (o.base - pre.length + sumT ρ o.terms) = A at harr
          have hAl : A.length = (len.ev ρ).int.toNat := by rw [← hA]; simp; omega
          have hAg : ∀ (j : Nat) (v : Value), A[j]? = some v → (a.ev ρ).arr[o.base - pre.length + sumT ρ o.terms + j]? = some v := fun j v hj => by
            rw [← hA, List.getElem?_drop, List.getElem?_take] at hj
            split at hj
            · exact hj
            · cases hj
          have hAk : ∀ v ∈ A, ∃ x : Int, v = .int .u8 x ∧ 0 ≤ x ∧ x ≤ 255 := fun v hv => by
            obtain ⟨j, hj⟩ := List.mem_iff_getElem?.1 hv
            have hjl := (List.getElem?_eq_some_iff.1 hj).1
            have hk := hM.kd _ _ (hAg j v hj)
            rw [kdv j (by omega)] at hk
            obtain ⟨x, hx, h1, h2⟩ := hk
            exact ⟨x, hx, by simpa [IntKind.min, IntKind.signed] using h1, by simpa [IntKind.max, IntKind.signed, IntKind.bits] using h2⟩
          have hns : ∃ ns : List Int, A = ns.map (Value.int .u8) := by
            refine ⟨A.map fun v => (match v with | .int _ x => x | _ => 0), ?_⟩
            rw [List.map_map]
            conv => lhs; rw [← List.map_id A]
            refine List.map_congr_left fun v hv => ?_
            obtain ⟨x, rfl, _⟩ := hAk v hv
            rfl
          obtain ⟨ns, hns⟩ := hns
          refine fin ns (by rw [← hAl, hns]; simp) (fun j v hj => ?_) ?_
          · rw [← hns] at hj
            have hjl := (List.getElem?_eq_some_iff.1 hj).1
            rcases hM.row _ _ (hAg j v hj) with h1 | h1
            · rw [kdv j (by omega)] at h1; cases h1
            · rw [hden, Nat.add_assoc]; exact h1
          · rw [strR_str]
            simp only [E.ev, U.ev, RU.ev, Sc.str_S, harr, hns, List.map_map]
            rfl
        split at hd
        · rename_i k hk
          split at hd
          · rename_i hk16
            simp only [Option.bind_eq_some_iff] at hd
            obtain ⟨ds, hds, hstr⟩ := hd
            have e1 := litI?_eq hk
            have hkl : (len.ev ρ).int.toNat = k.toNat := by rw [e1]; rfl
            obtain ⟨g1, g2⟩ := cellsK_ok hF hM hnn hds (by simp; omega) (fun j k' hj => by
              rw [List.getElem?_replicate] at hj
              split at hj
              · cases hj
                rw [show o.base - pre.length + j + sumT ρ o.terms = o.base - pre.length + sumT ρ o.terms + j by omega]
                exact kdv j (by omega)
              · cases hj)
            simp only [List.length_replicate] at g1
            have hseg : DV.RL m ρ ds ((c.toList.drop (o.den ρ)).take k.toNat) := by
              refine DV.RL.of_get (by simp; omega) fun j d hj => ?_
              obtain ⟨v, q1, q2, _⟩ := g2 j d hj
              have hjl := (List.getElem?_eq_some_iff.1 hj).1
              refine ⟨v, ?_, q2⟩
              rw [List.getElem?_take, if_pos (by omega), List.getElem?_drop, hden]
              simpa using q1
            obtain ⟨ns, hns, hse⟩ := strE_R hstr hseg
            have hlen : ns.length = k.toNat := by
              have := congrArg List.length hns
              simp only [List.length_take, List.length_drop, Array.length_toList, List.length_map] at this
              omega
            refine fin ns (by rw [hlen, hkl]) (fun j v hj => ?_) hse
            rw [← hns, List.getElem?_take] at hj
            split at hj
            · rw [List.getElem?_drop] at hj; simpa using hj
            · cases hj
          · exact whole (by cases hd; rfl)
        · exact whole (by cases hd; rfl)
      · cases hd
    · cases hd
  · cases hd
end

section
variable (P : Program) (F : Facts)

/-- What is appended behind such a block: its last cells become part of the row, the new ones are the last. -/
def appMix (h : T Blk) (n0 : Nat) (e : TypeId) (size : Nat) (k : Nat) (news : List DV) : DV → Option Out
  | .slc id o len (.own (.li 0)) => match o.terms, h.get id with
    | [], some (.mix [] a n sh suf _ md) =>
      if o.base = 0 ∧ md = .own size ∧ sh.length = size ∧ 0 < k ∧ suf.length / size * size = suf.length ∧ len.same (addI n (.li (suf.length / size : Nat))) = true ∧ (E.bi .lt n (.li 0)).dec F = some false then
        (match len.rng F, (if suf.isEmpty then some a else (rowM F (cyc sh (suf.length / size)) suf).map (.bi (.row .cat) a)) with
        | (_, some hi), some a' => if hi + k ≤ 1000000 then
            some ⟨.slc n0 ⟨0, []⟩ (addI len (.li k)) (.own (.li 0)), (h.set id .dead).set n0 (.mix [] a' len sh news e (.own size)), n0 + 1⟩ else none
        | _, _ => none)
      else none
    | _, _ => none
  | _ => none

variable {P} {F}

theorem MixR.app {m : Emb} {ρ : Env} (hF : F.ok ρ) {a a' n len : E} {sh : List Kd} {suf news : List DV} {c c' : Array Value} {size q : Nat} (h : MixR m ρ [] a n sh suf c) (hsh : sh.length = size) (hq : q * size = suf.length) (hn : 0 ≤ (n.ev ρ).int)
    (hl : (len.ev ρ).int = (n.ev ρ).int + q) (ha : (if suf.isEmpty then some a else (rowM F (cyc sh q) suf).map (.bi (.row .cat) a)) = some a') {vn : List Value} (hvn : DV.RL m ρ news vn)
    (h1 : ∀ j, j < (len.ev ρ).int.toNat * size → c'[j]? = c[j]?) (h2 : ∀ (j : Nat) (v : Value), vn[j]? = some v → c'[(len.ev ρ).int.toNat * size + j]? = some v) (h3 : (len.ev ρ).int.toNat * size + vn.length ≤ c'.size) : MixR m ρ [] a' len sh news c' := by
  have hL : (len.ev ρ).int.toNat = (n.ev ρ).int.toNat + q := by omega
  have hal := h.len
  have hle := h.le
  have hmul : (len.ev ρ).int.toNat * size = (a.ev ρ).arr.length + suf.length := by rw [hal, ← hq, hL, hsh, Nat.add_mul]
  simp only [List.length_nil, Nat.zero_add] at hle
  -- the longer row
  have key : (a'.ev ρ).arr.length = (a.ev ρ).arr.length + suf.length ∧ ∀ (i : Nat) (v : Value), (a'.ev ρ).arr[i]? = some v → (sh.getD (i % sh.length) .any = .any ∨ c[i]? = some v) ∧ (sh.getD (i % sh.length) .any).ok v := by
    split at ha
    · rename_i he
      cases ha
      have : suf.length = 0 := by rw [List.isEmpty_iff.1 he]; rfl
      refine ⟨by omega, fun i v hv => ⟨by simpa using h.row i v hv, h.kd i v hv⟩⟩
    · simp only [Option.map_eq_some_iff] at ha
      obtain ⟨row, hrow, rfl⟩ := ha
      have hseg : DV.RL m ρ suf ((c.toList.drop (a.ev ρ).arr.length).take suf.length) := by
        refine DV.RL.of_get (by simp; omega) fun i d hd => ?_
        obtain ⟨v, hv, hr⟩ := h.lst i d hd
        refine ⟨v, ?_, hr⟩
        rw [List.getElem?_take, if_pos (List.getElem?_eq_some_iff.1 hd).1, List.getElem?_drop]
        simpa using hv
      obtain ⟨er, kr⟩ := rowM_ok hF hrow hseg
      have hcl : ((c.toList.drop (a.ev ρ).arr.length).take suf.length).length = suf.length := by simp; omega
      rw [hcl] at er
      have hcat : ((E.bi (.row .cat) a row).ev ρ).arr = (a.ev ρ).arr ++ (row.ev ρ).arr := rfl
      rw [hcat]
      refine ⟨by rw [List.length_append, er], fun i v hv => ?_⟩
      rw [List.getElem?_append] at hv
      split at hv
      · exact ⟨by simpa using h.row i v hv, h.kd i v hv⟩
      · rename_i hlt
        obtain ⟨kk, g1, g2, g3⟩ := kr _ v hv
        have hm : (i - (a.ev ρ).arr.length) % sh.length = i % sh.length := by
          have hj2 : i = (i - (a.ev ρ).arr.length) + (n.ev ρ).int.toNat * sh.length := by omega
          conv => rhs; rw [hj2]
          rw [Nat.add_mul_mod_self_right]
        have hk := cyc_get g1
        rw [hm] at hk
        rw [← hk]
        refine ⟨g2.imp id fun g => ?_, g3⟩
        rw [List.getElem?_take] at g
        split at g
        · rw [List.getElem?_drop, show (a.ev ρ).arr.length + (i - (a.ev ρ).arr.length) = i by omega] at g
          simpa using g
        · cases g
  obtain ⟨k1, k2⟩ := key
  have hnl := hvn.length
  refine ⟨by rw [k1, ← hmul, hsh], by rw [k1]; simp only [List.length_nil, Nat.zero_add]; omega, fun i d hd => by simp at hd, fun i v hv => ?_, fun i v hv => (k2 i v hv).2, fun i d hd => ?_⟩
  · have hi := (List.getElem?_eq_some_iff.1 hv).1
    rw [k1] at hi
    refine (k2 i v hv).1.imp id fun g => ?_
    rw [List.length_nil, Nat.zero_add, h1 i (by omega)]; exact g
  · obtain ⟨v, hv, hr⟩ := hvn.get hd
    refine ⟨v, ?_, hr⟩
    rw [k1, ← hmul, List.length_nil, Nat.zero_add]
    exact h2 i v hv

theorem appMix_sound {m : Emb} {ρ : Env} (hF : F.ok ρ) {h : T Blk} {n0 : Nat} {w : World} (hH : HeapR m ρ h w) (hf : ∀ id, n0 ≤ id → m.ι id = none) {t tx ty e : TypeId} {ie : TypeInfo} {z : DV} (ht : P.underlying t = some (.slice e)) (hie : P.info? e = some ie) (hz : zeroD P e = some z)
    (hzl : z.cells.length = ie.size) (hby : ie.bytes ≤ 1000000) {s : DV} {vs x : Value} {k : Nat} {news : List DV} {vn : List Value} (hvs : s.R m ρ vs) (hvn : DV.RL m ρ news vn) (hs : Src P ie.size tx x k vn w) {r : Out} (hd : appMix F h n0 e ie.size k news s = some r)
    {run : Result Next} (hrun : ∀ v w', (Builtin.append_ #[t, tx] ty #[vs, x]).run P w = .ok v w' → run = .ok (.value v) w') : OpOk m ρ h w run r := by
  have hnl := hs.newsLen
  unfold appMix at hd
  split at hd
  · rename_i id o len
    split at hd
    · rename_i a n sh suf t0 md hterms hg
      split at hd
      · rename_i hcond
        obtain ⟨hbase, rfl, hshl, hk0, hq, hsame, hn0⟩ := hcond
        split at hd
        · rename_i lo hi a' hrng ha'
          split at hd
          · rename_i hsmall
            cases hd
            have hln := E.same_eq hsame
            have hnn := nonneg_of hF hn0
            have hl : (len.ev ρ).int = (n.ev ρ).int + (suf.length / ie.size : Nat) := by rw [hln, addI_int]; rfl
            simp only [DV.R, Cap.den, E.ev, Sc.int_I, Int.toNat_zero, Nat.sub_zero] at hvs
            obtain ⟨b, hb, rfl, h0, hcap⟩ := hvs
            obtain ⟨c, fr, t', ho, hM, hmd⟩ := mix_at hH hg hb
            obtain ⟨rfl, hκ⟩ := hmd
            have hr := E.rng_has hF len
            rw [hrng] at hr
            have hhi := hr.2 hi rfl
            have hden : o.den ρ = 0 := by simp [Off.den, hterms, sumT, hbase]
            rw [hden] at hrun
            have hL : ((addI len (.li k)).ev ρ).int = (len.ev ρ).int + k := by rw [addI_int]; rfl
            have hmul : (len.ev ρ).int.toNat * ie.size = (a.ev ρ).arr.length + suf.length := by
              have : (len.ev ρ).int.toNat = (n.ev ρ).int.toNat + suf.length / ie.size := by omega
              rw [hM.len, this, hshl, Nat.add_mul, hq]
            have hle := hM.le
            simp only [List.length_nil, Nat.zero_add] at hle
            by_cases hroom : (len.ev ρ).int.toNat + k ≤ m.κ id
            · have hfit2 : 0 + (len.ev ρ).int.toNat * ie.size + vn.length ≤ c.size := by
                rw [hnl]
                have : ((len.ev ρ).int.toNat + k) * ie.size ≤ m.κ id * ie.size := Nat.mul_le_mul_right _ hroom
                rw [Nat.add_mul] at this
                omega
              have hrw : (Blk.mix [] a n sh suf t0 (.own ie.size)).rw = true := rfl
              have hr0 := hrun _ _ (run_append_row w ht hie hs ho hroom hfit2)
              have hn := hf n0 (Nat.le_refl _)
              refine ⟨_, _, _, m.put n0 b (m.κ id), hr0, .inl rfl, ?_, ?_, Trans.move hg hrw hb hn (fun k hk => setRow_other w b k _ hk) (by simp) rfl rfl rfl, put_fresh hf⟩
              · simp only [DV.R, E.ev, Sc.int_I, Cap.den]
                refine ⟨b, by simp [Emb.put], ?_, by omega, by simp [Emb.put]; omega⟩
                have : ((addI len (.li k)).ev ρ).int.toNat = (len.ev ρ).int.toNat + k := by omega
                simp [Off.den, sumT, Emb.put, this]
              · have hsz := splice_size hfit2
                have hM' : MixR m ρ [] a' len sh news (splice c (0 + (len.ev ρ).int.toNat * ie.size) vn) := by
                  refine hM.app hF hshl hq hnn hl ha' hvn (fun j hj => ?_) (fun j v hj => ?_) (by rw [hsz]; omega)
                  · rw [splice_get hfit2, if_pos (by omega)]
                  · have := (List.getElem?_eq_some_iff.1 hj).1
                    rw [splice_get hfit2, if_neg (by omega), if_pos (by omega)]
                    rw [show (len.ev ρ).int.toNat * ie.size + j - (0 + (len.ev ρ).int.toNat * ie.size) = j by omega]
                    exact hj
                have hmd' : (Md.own ie.size).ok m (m.κ id) (splice c (0 + (len.ev ρ).int.toNat * ie.size) vn) (0, 0) := ⟨rfl, by rw [hsz]; exact hκ⟩
                exact hH.move hg hrw hb hn (setRow_heap w b c _ t' (0, 0) ho) ((hM'.blk hmd').mono (Emb.le_put hn)) (fun k hk => setRow_other w b k _ hk)
            · have hold : (Builtin.firstCells ie.size (len.ev ρ).int.toNat (.slice (some ⟨b, 0, none⟩) (len.ev ρ).int.toNat (m.κ id))).run P w.drew = .ok (c.toList.take ((len.ev ρ).int.toNat * ie.size)).toArray w.drew := by
                refine run_firstCells_some w.drew ie.size _ _ _ _ _ (by rw [List.length_take, Array.length_toList]; omega) fun j u hj => ?_
                rw [add_none, Nat.zero_add]
                have : w.drew.cell? ⟨b, j, none⟩ = w.cell? ⟨b, j, none⟩ := rfl
                rw [this, cell_at ho]
                rw [List.getElem?_take] at hj
                split at hj
                · simpa using hj
                · cases hj
              have hvo : (c.toList.take ((len.ev ρ).int.toNat * ie.size)).length = (len.ev ρ).int.toNat * ie.size := by rw [List.length_take, Array.length_toList]; omega
              have hL2 : ((addI len (.li k)).ev ρ).int = (((len.ev ρ).int.toNat : Nat) : Int) + k := by rw [hL, Int.toNat_of_nonneg h0]
              have := app_growB (h := h.set id .dead) (sLen := (len.ev ρ).int.toNat) (sCap := m.κ id) (L := addI len (.li k)) (B := .mix [] a' len sh news e (.own ie.size)) (hH.kill id) hf ht hie hz hzl hby hold hvo hs (by omega) (by omega)
                (fun c' hc g hg hsz => ?_) hL2 hrun
              · obtain ⟨nx, v, w', m', h1, h2, h3, h4, h5, h6⟩ := this
                exact ⟨nx, v, w', m', h1, h2, h3, h4, h5.kill, h6⟩
              · rw [List.length_append, hvo] at hsz
                refine (hM.app hF hshl hq hnn hl ha' hvn (fun j hj => ?_) (fun j v hj => ?_) (by omega)).blk ⟨rfl, hg⟩
                · have hjc : j < c.size := by omega
                  have : (c.toList.take ((len.ev ρ).int.toNat * ie.size) ++ vn)[j]? = some c[j] := by
                    rw [List.getElem?_append_left (by omega), List.getElem?_take, if_pos hj]; simp
                  rw [hc j _ this]; simp
                · have := (List.getElem?_eq_some_iff.1 hj).1
                  refine hc _ v ?_
                  rw [List.getElem?_append_right (by omega), hvo, show (len.ev ρ).int.toNat * ie.size + j - (len.ev ρ).int.toNat * ie.size = j by omega]
                  exact hj
          · cases hd
        · cases hd
      · cases hd
    · cases hd
  · cases hd
end

section
variable {P : Program}

theorem bytesEnd_sound {m : Emb} {ρ : Env} {h : T Blk} {w : World} (hH : HeapR m ρ h w) {d : DV} {e : E} (hd : bytesEnd h d = some e) {v : Value} (hv : d.R m ρ v) {src el dst : TypeId} (hs : P.underlying src = some (.slice el))
    (he : P.underlying el = some (.int .u8)) (hdst : P.underlying dst = some .string) : (convert src dst v).run P w = .ok (.string (e.ev ρ).str) w := by
  unfold bytesEnd at hd
  split at hd
  · rename_i id o x cap
    split at hd
    · rename_i a y suf t0 md hterms hg
      split at hd
      · rename_i hcond
        obtain ⟨hbase, hy, hx⟩ := hcond
        simp only [Option.map_eq_some_iff] at hd
        obtain ⟨q, hq, rfl⟩ := hd
        simp only [DV.R, E.ev, Sc.int_I] at hv
        obtain ⟨b, hb, rfl, h0, _⟩ := hv
        obtain ⟨c, fr, t', ho, hM, hmd⟩ := mix_at hH hg hb
        have hden : o.den ρ = 0 := by simp [Off.den, hterms, sumT, hbase]
        have hlen := hM.len
        have hle := hM.le
        simp only [E.ev, Sc.int_I, List.length_singleton, Nat.mul_one, List.length_nil, Nat.zero_add] at hlen hle
        have hAk : ∀ (j : Nat) (v : Value), (a.ev ρ).arr[j]? = some v → ∃ z : Int, v = .int .u8 z ∧ c[j]? = some v := fun j v hj => by
          have hk := hM.kd j v hj
          have hr := hM.row j v hj
          simp only [List.length_singleton, Nat.mod_one, List.getD_cons_zero] at hk hr
          obtain ⟨z, hz, _, _⟩ := hk
          rcases hr with hr | hr
          · cases hr
          · exact ⟨z, hz, by simpa using hr⟩
        have hns : ∃ ns : List Int, (a.ev ρ).arr = ns.map (Value.int .u8) := by
          refine ⟨(a.ev ρ).arr.map fun v => (match v with | .int _ x => x | _ => 0), ?_⟩
          rw [List.map_map]
          conv => lhs; rw [← List.map_id (a.ev ρ).arr]
          refine List.map_congr_left fun v hv => ?_
          obtain ⟨j, hj⟩ := List.mem_iff_getElem?.1 hv
          obtain ⟨z, rfl, _⟩ := hAk j v hj
          rfl
        obtain ⟨ns, hns⟩ := hns
        have hnl : ns.length = y.toNat := by rw [← hlen, hns, List.length_map]
        have hseg : DV.RL m ρ suf ((c.toList.drop y.toNat).take suf.length) := by
          refine DV.RL.of_get (by simp; omega) fun i d hd => ?_
          obtain ⟨v, hv, hr⟩ := hM.lst i d hd
          refine ⟨v, ?_, hr⟩
          rw [List.getElem?_take, if_pos (List.getElem?_eq_some_iff.1 hd).1, List.getElem?_drop]
          simpa [hlen] using hv
        obtain ⟨ms, hms, hstr⟩ := strE_R hq hseg
        have hml : ms.length = suf.length := by
          have := congrArg List.length hms
          simp only [List.length_take, List.length_drop, Array.length_toList, List.length_map] at this
          omega
        have hl : (loadCells ⟨b, o.den ρ, none⟩ x.toNat).run P w = .ok ((ns ++ ms).map (Value.int .u8)).toArray w := by
          have := run_loadCells_list (P := P) w ⟨b, o.den ρ, none⟩ ((ns ++ ms).map (Value.int .u8)) (fun j v hj => by
            rw [add_none, cell_at ho, hden, Nat.zero_add]
            rw [List.map_append, List.getElem?_append] at hj
            split at hj
            · rw [← hns] at hj
              exact (hAk j v hj).choose_spec.2
            · rename_i hlt
              rw [List.length_map, hnl] at hj
              rw [List.length_map, hnl] at hlt
              rw [← hms, List.getElem?_take] at hj
              split at hj
              · rw [List.getElem?_drop, show y.toNat + (j - y.toNat) = j by omega] at hj
                simpa using hj
              · cases hj)
          have hxl : ((ns ++ ms).map (Value.int .u8)).length = x.toNat := by simp; omega
          rw [hxl] at this
          exact this
        rw [run_convert_bytes_string w src dst el _ _ _ hs he hdst, run_bytesToString w _ _ _ (ns ++ ms) hl, foldl_push_bytes, catS_str, strR_str, hstr]
        have e1 : ((E.un (.row .toS) a).ev ρ).str = strOfNums ns := by
          simp only [E.ev, U.ev, RU.ev, Sc.str_S, hns, List.map_map]
          rfl
        rw [e1]
        congr 2
        apply ByteArray.ext
        simp [strOfNums, ByteArray.empty, ByteArray.emptyWithCapacity, ByteArray.data_append]
        rfl
      · cases hd
    · cases hd
  · cases hd
end

section
variable (F : Facts)

/-- A long row of numbers known one by one, made a row. -/
def convA (h : T Blk) : DV → Option (T Blk)
  | .slc id _ _ _ => match h.get id with
    | some (.cells (.int k e :: l) t md) => some (h.set id (asRow F (.mix [] (.li 0) (.li 0) [.int k] [] t md) (.cells (.int k e :: l) t md)))
    | _ => none
  | _ => none

variable {F} {P : Program}

theorem convA_ok {m : Emb} {ρ : Env} (hF : F.ok ρ) {h h' : T Blk} {w : World} (hH : HeapR m ρ h w) {s : DV} (hc : convA F h s = some h') : HeapR m ρ h' w ∧ ∀ b, Fp m h' b → Fp m h b := by
  unfold convA at hc
  split at hc
  · rename_i id o len cap
    split at hc
    · rename_i k e l t md hg
      cases hc
      have back : ∀ i B, (h.set id (asRow F (.mix [] (.li 0) (.li 0) [.int k] [] t md) (.cells (.int k e :: l) t md))).get i = some B → ∃ B', h.get i = some B' ∧ B.rw = B'.rw ∧ B.live = B'.live ∧ ∀ k o, B'.R m ρ k o → B.R m ρ k o := by
        intro i B hB
        rw [T.get_set] at hB
        split at hB
        · rename_i e'
          cases hB; subst e'
          exact ⟨_, hg, (asRow_rw _ _).1, (asRow_rw _ _).2, fun k o h => (asRow_ok hF h).1⟩
        · exact ⟨B, hB, rfl, rfl, fun k o h => h⟩
      refine ⟨⟨fun i B hB hl => ?_, fun i j B C b hB hC h1 h2 hi hj => ?_⟩, fun b ⟨i, B, hB, h1, hi⟩ => ?_⟩
      · obtain ⟨B', g1, g2, g3, g4⟩ := back i B hB
        obtain ⟨b, o, q1, q2, q3⟩ := hH.blk i B' g1 (g3 ▸ hl)
        exact ⟨b, o, q1, q2, g4 _ _ q3⟩
      · obtain ⟨B', g1, g2, g3, g4⟩ := back i B hB
        obtain ⟨C', q1, q2, q3, q4⟩ := back j C hC
        exact hH.inj i j B' C' b g1 q1 (g2 ▸ h1) (q3 ▸ h2) hi hj
      · obtain ⟨B', g1, g2, g3, g4⟩ := back i B hB
        exact ⟨i, B', g1, g2 ▸ h1, hi⟩
    · cases hc
  · cases hc

theorem OpOk.of_le {m : Emb} {ρ : Env} {h h' : T Blk} {w : World} {run : Result Next} {r : Out} (hfp : ∀ b, Fp m h' b → Fp m h b) (ho : OpOk m ρ h' w run r) : OpOk m ρ h w run r := by
  obtain ⟨nx, v, w', m', h1, h2, h3, h4, t, h6⟩ := ho
  exact ⟨nx, v, w', m', h1, h2, h3, h4, ⟨t.ext, t.size, fun b hb hn => t.frame b hb fun hf => hn (hfp b hf), fun b hb => (t.fp b hb).imp (hfp b) id, t.tape, t.os, t.output⟩, h6⟩
end

section
variable (P : Program)

/-- A whole row of numbers is cleared. -/
def clearMix (h : T Blk) (n0 : Nat) (size : Nat) (z : List DV) : DV → Option Out
  | .slc id o (.li x) _ => match o.terms, h.get id, z with
    | [], some (.mix [] _ (.li y) [.int k] [] t md), [.int k' (.li 0)] => if o.base = 0 ∧ x = y ∧ 0 < x ∧ md.rw' = true ∧ size = 1 ∧ k = k' then
        some ⟨.tup [], h.set id (.mix [] (.bi (.row .rep) (.un (.row (.cI k)) (.li 0)) (.li y)) (.li y) [.int k] [] t md), n0⟩ else none
    | _, _, _ => none
  | _ => none

variable {P}

theorem kind_zero (k : IntKind) : k.min ≤ 0 ∧ 0 ≤ k.max := by cases k <;> decide

theorem rep_arr (ρ : Env) (k : IntKind) (y : Int) : ((E.bi (.row .rep) (.un (.row (.cI k)) (.li 0)) (.li y)).ev ρ).arr = List.replicate y.toNat (.int k 0) := by
  simp only [E.ev, B2.ev, U.ev, RB.ev, RU.ev, Sc.arr_A, Sc.int_I]
  exact List.flatten_replicate_singleton

/-- Cells that are all nought. -/
theorem rep_mix {m : Emb} {ρ : Env} {k : IntKind} {y : Int} {c : Array Value} (hc : ∀ j, j < y.toNat → c[j]? = some (.int k 0)) (hs : y.toNat ≤ c.size) : MixR m ρ [] (.bi (.row .rep) (.un (.row (.cI k)) (.li 0)) (.li y)) (.li y) [.int k] [] c := by
  refine ⟨by rw [rep_arr]; simp [E.ev], by rw [rep_arr]; simp; omega, fun i d hd => by simp at hd, fun i v hv => .inr ?_, fun i v hv => ?_, fun i d hd => by simp at hd⟩
  · rw [rep_arr, List.getElem?_replicate] at hv
    split at hv
    · rename_i hi
      cases hv
      simpa using hc i hi
    · cases hv
  · rw [rep_arr, List.getElem?_replicate] at hv
    split at hv
    · cases hv
      simp only [List.length_singleton, Nat.mod_one, List.getD_cons_zero]
      exact ⟨0, rfl, (kind_zero k).1, (kind_zero k).2⟩
    · cases hv

theorem clearMix_sound {m : Emb} {ρ : Env} {h : T Blk} {n : Nat} {w : World} (hH : HeapR m ρ h w) (hf : ∀ id, n ≤ id → m.ι id = none) {t ty e : TypeId} {rest : List TypeId} {ie : TypeInfo} {z : DV} (ht : P.underlying t = some (.slice e)) (hie : P.info? e = some ie) (hz : zeroD P e = some z)
    {d : DV} {vd : Value} (hvd : d.R m ρ vd) {r : Out} (hd : clearMix h n ie.size z.cells d = some r)
    {run : Result Next} (hrun : ∀ v w', (Builtin.clear_ (t :: rest).toArray ty #[vd]).run P w = .ok v w' → run = .ok (.value v) w') : OpOk m ρ h w run r := by
  obtain ⟨i, zv, hi, hzv, hr⟩ := zeroD_R hz m ρ
  rw [hie] at hi; cases hi
  have hzrun : (zeroValue e).run P w = .ok zv w := by simp [zeroValue, typeInfo, hie, hzv]
  unfold clearMix at hd
  split at hd
  · rename_i id o x cap
    split at hd
    · rename_i a y k t0 md k' hterms hg hzc
      split at hd
      · rename_i hcond
        obtain ⟨hbase, rfl, hx, hro, hs1, rfl⟩ := hcond
        cases hd
        simp only [DV.R, E.ev, Sc.int_I] at hvd
        obtain ⟨b, hb, rfl, _, _⟩ := hvd
        obtain ⟨c, fr, t', ho, hM, hmd⟩ := mix_at hH hg hb
        have hfr := Md.fr_of hmd hro
        subst hfr
        have hden : o.den ρ = 0 := by simp [Off.den, hterms, sumT, hbase]
        have hle := hM.le
        have hlen := hM.len
        simp only [E.ev, Sc.int_I, List.length_singleton, Nat.mul_one, List.length_nil, Nat.zero_add, Nat.add_zero] at hle hlen
        have hcs := hr.cells
        rw [hzc] at hcs
        simp only [DV.RL, DV.R, E.ev, Sc.int_I] at hcs
        obtain ⟨v, vr, hcv, rfl, rfl⟩ := hcs
        have hvn : (Builtin.zeroCells zv.cells x.toNat).toList = List.replicate x.toNat (.int k 0) := by
          have : zv.cells = #[.int k 0] := Array.toList_inj.1 hcv
          rw [this]
          refine List.ext_getElem? fun i => ?_
          unfold Builtin.zeroCells
          by_cases hi : i < x.toNat
          · simp [hi, Nat.mod_one]
          · simp [hi]
        have hrl : (List.replicate x.toNat (Value.int k 0)).length = x.toNat := by simp
        have hfit : 0 + (List.replicate x.toNat (Value.int k 0)).length ≤ c.size := by rw [hrl]; omega
        have h1 : ∀ u ∈ List.replicate x.toNat (Value.int k 0), u.oneCell' = true := fun u hu => by
          rw [(List.mem_replicate.1 hu).2]; rfl
        have hst := run_storeCells_at (P := P) b 0 t' _ 0 c w ho (by simpa using hfit) h1
        simp only [Nat.add_zero] at hst
        have hrr : (Builtin.clear_ (t :: rest).toArray ty #[.slice (some ⟨b, o.den ρ, none⟩) x.toNat (cap.den m ρ id)]).run P w = .ok (.tuple #[]) (w.setRow b (splice c 0 (List.replicate x.toNat (.int k 0)))) := by
          obtain ⟨q, hq⟩ : ∃ q, x.toNat = q + 1 := ⟨x.toNat - 1, by omega⟩
          rw [hden]
          rw [hq] at hvn hst ⊢
          simp only [Builtin.clear_, List.getElem?_toArray, List.getElem?_cons_zero, Sem.run_bind, run_underlying ht, Result.andThen_ok, hzrun, hvn, hst, Sem.run_pure]
        have hsz := splice_size hfit
        have hM' : MixR m ρ [] (.bi (.row .rep) (.un (.row (.cI k)) (.li 0)) (.li x)) (.li x) [.int k] [] (splice c 0 (List.replicate x.toNat (.int k 0))) := by
          refine rep_mix (fun j hj => ?_) (by rw [hsz]; omega)
          rw [splice_get hfit, if_neg (by omega), if_pos (by rw [hrl]; omega), List.getElem?_replicate, if_pos (by omega)]
        obtain ⟨g1, g2⟩ := mix_write (t1 := t0) hH hg hb ho hmd hro hfit hM'
        exact ⟨_, _, _, m, hrun _ _ hrr, .inl rfl, by simp [DV.R, DV.RL], g1, g2, hf⟩
      · cases hd
    · cases hd
  · cases hd
end

section
variable (P : Program) (F : Facts)

def valR (h : T Blk) (t : T DV) : Op → Option DV
  | .load ty a => match opd t a with
    | some (.ptr id o) => loadMix P F h ty id o
    | _ => none
  | .convert src dst x => match P.underlying src, P.underlying dst, opd t x with
    | some (.slice e), some .string, some d => match P.underlying e with
      | some (.int .u8) => (match bytesMix F h d with
        | some e => some (.str e)
        | none => (bytesEnd h d).map .str)
      | _ => none
    | _, _, _ => none
  | _ => none

def memR (h : T Blk) (n : Nat) (t : T DV) : Op → Option Out
  | .store ty a x => match opd t a, opd t x with
    | some (.ptr id o), some d => match storeMix P F h ty id o d with
      | some h' => some ⟨.tup [], h', n⟩
      | none => none
    | _, _ => none
  | .makeSlice ty l c => match P.underlying ty, opd t l, opd t c with
    | some (.slice e), some (.int _ (.li a)), some (.int _ (.li b)) => match P.info? e, zeroD P e with
      | some ie, some (.int k (.li 0)) => if 0 ≤ a ∧ a ≤ b ∧ b ≤ 1000000 ∧ ie.bytes ≤ 1000000 ∧ ie.size = 1 then
          some ⟨.slc n ⟨0, []⟩ (.li a) (.own (.li 0)), h.set n (.mix [] (.bi (.row .rep) (.un (.row (.cI k)) (.li 0)) (.li b)) (.li b) [.int k] [] e (.own 1)), n + 1⟩
        else none
      | _, _ => none
    | _, _, _ => none
  | .call c => match c.callee, c.args.toList.mapM (opd t) with
    | .builtin .copy, some [d, .str s] => match c.argTypes.toList with
      | td :: tx :: _ => match P.underlying td, P.underlying tx with
        | some (.slice e), some .string => match P.info? e with
          | some ie => if ie.size = 1 then copyMix F h n s d else none
          | none => none
        | _, _ => none
      | _ => none
    | .builtin .append, some [s, x] => match c.argTypes.toList with
      | ts :: tx :: _ => match P.underlying ts with
        | some (.slice e) => match P.info? e, zeroD P e with
          | some ie, some z => if ie.bytes ≤ 1000000 ∧ z.cells.length = ie.size then
              match newsD P h ie.size tx x with
              | some (k, news) => (match appMix F h n e ie.size k news s with
                | some r => some r
                | none => (convA F h s).bind fun h' => appMix F h' n e ie.size k news s)
              | none => none
            else none
          | _, _ => none
        | _ => none
      | _ => none
    | .builtin .clear, some [s] => match c.argTypes.toList with
      | ts :: _ => match P.underlying ts with
        | some (.slice e) => match P.info? e, zeroD P e with
          | some ie, some z => clearMix h n ie.size z.cells s
          | _, _ => none
        | _ => none
      | _ => none
    | _, _ => none
  | _ => none

def valD (h : T Blk) (t : T DV) (op : Op) : Option DV := match valDF P F h t op with
  | some d => some d
  | none => valR P F h t op

def memD (h : T Blk) (n : Nat) (t : T DV) (op : Op) : Option Out := match memDG P F h n t op with
  | some r => some r
  | none => memR P F h n t op

variable {P} {F}

theorem valR_sound {m : Emb} {ρ : Env} (hF : F.ok ρ) {h : T Blk} {t : T DV} {a : Act} {w : World} (hH : HeapR m ρ h w) (ht : TmpR m ρ t a) {o : Oper} {d : DV} (hd : valR P F h t o.op = some d) :
    ∃ v, (execOp a.eval o).run P w = .ok (.value v) w ∧ d.R m ρ v := by
  obtain ⟨dst, op, type, pos, after, guard⟩ := o
  simp only at hd
  cases op <;> simp only [valR, reduceCtorEq] at hd
  case load ty x =>
    split at hd
    · rename_i id of hx
      obtain ⟨v, h1, h2⟩ := loadMix_sound hF hH hd (opd_R ht hx)
      exact ⟨v, by simp only [execOp, Sem.run_bind, h1, Result.andThen_ok, Sem.run_pure], h2⟩
    · cases hd
  case convert src dst' x =>
    split at hd
    · rename_i e dx hs hu hx
      split at hd
      · rename_i he
        split at hd
        · rename_i e' he'
          cases hd
          exact ⟨.string (e'.ev ρ).str, run_v (bytesMix_sound hF hH he' (opd_R ht hx) hs he hu), by simp only [DV.R]⟩
        · simp only [Option.map_eq_some_iff] at hd
          obtain ⟨e', he', rfl⟩ := hd
          exact ⟨.string (e'.ev ρ).str, run_v (bytesEnd_sound hH he' (opd_R ht hx) hs he hu), by simp only [DV.R]⟩
      · cases hd
    · cases hd

theorem madeCells_one (v : Value) (n : Nat) : (madeCells #[v] n).toList = List.replicate n v := by
  refine List.ext_getElem? fun i => ?_
  have e : madeCells #[v] n = (Array.range n).map ((#[v] : Array Value)[· % (#[v] : Array Value).size]!) := rfl
  rw [e]
  by_cases h : i < n
  · simp [h, Nat.mod_one]
  · simp [h]

theorem memR_sound {m : Emb} {ρ : Env} (hF : F.ok ρ) {h : T Blk} {n : Nat} {t : T DV} {a : Act} {w : World} (hH : HeapR m ρ h w) (ht : TmpR m ρ t a) (hf : ∀ id, n ≤ id → m.ι id = none) {o : Oper} {r : Out}
    (hd : memR P F h n t o.op = some r) : OpOk m ρ h w ((execOp a.eval o).run P w) r := by
  obtain ⟨dst, op, type, pos, after, guard⟩ := o
  simp only at hd
  cases op <;> simp only [memR, reduceCtorEq] at hd
  case store ty x y =>
    split at hd
    · rename_i id of dx hp hx
      split at hd
      · rename_i h' hs
        cases hd
        obtain ⟨w', hrun, hH', hT⟩ := storeMix_sound hF hH hs (opd_R ht hp) (opd_R ht hx)
        refine ⟨.skip, undef, w', m, ?_, .inr ⟨rfl, rfl⟩, ?_, hH', hT, hf⟩
        · simp only [execOp, Sem.run_bind, hrun, Result.andThen_ok, Sem.run_pure]
        · simp [DV.R, DV.RL, undef]
      · cases hd
    · cases hd
  case makeSlice ty l c =>
    split at hd
    · rename_i e k1 x k2 y hu hl hc
      split at hd
      · rename_i ie k hie hz
        split at hd
        · rename_i hcond
          obtain ⟨h0, hxy, hy, hby, hs1⟩ := hcond
          cases hd
          obtain ⟨i, zv, hi, hzv, hr⟩ := zeroD_R hz m ρ
          rw [hie] at hi; cases hi
          simp only [DV.R, E.ev, Sc.int_I] at hr
          subst hr
          have hRl := opd_R ht hl
          have hRc := opd_R ht hc
          simp only [DV.R, E.ev, Sc.int_I] at hRl hRc
          have hbytes : (ie.bytes : Int) * y ≤ 281474976710656 := by
            have h1 : (ie.bytes : Int) * y ≤ 1000000 * 1000000 := Int.mul_le_mul (by omega) hy (by omega) (by omega)
            omega
          have hrun := run_make (P := P) w ty e ie (.int k 0) hu hie hzv k1 k2 x y h0 hxy hbytes (by omega)
          have hmade : (madeCells (Value.int k 0).cells (y.toNat * ie.size)).toList = List.replicate y.toNat (.int k 0) := by
            rw [hs1, Nat.mul_one]; exact madeCells_one _ _
          have harr : ((E.bi (.row .rep) (.un (.row (.cI k)) (.li 0)) (.li y)).ev ρ).arr = List.replicate y.toNat (.int k 0) := by
            simp only [E.ev, B2.ev, U.ev, RB.ev, RU.ev, Sc.arr_A, Sc.int_I]
            exact List.flatten_replicate_singleton
          have hsz : (madeCells (Value.int k 0).cells (y.toNat * ie.size)).size = y.toNat := by
            have := congrArg List.length hmade
            simpa using this
          refine new_ok (k := y.toNat) hH hf (o := .cells (madeCells (Value.int k 0).cells (y.toNat * ie.size)) e) (B := .mix [] (.bi (.row .rep) (.un (.row (.cI k)) (.li 0)) (.li y)) (.li y) [.int k] [] e (.own 1)) ?_ (v := .slice (some ⟨w.heap.size, 0, none⟩) x.toNat y.toNat) ?_ ?_
          · refine MixR.blk ⟨by rw [harr]; simp [E.ev], by rw [harr]; simp [hsz], fun i d hd => by simp at hd, fun i v hv => .inr ?_, fun i v hv => ?_, fun i d hd => by simp at hd⟩ ⟨rfl, by rw [hsz]; omega⟩
            · rw [harr] at hv
              rw [← Array.getElem?_toList, hmade]
              simpa using hv
            · rw [harr] at hv
              have : v = .int k 0 := by
                rw [List.getElem?_replicate] at hv
                split at hv
                · cases hv; rfl
                · cases hv
              subst this
              simp only [List.length_singleton, Nat.mod_one, List.getD_cons_zero]
              exact ⟨0, rfl, (kind_zero k).1, (kind_zero k).2⟩
          · simp only [DV.R]
            refine ⟨w.heap.size, by simp [Emb.put], ?_, by simpa [E.ev] using h0, ?_⟩
            · simp [Off.den, sumT, E.ev, Cap.den, Emb.put]
            · simp [E.ev, Cap.den, Emb.put]; omega
          · simp only [execOp]
            rw [hRl, hRc]
            exact run_v hrun
        · cases hd
      · cases hd
    · cases hd
  case call c =>
    obtain ⟨callee, args, argTypes⟩ := c
    simp only at hd
    split at hd
    · rename_i d0 s hargs
      have hA := opds_R ht hargs
      simp only [DV.RL] at hA
      obtain ⟨v0, vr, he, hR, v1, vr', rfl, hR1, rfl⟩ := hA
      have hmap : args.map a.eval = #[v0, v1] := Array.toList_inj.1 (by rw [Array.toList_map]; exact he)
      simp only [DV.R] at hR1
      subst hR1
      split at hd
      · rename_i td tx rest hty
        split at hd
        · rename_i e hu hux
          split at hd
          · rename_i ie hie
            split at hd
            · refine copyMix_sound (ty := type) (rest := rest) hF hH hf hu hux hie hR hd fun v w' hv => ?_
              have hAT : argTypes = (td :: tx :: rest).toArray := by rw [← hty]
              rw [← hAT] at hv
              simp [execOp, resolve, hmap, invoke, builtin, hv]
            · cases hd
          · cases hd
        · cases hd
      · cases hd
    · rename_i d0 d1 hargs
      have hA := opds_R ht hargs
      simp only [DV.RL] at hA
      obtain ⟨v0, vr, he, hR, v1, vr', rfl, hR1, rfl⟩ := hA
      have hmap : args.map a.eval = #[v0, v1] := Array.toList_inj.1 (by rw [Array.toList_map]; exact he)
      split at hd
      · rename_i ts tx rest hty
        split at hd
        · rename_i e hu
          split at hd
          · rename_i ie z hie hz
            split at hd
            · rename_i hcond
              split at hd
              · rename_i k news hnews
                obtain ⟨vn, hs, hvn, _⟩ := newsD_sound (P := P) hH hnews hR1
                have hrun : ∀ v w', (Builtin.append_ #[ts, tx] type #[v0, v1]).run P w = .ok v w' → (execOp a.eval ⟨dst, .call ⟨.builtin .append, args, argTypes⟩, type, pos, after, guard⟩).run P w = .ok (.value v) w' := fun v w' hv => by
                  have hAT : argTypes = (ts :: tx :: rest).toArray := by rw [← hty]
                  have : (Builtin.append_ argTypes type #[v0, v1]) = Builtin.append_ #[ts, tx] type #[v0, v1] := by
                    rw [hAT]; rfl
                  simp [execOp, resolve, hmap, invoke, builtin, this, hv]
                split at hd
                · rename_i r' hr'
                  cases hd
                  exact appMix_sound (ty := type) hF hH hf hu hie hz hcond.2 hcond.1 hR hvn hs hr' hrun
                · simp only [Option.bind_eq_some_iff] at hd
                  obtain ⟨h', hc, hd⟩ := hd
                  obtain ⟨hH', hfp⟩ := convA_ok hF hH hc
                  exact OpOk.of_le hfp (appMix_sound (ty := type) hF hH' hf hu hie hz hcond.2 hcond.1 hR hvn hs hd hrun)
              · cases hd
            · cases hd
          · cases hd
        · cases hd
      · cases hd
    · rename_i d0 hargs
      have hA := opds_R ht hargs
      simp only [DV.RL] at hA
      obtain ⟨v0, vr, he, hR, rfl⟩ := hA
      have hmap : args.map a.eval = #[v0] := Array.toList_inj.1 (by rw [Array.toList_map]; exact he)
      split at hd
      · rename_i ts rest hty
        split at hd
        · rename_i e hu
          split at hd
          · rename_i ie z hie hz
            refine clearMix_sound (ty := type) (rest := rest) hH hf hu hie hz hR hd fun v w' hv => ?_
            have hAT : argTypes = (ts :: rest).toArray := by rw [← hty]
            rw [← hAT] at hv
            simp [execOp, resolve, hmap, invoke, builtin, hv]
          · cases hd
        · cases hd
      · cases hd
    · cases hd

theorem valD_sound {m : Emb} {ρ : Env} (hF : F.ok ρ) {h : T Blk} {t : T DV} {a : Act} {w : World} (hH : HeapR m ρ h w) (ht : TmpR m ρ t a) {o : Oper} {d : DV} (hd : valD P F h t o.op = some d) :
    ∃ v, (execOp a.eval o).run P w = .ok (.value v) w ∧ d.R m ρ v := by
  unfold valD at hd
  split at hd
  · rename_i d' h'; cases hd; exact valDF_sound hF hH ht h'
  · exact valR_sound hF hH ht hd

theorem memD_sound {m : Emb} {ρ : Env} (hF : F.ok ρ) {h : T Blk} {n : Nat} {t : T DV} {a : Act} {w : World} (hH : HeapR m ρ h w) (ht : TmpR m ρ t a) (hf : ∀ id, n ≤ id → m.ι id = none) {o : Oper} {r : Out}
    (hd : memD P F h n t o.op = some r) : OpOk m ρ h w ((execOp a.eval o).run P w) r := by
  unfold memD at hd
  split at hd
  · rename_i r' h'; cases hd; exact memDG_sound hF hH ht hf h'
  · exact memR_sound hF hH ht hf hd
end
end Go.Eng

/-
  Two states that a test tells apart, made one.
-/
namespace Go.Eng

/-- Two expressions, the one where a test holds, the other where it doesn't. -/
def mergeG (c : E) : E → E → E
  | .bi o a b, y => match y with
    | .bi o' a' b' => if o = o' then (if a.same a' then (if b.same b' then .bi o a b else .bi o a (mergeG c b b')) else if b.same b' then .bi o (mergeG c a a') b else .tr .ite c (.bi o a b) (.bi o' a' b'))
      else .tr .ite c (.bi o a b) (.bi o' a' b')
    | y => .tr .ite c (.bi o a b) y
  | .un o a, y => match y with
    | .un o' a' => if o = o' then (if a.same a' then .un o a else .un o (mergeG c a a')) else .tr .ite c (.un o a) (.un o' a')
    | y => .tr .ite c (.un o a) y
  | x, y => if x.same y then x else .tr .ite c x y

theorem ite_ev (ρ : Env) (c x y : E) : (E.tr .ite c x y).ev ρ = if (c.ev ρ).bool then x.ev ρ else y.ev ρ := rfl

theorem mergeG_ev (ρ : Env) (c : E) : ∀ x y : E, (mergeG c x y).ev ρ = if (c.ev ρ).bool then x.ev ρ else y.ev ρ := by
  intro x
  have dflt : ∀ x y : E, (if x.same y then x else E.tr .ite c x y).ev ρ = if (c.ev ρ).bool then x.ev ρ else y.ev ρ := by
    intro x y
    split
    · rename_i h; rw [E.same_eq h]; simp
    · rfl
  induction x with
  | un o a ih =>
    intro y
    simp only [mergeG]
    split
    · rename_i o' a'
      split
      · rename_i e; subst e
        split
        · rename_i h; rw [E.same_eq h]; simp
        · simp only [E.ev, ih]; split <;> rfl
      · rfl
    · rfl
  | bi o a b iha ihb =>
    intro y
    simp only [mergeG]
    split
    · rename_i o' a' b'
      split
      · rename_i e; subst e
        split
        · rename_i h
          split
          · rename_i h2; rw [E.same_eq h, E.same_eq h2]; simp
          · simp only [E.ev, ihb, E.same_eq h]; split <;> rfl
        · split
          · rename_i h2; simp only [E.ev, iha, E.same_eq h2]; split <;> rfl
          · rfl
      · rfl
    · rfl
  | vr n => intro y; exact dflt _ _
  | li n => intro y; exact dflt _ _
  | lb n => intro y; exact dflt _ _
  | ls n => intro y; exact dflt _ _
  | tr o a b d _ _ _ => intro y; exact dflt _ _

theorem wrap_toNat (k : IntKind) (x : Int) : k.wrap ((BitVec.ofInt k.bits x).toNat : Int) = k.wrap x := by
  rw [BitVec.toNat_ofInt]
  cases k <;> simp [IntKind.wrap, IntKind.signed, IntKind.bits] <;> omega

theorem or_zero {F : Facts} {ρ : Env} (hF : F.ok ρ) {k : IntKind} {y : E} (h : inKind F k y = true) : bitsOf .or k (y.ev ρ).int 0 = (y.ev ρ).int := by
  unfold bitsOf
  have : (BitVec.ofInt k.bits (0 : Int)) = 0 := by simp
  simp only [this]
  rw [show (BitVec.ofInt k.bits (y.ev ρ).int ||| (0 : BitVec k.bits)) = BitVec.ofInt k.bits (y.ev ρ).int from BitVec.or_zero]
  rw [wrap_toNat, inKind_sound hF h]

/-- The same of numbers: what is added, or laid beside, in one of the two alone. -/
def mergeI (F : Facts) (c x y : E) : E :=
  if x.same y then x else
  match x, y with
  | .bi (.bits .or k) a b, y => if a.same y && inKind F k y then .bi (.bits .or k) a (.tr .ite c b (.li 0)) else mergeG c (.bi (.bits .or k) a b) y
  | x, .bi (.bits .or k) a b => if a.same x && inKind F k x then .bi (.bits .or k) a (.tr .ite c (.li 0) b) else mergeG c x (.bi (.bits .or k) a b)
  | .bi .add a b, y => if a.same y then .bi .add a (.tr .ite c b (.li 0)) else mergeG c (.bi .add a b) y
  | x, .bi .add a b => if a.same x then .bi .add a (.tr .ite c (.li 0) b) else mergeG c x (.bi .add a b)
  | x, y => mergeG c x y

theorem mergeI_int {F : Facts} {ρ : Env} (hF : F.ok ρ) (c x y : E) : ((mergeI F c x y).ev ρ).int = if (c.ev ρ).bool then (x.ev ρ).int else (y.ev ρ).int := by
  have dflt : ∀ x y : E, ((mergeG c x y).ev ρ).int = if (c.ev ρ).bool then (x.ev ρ).int else (y.ev ρ).int := by
    intro x y; rw [mergeG_ev]; split <;> rfl
  unfold mergeI
  split
  · rename_i h; rw [E.same_eq h]; simp
  · split
    · rename_i k a b y _
      split
      · rename_i h
        simp only [Bool.and_eq_true] at h
        have := or_zero hF h.2
        rw [E.same_eq h.1]
        simp only [E.ev, B2.ev, B3.ev, Sc.int_I]
        cases (c.ev ρ).bool
        · simpa using this
        · simp
      · exact dflt _ _
    · rename_i x k a b _ _
      split
      · rename_i h
        simp only [Bool.and_eq_true] at h
        have := or_zero hF h.2
        rw [E.same_eq h.1]
        simp only [E.ev, B2.ev, B3.ev, Sc.int_I]
        cases (c.ev ρ).bool
        · simp
        · simpa using this
      · exact dflt _ _
    · rename_i a b y _ _
      split
      · rename_i h
        rw [E.same_eq h]
        simp only [E.ev, B2.ev, B3.ev, Sc.int_I]
        cases (c.ev ρ).bool <;> simp
      · exact dflt _ _
    · rename_i x a b _ _ _
      split
      · rename_i h
        rw [E.same_eq h]
        simp only [E.ev, B2.ev, B3.ev, Sc.int_I]
        cases (c.ev ρ).bool <;> simp
      · exact dflt _ _
    · exact dflt _ _

/-- Of truth values. -/
def mergeB (_ : Facts) (c x y : E) : E :=
  if x.same y then x else
  match x, y with
  | .lb true, .lb false => c
  | .lb false, .lb true => notB c
  | .lb true, y => .bi .or c y
  | .lb false, y => .bi .and (notB c) y
  | x, .lb false => .bi .and c x
  | x, .lb true => .bi .or (notB c) x
  | x, y => mergeG c x y

theorem mergeB_bool {F : Facts} {ρ : Env} (c x y : E) : ((mergeB F c x y).ev ρ).bool = if (c.ev ρ).bool then (x.ev ρ).bool else (y.ev ρ).bool := by
  unfold mergeB
  split
  · rename_i h; rw [E.same_eq h]; simp
  · split
    · simp only [E.ev, Sc.bool_B]; cases (c.ev ρ).bool <;> rfl
    · simp only [notB_bool, E.ev, Sc.bool_B]; cases (c.ev ρ).bool <;> rfl
    · simp only [E.ev, B2.ev, Sc.bool_B]; cases (c.ev ρ).bool <;> simp
    · simp only [E.ev, B2.ev, notB_bool, Sc.bool_B]; cases (c.ev ρ).bool <;> simp
    · simp only [E.ev, B2.ev, Sc.bool_B]; cases (c.ev ρ).bool <;> simp
    · simp only [E.ev, B2.ev, notB_bool, Sc.bool_B]; cases (c.ev ρ).bool <;> simp
    · rw [mergeG_ev]; split <;> rfl

mutual
def mergeD (F : Facts) (c : E) : DV → DV → Option DV
  | .int k x, .int k' y => if k = k' then some (.int k (mergeI F c x y)) else none
  | .bool x, .bool y => some (.bool (mergeB F c x y))
  | .str x, .str y => some (.str (mergeG c x y))
  | .agg l, .agg r => (mergeDL F c l r).map .agg
  | .tup l, .tup r => (mergeDL F c l r).map .tup
  | .ifc t v, .ifc t' v' => if t = t' then (mergeD F c v v').map (.ifc t) else none
  | x, y => if x.eqv y then some x else none
def mergeDL (F : Facts) (c : E) : List DV → List DV → Option (List DV)
  | [], [] => some []
  | d :: r, e :: q => match mergeD F c d e, mergeDL F c r q with
    | some x, some y => some (x :: y)
    | _, _ => none
  | _, _ => none
end

section
variable {F : Facts} {ρ : Env} {m : Emb} {c : E}

mutual
theorem mergeD_ok (hF : F.ok ρ) : ∀ {x y d : DV} {v : Value}, mergeD F c x y = some d → ((c.ev ρ).bool = true → x.R m ρ v → d.R m ρ v) ∧ ((c.ev ρ).bool = false → y.R m ρ v → d.R m ρ v)
  | .int k a, y, d, v, h => by
    cases y <;> simp only [mergeD, DV.eqv, Bool.false_eq_true, if_false, reduceCtorEq] at h
    split at h
    · rename_i e; subst e
      cases h
      have := mergeI_int hF c a
      refine ⟨fun hc hr => ?_, fun hc hr => ?_⟩ <;> simp only [DV.R] at hr ⊢ <;> rw [hr, this] <;> simp [hc]
    · cases h
  | .bool a, y, d, v, h => by
    cases y <;> simp only [mergeD, DV.eqv, Bool.false_eq_true, if_false, reduceCtorEq, Option.some.injEq] at h
    subst h
    have := mergeB_bool (F := F) (ρ := ρ) c a
    refine ⟨fun hc hr => ?_, fun hc hr => ?_⟩ <;> simp only [DV.R] at hr ⊢ <;> rw [hr, this] <;> simp [hc]
  | .str a, y, d, v, h => by
    cases y <;> simp only [mergeD, DV.eqv, Bool.false_eq_true, if_false, reduceCtorEq, Option.some.injEq] at h
    subst h
    have := mergeG_ev ρ c a
    refine ⟨fun hc hr => ?_, fun hc hr => ?_⟩ <;> simp only [DV.R] at hr ⊢ <;> rw [hr, this] <;> simp [hc]
  | .agg l, y, d, v, h => by
    cases y <;> simp only [mergeD, DV.eqv, Bool.false_eq_true, if_false, reduceCtorEq, Option.map_eq_some_iff] at h
    obtain ⟨q, hq, rfl⟩ := h
    have := fun vs => mergeDL_ok hF (vs := vs) hq
    refine ⟨fun hc hr => ?_, fun hc hr => ?_⟩ <;> simp only [DV.R] at hr ⊢ <;> obtain ⟨vs, hv, hl⟩ := hr
    · exact ⟨vs, hv, (this _).1 hc hl⟩
    · exact ⟨vs, hv, (this _).2 hc hl⟩
  | .tup l, y, d, v, h => by
    cases y <;> simp only [mergeD, DV.eqv, Bool.false_eq_true, if_false, reduceCtorEq, Option.map_eq_some_iff] at h
    obtain ⟨q, hq, rfl⟩ := h
    have := fun vs => mergeDL_ok hF (vs := vs) hq
    refine ⟨fun hc hr => ?_, fun hc hr => ?_⟩ <;> simp only [DV.R] at hr ⊢ <;> obtain ⟨vs, hv, hl⟩ := hr
    · exact ⟨vs, hv, (this _).1 hc hl⟩
    · exact ⟨vs, hv, (this _).2 hc hl⟩
  | .ifc t x, y, d, v, h => by
    cases y <;> simp only [mergeD, DV.eqv, Bool.false_eq_true, if_false, reduceCtorEq] at h
    split at h
    · rename_i e; subst e
      simp only [Option.map_eq_some_iff] at h
      obtain ⟨q, hq, rfl⟩ := h
      have := fun u => mergeD_ok hF (v := u) hq
      refine ⟨fun hc hr => ?_, fun hc hr => ?_⟩ <;> simp only [DV.R] at hr ⊢ <;> obtain ⟨u, hv, hl⟩ := hr
      · exact ⟨u, hv, (this _).1 hc hl⟩
      · exact ⟨u, hv, (this _).2 hc hl⟩
    · cases h
  | .ptr i o, y, d, v, h => mergeD_same (by simpa only [mergeD] using h)
  | .nilp, y, d, v, h => mergeD_same (by simpa only [mergeD] using h)
  | .gptr g o, y, d, v, h => mergeD_same (by simpa only [mergeD] using h)
  | .slc i o l k, y, d, v, h => mergeD_same (by simpa only [mergeD] using h)
  | .nils, y, d, v, h => mergeD_same (by simpa only [mergeD] using h)
  | .mt, y, d, v, h => mergeD_same (by simpa only [mergeD] using h)
  | .nili, y, d, v, h => mergeD_same (by simpa only [mergeD] using h)
  | .fn f a k, y, d, v, h => mergeD_same (by simpa only [mergeD] using h)
  | .nilf, y, d, v, h => mergeD_same (by simpa only [mergeD] using h)
  | .mp i, y, d, v, h => mergeD_same (by simpa only [mergeD] using h)
  | .nilm, y, d, v, h => mergeD_same (by simpa only [mergeD] using h)
  | .yld i, y, d, v, h => mergeD_same (by simpa only [mergeD] using h)
  | .anyi, y, d, v, h => mergeD_same (by simpa only [mergeD] using h)
theorem mergeD_same : ∀ {x y d : DV} {v : Value}, (if x.eqv y then some x else none) = some d → ((c.ev ρ).bool = true → x.R m ρ v → d.R m ρ v) ∧ ((c.ev ρ).bool = false → y.R m ρ v → d.R m ρ v) := by
  intro x y d v h
  split at h
  · rename_i e
    cases h
    have := DV.eqv_eq e
    subst this
    exact ⟨fun _ h => h, fun _ h => h⟩
  · cases h
theorem mergeDL_ok (hF : F.ok ρ) : ∀ {x y d : List DV} {vs : List Value}, mergeDL F c x y = some d → ((c.ev ρ).bool = true → DV.RL m ρ x vs → DV.RL m ρ d vs) ∧ ((c.ev ρ).bool = false → DV.RL m ρ y vs → DV.RL m ρ d vs)
  | [], y, d, vs, h => by
    cases y <;> simp only [mergeDL, reduceCtorEq, Option.some.injEq] at h
    subst h
    exact ⟨fun _ h => h, fun _ h => h⟩
  | a :: l, y, d, vs, h => by
    cases y <;> simp only [mergeDL, reduceCtorEq] at h
    split at h
    · rename_i p q hp hq
      cases h
      have h1 := fun u => mergeD_ok hF (v := u) hp
      have h2 := fun us => mergeDL_ok hF (vs := us) hq
      refine ⟨fun hc hr => ?_, fun hc hr => ?_⟩ <;> simp only [DV.RL] at hr ⊢ <;> obtain ⟨u, us, hv, hl, hl2⟩ := hr
      · exact ⟨u, us, hv, (h1 _).1 hc hl, (h2 _).1 hc hl2⟩
      · exact ⟨u, us, hv, (h1 _).2 hc hl, (h2 _).2 hc hl2⟩
    · cases h
end

theorem mergeDL_length (F : Facts) (c : E) : ∀ {x y d : List DV}, mergeDL F c x y = some d → d.length = x.length ∧ d.length = y.length
  | [], y, d, h => by
    cases y <;> simp only [mergeDL, reduceCtorEq, Option.some.injEq] at h
    subst h; exact ⟨rfl, rfl⟩
  | a :: l, y, d, h => by
    cases y <;> simp only [mergeDL, reduceCtorEq] at h
    split at h
    · rename_i p q hp hq
      cases h
      have := mergeDL_length F c hq
      simp [this.1]; omega
    · cases h

theorem mergeDL_get (F : Facts) (c : E) : ∀ {x y d : List DV}, mergeDL F c x y = some d → ∀ (i : Nat) (e : DV), d[i]? = some e → ∃ p q, x[i]? = some p ∧ y[i]? = some q ∧ mergeD F c p q = some e
  | [], y, d, h, i, e, he => by
    cases y <;> simp only [mergeDL, reduceCtorEq, Option.some.injEq] at h
    subst h; simp at he
  | a :: l, y, d, h, i, e, he => by
    cases y with
    | nil => simp only [mergeDL, reduceCtorEq] at h
    | cons b r =>
      simp only [mergeDL] at h
      split at h
      · rename_i p q hp hq
        cases h
        cases i with
        | zero => simp at he; subst he; exact ⟨a, b, rfl, rfl, hp⟩
        | succ i => simp at he; simpa using mergeDL_get F c hq i e he
      · cases h

def mergeK (F : Facts) (c : E) : Blk → Blk → Option Blk
  | .cells l t md, .cells l' t' md' => if t = t' ∧ md = md' then (mergeDL F c l l').map fun q => .cells q t md else none
  | .arr q a n sh t md, .arr q' a' n' sh' t' md' => if q.same q' && (n.same n' && decide (sh = sh' ∧ t = t' ∧ md = md')) then some (.arr q (mergeG c a a') n sh t md) else none
  | .mix p a n sh s t md, .mix p' a' n' sh' s' t' md' => if n.same n' && decide (sh = sh' ∧ t = t' ∧ md = md') then (match mergeDL F c p p', mergeDL F c s s' with | some q, some r => some (.mix q (mergeG c a a') n sh r t md) | _, _ => none) else none
  | .mpb es, .mpb es' => if DV.eqvL (es.map (·.1)) (es'.map (·.1)) then (mergeDL F c (es.map (·.2)) (es'.map (·.2))).map fun vs => .mpb ((es.map (·.1)).zip vs) else none
  | x, y => if x.eqv y then some x else none

theorem mergeK_rw {x y B : Blk} (h : mergeK F c x y = some B) : (B.rw = x.rw ∧ B.live = x.live) ∧ B.rw = y.rw ∧ B.live = y.live := by
  have same : ∀ {x y : Blk}, (if x.eqv y then some x else none) = some B → (B.rw = x.rw ∧ B.live = x.live) ∧ B.rw = y.rw ∧ B.live = y.live := by
    intro x y h
    split at h
    · rename_i e; cases h; have := Blk.eqv_eq e; subst this; exact ⟨⟨rfl, rfl⟩, rfl, rfl⟩
    · cases h
  unfold mergeK at h
  split at h
  · split at h
    · rename_i e
      simp only [Option.map_eq_some_iff] at h
      obtain ⟨q, _, rfl⟩ := h
      simp [Blk.rw, Blk.live, e.2]
    · cases h
  · split at h
    · rename_i e
      cases h
      simp only [Bool.and_eq_true, decide_eq_true_eq] at e
      simp [Blk.rw, Blk.live, e.2.2.2.2]
    · cases h
  · split at h
    · rename_i e
      simp only [Bool.and_eq_true, decide_eq_true_eq] at e
      split at h
      · cases h
        simp [Blk.rw, Blk.live, e.2.2.2]
      · cases h
    · cases h
  · split at h
    · simp only [Option.map_eq_some_iff] at h
      obtain ⟨q, _, rfl⟩ := h
      simp [Blk.rw, Blk.live]
    · cases h
  · exact same h

theorem mergeK_ok (hF : F.ok ρ) {x y B : Blk} {k : Nat} {o : Obj} (h : mergeK F c x y = some B) : ((c.ev ρ).bool = true → x.R m ρ k o → B.R m ρ k o) ∧ ((c.ev ρ).bool = false → y.R m ρ k o → B.R m ρ k o) := by
  have same : ∀ {x y : Blk}, (if x.eqv y then some x else none) = some B → ((c.ev ρ).bool = true → x.R m ρ k o → B.R m ρ k o) ∧ ((c.ev ρ).bool = false → y.R m ρ k o → B.R m ρ k o) := by
    intro x y h
    split at h
    · rename_i e; cases h; have := Blk.eqv_eq e; subst this; exact ⟨fun _ h => h, fun _ h => h⟩
    · cases h
  unfold mergeK at h
  split at h
  · split at h
    · rename_i l t md l' t' md' e
      obtain ⟨rfl, rfl⟩ := e
      simp only [Option.map_eq_some_iff] at h
      obtain ⟨q, hq, rfl⟩ := h
      obtain ⟨hl1, hl2⟩ := mergeDL_length F c hq
      have hg := mergeDL_get F c hq
      refine ⟨fun hc ⟨cs, fr, h1, h2, h3, h4⟩ => ⟨cs, fr, h1, by omega, fun i d hd => ?_, h4⟩, fun hc ⟨cs, fr, h1, h2, h3, h4⟩ => ⟨cs, fr, h1, by omega, fun i d hd => ?_, h4⟩⟩
      · obtain ⟨p, r, g1, g2, g3⟩ := hg i d hd
        obtain ⟨v, hv, hr⟩ := h3 i p g1
        exact ⟨v, hv, (mergeD_ok hF g3).1 hc hr⟩
      · obtain ⟨p, r, g1, g2, g3⟩ := hg i d hd
        obtain ⟨v, hv, hr⟩ := h3 i r g2
        exact ⟨v, hv, (mergeD_ok hF g3).2 hc hr⟩
    · cases h
  · split at h
    · rename_i q a n sh t md q' a' n' sh' t' md' e
      cases h
      simp only [Bool.and_eq_true, decide_eq_true_eq] at e
      obtain ⟨e1, e2, rfl, rfl, rfl⟩ := e
      have e1' := E.same_eq e1
      have e2' := E.same_eq e2
      subst e1'; subst e2'
      have ha := mergeG_ev ρ c a a'
      refine ⟨fun hc hr => ?_, fun hc hr => ?_⟩
      · rw [if_pos hc] at ha
        simpa only [Blk.R, ha] using hr
      · rw [if_neg (by simp [hc])] at ha
        simpa only [Blk.R, ha] using hr
    · cases h
  · split at h
    · rename_i p a n sh s t md p' a' n' sh' s' t' md' e
      simp only [Bool.and_eq_true, decide_eq_true_eq] at e
      obtain ⟨e2, rfl, rfl, rfl⟩ := e
      have e2' := E.same_eq e2
      subst e2'
      split at h
      · rename_i q r hq hr0
        cases h
        have ha := mergeG_ev ρ c a a'
        obtain ⟨hl1, hl2⟩ := mergeDL_length F c hq
        obtain ⟨hs1, hs2⟩ := mergeDL_length F c hr0
        have hg := mergeDL_get F c hq
        have hg2 := mergeDL_get F c hr0
        refine ⟨fun hc ⟨cs, fr, h1, h2, h3, h4, h5, h6, h7, h8⟩ => ?_, fun hc ⟨cs, fr, h1, h2, h3, h4, h5, h6, h7, h8⟩ => ?_⟩
        · rw [if_pos hc] at ha
          refine ⟨cs, fr, h1, by rw [ha]; exact h2, by rw [ha]; omega, fun i d hd => ?_, by rw [ha, hl1]; exact h5, by rw [ha]; exact h6, fun i d hd => ?_, h8⟩
          · obtain ⟨x, y, g1, g2, g3⟩ := hg i d hd
            obtain ⟨v, hv, hr⟩ := h4 i x g1
            exact ⟨v, hv, (mergeD_ok hF g3).1 hc hr⟩
          · obtain ⟨x, y, g1, g2, g3⟩ := hg2 i d hd
            obtain ⟨v, hv, hr⟩ := h7 i x g1
            exact ⟨v, by rw [ha, hl1]; exact hv, (mergeD_ok hF g3).1 hc hr⟩
        · rw [if_neg (by simp [hc])] at ha
          refine ⟨cs, fr, h1, by rw [ha]; exact h2, by rw [ha]; omega, fun i d hd => ?_, by rw [ha, hl2]; exact h5, by rw [ha]; exact h6, fun i d hd => ?_, h8⟩
          · obtain ⟨x, y, g1, g2, g3⟩ := hg i d hd
            obtain ⟨v, hv, hr⟩ := h4 i y g2
            exact ⟨v, hv, (mergeD_ok hF g3).2 hc hr⟩
          · obtain ⟨x, y, g1, g2, g3⟩ := hg2 i d hd
            obtain ⟨v, hv, hr⟩ := h7 i y g2
            exact ⟨v, by rw [ha, hl2]; exact hv, (mergeD_ok hF g3).2 hc hr⟩
      · cases h
    · cases h
  · split at h
    · rename_i es es' e
      simp only [Option.map_eq_some_iff] at h
      obtain ⟨vs, hvs, rfl⟩ := h
      have hk := DV.eqvL_eq e
      obtain ⟨hl1, hl2⟩ := mergeDL_length F c hvs
      simp only [List.length_map] at hl1 hl2
      have z1 : ((es.map (·.1)).zip vs).map (·.1) = es.map (·.1) := by rw [List.map_fst_zip]; simp; omega
      have z2 : ((es.map (·.1)).zip vs).map (·.2) = vs := by rw [List.map_snd_zip]; simp; omega
      refine ⟨fun hc ⟨en, clk, h1, h2, h3, h4⟩ => ⟨en, clk, h1, by rw [z1]; exact h2, by rw [z2]; exact (mergeDL_ok hF hvs).1 hc h3, h4⟩, fun hc ⟨en, clk, h1, h2, h3, h4⟩ => ⟨en, clk, h1, by rw [z1, hk]; exact h2, by rw [z2]; exact (mergeDL_ok hF hvs).2 hc h3, h4⟩⟩
    · cases h
  · exact same h

def mergeT {α : Type} (f : α → α → Option α) : T α → T α → T α
  | .node x l r, .node y l' r' => .node (match x, y with | some a, some b => f a b | _, _ => none) (mergeT f l l') (mergeT f r r')
  | _, _ => .nil

theorem mergeT_get {α : Type} {f : α → α → Option α} : ∀ {a b : T α} {n : Nat} {z : α}, (mergeT f a b).get n = some z → ∃ x y, a.get n = some x ∧ b.get n = some y ∧ f x y = some z
  | .nil, b, n, z, h => by simp [mergeT] at h
  | .node x l r, .nil, n, z, h => by simp [mergeT] at h
  | .node x l r, .node y l' r', n, z, h => by
    simp only [mergeT, T.get] at h ⊢
    split at h
    · rename_i hn
      rw [if_pos hn, if_pos hn]
      split at h
      · rename_i p q; exact ⟨p, q, rfl, rfl, h⟩
      · cases h
    · rename_i hn
      rw [if_neg hn, if_neg hn]
      split at h
      · rename_i hn2; rw [if_pos hn2, if_pos hn2]; exact mergeT_get h
      · rename_i hn2; rw [if_neg hn2, if_neg hn2]; exact mergeT_get h

/-- All that was there ahead of the test is still known. -/
def keepOk (n0 : Nat) (a b h : T Blk) : Bool := (List.range n0).all fun i => match a.get i, b.get i with
  | some x, some y => (!x.live && !y.live) || (h.get i).isSome
  | _, _ => true

def mergeH (F : Facts) (c : E) (n0 : Nat) (a b : T Blk) : Option (T Blk) :=
  if keepOk n0 a b (mergeT (mergeK F c) a b) then some (mergeT (mergeK F c) a b) else none

def mergeSt (F : Facts) (c : E) (n0 : Nat) (a b : St) : Option St :=
  if a.sz = b.sz ∧ dfsEq a.dfs b.dfs = true then (mergeH F c n0 a.heap b.heap).map fun h => ⟨mergeT (mergeD F c) a.tmps b.tmps, h, max a.next b.next, a.sz, a.dfs⟩ else none

theorem mergeH_ok (hF : F.ok ρ) {n0 : Nat} {a b h : T Blk} (hm : mergeH F c n0 a b = some h) :
    ((c.ev ρ).bool = true → (∀ {w : World}, HeapR m ρ a w → HeapR m ρ h w) ∧ ∀ x, Fp m h x → Fp m a x) ∧ ((c.ev ρ).bool = false → (∀ {w : World}, HeapR m ρ b w → HeapR m ρ h w) ∧ ∀ x, Fp m h x → Fp m b x) := by
  unfold mergeH at hm
  split at hm
  · cases hm
    refine ⟨fun hc => ⟨fun {w} hH => ⟨fun id B hB hl => ?_, fun id id' B B' x hB hB' hrw hl hi hi' => ?_⟩, fun x ⟨id, B, hB, hrw, hx⟩ => ?_⟩, fun hc => ⟨fun {w} hH => ⟨fun id B hB hl => ?_, fun id id' B B' x hB hB' hrw hl hi hi' => ?_⟩, fun x ⟨id, B, hB, hrw, hx⟩ => ?_⟩⟩
    · obtain ⟨p, q, h1, h2, h3⟩ := mergeT_get hB
      have hr := mergeK_rw h3
      obtain ⟨y, o, g1, g2, g3⟩ := hH.blk id p h1 (hr.1.2 ▸ hl)
      exact ⟨y, o, g1, g2, (mergeK_ok hF h3).1 hc g3⟩
    · obtain ⟨p, q, h1, h2, h3⟩ := mergeT_get hB
      obtain ⟨p', q', h1', h2', h3'⟩ := mergeT_get hB'
      have hr := mergeK_rw h3
      have hr' := mergeK_rw h3'
      exact hH.inj id id' p p' x h1 h1' (hr.1.1 ▸ hrw) (hr'.1.2 ▸ hl) hi hi'
    · obtain ⟨p, q, h1, h2, h3⟩ := mergeT_get hB
      have hr := mergeK_rw h3
      exact ⟨id, p, h1, hr.1.1 ▸ hrw, hx⟩
    · obtain ⟨p, q, h1, h2, h3⟩ := mergeT_get hB
      have hr := mergeK_rw h3
      obtain ⟨y, o, g1, g2, g3⟩ := hH.blk id q h2 (hr.2.2 ▸ hl)
      exact ⟨y, o, g1, g2, (mergeK_ok hF h3).2 hc g3⟩
    · obtain ⟨p, q, h1, h2, h3⟩ := mergeT_get hB
      obtain ⟨p', q', h1', h2', h3'⟩ := mergeT_get hB'
      have hr := mergeK_rw h3
      have hr' := mergeK_rw h3'
      exact hH.inj id id' q q' x h2 h2' (hr.2.1 ▸ hrw) (hr'.2.2 ▸ hl) hi hi'
    · obtain ⟨p, q, h1, h2, h3⟩ := mergeT_get hB
      have hr := mergeK_rw h3
      exact ⟨id, q, h2, hr.2.1 ▸ hrw, hx⟩
  · cases hm

theorem mergeSt_ok (hF : F.ok ρ) {n0 : Nat} {a b s : St} (hm : mergeSt F c n0 a b = some s) :
    ((c.ev ρ).bool = true → (∀ {x : Act} {w : World}, Rep m ρ a x w → Rep m ρ s x w) ∧ ∀ y, Fp m s.heap y → Fp m a.heap y) ∧ ((c.ev ρ).bool = false → (∀ {x : Act} {w : World}, Rep m ρ b x w → Rep m ρ s x w) ∧ ∀ y, Fp m s.heap y → Fp m b.heap y) := by
  unfold mergeSt at hm
  split at hm
  · rename_i hsz
    simp only [Option.map_eq_some_iff] at hm
    obtain ⟨h, hh, rfl⟩ := hm
    have := mergeH_ok (m := m) hF hh
    refine ⟨fun hc => ⟨fun {x w} hR => ⟨⟨fun i d hd => ?_⟩, hR.size, (this.1 hc).1 hR.heap, fun id hid => hR.fresh id (by simp only at hid; omega), hR.dfs⟩, (this.1 hc).2⟩,
      fun hc => ⟨fun {x w} hR => ⟨⟨fun i d hd => ?_⟩, by simp only; rw [hsz.1]; exact hR.size, (this.2 hc).1 hR.heap, fun id hid => hR.fresh id (by simp only at hid; omega), by simp only; rw [dfsEq_eq hsz.2]; exact hR.dfs⟩, (this.2 hc).2⟩⟩
    · obtain ⟨p, q, h1, h2, h3⟩ := mergeT_get hd
      obtain ⟨v, hv, hr⟩ := hR.tmps.get i p h1
      exact ⟨v, hv, (mergeD_ok hF h3).1 hc hr⟩
    · obtain ⟨p, q, h1, h2, h3⟩ := mergeT_get hd
      obtain ⟨v, hv, hr⟩ := hR.tmps.get i q h2
      exact ⟨v, hv, (mergeD_ok hF h3).2 hc hr⟩
  · cases hm
end
end Go.Eng
