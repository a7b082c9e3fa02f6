/-
  The operators.
-/
import Derived.Test.YtgielkefgliiiaaEngD
namespace Go.Eng

section
variable (P : Program) (F : Facts)

def intBinD (op : BinOp) (k : IntKind) (a b : E) : Option DV :=
  match op with
  | .add => some (.int k (rwE F (wrapI F k (addI a b))))
  | .sub => some (.int k (rwE F (wrapI F k (subI a b))))
  | .mul => some (.int k (rwE F (wrapI F k (mulI a b))))
  | .quo => if (E.bi .eqi b (.li 0)).dec F = some false then some (.int k (rwE F (wrapI F k (lit2 .tdiv a b)))) else none
  | .rem => if (E.bi .eqi b (.li 0)).dec F = some false then some (.int k (rwE F (lit2 .tmod a b))) else none
  | .and | .or | .xor | .andNot => some (.int k (rwE F (lit2 (.bits op k) a b)))
  | .eql => some (.bool (boolE F (.bi .eqi a b)))
  | .neq => some (.bool (notB (boolE F (.bi .eqi a b))))
  | .lss => some (.bool (boolE F (.bi .lt a b)))
  | .gtr => some (.bool (boolE F (.bi .lt b a)))
  | .leq => some (.bool (notB (boolE F (.bi .lt b a))))
  | .geq => some (.bool (notB (boolE F (.bi .lt a b))))
  | _ => none

/-- The count of a shift, at most the width. -/
def shCount (k : IntKind) (b : E) : E :=
  match b with
  | .li n => .li (min n.toNat k.bits : Nat)
  | b => .tr .ite (.bi .lt b (.li k.bits)) b (.li k.bits)
def pow2I (e : E) : E := match e with | .li n => .li (2 ^ n.toNat) | e => .un .pow2 e

def shiftD (op : BinOp) (k : IntKind) (a b : E) : Option DV :=
  if (E.bi .lt b (.li 0)).dec F = some false then
    match op with
    | .shl => some (.int k (rwE F (wrapI F k (mulI a (pow2I (shCount k b))))))
    | .shr => some (.int k (rwE F (lit2 .fdiv a (pow2I (shCount k b)))))
    | _ => none
  else none

/-- No string that an expression makes is longer. -/
def lenUB (F : Facts) : E → Option Int
  | .ls x => some x.size
  | .un .chr _ => some 1
  | .bi .cat a b => match lenUB F a, lenUB F b with
    | some x, some y => some (x + y)
    | _, _ => none
  | .tr .sub x _ _ => lenUB F x
  | .tr .ite _ a b => match lenUB F a, lenUB F b with
    | some x, some y => some (max x y)
    | _, _ => none
  | e => ((E.un .len e).rng F).2

def strBinD (op : BinOp) (a b : E) : Option DV :=
  match op with
  | .add => match lenUB F a, lenUB F b with
    | some x, some y => if x + y ≤ 9223372036854775807 then some (.str (rwE F (catS a b))) else none
    | _, _ => none
  | .eql => some (.bool (boolE F (.bi .eqs a b)))
  | .neq => some (.bool (notB (boolE F (.bi .eqs a b))))
  | .lss => some (.bool (boolE F (.bi .lts a b)))
  | .geq => some (.bool (notB (boolE F (.bi .lts a b))))
  | .leq => some (.bool (boolE F (orE (.bi .lts a b) (.bi .eqs a b))))
  | .gtr => some (.bool (notB (boolE F (orE (.bi .lts a b) (.bi .eqs a b)))))
  | _ => none

def eqG (t : TypeId) (cx : Bool) (x y : DV) : Bool :=
  match x, y with
  | .nili, .nili => cx
  | .agg _, .agg _ => !P.eqGuardType P.depth t
  | _, _ => true

def binD (op : BinOp) (t : TypeId) (cx : Bool) (x y : DV) : Option DV :=
  match x, y with
  | .int k a, .int k' b => match op with
    | .shl => shiftD F .shl k a b
    | .shr => shiftD F .shr k a b
    | op => if k = k' then intBinD F op k a b else none
  | .str a, .str b => strBinD F op a b
  | x, y => match op with
    | .eql => if eqG P t cx x y then (eqD P F 100 t x y).map .bool else none
    | .neq => if eqG P t cx x y then (eqD P F 100 t x y).map fun e => .bool (notB e) else none
    | _ => none

def unD (op : UnOp) (x : DV) : Option DV :=
  match op, x with
  | .neg, .int k a => some (.int k (rwE F (wrapI F k (subI (.li 0) a))))
  | .xor, .int k a => some (.int k (rwE F (lit2 (.bits .xor k) (.li (if k.signed then -1 else k.max)) a)))
  | .not, .bool e => some (.bool (notB e))
  | _, _ => none

variable {P} {F}

theorem dec_false {ρ : Env} (hF : F.ok ρ) {e : E} (h : e.dec F = some false) : (e.ev ρ).bool = false := E.dec_sound hF h
theorem ne_zero {ρ : Env} (hF : F.ok ρ) {b : E} (h : (E.bi .eqi b (.li 0)).dec F = some false) : (b.ev ρ).int ≠ 0 := by
  have := E.dec_sound hF h
  exact of_decide_eq_false this
theorem nonneg_of {ρ : Env} (hF : F.ok ρ) {b : E} (h : (E.bi .lt b (.li 0)).dec F = some false) : 0 ≤ (b.ev ρ).int := by
  have := E.dec_sound hF h
  exact Int.not_lt.1 (of_decide_eq_false this)

theorem leq_lt (x y : Int) : decide (x ≤ y) = !decide (y < x) := by
  rw [← decide_not]; exact decide_eq_decide.2 Int.not_lt.symm

theorem intBinD_sound {m : Emb} {ρ : Env} (hF : F.ok ρ) {op : BinOp} {k : IntKind} {a b : E} {d : DV} (h : intBinD F op k a b = some d) (t : TypeId) (w : World) (hs : op ≠ .shl) (hr : op ≠ .shr) :
    ∃ v, (binOp op t (.int k (a.ev ρ).int) (.int k (b.ev ρ).int)).run P w = .ok v w ∧ d.R m ρ v := by
  cases op <;> simp only [intBinD, ne_eq, not_true_eq_false, reduceCtorEq] at h hs hr
  case add => cases h; exact ⟨_, by simp [binOp, Op.intArith]; rfl, by simp only [DV.R]; rw [rwE_ev hF, wrapI_int hF, addI_int]⟩
  case sub => cases h; exact ⟨_, by simp [binOp, Op.intArith]; rfl, by simp only [DV.R]; rw [rwE_ev hF, wrapI_int hF, subI_int]⟩
  case mul => cases h; exact ⟨_, by simp [binOp, Op.intArith]; rfl, by simp only [DV.R]; rw [rwE_ev hF, wrapI_int hF, mulI_int]⟩
  case quo =>
    split at h
    · rename_i hz; cases h
      exact ⟨_, by simp [binOp, Op.intDiv, ne_zero hF hz]; rfl, by simp only [DV.R]; rw [rwE_ev hF, wrapI_int hF, lit2_ev]; rfl⟩
    · cases h
  case rem =>
    split at h
    · rename_i hz; cases h
      exact ⟨_, by simp [binOp, Op.intDiv, ne_zero hF hz]; rfl, by simp only [DV.R]; rw [rwE_ev hF, lit2_ev]; rfl⟩
    · cases h
  case and => cases h; exact ⟨_, by simp [binOp, Op.intBits]; rfl, by simp only [DV.R]; rw [rwE_ev hF, lit2_ev]; rfl⟩
  case or => cases h; exact ⟨_, by simp [binOp, Op.intBits]; rfl, by simp only [DV.R]; rw [rwE_ev hF, lit2_ev]; rfl⟩
  case xor => cases h; exact ⟨_, by simp [binOp, Op.intBits]; rfl, by simp only [DV.R]; rw [rwE_ev hF, lit2_ev]; rfl⟩
  case andNot => cases h; exact ⟨_, by simp only [binOp, Op.intBits, ne_eq, not_true_eq_false, if_false]; rfl, by simp only [DV.R]; rw [rwE_ev hF, lit2_ev]; rfl⟩
  case eql => cases h; exact ⟨_, by simp [binOp, Op.intCmp]; rfl, by simp only [DV.R]; rw [boolE_bool hF]; simp [E.ev, B2.ev]; rfl⟩
  case neq => cases h; exact ⟨_, by simp [binOp, Op.intCmp]; rfl, by simp only [DV.R]; rw [notB_bool, boolE_bool hF]; simp [E.ev, B2.ev, bne]; rfl⟩
  case lss => cases h; exact ⟨_, by simp [binOp, Op.intCmp]; rfl, by simp only [DV.R]; rw [boolE_bool hF]; simp [E.ev, B2.ev]⟩
  case gtr => cases h; exact ⟨_, by simp [binOp, Op.intCmp]; rfl, by simp only [DV.R]; rw [boolE_bool hF]; simp [E.ev, B2.ev]⟩
  case leq => cases h; exact ⟨_, by simp [binOp, Op.intCmp]; rfl, by simp only [DV.R]; rw [notB_bool, boolE_bool hF, leq_lt]; rfl⟩
  case geq => cases h; exact ⟨_, by simp [binOp, Op.intCmp]; rfl, by simp only [DV.R]; rw [notB_bool, boolE_bool hF, leq_lt]; rfl⟩

theorem shCount_int (ρ : Env) (k : IntKind) (b : E) (h : 0 ≤ (b.ev ρ).int) : ((shCount k b).ev ρ).int = ((min (b.ev ρ).int.toNat k.bits : Nat) : Int) := by
  unfold shCount
  split
  · rfl
  · simp only [E.ev, B3.ev, B2.ev, Sc.bool_B, Sc.int_I]
    by_cases h1 : (b.ev ρ).int < (k.bits : Int)
    · simp only [h1, decide_true, if_true]; omega
    · simp only [h1, decide_false, Bool.false_eq_true, if_false, Sc.int_I]; omega

theorem pow2I_int (ρ : Env) (e : E) : ((pow2I e).ev ρ).int = 2 ^ (e.ev ρ).int.toNat := by
  unfold pow2I
  split <;> rfl

theorem shiftD_sound {m : Emb} {ρ : Env} (hF : F.ok ρ) {op : BinOp} {k k' : IntKind} {a b : E} {d : DV} (h : shiftD F op k a b = some d) (w : World) :
    ∃ v, (Op.shift op k (a.ev ρ).int k' (b.ev ρ).int).run P w = .ok v w ∧ d.R m ρ v := by
  unfold shiftD at h
  split at h
  · rename_i hb
    have h0 := nonneg_of hF hb
    have hn : ¬ (b.ev ρ).int < 0 := by omega
    split at h
    · cases h
      refine ⟨_, by simp [Op.shift, hn]; rfl, ?_⟩
      simp only [DV.R]
      rw [rwE_ev hF, wrapI_int hF, mulI_int, pow2I_int, shCount_int ρ k b h0, Int.toNat_natCast]
    · cases h
      refine ⟨_, by simp [Op.shift, hn]; rfl, ?_⟩
      simp only [DV.R]
      rw [rwE_ev hF, lit2_ev]
      simp only [B2.ev, Sc.int_I]
      rw [pow2I_int, shCount_int ρ k b h0, Int.toNat_natCast]
    · cases h
  · cases h

theorem toList_beq (x y : ByteArray) : (x.toList == y.toList) = decide (x = y) := by
  rw [ByteArray.toList_eq, ByteArray.toList_eq, Bool.eq_iff_iff]
  simp [ext_str]

theorem lenUB_sound {ρ : Env} (hF : F.ok ρ) : ∀ {e : E} {n : Int}, lenUB F e = some n → ((e.ev ρ).str.size : Int) ≤ n := by
  have dflt : ∀ {e : E} {n : Int}, ((E.un .len e).rng F).2 = some n → ((e.ev ρ).str.size : Int) ≤ n := fun {e n} h => (E.rng_has hF (E.un .len e)).2 n h
  intro e
  induction e with
  | ls x => intro n h; cases h; exact Int.le_refl _
  | vr k => intro n h; exact dflt h
  | li k => intro n h; exact dflt h
  | lb k => intro n h; exact dflt h
  | un o a _ =>
    intro n h
    cases o
    case chr => cases h; exact Int.le_refl _
    all_goals exact dflt h
  | bi o a b iha ihb =>
    intro n h
    cases o
    case cat =>
      simp only [lenUB] at h
      split at h
      · rename_i x y hx hy
        cases h
        have h1 := iha hx; have h2 := ihb hy
        simp only [E.ev, B2.ev, Sc.str_S, ByteArray.size_append]; omega
      · cases h
    all_goals exact dflt h
  | tr o a b c iha ihb ihc =>
    intro n h
    cases o
    case sub =>
      simp only [lenUB] at h
      have h1 := iha h
      simp only [E.ev, B3.ev, Sc.str_S, ByteArray.size_extract]; omega
    case ite =>
      simp only [lenUB] at h
      split at h
      · rename_i x y hx hy
        cases h
        have h1 := ihb hx; have h2 := ihc hy
        simp only [E.ev, B3.ev]
        split <;> omega
      · cases h
    all_goals exact dflt h

theorem strBinD_sound {m : Emb} {ρ : Env} (hF : F.ok ρ) {op : BinOp} {a b : E} {d : DV} (h : strBinD F op a b = some d) (t : TypeId) (w : World) :
    ∃ v, (binOp op t (.string (a.ev ρ).str) (.string (b.ev ρ).str)).run P w = .ok v w ∧ d.R m ρ v := by
  cases op <;> simp only [strBinD, reduceCtorEq] at h
  case add =>
    split at h
    · rename_i x y hx hy
      split at h
      · rename_i hle
        cases h
        have h1 := lenUB_sound hF hx
        have h2 := lenUB_sound hF hy
        have hn : ¬ (IntKind.i64.max < ((a.ev ρ).str.size : Int) + ((b.ev ρ).str.size : Int)) := by
          simp [IntKind.max, IntKind.signed, IntKind.bits]; omega
        exact ⟨.string ((a.ev ρ).str ++ (b.ev ρ).str), by simp only [binOp, Op.stringOp]; rw [if_neg (by simpa using hn)]; rfl, by simp only [DV.R]; rw [rwE_ev hF, catS_str]⟩
      · cases h
    · cases h
  case eql => cases h; exact ⟨_, by simp [binOp, Op.stringOp]; rfl, by simp only [DV.R]; rw [boolE_bool hF, toList_beq]; rfl⟩
  case neq => cases h; exact ⟨_, by simp [binOp, Op.stringOp]; rfl, by simp only [DV.R]; rw [notB_bool, boolE_bool hF, toList_beq]; rfl⟩
  case lss => cases h; exact ⟨_, by simp [binOp, Op.stringOp]; rfl, by simp only [DV.R]; rw [boolE_bool hF]; rfl⟩
  case geq => cases h; exact ⟨_, by simp [binOp, Op.stringOp]; rfl, by simp only [DV.R]; rw [notB_bool, boolE_bool hF]; rfl⟩
  case leq => cases h; exact ⟨_, by simp [binOp, Op.stringOp]; rfl, by simp only [DV.R]; rw [boolE_bool hF, orE_bool, toList_beq]; rfl⟩
  case gtr => cases h; exact ⟨_, by simp only [binOp, Op.stringOp]; rfl, by simp only [DV.R]; rw [notB_bool, boolE_bool hF, orE_bool, toList_beq]; rfl⟩

theorem eqGuard_other {op : BinOp} (h1 : op ≠ .eql) (h2 : op ≠ .neq) (t : TypeId) (x y : Operand) (vx vy : Value) (w : World) : (eqGuard op t x y vx vy).run P w = .ok () w := by
  cases op <;> first | rfl | exact absurd rfl h1 | exact absurd rfl h2

theorem eqG_run {m : Emb} {ρ : Env} {op : BinOp} (hop : op = .eql ∨ op = .neq) {t : TypeId} {x y : Operand} {cx : Bool} {dx dy : DV} {vx vy : Value} (hc : cx = true → (x matches .const _) = true ∨ (y matches .const _) = true)
    (h : eqG P t cx dx dy = true) (hx : dx.R m ρ vx) (hy : dy.R m ρ vy) (w : World) : (eqGuard op t x y vx vy).run P w = .ok () w := by
  have e1 : (eqGuard op t x y vx vy) = eqGuard .eql t x y vx vy := by rcases hop with rfl | rfl <;> rfl
  rw [e1]
  cases dx <;> simp only [DV.R] at hx <;>
    first
      | (obtain ⟨z1, z2, rfl, z3⟩ := hx; rfl)
      | (obtain ⟨z1, rfl, z3⟩ := hx; rfl)
      | (obtain ⟨z1, z3, rfl⟩ := hx; rfl)
      | (obtain ⟨z1, z3, rfl, _⟩ := hx; rfl)
      | (subst hx; rfl)
      | skip
  case agg l =>
    obtain ⟨z1, rfl, z3⟩ := hx
    cases dy <;> simp only [DV.R] at hy <;>
      first
        | (obtain ⟨u1, u2, rfl, u3⟩ := hy; rfl)
        | (obtain ⟨u1, rfl, u3⟩ := hy; rfl)
        | (obtain ⟨u1, u3, rfl⟩ := hy; rfl)
        | (obtain ⟨u1, u3, rfl, _⟩ := hy; rfl)
        | (subst hy; rfl)
        | skip
    obtain ⟨u1, rfl, u3⟩ := hy
    simp [eqG] at h
    exact run_eqGuard_agg w .eql t x y z1 u1 h
  case nili =>
    subst hx
    cases dy <;> simp only [DV.R] at hy <;>
      first
        | (obtain ⟨u1, u2, rfl, u3⟩ := hy; rfl)
        | (obtain ⟨u1, rfl, u3⟩ := hy; rfl)
        | (obtain ⟨u1, u3, rfl⟩ := hy; rfl)
        | (obtain ⟨u1, u3, rfl, _⟩ := hy; rfl)
        | (subst hy; rfl)
        | skip
    subst hy
    simp only [eqG] at h
    rcases hc h with hh | hh
    · cases x <;> simp at hh; simp [eqGuard]
    · cases y <;> simp at hh; simp [eqGuard]

theorem eqOp_run {m : Emb} {ρ : Env} (hF : F.ok ρ) {t : TypeId} {dx dy : DV} {vx vy : Value} {e : E} (h : eqD P F 100 t dx dy = some e) (hx : dx.R m ρ vx) (hy : dy.R m ρ vy) (w : World) :
    (Op.equal t vx vy).run P w = .ok (e.ev ρ).bool w := eqD_sound hF 100 9900 w t dx dy e vx vy h hx hy

end

end Go.Eng
