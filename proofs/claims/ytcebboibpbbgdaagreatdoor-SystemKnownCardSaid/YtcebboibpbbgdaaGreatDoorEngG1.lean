/-
  The operations that only reckon: what they make of symbolic values.
-/
import Derived.Test.YtcebboibpbbgdaaGreatDoorEngG0
import Derived.WalkSpells
import Derived.WalkLawsBesides
import Derived.Laws.StructEq
import Derived.ChangeKeysEq
namespace Go.Eng

/-- A constant as a symbolic value. -/
def DV.ofV : Nat → Value → Option DV
  | 0, _ => none
  | n + 1, v => match v with
    | .int k z => some (.int k (.li z))
    | .bool b => some (.bool (.lb b))
    | .string s => some (.str (.ls s))
    | .pointer none => some .nilp
    | .slice none 0 0 => some .nils
    | .map none => some .nilm
    | .nilFunc => some .nilf
    | .nilIface => some .nili
    | .agg a => (a.toList.mapM (DV.ofV n)).map .agg
    | .tuple a => (a.toList.mapM (DV.ofV n)).map .tup
    | .iface t v => (DV.ofV n v).map (.ifc t)
    | .func f x y => match x.toList.mapM (DV.ofV n), y.toList.mapM (DV.ofV n) with
      | some a, some b => some (.fn f a b)
      | _, _ => none
    | _ => none

theorem RL_of_mapM {m : Emb} {ρ : Env} {f : Value → Option DV} (hf : ∀ v d, f v = some d → d.R m ρ v) : ∀ {l : List Value} {r : List DV}, l.mapM f = some r → DV.RL m ρ r l
  | [], r, h => by simp at h; subst h; simp [DV.RL]
  | v :: l, r, h => by
    simp only [List.mapM_cons, Option.bind_eq_bind, Option.pure_def, Option.bind_eq_some_iff] at h
    obtain ⟨d, hd, rs, hr, he⟩ := h
    simp at he; subst he
    simp only [DV.RL]
    exact ⟨v, l, rfl, hf _ _ hd, RL_of_mapM hf hr⟩

theorem DV.ofV_R (m : Emb) (ρ : Env) : ∀ (n : Nat) {v : Value} {d : DV}, DV.ofV n v = some d → d.R m ρ v := by
  intro n
  induction n with
  | zero => intro v d h; simp [DV.ofV] at h
  | succ n ih =>
    intro v d h
    simp only [DV.ofV] at h
    split at h
    · cases h; rfl
    · cases h; rfl
    · cases h; rfl
    · cases h; rfl
    · cases h; rfl
    · cases h; rfl
    · cases h; rfl
    · cases h; rfl
    · simp only [Option.map_eq_some_iff] at h
      obtain ⟨r, hr, rfl⟩ := h
      simp only [DV.R]
      exact ⟨_, rfl, RL_of_mapM (fun v d h => ih h) hr⟩
    · simp only [Option.map_eq_some_iff] at h
      obtain ⟨r, hr, rfl⟩ := h
      simp only [DV.R]
      exact ⟨_, rfl, RL_of_mapM (fun v d h => ih h) hr⟩
    · simp only [Option.map_eq_some_iff] at h
      obtain ⟨r, hr, rfl⟩ := h
      simp only [DV.R]
      exact ⟨_, rfl, ih hr⟩
    · split at h
      · rename_i h1 h2
        cases h
        simp only [DV.R]
        exact ⟨_, _, rfl, RL_of_mapM (fun v d h => ih h) h1, RL_of_mapM (fun v d h => ih h) h2⟩
      · cases h
    · cases h

/-- The cells of a value. -/
def DV.cells : DV → List DV
  | .agg l => l
  | d => [d]

theorem DV.R.cells {m : Emb} {ρ : Env} {d : DV} {v : Value} (h : d.R m ρ v) : DV.RL m ρ d.cells v.cells.toList := by
  cases d with
  | agg l => simp only [DV.R] at h; obtain ⟨vs, rfl, hl⟩ := h; exact hl
  | anyi =>
    have h' := h
    simp only [DV.R] at h
    simp only [DV.cells, DV.RL]
    rcases h with rfl | ⟨t, x, rfl⟩ <;> exact ⟨_, [], rfl, h', rfl⟩
  | _ =>
    have h' := h
    simp only [DV.R] at h
    simp only [DV.cells, DV.RL]
    first
      | (subst h; exact ⟨_, [], rfl, h', rfl⟩)
      | (obtain ⟨x, y, rfl, hr⟩ := h; exact ⟨_, [], rfl, h', rfl⟩)
      | (obtain ⟨x, rfl, hr⟩ := h; exact ⟨_, [], rfl, h', rfl⟩)
      | (obtain ⟨x, hr, rfl⟩ := h; exact ⟨_, [], rfl, h', rfl⟩)
      | (obtain ⟨x, hr, rfl, _⟩ := h; exact ⟨_, [], rfl, h', rfl⟩)

def andE (a b : E) : E :=
  match a, b with
  | .lb true, b => b
  | .lb false, _ => .lb false
  | a, .lb true => a
  | _, .lb false => .lb false
  | a, b => .bi .and a b

theorem andE_bool (ρ : Env) (a b : E) : ((andE a b).ev ρ).bool = ((a.ev ρ).bool && (b.ev ρ).bool) := by
  unfold andE
  split <;> simp [E.ev, B2.ev]

def orE (a b : E) : E :=
  match a, b with
  | .lb false, b => b
  | .lb true, _ => .lb true
  | a, .lb false => a
  | _, .lb true => .lb true
  | a, b => .bi .or a b

theorem orE_bool (ρ : Env) (a b : E) : ((orE a b).ev ρ).bool = ((a.ev ρ).bool || (b.ev ρ).bool) := by
  unfold orE
  split <;> simp [E.ev, B2.ev]

section
variable (P : Program) (F : Facts)

def aggT (t : TypeId) : Option Bool :=
  match P.underlying t with
  | some (.struct _) | some (.array _ _) => some true
  | some _ => some false
  | none => none

def partD (t : TypeId) (l : List DV) (off : Nat) : Option DV :=
  match aggT P t, P.info? t with
  | some true, some i => if off + i.size ≤ l.length then some (.agg ((l.drop off).take i.size)) else none
  | some false, _ => l[off]?
  | _, _ => none

def eqFieldsD (rec : TypeId → DV → DV → Option E) (xs ys : List DV) : List Field → Option E
  | [] => some (.lb true)
  | f :: r => if f.name = "_" then eqFieldsD rec xs ys r else
    match partD P f.type xs f.offset, partD P f.type ys f.offset with
    | some a, some b => match rec f.type a b with
      | some e => (eqFieldsD rec xs ys r).map (andE e)
      | none => none
    | _, _ => none

def eqItemsD (rec : TypeId → DV → DV → Option E) (e : TypeId) (c : Nat) (xs ys : List DV) : List Nat → Option E
  | [] => some (.lb true)
  | i :: r =>
    match partD P e xs (i * c), partD P e ys (i * c) with
    | some a, some b => match rec e a b with
      | some x => (eqItemsD rec e c xs ys r).map (andE x)
      | none => none
    | _, _ => none

/-- '==' of two values of one type. -/
def eqD : Nat → TypeId → DV → DV → Option E
  | 0, _, _, _ => none
  | n + 1, t, x, y =>
    match P.underlying t, x, y with
    | some .bool, .bool a, .bool b => some (boolE F (.bi .eqb a b))
    | some (.int _), .int k a, .int k' b => if k = k' then some (boolE F (.bi .eqi a b)) else none
    | some .string, .str a, .str b => some (boolE F (.bi .eqs a b))
    | some (.pointer _), .nilp, .nilp => some (.lb true)
    | some (.pointer _), .nilp, .ptr _ _ => some (.lb false)
    | some (.pointer _), .ptr _ _, .nilp => some (.lb false)
    | some (.pointer _), .nilp, .gptr _ _ => some (.lb false)
    | some (.pointer _), .gptr _ _, .nilp => some (.lb false)
    | some (.interface _), .nili, .nili => some (.lb true)
    | some (.interface _), .nili, .ifc _ _ => some (.lb false)
    | some (.interface _), .ifc _ _, .nili => some (.lb false)
    | some (.interface _), .ifc tx a, .ifc ty b => if tx = ty then
        match P.info? tx with
        | some i => if i.comparable then eqD n tx a b else none
        | none => none
      else some (.lb false)
    | some (.struct fs), .agg xs, .agg ys => if P.stoodInHeld t then none else eqFieldsD P (eqD n) xs ys fs.toList
    | some (.array len e), .agg xs, .agg ys => match P.info? e with
      | some i => eqItemsD P (eqD n) e i.size xs ys (List.range len)
      | none => none
    | some (.slice _), .nils, .nils => some (.lb true)
    | some (.slice _), .nils, .slc _ _ _ _ => some (.lb false)
    | some (.slice _), .slc _ _ _ _, .nils => some (.lb false)
    | some (.map _ _), .nilm, .nilm => some (.lb true)
    | some (.map _ _), .nilm, .mp _ => some (.lb false)
    | some (.map _ _), .mp _, .nilm => some (.lb false)
    | some (.func _ _ _), .nilf, .nilf => some (.lb true)
    | some (.func _ _ _), .nilf, .fn _ _ _ => some (.lb false)
    | some (.func _ _ _), .fn _ _ _, .nilf => some (.lb false)
    | _, _, _ => none

variable {P} {F}

theorem partD_sound {m : Emb} {ρ : Env} {w : World} {t : TypeId} {l : List DV} {off : Nat} {d : DV} (h : partD P t l off = some d) {vs : Array Value} (hl : DV.RL m ρ l vs.toList) :
    ∃ v, (part t vs off).run P w = .ok v w ∧ d.R m ρ v := by
  unfold partD at h
  split at h
  · rename_i i ha hi
    split at h
    · rename_i hle
      cases h
      unfold aggT at ha
      have hlen := hl.length
      refine ⟨.agg (vs.extract off (off + i.size)), ?_, ?_⟩
      · have hu : ∃ d, P.underlying t = some d ∧ (match d with | .struct _ | .array _ _ => true | _ => false) = true := by
          split at ha <;> simp_all
        obtain ⟨d, hu, hd⟩ := hu
        cases d <;> simp at hd <;> simp [part, isAgg, run_underlying hu, sizeOf, typeInfo, hi]
      · simp only [DV.R]
        refine ⟨_, rfl, DV.RL.of_get ?_ ?_⟩
        · simp at hlen ⊢; omega
        · intro j d hd
          rw [List.getElem?_take] at hd
          split at hd
          · rename_i hj
            rw [List.getElem?_drop] at hd
            obtain ⟨v, hv, hr⟩ := hl.get hd
            refine ⟨v, ?_, hr⟩
            rw [Array.toList_extract]
            simp only [List.extract_eq_take_drop]
            rw [List.getElem?_take, if_pos (by omega), List.getElem?_drop]; exact hv
          · cases hd
    · cases h
  · rename_i ha
    unfold aggT at ha
    obtain ⟨v, hv, hr⟩ := hl.get h
    refine ⟨v, ?_, hr⟩
    have hv' : vs[off]? = some v := by simpa using hv
    have hu : ∃ d, P.underlying t = some d ∧ (match d with | .struct _ | .array _ _ => true | _ => false) = false := by
      split at ha <;> simp_all
    obtain ⟨d, hu, hd⟩ := hu
    cases d <;> simp at hd <;> simp [part, isAgg, run_underlying hu, hv']
  · cases h

/-- What 'eqD' tells is what '==' answers. -/
def EqOk (P : Program) (m : Emb) (ρ : Env) (rec : TypeId → DV → DV → Option E) (d : Nat) : Prop :=
  ∀ (w : World) (t : TypeId) (x y : DV) (e : E) (vx vy : Value), rec t x y = some e → x.R m ρ vx → y.R m ρ vy → (Op.equalIn d t vx vy).run P w = .ok (e.ev ρ).bool w

theorem eqFieldsD_sound {m : Emb} {ρ : Env} {rec : TypeId → DV → DV → Option E} {d : Nat} (hrec : EqOk P m ρ rec d) {xs ys : List DV} {vx vy : Array Value} (hx : DV.RL m ρ xs vx.toList) (hy : DV.RL m ρ ys vy.toList) (w : World) :
    ∀ (fs : List Field) (e : E), eqFieldsD P rec xs ys fs = some e → (Op.eqFields d vx vy fs).run P w = .ok (e.ev ρ).bool w
  | [], e, h => by simp [eqFieldsD] at h; subst h; simp [Op.eqFields, E.ev]
  | f :: fs, e, h => by
    simp only [eqFieldsD] at h
    split at h
    · rename_i hn
      have ih := eqFieldsD_sound hrec hx hy w fs e h
      simp only [Op.eqFields, hn, ne_eq, not_true_eq_false, if_false]
      exact ih
    · rename_i hn
      split at h
      · rename_i a b ha hb
        split at h
        · rename_i x hx'
          simp only [Option.map_eq_some_iff] at h
          obtain ⟨r, hr, rfl⟩ := h
          obtain ⟨va, hva, ra⟩ := partD_sound (w := w) ha hx
          obtain ⟨vb, hvb, rb⟩ := partD_sound (w := w) hb hy
          have he := hrec w f.type a b x va vb hx' ra rb
          have ih := eqFieldsD_sound hrec hx hy w fs r hr
          simp only [Op.eqFields, ne_eq, hn, not_false_eq_true, if_true, Sem.run_bind, hva, hvb, he, Result.andThen_ok, andE_bool]
          cases hb' : (x.ev ρ).bool
          · simp
          · simp [ih]
        · cases h
      · cases h

theorem eqItemsD_sound {m : Emb} {ρ : Env} {rec : TypeId → DV → DV → Option E} {d : Nat} (hrec : EqOk P m ρ rec d) {xs ys : List DV} {vx vy : Array Value} (hx : DV.RL m ρ xs vx.toList) (hy : DV.RL m ρ ys vy.toList) (w : World) (t : TypeId) (c : Nat) :
    ∀ (is : List Nat) (e : E), eqItemsD P rec t c xs ys is = some e → (Op.eqItems d t c vx vy is).run P w = .ok (e.ev ρ).bool w
  | [], e, h => by simp [eqItemsD] at h; subst h; simp [Op.eqItems, E.ev]
  | i :: is, e, h => by
    simp only [eqItemsD] at h
    split at h
    · rename_i a b ha hb
      split at h
      · rename_i x hx'
        simp only [Option.map_eq_some_iff] at h
        obtain ⟨r, hr, rfl⟩ := h
        obtain ⟨va, hva, ra⟩ := partD_sound (w := w) ha hx
        obtain ⟨vb, hvb, rb⟩ := partD_sound (w := w) hb hy
        have he := hrec w t a b x va vb hx' ra rb
        have ih := eqItemsD_sound hrec hx hy w t c is r hr
        simp only [Op.eqItems, Sem.run_bind, hva, hvb, he, Result.andThen_ok, andE_bool]
        cases hb' : (x.ev ρ).bool
        · simp
        · simp [ih]
      · cases h
    · cases h

theorem beq_bytes (a b : ByteArray) : (a == b) = decide (a = b) := by
  have h1 : (a == b) = (a.data == b.data) := by cases a; cases b; rfl
  rw [h1, Bool.eq_iff_iff]
  cases a; cases b
  simp

set_option maxHeartbeats 4000000 in
theorem eqD_sound {m : Emb} {ρ : Env} (hF : F.ok ρ) : ∀ (n k : Nat), EqOk P m ρ (eqD P F n) (n + k) := by
  intro n
  induction n with
  | zero => intro k w t x y e vx vy h; simp [eqD] at h
  | succ n ih =>
    intro k w t x y e vx vy h hx hy
    rw [show n + 1 + k = (n + k) + 1 by omega]
    simp only [eqD] at h
    split at h
    · rename_i hu; cases h; simp only [DV.R] at hx hy; subst hx; subst hy
      rw [boolE_bool hF]
      simp only [Op.equalIn, Sem.run_bind, run_underlying hu, Result.andThen_ok, E.ev, B2.ev, Sc.bool_B]
      simp
      congr 1
    · rename_i hu
      split at h
      · rename_i hk; cases h; simp only [DV.R] at hx hy; subst hx; subst hy
        rw [boolE_bool hF]
        simp only [Op.equalIn, Sem.run_bind, run_underlying hu, Result.andThen_ok, E.ev, B2.ev, Sc.bool_B, hk, if_true]
        simp
        congr 1
      · cases h
    · rename_i hu; cases h; simp only [DV.R] at hx hy; subst hx; subst hy
      rw [boolE_bool hF]
      simp only [Op.equalIn, Sem.run_bind, run_underlying hu, Result.andThen_ok, E.ev, B2.ev, Sc.bool_B, beq_bytes]
      simp
    · rename_i hu; cases h; simp only [DV.R] at hx hy; subst hx; subst hy
      simp [Op.equalIn, run_underlying hu, E.ev]
    · rename_i hu; cases h; simp only [DV.R] at hx hy; obtain ⟨b, _, rfl⟩ := hy; subst hx
      simp [Op.equalIn, run_underlying hu, E.ev]
    · rename_i hu; cases h; simp only [DV.R] at hx hy; obtain ⟨b, _, rfl⟩ := hx; subst hy
      simp [Op.equalIn, run_underlying hu, E.ev]
    · rename_i hu; cases h; simp only [DV.R] at hx hy; subst hx; subst hy
      simp [Op.equalIn, run_underlying hu, E.ev]
    · rename_i hu; cases h; simp only [DV.R] at hx hy; subst hx; subst hy
      simp [Op.equalIn, run_underlying hu, E.ev]
    · rename_i hu; cases h; simp only [DV.R] at hx hy; subst hx; subst hy
      simp [Op.equalIn, run_underlying hu, E.ev]
    · rename_i hu; cases h; simp only [DV.R] at hx hy; obtain ⟨b, rfl, _⟩ := hy; subst hx
      simp [Op.equalIn, run_underlying hu, E.ev]
    · rename_i hu; cases h; simp only [DV.R] at hx hy; obtain ⟨b, rfl, _⟩ := hx; subst hy
      simp [Op.equalIn, run_underlying hu, E.ev]
    · rename_i hu
      simp only [DV.R] at hx hy
      obtain ⟨va, rfl, ra⟩ := hx
      obtain ⟨vb, rfl, rb⟩ := hy
      split at h
      · rename_i ht
        subst ht
        split at h
        · rename_i i hi
          split at h
          · rename_i hc
            have := ih k w _ _ _ e va vb h ra rb
            simp [Op.equalIn, run_underlying hu, typeInfo, hi, hc, this]
          · cases h
        · cases h
      · rename_i ht
        cases h
        simp [Op.equalIn, run_underlying hu, ht, E.ev]
    · rename_i fs xs' ys' hu
      split at h
      · cases h
      · rename_i hs
        simp only [DV.R] at hx hy
        obtain ⟨va, rfl, ra⟩ := hx
        obtain ⟨vb, rfl, rb⟩ := hy
        have hfo : P.fieldsOf t = fs := by simp only [Program.fieldsOf, hu]
        rw [run_equalIn_struct w (n + k) t va vb (by rw [hfo]; exact hu) (by simpa using hs)]
        rw [hfo]
        exact eqFieldsD_sound (ih k) ra rb w _ e h
    · rename_i hu
      split at h
      · rename_i i hi
        simp only [DV.R] at hx hy
        obtain ⟨va, rfl, ra⟩ := hx
        obtain ⟨vb, rfl, rb⟩ := hy
        rw [run_equalIn_array w (n + k) va vb hu hi]
        simp only [show ∀ e', P.info? e' = some i → P.cellsOf e' = i.size from fun e' he' => by simp [Program.cellsOf, he'], hi]
        exact eqItemsD_sound (ih k) ra rb w _ _ _ e h
      · cases h
    · rename_i hu; cases h; simp only [DV.R] at hx hy; subst hx; subst hy
      simp [Op.equalIn, run_underlying hu, E.ev]
    · rename_i hu; cases h; simp only [DV.R] at hx hy; obtain ⟨b, _, rfl, _⟩ := hy; subst hx
      simp [Op.equalIn, run_underlying hu, E.ev]
    · rename_i hu; cases h; simp only [DV.R] at hx hy; obtain ⟨b, _, rfl, _⟩ := hx; subst hy
      simp [Op.equalIn, run_underlying hu, E.ev]
    · rename_i hu; cases h; simp only [DV.R] at hx hy; subst hx; subst hy
      simp [Op.equalIn, run_underlying hu, E.ev]
    · rename_i hu; cases h; simp only [DV.R] at hx hy; obtain ⟨b, _, rfl⟩ := hy; subst hx
      simp [Op.equalIn, run_underlying hu, E.ev]
    · rename_i hu; cases h; simp only [DV.R] at hx hy; obtain ⟨b, _, rfl⟩ := hx; subst hy
      simp [Op.equalIn, run_underlying hu, E.ev]
    · rename_i hu; cases h; simp only [DV.R] at hx hy; subst hx; subst hy
      simp [Op.equalIn, run_underlying hu, E.ev]
    · rename_i hu; cases h; simp only [DV.R] at hx hy; obtain ⟨b, _, rfl, _⟩ := hy; subst hx
      simp [Op.equalIn, run_underlying hu, E.ev]
    · rename_i hu; cases h; simp only [DV.R] at hx hy; obtain ⟨b, _, rfl, _⟩ := hx; subst hy
      simp [Op.equalIn, run_underlying hu, E.ev]
    · cases h
end

end Go.Eng

/-
  The operators.
-/
namespace Go.Eng

section
variable (P : Program) (F : Facts)

/-- A quotient and a rest, where the quotient is one number. -/
def quoOne (a b : E) : Option (Int × Int) := match b, a.rng F with
  | .li c, (some lo, some hi) => if 0 < c ∧ 0 ≤ lo ∧ lo.tdiv c = hi.tdiv c then some (c, lo.tdiv c) else none
  | _, _ => none
def quoE (a b : E) : E := match quoOne F a b with
  | some (_, q) => .li q
  | none => lit2 .tdiv a b
def remE (a b : E) : E := match quoOne F a b with
  | some (c, q) => addI a (.li (-(c * q)))
  | none => lit2 .tmod a b

def intBinD (op : BinOp) (k : IntKind) (a b : E) : Option DV :=
  match op with
  | .add => some (.int k (rwE F (wrapI F k (addI a b))))
  | .sub => some (.int k (rwE F (wrapI F k (subI a b))))
  | .mul => some (.int k (rwE F (wrapI F k (mulI a b))))
  | .quo => if (E.bi .eqi b (.li 0)).dec F = some false then some (.int k (rwE F (wrapI F k (quoE F a b)))) else none
  | .rem => if (E.bi .eqi b (.li 0)).dec F = some false then some (.int k (rwE F (remE F a b))) else none
  | .and | .or | .xor | .andNot => some (.int k (rwE F (lit2 (.bits op k) a b)))
  | .eql => some (.bool (boolE F (.bi .eqi a b)))
  | .neq => some (.bool (notB (boolE F (.bi .eqi a b))))
  | .lss => some (.bool (boolE F (.bi .lt a b)))
  | .gtr => some (.bool (boolE F (.bi .lt b a)))
  | .leq => some (.bool (notB (boolE F (.bi .lt b a))))
  | .geq => some (.bool (notB (boolE F (.bi .lt a b))))
  | _ => none

/-- The count of a shift, at most the width. -/
def shCount (k : IntKind) (b : E) : E :=
  match b with
  | .li n => .li (min n.toNat k.bits : Nat)
  | b => .tr .ite (.bi .lt b (.li k.bits)) b (.li k.bits)
def pow2I (e : E) : E := match e with | .li n => .li (2 ^ n.toNat) | e => .un .pow2 e

def shiftD (op : BinOp) (k : IntKind) (a b : E) : Option DV :=
  if (E.bi .lt b (.li 0)).dec F = some false then
    match op with
    | .shl => some (.int k (rwE F (wrapI F k (mulI a (pow2I (shCount k b))))))
    | .shr => some (.int k (rwE F (lit2 .fdiv a (pow2I (shCount k b)))))
    | _ => none
  else none

/-- No string that an expression makes is longer. -/
def lenUB (F : Facts) : E → Option Int
  | .ls x => some x.size
  | .un .chr _ => some 1
  | .bi .cat a b => match lenUB F a, lenUB F b with
    | some x, some y => some (x + y)
    | _, _ => none
  | .tr .sub x _ _ => lenUB F x
  | .tr .ite _ a b => match lenUB F a, lenUB F b with
    | some x, some y => some (max x y)
    | _, _ => none
  | e => ((E.un .len e).rng F).2

def strBinD (op : BinOp) (a b : E) : Option DV :=
  match op with
  | .add => match lenUB F a, lenUB F b with
    | some x, some y => if x + y ≤ 9223372036854775807 then some (.str (rwE F (catS a b))) else none
    | _, _ => none
  | .eql => some (.bool (boolE F (.bi .eqs a b)))
  | .neq => some (.bool (notB (boolE F (.bi .eqs a b))))
  | .lss => some (.bool (boolE F (.bi .lts a b)))
  | .geq => some (.bool (notB (boolE F (.bi .lts a b))))
  | .leq => some (.bool (boolE F (orE (.bi .lts a b) (.bi .eqs a b))))
  | .gtr => some (.bool (notB (boolE F (orE (.bi .lts a b) (.bi .eqs a b)))))
  | _ => none

def eqG (t : TypeId) (cx : Bool) (x y : DV) : Bool :=
  match x, y with
  | .nili, .nili => cx
  | .agg _, .agg _ => !P.eqGuardType P.depth t
  | .anyi, _ => false
  | _, .anyi => false
  | _, _ => true

def binD (op : BinOp) (t : TypeId) (cx : Bool) (x y : DV) : Option DV :=
  match x, y with
  | .int k a, .int k' b => match op with
    | .shl => shiftD F .shl k a b
    | .shr => shiftD F .shr k a b
    | op => if k = k' then intBinD F op k a b else none
  | .str a, .str b => strBinD F op a b
  | x, y => match op with
    | .eql => if eqG P t cx x y then (eqD P F 100 t x y).map .bool else none
    | .neq => if eqG P t cx x y then (eqD P F 100 t x y).map fun e => .bool (notB e) else none
    | _ => none

def unD (op : UnOp) (x : DV) : Option DV :=
  match op, x with
  | .neg, .int k a => some (.int k (rwE F (wrapI F k (subI (.li 0) a))))
  | .xor, .int k a => some (.int k (rwE F (lit2 (.bits .xor k) (.li (if k.signed then -1 else k.max)) a)))
  | .not, .bool e => some (.bool (notB e))
  | _, _ => none

variable {P} {F}

theorem dec_false {ρ : Env} (hF : F.ok ρ) {e : E} (h : e.dec F = some false) : (e.ev ρ).bool = false := E.dec_sound hF h
theorem ne_zero {ρ : Env} (hF : F.ok ρ) {b : E} (h : (E.bi .eqi b (.li 0)).dec F = some false) : (b.ev ρ).int ≠ 0 := by
  have := E.dec_sound hF h
  exact of_decide_eq_false this
theorem nonneg_of {ρ : Env} (hF : F.ok ρ) {b : E} (h : (E.bi .lt b (.li 0)).dec F = some false) : 0 ≤ (b.ev ρ).int := by
  have := E.dec_sound hF h
  exact Int.not_lt.1 (of_decide_eq_false this)

theorem quoOne_ok {ρ : Env} (hF : F.ok ρ) {a b : E} {c q : Int} (h : quoOne F a b = some (c, q)) : (b.ev ρ).int = c ∧ (a.ev ρ).int.tdiv c = q ∧ 0 < c := by
  unfold quoOne at h
  split at h
  · rename_i c' lo hi hr
    split at h
    · rename_i hc
      cases h
      have hrng := E.rng_has hF a
      rw [hr] at hrng
      have h1 := hrng.1 lo rfl
      have h2 := hrng.2 hi rfl
      have g1 := tdiv_mono hc.1 hc.2.1 h1
      have g2 := tdiv_mono hc.1 (by omega : (0 : Int) ≤ (a.ev ρ).int) h2
      exact ⟨rfl, by omega, hc.1⟩
    · cases h
  · cases h

theorem quoE_int {ρ : Env} (hF : F.ok ρ) (a b : E) : ((quoE F a b).ev ρ).int = (a.ev ρ).int.tdiv (b.ev ρ).int := by
  unfold quoE
  split
  · rename_i c q h
    obtain ⟨h1, h2, _⟩ := quoOne_ok hF h
    rw [h1, h2]; rfl
  · rw [lit2_ev]; rfl

theorem remE_int {ρ : Env} (hF : F.ok ρ) (a b : E) : ((remE F a b).ev ρ).int = (a.ev ρ).int.tmod (b.ev ρ).int := by
  unfold remE
  split
  · rename_i c q h
    obtain ⟨h1, h2, _⟩ := quoOne_ok hF h
    rw [addI_int, h1, ← h2]
    simp only [E.ev, Sc.int_I]
    have := Int.mul_tdiv_add_tmod (a.ev ρ).int c
    omega
  · rw [lit2_ev]; rfl

theorem leq_lt (x y : Int) : decide (x ≤ y) = !decide (y < x) := by
  rw [← decide_not]; exact decide_eq_decide.2 Int.not_lt.symm

theorem intBinD_sound {m : Emb} {ρ : Env} (hF : F.ok ρ) {op : BinOp} {k : IntKind} {a b : E} {d : DV} (h : intBinD F op k a b = some d) (t : TypeId) (w : World) (hs : op ≠ .shl) (hr : op ≠ .shr) :
    ∃ v, (binOp op t (.int k (a.ev ρ).int) (.int k (b.ev ρ).int)).run P w = .ok v w ∧ d.R m ρ v := by
  cases op <;> simp only [intBinD, ne_eq, reduceCtorEq] at h hs hr
  case add => cases h; exact ⟨_, by simp [binOp, Op.intArith]; rfl, by simp only [DV.R]; rw [rwE_ev hF, wrapI_int hF, addI_int]⟩
  case sub => cases h; exact ⟨_, by simp [binOp, Op.intArith]; rfl, by simp only [DV.R]; rw [rwE_ev hF, wrapI_int hF, subI_int]⟩
  case mul => cases h; exact ⟨_, by simp [binOp, Op.intArith]; rfl, by simp only [DV.R]; rw [rwE_ev hF, wrapI_int hF, mulI_int]⟩
  case quo =>
    split at h
    · rename_i hz; cases h
      exact ⟨_, by simp [binOp, Op.intDiv, ne_zero hF hz]; rfl, by simp only [DV.R]; rw [rwE_ev hF, wrapI_int hF, quoE_int hF]⟩
    · cases h
  case rem =>
    split at h
    · rename_i hz; cases h
      exact ⟨_, by simp [binOp, Op.intDiv, ne_zero hF hz]; rfl, by simp only [DV.R]; rw [rwE_ev hF, remE_int hF]⟩
    · cases h
  case and => cases h; exact ⟨_, by simp [binOp, Op.intBits]; rfl, by simp only [DV.R]; rw [rwE_ev hF, lit2_ev]; rfl⟩
  case or => cases h; exact ⟨_, by simp [binOp, Op.intBits]; rfl, by simp only [DV.R]; rw [rwE_ev hF, lit2_ev]; rfl⟩
  case xor => cases h; exact ⟨_, by simp [binOp, Op.intBits]; rfl, by simp only [DV.R]; rw [rwE_ev hF, lit2_ev]; rfl⟩
  case andNot => cases h; exact ⟨_, by simp only [binOp, Op.intBits, ne_eq, not_true_eq_false, if_false]; rfl, by simp only [DV.R]; rw [rwE_ev hF, lit2_ev]; rfl⟩
  case eql => cases h; exact ⟨_, by simp [binOp, Op.intCmp]; rfl, by simp only [DV.R]; rw [boolE_bool hF]; simp [E.ev, B2.ev]; rfl⟩
  case neq => cases h; exact ⟨_, by simp [binOp, Op.intCmp]; rfl, by simp only [DV.R]; rw [notB_bool, boolE_bool hF]; simp [E.ev, B2.ev, bne]; rfl⟩
  case lss => cases h; exact ⟨_, by simp [binOp, Op.intCmp]; rfl, by simp only [DV.R]; rw [boolE_bool hF]; simp [E.ev, B2.ev]⟩
  case gtr => cases h; exact ⟨_, by simp [binOp, Op.intCmp]; rfl, by simp only [DV.R]; rw [boolE_bool hF]; simp [E.ev, B2.ev]⟩
  case leq => cases h; exact ⟨_, by simp [binOp, Op.intCmp]; rfl, by simp only [DV.R]; rw [notB_bool, boolE_bool hF, leq_lt]; rfl⟩
  case geq => cases h; exact ⟨_, by simp [binOp, Op.intCmp]; rfl, by simp only [DV.R]; rw [notB_bool, boolE_bool hF, leq_lt]; rfl⟩

theorem shCount_int (ρ : Env) (k : IntKind) (b : E) (h : 0 ≤ (b.ev ρ).int) : ((shCount k b).ev ρ).int = ((min (b.ev ρ).int.toNat k.bits : Nat) : Int) := by
  unfold shCount
  split
  · rfl
  · simp only [E.ev, B3.ev, B2.ev, Sc.bool_B, Sc.int_I]
    by_cases h1 : (b.ev ρ).int < (k.bits : Int)
    · simp only [h1, decide_true, if_true]; omega
    · simp only [h1, decide_false, Bool.false_eq_true, if_false, Sc.int_I]; omega

theorem pow2I_int (ρ : Env) (e : E) : ((pow2I e).ev ρ).int = 2 ^ (e.ev ρ).int.toNat := by
  unfold pow2I
  split <;> rfl

theorem shiftD_sound {m : Emb} {ρ : Env} (hF : F.ok ρ) {op : BinOp} {k k' : IntKind} {a b : E} {d : DV} (h : shiftD F op k a b = some d) (w : World) :
    ∃ v, (Op.shift op k (a.ev ρ).int k' (b.ev ρ).int).run P w = .ok v w ∧ d.R m ρ v := by
  unfold shiftD at h
  split at h
  · rename_i hb
    have h0 := nonneg_of hF hb
    have hn : ¬ (b.ev ρ).int < 0 := by omega
    split at h
    · cases h
      refine ⟨_, by simp [Op.shift, hn]; rfl, ?_⟩
      simp only [DV.R]
      rw [rwE_ev hF, wrapI_int hF, mulI_int, pow2I_int, shCount_int ρ k b h0, Int.toNat_natCast]
    · cases h
      refine ⟨_, by simp [Op.shift, hn]; rfl, ?_⟩
      simp only [DV.R]
      rw [rwE_ev hF, lit2_ev]
      simp only [B2.ev, Sc.int_I]
      rw [pow2I_int, shCount_int ρ k b h0, Int.toNat_natCast]
    · cases h
  · cases h

theorem toList_beq (x y : ByteArray) : (x.toList == y.toList) = decide (x = y) := by
  rw [ByteArray.toList_eq, ByteArray.toList_eq, Bool.eq_iff_iff]
  simp [ext_str]

theorem lenUB_sound {ρ : Env} (hF : F.ok ρ) : ∀ {e : E} {n : Int}, lenUB F e = some n → ((e.ev ρ).str.size : Int) ≤ n := by
  have dflt : ∀ {e : E} {n : Int}, ((E.un .len e).rng F).2 = some n → ((e.ev ρ).str.size : Int) ≤ n := fun {e n} h => (E.rng_has hF (E.un .len e)).2 n h
  intro e
  induction e with
  | ls x => intro n h; cases h; exact Int.le_refl _
  | vr k => intro n h; exact dflt h
  | li k => intro n h; exact dflt h
  | lb k => intro n h; exact dflt h
  | un o a _ =>
    intro n h
    cases o
    case chr => cases h; exact Int.le_refl _
    all_goals exact dflt h
  | bi o a b iha ihb =>
    intro n h
    cases o
    case cat =>
      simp only [lenUB] at h
      split at h
      · rename_i x y hx hy
        cases h
        have h1 := iha hx; have h2 := ihb hy
        simp only [E.ev, B2.ev, Sc.str_S, ByteArray.size_append]; omega
      · cases h
    all_goals exact dflt h
  | tr o a b c iha ihb ihc =>
    intro n h
    cases o
    case sub =>
      simp only [lenUB] at h
      have h1 := iha h
      simp only [E.ev, B3.ev, Sc.str_S, ByteArray.size_extract]; omega
    case ite =>
      simp only [lenUB] at h
      split at h
      · rename_i x y hx hy
        cases h
        have h1 := ihb hx; have h2 := ihc hy
        simp only [E.ev, B3.ev]
        split <;> omega
      · cases h
    all_goals exact dflt h

theorem strBinD_sound {m : Emb} {ρ : Env} (hF : F.ok ρ) {op : BinOp} {a b : E} {d : DV} (h : strBinD F op a b = some d) (t : TypeId) (w : World) :
    ∃ v, (binOp op t (.string (a.ev ρ).str) (.string (b.ev ρ).str)).run P w = .ok v w ∧ d.R m ρ v := by
  cases op <;> simp only [strBinD, reduceCtorEq] at h
  case add =>
    split at h
    · rename_i x y hx hy
      split at h
      · rename_i hle
        cases h
        have h1 := lenUB_sound hF hx
        have h2 := lenUB_sound hF hy
        have hn : ¬ (IntKind.i64.max < ((a.ev ρ).str.size : Int) + ((b.ev ρ).str.size : Int)) := by
          simp [IntKind.max, IntKind.signed, IntKind.bits]; omega
        exact ⟨.string ((a.ev ρ).str ++ (b.ev ρ).str), by simp only [binOp, Op.stringOp]; rw [if_neg (by simpa using hn)]; rfl, by simp only [DV.R]; rw [rwE_ev hF, catS_str]⟩
      · cases h
    · cases h
  case eql => cases h; exact ⟨_, by simp [binOp, Op.stringOp]; rfl, by simp only [DV.R]; rw [boolE_bool hF, toList_beq]; rfl⟩
  case neq => cases h; exact ⟨_, by simp [binOp, Op.stringOp]; rfl, by simp only [DV.R]; rw [notB_bool, boolE_bool hF, toList_beq]; rfl⟩
  case lss => cases h; exact ⟨_, by simp [binOp, Op.stringOp]; rfl, by simp only [DV.R]; rw [boolE_bool hF]; rfl⟩
  case geq => cases h; exact ⟨_, by simp [binOp, Op.stringOp]; rfl, by simp only [DV.R]; rw [notB_bool, boolE_bool hF]; rfl⟩
  case leq => cases h; exact ⟨_, by simp [binOp, Op.stringOp]; rfl, by simp only [DV.R]; rw [boolE_bool hF, orE_bool, toList_beq]; rfl⟩
  case gtr => cases h; exact ⟨_, by simp only [binOp, Op.stringOp]; rfl, by simp only [DV.R]; rw [notB_bool, boolE_bool hF, orE_bool, toList_beq]; rfl⟩

theorem eqGuard_other {op : BinOp} (h1 : op ≠ .eql) (h2 : op ≠ .neq) (t : TypeId) (x y : Operand) (vx vy : Value) (w : World) : (eqGuard op t x y vx vy).run P w = .ok () w := by
  cases op <;> first | rfl | exact absurd rfl h1 | exact absurd rfl h2

theorem eqG_run {m : Emb} {ρ : Env} {op : BinOp} (hop : op = .eql ∨ op = .neq) {t : TypeId} {x y : Operand} {cx : Bool} {dx dy : DV} {vx vy : Value} (hc : cx = true → (x matches .const _) = true ∨ (y matches .const _) = true)
    (h : eqG P t cx dx dy = true) (hx : dx.R m ρ vx) (hy : dy.R m ρ vy) (w : World) : (eqGuard op t x y vx vy).run P w = .ok () w := by
  have e1 : (eqGuard op t x y vx vy) = eqGuard .eql t x y vx vy := by rcases hop with rfl | rfl <;> rfl
  rw [e1]
  cases dx <;> simp only [DV.R] at hx <;>
    first
      | (obtain ⟨z1, z2, rfl, z3⟩ := hx; rfl)
      | (obtain ⟨z1, rfl, z3⟩ := hx; rfl)
      | (obtain ⟨z1, z3, rfl⟩ := hx; rfl)
      | (obtain ⟨z1, z3, rfl, _⟩ := hx; rfl)
      | (subst hx; rfl)
      | skip
  case agg l =>
    obtain ⟨z1, rfl, z3⟩ := hx
    cases dy <;> simp only [DV.R] at hy <;>
      first
        | (obtain ⟨u1, u2, rfl, u3⟩ := hy; rfl)
        | (obtain ⟨u1, rfl, u3⟩ := hy; rfl)
        | (obtain ⟨u1, u3, rfl⟩ := hy; rfl)
        | (obtain ⟨u1, u3, rfl, _⟩ := hy; rfl)
        | (subst hy; rfl)
        | skip
    · obtain ⟨u1, rfl, u3⟩ := hy
      simp [eqG] at h
      exact run_eqGuard_agg w .eql t x y z1 u1 h
    · simp [eqG] at h
  case nili =>
    subst hx
    cases dy <;> simp only [DV.R] at hy <;>
      first
        | (obtain ⟨u1, u2, rfl, u3⟩ := hy; rfl)
        | (obtain ⟨u1, rfl, u3⟩ := hy; rfl)
        | (obtain ⟨u1, u3, rfl⟩ := hy; rfl)
        | (obtain ⟨u1, u3, rfl, _⟩ := hy; rfl)
        | (subst hy; rfl)
        | skip
    · subst hy
      simp only [eqG] at h
      rcases hc h with hh | hh
      · cases x <;> simp at hh; simp [eqGuard]
      · cases y <;> simp at hh; simp [eqGuard]
    · simp [eqG] at h
  case anyi => simp [eqG] at h

theorem eqOp_run {m : Emb} {ρ : Env} (hF : F.ok ρ) {t : TypeId} {dx dy : DV} {vx vy : Value} {e : E} (h : eqD P F 100 t dx dy = some e) (hx : dx.R m ρ vx) (hy : dy.R m ρ vy) (w : World) :
    (Op.equal t vx vy).run P w = .ok (e.ev ρ).bool w := eqD_sound hF 100 9900 w t dx dy e vx vy h hx hy

end

end Go.Eng

/-
  Memory: what is read, what is written, what is laid anew.
-/
namespace Go.Eng

def iteDV (F : Facts) (c : E) : DV → DV → Option DV
  | .int k a, .int k' b => if k = k' then some (.int k (iteE F c a b)) else none
  | .bool a, .bool b => some (.bool (iteE F c a b))
  | .str a, .str b => some (.str (iteE F c a b))
  | a, b => match c.dec F with
    | some true => some a
    | some false => some b
    | none => none

theorem iteDV_R {F : Facts} {ρ : Env} (hF : F.ok ρ) {m : Emb} {c : E} {a b d : DV} (h : iteDV F c a b = some d) {va vb : Value} (ha : (c.ev ρ).bool = true → a.R m ρ va) (hb : (c.ev ρ).bool = false → b.R m ρ vb) :
    d.R m ρ (if (c.ev ρ).bool then va else vb) := by
  unfold iteDV at h
  split at h
  · split at h
    · rename_i hk; cases h; subst hk
      simp only [DV.R] at *
      rw [iteE_ev hF]
      cases hc : (c.ev ρ).bool
      · simp [hb hc]
      · simp [ha hc]
    · cases h
  · cases h
    simp only [DV.R] at *
    rw [iteE_ev hF]
    cases hc : (c.ev ρ).bool
    · simp [hb hc]
    · simp [ha hc]
  · cases h
    simp only [DV.R] at *
    rw [iteE_ev hF]
    cases hc : (c.ev ρ).bool
    · simp [hb hc]
    · simp [ha hc]
  · split at h
    · rename_i hd; cases h; have := E.dec_sound hF hd; simp only [this, if_true]; exact ha this
    · rename_i hd; cases h; have := E.dec_sound hF hd; simp only [this, Bool.false_eq_true, if_false]; exact hb this
    · cases h

/-- The cell at a place that is not known outright: among 'n + 1' of them. -/
def selD (F : Facts) (l : List DV) (e : E) (base s : Nat) : Nat → Nat → Option DV
  | 0, j => l[base + j * s]?
  | n + 1, j => match l[base + j * s]?, selD F l e base s n (j + 1) with
    | some a, some b => iteDV F (boolE F (.bi .eqi e (.li j))) a b
    | _, _ => none

def updD (F : Facts) (e : E) (base s : Nat) (x : DV) : Nat → Nat → List DV → Option (List DV)
  | 0, j, l => match l[base + j * s]? with
    | some old => (iteDV F (boolE F (.bi .eqi e (.li j))) x old).map (l.set (base + j * s))
    | none => none
  | n + 1, j, l => match l[base + j * s]? with
    | some old => match iteDV F (boolE F (.bi .eqi e (.li j))) x old with
      | some y => updD F e base s x n (j + 1) (l.set (base + j * s) y)
      | none => none
    | none => none

theorem eqLi {F : Facts} {ρ : Env} (hF : F.ok ρ) (e : E) (j : Nat) : ((boolE F (.bi .eqi e (.li j))).ev ρ).bool = decide ((e.ev ρ).int = (j : Int)) := by
  rw [boolE_bool hF]; rfl

theorem selD_R {F : Facts} {ρ : Env} (hF : F.ok ρ) {m : Emb} {l : List DV} {c : Array Value} (hl : ∀ (i : Nat) (d : DV), l[i]? = some d → ∃ v, c[i]? = some v ∧ d.R m ρ v) (e : E) (base s : Nat) :
    ∀ (n j : Nat) (d : DV), selD F l e base s n j = some d → (j : Int) ≤ (e.ev ρ).int → (e.ev ρ).int ≤ ((j + n : Nat) : Int) → ∃ v, c[base + (e.ev ρ).int.toNat * s]? = some v ∧ d.R m ρ v := by
  intro n
  induction n with
  | zero =>
    intro j d h h1 h2
    have : (e.ev ρ).int.toNat = j := by omega
    rw [this]
    exact hl _ _ h
  | succ n ih =>
    intro j d h h1 h2
    simp only [selD] at h
    split at h
    · rename_i a b ha hb
      by_cases he : (e.ev ρ).int = (j : Int)
      · have hj : (e.ev ρ).int.toNat = j := by omega
        obtain ⟨v, hv, hr⟩ := hl _ _ ha
        refine ⟨v, by rw [hj]; exact hv, ?_⟩
        have := iteDV_R hF h (va := v) (vb := v) (fun _ => hr) (fun hc => by rw [eqLi hF, he] at hc; simp at hc)
        simpa using this
      · obtain ⟨v, hv, hr⟩ := ih (j + 1) b hb (by omega) (by omega)
        refine ⟨v, hv, ?_⟩
        have := iteDV_R hF h (va := v) (vb := v) (fun hc => by rw [eqLi hF] at hc; simp at hc; exact absurd hc he) (fun _ => hr)
        simpa using this
    · cases h

theorem updD_len {F : Facts} (e : E) (base s : Nat) (x : DV) : ∀ (n j : Nat) (l r : List DV), updD F e base s x n j l = some r → r.length = l.length := by
  intro n
  induction n with
  | zero =>
    intro j l r h
    simp only [updD] at h
    split at h
    · simp only [Option.map_eq_some_iff] at h; obtain ⟨y, _, rfl⟩ := h; simp
    · cases h
  | succ n ih =>
    intro j l r h
    simp only [updD] at h
    split at h
    · split at h
      · rw [ih _ _ _ h]; simp
      · cases h
    · cases h

theorem updD_R {F : Facts} {ρ : Env} (hF : F.ok ρ) {m : Emb} (e : E) (base s : Nat) (hs : 0 < s) {x : DV} {vx : Value} (hx : x.R m ρ vx) (p : Nat) (hp : p = base + (e.ev ρ).int.toNat * s) :
    ∀ (n j : Nat) (l r : List DV) (c : Array Value), updD F e base s x n j l = some r →
      (∀ (i : Nat) (d : DV), l[i]? = some d → ∃ v, c[i]? = some v ∧ d.R m ρ v) →
      ∀ (i : Nat) (d : DV), r[i]? = some d → (i = p → (j : Int) ≤ (e.ev ρ).int → (e.ev ρ).int ≤ ((j + n : Nat) : Int) → d.R m ρ vx) ∧ (i ≠ p → ∃ v, c[i]? = some v ∧ d.R m ρ v) := by
  have one : ∀ (j : Nat) (l : List DV) (c : Array Value) (old y : DV), l[base + j * s]? = some old → iteDV F (boolE F (.bi .eqi e (.li j))) x old = some y →
      (∀ (i : Nat) (d : DV), l[i]? = some d → ∃ v, c[i]? = some v ∧ d.R m ρ v) → 0 ≤ (e.ev ρ).int →
      ∃ v0, c[base + j * s]? = some v0 ∧ y.R m ρ (if base + j * s = p then vx else v0) := by
    intro j l c old y hold hy hl h0
    obtain ⟨v0, hv0, hr0⟩ := hl _ _ hold
    refine ⟨v0, hv0, ?_⟩
    have := iteDV_R hF hy (va := vx) (vb := v0) (fun _ => hx) (fun _ => hr0)
    rw [eqLi hF] at this
    by_cases he : (e.ev ρ).int = (j : Int)
    · have hj : (e.ev ρ).int.toNat = j := by omega
      rw [if_pos (by rw [hp, hj])]
      simpa [he] using this
    · have hj : (e.ev ρ).int.toNat ≠ j := by omega
      rw [if_neg (by rw [hp]; intro hc; exact hj (Nat.eq_of_mul_eq_mul_right hs (by omega)))]
      simpa [he] using this
  intro n
  induction n with
  | zero =>
    intro j l r c h hl i d hd
    simp only [updD] at h
    split at h
    · rename_i old hold
      simp only [Option.map_eq_some_iff] at h
      obtain ⟨y, hy, rfl⟩ := h
      rw [List.getElem?_set] at hd
      by_cases hi : base + j * s = i
      · rw [if_pos hi] at hd
        split at hd
        · cases hd
          refine ⟨fun hip hj1 hj2 => ?_, fun hip => ?_⟩
          · obtain ⟨v0, hv0, hr⟩ := one j l c old d hold hy hl (by omega)
            rw [if_pos (by omega)] at hr; exact hr
          · by_cases h0 : 0 ≤ (e.ev ρ).int
            · obtain ⟨v0, hv0, hr⟩ := one j l c old d hold hy hl h0
              rw [if_neg (by omega)] at hr; rw [← hi]; exact ⟨v0, hv0, hr⟩
            · obtain ⟨v0, hv0, hr0⟩ := hl _ _ hold
              have := iteDV_R hF hy (va := vx) (vb := v0) (fun _ => hx) (fun _ => hr0)
              rw [eqLi hF] at this
              have he : ¬ (e.ev ρ).int = (j : Int) := by omega
              simp [he] at this
              rw [← hi]; exact ⟨v0, hv0, this⟩
        · cases hd
      · rw [if_neg hi] at hd
        refine ⟨fun hip hj1 hj2 => ?_, fun _ => hl i d hd⟩
        exfalso; apply hi
        have : (e.ev ρ).int.toNat = j := by omega
        rw [hip, hp, this]
    · cases h
  | succ n ih =>
    intro j l r c h hl i d hd
    simp only [updD] at h
    split at h
    · rename_i old hold
      split at h
      · rename_i y hy
        obtain ⟨v0, hv0, hr0⟩ := hl _ _ hold
        by_cases h0 : 0 ≤ (e.ev ρ).int
        · obtain ⟨v1, hv1, hr1⟩ := one j l c old y hold hy hl h0
          rw [hv0] at hv1; cases hv1
          by_cases hjp : base + j * s = p
          · rw [if_pos hjp] at hr1
            have hlt : base + j * s < c.size := (Array.getElem?_eq_some_iff.1 hv0).1
            have := ih (j + 1) _ r (c.setIfInBounds (base + j * s) vx) h (fun i' d' hd' => by
              rw [List.getElem?_set] at hd'
              split at hd'
              · rename_i e'; subst e'
                split at hd'
                · cases hd'; exact ⟨vx, by simp [hlt], hr1⟩
                · cases hd'
              · rename_i e'
                obtain ⟨v, hv, hr⟩ := hl i' d' hd'
                exact ⟨v, by rw [Array.getElem?_setIfInBounds_ne e']; exact hv, hr⟩) i d hd
            refine ⟨fun hip hj1 hj2 => ?_, fun hip => ?_⟩
            · by_cases hj' : ((j + 1 : Nat) : Int) ≤ (e.ev ρ).int
              · exact this.1 hip hj' (by omega)
              · -- the cell stays as it was written
                have hnot : ∀ (n' j' : Nat) (l' r' : List DV), updD F e base s x n' j' l' = some r' → j < j' → r'[base + j * s]? = l'[base + j * s]? := by
                  intro n'
                  induction n' with
                  | zero =>
                    intro j' l' r' h' hlt'
                    simp only [updD] at h'
                    split at h'
                    · simp only [Option.map_eq_some_iff] at h'; obtain ⟨_, _, rfl⟩ := h'
                      rw [List.getElem?_set_ne]
                      intro hc
                      have := Nat.eq_of_mul_eq_mul_right hs (show j' * s = j * s by omega)
                      omega
                    · cases h'
                  | succ n' ih' =>
                    intro j' l' r' h' hlt'
                    simp only [updD] at h'
                    split at h'
                    · split at h'
                      · rw [ih' _ _ _ h' (by omega), List.getElem?_set_ne]
                        intro hc
                        have := Nat.eq_of_mul_eq_mul_right hs (show j' * s = j * s by omega)
                        omega
                      · cases h'
                    · cases h'
                have hsame := hnot n (j + 1) _ r h (by omega)
                rw [hip, ← hjp, hsame] at hd
                rw [List.getElem?_set] at hd
                simp at hd
                obtain ⟨_, hd⟩ := hd
                subst hd
                exact hr1
            · obtain ⟨v, hv, hr⟩ := this.2 hip
              refine ⟨v, ?_, hr⟩
              rw [Array.getElem?_setIfInBounds_ne (by omega)] at hv; exact hv
          · rw [if_neg hjp] at hr1
            have := ih (j + 1) _ r c h (fun i' d' hd' => by
              rw [List.getElem?_set] at hd'
              split at hd'
              · rename_i e'; subst e'
                split at hd'
                · cases hd'; exact ⟨v0, hv0, hr1⟩
                · cases hd'
              · exact hl i' d' hd') i d hd
            refine ⟨fun hip hj1 hj2 => this.1 hip ?_ (by omega), this.2⟩
            have : (e.ev ρ).int ≠ (j : Int) := by
              intro hc; apply hjp; rw [hp]; congr 2; omega
            omega
        · have := iteDV_R hF hy (va := vx) (vb := v0) (fun _ => hx) (fun _ => hr0)
          rw [eqLi hF] at this
          have he : ¬ (e.ev ρ).int = (j : Int) := by omega
          simp [he] at this
          have := ih (j + 1) _ r c h (fun i' d' hd' => by
              rw [List.getElem?_set] at hd'
              split at hd'
              · rename_i e'; subst e'
                split at hd'
                · cases hd'; exact ⟨v0, hv0, this⟩
                · cases hd'
              · exact hl i' d' hd') i d hd
          exact ⟨fun hip hj1 hj2 => by omega, this.2⟩
      · cases h
    · cases h

end Go.Eng

/-
  Loads, stores, new blocks.
-/
namespace Go.Eng

section
variable (P : Program) (F : Facts)

def idxE (e : E) (s f : Nat) : E := addI (mulI e (.li s)) (.li f)

/-- What one place is ahead of another one, if that is a number. -/
def diffL : E → E → Option Int
  | .bi .add x (.li a), .bi .add y (.li b) => if x.same y then some (a - b) else none
  | .li a, .li b => some (a - b)
  | .bi .add x (.li a), y => if x.same y then some a else none
  | x, .bi .add y (.li b) => if x.same y then some (-b) else none
  | x, y => if x.same y then some 0 else none

/-- The one cell of a row of one. -/
def oneOf : Kd → E → Option E
  | .int k, .un (.row (.cI k')) v => if k = k' then some v else none
  | .bool, .un (.row .cB) v => some v
  | .str, .un (.row .cS) v => some v
  | _, _ => none

/-- A cell of a row: what was laid there last. -/
def cellR (kd : Kd) : E → E → E
  | .tr (.row .set) a i r, j => match oneOf kd r with
    | some v => match diffL i j with
      | some d => if d = 0 then v else if (E.bi .lt i (.li 0)).dec F = some false then cellR kd a j else .bi .cell (.tr (.row .set) a i r) j
      | none => .bi .cell (.tr (.row .set) a i r) j
    | none => .bi .cell (.tr (.row .set) a i r) j
  | .bi (.row .rep) r n, j => match oneOf kd r with
    | some v => v
    | none => .bi .cell (.bi (.row .rep) r n) j
  | a, j => .bi .cell a j

def cellD (a e : E) (s f : Nat) : Kd → Option DV
  | .int k => some (.int k (wrapI F k (rwE F (cellR F (.int k) a (idxE e s f)))))
  | .bool => some (.bool (boolE F (cellR F .bool a (idxE e s f))))
  | .str => some (.str (rwE F (cellR F .str a (idxE e s f))))
  | .any => none

/-- What stands behind a row's beginning. -/
def behindQ (q : E) (o : Off) : Option (List (E × Nat)) :=
  match q with
  | .li 0 => some o.terms
  | q => match o.terms with
    | (x, 1) :: r => if x.same q then some r else none
    | _ => none

/-- Which record of a row of records, and which cell of it. -/
def recOf (q : E) (o : Off) (s : Nat) : Option (E × Nat) :=
  match behindQ q o with
  | some [] => if s = 0 then none else some (.li (o.base / s : Nat), o.base % s)
  | some [(e, s')] => if s' = s ∧ o.base < s then some (e, o.base) else none
  | _ => none

def loadArr (t : TypeId) (q a n : E) (sh : List Kd) (o : Off) : Option DV :=
  match recOf q o sh.length with
  | some (e, f) =>
    if (E.bi .lt e (.li 0)).dec F = some false ∧ (E.bi .lt e n).dec F = some true then
      match aggT P t with
      | some false => match sh[f]? with
        | some k => cellD F a e sh.length f k
        | none => none
      | some true => match P.info? t with
        | some i => if f + i.size ≤ sh.length then ((List.range i.size).mapM fun j => (sh[f + j]?).bind (cellD F a e sh.length (f + j))).map .agg else none
        | none => none
      | none => none
    else none
  | none => none

def loadD (h : T Blk) (t : TypeId) (d : DV) : Option DV :=
  match d with
  | .ptr id o =>
    match h.get id with
    | some (.cells l _ _) =>
      match aggT P t with
      | some true => match o.terms, P.info? t with
        | [], some i => if o.base + i.size ≤ l.length then some (.agg ((l.drop o.base).take i.size)) else none
        | _, _ => none
      | some false => match o.terms with
        | [] => l[o.base]?
        | [(e, s)] => match e.rng F with
          | (some lo, some hi) => if 0 ≤ lo ∧ lo ≤ hi then selD F l e o.base s (hi - lo).toNat lo.toNat else none
          | _ => none
        | _ => none
      | none => none
    | some (.arr q a n sh _ _) => loadArr P F t q a n sh o
    | _ => none
  | _ => none

def DV.one : DV → Bool
  | .agg _ | .tup _ => false
  | _ => true

def setL (l : List DV) (b : Nat) (cs : List DV) : List DV := l.take b ++ cs ++ l.drop (b + cs.length)

def storeD (h : T Blk) (t : TypeId) (d x : DV) : Option (T Blk) :=
  match d with
  | .ptr id o =>
    match h.get id with
    | some (.cells l t0 md) =>
      match P.info? t with
      | some i => if x.cells.length = i.size ∧ x.cells.all DV.one ∧ md.rw' = true then
          match o.terms with
          | [] => if o.base + x.cells.length ≤ l.length then some (h.set id (.cells (setL l o.base x.cells) t0 md)) else none
          | [(e, s)] => match x.cells, e.rng F with
            | [c], (some lo, some hi) => if 0 ≤ lo ∧ lo ≤ hi ∧ 0 < s then (updD F e o.base s c (hi - lo).toNat lo.toNat l).map fun l' => h.set id (.cells l' t0 md) else none
            | _, _ => none
          | _ => none
        else none
      | none => none
    | _ => none
  | _ => none

variable {P} {F}

theorem aggT_true {t : TypeId} (h : aggT P t = some true) (w : World) : (isAgg t).run P w = .ok true w := by
  unfold aggT at h
  split at h
  · rename_i hu; simp [isAgg, run_underlying hu]
  · rename_i hu; simp [isAgg, run_underlying hu]
  · cases h
  · cases h

theorem aggT_false {t : TypeId} (h : aggT P t = some false) (w : World) : (isAgg t).run P w = .ok false w := by
  unfold aggT at h
  cases hu : P.underlying t with
  | none => simp [hu] at h
  | some d => cases d <;> simp [hu] at h <;> simp [isAgg, run_underlying hu]

theorem cell_at {w : World} {b off : Nat} {c : Array Value} {t : TypeId} {fr : Nat × Nat} (h : w.heap[b]? = some (.cells c t fr)) : w.cell? ⟨b, off, none⟩ = c[off]? := by
  simp [World.cell?, h]

theorem add_none (b off j : Nat) : (⟨b, off, none⟩ : Addr).add j = ⟨b, off + j, none⟩ := by
  unfold Addr.add; split <;> simp_all

theorem run_load_cell {w : World} {a : Addr} {v : Value} (h : w.cell? a = some v) : (load a).run P w = .ok v w := by
  simp [load, Sem.run, h]

theorem loadVar_one {t : TypeId} (ht : aggT P t = some false) {w : World} {b off : Nat} {c : Array Value} {t0 : TypeId} {fr : Nat × Nat} (hb : w.heap[b]? = some (.cells c t0 fr)) {v : Value} (hv : c[off]? = some v) :
    (loadVar t ⟨b, off, none⟩).run P w = .ok v w := by
  have h1 := run_load_cell (P := P) (w := w) (a := ⟨b, off, none⟩) (v := v) (by rw [cell_at hb, hv])
  simp only [loadVar, Sem.run_bind, aggT_false ht, Result.andThen_ok, Bool.false_eq_true, if_false, h1]

theorem loadVar_many {t : TypeId} (ht : aggT P t = some true) {i : TypeInfo} (hi : P.info? t = some i) {w : World} {b off : Nat} {c : Array Value} {t0 : TypeId} {fr : Nat × Nat} (hb : w.heap[b]? = some (.cells c t0 fr))
    {vs : List Value} (hl : vs.length = i.size) (hv : ∀ j v, vs[j]? = some v → c[off + j]? = some v) :
    (loadVar t ⟨b, off, none⟩).run P w = .ok (.agg vs.toArray) w := by
  have h1 := run_loadCells_list (P := P) (w := w) ⟨b, off, none⟩ vs (fun j v h => by rw [add_none, cell_at hb]; exact hv j v h)
  rw [hl] at h1
  have hs : (sizeOf t).run P w = .ok i.size w := by simp [sizeOf, typeInfo, hi]
  simp only [loadVar, Sem.run_bind, aggT_true ht, Result.andThen_ok, if_true, hs, h1]
  rfl

theorem idxE_int (ρ : Env) (e : E) (s f : Nat) : ((idxE e s f).ev ρ).int = (e.ev ρ).int * s + f := by
  unfold idxE
  rw [addI_int, mulI_int]; rfl

theorem diffL_ok {ρ : Env} {i j : E} {d : Int} (h : diffL i j = some d) : (i.ev ρ).int - (j.ev ρ).int = d := by
  unfold diffL at h
  split at h
  · split at h
    · rename_i hs; cases h
      simp only [E.ev, B2.ev, Sc.int_I, E.same_eq hs]; omega
    · cases h
  · cases h; simp only [E.ev, Sc.int_I]
  · split at h
    · rename_i hs; cases h
      simp only [E.ev, B2.ev, Sc.int_I, E.same_eq hs]; omega
    · cases h
  · split at h
    · rename_i hs; cases h
      simp only [E.ev, B2.ev, Sc.int_I, E.same_eq hs]; omega
    · cases h
  · split at h
    · rename_i hs; cases h
      rw [E.same_eq hs]; omega
    · cases h

def Kd.eqS : Kd → Sc → Sc → Prop
  | .int _, x, y => x.int = y.int
  | .bool, x, y => x.bool = y.bool
  | .str, x, y => x.str = y.str
  | .any, _, _ => True
theorem Kd.eqS_refl (k : Kd) (x : Sc) : k.eqS x x := by cases k <;> first | rfl | trivial

theorem oneOf_ok {ρ : Env} {kd : Kd} {r v : E} (h : oneOf kd r = some v) : ∃ x, (r.ev ρ).arr = [x] ∧ kd.eqS (v.ev ρ) (Sc.ofValue x) := by
  unfold oneOf at h
  split at h
  · split at h
    · rename_i e; cases h; subst e; exact ⟨_, rfl, rfl⟩
    · cases h
  · cases h; exact ⟨_, rfl, rfl⟩
  · cases h; exact ⟨_, rfl, rfl⟩
  · cases h

theorem setRow_one (l : List Value) (p : Nat) (x : Value) (q : Nat) : (setRow l p [x])[q]? = if p < l.length ∧ q = p then some x else l[q]? := by
  unfold setRow
  by_cases hp : p + [x].length ≤ l.length
  · rw [if_pos hp, List.append_assoc, List.getElem?_append]
    simp only [List.length_cons, List.length_nil] at hp ⊢
    simp only [List.length_take, Nat.min_eq_left (show p ≤ l.length by omega)]
    by_cases h1 : q < p
    · rw [if_pos h1, if_neg (by omega), List.getElem?_take, if_pos h1]
    · rw [if_neg h1]
      by_cases h2 : q = p
      · subst h2; rw [if_pos ⟨by omega, rfl⟩]; simp
      · rw [if_neg (by omega), List.getElem?_append, if_neg (by simp; omega), List.getElem?_drop]
        congr 1; simp; omega
  · rw [if_neg hp, if_neg (by simp at hp; omega)]

theorem cellR_ok {ρ : Env} (hF : F.ok ρ) {kd : Kd} {j : E} (h0 : 0 ≤ (j.ev ρ).int) : ∀ {a : E} {v : Value}, (a.ev ρ).arr[(j.ev ρ).int.toNat]? = some v → kd.eqS ((cellR F kd a j).ev ρ) (Sc.ofValue v) := by
  have base : ∀ {a : E} {v : Value}, (a.ev ρ).arr[(j.ev ρ).int.toNat]? = some v → kd.eqS ((E.bi .cell a j).ev ρ) (Sc.ofValue v) := by
    intro a v hv
    have : (E.bi .cell a j).ev ρ = Sc.ofValue v := by simp only [E.ev, B2.ev, List.getD_eq_getElem?_getD, hv]; rfl
    rw [this]; exact Kd.eqS_refl _ _
  intro a
  induction a with
  | tr o a i r iha ih2 ih3 =>
    clear ih2 ih3
    intro v hv
    by_cases ho : o = .row .set
    · subst ho
      simp only [cellR]
      split
      · rename_i v' hone
        obtain ⟨x, hx, he⟩ := oneOf_ok (ρ := ρ) hone
        have hrow : ((E.tr (.row .set) a i r).ev ρ).arr = setRow (a.ev ρ).arr (i.ev ρ).int.toNat [x] := by simp only [E.ev, B3.ev, RT.ev, Sc.arr_A, hx]
        split
        · rename_i d hd
          have hdd := diffL_ok (ρ := ρ) hd
          split
          · rename_i hd0
            rw [hrow, setRow_one] at hv
            have e : (j.ev ρ).int.toNat = (i.ev ρ).int.toNat := by congr 1; omega
            have hlt : (i.ev ρ).int.toNat < (a.ev ρ).arr.length := by
              split at hv
              · rename_i hc; exact hc.1
              · rw [← e]; exact (List.getElem?_eq_some_iff.1 hv).1
            rw [if_pos ⟨hlt, e⟩] at hv
            cases hv
            exact he
          · rename_i hd0
            split
            · rename_i hneg
              rw [hrow, setRow_one] at hv
              have h1 := E.dec_sound hF hneg
              have h1' : ¬ (i.ev ρ).int < 0 := of_decide_eq_false h1
              have hne : ¬ ((i.ev ρ).int.toNat < (a.ev ρ).arr.length ∧ (j.ev ρ).int.toNat = (i.ev ρ).int.toNat) := by
                intro ⟨_, h2⟩
                apply hd0
                omega
              rw [if_neg hne] at hv
              exact iha hv
            · exact base hv
        · exact base hv
      · exact base hv
    · have e : cellR F kd (.tr o a i r) j = .bi .cell (.tr o a i r) j := by
        cases o with
        | row x => cases x <;> first | rfl | exact absurd rfl ho
        | _ => rfl
      rw [e]; exact base hv
  | bi o r n ih1 ih2 =>
    clear ih1 ih2
    intro v hv
    by_cases ho : o = .row .rep
    · subst ho
      simp only [cellR]
      split
      · rename_i v' hone
        obtain ⟨x, hx, he⟩ := oneOf_ok (ρ := ρ) hone
        have hmem := List.mem_of_getElem? hv
        simp only [E.ev, B2.ev, RB.ev, Sc.arr_A, hx, List.mem_flatten, List.mem_replicate] at hmem
        obtain ⟨l, ⟨_, rfl⟩, hl⟩ := hmem
        obtain rfl := List.mem_singleton.1 hl
        exact he
      · exact base hv
    · have e : cellR F kd (.bi o r n) j = .bi .cell (.bi o r n) j := by
        cases o with
        | row x => cases x <;> first | rfl | exact absurd rfl ho
        | _ => rfl
      rw [e]; exact base hv
  | vr n => intro v hv; exact base hv
  | li n => intro v hv; exact base hv
  | lb w => intro v hv; exact base hv
  | ls x => intro v hv; exact base hv
  | un o a _ => intro v hv; exact base hv

theorem cellD_R {ρ : Env} (hF : F.ok ρ) {m : Emb} {a e : E} {s f : Nat} {k : Kd} {d : DV} (h : cellD F a e s f k = some d) (h0 : 0 ≤ (e.ev ρ).int) {v : Value}
    (hv : (a.ev ρ).arr[(e.ev ρ).int.toNat * s + f]? = some v) (hk : k.ok v) : d.R m ρ v := by
  have hi : ((idxE e s f).ev ρ).int.toNat = (e.ev ρ).int.toNat * s + f := by
    rw [idxE_int]
    have : ((e.ev ρ).int * s + f : Int) = (((e.ev ρ).int.toNat * s + f : Nat) : Int) := by
      rw [Int.natCast_add, Int.natCast_mul, Int.toNat_of_nonneg h0]
    rw [this]; rfl
  have hi0 : 0 ≤ ((idxE e s f).ev ρ).int := by
    rw [idxE_int]
    have : (0 : Int) ≤ (e.ev ρ).int * s := Int.mul_nonneg h0 (Int.natCast_nonneg s)
    omega
  have hc := fun kd => cellR_ok (F := F) (kd := kd) hF hi0 (a := a) (v := v) (by rw [hi]; exact hv)
  cases k with
  | int k =>
    simp only [cellD] at h; cases h
    obtain ⟨n, rfl, hn1, hn2⟩ := hk
    have hc' := hc (.int k)
    simp only [Kd.eqS] at hc'
    simp only [DV.R]; rw [wrapI_int hF, rwE_ev hF, hc']
    show Value.int k n = Value.int k (k.wrap n)
    rw [wrap_id hn1 hn2]
  | bool =>
    simp only [cellD] at h; cases h
    obtain ⟨n, rfl⟩ := hk
    have hc' := hc .bool
    simp only [Kd.eqS] at hc'
    simp only [DV.R]; rw [boolE_bool hF, hc']; rfl
  | str =>
    simp only [cellD] at h; cases h
    obtain ⟨n, rfl⟩ := hk
    have hc' := hc .str
    simp only [Kd.eqS] at hc'
    simp only [DV.R]; rw [rwE_ev hF, hc']; rfl
  | any => cases h

theorem behindQ_den {ρ : Env} {q : E} {o : Off} {r : List (E × Nat)} (h : behindQ q o = some r) : sumT ρ o.terms = (q.ev ρ).int.toNat + sumT ρ r := by
  unfold behindQ at h
  split at h
  · cases h; simp [E.ev]
  · split at h
    · rename_i x r' ht
      split at h
      · rename_i hs
        cases h
        rw [ht, E.same_eq hs]
        simp [sumT]
      · cases h
    · cases h

theorem recOf_den {ρ : Env} {q : E} {o : Off} {s : Nat} {e : E} {f : Nat} (h : recOf q o s = some (e, f)) : o.den ρ = (q.ev ρ).int.toNat + ((e.ev ρ).int.toNat * s + f) ∧ f < s := by
  unfold recOf at h
  split at h
  · rename_i hq
    have ht := behindQ_den (ρ := ρ) hq
    split at h
    · cases h
    · rename_i hs
      cases h
      simp only [Off.den, ht, sumT, E.ev, Sc.int_I, Int.toNat_natCast]
      have := Nat.div_add_mod o.base s
      rw [Nat.mul_comm] at this
      exact ⟨by omega, Nat.mod_lt _ (by omega)⟩
  · rename_i e' s' hq
    have ht := behindQ_den (ρ := ρ) hq
    split at h
    · rename_i hs
      cases h
      obtain ⟨rfl, hlt⟩ := hs
      simp only [Off.den, ht, sumT]
      exact ⟨by omega, hlt⟩
    · cases h
  · cases h

theorem list_mapM_some {α β : Type} {f : α → Option β} : ∀ {l : List α} {r : List β}, l.mapM f = some r → r.length = l.length ∧ ∀ (i : Nat) (b : β), r[i]? = some b → ∃ a, l[i]? = some a ∧ f a = some b
  | [], r, h => by simp at h; subst h; simp
  | a :: l, r, h => by
    simp only [List.mapM_cons, Option.bind_eq_bind, Option.pure_def, Option.bind_eq_some_iff] at h
    obtain ⟨d, hd, rs, hr, he⟩ := h
    simp at he; subst he
    obtain ⟨h1, h2⟩ := list_mapM_some hr
    refine ⟨by simp [h1], fun i b hb => ?_⟩
    cases i with
    | zero => simp at hb; subst hb; exact ⟨a, rfl, hd⟩
    | succ i => simpa using h2 i b (by simpa using hb)

theorem range_get {n j k : Nat} (h : (List.range n)[j]? = some k) : j < n ∧ j = k := by
  have h1 := (List.getElem?_eq_some_iff.1 h).1
  rw [List.length_range] at h1
  rw [List.getElem?_range h1] at h
  exact ⟨h1, by simpa using h⟩

theorem loadD_sound {ρ : Env} (hF : F.ok ρ) {m : Emb} {h : T Blk} {w : World} (hH : HeapR m ρ h w) {t : TypeId} {p d : DV} (hd : loadD P F h t p = some d) {vp : Value} (hp : p.R m ρ vp) :
    ∃ v, (Instr.loadAt t vp).run P w = .ok v w ∧ d.R m ρ v := by
  unfold loadD at hd
  split at hd
  · rename_i id o
    simp only [DV.R] at hp
    obtain ⟨b, hb, rfl⟩ := hp
    have red : ∀ {v}, (loadVar t ⟨b, o.den ρ, none⟩).run P w = .ok v w → (Instr.loadAt t (.pointer (some ⟨b, o.den ρ, none⟩))).run P w = .ok v w := fun h => by
      simp only [Instr.loadAt, Instr.sureAddr, Sem.run_bind, Sem.run_pure, Result.andThen_ok, h]
    split at hd
    · rename_i l t0 md hg
      obtain ⟨b', ob, hb', ho, c, fr, ⟨t', rfl⟩, hle, hc, hmd⟩ := hH.blk id _ hg rfl
      rw [hb] at hb'; cases hb'
      split at hd
      · rename_i ht
        split at hd
        · rename_i i hterms hi
          split at hd
          · rename_i hlen
            cases hd
            have hden : o.den ρ = o.base := by simp [Off.den, hterms, sumT]
            have hget : ∀ j, j < i.size → ∃ v, c[o.base + j]? = some v := fun j hj =>
              ⟨c[o.base + j]'(by omega), by simp⟩
            refine ⟨.agg ((List.range i.size).map fun j => c.getD (o.base + j) undef).toArray, red ?_, ?_⟩
            · rw [hden]
              refine loadVar_many ht hi ho (by simp) (fun j v hv => ?_)
              simp only [List.getElem?_map, Option.map_eq_some_iff] at hv
              obtain ⟨j', hj', rfl⟩ := hv
              obtain ⟨hlt, rfl⟩ := range_get hj'
              obtain ⟨v, hv⟩ := hget j hlt
              simp [Array.getD_eq_getD_getElem?, hv]
            · simp only [DV.R]
              refine ⟨_, rfl, DV.RL.of_get (by simp; omega) (fun j d' hd' => ?_)⟩
              rw [List.getElem?_take] at hd'
              split at hd'
              · rename_i hj
                rw [List.getElem?_drop] at hd'
                obtain ⟨v, hv, hr⟩ := hc _ _ hd'
                refine ⟨v, ?_, hr⟩
                simp [hj, Array.getD_eq_getD_getElem?, hv]
              · cases hd'
          · cases hd
        · cases hd
      · rename_i ht
        split at hd
        · rename_i hterms
          have hden : o.den ρ = o.base := by simp [Off.den, hterms, sumT]
          obtain ⟨v, hv, hr⟩ := hc _ _ hd
          exact ⟨v, red (loadVar_one ht ho (by rw [hden]; exact hv)), hr⟩
        · rename_i e s hterms
          have hden : o.den ρ = o.base + (e.ev ρ).int.toNat * s := by simp [Off.den, hterms, sumT]
          split at hd
          · rename_i lo hi hr
            split at hd
            · rename_i hlo
              have hrng := E.rng_has hF e
              rw [hr] at hrng
              have h1 := hrng.1 lo rfl
              have h2 := hrng.2 hi rfl
              obtain ⟨v, hv, hr'⟩ := selD_R hF hc e o.base s _ _ d hd (by omega) (by omega)
              exact ⟨v, red (loadVar_one ht ho (by rw [hden]; exact hv)), hr'⟩
            · cases hd
          · cases hd
        · cases hd
      · cases hd
    · rename_i q a n sh t0 md hg
      obtain ⟨b', ob, hb', ho, c, fr, ⟨t', rfl⟩, hlen, hle, hc, hk, hmd⟩ := hH.blk id _ hg rfl
      rw [hb] at hb'; cases hb'
      unfold loadArr at hd
      split at hd
      · rename_i e f hrec
        obtain ⟨hden, hf⟩ := recOf_den (ρ := ρ) hrec
        split at hd
        · rename_i hcond
          have h0 := nonneg_of hF hcond.1
          have h1 : (e.ev ρ).int < (n.ev ρ).int := of_decide_eq_true (E.dec_sound hF hcond.2)
          have hbound : ∀ g, g < sh.length → (e.ev ρ).int.toNat * sh.length + g < (a.ev ρ).arr.length := fun g hg' => by
            rw [hlen]
            have : (e.ev ρ).int.toNat + 1 ≤ (n.ev ρ).int.toNat := by omega
            calc (e.ev ρ).int.toNat * sh.length + g < (e.ev ρ).int.toNat * sh.length + sh.length := by omega
              _ = ((e.ev ρ).int.toNat + 1) * sh.length := by rw [Nat.add_mul]; omega
              _ ≤ _ := Nat.mul_le_mul_right _ this
          have hcell : ∀ g k, g < sh.length → sh[g]? = some k → ∀ d', cellD F a e sh.length g k = some d' → ∃ v, c[(q.ev ρ).int.toNat + ((e.ev ρ).int.toNat * sh.length + g)]? = some v ∧ d'.R m ρ v := fun g k hg' hsh d' hd' => by
            have hlt := hbound g hg'
            have hget : (a.ev ρ).arr[(e.ev ρ).int.toNat * sh.length + g]? = some ((a.ev ρ).arr[(e.ev ρ).int.toNat * sh.length + g]'hlt) := by simp [hlt]
            refine ⟨_, hc _ _ hget, cellD_R hF hd' h0 hget ?_⟩
            have := hk _ _ hget
            have hm : ((e.ev ρ).int.toNat * sh.length + g) % sh.length = g := by
              rw [Nat.add_comm, Nat.add_mul_mod_self_right, Nat.mod_eq_of_lt hg']
            simp only [hm, List.getD_eq_getElem?_getD, hsh] at this
            exact this
          split at hd
          · rename_i ht
            split at hd
            · rename_i k hsh
              obtain ⟨v, hv, hr⟩ := hcell f k hf hsh d hd
              exact ⟨v, red (loadVar_one ht ho (by rw [hden]; exact hv)), hr⟩
            · cases hd
          · rename_i ht
            split at hd
            · rename_i i hi
              split at hd
              · rename_i hfit
                simp only [Option.map_eq_some_iff] at hd
                obtain ⟨ds, hds, rfl⟩ := hd
                obtain ⟨hl1, hl2⟩ := list_mapM_some hds
                simp at hl1
                have hget : ∀ j, j < i.size → ∃ v, c[o.den ρ + j]? = some v := fun j hj => by
                  have := hbound (f + j) (by omega)
                  exact ⟨c[o.den ρ + j]'(by omega), by simp⟩
                refine ⟨.agg ((List.range i.size).map fun j => c.getD (o.den ρ + j) undef).toArray, red ?_, ?_⟩
                · refine loadVar_many ht hi ho (by simp) (fun j v hv => ?_)
                  simp only [List.getElem?_map, Option.map_eq_some_iff] at hv
                  obtain ⟨j', hj', rfl⟩ := hv
                  obtain ⟨hlt, rfl⟩ := range_get hj'
                  obtain ⟨v, hv⟩ := hget j hlt
                  simp [Array.getD_eq_getD_getElem?, hv]
                · simp only [DV.R]
                  refine ⟨_, rfl, DV.RL.of_get (by simp; omega) (fun j d' hd' => ?_)⟩
                  obtain ⟨j', hj', hbnd⟩ := hl2 j d' hd'
                  obtain ⟨hlt, rfl⟩ := range_get hj'
                  simp only [Option.bind_eq_some_iff] at hbnd
                  obtain ⟨k, hsh, hcd⟩ := hbnd
                  obtain ⟨v, hv, hr⟩ := hcell (f + j) k (by omega) hsh d' hcd
                  refine ⟨v, ?_, hr⟩
                  rw [show (q.ev ρ).int.toNat + ((e.ev ρ).int.toNat * sh.length + (f + j)) = o.den ρ + j by omega] at hv
                  simp [hlt, Array.getD_eq_getD_getElem?, hv]
              · cases hd
            · cases hd
          · cases hd
        · cases hd
      · cases hd
    · cases hd
  · cases hd

end

end Go.Eng
