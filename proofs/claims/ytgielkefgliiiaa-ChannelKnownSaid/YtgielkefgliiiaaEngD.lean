/-
  The operations that only reckon: what they make of symbolic values.
-/
import Derived.Test.YtgielkefgliiiaaEngC
import Derived.WalkSpells
import Derived.WalkLawsBesides
import Derived.Laws.StructEq
import Derived.ChangeKeysEq
namespace Go.Eng

/-- A constant as a symbolic value. -/
def DV.ofV : Nat → Value → Option DV
  | 0, _ => none
  | n + 1, v => match v with
    | .int k z => some (.int k (.li z))
    | .bool b => some (.bool (.lb b))
    | .string s => some (.str (.ls s))
    | .pointer none => some .nilp
    | .slice none 0 0 => some .nils
    | .map none => some .nilm
    | .nilFunc => some .nilf
    | .nilIface => some .nili
    | .agg a => (a.toList.mapM (DV.ofV n)).map .agg
    | .tuple a => (a.toList.mapM (DV.ofV n)).map .tup
    | .iface t v => (DV.ofV n v).map (.ifc t)
    | .func f x y => match x.toList.mapM (DV.ofV n), y.toList.mapM (DV.ofV n) with
      | some a, some b => some (.fn f a b)
      | _, _ => none
    | _ => none

theorem RL_of_mapM {m : Emb} {ρ : Env} {f : Value → Option DV} (hf : ∀ v d, f v = some d → d.R m ρ v) : ∀ {l : List Value} {r : List DV}, l.mapM f = some r → DV.RL m ρ r l
  | [], r, h => by simp at h; subst h; simp [DV.RL]
  | v :: l, r, h => by
    simp only [List.mapM_cons, Option.bind_eq_bind, Option.pure_def, Option.bind_eq_some_iff] at h
    obtain ⟨d, hd, rs, hr, he⟩ := h
    simp at he; subst he
    simp only [DV.RL]
    exact ⟨v, l, rfl, hf _ _ hd, RL_of_mapM hf hr⟩

theorem DV.ofV_R (m : Emb) (ρ : Env) : ∀ (n : Nat) {v : Value} {d : DV}, DV.ofV n v = some d → d.R m ρ v := by
  intro n
  induction n with
  | zero => intro v d h; simp [DV.ofV] at h
  | succ n ih =>
    intro v d h
    simp only [DV.ofV] at h
    split at h
    · cases h; rfl
    · cases h; rfl
    · cases h; rfl
    · cases h; rfl
    · cases h; rfl
    · cases h; rfl
    · cases h; rfl
    · cases h; rfl
    · simp only [Option.map_eq_some_iff] at h
      obtain ⟨r, hr, rfl⟩ := h
      simp only [DV.R]
      exact ⟨_, rfl, RL_of_mapM (fun v d h => ih h) hr⟩
    · simp only [Option.map_eq_some_iff] at h
      obtain ⟨r, hr, rfl⟩ := h
      simp only [DV.R]
      exact ⟨_, rfl, RL_of_mapM (fun v d h => ih h) hr⟩
    · simp only [Option.map_eq_some_iff] at h
      obtain ⟨r, hr, rfl⟩ := h
      simp only [DV.R]
      exact ⟨_, rfl, ih hr⟩
    · split at h
      · rename_i h1 h2
        cases h
        simp only [DV.R]
        exact ⟨_, _, rfl, RL_of_mapM (fun v d h => ih h) h1, RL_of_mapM (fun v d h => ih h) h2⟩
      · cases h
    · cases h

/-- The cells of a value. -/
def DV.cells : DV → List DV
  | .agg l => l
  | d => [d]

theorem DV.R.cells {m : Emb} {ρ : Env} {d : DV} {v : Value} (h : d.R m ρ v) : DV.RL m ρ d.cells v.cells.toList := by
  cases d with
  | agg l => simp only [DV.R] at h; obtain ⟨vs, rfl, hl⟩ := h; exact hl
  | _ =>
    have h' := h
    simp only [DV.R] at h
    simp only [DV.cells, DV.RL]
    first
      | (subst h; exact ⟨_, [], rfl, h', rfl⟩)
      | (obtain ⟨x, y, rfl, hr⟩ := h; exact ⟨_, [], rfl, h', rfl⟩)
      | (obtain ⟨x, rfl, hr⟩ := h; exact ⟨_, [], rfl, h', rfl⟩)
      | (obtain ⟨x, hr, rfl⟩ := h; exact ⟨_, [], rfl, h', rfl⟩)
      | (obtain ⟨x, hr, rfl, _⟩ := h; exact ⟨_, [], rfl, h', rfl⟩)

def andE (a b : E) : E :=
  match a, b with
  | .lb true, b => b
  | .lb false, _ => .lb false
  | a, .lb true => a
  | _, .lb false => .lb false
  | a, b => .bi .and a b

theorem andE_bool (ρ : Env) (a b : E) : ((andE a b).ev ρ).bool = ((a.ev ρ).bool && (b.ev ρ).bool) := by
  unfold andE
  split <;> simp [E.ev, B2.ev]

def orE (a b : E) : E :=
  match a, b with
  | .lb false, b => b
  | .lb true, _ => .lb true
  | a, .lb false => a
  | _, .lb true => .lb true
  | a, b => .bi .or a b

theorem orE_bool (ρ : Env) (a b : E) : ((orE a b).ev ρ).bool = ((a.ev ρ).bool || (b.ev ρ).bool) := by
  unfold orE
  split <;> simp [E.ev, B2.ev]

section
variable (P : Program) (F : Facts)

def aggT (t : TypeId) : Option Bool :=
  match P.underlying t with
  | some (.struct _) | some (.array _ _) => some true
  | some _ => some false
  | none => none

def partD (t : TypeId) (l : List DV) (off : Nat) : Option DV :=
  match aggT P t, P.info? t with
  | some true, some i => if off + i.size ≤ l.length then some (.agg ((l.drop off).take i.size)) else none
  | some false, _ => l[off]?
  | _, _ => none

def eqFieldsD (rec : TypeId → DV → DV → Option E) (xs ys : List DV) : List Field → Option E
  | [] => some (.lb true)
  | f :: r => if f.name = "_" then eqFieldsD rec xs ys r else
    match partD P f.type xs f.offset, partD P f.type ys f.offset with
    | some a, some b => match rec f.type a b with
      | some e => (eqFieldsD rec xs ys r).map (andE e)
      | none => none
    | _, _ => none

def eqItemsD (rec : TypeId → DV → DV → Option E) (e : TypeId) (c : Nat) (xs ys : List DV) : List Nat → Option E
  | [] => some (.lb true)
  | i :: r =>
    match partD P e xs (i * c), partD P e ys (i * c) with
    | some a, some b => match rec e a b with
      | some x => (eqItemsD rec e c xs ys r).map (andE x)
      | none => none
    | _, _ => none

/-- '==' of two values of one type. -/
def eqD : Nat → TypeId → DV → DV → Option E
  | 0, _, _, _ => none
  | n + 1, t, x, y =>
    match P.underlying t, x, y with
    | some .bool, .bool a, .bool b => some (boolE F (.bi .eqb a b))
    | some (.int _), .int k a, .int k' b => if k = k' then some (boolE F (.bi .eqi a b)) else none
    | some .string, .str a, .str b => some (boolE F (.bi .eqs a b))
    | some (.pointer _), .nilp, .nilp => some (.lb true)
    | some (.pointer _), .nilp, .ptr _ _ => some (.lb false)
    | some (.pointer _), .ptr _ _, .nilp => some (.lb false)
    | some (.pointer _), .nilp, .gptr _ _ => some (.lb false)
    | some (.pointer _), .gptr _ _, .nilp => some (.lb false)
    | some (.interface _), .nili, .nili => some (.lb true)
    | some (.interface _), .nili, .ifc _ _ => some (.lb false)
    | some (.interface _), .ifc _ _, .nili => some (.lb false)
    | some (.interface _), .ifc tx a, .ifc ty b => if tx = ty then
        match P.info? tx with
        | some i => if i.comparable then eqD n tx a b else none
        | none => none
      else some (.lb false)
    | some (.struct fs), .agg xs, .agg ys => if P.stoodInHeld t then none else eqFieldsD P (eqD n) xs ys fs.toList
    | some (.array len e), .agg xs, .agg ys => match P.info? e with
      | some i => eqItemsD P (eqD n) e i.size xs ys (List.range len)
      | none => none
    | some (.slice _), .nils, .nils => some (.lb true)
    | some (.slice _), .nils, .slc _ _ _ _ => some (.lb false)
    | some (.slice _), .slc _ _ _ _, .nils => some (.lb false)
    | some (.map _ _), .nilm, .nilm => some (.lb true)
    | some (.map _ _), .nilm, .mp _ => some (.lb false)
    | some (.map _ _), .mp _, .nilm => some (.lb false)
    | some (.func _ _ _), .nilf, .nilf => some (.lb true)
    | some (.func _ _ _), .nilf, .fn _ _ _ => some (.lb false)
    | some (.func _ _ _), .fn _ _ _, .nilf => some (.lb false)
    | _, _, _ => none

variable {P} {F}

theorem partD_sound {m : Emb} {ρ : Env} {w : World} {t : TypeId} {l : List DV} {off : Nat} {d : DV} (h : partD P t l off = some d) {vs : Array Value} (hl : DV.RL m ρ l vs.toList) :
    ∃ v, (part t vs off).run P w = .ok v w ∧ d.R m ρ v := by
  unfold partD at h
  split at h
  · rename_i i ha hi
    split at h
    · rename_i hle
      cases h
      unfold aggT at ha
      have hlen := hl.length
      refine ⟨.agg (vs.extract off (off + i.size)), ?_, ?_⟩
      · have hu : ∃ d, P.underlying t = some d ∧ (match d with | .struct _ | .array _ _ => true | _ => false) = true := by
          split at ha <;> simp_all
        obtain ⟨d, hu, hd⟩ := hu
        cases d <;> simp at hd <;> simp [part, isAgg, run_underlying hu, sizeOf, typeInfo, hi]
      · simp only [DV.R]
        refine ⟨_, rfl, DV.RL.of_get ?_ ?_⟩
        · simp at hlen ⊢; omega
        · intro j d hd
          rw [List.getElem?_take] at hd
          split at hd
          · rename_i hj
            rw [List.getElem?_drop] at hd
            obtain ⟨v, hv, hr⟩ := hl.get hd
            refine ⟨v, ?_, hr⟩
            rw [Array.toList_extract]
            simp only [List.extract_eq_take_drop]
            rw [List.getElem?_take, if_pos (by omega), List.getElem?_drop]; exact hv
          · cases hd
    · cases h
  · rename_i ha
    unfold aggT at ha
    obtain ⟨v, hv, hr⟩ := hl.get h
    refine ⟨v, ?_, hr⟩
    have hv' : vs[off]? = some v := by simpa using hv
    have hu : ∃ d, P.underlying t = some d ∧ (match d with | .struct _ | .array _ _ => true | _ => false) = false := by
      split at ha <;> simp_all
    obtain ⟨d, hu, hd⟩ := hu
    cases d <;> simp at hd <;> simp [part, isAgg, run_underlying hu, hv']
  · cases h

/-- What 'eqD' tells is what '==' answers. -/
def EqOk (P : Program) (m : Emb) (ρ : Env) (rec : TypeId → DV → DV → Option E) (d : Nat) : Prop :=
  ∀ (w : World) (t : TypeId) (x y : DV) (e : E) (vx vy : Value), rec t x y = some e → x.R m ρ vx → y.R m ρ vy → (Op.equalIn d t vx vy).run P w = .ok (e.ev ρ).bool w

theorem eqFieldsD_sound {m : Emb} {ρ : Env} {rec : TypeId → DV → DV → Option E} {d : Nat} (hrec : EqOk P m ρ rec d) {xs ys : List DV} {vx vy : Array Value} (hx : DV.RL m ρ xs vx.toList) (hy : DV.RL m ρ ys vy.toList) (w : World) :
    ∀ (fs : List Field) (e : E), eqFieldsD P rec xs ys fs = some e → (Op.eqFields d vx vy fs).run P w = .ok (e.ev ρ).bool w
  | [], e, h => by simp [eqFieldsD] at h; subst h; simp [Op.eqFields, E.ev]
  | f :: fs, e, h => by
    simp only [eqFieldsD] at h
    split at h
    · rename_i hn
      have ih := eqFieldsD_sound hrec hx hy w fs e h
      simp only [Op.eqFields, hn, ne_eq, not_true_eq_false, if_false]
      exact ih
    · rename_i hn
      split at h
      · rename_i a b ha hb
        split at h
        · rename_i x hx'
          simp only [Option.map_eq_some_iff] at h
          obtain ⟨r, hr, rfl⟩ := h
          obtain ⟨va, hva, ra⟩ := partD_sound (w := w) ha hx
          obtain ⟨vb, hvb, rb⟩ := partD_sound (w := w) hb hy
          have he := hrec w f.type a b x va vb hx' ra rb
          have ih := eqFieldsD_sound hrec hx hy w fs r hr
          simp only [Op.eqFields, ne_eq, hn, not_false_eq_true, if_true, Sem.run_bind, hva, hvb, he, Result.andThen_ok, andE_bool]
          cases hb' : (x.ev ρ).bool
          · simp
          · simp [ih]
        · cases h
      · cases h

theorem eqItemsD_sound {m : Emb} {ρ : Env} {rec : TypeId → DV → DV → Option E} {d : Nat} (hrec : EqOk P m ρ rec d) {xs ys : List DV} {vx vy : Array Value} (hx : DV.RL m ρ xs vx.toList) (hy : DV.RL m ρ ys vy.toList) (w : World) (t : TypeId) (c : Nat) :
    ∀ (is : List Nat) (e : E), eqItemsD P rec t c xs ys is = some e → (Op.eqItems d t c vx vy is).run P w = .ok (e.ev ρ).bool w
  | [], e, h => by simp [eqItemsD] at h; subst h; simp [Op.eqItems, E.ev]
  | i :: is, e, h => by
    simp only [eqItemsD] at h
    split at h
    · rename_i a b ha hb
      split at h
      · rename_i x hx'
        simp only [Option.map_eq_some_iff] at h
        obtain ⟨r, hr, rfl⟩ := h
        obtain ⟨va, hva, ra⟩ := partD_sound (w := w) ha hx
        obtain ⟨vb, hvb, rb⟩ := partD_sound (w := w) hb hy
        have he := hrec w t a b x va vb hx' ra rb
        have ih := eqItemsD_sound hrec hx hy w t c is r hr
        simp only [Op.eqItems, Sem.run_bind, hva, hvb, he, Result.andThen_ok, andE_bool]
        cases hb' : (x.ev ρ).bool
        · simp
        · simp [ih]
      · cases h
    · cases h

theorem beq_bytes (a b : ByteArray) : (a == b) = decide (a = b) := by
  have h1 : (a == b) = (a.data == b.data) := by cases a; cases b; rfl
  rw [h1, Bool.eq_iff_iff]
  cases a; cases b
  simp

set_option maxHeartbeats 4000000 in
theorem eqD_sound {m : Emb} {ρ : Env} (hF : F.ok ρ) : ∀ (n k : Nat), EqOk P m ρ (eqD P F n) (n + k) := by
  intro n
  induction n with
  | zero => intro k w t x y e vx vy h; simp [eqD] at h
  | succ n ih =>
    intro k w t x y e vx vy h hx hy
    rw [show n + 1 + k = (n + k) + 1 by omega]
    simp only [eqD] at h
    split at h
    · rename_i hu; cases h; simp only [DV.R] at hx hy; subst hx; subst hy
      rw [boolE_bool hF]
      simp only [Op.equalIn, Sem.run_bind, run_underlying hu, Result.andThen_ok, E.ev, B2.ev, Sc.bool_B]
      simp
      congr 1
    · rename_i hu
      split at h
      · rename_i hk; cases h; simp only [DV.R] at hx hy; subst hx; subst hy
        rw [boolE_bool hF]
        simp only [Op.equalIn, Sem.run_bind, run_underlying hu, Result.andThen_ok, E.ev, B2.ev, Sc.bool_B, hk, if_true]
        simp
        congr 1
      · cases h
    · rename_i hu; cases h; simp only [DV.R] at hx hy; subst hx; subst hy
      rw [boolE_bool hF]
      simp only [Op.equalIn, Sem.run_bind, run_underlying hu, Result.andThen_ok, E.ev, B2.ev, Sc.bool_B, beq_bytes]
      simp
    · rename_i hu; cases h; simp only [DV.R] at hx hy; subst hx; subst hy
      simp [Op.equalIn, run_underlying hu, E.ev]
    · rename_i hu; cases h; simp only [DV.R] at hx hy; obtain ⟨b, _, rfl⟩ := hy; subst hx
      simp [Op.equalIn, run_underlying hu, E.ev]
    · rename_i hu; cases h; simp only [DV.R] at hx hy; obtain ⟨b, _, rfl⟩ := hx; subst hy
      simp [Op.equalIn, run_underlying hu, E.ev]
    · rename_i hu; cases h; simp only [DV.R] at hx hy; subst hx; subst hy
      simp [Op.equalIn, run_underlying hu, E.ev]
    · rename_i hu; cases h; simp only [DV.R] at hx hy; subst hx; subst hy
      simp [Op.equalIn, run_underlying hu, E.ev]
    · rename_i hu; cases h; simp only [DV.R] at hx hy; subst hx; subst hy
      simp [Op.equalIn, run_underlying hu, E.ev]
    · rename_i hu; cases h; simp only [DV.R] at hx hy; obtain ⟨b, rfl, _⟩ := hy; subst hx
      simp [Op.equalIn, run_underlying hu, E.ev]
    · rename_i hu; cases h; simp only [DV.R] at hx hy; obtain ⟨b, rfl, _⟩ := hx; subst hy
      simp [Op.equalIn, run_underlying hu, E.ev]
    · rename_i hu
      simp only [DV.R] at hx hy
      obtain ⟨va, rfl, ra⟩ := hx
      obtain ⟨vb, rfl, rb⟩ := hy
      split at h
      · rename_i ht
        subst ht
        split at h
        · rename_i i hi
          split at h
          · rename_i hc
            have := ih k w _ _ _ e va vb h ra rb
            simp [Op.equalIn, run_underlying hu, typeInfo, hi, hc, this]
          · cases h
        · cases h
      · rename_i ht
        cases h
        simp [Op.equalIn, run_underlying hu, ht, E.ev]
    · rename_i fs xs' ys' hu
      split at h
      · cases h
      · rename_i hs
        simp only [DV.R] at hx hy
        obtain ⟨va, rfl, ra⟩ := hx
        obtain ⟨vb, rfl, rb⟩ := hy
        have hfo : P.fieldsOf t = fs := by simp only [Program.fieldsOf, hu]
        rw [run_equalIn_struct w (n + k) t va vb (by rw [hfo]; exact hu) (by simpa using hs)]
        rw [hfo]
        exact eqFieldsD_sound (ih k) ra rb w _ e h
    · rename_i hu
      split at h
      · rename_i i hi
        simp only [DV.R] at hx hy
        obtain ⟨va, rfl, ra⟩ := hx
        obtain ⟨vb, rfl, rb⟩ := hy
        rw [run_equalIn_array w (n + k) va vb hu hi]
        simp only [show ∀ e', P.info? e' = some i → P.cellsOf e' = i.size from fun e' he' => by simp [Program.cellsOf, he'], hi]
        exact eqItemsD_sound (ih k) ra rb w _ _ _ e h
      · cases h
    · rename_i hu; cases h; simp only [DV.R] at hx hy; subst hx; subst hy
      simp [Op.equalIn, run_underlying hu, E.ev]
    · rename_i hu; cases h; simp only [DV.R] at hx hy; obtain ⟨b, _, rfl, _⟩ := hy; subst hx
      simp [Op.equalIn, run_underlying hu, E.ev]
    · rename_i hu; cases h; simp only [DV.R] at hx hy; obtain ⟨b, _, rfl, _⟩ := hx; subst hy
      simp [Op.equalIn, run_underlying hu, E.ev]
    · rename_i hu; cases h; simp only [DV.R] at hx hy; subst hx; subst hy
      simp [Op.equalIn, run_underlying hu, E.ev]
    · rename_i hu; cases h; simp only [DV.R] at hx hy; obtain ⟨b, _, rfl⟩ := hy; subst hx
      simp [Op.equalIn, run_underlying hu, E.ev]
    · rename_i hu; cases h; simp only [DV.R] at hx hy; obtain ⟨b, _, rfl⟩ := hx; subst hy
      simp [Op.equalIn, run_underlying hu, E.ev]
    · rename_i hu; cases h; simp only [DV.R] at hx hy; subst hx; subst hy
      simp [Op.equalIn, run_underlying hu, E.ev]
    · rename_i hu; cases h; simp only [DV.R] at hx hy; obtain ⟨b, _, rfl, _⟩ := hy; subst hx
      simp [Op.equalIn, run_underlying hu, E.ev]
    · rename_i hu; cases h; simp only [DV.R] at hx hy; obtain ⟨b, _, rfl, _⟩ := hx; subst hy
      simp [Op.equalIn, run_underlying hu, E.ev]
    · cases h
end

end Go.Eng
