/-
  Segments of a body: from the entry, or from the head of a loop, to the head of a loop or the end; what a state is at the head of a loop.
-/
import Derived.Test.YtcebboibpbbgdaaGreatDoorEngG9
import Derived.LoopN
namespace Go.Eng
open Go.RowKit

/-! ### Substitution -/

def E.sub (σ : T E) : E → E
  | .vr n => match σ.get n with | some e => e | none => .vr n
  | .li n => .li n
  | .lb w => .lb w
  | .ls x => .ls x
  | .un o a => .un o (a.sub σ)
  | .bi o a b => .bi o (a.sub σ) (b.sub σ)
  | .tr o a b c => .tr o (a.sub σ) (b.sub σ) (c.sub σ)

def Env.upd (ρ : Env) (σ : T E) : Env := { ρ with v := fun n => match σ.get n with | some e => e.ev ρ | none => ρ.v n }

theorem E.sub_ev (σ : T E) (ρ : Env) : ∀ e : E, (e.sub σ).ev ρ = e.ev (ρ.upd σ)
  | .vr n => by
    simp only [E.sub, E.ev, Env.upd]
    cases h : σ.get n <;> simp [E.ev]
  | .li n => rfl
  | .lb w => rfl
  | .ls x => rfl
  | .un o a => by simp only [E.sub, E.ev, E.sub_ev σ ρ a]
  | .bi o a b => by simp only [E.sub, E.ev, E.sub_ev σ ρ a, E.sub_ev σ ρ b]
  | .tr o a b c => by
    simp only [E.sub, E.ev, E.sub_ev σ ρ a, E.sub_ev σ ρ b, E.sub_ev σ ρ c]
    cases o <;> rfl

def eqE (σ : T E) (e e' : E) : Bool := (e.sub σ).same e'

theorem eqE_ok {σ : T E} {e e' : E} (h : eqE σ e e' = true) (ρ : Env) : e.ev (ρ.upd σ) = e'.ev ρ := by
  rw [← E.sub_ev, E.same_eq h]

/-! ### Matching -/

def eqTerms (σ : T E) : List (E × Nat) → List (E × Nat) → Bool
  | [], [] => true
  | (e, s) :: r, (e', s') :: r' => eqE σ e e' && s == s' && eqTerms σ r r'
  | _, _ => false

theorem eqTerms_ok {σ : T E} (ρ : Env) : ∀ {l l' : List (E × Nat)}, eqTerms σ l l' = true → sumT (ρ.upd σ) l = sumT ρ l'
  | [], [], _ => rfl
  | (e, s) :: r, (e', s') :: r', h => by
    simp only [eqTerms, Bool.and_eq_true, beq_iff_eq] at h
    obtain ⟨⟨h1, rfl⟩, h3⟩ := h
    simp only [sumT, eqE_ok h1 ρ, eqTerms_ok ρ h3]
  | [], _ :: _, h => by simp [eqTerms] at h
  | _ :: _, [], h => by simp [eqTerms] at h

def eqOff (σ : T E) (o o' : Off) : Bool := o.base == o'.base && eqTerms σ o.terms o'.terms

theorem eqOff_ok {σ : T E} (ρ : Env) {o o' : Off} (h : eqOff σ o o' = true) : o.den (ρ.upd σ) = o'.den ρ := by
  simp only [eqOff, Bool.and_eq_true, beq_iff_eq] at h
  simp only [Off.den, h.1, eqTerms_ok ρ h.2]

def eqCap (σ : T E) : Cap → Cap → Bool
  | .ex e, .ex e' => eqE σ e e'
  | .own e, .own e' => eqE σ e e'
  | _, _ => false

section
variable (σ : T E) (r : Nat → Nat) (n : Nat)

mutual
def matchD : DV → DV → Bool
  | .int k e, .int k' e' => k == k' && eqE σ e e'
  | .bool e, .bool e' => eqE σ e e'
  | .str e, .str e' => eqE σ e e'
  | .ptr id o, .ptr id' o' => decide (id < n) && r id == id' && eqOff σ o o'
  | .nilp, .nilp => true
  | .gptr g off, .gptr g' off' => g == g' && off == off'
  | .slc id o len cap, .slc id' o' len' cap' => decide (id < n) && r id == id' && eqOff σ o o' && eqE σ len len' && eqCap σ cap cap'
  | .nils, .nils => true
  | .mt, .mt => true
  | .agg l, .agg l' => matchDL l l'
  | .tup l, .tup l' => matchDL l l'
  | .ifc t d, .ifc t' d' => t == t' && matchD d d'
  | .nili, .nili => true
  | .fn (.func f) a c, .fn (.func f') a' c' => f == f' && matchDL a a' && matchDL c c'
  | .nilf, .nilf => true
  | .mp id, .mp id' => decide (id < n) && r id == id'
  | .nilm, .nilm => true
  | _, _ => false
def matchDL : List DV → List DV → Bool
  | [], [] => true
  | d :: l, d' :: l' => matchD d d' && matchDL l l'
  | _, _ => false
end

def Emb.pull (m : Emb) (r : Nat → Nat) (n : Nat) : Emb := ⟨fun id => if id < n then m.ι (r id) else none, fun id => m.κ (r id)⟩

variable {σ r n}

theorem eqCap_ok {m : Emb} (ρ : Env) {id : Nat} {c c' : Cap} (h : eqCap σ c c' = true) : c.den (m.pull r n) (ρ.upd σ) id = c'.den m ρ (r id) := by
  cases c <;> cases c' <;> simp only [eqCap, Bool.false_eq_true] at h
  · simp only [Cap.den, eqE_ok h ρ]
  · simp only [Cap.den, eqE_ok h ρ, Emb.pull]

mutual
theorem matchD_ok {m : Emb} {ρ : Env} : ∀ {d d' : DV} {v : Value}, matchD σ r n d d' = true → d'.R m ρ v → d.R (m.pull r n) (ρ.upd σ) v
  | .int k e, .int k' e', v, h, hr => by
    simp only [matchD, Bool.and_eq_true, beq_iff_eq] at h
    simp only [DV.R] at hr ⊢; rw [hr, h.1, eqE_ok h.2]
  | .bool e, .bool e', v, h, hr => by
    simp only [matchD] at h
    simp only [DV.R] at hr ⊢; rw [hr, eqE_ok h]
  | .str e, .str e', v, h, hr => by
    simp only [matchD] at h
    simp only [DV.R] at hr ⊢; rw [hr, eqE_ok h]
  | .ptr id o, .ptr id' o', v, h, hr => by
    simp only [matchD, Bool.and_eq_true, beq_iff_eq, decide_eq_true_eq] at h
    simp only [DV.R] at hr ⊢
    obtain ⟨b, hb, hv⟩ := hr
    obtain ⟨⟨h1, h2⟩, h3⟩ := h
    exact ⟨b, by simp only [Emb.pull, h1, if_true, h2]; exact hb, by rw [eqOff_ok ρ h3]; exact hv⟩
  | .nilp, .nilp, v, h, hr => hr
  | .gptr g off, .gptr g' off', v, h, hr => by
    simp only [matchD, Bool.and_eq_true, beq_iff_eq] at h
    simp only [DV.R] at hr ⊢; rw [hr, h.1, h.2]
  | .slc id o len cap, .slc id' o' len' cap', v, h, hr => by
    simp only [matchD, Bool.and_eq_true, beq_iff_eq, decide_eq_true_eq] at h
    simp only [DV.R] at hr ⊢
    obtain ⟨b, hb, hv, h0, hc⟩ := hr
    obtain ⟨⟨⟨⟨h1, h2⟩, h3⟩, h4⟩, h5⟩ := h
    subst h2
    exact ⟨b, by simp only [Emb.pull, h1, if_true]; exact hb, by rw [eqOff_ok ρ h3, eqE_ok h4, eqCap_ok ρ h5]; exact hv, by rw [eqE_ok h4]; exact h0, by rw [eqE_ok h4, eqCap_ok ρ h5]; exact hc⟩
  | .nils, .nils, v, h, hr => hr
  | .mt, .mt, v, h, hr => hr
  | .agg l, .agg l', v, h, hr => by
    simp only [matchD] at h
    simp only [DV.R] at hr ⊢
    obtain ⟨vs, hv, hl⟩ := hr
    exact ⟨vs, hv, matchDL_ok h hl⟩
  | .tup l, .tup l', v, h, hr => by
    simp only [matchD] at h
    simp only [DV.R] at hr ⊢
    obtain ⟨vs, hv, hl⟩ := hr
    exact ⟨vs, hv, matchDL_ok h hl⟩
  | .ifc t d, .ifc t' d', v, h, hr => by
    simp only [matchD, Bool.and_eq_true, beq_iff_eq] at h
    simp only [DV.R] at hr ⊢
    obtain ⟨x, hv, hl⟩ := hr
    exact ⟨x, by rw [h.1]; exact hv, matchD_ok h.2 hl⟩
  | .nili, .nili, v, h, hr => hr
  | .fn f a c, d', v, h, hr => by
    cases f <;> cases d' <;> try (simp [matchD] at h; done)
    rename_i f f' a' c'
    cases f' <;> try (simp [matchD] at h; done)
    simp only [matchD, Bool.and_eq_true, beq_iff_eq] at h
    simp only [DV.R] at hr ⊢
    obtain ⟨x, y, hv, h1, h2⟩ := hr
    exact ⟨x, y, by rw [h.1.1]; exact hv, matchDL_ok h.1.2 h1, matchDL_ok h.2 h2⟩
  | .nilf, .nilf, v, h, hr => hr
  | .mp id, .mp id', v, h, hr => by
    simp only [matchD, Bool.and_eq_true, beq_iff_eq, decide_eq_true_eq] at h
    simp only [DV.R] at hr ⊢
    obtain ⟨b, hb, hv⟩ := hr
    exact ⟨b, by simp only [Emb.pull, h.1, if_true, h.2]; exact hb, hv⟩
  | .nilm, .nilm, v, h, hr => hr
theorem matchDL_ok {m : Emb} {ρ : Env} : ∀ {l l' : List DV} {vs : List Value}, matchDL σ r n l l' = true → DV.RL m ρ l' vs → DV.RL (m.pull r n) (ρ.upd σ) l vs
  | [], [], vs, h, hr => hr
  | d :: l, d' :: l', vs, h, hr => by
    simp only [matchDL, Bool.and_eq_true] at h
    simp only [DV.RL] at hr ⊢
    obtain ⟨v, vr, hv, h1, h2⟩ := hr
    exact ⟨v, vr, hv, matchD_ok h.1 h1, matchDL_ok h.2 h2⟩
end
end
end Go.Eng

/-
  Expressions rebuilt under what is known.
-/
namespace Go.Eng
open Go.RowKit

mutual
def DV.scal : DV → Bool
  | .int _ _ => true
  | .bool _ => true
  | .str _ => true
  | .tup l => DV.scalL l
  | .agg l => DV.scalL l
  | _ => false
def DV.scalL : List DV → Bool
  | [] => true
  | d :: r => DV.scal d && DV.scalL r
end

inductive So where
  | I | B | S
  deriving DecidableEq

def So.eq : So → Sc → Sc → Prop
  | .I, a, b => a.int = b.int
  | .B, a, b => a.bool = b.bool
  | .S, a, b => a.str = b.str

theorem So.eq_of {s : So} {a b : Sc} (h : a = b) : s.eq a b := by subst h; cases s <;> rfl

def andB (x y : E) : E := match x, y with
  | .lb true, y => y
  | .lb false, _ => .lb false
  | x, .lb true => x
  | _, .lb false => .lb false
  | x, y => .bi .and x y
def orB (x y : E) : E := match x, y with
  | .lb true, _ => .lb true
  | .lb false, y => y
  | _, .lb true => .lb true
  | x, .lb false => x
  | x, y => .bi .or x y
theorem andB_bool (ρ : Env) (x y : E) : ((andB x y).ev ρ).bool = ((x.ev ρ).bool && (y.ev ρ).bool) := by
  unfold andB; split <;> simp [E.ev, B2.ev]
theorem orB_bool (ρ : Env) (x y : E) : ((orB x y).ev ρ).bool = ((x.ev ρ).bool || (y.ev ρ).bool) := by
  unfold orB; split <;> simp [E.ev, B2.ev]

/-- An expression with others in its variables' places, rebuilt under what is known. -/
def E.r (F : Facts) (σ : T E) : So → E → E
  | s, .tr .ite c a b => match (c.r F σ .B).dec F with
    | some true => a.r F σ s
    | some false => b.r F σ s
    | none => if (a.r F σ s).same (b.r F σ s) then a.r F σ s else .tr .ite (c.r F σ .B) (a.r F σ s) (b.r F σ s)
  | .I, .un (.wrap k) a => wrapI F k (a.r F σ .I)
  | .B, .un .not a => notB (a.r F σ .B)
  | .I, .bi .add a b => addI (a.r F σ .I) (b.r F σ .I)
  | .I, .bi .sub a b => subI (a.r F σ .I) (b.r F σ .I)
  | .I, .bi .mul a b => mulI (a.r F σ .I) (b.r F σ .I)
  | .I, .bi .tmod a b => lit2 .tmod (a.r F σ .I) (b.r F σ .I)
  | .I, .bi .tdiv a b => lit2 .tdiv (a.r F σ .I) (b.r F σ .I)
  | .I, .bi .fdiv a b => lit2 .fdiv (a.r F σ .I) (b.r F σ .I)
  | .I, .bi (.bits o k) a b => lit2 (.bits o k) (a.r F σ .I) (b.r F σ .I)
  | .B, .bi .lt a b => boolE F (.bi .lt (a.r F σ .I) (b.r F σ .I))
  | .B, .bi .eqi a b => boolE F (.bi .eqi (a.r F σ .I) (b.r F σ .I))
  | .B, .bi .eqb a b => boolE F (.bi .eqb (a.r F σ .B) (b.r F σ .B))
  | .B, .bi .and a b => boolE F (andB (a.r F σ .B) (b.r F σ .B))
  | .B, .bi .or a b => boolE F (orB (a.r F σ .B) (b.r F σ .B))
  | _, e => e.sub σ

theorem lit2_int (ρ : Env) (o : B2) (a b : E) : ((lit2 o a b).ev ρ).int = (o.ev (a.ev ρ) (b.ev ρ)).int := by rw [lit2_ev]

theorem E.r_ok {F : Facts} {ρ : Env} (hF : F.ok ρ) (σ : T E) : ∀ (e : E) (s : So), s.eq ((e.r F σ s).ev ρ) (e.ev (ρ.upd σ)) := by
  intro e
  have dflt : ∀ (e : E) (s : So), s.eq ((e.sub σ).ev ρ) (e.ev (ρ.upd σ)) := fun e s => So.eq_of (E.sub_ev σ ρ e)
  induction e with
  | vr n => intro s; cases s <;> exact dflt _ _
  | li n => intro s; cases s <;> exact dflt _ _
  | lb w => intro s; cases s <;> exact dflt _ _
  | ls x => intro s; cases s <;> exact dflt _ _
  | un o a ih =>
    intro s
    cases s <;> cases o <;> try exact dflt _ _
    · have := ih .I
      simp only [E.r, So.eq, E.ev, U.ev, Sc.int_I] at this ⊢
      rw [wrapI_int hF, this]
    · have := ih .B
      simp only [E.r, So.eq, E.ev, U.ev, Sc.bool_B] at this ⊢
      rw [notB_bool, this]
  | bi o a b iha ihb =>
    intro s
    have i1 := iha .I
    have i2 := ihb .I
    have b1 := iha .B
    have b2 := ihb .B
    simp only [So.eq] at i1 i2 b1 b2
    cases s <;> cases o <;> (try exact dflt _ _) <;> simp only [E.r, So.eq, E.ev, B2.ev, Sc.int_I, Sc.bool_B, addI_int, subI_int, mulI_int, lit2_int, boolE_bool hF, andB_bool, orB_bool, i1, i2, b1, b2]
  | tr o c a b ihc iha ihb =>
    intro s
    cases o <;> try (cases s <;> exact dflt _ _)
    have hc := ihc .B
    simp only [So.eq] at hc
    simp only [E.r]
    have key : ∀ (x : E), (((c.r F σ .B).ev ρ).bool = true → s.eq (x.ev ρ) (a.ev (ρ.upd σ))) → (((c.r F σ .B).ev ρ).bool = false → s.eq (x.ev ρ) (b.ev (ρ.upd σ))) → s.eq (x.ev ρ) ((E.tr .ite c a b).ev (ρ.upd σ)) := by
      intro x h1 h2
      simp only [E.ev, B3.ev]
      rw [hc] at h1 h2
      cases hv : (c.ev (ρ.upd σ)).bool
      · simpa [hv] using h2 hv
      · simpa [hv] using h1 hv
    split
    · rename_i hd
      have := E.dec_sound hF hd
      exact key _ (fun _ => iha s) (fun h => by rw [this] at h; cases h)
    · rename_i hd
      have := E.dec_sound hF hd
      exact key _ (fun h => by rw [this] at h; cases h) (fun _ => ihb s)
    · split
      · rename_i hs
        exact key _ (fun _ => iha s) (fun _ => by rw [E.same_eq hs]; exact ihb s)
      · refine key _ (fun h => ?_) (fun h => ?_)
        · simp only [E.ev, B3.ev, h, if_true]; exact iha s
        · simp only [E.ev, B3.ev, h, Bool.false_eq_true, if_false]; exact ihb s

mutual
def DV.r (F : Facts) (σ : T E) : DV → DV
  | .int k e => .int k (e.r F σ .I)
  | .bool e => .bool (e.r F σ .B)
  | .str e => .str (e.r F σ .S)
  | .tup l => .tup (DV.rL F σ l)
  | .agg l => .agg (DV.rL F σ l)
  | d => d
def DV.rL (F : Facts) (σ : T E) : List DV → List DV
  | [] => []
  | d :: r => DV.r F σ d :: DV.rL F σ r
end

mutual
theorem DV.r_R {F : Facts} {σ : T E} {m m' : Emb} {ρ : Env} (hF : F.ok ρ) : ∀ {d : DV} {v : Value}, d.scal = true → (d.R m' (ρ.upd σ) v ↔ (d.r F σ).R m ρ v)
  | .int k e, v, _ => by have := E.r_ok hF σ e .I; simp only [So.eq] at this; simp only [DV.r, DV.R, this]
  | .bool e, v, _ => by have := E.r_ok hF σ e .B; simp only [So.eq] at this; simp only [DV.r, DV.R, this]
  | .str e, v, _ => by have := E.r_ok hF σ e .S; simp only [So.eq] at this; simp only [DV.r, DV.R, this]
  | .tup l, v, hs => by
    simp only [DV.r, DV.R]
    exact exists_congr fun vs => and_congr_right fun _ => DV.rL_R hF (by simpa [DV.scal] using hs)
  | .agg l, v, hs => by
    simp only [DV.r, DV.R]
    exact exists_congr fun vs => and_congr_right fun _ => DV.rL_R hF (by simpa [DV.scal] using hs)
  | .ptr _ _, _, hs => by simp [DV.scal] at hs
  | .nilp, _, hs => by simp [DV.scal] at hs
  | .gptr _ _, _, hs => by simp [DV.scal] at hs
  | .slc _ _ _ _, _, hs => by simp [DV.scal] at hs
  | .nils, _, hs => by simp [DV.scal] at hs
  | .mt, _, hs => by simp [DV.scal] at hs
  | .ifc _ _, _, hs => by simp [DV.scal] at hs
  | .nili, _, hs => by simp [DV.scal] at hs
  | .fn _ _ _, _, hs => by simp [DV.scal] at hs
  | .nilf, _, hs => by simp [DV.scal] at hs
  | .mp _, _, hs => by simp [DV.scal] at hs
  | .nilm, _, hs => by simp [DV.scal] at hs
theorem DV.rL_R {F : Facts} {σ : T E} {m m' : Emb} {ρ : Env} (hF : F.ok ρ) : ∀ {l : List DV} {vs : List Value}, DV.scalL l = true → (DV.RL m' (ρ.upd σ) l vs ↔ DV.RL m ρ (DV.rL F σ l) vs)
  | [], vs, _ => by simp only [DV.rL, DV.RL]
  | d :: r, vs, hs => by
    simp only [DV.scalL, Bool.and_eq_true] at hs
    simp only [DV.rL, DV.RL]
    exact exists_congr fun v => exists_congr fun vr => and_congr_right fun _ => and_congr (DV.r_R hF hs.1) (DV.rL_R hF hs.2)
end

end Go.Eng

/-
  Matching of blocks and of states.
-/
namespace Go.Eng
open Go.RowKit

section
variable (σ : T E) (r : Nat → Nat) (n : Nat)

/-- A template's cells may be fewer. -/
def matchPre : List DV → List DV → Bool
  | [], _ => true
  | d :: l, d' :: l' => matchD σ r n d d' && matchPre l l'
  | _, _ => false

/-- A variable of the package stands for itself. -/
def glOk : Md → Bool
  | .gl g => decide (g < n ∧ r g = g)
  | _ => true

def eqEs : List E → List E → Bool
  | [], [] => true
  | a :: l, b :: l' => eqE σ a b && eqEs l l'
  | _, _ => false

def matchB : Blk → Blk → Bool
  | .cells l t md, .cells l' t' md' => matchPre σ r n l l' && t == t' && (decide (md = md') || decide (md = .ro)) && glOk r n md
  | .arr q a k sh t md, .arr q' a' k' sh' t' md' => eqE σ q q' && eqE σ a a' && eqE σ k k' && decide (sh = sh') && t == t' && (decide (md = md') || decide (md = .ro)) && glOk r n md
  | .mix p a k sh s t md, .mix p' a' k' sh' s' t' md' => matchDL σ r n p p' && eqE σ a a' && eqE σ k k' && matchDL σ r n s s' && decide (sh = sh') && t == t' && (decide (md = md') || decide (md = .ro)) && glOk r n md
  | .mpb es, .mpb es' => matchDL σ r n (es.map (·.1)) (es'.map (·.1)) && matchDL σ r n (es.map (·.2)) (es'.map (·.2))
  | .itb mp seen last, .itb mp' seen' last' => decide (mp < n) && r mp == mp' && eqEs σ seen seen' && (last == none || last == last')
  | .dead, _ => true
  | _, _ => false

variable {σ r n}

theorem matchPre_ok {m : Emb} {ρ : Env} : ∀ {l l' : List DV}, matchPre σ r n l l' = true → l.length ≤ l'.length ∧ ∀ (i : Nat) (d : DV), l[i]? = some d → ∃ d', l'[i]? = some d' ∧ matchD σ r n d d' = true
  | [], l', _ => ⟨Nat.zero_le _, fun i d h => by simp at h⟩
  | d :: l, d' :: l', h => by
    simp only [matchPre, Bool.and_eq_true] at h
    obtain ⟨h1, h2⟩ := matchPre_ok (m := m) (ρ := ρ) h.2
    refine ⟨by simpa using h1, fun i e he => ?_⟩
    cases i with
    | zero => simp at he; subst he; exact ⟨d', rfl, h.1⟩
    | succ i => simp at he; simpa using h2 i e he
  | _ :: _, [], h => by simp [matchPre] at h

theorem glOk_ok {m : Emb} {md : Md} (h : glOk r n md = true) {k k' : Nat} (hk : k' = k) {c : Array Value} {fr : Nat × Nat} (ho : md.ok m k c fr) : md.ok (m.pull r n) k' c fr := by
  subst hk
  cases md with
  | gl g =>
    simp only [glOk, decide_eq_true_eq] at h
    simp only [Md.ok, Emb.pull] at ho ⊢
    rw [if_pos h.1, h.2]
    exact ho
  | ro => exact ho
  | rw => exact ho
  | own s => exact ho
  | reg l => exact ho

theorem eqEs_ok {ρ : Env} : ∀ {l l' : List E}, eqEs σ l l' = true → l.length = l'.length ∧ ∀ (i : Nat) (e : E), l[i]? = some e → ∃ e', l'[i]? = some e' ∧ e.ev (ρ.upd σ) = e'.ev ρ
  | [], [], _ => ⟨rfl, fun i e h => by simp at h⟩
  | [], _ :: _, h => by simp [eqEs] at h
  | _ :: _, [], h => by simp [eqEs] at h
  | a :: l, b :: l', h => by
    simp only [eqEs, Bool.and_eq_true] at h
    obtain ⟨h1, h2⟩ := eqEs_ok (ρ := ρ) h.2
    refine ⟨by simp [h1], fun i e he => ?_⟩
    cases i with
    | zero => simp at he; subst he; exact ⟨b, rfl, eqE_ok h.1 ρ⟩
    | succ i => simp at he; simpa using h2 i e he

theorem matchDL_length {l l' : List DV} (h : matchDL σ r n l l' = true) : l.length = l'.length := by
  induction l generalizing l' with
  | nil => cases l' <;> simp_all [matchDL]
  | cons d l ih =>
    cases l' with
    | nil => simp [matchDL] at h
    | cons d' l' => simp only [matchDL, Bool.and_eq_true] at h; simp [ih h.2]

theorem matchDL_get {l l' : List DV} (h : matchDL σ r n l l' = true) {i : Nat} {d : DV} (hd : l[i]? = some d) : ∃ d', l'[i]? = some d' ∧ matchD σ r n d d' = true := by
  induction l generalizing l' i with
  | nil => simp at hd
  | cons e l ih =>
    cases l' with
    | nil => simp [matchDL] at h
    | cons e' l' =>
      simp only [matchDL, Bool.and_eq_true] at h
      cases i with
      | zero => simp at hd; subst hd; exact ⟨e', rfl, h.1⟩
      | succ i => simp at hd; simpa using ih h.2 hd

theorem matchB_ok {m : Emb} {ρ : Env} {B B' : Blk} {id : Nat} {o : Obj} (h : matchB σ r n B B' = true) (hr : B'.R m ρ (m.κ (r id)) o) : B.R (m.pull r n) (ρ.upd σ) ((m.pull r n).κ id) o := by
  cases B with
  | dead => trivial
  | lpb L => cases B' <;> simp only [matchB, Bool.false_eq_true] at h
  | defb b => cases B' <;> simp only [matchB, Bool.false_eq_true] at h
  | mpb es =>
    cases B' <;> simp only [matchB, Bool.false_eq_true] at h
    rename_i es'
    simp only [Bool.and_eq_true] at h
    obtain ⟨en, clk, ho, h1, h2, h3⟩ := hr
    exact ⟨en, clk, ho, matchDL_ok h.1 h1, matchDL_ok h.2 h2, h3⟩
  | itb mp seen last =>
    cases B' <;> simp only [matchB, Bool.false_eq_true] at h
    rename_i mp' seen' last'
    simp only [Bool.and_eq_true, Bool.or_eq_true, beq_iff_eq, decide_eq_true_eq] at h
    obtain ⟨⟨⟨h1, h2⟩, h3⟩, h4⟩ := h
    obtain ⟨hlen, hes⟩ := eqEs_ok (ρ := ρ) h3
    obtain ⟨b, sn, ho, hb, hs, hl⟩ := hr
    refine ⟨b, sn, by rw [hlen]; exact ho, by simp only [Emb.pull, h1, if_true, h2]; exact hb, fun i e he => ?_, fun i hi => ?_⟩
    · obtain ⟨e', he', hev⟩ := hes i e he
      rw [hev]; exact hs i e' he'
    · rcases h4 with h4 | h4
      · rw [h4] at hi; cases hi
      · exact hl i (h4 ▸ hi)
  | cells l t md =>
    cases B' <;> simp only [matchB, Bool.false_eq_true] at h
    rename_i l' t' md'
    simp only [Bool.and_eq_true, Bool.or_eq_true, beq_iff_eq, decide_eq_true_eq] at h
    obtain ⟨⟨⟨h1, rfl⟩, hmd'⟩, hgl⟩ := h
    obtain ⟨hl, hd⟩ := matchPre_ok (m := m) (ρ := ρ) h1
    obtain ⟨c, fr, ho, hc, hcells, hmd⟩ := hr
    refine ⟨c, fr, ho, by omega, fun i d hi => ?_, by rcases hmd' with e | e <;> subst e <;> first | exact glOk_ok hgl rfl hmd | trivial⟩
    obtain ⟨d', hd', hm⟩ := hd i d hi
    obtain ⟨v, hv, hrv⟩ := hcells i d' hd'
    exact ⟨v, hv, matchD_ok hm hrv⟩
  | arr q a k sh t md =>
    cases B' <;> simp only [matchB, Bool.false_eq_true] at h
    rename_i q' a' k' sh' t' md'
    simp only [Bool.and_eq_true, Bool.or_eq_true, beq_iff_eq, decide_eq_true_eq] at h
    obtain ⟨⟨⟨⟨⟨⟨h1, h2⟩, h3⟩, rfl⟩, rfl⟩, hmd'⟩, hgl⟩ := h
    obtain ⟨c, fr, ho, ha, hq, hv, hs, hmd⟩ := hr
    refine ⟨c, fr, ho, ?_, ?_, ?_, ?_, by rcases hmd' with e | e <;> subst e <;> first | exact glOk_ok hgl rfl hmd | trivial⟩
    · rw [eqE_ok h2, eqE_ok h3]; exact ha
    · rw [eqE_ok h2, eqE_ok h1]; exact hq
    · rw [eqE_ok h2, eqE_ok h1]; exact hv
    · rw [eqE_ok h2]; exact hs
  | mix p a k sh s t md =>
    cases B' <;> simp only [matchB, Bool.false_eq_true] at h
    rename_i p' a' k' sh' s' t' md'
    simp only [Bool.and_eq_true, Bool.or_eq_true, beq_iff_eq, decide_eq_true_eq] at h
    obtain ⟨⟨⟨⟨⟨⟨⟨h1, h2⟩, h3⟩, h4⟩, rfl⟩, rfl⟩, hmd'⟩, hgl⟩ := h
    obtain ⟨c, fr, ho, ha, hq, hp, hv, hk, hs, hmd⟩ := hr
    have l1 := matchDL_length h1
    have l2 := matchDL_length h4
    refine ⟨c, fr, ho, ?_, ?_, ?_, ?_, ?_, ?_, by rcases hmd' with e | e <;> subst e <;> first | exact glOk_ok hgl rfl hmd | trivial⟩
    · rw [eqE_ok h2, eqE_ok h3]; exact ha
    · rw [eqE_ok h2, l1, l2]; exact hq
    · intro i d hd
      obtain ⟨d', g1, g2⟩ := matchDL_get h1 hd
      obtain ⟨v, g3, g4⟩ := hp i d' g1
      exact ⟨v, g3, matchD_ok g2 g4⟩
    · rw [eqE_ok h2, l1]; exact hv
    · rw [eqE_ok h2]; exact hk
    · intro i d hd
      obtain ⟨d', g1, g2⟩ := matchDL_get h4 hd
      obtain ⟨v, g3, g4⟩ := hs i d' g1
      exact ⟨v, by rw [eqE_ok h2, l1]; exact g3, matchD_ok g2 g4⟩

/-- A state at the head of a loop, as it is told. -/
structure Tm where
  tmps : List (Nat × DV)
  heap : List (Nat × Blk)
  next : Nat
  sz : Nat

def Tm.st (t : Tm) : St := ⟨T.ofList t.tmps, T.ofList t.heap, t.next, t.sz, []⟩

def nodupB : List Nat → Bool
  | [] => true
  | a :: l => !l.elem a && nodupB l

def matchSt (σ : T E) (r : Nat → Nat) (t : Tm) (st : St) : Bool :=
  t.tmps.all (fun (i, d) => match st.tmps.get i with | some d' => matchD σ r t.next d d' | none => false) &&
  t.heap.all (fun (id, B) => decide (id < t.next) && match st.heap.get (r id) with | some B' => matchB σ r t.next B B' && (!B.rw || B'.rw) && (!B.live || B'.live) | none => false) &&
  nodupB (t.heap.map fun p => r p.1) && (t.sz == st.sz && st.dfs.isEmpty)

theorem ofList_mem {α : Type} : ∀ {l : List (Nat × α)} {n : Nat} {x : α}, (T.ofList l).get n = some x → (n, x) ∈ l
  | [], n, x, h => by simp [T.ofList] at h
  | (k, y) :: l, n, x, h => by
    simp only [T.ofList] at h
    rw [T.get_set] at h
    split at h
    · rename_i e; cases h; subst e; simp
    · exact List.mem_cons_of_mem _ (ofList_mem h)

theorem nodupB_ok : ∀ {l : List (Nat × Blk)}, nodupB (l.map fun p => r p.1) = true → ∀ p ∈ l, ∀ q ∈ l, r p.1 = r q.1 → p = q
  | [], _, p, hp, _, _, _ => by simp at hp
  | a :: l, h, p, hp, q, hq, e => by
    simp only [List.map_cons, nodupB, Bool.and_eq_true, Bool.not_eq_true', List.elem_eq_mem, decide_eq_false_iff_not] at h
    rcases List.mem_cons.1 hp with ep | hp'
    · rcases List.mem_cons.1 hq with eq | hq'
      · rw [ep, eq]
      · have := List.mem_map_of_mem (f := fun p : Nat × Blk => r p.1) hq'
        rw [← e, ep] at this
        exact absurd this h.1
    · rcases List.mem_cons.1 hq with eq | hq'
      · have := List.mem_map_of_mem (f := fun p : Nat × Blk => r p.1) hp'
        rw [e, eq] at this
        exact absurd this h.1
      · exact nodupB_ok h.2 p hp' q hq' e

theorem matchSt_ok {m : Emb} {ρ : Env} {t : Tm} {st : St} {a : Act} {w : World} (h : matchSt σ r t st = true) (hR : Rep m ρ st a w) :
    Rep (m.pull r t.next) (ρ.upd σ) t.st a w ∧ ∀ b, Fp (m.pull r t.next) t.st.heap b → Fp m st.heap b := by
  simp only [matchSt, Bool.and_eq_true, List.all_eq_true, beq_iff_eq, List.isEmpty_iff] at h
  obtain ⟨⟨⟨h1, h2⟩, h3⟩, h4, h5⟩ := h
  have H : ∀ id B, t.st.heap.get id = some B → (id, B) ∈ t.heap ∧ id < t.next ∧ ∃ B', st.heap.get (r id) = some B' ∧ matchB σ r t.next B B' = true ∧ (B.rw = true → B'.rw = true) ∧ (B.live = true → B'.live = true) := by
    intro id B hB
    have hm := ofList_mem hB
    have := h2 _ hm
    simp only [decide_eq_true_eq] at this
    obtain ⟨hlt, h'⟩ := this
    split at h'
    · rename_i B' hB'
      simp only [Bool.and_eq_true, Bool.or_eq_true, Bool.not_eq_true'] at h'
      exact ⟨hm, hlt, B', hB', h'.1.1, fun e => by rcases h'.1.2 with h | h; (rw [e] at h; cases h); exact h, fun e => by rcases h'.2 with h | h; (rw [e] at h; cases h); exact h⟩
    · cases h'
  refine ⟨⟨⟨fun i d hd => ?_⟩, by rw [hR.size]; exact h4.symm, ⟨fun id B hB hl => ?_, fun id id' B B' b hB hB' hrw hl hb hb' => ?_⟩, fun id hid => ?_, by have := hR.dfs; rw [h5] at this; exact this⟩, fun b ⟨id, B, hB, hrw, hb⟩ => ?_⟩
  · have := h1 _ (ofList_mem hd)
    simp only at this
    split at this
    · rename_i d' hd'
      obtain ⟨v, hv, hr⟩ := hR.tmps.get i d' hd'
      exact ⟨v, hv, matchD_ok this hr⟩
    · cases this
  · obtain ⟨hm, hlt, B', hB', hmt, _, hlv⟩ := H id B hB
    obtain ⟨b, o, h1, h2, h3⟩ := hR.heap.blk _ _ hB' (hlv hl)
    exact ⟨b, o, by simp only [Emb.pull, hlt, if_true]; exact h1, h2, matchB_ok hmt h3⟩
  · obtain ⟨hm, hlt, C, hC, _, hCrw, _⟩ := H id B hB
    obtain ⟨hm', hlt', C', hC', _, _, hCl⟩ := H id' B' hB'
    simp only [Emb.pull, hlt, if_true] at hb
    simp only [Emb.pull, hlt', if_true] at hb'
    have e := hR.heap.inj _ _ _ _ b hC hC' (hCrw hrw) (hCl hl) hb hb'
    have := nodupB_ok h3 _ hm _ hm' e
    exact congrArg Prod.fst this
  · simp only [Emb.pull]
    rw [if_neg (by simp only [Tm.st] at hid; omega)]
  · obtain ⟨_, hlt, B', hB', _, hCrw, _⟩ := H id B hB
    simp only [Emb.pull, hlt, if_true] at hb
    exact ⟨_, B', hB', hCrw hrw, hb⟩
end

end Go.Eng
