/-
  Expressions rebuilt under what is known.
-/
import Derived.Test.YtgielkefgliiiaaEngZ
namespace Go.Eng
open Go.RowKit

mutual
def DV.scal : DV → Bool
  | .int _ _ => true
  | .bool _ => true
  | .str _ => true
  | .tup l => DV.scalL l
  | .agg l => DV.scalL l
  | _ => false
def DV.scalL : List DV → Bool
  | [] => true
  | d :: r => DV.scal d && DV.scalL r
end

inductive So where
  | I | B | S
  deriving DecidableEq

def So.eq : So → Sc → Sc → Prop
  | .I, a, b => a.int = b.int
  | .B, a, b => a.bool = b.bool
  | .S, a, b => a.str = b.str

theorem So.eq_of {s : So} {a b : Sc} (h : a = b) : s.eq a b := by subst h; cases s <;> rfl

/-- An expression with others in its variables' places, rebuilt under what is known. -/
def E.r (F : Facts) (σ : T E) : So → E → E
  | s, .tr .ite c a b => match (c.r F σ .B).dec F with
    | some true => a.r F σ s
    | some false => b.r F σ s
    | none => if (a.r F σ s).same (b.r F σ s) then a.r F σ s else .tr .ite (c.r F σ .B) (a.r F σ s) (b.r F σ s)
  | .I, .un (.wrap k) a => wrapI F k (a.r F σ .I)
  | .B, .un .not a => notB (a.r F σ .B)
  | .I, .bi .add a b => addI (a.r F σ .I) (b.r F σ .I)
  | .I, .bi .sub a b => subI (a.r F σ .I) (b.r F σ .I)
  | .I, .bi .mul a b => mulI (a.r F σ .I) (b.r F σ .I)
  | .I, .bi .tmod a b => lit2 .tmod (a.r F σ .I) (b.r F σ .I)
  | .I, .bi .tdiv a b => lit2 .tdiv (a.r F σ .I) (b.r F σ .I)
  | .I, .bi .fdiv a b => lit2 .fdiv (a.r F σ .I) (b.r F σ .I)
  | .I, .bi (.bits o k) a b => lit2 (.bits o k) (a.r F σ .I) (b.r F σ .I)
  | .B, .bi .lt a b => boolE F (.bi .lt (a.r F σ .I) (b.r F σ .I))
  | .B, .bi .eqi a b => boolE F (.bi .eqi (a.r F σ .I) (b.r F σ .I))
  | .B, .bi .eqb a b => boolE F (.bi .eqb (a.r F σ .B) (b.r F σ .B))
  | .B, .bi .and a b => boolE F (.bi .and (a.r F σ .B) (b.r F σ .B))
  | .B, .bi .or a b => boolE F (.bi .or (a.r F σ .B) (b.r F σ .B))
  | _, e => e.sub σ

theorem lit2_int (ρ : Env) (o : B2) (a b : E) : ((lit2 o a b).ev ρ).int = (o.ev (a.ev ρ) (b.ev ρ)).int := by rw [lit2_ev]

theorem E.r_ok {F : Facts} {ρ : Env} (hF : F.ok ρ) (σ : T E) : ∀ (e : E) (s : So), s.eq ((e.r F σ s).ev ρ) (e.ev (ρ.upd σ)) := by
  intro e
  have dflt : ∀ (e : E) (s : So), s.eq ((e.sub σ).ev ρ) (e.ev (ρ.upd σ)) := fun e s => So.eq_of (E.sub_ev σ ρ e)
  induction e with
  | vr n => intro s; cases s <;> exact dflt _ _
  | li n => intro s; cases s <;> exact dflt _ _
  | lb w => intro s; cases s <;> exact dflt _ _
  | ls x => intro s; cases s <;> exact dflt _ _
  | un o a ih =>
    intro s
    cases s <;> cases o <;> try exact dflt _ _
    · have := ih .I
      simp only [E.r, So.eq, E.ev, U.ev, Sc.int_I] at this ⊢
      rw [wrapI_int hF, this]
    · have := ih .B
      simp only [E.r, So.eq, E.ev, U.ev, Sc.bool_B] at this ⊢
      rw [notB_bool, this]
  | bi o a b iha ihb =>
    intro s
    have i1 := iha .I
    have i2 := ihb .I
    have b1 := iha .B
    have b2 := ihb .B
    simp only [So.eq] at i1 i2 b1 b2
    cases s <;> cases o <;> (try exact dflt _ _) <;> simp only [E.r, So.eq, E.ev, B2.ev, Sc.int_I, Sc.bool_B, addI_int, subI_int, mulI_int, lit2_int, boolE_bool hF, i1, i2, b1, b2]
  | tr o c a b ihc iha ihb =>
    intro s
    cases o <;> try (cases s <;> exact dflt _ _)
    have hc := ihc .B
    simp only [So.eq] at hc
    simp only [E.r]
    have key : ∀ (x : E), (((c.r F σ .B).ev ρ).bool = true → s.eq (x.ev ρ) (a.ev (ρ.upd σ))) → (((c.r F σ .B).ev ρ).bool = false → s.eq (x.ev ρ) (b.ev (ρ.upd σ))) → s.eq (x.ev ρ) ((E.tr .ite c a b).ev (ρ.upd σ)) := by
      intro x h1 h2
      simp only [E.ev, B3.ev]
      rw [hc] at h1 h2
      cases hv : (c.ev (ρ.upd σ)).bool
      · simpa [hv] using h2 hv
      · simpa [hv] using h1 hv
    split
    · rename_i hd
      have := E.dec_sound hF hd
      exact key _ (fun _ => iha s) (fun h => by rw [this] at h; cases h)
    · rename_i hd
      have := E.dec_sound hF hd
      exact key _ (fun h => by rw [this] at h; cases h) (fun _ => ihb s)
    · split
      · rename_i hs
        exact key _ (fun _ => iha s) (fun _ => by rw [E.same_eq hs]; exact ihb s)
      · refine key _ (fun h => ?_) (fun h => ?_)
        · simp only [E.ev, B3.ev, h, if_true]; exact iha s
        · simp only [E.ev, B3.ev, h, Bool.false_eq_true, if_false]; exact ihb s

mutual
def DV.r (F : Facts) (σ : T E) : DV → DV
  | .int k e => .int k (e.r F σ .I)
  | .bool e => .bool (e.r F σ .B)
  | .str e => .str (e.r F σ .S)
  | .tup l => .tup (DV.rL F σ l)
  | .agg l => .agg (DV.rL F σ l)
  | d => d
def DV.rL (F : Facts) (σ : T E) : List DV → List DV
  | [] => []
  | d :: r => DV.r F σ d :: DV.rL F σ r
end

mutual
theorem DV.r_R {F : Facts} {σ : T E} {m m' : Emb} {ρ : Env} (hF : F.ok ρ) : ∀ {d : DV} {v : Value}, d.scal = true → (d.R m' (ρ.upd σ) v ↔ (d.r F σ).R m ρ v)
  | .int k e, v, _ => by have := E.r_ok hF σ e .I; simp only [So.eq] at this; simp only [DV.r, DV.R, this]
  | .bool e, v, _ => by have := E.r_ok hF σ e .B; simp only [So.eq] at this; simp only [DV.r, DV.R, this]
  | .str e, v, _ => by have := E.r_ok hF σ e .S; simp only [So.eq] at this; simp only [DV.r, DV.R, this]
  | .tup l, v, hs => by
    simp only [DV.r, DV.R]
    exact exists_congr fun vs => and_congr_right fun _ => DV.rL_R hF (by simpa [DV.scal] using hs)
  | .agg l, v, hs => by
    simp only [DV.r, DV.R]
    exact exists_congr fun vs => and_congr_right fun _ => DV.rL_R hF (by simpa [DV.scal] using hs)
  | .ptr _ _, _, hs => by simp [DV.scal] at hs
  | .nilp, _, hs => by simp [DV.scal] at hs
  | .gptr _ _, _, hs => by simp [DV.scal] at hs
  | .slc _ _ _ _, _, hs => by simp [DV.scal] at hs
  | .nils, _, hs => by simp [DV.scal] at hs
  | .mt, _, hs => by simp [DV.scal] at hs
  | .ifc _ _, _, hs => by simp [DV.scal] at hs
  | .nili, _, hs => by simp [DV.scal] at hs
  | .fn _ _ _, _, hs => by simp [DV.scal] at hs
  | .nilf, _, hs => by simp [DV.scal] at hs
  | .mp _, _, hs => by simp [DV.scal] at hs
  | .nilm, _, hs => by simp [DV.scal] at hs
theorem DV.rL_R {F : Facts} {σ : T E} {m m' : Emb} {ρ : Env} (hF : F.ok ρ) : ∀ {l : List DV} {vs : List Value}, DV.scalL l = true → (DV.RL m' (ρ.upd σ) l vs ↔ DV.RL m ρ (DV.rL F σ l) vs)
  | [], vs, _ => by simp only [DV.rL, DV.RL]
  | d :: r, vs, hs => by
    simp only [DV.scalL, Bool.and_eq_true] at hs
    simp only [DV.rL, DV.RL]
    exact exists_congr fun v => exists_congr fun vr => and_congr_right fun _ => and_congr (DV.r_R hF hs.1) (DV.rL_R hF hs.2)
end

end Go.Eng
