/-
  Two states that a test tells apart, made one.
-/
import Derived.Test.YtgielkefgliiiaaEngEQ
namespace Go.Eng

/-- Two expressions, the one where a test holds, the other where it doesn't. -/
def mergeG (c : E) : E → E → E
  | .bi o a b, y => match y with
    | .bi o' a' b' => if o = o' then (if a.same a' then (if b.same b' then .bi o a b else .bi o a (mergeG c b b')) else if b.same b' then .bi o (mergeG c a a') b else .tr .ite c (.bi o a b) (.bi o' a' b'))
      else .tr .ite c (.bi o a b) (.bi o' a' b')
    | y => .tr .ite c (.bi o a b) y
  | .un o a, y => match y with
    | .un o' a' => if o = o' then (if a.same a' then .un o a else .un o (mergeG c a a')) else .tr .ite c (.un o a) (.un o' a')
    | y => .tr .ite c (.un o a) y
  | x, y => if x.same y then x else .tr .ite c x y

theorem ite_ev (ρ : Env) (c x y : E) : (E.tr .ite c x y).ev ρ = if (c.ev ρ).bool then x.ev ρ else y.ev ρ := rfl

theorem mergeG_ev (ρ : Env) (c : E) : ∀ x y : E, (mergeG c x y).ev ρ = if (c.ev ρ).bool then x.ev ρ else y.ev ρ := by
  intro x
  have dflt : ∀ x y : E, (if x.same y then x else E.tr .ite c x y).ev ρ = if (c.ev ρ).bool then x.ev ρ else y.ev ρ := by
    intro x y
    split
    · rename_i h; rw [E.same_eq h]; simp
    · rfl
  induction x with
  | un o a ih =>
    intro y
    simp only [mergeG]
    split
    · rename_i o' a'
      split
      · rename_i e; subst e
        split
        · rename_i h; rw [E.same_eq h]; simp
        · simp only [E.ev, ih]; split <;> rfl
      · rfl
    · rfl
  | bi o a b iha ihb =>
    intro y
    simp only [mergeG]
    split
    · rename_i o' a' b'
      split
      · rename_i e; subst e
        split
        · rename_i h
          split
          · rename_i h2; rw [E.same_eq h, E.same_eq h2]; simp
          · simp only [E.ev, ihb, E.same_eq h]; split <;> rfl
        · split
          · rename_i h2; simp only [E.ev, iha, E.same_eq h2]; split <;> rfl
          · rfl
      · rfl
    · rfl
  | vr n => intro y; exact dflt _ _
  | li n => intro y; exact dflt _ _
  | lb n => intro y; exact dflt _ _
  | ls n => intro y; exact dflt _ _
  | tr o a b d _ _ _ => intro y; exact dflt _ _

theorem wrap_toNat (k : IntKind) (x : Int) : k.wrap ((BitVec.ofInt k.bits x).toNat : Int) = k.wrap x := by
  rw [BitVec.toNat_ofInt]
  cases k <;> simp [IntKind.wrap, IntKind.signed, IntKind.bits] <;> omega

theorem or_zero {F : Facts} {ρ : Env} (hF : F.ok ρ) {k : IntKind} {y : E} (h : inKind F k y = true) : bitsOf .or k (y.ev ρ).int 0 = (y.ev ρ).int := by
  unfold bitsOf
  have : (BitVec.ofInt k.bits (0 : Int)) = 0 := by simp
  simp only [this]
  rw [show (BitVec.ofInt k.bits (y.ev ρ).int ||| (0 : BitVec k.bits)) = BitVec.ofInt k.bits (y.ev ρ).int from BitVec.or_zero]
  rw [wrap_toNat, inKind_sound hF h]

/-- The same of numbers: what is added, or laid beside, in one of the two alone. -/
def mergeI (F : Facts) (c x y : E) : E :=
  if x.same y then x else
  match x, y with
  | .bi (.bits .or k) a b, y => if a.same y && inKind F k y then .bi (.bits .or k) a (.tr .ite c b (.li 0)) else mergeG c (.bi (.bits .or k) a b) y
  | x, .bi (.bits .or k) a b => if a.same x && inKind F k x then .bi (.bits .or k) a (.tr .ite c (.li 0) b) else mergeG c x (.bi (.bits .or k) a b)
  | .bi .add a b, y => if a.same y then .bi .add a (.tr .ite c b (.li 0)) else mergeG c (.bi .add a b) y
  | x, .bi .add a b => if a.same x then .bi .add a (.tr .ite c (.li 0) b) else mergeG c x (.bi .add a b)
  | x, y => mergeG c x y

theorem mergeI_int {F : Facts} {ρ : Env} (hF : F.ok ρ) (c x y : E) : ((mergeI F c x y).ev ρ).int = if (c.ev ρ).bool then (x.ev ρ).int else (y.ev ρ).int := by
  have dflt : ∀ x y : E, ((mergeG c x y).ev ρ).int = if (c.ev ρ).bool then (x.ev ρ).int else (y.ev ρ).int := by
    intro x y; rw [mergeG_ev]; split <;> rfl
  unfold mergeI
  split
  · rename_i h; rw [E.same_eq h]; simp
  · split
    · rename_i k a b y _
      split
      · rename_i h
        simp only [Bool.and_eq_true] at h
        have := or_zero hF h.2
        rw [E.same_eq h.1]
        simp only [E.ev, B2.ev, B3.ev, Sc.int_I]
        cases (c.ev ρ).bool
        · simpa using this
        · simp
      · exact dflt _ _
    · rename_i x k a b _ _
      split
      · rename_i h
        simp only [Bool.and_eq_true] at h
        have := or_zero hF h.2
        rw [E.same_eq h.1]
        simp only [E.ev, B2.ev, B3.ev, Sc.int_I]
        cases (c.ev ρ).bool
        · simp
        · simpa using this
      · exact dflt _ _
    · rename_i a b y _ _
      split
      · rename_i h
        rw [E.same_eq h]
        simp only [E.ev, B2.ev, B3.ev, Sc.int_I]
        cases (c.ev ρ).bool <;> simp
      · exact dflt _ _
    · rename_i x a b _ _ _
      split
      · rename_i h
        rw [E.same_eq h]
        simp only [E.ev, B2.ev, B3.ev, Sc.int_I]
        cases (c.ev ρ).bool <;> simp
      · exact dflt _ _
    · exact dflt _ _

/-- Of truth values. -/
def mergeB (F : Facts) (c x y : E) : E :=
  if x.same y then x else
  match x, y with
  | .lb true, .lb false => c
  | .lb false, .lb true => notB c
  | .lb true, y => .bi .or c y
  | .lb false, y => .bi .and (notB c) y
  | x, .lb false => .bi .and c x
  | x, .lb true => .bi .or (notB c) x
  | x, y => mergeG c x y

theorem mergeB_bool {F : Facts} {ρ : Env} (c x y : E) : ((mergeB F c x y).ev ρ).bool = if (c.ev ρ).bool then (x.ev ρ).bool else (y.ev ρ).bool := by
  unfold mergeB
  split
  · rename_i h; rw [E.same_eq h]; simp
  · split
    · simp only [E.ev, Sc.bool_B]; cases (c.ev ρ).bool <;> rfl
    · simp only [notB_bool, E.ev, Sc.bool_B]; cases (c.ev ρ).bool <;> rfl
    · simp only [E.ev, B2.ev, Sc.bool_B]; cases (c.ev ρ).bool <;> simp
    · simp only [E.ev, B2.ev, notB_bool, Sc.bool_B]; cases (c.ev ρ).bool <;> simp
    · simp only [E.ev, B2.ev, Sc.bool_B]; cases (c.ev ρ).bool <;> simp
    · simp only [E.ev, B2.ev, notB_bool, Sc.bool_B]; cases (c.ev ρ).bool <;> simp
    · rw [mergeG_ev]; split <;> rfl

mutual
def mergeD (F : Facts) (c : E) : DV → DV → Option DV
  | .int k x, .int k' y => if k = k' then some (.int k (mergeI F c x y)) else none
  | .bool x, .bool y => some (.bool (mergeB F c x y))
  | .str x, .str y => some (.str (mergeG c x y))
  | .agg l, .agg r => (mergeDL F c l r).map .agg
  | .tup l, .tup r => (mergeDL F c l r).map .tup
  | .ifc t v, .ifc t' v' => if t = t' then (mergeD F c v v').map (.ifc t) else none
  | x, y => if x.eqv y then some x else none
def mergeDL (F : Facts) (c : E) : List DV → List DV → Option (List DV)
  | [], [] => some []
  | d :: r, e :: q => match mergeD F c d e, mergeDL F c r q with
    | some x, some y => some (x :: y)
    | _, _ => none
  | _, _ => none
end

section
variable {F : Facts} {ρ : Env} {m : Emb} {c : E}

mutual
theorem mergeD_ok (hF : F.ok ρ) : ∀ {x y d : DV} {v : Value}, mergeD F c x y = some d → ((c.ev ρ).bool = true → x.R m ρ v → d.R m ρ v) ∧ ((c.ev ρ).bool = false → y.R m ρ v → d.R m ρ v)
  | .int k a, y, d, v, h => by
    cases y <;> simp only [mergeD, DV.eqv, Bool.false_eq_true, if_false, reduceCtorEq] at h
    split at h
    · rename_i e; subst e
      cases h
      have := mergeI_int hF c a
      refine ⟨fun hc hr => ?_, fun hc hr => ?_⟩ <;> simp only [DV.R] at hr ⊢ <;> rw [hr, this] <;> simp [hc]
    · cases h
  | .bool a, y, d, v, h => by
    cases y <;> simp only [mergeD, DV.eqv, Bool.false_eq_true, if_false, reduceCtorEq, Option.some.injEq] at h
    subst h
    have := mergeB_bool (F := F) (ρ := ρ) c a
    refine ⟨fun hc hr => ?_, fun hc hr => ?_⟩ <;> simp only [DV.R] at hr ⊢ <;> rw [hr, this] <;> simp [hc]
  | .str a, y, d, v, h => by
    cases y <;> simp only [mergeD, DV.eqv, Bool.false_eq_true, if_false, reduceCtorEq, Option.some.injEq] at h
    subst h
    have := mergeG_ev ρ c a
    refine ⟨fun hc hr => ?_, fun hc hr => ?_⟩ <;> simp only [DV.R] at hr ⊢ <;> rw [hr, this] <;> simp [hc]
  | .agg l, y, d, v, h => by
    cases y <;> simp only [mergeD, DV.eqv, Bool.false_eq_true, if_false, reduceCtorEq, Option.map_eq_some_iff] at h
    obtain ⟨q, hq, rfl⟩ := h
    have := fun vs => mergeDL_ok hF (vs := vs) hq
    refine ⟨fun hc hr => ?_, fun hc hr => ?_⟩ <;> simp only [DV.R] at hr ⊢ <;> obtain ⟨vs, hv, hl⟩ := hr
    · exact ⟨vs, hv, (this _).1 hc hl⟩
    · exact ⟨vs, hv, (this _).2 hc hl⟩
  | .tup l, y, d, v, h => by
    cases y <;> simp only [mergeD, DV.eqv, Bool.false_eq_true, if_false, reduceCtorEq, Option.map_eq_some_iff] at h
    obtain ⟨q, hq, rfl⟩ := h
    have := fun vs => mergeDL_ok hF (vs := vs) hq
    refine ⟨fun hc hr => ?_, fun hc hr => ?_⟩ <;> simp only [DV.R] at hr ⊢ <;> obtain ⟨vs, hv, hl⟩ := hr
    · exact ⟨vs, hv, (this _).1 hc hl⟩
    · exact ⟨vs, hv, (this _).2 hc hl⟩
  | .ifc t x, y, d, v, h => by
    cases y <;> simp only [mergeD, DV.eqv, Bool.false_eq_true, if_false, reduceCtorEq] at h
    split at h
    · rename_i e; subst e
      simp only [Option.map_eq_some_iff] at h
      obtain ⟨q, hq, rfl⟩ := h
      have := fun u => mergeD_ok hF (v := u) hq
      refine ⟨fun hc hr => ?_, fun hc hr => ?_⟩ <;> simp only [DV.R] at hr ⊢ <;> obtain ⟨u, hv, hl⟩ := hr
      · exact ⟨u, hv, (this _).1 hc hl⟩
      · exact ⟨u, hv, (this _).2 hc hl⟩
    · cases h
  | .ptr i o, y, d, v, h => mergeD_same (by simpa only [mergeD] using h)
  | .nilp, y, d, v, h => mergeD_same (by simpa only [mergeD] using h)
  | .gptr g o, y, d, v, h => mergeD_same (by simpa only [mergeD] using h)
  | .slc i o l k, y, d, v, h => mergeD_same (by simpa only [mergeD] using h)
  | .nils, y, d, v, h => mergeD_same (by simpa only [mergeD] using h)
  | .mt, y, d, v, h => mergeD_same (by simpa only [mergeD] using h)
  | .nili, y, d, v, h => mergeD_same (by simpa only [mergeD] using h)
  | .fn f a k, y, d, v, h => mergeD_same (by simpa only [mergeD] using h)
  | .nilf, y, d, v, h => mergeD_same (by simpa only [mergeD] using h)
  | .mp i, y, d, v, h => mergeD_same (by simpa only [mergeD] using h)
  | .nilm, y, d, v, h => mergeD_same (by simpa only [mergeD] using h)
theorem mergeD_same : ∀ {x y d : DV} {v : Value}, (if x.eqv y then some x else none) = some d → ((c.ev ρ).bool = true → x.R m ρ v → d.R m ρ v) ∧ ((c.ev ρ).bool = false → y.R m ρ v → d.R m ρ v) := by
  intro x y d v h
  split at h
  · rename_i e
    cases h
    have := DV.eqv_eq e
    subst this
    exact ⟨fun _ h => h, fun _ h => h⟩
  · cases h
theorem mergeDL_ok (hF : F.ok ρ) : ∀ {x y d : List DV} {vs : List Value}, mergeDL F c x y = some d → ((c.ev ρ).bool = true → DV.RL m ρ x vs → DV.RL m ρ d vs) ∧ ((c.ev ρ).bool = false → DV.RL m ρ y vs → DV.RL m ρ d vs)
  | [], y, d, vs, h => by
    cases y <;> simp only [mergeDL, reduceCtorEq, Option.some.injEq] at h
    subst h
    exact ⟨fun _ h => h, fun _ h => h⟩
  | a :: l, y, d, vs, h => by
    cases y <;> simp only [mergeDL, reduceCtorEq] at h
    split at h
    · rename_i p q hp hq
      cases h
      have h1 := fun u => mergeD_ok hF (v := u) hp
      have h2 := fun us => mergeDL_ok hF (vs := us) hq
      refine ⟨fun hc hr => ?_, fun hc hr => ?_⟩ <;> simp only [DV.RL] at hr ⊢ <;> obtain ⟨u, us, hv, hl, hl2⟩ := hr
      · exact ⟨u, us, hv, (h1 _).1 hc hl, (h2 _).1 hc hl2⟩
      · exact ⟨u, us, hv, (h1 _).2 hc hl, (h2 _).2 hc hl2⟩
    · cases h
end

theorem mergeDL_length (F : Facts) (c : E) : ∀ {x y d : List DV}, mergeDL F c x y = some d → d.length = x.length ∧ d.length = y.length
  | [], y, d, h => by
    cases y <;> simp only [mergeDL, reduceCtorEq, Option.some.injEq] at h
    subst h; exact ⟨rfl, rfl⟩
  | a :: l, y, d, h => by
    cases y <;> simp only [mergeDL, reduceCtorEq] at h
    split at h
    · rename_i p q hp hq
      cases h
      have := mergeDL_length F c hq
      simp [this.1]; omega
    · cases h

theorem mergeDL_get (F : Facts) (c : E) : ∀ {x y d : List DV}, mergeDL F c x y = some d → ∀ (i : Nat) (e : DV), d[i]? = some e → ∃ p q, x[i]? = some p ∧ y[i]? = some q ∧ mergeD F c p q = some e
  | [], y, d, h, i, e, he => by
    cases y <;> simp only [mergeDL, reduceCtorEq, Option.some.injEq] at h
    subst h; simp at he
  | a :: l, y, d, h, i, e, he => by
    cases y with
    | nil => simp only [mergeDL, reduceCtorEq] at h
    | cons b r =>
      simp only [mergeDL] at h
      split at h
      · rename_i p q hp hq
        cases h
        cases i with
        | zero => simp at he; subst he; exact ⟨a, b, rfl, rfl, hp⟩
        | succ i => simp at he; simpa using mergeDL_get F c hq i e he
      · cases h

def mergeK (F : Facts) (c : E) : Blk → Blk → Option Blk
  | .cells l t md, .cells l' t' md' => if t = t' ∧ md = md' then (mergeDL F c l l').map fun q => .cells q t md else none
  | .arr q a n sh t md, .arr q' a' n' sh' t' md' => if q.same q' && (n.same n' && decide (sh = sh' ∧ t = t' ∧ md = md')) then some (.arr q (mergeG c a a') n sh t md) else none
  | .mpb es, .mpb es' => if DV.eqvL (es.map (·.1)) (es'.map (·.1)) then (mergeDL F c (es.map (·.2)) (es'.map (·.2))).map fun vs => .mpb ((es.map (·.1)).zip vs) else none
  | x, y => if x.eqv y then some x else none

theorem mergeK_rw {x y B : Blk} (h : mergeK F c x y = some B) : (B.rw = x.rw ∧ B.live = x.live) ∧ B.rw = y.rw ∧ B.live = y.live := by
  have same : ∀ {x y : Blk}, (if x.eqv y then some x else none) = some B → (B.rw = x.rw ∧ B.live = x.live) ∧ B.rw = y.rw ∧ B.live = y.live := by
    intro x y h
    split at h
    · rename_i e; cases h; have := Blk.eqv_eq e; subst this; exact ⟨⟨rfl, rfl⟩, rfl, rfl⟩
    · cases h
  unfold mergeK at h
  split at h
  · split at h
    · rename_i e
      simp only [Option.map_eq_some_iff] at h
      obtain ⟨q, _, rfl⟩ := h
      simp [Blk.rw, Blk.live, e.2]
    · cases h
  · split at h
    · rename_i e
      cases h
      simp only [Bool.and_eq_true, decide_eq_true_eq] at e
      simp [Blk.rw, Blk.live, e.2.2.2.2]
    · cases h
  · split at h
    · simp only [Option.map_eq_some_iff] at h
      obtain ⟨q, _, rfl⟩ := h
      simp [Blk.rw, Blk.live]
    · cases h
  · exact same h

theorem mergeK_ok (hF : F.ok ρ) {x y B : Blk} {k : Nat} {o : Obj} (h : mergeK F c x y = some B) : ((c.ev ρ).bool = true → x.R m ρ k o → B.R m ρ k o) ∧ ((c.ev ρ).bool = false → y.R m ρ k o → B.R m ρ k o) := by
  have same : ∀ {x y : Blk}, (if x.eqv y then some x else none) = some B → ((c.ev ρ).bool = true → x.R m ρ k o → B.R m ρ k o) ∧ ((c.ev ρ).bool = false → y.R m ρ k o → B.R m ρ k o) := by
    intro x y h
    split at h
    · rename_i e; cases h; have := Blk.eqv_eq e; subst this; exact ⟨fun _ h => h, fun _ h => h⟩
    · cases h
  unfold mergeK at h
  split at h
  · split at h
    · rename_i l t md l' t' md' e
      obtain ⟨rfl, rfl⟩ := e
      simp only [Option.map_eq_some_iff] at h
      obtain ⟨q, hq, rfl⟩ := h
      obtain ⟨hl1, hl2⟩ := mergeDL_length F c hq
      have hg := mergeDL_get F c hq
      refine ⟨fun hc ⟨cs, fr, h1, h2, h3, h4⟩ => ⟨cs, fr, h1, by omega, fun i d hd => ?_, h4⟩, fun hc ⟨cs, fr, h1, h2, h3, h4⟩ => ⟨cs, fr, h1, by omega, fun i d hd => ?_, h4⟩⟩
      · obtain ⟨p, r, g1, g2, g3⟩ := hg i d hd
        obtain ⟨v, hv, hr⟩ := h3 i p g1
        exact ⟨v, hv, (mergeD_ok hF g3).1 hc hr⟩
      · obtain ⟨p, r, g1, g2, g3⟩ := hg i d hd
        obtain ⟨v, hv, hr⟩ := h3 i r g2
        exact ⟨v, hv, (mergeD_ok hF g3).2 hc hr⟩
    · cases h
  · split at h
    · rename_i q a n sh t md q' a' n' sh' t' md' e
      cases h
      simp only [Bool.and_eq_true, decide_eq_true_eq] at e
      obtain ⟨e1, e2, rfl, rfl, rfl⟩ := e
      have e1' := E.same_eq e1
      have e2' := E.same_eq e2
      subst e1'; subst e2'
      have ha := mergeG_ev ρ c a a'
      refine ⟨fun hc hr => ?_, fun hc hr => ?_⟩
      · rw [if_pos hc] at ha
        simpa only [Blk.R, ha] using hr
      · rw [if_neg (by simp [hc])] at ha
        simpa only [Blk.R, ha] using hr
    · cases h
  · split at h
    · rename_i es es' e
      simp only [Option.map_eq_some_iff] at h
      obtain ⟨vs, hvs, rfl⟩ := h
      have hk := DV.eqvL_eq e
      obtain ⟨hl1, hl2⟩ := mergeDL_length F c hvs
      simp only [List.length_map] at hl1 hl2
      have z1 : ((es.map (·.1)).zip vs).map (·.1) = es.map (·.1) := by rw [List.map_fst_zip]; simp; omega
      have z2 : ((es.map (·.1)).zip vs).map (·.2) = vs := by rw [List.map_snd_zip]; simp; omega
      refine ⟨fun hc ⟨en, clk, h1, h2, h3, h4⟩ => ⟨en, clk, h1, by rw [z1]; exact h2, by rw [z2]; exact (mergeDL_ok hF hvs).1 hc h3, h4⟩, fun hc ⟨en, clk, h1, h2, h3, h4⟩ => ⟨en, clk, h1, by rw [z1, hk]; exact h2, by rw [z2]; exact (mergeDL_ok hF hvs).2 hc h3, h4⟩⟩
    · cases h
  · exact same h

def mergeT {α : Type} (f : α → α → Option α) : T α → T α → T α
  | .node x l r, .node y l' r' => .node (match x, y with | some a, some b => f a b | _, _ => none) (mergeT f l l') (mergeT f r r')
  | _, _ => .nil

theorem mergeT_get {α : Type} {f : α → α → Option α} : ∀ {a b : T α} {n : Nat} {z : α}, (mergeT f a b).get n = some z → ∃ x y, a.get n = some x ∧ b.get n = some y ∧ f x y = some z
  | .nil, b, n, z, h => by simp [mergeT] at h
  | .node x l r, .nil, n, z, h => by simp [mergeT] at h
  | .node x l r, .node y l' r', n, z, h => by
    simp only [mergeT, T.get] at h ⊢
    split at h
    · rename_i hn
      rw [if_pos hn, if_pos hn]
      split at h
      · rename_i p q; exact ⟨p, q, rfl, rfl, h⟩
      · cases h
    · rename_i hn
      rw [if_neg hn, if_neg hn]
      split at h
      · rename_i hn2; rw [if_pos hn2, if_pos hn2]; exact mergeT_get h
      · rename_i hn2; rw [if_neg hn2, if_neg hn2]; exact mergeT_get h

/-- All that was there ahead of the test is still known. -/
def keepOk (n0 : Nat) (a b h : T Blk) : Bool := (List.range n0).all fun i => match a.get i, b.get i with
  | some x, some y => (!x.live && !y.live) || (h.get i).isSome
  | _, _ => true

def mergeH (F : Facts) (c : E) (n0 : Nat) (a b : T Blk) : Option (T Blk) :=
  if keepOk n0 a b (mergeT (mergeK F c) a b) then some (mergeT (mergeK F c) a b) else none

def mergeSt (F : Facts) (c : E) (n0 : Nat) (a b : St) : Option St :=
  if a.sz = b.sz then (mergeH F c n0 a.heap b.heap).map fun h => ⟨mergeT (mergeD F c) a.tmps b.tmps, h, max a.next b.next, a.sz⟩ else none

theorem mergeH_ok (hF : F.ok ρ) {n0 : Nat} {a b h : T Blk} (hm : mergeH F c n0 a b = some h) :
    ((c.ev ρ).bool = true → (∀ {w : World}, HeapR m ρ a w → HeapR m ρ h w) ∧ ∀ x, Fp m h x → Fp m a x) ∧ ((c.ev ρ).bool = false → (∀ {w : World}, HeapR m ρ b w → HeapR m ρ h w) ∧ ∀ x, Fp m h x → Fp m b x) := by
  unfold mergeH at hm
  split at hm
  · cases hm
    refine ⟨fun hc => ⟨fun {w} hH => ⟨fun id B hB hl => ?_, fun id id' B B' x hB hB' hrw hl hi hi' => ?_⟩, fun x ⟨id, B, hB, hrw, hx⟩ => ?_⟩, fun hc => ⟨fun {w} hH => ⟨fun id B hB hl => ?_, fun id id' B B' x hB hB' hrw hl hi hi' => ?_⟩, fun x ⟨id, B, hB, hrw, hx⟩ => ?_⟩⟩
    · obtain ⟨p, q, h1, h2, h3⟩ := mergeT_get hB
      have hr := mergeK_rw h3
      obtain ⟨y, o, g1, g2, g3⟩ := hH.blk id p h1 (hr.1.2 ▸ hl)
      exact ⟨y, o, g1, g2, (mergeK_ok hF h3).1 hc g3⟩
    · obtain ⟨p, q, h1, h2, h3⟩ := mergeT_get hB
      obtain ⟨p', q', h1', h2', h3'⟩ := mergeT_get hB'
      have hr := mergeK_rw h3
      have hr' := mergeK_rw h3'
      exact hH.inj id id' p p' x h1 h1' (hr.1.1 ▸ hrw) (hr'.1.2 ▸ hl) hi hi'
    · obtain ⟨p, q, h1, h2, h3⟩ := mergeT_get hB
      have hr := mergeK_rw h3
      exact ⟨id, p, h1, hr.1.1 ▸ hrw, hx⟩
    · obtain ⟨p, q, h1, h2, h3⟩ := mergeT_get hB
      have hr := mergeK_rw h3
      obtain ⟨y, o, g1, g2, g3⟩ := hH.blk id q h2 (hr.2.2 ▸ hl)
      exact ⟨y, o, g1, g2, (mergeK_ok hF h3).2 hc g3⟩
    · obtain ⟨p, q, h1, h2, h3⟩ := mergeT_get hB
      obtain ⟨p', q', h1', h2', h3'⟩ := mergeT_get hB'
      have hr := mergeK_rw h3
      have hr' := mergeK_rw h3'
      exact hH.inj id id' q q' x h2 h2' (hr.2.1 ▸ hrw) (hr'.2.2 ▸ hl) hi hi'
    · obtain ⟨p, q, h1, h2, h3⟩ := mergeT_get hB
      have hr := mergeK_rw h3
      exact ⟨id, q, h2, hr.2.1 ▸ hrw, hx⟩
  · cases hm

theorem mergeSt_ok (hF : F.ok ρ) {n0 : Nat} {a b s : St} (hm : mergeSt F c n0 a b = some s) :
    ((c.ev ρ).bool = true → (∀ {x : Act} {w : World}, Rep m ρ a x w → Rep m ρ s x w) ∧ ∀ y, Fp m s.heap y → Fp m a.heap y) ∧ ((c.ev ρ).bool = false → (∀ {x : Act} {w : World}, Rep m ρ b x w → Rep m ρ s x w) ∧ ∀ y, Fp m s.heap y → Fp m b.heap y) := by
  unfold mergeSt at hm
  split at hm
  · rename_i hsz
    simp only [Option.map_eq_some_iff] at hm
    obtain ⟨h, hh, rfl⟩ := hm
    have := mergeH_ok (m := m) hF hh
    refine ⟨fun hc => ⟨fun {x w} hR => ⟨⟨fun i d hd => ?_, hR.tmps.defers⟩, hR.size, (this.1 hc).1 hR.heap, fun id hid => hR.fresh id (by simp only at hid; omega)⟩, (this.1 hc).2⟩,
      fun hc => ⟨fun {x w} hR => ⟨⟨fun i d hd => ?_, hR.tmps.defers⟩, by simp only; rw [hsz]; exact hR.size, (this.2 hc).1 hR.heap, fun id hid => hR.fresh id (by simp only at hid; omega)⟩, (this.2 hc).2⟩⟩
    · obtain ⟨p, q, h1, h2, h3⟩ := mergeT_get hd
      obtain ⟨v, hv, hr⟩ := hR.tmps.get i p h1
      exact ⟨v, hv, (mergeD_ok hF h3).1 hc hr⟩
    · obtain ⟨p, q, h1, h2, h3⟩ := mergeT_get hd
      obtain ⟨v, hv, hr⟩ := hR.tmps.get i q h2
      exact ⟨v, hv, (mergeD_ok hF h3).2 hc hr⟩
  · cases hm
end
end Go.Eng
