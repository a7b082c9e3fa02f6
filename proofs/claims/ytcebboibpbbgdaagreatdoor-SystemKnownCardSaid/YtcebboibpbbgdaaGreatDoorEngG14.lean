/-
  Numbers that wrap, and bits of numbers.
-/
import Derived.Test.YtcebboibpbbgdaaGreatDoorEngG13
namespace Go.Eng

theorem bv64 (x : Nat) (h : x < 18446744073709551616) : (BitVec.ofInt 64 (x : Int)).toNat = x := by
  simp; omega
theorem bv32 (x : Nat) (h : x < 4294967296) : (BitVec.ofInt 32 (x : Int)).toNat = x := by
  simp; omega

theorem bits_and64 (x y : Nat) (hx : x < 18446744073709551616) (hy : y < 18446744073709551616) : bitsOf .and .u64 x y = ((x &&& y : Nat) : Int) := by
  have : x &&& y < 18446744073709551616 := Nat.lt_of_le_of_lt Nat.and_le_left hx
  have e : (BitVec.ofInt 64 (x : Int) &&& BitVec.ofInt 64 (y : Int)).toNat = x &&& y := by rw [BitVec.toNat_and, bv64 x hx, bv64 y hy]
  show IntKind.u64.wrap ((BitVec.ofInt 64 (x : Int) &&& BitVec.ofInt 64 (y : Int)).toNat : Int) = _
  rw [e, wrap_u64]
  omega
theorem bits_or64 (x y : Nat) (hx : x < 18446744073709551616) (hy : y < 18446744073709551616) : bitsOf .or .u64 x y = ((x ||| y : Nat) : Int) := by
  have : x ||| y < 2 ^ 64 := Nat.or_lt_two_pow hx hy
  have e : (BitVec.ofInt 64 (x : Int) ||| BitVec.ofInt 64 (y : Int)).toNat = x ||| y := by rw [BitVec.toNat_or, bv64 x hx, bv64 y hy]
  show IntKind.u64.wrap ((BitVec.ofInt 64 (x : Int) ||| BitVec.ofInt 64 (y : Int)).toNat : Int) = _
  rw [e, wrap_u64]
  omega
theorem bits_xor64 (x y : Nat) (hx : x < 18446744073709551616) (hy : y < 18446744073709551616) : bitsOf .xor .u64 x y = ((x ^^^ y : Nat) : Int) := by
  have : x ^^^ y < 2 ^ 64 := Nat.xor_lt_two_pow hx hy
  have e : (BitVec.ofInt 64 (x : Int) ^^^ BitVec.ofInt 64 (y : Int)).toNat = x ^^^ y := by rw [BitVec.toNat_xor, bv64 x hx, bv64 y hy]
  show IntKind.u64.wrap ((BitVec.ofInt 64 (x : Int) ^^^ BitVec.ofInt 64 (y : Int)).toNat : Int) = _
  rw [e, wrap_u64]
  omega
theorem bits_and32 (x y : Nat) (hx : x < 4294967296) (hy : y < 4294967296) : bitsOf .and .u32 x y = ((x &&& y : Nat) : Int) := by
  have : x &&& y < 4294967296 := Nat.lt_of_le_of_lt Nat.and_le_left hx
  have e : (BitVec.ofInt 32 (x : Int) &&& BitVec.ofInt 32 (y : Int)).toNat = x &&& y := by rw [BitVec.toNat_and, bv32 x hx, bv32 y hy]
  show IntKind.u32.wrap ((BitVec.ofInt 32 (x : Int) &&& BitVec.ofInt 32 (y : Int)).toNat : Int) = _
  rw [e, wrap_u32]
  omega
theorem bits_or32 (x y : Nat) (hx : x < 4294967296) (hy : y < 4294967296) : bitsOf .or .u32 x y = ((x ||| y : Nat) : Int) := by
  have : x ||| y < 2 ^ 32 := Nat.or_lt_two_pow hx hy
  have e : (BitVec.ofInt 32 (x : Int) ||| BitVec.ofInt 32 (y : Int)).toNat = x ||| y := by rw [BitVec.toNat_or, bv32 x hx, bv32 y hy]
  show IntKind.u32.wrap ((BitVec.ofInt 32 (x : Int) ||| BitVec.ofInt 32 (y : Int)).toNat : Int) = _
  rw [e, wrap_u32]
  omega
theorem bits_xor32 (x y : Nat) (hx : x < 4294967296) (hy : y < 4294967296) : bitsOf .xor .u32 x y = ((x ^^^ y : Nat) : Int) := by
  have : x ^^^ y < 2 ^ 32 := Nat.xor_lt_two_pow hx hy
  have e : (BitVec.ofInt 32 (x : Int) ^^^ BitVec.ofInt 32 (y : Int)).toNat = x ^^^ y := by rw [BitVec.toNat_xor, bv32 x hx, bv32 y hy]
  show IntKind.u32.wrap ((BitVec.ofInt 32 (x : Int) ^^^ BitVec.ofInt 32 (y : Int)).toNat : Int) = _
  rw [e, wrap_u32]
  omega

/-- The low word of a number. -/
theorem bits_low (x : Nat) (hx : x < 18446744073709551616) : bitsOf .and .u64 x 4294967295 = ((x % 4294967296 : Nat) : Int) := by
  rw [show (4294967295 : Int) = ((4294967295 : Nat) : Int) from rfl, bits_and64 x 4294967295 hx (by omega), show (4294967295 : Nat) = 2 ^ 32 - 1 from rfl, Nat.and_two_pow_sub_one_eq_mod]

/-- A high word over a low one. -/
theorem bits_over (h l : Nat) (hh : h < 4294967296) (hl : l < 4294967296) : bitsOf .or .u64 ((h : Int) * 4294967296) l = ((h * 4294967296 + l : Nat) : Int) := by
  rw [show (h : Int) * 4294967296 = ((h * 4294967296 : Nat) : Int) by omega, bits_or64 _ l (by omega) (by omega)]
  congr 1
  have := Nat.two_pow_add_eq_or_of_lt (i := 32) (b := l) (by simpa using hl) h
  rw [Nat.mul_comm h 4294967296]
  exact this.symm

theorem wrap_iu (x : Int) (h1 : -9223372036854775808 ≤ x) (h2 : x ≤ 9223372036854775807) : IntKind.i64.wrap (IntKind.u64.wrap x) = x := by
  rw [wrap_i64, wrap_u64]; omega
theorem wrap_ui (x : Int) (h1 : 0 ≤ x) (h2 : x < 18446744073709551616) : IntKind.u64.wrap (IntKind.i64.wrap x) = x := by
  rw [wrap_u64, wrap_i64]; omega
theorem wrap_i64_rng (x : Int) : -9223372036854775808 ≤ IntKind.i64.wrap x ∧ IntKind.i64.wrap x ≤ 9223372036854775807 := by
  rw [wrap_i64]; omega
/-- A sum less what was added. -/
theorem wrap_back (x y : Int) (h1 : 0 ≤ x) (h2 : x < 18446744073709551616) : IntKind.u64.wrap (IntKind.u64.wrap (x + y) + IntKind.u64.wrap (0 - y)) = x := by
  rw [wrap_u64, wrap_u64, wrap_u64]; omega

section
variable {ρ : Env} (a b : E)
theorem ev_bits (o : BinOp) (k : IntKind) : ((E.bi (.bits o k) a b).ev ρ).int = bitsOf o k (a.ev ρ).int (b.ev ρ).int := rfl
end
end Go.Eng

/-
  Contracts of functions of numbers, bools and strings: what is answered is an expression in the arguments.
-/
namespace Go.Eng
open Go.RowKit

mutual
def DV.subS (σ : T E) : DV → DV
  | .int k e => .int k (e.sub σ)
  | .bool e => .bool (e.sub σ)
  | .str e => .str (e.sub σ)
  | .tup l => .tup (DV.subSL σ l)
  | .agg l => .agg (DV.subSL σ l)
  | d => d
def DV.subSL (σ : T E) : List DV → List DV
  | [] => []
  | d :: r => DV.subS σ d :: DV.subSL σ r
end

mutual
theorem DV.subS_R {σ : T E} {m m' : Emb} {ρ : Env} : ∀ {d : DV} {v : Value}, d.scal = true → d.R m' (ρ.upd σ) v → (d.subS σ).R m ρ v
  | .int k e, v, _, h => by simp only [DV.subS, DV.R, E.sub_ev] at h ⊢; exact h
  | .bool e, v, _, h => by simp only [DV.subS, DV.R, E.sub_ev] at h ⊢; exact h
  | .str e, v, _, h => by simp only [DV.subS, DV.R, E.sub_ev] at h ⊢; exact h
  | .tup l, v, hs, h => by
    simp only [DV.subS, DV.R] at h ⊢
    obtain ⟨vs, hv, hl⟩ := h
    exact ⟨vs, hv, DV.subSL_R (by simpa [DV.scal] using hs) hl⟩
  | .agg l, v, hs, h => by
    simp only [DV.subS, DV.R] at h ⊢
    obtain ⟨vs, hv, hl⟩ := h
    exact ⟨vs, hv, DV.subSL_R (by simpa [DV.scal] using hs) hl⟩
  | .ptr _ _, _, hs, _ => by simp [DV.scal] at hs
  | .nilp, _, hs, _ => by simp [DV.scal] at hs
  | .gptr _ _, _, hs, _ => by simp [DV.scal] at hs
  | .slc _ _ _ _, _, hs, _ => by simp [DV.scal] at hs
  | .nils, _, hs, _ => by simp [DV.scal] at hs
  | .mt, _, hs, _ => by simp [DV.scal] at hs
  | .ifc _ _, _, hs, _ => by simp [DV.scal] at hs
  | .nili, _, hs, _ => by simp [DV.scal] at hs
  | .fn _ _ _, _, hs, _ => by simp [DV.scal] at hs
  | .nilf, _, hs, _ => by simp [DV.scal] at hs
  | .mp _, _, hs, _ => by simp [DV.scal] at hs
  | .nilm, _, hs, _ => by simp [DV.scal] at hs
theorem DV.subSL_R {σ : T E} {m m' : Emb} {ρ : Env} : ∀ {l : List DV} {vs : List Value}, DV.scalL l = true → DV.RL m' (ρ.upd σ) l vs → DV.RL m ρ (DV.subSL σ l) vs
  | [], vs, _, h => by simpa only [DV.subSL, DV.RL] using h
  | d :: r, vs, hs, h => by
    simp only [DV.scalL, Bool.and_eq_true] at hs
    simp only [DV.subSL, DV.RL] at h ⊢
    obtain ⟨v, vr, hv, h1, h2⟩ := h
    exact ⟨v, vr, hv, DV.subS_R hs.1 h1, DV.subSL_R hs.2 h2⟩
end

/-- The expression of an argument of a kind, within the kind's range. -/
def argE (F : Facts) : Kd → DV → Option E
  | .int k, .int k' e => match e.rng F with
    | (some lo, some hi) => if k = k' ∧ k.min ≤ lo ∧ hi ≤ k.max then some e else none
    | _ => none
  | .bool, .bool e => some e
  | .str, .str e => some e
  | _, _ => none

def sigOf (F : Facts) : List Kd → List DV → Nat → Option (List (Nat × E))
  | [], [], _ => some []
  | k :: ks, d :: ds, i => match argE F k d, sigOf F ks ds (i + 1) with
    | some e, some r => some ((i, e) :: r)
    | _, _ => none
  | _, _, _ => none

def pureC (F : Facts) (ks : List Kd) (res : DV) : CallD := fun _ xs h n => match sigOf F ks xs 0 with
  | some σ => if res.scal then some ⟨res.subS (T.ofList σ), h, n⟩ else none
  | none => none

/-- What is known of the arguments. -/
def kdOk (ρ : Env) : List Kd → Nat → Prop
  | [], _ => True
  | .int k :: r, i => (k.min ≤ (ρ.v i).int ∧ (ρ.v i).int ≤ k.max) ∧ kdOk ρ r (i + 1)
  | _ :: r, i => kdOk ρ r (i + 1)

theorem sigOf_keys {F : Facts} : ∀ {ks : List Kd} {xs : List DV} {i : Nat} {σ : List (Nat × E)}, sigOf F ks xs i = some σ → ∀ p ∈ σ, i ≤ p.1
  | [], [], i, σ, h, p, hp => by simp only [sigOf] at h; cases h; cases hp
  | [], _ :: _, i, σ, h, p, hp => by simp [sigOf] at h
  | _ :: _, [], i, σ, h, p, hp => by simp [sigOf] at h
  | k :: ks, d :: ds, i, σ, h, p, hp => by
    simp only [sigOf] at h
    split at h
    · rename_i e r he hr
      cases h
      rcases List.mem_cons.1 hp with rfl | hp
      · exact Nat.le_refl _
      · have := sigOf_keys hr p hp; omega
    · cases h

theorem upd_out (ρ : Env) : ∀ {σ : List (Nat × E)} {n : Nat}, (∀ p ∈ σ, n < p.1) → (ρ.upd (T.ofList σ)).v n = ρ.v n
  | [], n, _ => rfl
  | (k, e) :: r, n, h => by
    rw [upd_cons, if_neg (by have := h (k, e) (List.mem_cons_self ..); simp only at this; omega)]
    exact upd_out ρ fun p hp => h p (List.mem_cons_of_mem _ hp)

theorem sigOf_ok {F : Facts} {ρ : Env} (hF : F.ok ρ) {m m' : Emb} : ∀ {ks : List Kd} {xs : List DV} {i : Nat} {σ : List (Nat × E)}, sigOf F ks xs i = some σ → ∀ {vs : List Value}, DV.RL m ρ xs vs →
    ∀ ρ' : Env, (∀ p ∈ σ, ρ'.v p.1 = p.2.ev ρ) → kdOk ρ' ks i ∧ DV.RL m' ρ' (kdsDV ks i) vs
  | [], [], i, σ, h, vs, hv, ρ', _ => by simp only [kdsDV, DV.RL] at hv ⊢; exact ⟨trivial, hv⟩
  | [], _ :: _, i, σ, h, _, _, _, _ => by simp [sigOf] at h
  | _ :: _, [], i, σ, h, _, _, _, _ => by simp [sigOf] at h
  | k :: ks, d :: ds, i, σ, h, vs, hv, ρ', hp => by
    simp only [sigOf] at h
    split at h
    · rename_i e r he hr
      cases h
      simp only [DV.RL] at hv
      obtain ⟨v, vr, rfl, h1, h2⟩ := hv
      obtain ⟨g1, g2⟩ := sigOf_ok hF (m' := m') hr h2 ρ' fun p hpr => hp p (List.mem_cons_of_mem _ hpr)
      have hi := hp (i, e) (List.mem_cons_self ..)
      simp only at hi
      unfold argE at he
      split at he
      · rename_i k0 k' e0
        split at he
        · rename_i lo hi' hrng
          split at he
          · rename_i hc
            cases he
            obtain ⟨rfl, hc1, hc2⟩ := hc
            have hh := E.rng_has hF e
            rw [hrng] at hh
            have q1 := hh.1 lo rfl
            have q2 := hh.2 hi' rfl
            simp only [DV.R] at h1
            refine ⟨⟨by rw [hi]; omega, g1⟩, ?_⟩
            simp only [kdsDV, kdDV, DV.RL]
            exact ⟨v, vr, rfl, by simp only [DV.R, E.ev]; rw [hi]; exact h1, g2⟩
          · cases he
        · cases he
      · cases he
        simp only [DV.R] at h1
        refine ⟨g1, ?_⟩
        simp only [kdsDV, kdDV, DV.RL]
        exact ⟨v, vr, rfl, by simp only [DV.R, E.ev]; rw [hi]; exact h1, g2⟩
      · cases he
        simp only [DV.R] at h1
        refine ⟨g1, ?_⟩
        simp only [kdsDV, kdDV, DV.RL]
        exact ⟨v, vr, rfl, by simp only [DV.R, E.ev]; rw [hi]; exact h1, g2⟩
      · cases he
    · cases h

theorem upd_keys {F : Facts} (ρ : Env) : ∀ {ks : List Kd} {xs : List DV} {i : Nat} {σ : List (Nat × E)}, sigOf F ks xs i = some σ → ∀ p ∈ σ, (ρ.upd (T.ofList σ)).v p.1 = p.2.ev ρ
  | [], [], i, σ, h, p, hp => by simp only [sigOf] at h; cases h; cases hp
  | [], _ :: _, i, σ, h, p, hp => by simp [sigOf] at h
  | _ :: _, [], i, σ, h, p, hp => by simp [sigOf] at h
  | k :: ks, d :: ds, i, σ, h, p, hp => by
    simp only [sigOf] at h
    split at h
    · rename_i e r he hr
      cases h
      rw [upd_cons]
      rcases List.mem_cons.1 hp with rfl | hp
      · simp
      · have := sigOf_keys hr p hp
        rw [if_neg (by omega)]
        exact upd_keys ρ hr p hp
    · cases h

section
variable {P : Program} {F : Facts}

theorem pureC_ok {ks : List Kd} {res : DV} {f : FuncId}
    (hcall : ∀ ρ : Env, kdOk ρ ks 0 → ∀ (m : Emb) (w : World) (vs : Array Value), DV.RL m ρ (kdsDV ks 0) vs.toList → HeapR m ρ .nil w → (∀ id, m.ι id = none) →
      Calls P f vs w fun e w' => ∃ v m', e = .returned v ∧ res.R m' ρ v ∧ Below w.heap.size w w') :
    ∀ g xs h n x, pureC F ks res g xs h n = some x → ∀ ρ, F.ok ρ → ∀ m w (vs : Array Value), DV.RL m ρ xs vs.toList → HeapR m ρ h w → (∀ id, n ≤ id → m.ι id = none) →
      Calls P f vs w fun e w' => ∃ v m', e = .returned v ∧ x.d.R m' ρ v ∧ HeapR m' ρ x.h w' ∧ Trans m h w m' x.h w' ∧ (∀ id, x.n ≤ id → m'.ι id = none) := by
  intro g xs h n x hx ρ hF m w vs hvs hH hf
  unfold pureC at hx
  split at hx
  · rename_i σ hσ
    split at hx
    · rename_i hs
      cases hx
      obtain ⟨g1, g2⟩ := sigOf_ok hF (m' := ⟨fun _ => none, fun _ => 0⟩) hσ hvs (ρ.upd (T.ofList σ)) (upd_keys ρ hσ)
      refine (hcall _ g1 ⟨fun _ => none, fun _ => 0⟩ w vs g2 ⟨fun id B hB => by simp at hB, fun id id' B B' b hB => by simp at hB⟩ (fun _ => rfl)).mono fun e w' ⟨v, m', he, hd, hb⟩ => ?_
      exact ⟨v, m, he, DV.subS_R hs hd, heap_below hH hb, trans_below hb, hf⟩
    · cases hx
  · cases hx

/-- The bounds of the arguments. -/
def kdB : List Kd → Nat → List (E × Int × Int)
  | [], _ => []
  | .int k :: r, i => (.vr i, k.min, k.max) :: kdB r (i + 1)
  | _ :: r, i => kdB r (i + 1)

theorem kdB_ok {ρ : Env} : ∀ {ks : List Kd} {i : Nat}, kdOk ρ ks i → ∀ p ∈ kdB ks i, p.2.1 ≤ (p.1.ev ρ).int ∧ (p.1.ev ρ).int ≤ p.2.2
  | [], i, _, p, hp => by simp [kdB] at hp
  | .int k :: r, i, h, p, hp => by
    simp only [kdB, List.mem_cons] at hp
    rcases hp with rfl | hp
    · exact h.1
    · exact kdB_ok h.2 p hp
  | .bool :: r, i, h, p, hp => kdB_ok (ks := r) (i := i + 1) h p hp
  | .str :: r, i, h, p, hp => kdB_ok (ks := r) (i := i + 1) h p hp
  | .any :: r, i, h, p, hp => kdB_ok (ks := r) (i := i + 1) h p hp

/-- Such a contract, by a plan without loops. -/
theorem pure_by_plan {Γ : Facts → FuncId → Option CallD} (hΓ : ∀ F : Facts, ΓOk P F (Γ F)) {f : FuncId} {fn : Func} {root : Code} (hfn : P.funcs[f]? = some fn) (hbody : fn.body = some root) {ks : List Kd} (hlen : (kdsDV ks 0).length ≤ fn.ntmps)
    {loops depth : Nat} {plan : PL} (hrun : PL.run (seg P Γ loops depth (([] : List Pt).map (·.rp)) (.code root []) [] ⟨argsT 0 (kdsDV ks 0), .nil, 0, fn.ntmps, []⟩) (finTrue P fn) [] { bnds := kdB ks 0, sem := fun _ => True } plan = true)
    {res : DV} (fit : ∀ ρ : Env, kdOk ρ ks 0 → plan.Fit (fun d ρ' => ∀ m v, d.R m ρ' v → res.R m ρ v) (fun _ _ => False) ρ) :
    ∀ ρ : Env, kdOk ρ ks 0 → ∀ (m : Emb) (w : World) (vs : Array Value), DV.RL m ρ (kdsDV ks 0) vs.toList → HeapR m ρ .nil w → (∀ id, m.ι id = none) →
      Calls P f vs w fun e w' => ∃ v m', e = .returned v ∧ res.R m' ρ v ∧ Below w.heap.size w w' := by
  intro ρ hk m w vs hvs hH hf
  refine (calls_by_points (S := fun _ => True) (fun F _ => hΓ F) hfn hbody hlen (fun p hp => by cases hp) (fun p hp => by cases hp) rfl hrun (fun d ρ' => ∀ m v, d.R m ρ' v → res.R m ρ v) (fun _ _ => False) (fun _ _ => 0)
    (fun j p ρ hp _ => by cases hp) (ρ := ρ) ⟨by simp, kdB_ok hk, by simp, trivial⟩ (fit ρ hk) hvs hH (fun id _ => hf id)).mono fun e w' he => ?_
  obtain ⟨v, d, ρ', m', h', he, hd, ho, _, hs⟩ := he
  exact ⟨v, m', he, ho m' v hd, hs.below fun b ⟨id, B, hB, _⟩ => by simp at hB⟩
end
end Go.Eng

/-
  Contracts of functions of plain arguments: numbers, bools, strings, and structs and arrays of these.
-/
namespace Go.Eng
open Go.RowKit

/-- How an argument comes: one cell, or a struct or array of some. -/
inductive AK where
  | one (k : Kd) | agg (ks : List Kd)

def AK.ks : AK → List Kd
  | .one k => [k]
  | .agg ks => ks
def aksK : List AK → List Kd
  | [] => []
  | a :: r => a.ks ++ aksK r
def aksDV : List AK → Nat → List DV
  | [], _ => []
  | .one k :: r, i => kdDV k i :: aksDV r (i + 1)
  | .agg ks :: r, i => .agg (kdsDV ks i) :: aksDV r (i + ks.length)

def sigAK (F : Facts) : List AK → List DV → Nat → Option (List (Nat × E))
  | [], [], _ => some []
  | .one k :: r, d :: ds, i => match argE F k d, sigAK F r ds (i + 1) with
    | some e, some s => some ((i, e) :: s)
    | _, _ => none
  | .agg ks :: r, .agg l :: ds, i => match sigOf F ks l i, sigAK F r ds (i + ks.length) with
    | some s, some t => some (s ++ t)
    | _, _ => none
  | _, _, _ => none

def pureA (F : Facts) (ks : List AK) (res : DV) : CallD := fun _ xs h n => match sigAK F ks xs 0 with
  | some σ => if res.scal then some ⟨res.r F (T.ofList σ), h, n⟩ else none
  | none => none

theorem sigOf_map {F : Facts} : ∀ {ks : List Kd} {xs : List DV} {i : Nat} {σ : List (Nat × E)}, sigOf F ks xs i = some σ → σ.map (·.1) = List.range' i ks.length
  | [], [], i, σ, h => by simp only [sigOf] at h; cases h; rfl
  | [], _ :: _, i, σ, h => by simp [sigOf] at h
  | _ :: _, [], i, σ, h => by simp [sigOf] at h
  | k :: ks, d :: ds, i, σ, h => by
    simp only [sigOf] at h
    split at h
    · rename_i e r he hr
      cases h
      simp only [List.map_cons, List.length_cons, List.range'_succ, sigOf_map hr]
    · cases h

theorem sigAK_map {F : Facts} : ∀ {ks : List AK} {xs : List DV} {i : Nat} {σ : List (Nat × E)}, sigAK F ks xs i = some σ → σ.map (·.1) = List.range' i (aksK ks).length
  | [], [], i, σ, h => by simp only [sigAK] at h; cases h; rfl
  | [], _ :: _, i, σ, h => by simp [sigAK] at h
  | .one _ :: _, [], i, σ, h => by simp [sigAK] at h
  | .agg _ :: _, [], i, σ, h => by simp [sigAK] at h
  | .one k :: r, d :: ds, i, σ, h => by
    simp only [sigAK] at h
    split at h
    · rename_i e s he hs
      cases h
      simp only [List.map_cons, aksK, AK.ks, List.length_append, List.length_cons, List.length_nil, Nat.zero_add, sigAK_map hs]
      rw [Nat.add_comm 1, List.range'_succ]
    · cases h
  | .agg ks :: r, d :: ds, i, σ, h => by
    cases d <;> simp only [sigAK, reduceCtorEq] at h
    split at h
    · rename_i s t hs ht
      cases h
      simp only [List.map_append, aksK, AK.ks, List.length_append, sigOf_map hs, sigAK_map ht]
      rw [List.range'_append_1]
    · cases h

theorem upd_range {ρ : Env} : ∀ {σ : List (Nat × E)} {i n : Nat}, σ.map (·.1) = List.range' i n → ∀ p ∈ σ, (ρ.upd (T.ofList σ)).v p.1 = p.2.ev ρ
  | [], i, n, _, p, hp => by cases hp
  | (k, e) :: r, i, n, h, p, hp => by
    cases n with
    | zero => simp at h
    | succ n =>
      simp only [List.map_cons, List.range'_succ, List.cons.injEq] at h
      obtain ⟨rfl, hr⟩ := h
      rw [upd_cons]
      rcases List.mem_cons.1 hp with rfl | hp
      · simp
      · have hk : p.1 ∈ List.range' (k + 1) n := by rw [← hr]; exact List.mem_map_of_mem (f := fun q : Nat × E => q.1) hp
        have := (List.mem_range'_1.1 hk).1
        rw [if_neg (by omega)]
        exact upd_range hr p hp

theorem kdOk_append {ρ : Env} : ∀ {ks ls : List Kd} {i : Nat}, kdOk ρ ks i → kdOk ρ ls (i + ks.length) → kdOk ρ (ks ++ ls) i
  | [], ls, i, _, h => by simpa using h
  | k :: ks, ls, i, h1, h2 => by
    have e : i + (k :: ks).length = i + 1 + ks.length := by simp only [List.length_cons]; omega
    rw [e] at h2
    cases k <;> simp only [List.cons_append, kdOk] at h1 ⊢
    · exact ⟨h1.1, kdOk_append h1.2 h2⟩
    · exact kdOk_append h1 h2
    · exact kdOk_append h1 h2
    · exact kdOk_append h1 h2

theorem sigAK_ok {F : Facts} {ρ : Env} (hF : F.ok ρ) {m m' : Emb} : ∀ {ks : List AK} {xs : List DV} {i : Nat} {σ : List (Nat × E)}, sigAK F ks xs i = some σ → ∀ {vs : List Value}, DV.RL m ρ xs vs →
    ∀ ρ' : Env, (∀ p ∈ σ, ρ'.v p.1 = p.2.ev ρ) → kdOk ρ' (aksK ks) i ∧ DV.RL m' ρ' (aksDV ks i) vs
  | [], [], i, σ, h, vs, hv, ρ', _ => by simp only [aksDV, DV.RL] at hv ⊢; exact ⟨trivial, hv⟩
  | [], _ :: _, i, σ, h, _, _, _, _ => by simp [sigAK] at h
  | .one _ :: _, [], i, σ, h, _, _, _, _ => by simp [sigAK] at h
  | .agg _ :: _, [], i, σ, h, _, _, _, _ => by simp [sigAK] at h
  | .one k :: r, d :: ds, i, σ, h, vs, hv, ρ', hp => by
    simp only [sigAK] at h
    split at h
    · rename_i e s he hs
      cases h
      simp only [DV.RL] at hv
      obtain ⟨v, vr, rfl, h1, h2⟩ := hv
      obtain ⟨g1, g2⟩ := sigAK_ok hF (m' := m') hs h2 ρ' fun p hpr => hp p (List.mem_cons_of_mem _ hpr)
      have one : sigOf F [k] [d] i = some [(i, e)] := by simp only [sigOf, he]
      obtain ⟨k1, k2⟩ := sigOf_ok hF (m' := m') one (vs := [v]) (by simp only [DV.RL]; exact ⟨v, [], rfl, h1, rfl⟩) ρ' fun p hpr => hp p (by simp at hpr; subst hpr; exact List.mem_cons_self ..)
      refine ⟨?_, ?_⟩
      · simp only [aksK, AK.ks]
        exact kdOk_append k1 (by simpa using g1)
      · simp only [kdsDV, DV.RL] at k2
        obtain ⟨v', vr', e1, k3, k4⟩ := k2
        cases e1
        simp only [aksDV, DV.RL]
        exact ⟨v, vr, rfl, k3, g2⟩
    · cases h
  | .agg ks :: r, d :: ds, i, σ, h, vs, hv, ρ', hp => by
    cases d <;> simp only [sigAK, reduceCtorEq] at h
    split at h
    · rename_i l s t hs ht
      cases h
      simp only [DV.RL] at hv
      obtain ⟨v, vr, rfl, h1, h2⟩ := hv
      simp only [DV.R] at h1
      obtain ⟨us, rfl, hl⟩ := h1
      obtain ⟨g1, g2⟩ := sigAK_ok hF (m' := m') ht h2 ρ' fun p hpr => hp p (List.mem_append_right _ hpr)
      obtain ⟨k1, k2⟩ := sigOf_ok hF (m' := m') hs hl ρ' fun p hpr => hp p (List.mem_append_left _ hpr)
      refine ⟨?_, ?_⟩
      · simp only [aksK, AK.ks]
        exact kdOk_append k1 g1
      · simp only [aksDV, DV.RL]
        exact ⟨_, vr, rfl, by simp only [DV.R]; exact ⟨us, rfl, k2⟩, g2⟩
    · cases h

section
variable {P : Program} {F : Facts}

theorem pureA_ok {ks : List AK} {res : DV} {f : FuncId}
    (hcall : ∀ ρ : Env, kdOk ρ (aksK ks) 0 → ∀ (m : Emb) (w : World) (vs : Array Value), DV.RL m ρ (aksDV ks 0) vs.toList → HeapR m ρ .nil w → (∀ id, m.ι id = none) →
      Calls P f vs w fun e w' => ∃ v m', e = .returned v ∧ res.R m' ρ v ∧ Below w.heap.size w w') :
    ∀ g xs h n x, pureA F ks res g xs h n = some x → ∀ ρ, F.ok ρ → ∀ m w (vs : Array Value), DV.RL m ρ xs vs.toList → HeapR m ρ h w → (∀ id, n ≤ id → m.ι id = none) →
      Calls P f vs w fun e w' => ∃ v m', e = .returned v ∧ x.d.R m' ρ v ∧ HeapR m' ρ x.h w' ∧ Trans m h w m' x.h w' ∧ (∀ id, x.n ≤ id → m'.ι id = none) := by
  intro g xs h n x hx ρ hF m w vs hvs hH hf
  unfold pureA at hx
  split at hx
  · rename_i σ hσ
    split at hx
    · rename_i hs
      cases hx
      obtain ⟨g1, g2⟩ := sigAK_ok hF (m' := ⟨fun _ => none, fun _ => 0⟩) hσ hvs (ρ.upd (T.ofList σ)) (upd_range (sigAK_map hσ))
      refine (hcall _ g1 ⟨fun _ => none, fun _ => 0⟩ w vs g2 ⟨fun id B hB => by simp at hB, fun id id' B B' b hB => by simp at hB⟩ (fun _ => rfl)).mono fun e w' ⟨v, m', he, hd, hb⟩ => ?_
      exact ⟨v, m, he, (DV.r_R hF hs).1 hd, heap_below hH hb, trans_below hb, hf⟩
    · cases hx
  · cases hx

/-- Such a contract, by the function's loops. What is known at each point hangs on the arguments. -/
theorem pure_by_points {S : Env → Prop} {Γ : Facts → FuncId → Option CallD} (hΓ : ∀ F : Facts, F.sem = S → ΓOk P F (Γ F)) {f : FuncId} {fn : Func} {root : Code} (hfn : P.funcs[f]? = some fn) (hbody : fn.body = some root) {ks : List AK} (hlen : (aksDV ks 0).length ≤ fn.ntmps)
    {loops depth : Nat} {pts : List Pt} (hsem : ∀ p ∈ pts, p.facts.sem = S) (hpts : ∀ p ∈ pts, ptOk P Γ loops depth root fn pts p = true) {plan : PL}
    (hrun : PL.run (seg P Γ loops depth (pts.map (·.rp)) (.code root []) [] ⟨argsT 0 (aksDV ks 0), .nil, 0, fn.ntmps, []⟩) (finTrue P fn) pts { bnds := kdB (aksK ks) 0, sem := S } plan = true)
    {res : DV} (Inv : Env → Nat → Env → Prop) (μ : Nat → Env → Nat) (hS : ∀ ρ : Env, kdOk ρ (aksK ks) 0 → S ρ)
    (hI : ∀ ρ0 : Env, kdOk ρ0 (aksK ks) 0 → ∀ j p ρ, pts[j]? = some p → Inv ρ0 j ρ → p.facts.ok ρ ∧ p.Fit (fun d ρ' => ∀ m v, d.R m ρ' v → res.R m ρ0 v) (fun j' ρ' => Inv ρ0 j' ρ' ∧ μ j' ρ' < μ j ρ) ρ)
    (fit : ∀ ρ : Env, kdOk ρ (aksK ks) 0 → plan.Fit (fun d ρ' => ∀ m v, d.R m ρ' v → res.R m ρ v) (Inv ρ) ρ) :
    ∀ ρ : Env, kdOk ρ (aksK ks) 0 → ∀ (m : Emb) (w : World) (vs : Array Value), DV.RL m ρ (aksDV ks 0) vs.toList → HeapR m ρ .nil w → (∀ id, m.ι id = none) →
      Calls P f vs w fun e w' => ∃ v m', e = .returned v ∧ res.R m' ρ v ∧ Below w.heap.size w w' := by
  intro ρ hk m w vs hvs hH hf
  refine (calls_by_points hΓ hfn hbody hlen hsem hpts rfl hrun (fun d ρ' => ∀ m v, d.R m ρ' v → res.R m ρ v) (Inv ρ) μ
    (hI ρ hk) (ρ := ρ) ⟨by simp, kdB_ok hk, by simp, hS ρ hk⟩ (fit ρ hk) hvs hH (fun id _ => hf id)).mono fun e w' he => ?_
  obtain ⟨v, d, ρ', m', h', he, hd, ho, _, hs⟩ := he
  exact ⟨v, m', he, ho m' v hd, hs.below fun b ⟨id, B, hB, _⟩ => by simp at hB⟩
end
end Go.Eng

/-
  Contracts by cases of a whole call: what is answered is the told expression, case by case; nothing but the kernel's run is to be shown.
-/
namespace Go.Eng
open Go.RowKit

section
variable (P : Program) (Γ : Facts → FuncId → Option CallD) (loops depth : Nat) (f : FuncId) (ks : List AK) (res : DV)

def treeOk : Facts → DT → Bool
  | F, .leaf => match runX P F Γ loops depth f (aksDV ks 0) .nil 0 with
    | some r => r.d.scal && (res.scal && DV.eqv (res.r F .nil) (r.d.r F .nil))
    | none => false
  | _, .absurd => false
  | F, .node c t e => match c.dec F with
    | some true => treeOk F t
    | some false => treeOk F e
    | none => treeOk (F.cons c true) t && treeOk (F.cons c false) e

variable {P} {Γ} {loops} {depth} {f} {ks} {res}

theorem treeOk_sound {S : Env → Prop} (hΓ : ∀ F : Facts, F.sem = S → ΓOk P F (Γ F)) : ∀ {F : Facts} {dt : DT}, F.sem = S → treeOk P Γ loops depth f ks res F dt = true → ∀ {ρ : Env}, F.ok ρ → ∀ (m : Emb) (w : World) (vs : Array Value), DV.RL m ρ (aksDV ks 0) vs.toList → HeapR m ρ .nil w → (∀ id, m.ι id = none) →
    Calls P f vs w fun e w' => ∃ v m', e = .returned v ∧ res.R m' ρ v ∧ Below w.heap.size w w'
  | F, .leaf, hS, h, ρ, hF, m, w, vs, hvs, hH, hf => by
    simp only [treeOk] at h
    split at h
    · rename_i r hr
      simp only [Bool.and_eq_true] at h
      refine (runX_ok (fun F' h' => hΓ F' (h'.trans hS)) loops depth f (aksDV ks 0) .nil 0 r hr ρ hF m w vs hvs hH (fun id _ => hf id)).mono fun e w' ⟨v, m', he, hd, hH', hT, _⟩ => ?_
      refine ⟨v, m', he, ?_, below_of hT fun id B hB => by simp at hB⟩
      have e := DV.eqv_eq h.2.2
      have h1 := (DV.r_R (σ := .nil) (m := m') (m' := m') hF h.1).1 (by rw [upd_nil']; exact hd)
      rw [← e] at h1
      have h2 := (DV.r_R (σ := .nil) (m := m') (m' := m') hF h.2.1).2 h1
      rw [upd_nil'] at h2
      exact h2
    · cases h
  | F, .absurd, hS, h, ρ, hF, m, w, vs, hvs, hH, hf => by simp [treeOk] at h
  | F, .node c t e, hS, h, ρ, hF, m, w, vs, hvs, hH, hf => by
    simp only [treeOk] at h
    split at h
    · exact treeOk_sound hΓ hS h hF m w vs hvs hH hf
    · exact treeOk_sound hΓ hS h hF m w vs hvs hH hf
    · simp only [Bool.and_eq_true] at h
      cases hc : (c.ev ρ).bool with
      | true => exact treeOk_sound hΓ ((Facts.cons_sem F c true).trans hS) h.1 (facts_cons hF hc) m w vs hvs hH hf
      | false => exact treeOk_sound hΓ ((Facts.cons_sem F c false).trans hS) h.2 (facts_cons hF hc) m w vs hvs hH hf

/-- A contract of a function of plain arguments. -/
def PureA (P : Program) (f : FuncId) (ks : List AK) (res : DV) : Prop := ∀ ρ : Env, kdOk ρ (aksK ks) 0 → ∀ (m : Emb) (w : World) (vs : Array Value), DV.RL m ρ (aksDV ks 0) vs.toList → HeapR m ρ .nil w → (∀ id, m.ι id = none) →
      Calls P f vs w fun e w' => ∃ v m', e = .returned v ∧ res.R m' ρ v ∧ Below w.heap.size w w'

theorem pure_by_tree (hΓ : ∀ F : Facts, ΓOk P F (Γ F)) {dt : DT} (h : treeOk P Γ loops depth f ks res { bnds := kdB (aksK ks) 0 } dt = true) : PureA P f ks res := fun ρ hk m w vs hvs hH hf =>
  treeOk_sound (S := fun _ => True) (fun F _ => hΓ F) rfl h (ρ := ρ) ⟨by simp, kdB_ok hk, by simp, trivial⟩ m w vs hvs hH hf

/-- A table of such contracts. -/
structure PC where
  f : FuncId
  ks : List AK
  res : DV

def ΓA : List PC → Facts → FuncId → Option CallD
  | [], _, _ => none
  | c :: r, F, g => if g = c.f then some (pureA F c.ks c.res) else ΓA r F g

theorem ΓA_ok : ∀ {l : List PC}, (∀ c ∈ l, PureA P c.f c.ks c.res) → ∀ F : Facts, ΓOk P F (ΓA l F)
  | [], _, F => fun _ _ h => by cases h
  | c :: r, hl, F => by
    intro g d hd
    simp only [ΓA] at hd
    split at hd
    · rename_i e
      cases hd
      subst e
      exact fun args h n x hx => pureA_ok (hl c (List.mem_cons_self ..)) c.f args h n x hx
    · exact ΓA_ok (fun x hx => hl x (List.mem_cons_of_mem _ hx)) F g d hd
end
end Go.Eng

/-
  Contracts of functions that read blocks: what is answered is an expression in what the blocks hold, wherever they lie.
-/
namespace Go.Eng
open Go.RowKit

/-- Which blocks and which expressions stand for those of a template. -/
abbrev Gs := List (Nat × Nat) × List (Nat × E)

def gE : E → E → List (Nat × E)
  | .vr n, e => [(n, e)]
  | _, _ => []
mutual
def gD : DV → DV → Gs
  | .int _ a, .int _ b => ([], gE a b)
  | .bool a, .bool b => ([], gE a b)
  | .str a, .str b => ([], gE a b)
  | .ptr i _, .ptr j _ => ([(i, j)], [])
  | .slc i _ l _, .slc j _ l' _ => ([(i, j)], gE l l')
  | .ifc _ a, .ifc _ b => gD a b
  | .agg l, .agg r => gL l r
  | .mp i, .mp j => ([(i, j)], [])
  | _, _ => ([], [])
def gL : List DV → List DV → Gs
  | a :: l, b :: r => let x := gD a b; let y := gL l r; (x.1 ++ y.1, x.2 ++ y.2)
  | _, _ => ([], [])
end
def gB : Blk → Blk → Gs
  | .cells l _ _, .cells l' _ _ => gL l l'
  | .arr q a n _ _ _, .arr q' a' n' _ _ _ => ([], gE q q' ++ (gE a a' ++ gE n n'))
  | .mix p a n _ s _ _, .mix p' a' n' _ s' _ _ => let x := gL p p'; let y := gL s s'; (x.1 ++ y.1, gE a a' ++ (gE n n' ++ (x.2 ++ y.2)))
  | _, _ => ([], [])
def gH (h : T Blk) : List (Nat × Blk) → Gs → Gs
  | [], g => g
  | (id, B) :: r, g => gH h r (match g.1.find? (fun p => p.1 == id) with
    | some p => (match h.get p.2 with
      | some B' => let x := gB B B'; (g.1 ++ x.1, g.2 ++ x.2)
      | none => g)
    | none => g)

section
variable (P : Program)

/-- What such a function does: 'S' is what is known of named functions. -/
def ReadOk (S : Env → Prop) (bnds : List (E × Int × Int)) (f : FuncId) (n0 : Nat) (args : List DV) (heap : List (Nat × Blk)) (res : DV) : Prop := ∀ ρ : Env, S ρ → (∀ p ∈ bnds, p.2.1 ≤ (p.1.ev ρ).int ∧ (p.1.ev ρ).int ≤ p.2.2) → ∀ (m : Emb) (w : World) (vs : Array Value), DV.RL m ρ args vs.toList →
  HeapR m ρ (T.ofList heap) w → (∀ id, n0 ≤ id → m.ι id = none) → Calls P f vs w fun e w' => ∃ v m', e = .returned v ∧ res.R m' ρ v ∧ Below w.heap.size w w'

structure RC where
  f : FuncId
  n0 : Nat
  args : List DV
  heap : List (Nat × Blk)
  bnds : List (E × Int × Int)
  res : DV

def inRng (F : Facts) (σ : T E) (p : E × Int × Int) : Bool := match (p.1.sub σ).rng F with
  | (some lo, some hi) => decide (p.2.1 ≤ lo) && decide (hi ≤ p.2.2)
  | _ => false

def rowC (F : Facts) (c : RC) : CallD := fun g xs h n =>
  let s := gL c.args xs
  let s := gH h c.heap s
  let r := rnL s.1
  let σ := T.ofList s.2
  if c.res.scal && c.bnds.all (inRng F σ) then readC σ r c.n0 c.args c.heap (c.res.subS σ) g xs h n else none
where rnL (l : List (Nat × Nat)) (id : Nat) : Nat := match l.find? (fun p => p.1 == id) with
  | some p => p.2
  | none => id
variable {P}

theorem subS_back {σ : T E} {m m' : Emb} {ρ : Env} {d : DV} {v : Value} (hs : d.scal = true) (h : d.R m' (ρ.upd σ) v) : (d.subS σ).R m ρ v := DV.subS_R hs h

theorem rowC_ok {F : Facts} {S : Env → Prop} (hS : ∀ (ρ : Env) (σ : T E), S ρ → S (ρ.upd σ)) (hF : F.sem = S) {c : RC} (hc : ReadOk P S c.bnds c.f c.n0 c.args c.heap c.res) :
    ∀ g xs h n x, g = c.f → rowC F c g xs h n = some x → ∀ ρ, F.ok ρ → ∀ m w (vs : Array Value), DV.RL m ρ xs vs.toList → HeapR m ρ h w → (∀ id, n ≤ id → m.ι id = none) →
      Calls P g vs w fun e w' => ∃ v m', e = .returned v ∧ x.d.R m' ρ v ∧ HeapR m' ρ x.h w' ∧ Trans m h w m' x.h w' ∧ (∀ id, x.n ≤ id → m'.ι id = none) := by
  intro g xs h n x hg hx
  subst hg
  unfold rowC at hx
  simp only at hx
  split at hx
  · rename_i hcond
    simp only [Bool.and_eq_true, List.all_eq_true] at hcond
    obtain ⟨hs, hb⟩ := hcond
    refine readC_ok (f := c.f) (fun ρ hok m w vs hvs hH hfr => ?_) c.f xs h n x hx
    have hsem : S (ρ.upd (T.ofList (gH h c.heap (gL c.args xs)).2)) := hS _ _ (hF ▸ hok.sem)
    refine (hc _ hsem (fun p hp => ?_) _ w vs hvs hH hfr).mono fun e w' ⟨v, m', he, hd, hbl⟩ => ⟨v, he, subS_back hs hd, hbl⟩
    have := hb p hp
    unfold inRng at this
    split at this
    · rename_i lo hi hr
      simp only [Bool.and_eq_true, decide_eq_true_eq] at this
      have h1 := rng_of hok hr
      rw [E.sub_ev] at h1
      omega
    · cases this
  · cases hx

/-- A table of such contracts ahead of another one. -/
def ΓW (l : List RC) (Γ : Facts → FuncId → Option CallD) (F : Facts) (g : FuncId) : Option CallD := match l.find? (fun c => c.f == g) with
  | some c => some (rowC F c)
  | none => Γ F g

theorem ΓW_ok {F : Facts} {S : Env → Prop} (hS : ∀ (ρ : Env) (σ : T E), S ρ → S (ρ.upd σ)) (hF : F.sem = S) {l : List RC} (hl : ∀ c ∈ l, ReadOk P S c.bnds c.f c.n0 c.args c.heap c.res) {Γ : Facts → FuncId → Option CallD} (hΓ : ΓOk P F (Γ F)) : ΓOk P F (ΓW l Γ F) := by
  intro g c hg
  unfold ΓW at hg
  split at hg
  · rename_i rc hf
    cases hg
    have hm := List.mem_of_find?_eq_some hf
    have he := List.find?_some hf
    simp only [beq_iff_eq] at he
    intro args h n r hr
    exact rowC_ok hS hF (hl rc hm) g args h n r he.symm hr
  · exact hΓ g c hg

/-- Out of a run over the template. -/
theorem read_of {S : Env → Prop} {Γ : Facts → FuncId → Option CallD} (hΓ : ∀ F : Facts, F.sem = S → ΓOk P F (Γ F)) {loops depth : Nat} {f : FuncId} {n0 : Nat} {args : List DV} {heap : List (Nat × Blk)} {bnds : List (E × Int × Int)} {res res' : DV}
    (hrun : (match runX P { bnds := bnds, sem := S } Γ loops depth f args (T.ofList heap) n0 with | some r => DV.eqv r.d res' | none => false) = true) (hro : (heap.all fun p => !p.2.rw) = true)
    (hres : ∀ ρ : Env, S ρ → ∀ m v, res'.R m ρ v → res.R m ρ v) : ReadOk P S bnds f n0 args heap res := by
  intro ρ hS hb m w vs hvs hH hf
  split at hrun
  · rename_i r hr
    refine (runX_ok (fun F' h' => hΓ F' h') loops depth f args _ n0 r hr ρ ⟨by simp, hb, by simp, hS⟩ m w vs hvs hH hf).mono fun e w' ⟨v, m', he, hd, hH', hT, _⟩ => ?_
    refine ⟨v, m', he, hres ρ hS m' v (by rw [← DV.eqv_eq hrun]; exact hd), below_of hT fun id B hB => ?_⟩
    have := List.all_eq_true.1 hro _ (ofList_mem hB)
    simpa using this
  · cases hrun
end
end Go.Eng

/-
  A law's argument that is a number known: the law with that number laid into its place.
-/
namespace Go.Eng
open Go.RowKit

mutual
/-- Is variable i the whole of a number wherever it occurs, and all else a variable? -/
def DV.okSub (i : Nat) : DV → Bool
  | .int _ (.vr _) => true
  | .bool (.vr j) => !(j == i)
  | .str (.vr j) => !(j == i)
  | .agg l => DV.okSubL i l
  | _ => false
def DV.okSubL (i : Nat) : List DV → Bool
  | [] => true
  | d :: r => DV.okSub i d && DV.okSubL i r
end

mutual
theorem okSub_scal {i : Nat} : ∀ {d : DV}, d.okSub i = true → d.scal = true
  | .int _ e, h => rfl
  | .bool e, h => rfl
  | .str e, h => rfl
  | .agg l, h => by simp only [DV.okSub] at h; simp only [DV.scal]; exact okSubL_scal h
  | .tup l, h => by simp [DV.okSub] at h
  | .ptr _ _, h => by simp [DV.okSub] at h
  | .nilp, h => by simp [DV.okSub] at h
  | .gptr _ _, h => by simp [DV.okSub] at h
  | .slc _ _ _ _, h => by simp [DV.okSub] at h
  | .nils, h => by simp [DV.okSub] at h
  | .mt, h => by simp [DV.okSub] at h
  | .ifc _ _, h => by simp [DV.okSub] at h
  | .nili, h => by simp [DV.okSub] at h
  | .fn _ _ _, h => by simp [DV.okSub] at h
  | .nilf, h => by simp [DV.okSub] at h
  | .mp _, h => by simp [DV.okSub] at h
  | .nilm, h => by simp [DV.okSub] at h
theorem okSubL_scal {i : Nat} : ∀ {l : List DV}, DV.okSubL i l = true → DV.scalL l = true
  | [], _ => rfl
  | d :: r, h => by
    simp only [DV.okSubL, Bool.and_eq_true] at h
    simp only [DV.scalL, Bool.and_eq_true]
    exact ⟨okSub_scal h.1, okSubL_scal h.2⟩
end

theorem upd_one {ρ : Env} {i : Nat} {k : Int} (hk : (ρ.v i).int = k) (j : Nat) : ((ρ.upd (T.ofList [(i, .li k)])).v j).int = (ρ.v j).int ∧ (j ≠ i → (ρ.upd (T.ofList [(i, .li k)])).v j = ρ.v j) := by
  rw [upd_cons]
  by_cases h : j = i
  · subst h; simp [E.ev, hk]
  · simp [h, upd_nil]

mutual
theorem okSub_R {ρ : Env} {m : Emb} {i : Nat} {k : Int} (hk : (ρ.v i).int = k) : ∀ {d : DV} {v : Value}, d.okSub i = true → d.R m ρ v → d.R m (ρ.upd (T.ofList [(i, .li k)])) v
  | .int kd e, v, h, hr => by
    cases e <;> simp only [DV.okSub, Bool.false_eq_true] at h
    simp only [DV.R, E.ev] at hr ⊢
    rw [(upd_one hk _).1]; exact hr
  | .bool e, v, h, hr => by
    cases e <;> simp only [DV.okSub, Bool.false_eq_true, Bool.not_eq_true', beq_eq_false_iff_ne] at h
    simp only [DV.R, E.ev] at hr ⊢
    rw [(upd_one hk _).2 h]; exact hr
  | .str e, v, h, hr => by
    cases e <;> simp only [DV.okSub, Bool.false_eq_true, Bool.not_eq_true', beq_eq_false_iff_ne] at h
    simp only [DV.R, E.ev] at hr ⊢
    rw [(upd_one hk _).2 h]; exact hr
  | .agg l, v, h, hr => by
    simp only [DV.okSub] at h
    simp only [DV.R] at hr ⊢
    obtain ⟨vs, hv, hl⟩ := hr
    exact ⟨vs, hv, okSubL_R hk h hl⟩
  | .tup l, _, h, _ => by simp [DV.okSub] at h
  | .ptr _ _, _, h, _ => by simp [DV.okSub] at h
  | .nilp, _, h, _ => by simp [DV.okSub] at h
  | .gptr _ _, _, h, _ => by simp [DV.okSub] at h
  | .slc _ _ _ _, _, h, _ => by simp [DV.okSub] at h
  | .nils, _, h, _ => by simp [DV.okSub] at h
  | .mt, _, h, _ => by simp [DV.okSub] at h
  | .ifc _ _, _, h, _ => by simp [DV.okSub] at h
  | .nili, _, h, _ => by simp [DV.okSub] at h
  | .fn _ _ _, _, h, _ => by simp [DV.okSub] at h
  | .nilf, _, h, _ => by simp [DV.okSub] at h
  | .mp _, _, h, _ => by simp [DV.okSub] at h
  | .nilm, _, h, _ => by simp [DV.okSub] at h
theorem okSubL_R {ρ : Env} {m : Emb} {i : Nat} {k : Int} (hk : (ρ.v i).int = k) : ∀ {l : List DV} {vs : List Value}, DV.okSubL i l = true → DV.RL m ρ l vs → DV.RL m (ρ.upd (T.ofList [(i, .li k)])) l vs
  | [], vs, _, hr => hr
  | d :: r, vs, h, hr => by
    simp only [DV.okSubL, Bool.and_eq_true] at h
    simp only [DV.RL] at hr ⊢
    obtain ⟨v, vr, hv, h1, h2⟩ := hr
    exact ⟨v, vr, hv, okSub_R hk h.1 h1, okSubL_R hk h.2 h2⟩
end

/-- The arguments with a number in a variable's place. -/
def argsAt (i : Nat) (k : Int) (l : List DV) : List DV := DV.rL {} (T.ofList [(i, .li k)]) l

theorem argsAt_R {ρ : Env} {m : Emb} {i : Nat} {k : Int} (hk : (ρ.v i).int = k) {l : List DV} {vs : List Value} (h : DV.okSubL i l = true) (hr : DV.RL m ρ l vs) : DV.RL m ρ (argsAt i k l) vs :=
  (DV.rL_R (F := {}) (m' := m) ⟨by simp, by simp, by simp, trivial⟩ (okSubL_scal h)).1 (okSubL_R hk h hr)

/-- What an expression means hangs on its variables alone. -/
theorem ev_under {N : Nat} {ρ ρ' : Env} (hf : ρ.f = ρ'.f) (hv : ∀ n, n < N → ρ.v n = ρ'.v n) : ∀ {e : E}, e.under N = true → e.ev ρ = e.ev ρ'
  | .vr n, h => by
    simp only [E.under, decide_eq_true_eq] at h
    exact hv n h
  | .li n, _ => rfl
  | .lb w, _ => rfl
  | .ls x, _ => rfl
  | .un o a, h => by simp only [E.under] at h; simp only [E.ev, ev_under hf hv h]
  | .bi o a b, h => by
    simp only [E.under, Bool.and_eq_true] at h
    simp only [E.ev, ev_under hf hv h.1, ev_under hf hv h.2]
  | .tr o a b c, h => by
    simp only [E.under, Bool.and_eq_true] at h
    simp only [E.ev, ev_under hf hv h.1.1, ev_under hf hv h.1.2, ev_under hf hv h.2]
    cases o <;> simp only [B3.ev, hf]
end Go.Eng

/-
  Calls of told plain arguments, each proved apart by the kernel's run: a closed law's run then looks them up.
-/
namespace Go.Eng
open Go.RowKit

theorem DV.scal_R {m m' : Emb} {ρ : Env} {d : DV} {v : Value} (hs : d.scal = true) (h : d.R m' ρ v) : d.R m ρ v := by
  have hF : (({} : Facts)).ok ρ := ⟨by simp, by simp, by simp, trivial⟩
  have a := (DV.r_R (F := {}) (σ := .nil) (m := m) (m' := m') hF hs).1 (by rw [upd_nil']; exact h)
  have b := (DV.r_R (F := {}) (σ := .nil) (m := m) (m' := m) hF hs).2 a
  rwa [upd_nil'] at b
theorem DV.scalL_R {m m' : Emb} {ρ : Env} {d : List DV} {v : List Value} (hs : DV.scalL d = true) (h : DV.RL m' ρ d v) : DV.RL m ρ d v := by
  have hF : (({} : Facts)).ok ρ := ⟨by simp, by simp, by simp, trivial⟩
  have a := (DV.rL_R (F := {}) (σ := .nil) (m := m) (m' := m') hF hs).1 (by rw [upd_nil']; exact h)
  have b := (DV.rL_R (F := {}) (σ := .nil) (m := m) (m' := m) hF hs).2 a
  rwa [upd_nil'] at b

/-- A call: the function, what it is given, what it answers. -/
structure MC where
  f : FuncId
  args : List DV
  res : DV

section
variable (P : Program)
def Memo (c : MC) : Prop := ∀ (ρ : Env) (m : Emb) (w : World) (vs : Array Value), DV.RL m ρ c.args vs.toList → HeapR m ρ .nil w → (∀ id, m.ι id = none) →
      Calls P c.f vs w fun e w' => ∃ v m', e = .returned v ∧ c.res.R m' ρ v ∧ Below w.heap.size w w'

def memoOk (Γ : Facts → FuncId → Option CallD) (loops depth : Nat) (c : MC) : Bool := match runX P {} Γ loops depth c.f c.args .nil 0 with
  | some r => DV.eqv r.d c.res
  | none => false
variable {P}
theorem memo_of {Γ : Facts → FuncId → Option CallD} (hΓ : ∀ F : Facts, ΓOk P F (Γ F)) {loops depth : Nat} {c : MC} (h : memoOk P Γ loops depth c = true) : Memo P c := by
  intro ρ m w vs hvs hH hf
  unfold memoOk at h
  split at h
  · rename_i r hr
    refine (runX_ok (F := {}) (fun F' _ => hΓ F') loops depth c.f c.args .nil 0 r hr ρ ⟨by simp, by simp, by simp, trivial⟩ m w vs hvs hH (fun id _ => hf id)).mono fun e w' ⟨v, m', he, hd, hH', hT, _⟩ => ?_
    refine ⟨v, m', he, ?_, below_of hT fun id B hB => by simp at hB⟩
    rw [← DV.eqv_eq h]; exact hd
  · cases h

/-- The told calls of the function g. -/
def memoC (g : FuncId) : List MC → CallD
  | [], _, _, _, _ => none
  | c :: r, k, xs, h, n => if c.f == g && (DV.eqvL xs c.args && (DV.scalL c.args && c.res.scal)) then some ⟨c.res, h, n⟩ else memoC g r k xs h n

theorem memoC_ok {F : Facts} {f : FuncId} : ∀ {l : List MC}, (∀ c ∈ l, Memo P c) → ∀ g xs h n x, memoC f l g xs h n = some x → ∀ ρ, F.ok ρ → ∀ m w (vs : Array Value), DV.RL m ρ xs vs.toList → HeapR m ρ h w → (∀ id, n ≤ id → m.ι id = none) →
      Calls P f vs w fun e w' => ∃ v m', e = .returned v ∧ x.d.R m' ρ v ∧ HeapR m' ρ x.h w' ∧ Trans m h w m' x.h w' ∧ (∀ id, x.n ≤ id → m'.ι id = none)
  | [], _, g, xs, h, n, x, hx, _, _, _, _, _, _, _, _ => by simp [memoC] at hx
  | c :: r, hl, g, xs, h, n, x, hx, ρ, hF, m, w, vs, hvs, hH, hf => by
    simp only [memoC] at hx
    split at hx
    · rename_i hc
      simp only [Bool.and_eq_true, beq_iff_eq] at hc
      obtain ⟨rfl, he, hs1, hs2⟩ := hc
      cases hx
      rw [DV.eqvL_eq he] at hvs
      refine (hl c (List.mem_cons_self ..) ρ ⟨fun _ => none, fun _ => 0⟩ w vs (DV.scalL_R hs1 hvs) ⟨fun id B hB => by simp at hB, fun id id' B B' b hB => by simp at hB⟩ (fun _ => rfl)).mono fun e w' ⟨v, m', he, hd, hb⟩ => ?_
      exact ⟨v, m, he, DV.scal_R hs2 hd, heap_below hH hb, trans_below hb, hf⟩
    · exact memoC_ok (fun c hm => hl c (List.mem_cons_of_mem _ hm)) g xs h n x hx ρ hF m w vs hvs hH hf

def ΓM (fs : List FuncId) (l : List MC) (Γ : Facts → FuncId → Option CallD) (F : Facts) (g : FuncId) : Option CallD := if fs.any (· == g) then some (memoC g l) else Γ F g
theorem ΓM_ok {fs : List FuncId} {l : List MC} (hl : ∀ c ∈ l, Memo P c) {Γ : Facts → FuncId → Option CallD} (hΓ : ∀ F : Facts, ΓOk P F (Γ F)) : ∀ F : Facts, ΓOk P F (ΓM fs l Γ F) := fun F g d hd => by
  unfold ΓM at hd
  split at hd
  · cases hd
    exact fun args h n x hx => memoC_ok hl g args h n x hx
  · exact hΓ F g d hd
end
end Go.Eng

/-
  Numbers of one and of eight bytes as rows of bits.
-/
namespace Go.Eng

theorem bv64_of {x : Int} (h0 : 0 ≤ x) (h1 : x ≤ 18446744073709551615) : ∃ X : BitVec 64, x = (X.toNat : Int) :=
  ⟨BitVec.ofNat 64 x.toNat, by rw [BitVec.toNat_ofNat, Nat.mod_eq_of_lt (by omega)]; omega⟩
theorem bv8_of {x : Int} (h0 : 0 ≤ x) (h1 : x ≤ 255) : ∃ X : BitVec 8, x = (X.toNat : Int) :=
  ⟨BitVec.ofNat 8 x.toNat, by rw [BitVec.toNat_ofNat, Nat.mod_eq_of_lt (by omega)]; omega⟩

theorem lit64 (c : Nat) (h : c < 18446744073709551616) : (OfNat.ofNat c : Int) = ((BitVec.ofNat 64 c).toNat : Int) := by
  rw [BitVec.toNat_ofNat, Nat.mod_eq_of_lt (by simpa using h)]; rfl
theorem lit8 (c : Nat) (h : c < 256) : (OfNat.ofNat c : Int) = ((BitVec.ofNat 8 c).toNat : Int) := by
  rw [BitVec.toNat_ofNat, Nat.mod_eq_of_lt (by simpa using h)]; rfl

theorem ofInt_toNat {n : Nat} (X : BitVec n) : BitVec.ofInt n (X.toNat : Int) = X := by
  rw [BitVec.ofInt_natCast]; simp

theorem wrap64_toNat (X : BitVec 64) : IntKind.u64.wrap (X.toNat : Int) = (X.toNat : Int) := by
  rw [wrap_u64]; have := X.isLt; omega
theorem wrap8_toNat (X : BitVec 8) : IntKind.u8.wrap (X.toNat : Int) = (X.toNat : Int) := by
  rw [wrap_u8]; have := X.isLt; omega

theorem b64_and (X Y : BitVec 64) : bitsOf .and .u64 (X.toNat : Int) (Y.toNat : Int) = ((X &&& Y).toNat : Int) := by
  show IntKind.u64.wrap (((BitVec.ofInt 64 (X.toNat : Int)) &&& (BitVec.ofInt 64 (Y.toNat : Int))).toNat : Int) = _
  rw [ofInt_toNat, ofInt_toNat, wrap64_toNat]
theorem b64_or (X Y : BitVec 64) : bitsOf .or .u64 (X.toNat : Int) (Y.toNat : Int) = ((X ||| Y).toNat : Int) := by
  show IntKind.u64.wrap (((BitVec.ofInt 64 (X.toNat : Int)) ||| (BitVec.ofInt 64 (Y.toNat : Int))).toNat : Int) = _
  rw [ofInt_toNat, ofInt_toNat, wrap64_toNat]
theorem b64_xor (X Y : BitVec 64) : bitsOf .xor .u64 (X.toNat : Int) (Y.toNat : Int) = ((X ^^^ Y).toNat : Int) := by
  show IntKind.u64.wrap (((BitVec.ofInt 64 (X.toNat : Int)) ^^^ (BitVec.ofInt 64 (Y.toNat : Int))).toNat : Int) = _
  rw [ofInt_toNat, ofInt_toNat, wrap64_toNat]
theorem b64_andNot (X Y : BitVec 64) : bitsOf .andNot .u64 (X.toNat : Int) (Y.toNat : Int) = ((X &&& ~~~Y).toNat : Int) := by
  show IntKind.u64.wrap (((BitVec.ofInt 64 (X.toNat : Int)) &&& ~~~(BitVec.ofInt 64 (Y.toNat : Int))).toNat : Int) = _
  rw [ofInt_toNat, ofInt_toNat, wrap64_toNat]
theorem b8_and (X Y : BitVec 8) : bitsOf .and .u8 (X.toNat : Int) (Y.toNat : Int) = ((X &&& Y).toNat : Int) := by
  show IntKind.u8.wrap (((BitVec.ofInt 8 (X.toNat : Int)) &&& (BitVec.ofInt 8 (Y.toNat : Int))).toNat : Int) = _
  rw [ofInt_toNat, ofInt_toNat, wrap8_toNat]
theorem b8_andNot (X Y : BitVec 8) : bitsOf .andNot .u8 (X.toNat : Int) (Y.toNat : Int) = ((X &&& ~~~Y).toNat : Int) := by
  show IntKind.u8.wrap (((BitVec.ofInt 8 (X.toNat : Int)) &&& ~~~(BitVec.ofInt 8 (Y.toNat : Int))).toNat : Int) = _
  rw [ofInt_toNat, ofInt_toNat, wrap8_toNat]

theorem w64_add (X Y : BitVec 64) : IntKind.u64.wrap ((X.toNat : Int) + (Y.toNat : Int)) = ((X + Y).toNat : Int) := by
  rw [wrap_u64, BitVec.toNat_add]; omega
theorem w64_sub (X Y : BitVec 64) : IntKind.u64.wrap ((X.toNat : Int) - (Y.toNat : Int)) = ((X - Y).toNat : Int) := by
  rw [wrap_u64, BitVec.toNat_sub]; have := X.isLt; have := Y.isLt; omega

theorem fdiv64 (k : Nat) (n : Int) (hn : n = 2 ^ k) (X : BitVec 64) : (X.toNat : Int).fdiv n = ((X >>> k).toNat : Int) := by
  subst hn
  rw [Int.fdiv_eq_ediv_of_nonneg _ (by have : (0 : Int) < 2 ^ k := Int.pow_pos (by omega); omega), BitVec.toNat_ushiftRight, Nat.shiftRight_eq_div_pow]
  push_cast
  rfl
theorem tmod64 (k : Nat) (n : Int) (hn : n = 2 ^ k) (X : BitVec 64) : (X.toNat : Int).tmod n = ((X % BitVec.ofNat 64 (2 ^ k)).toNat : Int) ∨ 64 ≤ k := by
  subst hn
  by_cases h : 64 ≤ k
  · exact .inr h
  · left
    have hk : 2 ^ k < 2 ^ 64 := Nat.pow_lt_pow_right (by omega) (by omega)
    rw [Int.tmod_eq_emod_of_nonneg (by omega), BitVec.toNat_umod, BitVec.toNat_ofNat, Nat.mod_eq_of_lt hk]
    push_cast
    rfl

theorem eq64 (X Y : BitVec 64) : ((X.toNat : Int) = (Y.toNat : Int)) = (X = Y) := propext ⟨fun h => BitVec.eq_of_toNat_eq (by omega), fun h => by rw [h]⟩
theorem eq8 (X Y : BitVec 8) : ((X.toNat : Int) = (Y.toNat : Int)) = (X = Y) := propext ⟨fun h => BitVec.eq_of_toNat_eq (by omega), fun h => by rw [h]⟩
theorem lt64 (X Y : BitVec 64) : ((X.toNat : Int) < (Y.toNat : Int)) = (X < Y) := propext ⟨fun h => by rw [BitVec.lt_def]; omega, fun h => by rw [BitVec.lt_def] at h; omega⟩
theorem low8 (X : BitVec 64) : IntKind.u8.wrap (X.toNat : Int) = ((X.setWidth 8).toNat : Int) := by
  rw [wrap_u8, BitVec.toNat_setWidth]; omega
theorem ite64 (c : Prop) [Decidable c] (X Y : BitVec 64) : (if c then (X.toNat : Int) else (Y.toNat : Int)) = ((if c then X else Y).toNat : Int) := by split <;> rfl
theorem ite8 (c : Prop) [Decidable c] (X Y : BitVec 8) : (if c then (X.toNat : Int) else (Y.toNat : Int)) = ((if c then X else Y).toNat : Int) := by split <;> rfl

/-- A byte laid at a place among eight. -/
theorem place8 (k : Nat) (n : Int) (hn : n = 2 ^ k) (hk : k ≤ 56) (X : BitVec 8) : (X.toNat : Int) * n = (((X.setWidth 64) <<< k).toNat : Int) := by
  subst hn
  have hx := X.isLt
  have h1 : X.toNat * 2 ^ k < 2 ^ 64 := by
    have : 2 ^ k ≤ 2 ^ 56 := Nat.pow_le_pow_right (by omega) hk
    calc X.toNat * 2 ^ k < 2 ^ 8 * 2 ^ k := Nat.mul_lt_mul_of_pos_right hx (Nat.pow_pos (by omega))
      _ ≤ 2 ^ 8 * 2 ^ 56 := Nat.mul_le_mul_left _ this
      _ = 2 ^ 64 := by decide
  rw [BitVec.toNat_shiftLeft, BitVec.toNat_setWidth, Nat.mod_eq_of_lt (Nat.lt_trans hx (by decide)), Nat.shiftLeft_eq, Nat.mod_eq_of_lt h1]
  push_cast
  rfl

theorem sub_and (X M : BitVec 64) : X - (X &&& M) = X &&& ~~~M := by
  have h : X = (X &&& M) + (X &&& ~~~M) := by
    rw [BitVec.add_eq_or_of_and_eq_zero]
    · ext i hi; simp; cases X[i] <;> cases M[i] <;> rfl
    · ext i hi; simp; intro _ h _; simp [h]
  have h2 : X - (X &&& M) = ((X &&& M) + (X &&& ~~~M)) - (X &&& M) := by rw [← h]
  rw [h2, BitVec.add_comm, BitVec.add_sub_cancel]

theorem mix_bits (A B M : BitVec 64) : (A &&& ~~~M) + (B &&& M) = (A &&& ~~~M) ||| (B &&& M) := by
  rw [BitVec.add_eq_or_of_and_eq_zero]
  ext i hi
  simp
  intro _ h _
  simp [h]

theorem ev_fdiv (ρ : Env) (a b : E) : ((E.bi .fdiv a b).ev ρ).int = (a.ev ρ).int.fdiv (b.ev ρ).int := rfl
theorem ev_pow2 (ρ : Env) (a : E) : ((E.un .pow2 a).ev ρ).int = 2 ^ (a.ev ρ).int.toNat := rfl

/-! ### Bytes, by their 256 values -/
theorem fin256 {P : Int → Prop} (h : ∀ n : Fin 256, P ((n.val : Nat) : Int)) {y : Int} (h0 : 0 ≤ y) (h1 : y < 256) : P y := by
  have := h ⟨y.toNat, by omega⟩
  simpa [Int.toNat_of_nonneg h0] using this
theorem byte_hi {y : Int} (h0 : 0 ≤ y) (h1 : y < 256) : (bitsOf .and .u8 y 128 = 0) = (y < 128) := by
  refine fin256 (P := fun y => (bitsOf .and .u8 y 128 = 0) = (y < 128)) (fun n => propext ?_) h0 h1
  revert n; decide +kernel
theorem byte_tor {y : Int} (h0 : 0 ≤ y) (h1 : y < 256) : (bitsOf .and .u8 y 24 = 8) = ((y.tdiv 8).tmod 4 = 1) := by
  refine fin256 (P := fun y => (bitsOf .and .u8 y 24 = 8) = ((y.tdiv 8).tmod 4 = 1)) (fun n => propext ?_) h0 h1
  revert n; decide +kernel
theorem byte_new {y : Int} (h0 : 0 ≤ y) (h1 : y < 256) : (if bitsOf .and .u8 (bitsOf .andNot .u8 y 96) 1 = 0 then bitsOf .andNot .u8 (bitsOf .andNot .u8 y 96) 2 else bitsOf .andNot .u8 y 96) =
    if (bitsOf .and .u64 y 159).tmod 2 = 0 then bitsOf .and .u64 (bitsOf .and .u64 y 159) 157 else bitsOf .and .u64 y 159 := by
  refine fin256 (P := fun y => (if bitsOf .and .u8 (bitsOf .andNot .u8 y 96) 1 = 0 then bitsOf .andNot .u8 (bitsOf .andNot .u8 y 96) 2 else bitsOf .andNot .u8 y 96) =
    if (bitsOf .and .u64 y 159).tmod 2 = 0 then bitsOf .and .u64 (bitsOf .and .u64 y 159) 157 else bitsOf .and .u64 y 159) ?_ h0 h1
  decide +kernel
theorem fdiv_nn {x n : Int} (h0 : 0 ≤ x) (hn : 0 ≤ n) : 0 ≤ x.fdiv n := by
  rw [Int.fdiv_eq_ediv_of_nonneg _ hn]; exact Int.ediv_nonneg h0 hn
theorem wrap8_tmod {z : Int} (h : 0 ≤ z) : IntKind.u8.wrap z = z.tmod 256 := by rw [wrap_u8, Int.tmod_eq_emod_of_nonneg h]
theorem tmod_rng {z : Int} (h : 0 ≤ z) (c : Int) (hc : 0 < c) : 0 ≤ z.tmod c ∧ z.tmod c < c := by
  rw [Int.tmod_eq_emod_of_nonneg h]; exact ⟨Int.emod_nonneg _ (by omega), Int.emod_lt_of_pos _ hc⟩
/-- The low k bits. -/
theorem and_low (k : Nat) (hk : k < 64) (c n : Int) (hc : c = 2 ^ k - 1) (hn : n = 2 ^ k) {x : Int} (h0 : 0 ≤ x) (h1 : x ≤ 18446744073709551615) : bitsOf .and .u64 x c = x.tmod n := by
  obtain ⟨X, rfl⟩ := bv64_of h0 h1
  subst hn
  have hp : 2 ^ k < 2 ^ 64 := Nat.pow_lt_pow_right (by omega) hk
  have hpos : 0 < 2 ^ k := Nat.pow_pos (by omega)
  have e : c = ((BitVec.ofNat 64 (2 ^ k - 1)).toNat : Int) := by
    rw [hc, BitVec.toNat_ofNat, Nat.mod_eq_of_lt (by omega)]
    rw [Int.natCast_sub hpos]
    push_cast
    rfl
  rw [e, b64_and, BitVec.toNat_and, BitVec.toNat_ofNat, Nat.mod_eq_of_lt (by omega), Nat.and_two_pow_sub_one_eq_mod, Int.tmod_eq_emod_of_nonneg (by omega)]
  push_cast
  rfl
theorem and_all {x : Int} (h0 : 0 ≤ x) (h1 : x ≤ 18446744073709551615) : bitsOf .and .u64 x 18446744073709551615 = x := by
  obtain ⟨X, rfl⟩ := bv64_of h0 h1
  rw [lit64 18446744073709551615 (by decide), b64_and]
  congr 1
  congr 1
  exact BitVec.and_allOnes
/-- A single bit. -/
theorem bit_and (j : Nat) (hj : j < 64) (X : BitVec 64) : X &&& (BitVec.twoPow 64 j) = if (X >>> j) &&& 1#64 = 1#64 then BitVec.twoPow 64 j else 0#64 := by
  have h : ((X >>> j) &&& 1#64 = 1#64) ↔ X.getLsbD j = true := by
    constructor
    · intro h
      have := congrArg (fun Y : BitVec 64 => Y.getLsbD 0) h
      simpa using this
    · intro h
      apply BitVec.eq_of_getLsbD_eq
      intro i hi
      by_cases h0 : i = 0
      · subst h0; simp [h]
      · simp [BitVec.getLsbD_one, h0]
  apply BitVec.eq_of_getLsbD_eq
  intro i hi
  by_cases hb : X.getLsbD j = true
  · rw [if_pos (h.2 hb)]
    simp only [BitVec.getLsbD_and, BitVec.getLsbD_twoPow]
    by_cases e : j = i
    · subst e; simp [hb, hj]
    · simp [e]
  · rw [if_neg (fun hc => hb (h.1 hc))]
    simp only [BitVec.getLsbD_and, BitVec.getLsbD_twoPow]
    by_cases e : j = i
    · subst e; simp at hb; simp [hb]
    · simp [e]
end Go.Eng
