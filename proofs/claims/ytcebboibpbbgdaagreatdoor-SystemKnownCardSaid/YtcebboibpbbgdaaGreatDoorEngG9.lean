/-
  Runs by cases; what a law's frame asks.
-/
import Derived.Test.YtcebboibpbbgdaaGreatDoorEngG8
import Derived.Below
import Derived.ProofKit
import Derived.OpenShut
import Derived.Carry
import Derived.WalkKit
import Derived.ShutString
import Derived.ChangeOld
namespace Go.Eng
open Go.RowKit

/-- The cases of a run: by tests that are taken both ways; a case that can't be. -/
inductive DT where
  | leaf | absurd | node (c : E) (t f : DT)

section
variable (P : Program) (Γ : Facts → FuncId → Option CallD) (loops depth : Nat) (f : FuncId) (args : List DV) (h : T Blk) (n : Nat) (good : Out → Bool)

def DT.run : Facts → DT → Bool
  | F, .leaf => match runX P F Γ loops depth f args h n with
    | some r => good r
    | none => false
  | _, .absurd => true
  | F, .node c t e => DT.run (F.cons c true) t && DT.run (F.cons c false) e

/-- No case comes to what can't be. -/
def DT.Fit (ρ : Env) : DT → Prop
  | .leaf => True
  | .absurd => False
  | .node c t e => ((c.ev ρ).bool = true → DT.Fit ρ t) ∧ ((c.ev ρ).bool = false → DT.Fit ρ e)

variable {P} {Γ} {loops} {depth} {f} {args} {h} {n} {good}

theorem DT.run_sound : ∀ {F : Facts} {dt : DT}, DT.run P Γ loops depth f args h n good F dt = true → ∀ {ρ : Env}, F.ok ρ → dt.Fit ρ →
    ∃ F' r, F'.ok ρ ∧ runX P F' Γ loops depth f args h n = some r ∧ good r = true
  | F, .leaf, hr, ρ, hF, _ => by
    simp only [DT.run] at hr
    split at hr
    · rename_i r hrun; exact ⟨F, r, hF, hrun, hr⟩
    · cases hr
  | F, .absurd, hr, ρ, hF, ha => ha.elim
  | F, .node c t e, hr, ρ, hF, ha => by
    simp only [DT.run, Bool.and_eq_true] at hr
    cases hc : (c.ev ρ).bool with
    | true => exact DT.run_sound hr.1 (facts_cons hF hc) (ha.1 hc)
    | false => exact DT.run_sound hr.2 (facts_cons hF hc) (ha.2 hc)

/-- What a law answers. -/
def goodTrue (r : Out) : Bool := match r.d with | .bool (.lb true) => true | _ => false

theorem goodTrue_R {r : Out} (hg : goodTrue r = true) {m : Emb} {ρ : Env} {v : Value} (h : r.d.R m ρ v) : v = .bool true := by
  unfold goodTrue at hg
  split at hg
  · rename_i hd; rw [hd] at h; simp only [DV.R] at h; rw [h]; rfl
  · cases hg

theorem below_of {m m' : Emb} {h h' : T Blk} {w w' : World} (hT : Trans m h w m' h' w') (hro : ∀ id B, h.get id = some B → B.rw = false) : Below w.heap.size w w' :=
  ⟨hT.os, hT.tape, hT.output, hT.size, fun k hk => hT.frame k hk fun ⟨id, B, hB, hrw, _⟩ => by rw [hro id B hB] at hrw; cases hrw⟩

/-- A law that is run by cases. -/
theorem law_by_cases (hΓ : ∀ F, ΓOk P F (Γ F)) {F : Facts} {dt : DT} (hr : DT.run P Γ loops depth f args h n goodTrue F dt = true) {ρ : Env} (hF : F.ok ρ) (ha : dt.Fit ρ)
    {m : Emb} {w : World} {vs : Array Value} (hvs : DV.RL m ρ args vs.toList) (hH : HeapR m ρ h w) (hf : ∀ id, n ≤ id → m.ι id = none) (hro : ∀ id B, h.get id = some B → B.rw = false) :
    Calls P f vs w fun e w' => e = .returned (.bool true) ∧ Below w.heap.size w w' := by
  obtain ⟨F', r, hF', hrun, hg⟩ := DT.run_sound hr hF ha
  refine (runX_ok (fun F'' _ => hΓ F'') loops depth f args h n r hrun ρ hF' m w vs hvs hH hf).mono fun e w' ⟨v, m', he, hd, hH', hT, _⟩ => ?_
  rw [goodTrue_R hg hd] at he
  exact ⟨he, below_of hT hro⟩

end

theorem wrap_u64 (n : Int) : IntKind.u64.wrap n = n % 18446744073709551616 := by simp [IntKind.wrap, IntKind.signed, IntKind.bits]
theorem wrap_u32 (n : Int) : IntKind.u32.wrap n = n % 4294967296 := by simp [IntKind.wrap, IntKind.signed, IntKind.bits]
theorem wrap_u16 (n : Int) : IntKind.u16.wrap n = n % 65536 := by simp [IntKind.wrap, IntKind.signed, IntKind.bits]
theorem wrap_u8 (n : Int) : IntKind.u8.wrap n = n % 256 := by simp [IntKind.wrap, IntKind.signed, IntKind.bits]
theorem wrap_i64 (n : Int) : IntKind.i64.wrap n = (n + 9223372036854775808) % 18446744073709551616 - 9223372036854775808 := by
  simp [IntKind.wrap, IntKind.signed, IntKind.bits]; omega
theorem wrap_i32 (n : Int) : IntKind.i32.wrap n = (n + 2147483648) % 4294967296 - 2147483648 := by
  simp [IntKind.wrap, IntKind.signed, IntKind.bits]; omega

/-- No memory known. -/
def m0 : Emb := ⟨fun _ => none, fun _ => 0⟩

theorem heap_nil (ρ : Env) (w : World) : HeapR m0 ρ .nil w := ⟨fun id B h => by simp at h, fun id id' B B' b h => by simp at h⟩

end Go.Eng


/-
  What a reading of data says of the cells: each is of its kind.
-/
namespace Go.Eng
open Go.RowKit

/-- Of its kind, and fitting it. -/
def Kd.wok : Kd → Value → Prop
  | .int k, v => ∃ n, v = .int k n ∧ k.min ≤ n ∧ n ≤ k.max
  | .bool, v => ∃ b, v = .bool b
  | .str, v => ∃ s, v = .string s ∧ s.size ≤ maxLen
  | .any, _ => True

theorem Kd.ok_of_wok {k : Kd} {v : Value} (h : k.wok v) : k.ok v := by
  cases k with
  | int k => exact h
  | bool => exact h
  | str => obtain ⟨s, h, _⟩ := h; exact ⟨s, h⟩
  | any => trivial

def kdsF (rec : TypeId → Option (List Kd)) : Nat → List Field → Option (List Kd)
  | _, [] => some []
  | off, f :: r => if f.offset = off then
      match rec f.type with
      | some ks => (kdsF rec (off + ks.length) r).map (ks ++ ·)
      | none => none
    else none

def repL (n : Nat) (ks : List Kd) : List Kd := (List.replicate n ks).flatten

/-- The kinds of the cells of a type. -/
def kds (P : Program) : Nat → TypeId → Option (List Kd)
  | 0, _ => none
  | n + 1, t => match P.underlying t with
    | some .bool => some [.bool]
    | some (.int k) => some [.int k]
    | some .string => some [.str]
    | some (.struct fs) => match kdsF (fun t => match kds P n t with | some ks => if P.cellsOf t = ks.length then some ks else none | none => none) 0 fs.toList with
      | some ks => if P.cellsOf t = ks.length then some ks else none
      | none => none
    | some (.array len e) => match kds P n e with
      | some ks => if P.cellsOf e = ks.length ∧ P.cellsOf t = len * ks.length then some (repL len ks) else none
      | none => none
    | _ => none

def Typed (ks : List Kd) (cs : List Value) : Prop := cs.length = ks.length ∧ ∀ (i : Nat) (k : Kd) (v : Value), ks[i]? = some k → cs[i]? = some v → k.wok v

theorem typed_one {k : Kd} {v : Value} (h : k.wok v) : Typed [k] [v] := by
  refine ⟨rfl, fun i k' v' hk hv => ?_⟩
  cases i with
  | zero => simp at hk hv; subst hk; subst hv; exact h
  | succ i => simp at hk

theorem typed_append {a b : List Kd} {x y : List Value} (h1 : Typed a x) (h2 : Typed b y) : Typed (a ++ b) (x ++ y) := by
  refine ⟨by simp [h1.1, h2.1], fun i k v hk hv => ?_⟩
  rw [List.getElem?_append] at hk hv
  rw [h1.1] at hv
  split at hk
  · rename_i hi; rw [if_pos hi] at hv; exact h1.2 i k v hk hv
  · rename_i hi; rw [if_neg hi] at hv; exact h2.2 _ k v hk hv

theorem wf_rng {k : IntKind} {n : Int} (h : (Lit.int k n).wf = true) : k.min ≤ n ∧ n ≤ k.max := by
  cases k <;> simp [Lit.wf, IntKind.min, IntKind.max, IntKind.signed, IntKind.bits] at * <;> omega

section
variable {H : Type} {enc : TypeId × Value → H} {P : Program} {w : World} {base : Nat} {spare : Nat → Bool} {held : Bool}

theorem kds_trod : ∀ (n : Nat) (t : TypeId) (ks : List Kd), kds P n t = some ks → ∀ (fuel : Nat) (cs : List Value) (x : DataW H × List MemPlace), DataW.trod enc P w base spare held fuel t cs = some x → Typed ks cs := by
  intro n
  induction n with
  | zero => intro t ks h; simp [kds] at h
  | succ n ih =>
    intro t ks h fuel cs x hx
    cases fuel with
    | zero => simp [DataW.trod] at hx
    | succ fuel =>
      simp only [kds] at h
      simp only [DataW.trod] at hx
      split at h
      · rename_i hu
        cases h
        simp only [hu] at hx
        split at hx
        all_goals first
          | exact typed_one ⟨_, rfl⟩
          | (exfalso; simp_all; done)
      · rename_i k hu
        cases h
        simp only [hu] at hx
        split at hx
        all_goals try (exfalso; simp_all; done)
        rename_i kk k' m hkk
        cases hkk
        split at hx
        · rename_i hc
          obtain ⟨rfl, hwf⟩ := hc
          have := wf_rng hwf
          exact typed_one ⟨_, rfl, this⟩
        · cases hx
      · rename_i hu
        cases h
        simp only [hu] at hx
        split at hx
        all_goals try (exfalso; simp_all; done)
        split at hx
        · rename_i hsz; exact typed_one ⟨_, rfl, hsz⟩
        · cases hx
      · rename_i fs hu
        split at h
        · rename_i ks' hks
          split at h
          · rename_i hlen
            cases h
            simp only [hu] at hx
            split at hx
            · rename_i hcl
              simp only [Option.map_eq_some_iff] at hx
              obtain ⟨xs, hxs, _⟩ := hx
              have key : ∀ (fl : List Field) (off : Nat) (l : List Kd) (ys : List (DataW H × List MemPlace)), kdsF (fun t => match kds P n t with | some ks => if P.cellsOf t = ks.length then some ks else none | none => none) off fl = some l →
                  fl.mapM (fun f => DataW.trod enc P w base spare held fuel f.type ((cs.drop f.offset).take (P.cellsOf f.type))) = some ys → off + l.length ≤ cs.length → Typed l ((cs.drop off).take l.length) := by
                intro fl
                induction fl with
                | nil => intro off l ys h1 _ _; simp [kdsF] at h1; subst h1; exact ⟨by simp, fun i k v hk => by simp at hk⟩
                | cons f fl ihf =>
                  intro off l ys h1 h2 h3
                  simp only [kdsF] at h1
                  split at h1
                  · rename_i hoff
                    split at h1
                    · rename_i kf hkf
                      simp only [Option.map_eq_some_iff] at h1
                      obtain ⟨l', hl', rfl⟩ := h1
                      split at hkf
                      · rename_i kf' hkf'
                        split at hkf
                        · rename_i hsz
                          cases hkf
                          simp only [List.mapM_cons, Option.bind_eq_bind, Option.pure_def, Option.bind_eq_some_iff] at h2
                          obtain ⟨y, hy, rs, hr, _⟩ := h2
                          have t1 := ih f.type kf hkf' fuel _ _ hy
                          rw [hoff, hsz] at t1
                          have t2 := ihf (off + kf.length) l' rs hl' hr (by simp at h3; omega)
                          have := typed_append t1 t2
                          rw [List.length_append, List.take_add, List.drop_drop]
                          exact this
                        · cases hkf
                      · cases hkf
                    · cases h1
                  · cases h1
              have := key fs.toList 0 ks xs hks hxs (by omega)
              simp only [List.drop_zero] at this
              rwa [List.take_of_length_le (by omega)] at this
            · cases hx
          · cases h
        · cases h
      · rename_i len e hu
        split at h
        · rename_i ks' hks
          split at h
          · rename_i hsz
            cases h
            obtain ⟨hse, hst⟩ := hsz
            simp only [hu] at hx
            split at hx
            · rename_i hcl
              simp only [Option.map_eq_some_iff] at hx
              obtain ⟨xs, hxs, _⟩ := hx
              have key : ∀ (m i0 : Nat) (ys : List (DataW H × List MemPlace)), ((List.range' i0 m).mapM fun i => DataW.trod enc P w base spare held fuel e ((cs.drop (i * P.cellsOf e)).take (P.cellsOf e))) = some ys → (i0 + m) * ks'.length ≤ cs.length →
                  Typed (repL m ks') ((cs.drop (i0 * ks'.length)).take (m * ks'.length)) := by
                intro m
                induction m with
                | zero => intro i0 ys _ _; exact ⟨by simp [repL], fun i k v hk => by simp [repL] at hk⟩
                | succ m ihm =>
                  intro i0 ys h2 h3
                  simp only [List.range'_succ, List.mapM_cons, Option.bind_eq_bind, Option.pure_def, Option.bind_eq_some_iff] at h2
                  obtain ⟨y, hy, rs, hr, _⟩ := h2
                  have t1 := ih e ks' hks fuel _ _ hy
                  rw [hse] at t1
                  have t2 := ihm (i0 + 1) rs hr (by rw [show i0 + 1 + m = i0 + (m + 1) by omega]; exact h3)
                  have := typed_append t1 t2
                  have e1 : repL (m + 1) ks' = ks' ++ repL m ks' := by simp [repL, List.replicate_succ]
                  rw [e1, Nat.add_mul, Nat.one_mul, Nat.add_comm (m * ks'.length), List.take_add, List.drop_drop]
                  rw [Nat.add_mul, Nat.one_mul] at this
                  exact this
              rw [List.range_eq_range'] at hxs
              have := key len 0 xs hxs (by rw [Nat.zero_add]; omega)
              simp only [Nat.zero_mul, List.drop_zero] at this
              rwa [List.take_of_length_le (by omega)] at this
            · cases hx
          · cases h
        · cases h
      · cases h

end

/-- Symbolic cells: of each kind, a variable. -/
def kdDV (k : Kd) (i : Nat) : DV :=
  match k with
  | .int k => .int k (.vr i)
  | .bool => .bool (.vr i)
  | .str => .str (.vr i)
  | .any => .nilp

def kdsDV : List Kd → Nat → List DV
  | [], _ => []
  | k :: r, i => kdDV k i :: kdsDV r (i + 1)

theorem kdDV_R (m : Emb) {ρ : Env} {k : Kd} {i : Nat} {v : Value} (hk : k.wok v) (hne : k ≠ .any) (hv : ρ.v i = Sc.ofValue v) : (kdDV k i).R m ρ v := by
  cases k with
  | int k => obtain ⟨n, rfl, _⟩ := hk; simp only [kdDV, DV.R, E.ev, hv]; rfl
  | bool => obtain ⟨b, rfl⟩ := hk; simp only [kdDV, DV.R, E.ev, hv]; rfl
  | str => obtain ⟨s, rfl, _⟩ := hk; simp only [kdDV, DV.R, E.ev, hv]; rfl
  | any => exact absurd rfl hne

theorem kdsDV_R (m : Emb) {ρ : Env} : ∀ {ks : List Kd} {cs : List Value} {i : Nat}, Typed ks cs → Kd.any ∉ ks → (∀ (j : Nat) (v : Value), cs[j]? = some v → ρ.v (i + j) = Sc.ofValue v) → DV.RL m ρ (kdsDV ks i) cs
  | [], cs, i, h, _, _ => by simp only [kdsDV, DV.RL]; simpa using h.1
  | k :: r, cs, i, h, hne, hv => by
    match cs, h.1 with
    | c :: cr, hl =>
      simp only [kdsDV, DV.RL]
      refine ⟨c, cr, rfl, kdDV_R m (h.2 0 k c rfl rfl) (fun e => hne (by simp [e])) (by simpa using hv 0 c rfl), kdsDV_R m ⟨by simpa using hl, fun j k' v hk' hv' => h.2 (j + 1) k' v (by simpa using hk') (by simpa using hv')⟩ (fun hm => hne (by simp [hm])) (fun j v hjv => ?_)⟩
      have := hv (j + 1) v (by simpa using hjv)
      rw [show i + 1 + j = i + (j + 1) by omega]; exact this

/-- The bounds of the variables of symbolic cells. -/
def kdsB : List Kd → Nat → List (E × Int × Int)
  | [], _ => []
  | .int k :: r, i => (.vr i, k.min, k.max) :: kdsB r (i + 1)
  | .str :: r, i => (.un .len (.vr i), 0, 9223372036854775807) :: kdsB r (i + 1)
  | _ :: r, i => kdsB r (i + 1)

theorem kdsB_ok {ρ : Env} : ∀ {ks : List Kd} {cs : List Value} {i : Nat}, Typed ks cs → (∀ (j : Nat) (v : Value), cs[j]? = some v → ρ.v (i + j) = Sc.ofValue v) → ∀ p ∈ kdsB ks i, p.2.1 ≤ (p.1.ev ρ).int ∧ (p.1.ev ρ).int ≤ p.2.2
  | [], cs, i, _, _, p, hp => by simp [kdsB] at hp
  | k :: r, cs, i, h, hv, p, hp => by
    match cs, h.1 with
    | c :: cr, hl =>
      have ih := kdsB_ok (ρ := ρ) (ks := r) (cs := cr) (i := i + 1) ⟨by simpa using hl, fun j k' v hk' hv' => h.2 (j + 1) k' v (by simpa using hk') (by simpa using hv')⟩ (fun j v hjv => by
        have := hv (j + 1) v (by simpa using hjv)
        rw [show i + 1 + j = i + (j + 1) by omega]; exact this)
      have hc := h.2 0 k c rfl rfl
      have hv0 := hv 0 c rfl
      simp only [Nat.add_zero] at hv0
      cases k with
      | int k =>
        simp only [kdsB, List.mem_cons] at hp
        rcases hp with rfl | hp
        · obtain ⟨n, rfl, h1, h2⟩ := hc
          simp only [E.ev, hv0, Sc.ofValue, Sc.int_I]; exact ⟨h1, h2⟩
        · exact ih p hp
      | bool => exact ih p (by simpa [kdsB] using hp)
      | str =>
        simp only [kdsB, List.mem_cons] at hp
        rcases hp with rfl | hp
        · obtain ⟨s, rfl, h1⟩ := hc
          simp only [E.ev, U.ev, hv0, Sc.ofValue, Sc.str_S, Sc.int_I]
          unfold maxLen at h1
          exact ⟨by omega, by omega⟩
        · exact ih p hp
      | any => exact ih p (by simpa [kdsB] using hp)

end Go.Eng

/-
  Arguments that are plain: numbers, booleans, strings, structs and arrays of these.
-/
namespace Go.Eng
open Go.RowKit

theorem kds_noany (P : Program) : ∀ (n : Nat) (t : TypeId) (ks : List Kd), kds P n t = some ks → Kd.any ∉ ks := by
  intro n
  induction n with
  | zero => intro t ks h; simp [kds] at h
  | succ n ih =>
    intro t ks h
    simp only [kds] at h
    split at h
    · cases h; simp
    · cases h; simp
    · cases h; simp
    · split at h
      · rename_i ks' hks
        split at h
        · cases h
          have key : ∀ (fl : List Field) (off : Nat) (l : List Kd), kdsF (fun t => match kds P n t with | some ks => if P.cellsOf t = ks.length then some ks else none | none => none) off fl = some l → Kd.any ∉ l := by
            intro fl
            induction fl with
            | nil => intro off l h1; simp [kdsF] at h1; subst h1; simp
            | cons f fl ihf =>
              intro off l h1
              simp only [kdsF] at h1
              split at h1
              · split at h1
                · rename_i kf hkf
                  simp only [Option.map_eq_some_iff] at h1
                  obtain ⟨l', hl', rfl⟩ := h1
                  split at hkf
                  · rename_i kf' hkf'
                    split at hkf
                    · cases hkf
                      simp only [List.mem_append, not_or]
                      exact ⟨ih _ _ hkf', ihf _ _ hl'⟩
                    · cases hkf
                  · cases hkf
                · cases h1
              · cases h1
          exact key _ _ _ hks
        · cases h
      · cases h
    · split at h
      · rename_i ks' hks
        split at h
        · cases h
          have := ih _ _ hks
          simp only [repL, List.mem_flatten, List.mem_replicate, not_exists, not_and]
          rintro l ⟨_, rfl⟩; exact this
        · cases h
      · cases h
    · cases h

section
variable (P : Program)

/-- An argument of a plain type, symbolic: its cells are the variables from i on. -/
def argDV (t : TypeId) (i : Nat) : DV :=
  match kds P 8 t with
  | some ks => if aggT P t = some true then .agg (kdsDV ks i) else match kdsDV ks i with
    | [d] => d
    | _ => .nilp
  | none => .nilp

def argB (t : TypeId) (i : Nat) : List (E × Int × Int) := match kds P 8 t with | some ks => kdsB ks i | none => []

variable {P}
variable {H : Type} {enc : TypeId × Value → H} {w : World} {base : Nat} {spare : Nat → Bool} {held : Bool}

theorem okWide_bool' {r : Reach} {t : TypeId} {v : Value} (ht : P.underlying t = some .bool) (h : Value.okWide P w r base t v) : ∃ b, v = .bool b := by
  simp only [Value.okWide, ht, Cell.okWide] at h
  cases v <;> simp_all [Cell.ok]

theorem arg_plain {r : Reach} {t : TypeId} {v : Value} {d : DataW H} {ps : List MemPlace} {b0 : Nat} (hk : (kds P 8 t).isSome = true) (hok : Value.okWide P w r b0 t v) (ht : DataW.Trod enc P w base spare held t v d ps) (m : Emb) {ρ : Env} {i : Nat}
    (hρ : ∀ (j : Nat) (u : Value), v.cells.toList[j]? = some u → ρ.v (i + j) = Sc.ofValue u) : (argDV P t i).R m ρ v ∧ ∀ p ∈ argB P t i, p.2.1 ≤ (p.1.ev ρ).int ∧ (p.1.ev ρ).int ≤ p.2.2 := by
  obtain ⟨ks, hks⟩ := Option.isSome_iff_exists.1 hk
  obtain ⟨fuel, hf⟩ := ht
  have hty := kds_trod 8 t ks hks fuel _ _ hf
  have hna := kds_noany P 8 t ks hks
  have hR := kdsDV_R m hty hna hρ
  refine ⟨?_, by unfold argB; rw [hks]; exact kdsB_ok hty hρ⟩
  unfold argDV
  rw [hks]
  simp only
  split
  · rename_i ha
    unfold aggT at ha
    unfold Value.okWide at hok
    split at ha
    · rename_i hu; simp only [hu] at hok; obtain ⟨cs, rfl, _⟩ := hok
      simp only [DV.R]; exact ⟨cs, rfl, hR⟩
    · rename_i hu; simp only [hu] at hok; obtain ⟨cs, rfl, _⟩ := hok
      simp only [DV.R]; exact ⟨cs, rfl, hR⟩
    · cases ha
    · cases ha
  · rename_i ha
    have hone : v.cells.toList = [v] := by
      simp only [kds] at hks
      split at hks
      · rename_i hu; obtain ⟨b, rfl⟩ := okWide_bool' hu hok; rfl
      · rename_i hu; obtain ⟨b, rfl⟩ := WideShapes.okWide_int hu hok; rfl
      · rename_i hu; obtain ⟨b, rfl⟩ := WideShapes.okWide_string hu hok; rfl
      · rename_i hu; exact absurd (by simp [aggT, hu]) ha
      · rename_i hu; exact absurd (by simp [aggT, hu]) ha
      · cases hks
    rw [hone] at hR
    have hl := hR.length
    match hkd : kdsDV ks i, hR with
    | [d'], hR =>
      simp only [DV.RL] at hR
      obtain ⟨u, ur, he, hr, _⟩ := hR
      simp at he
      rw [he.1]; exact hr
    | [], hR => simp [DV.RL] at hR
    | _ :: _ :: _, hR => simp only [DV.RL] at hR; obtain ⟨_, _, he, _, ⟨_, _, he2, _⟩⟩ := hR; subst he2; simp at he

end

end Go.Eng

/-
  A law whose arguments are plain: what it takes is known cell by cell, and the arguments read behind the call as they did.
-/
namespace Go.Eng
open Go.RowKit Go.ChangeShapes Go.WideShapes Go.ChangeAt

/-- How many cells a type takes. -/
def width (P : Program) (t : TypeId) : Nat := ((kds P 8 t).getD []).length

def argsDV (P : Program) : List TypeId → Nat → List DV
  | [], _ => []
  | t :: ts, i => argDV P t i :: argsDV P ts (i + width P t)

def argsB (P : Program) : List TypeId → Nat → List (E × Int × Int)
  | [], _ => []
  | t :: ts, i => argB P t i ++ argsB P ts (i + width P t)

/-- All types plain, and readable. -/
def plainB (P : Program) (ts : List TypeId) : Bool := ts.all fun t => P.readableRec t && decide (t < P.types.size) && (kds P 8 t).isSome

def cellsAll (vs : List Value) : List Value := vs.flatMap fun v => v.cells.toList

/-- The numbers of the cells. -/
def rhoOf (vs : List Value) : Env := { v := fun i => Sc.ofValue ((cellsAll vs).getD i undef) }

section
variable {P : Program} {H : Type} {enc : TypeId × Value → H} {w : World} {base : Nat} {spare : Nat → Bool} {held : Bool}

theorem args_plain (m : Emb) {ρ : Env} {r : Reach} {b0 : Nat} : ∀ {ts : List TypeId} {vs : List Value} {ds : List (DataW H)} {ps : List MemPlace} {i : Nat}, (∀ t ∈ ts, (kds P 8 t).isSome = true) →
    (∀ (j : Nat) t v, ts[j]? = some t → vs[j]? = some v → Value.okWide P w r b0 t v) → DataW.TrodAll enc P w base spare held ts vs ds ps →
    (∀ (j : Nat) (u : Value), (cellsAll vs)[j]? = some u → ρ.v (i + j) = Sc.ofValue u) →
    DV.RL m ρ (argsDV P ts i) vs ∧ ∀ p ∈ argsB P ts i, p.2.1 ≤ (p.1.ev ρ).int ∧ (p.1.ev ρ).int ≤ p.2.2
  | [], vs, ds, ps, i, hk, hok, ht, hρ => by
      obtain ⟨rfl, _, _⟩ := trodAll_nil ht
      exact ⟨by simp [argsDV, DV.RL], by simp [argsB]⟩
  | t :: ts, vs, ds, ps, i, hk, hok, ht, hρ => by
      obtain ⟨v, vs', d, ds', p, q, rfl, rfl, rfl, h1, h2⟩ := trodAll_cons ht
      have ho : Value.okWide P w r b0 t v := hok 0 t v rfl rfl
      have hw : v.cells.toList.length = width P t := by
        obtain ⟨ks, hks⟩ := Option.isSome_iff_exists.1 (hk t (by simp))
        obtain ⟨fuel, hf⟩ := h1
        have := kds_trod 8 t ks hks fuel _ _ hf
        unfold width; rw [hks]; exact this.1
      obtain ⟨hR, hB⟩ := arg_plain (m := m) (ρ := ρ) (i := i) (hk t (by simp)) ho h1 (fun j u hu => hρ j u (by
        unfold cellsAll; rw [List.flatMap_cons, List.getElem?_append_left (by have := List.getElem?_eq_some_iff.1 hu; exact this.1)]; exact hu))
      obtain ⟨hRs, hBs⟩ := args_plain (i := i + width P t) m (fun t' h' => hk t' (by simp [h'])) (fun j t' v' h1 h2 => hok (j + 1) t' v' (by simpa using h1) (by simpa using h2)) h2 (fun j u hu => by
        have := hρ (width P t + j) u (by
          unfold cellsAll; rw [List.flatMap_cons, List.getElem?_append_right (by omega), hw]; simpa [cellsAll] using hu)
        rw [← this]; congr 1; omega)
      refine ⟨⟨v, vs', rfl, hR, hRs⟩, fun p hp => ?_⟩
      simp only [argsB, List.mem_append] at hp
      rcases hp with hp | hp
      · exact hB p hp
      · exact hBs p hp

theorem args_stay {W W' : World} (hl : laidOutB P = true) (hb : Below W.heap.size W W') : ∀ {ts : List TypeId} {vs : List Value} {ds : List (DataW H)} {ps : List MemPlace}, (ts.all fun t => P.readableRec t && decide (t < P.types.size)) = true →
    DataW.TrodAll enc P W 0 (fun _ => true) true ts vs ds ps → DataW.TrodAll enc P W' 0 (fun b => decide (b < W.heap.size)) true ts vs ds ps
  | [], vs, ds, ps, hk, h => by
      obtain ⟨rfl, rfl, rfl⟩ := trodAll_nil h
      exact trodAll_mk0
  | t :: ts, vs, ds, ps, hk, h => by
      obtain ⟨v, vs', d, ds', p, q, rfl, rfl, rfl, h1, h2⟩ := trodAll_cons h
      simp only [List.all_cons, Bool.and_eq_true, decide_eq_true_eq] at hk
      have lt : ∀ x ∈ p, x.block < W.heap.size := by obtain ⟨n, hn⟩ := h1; exact DataW.trod_lt n _ _ _ hn
      exact trodAll_cons_mk (Below.trod hl hk.1.1 hk.1.2 h1 hb lt) (args_stay hl hb (by simpa using hk.2) h2)

/-- A law that returned true and wrote nothing that was there: what the row asks. -/
theorem post_true {f : Func} {s : ChangeSpec} {apart : Bool} {W W' : World} {args : Array Value} {ds gs : List (DataW H)} {before : List MemPlace} {tb : TypeId}
    (hl : laidOutB P = true) (hts : (f.params.toList.all fun t => P.readableRec t && decide (t < P.types.size)) = true) (hres : f.resultTypes = #[tb]) (htb : P.underlying tb = some .bool) (hvs : s.vars = [])
    (hfn : s.fn H (ds ++ gs) = { results := [.lit (.bool true)], args := ds })
    (hW : DataW.Whole enc P f.params.toList s.vars apart W args.toList ds gs before) (hb : Below W.heap.size W W') :
    s.post enc P f apart true false false W args (.bool true) W' := by
  have hW' := hW
  obtain ⟨p, q, hA, hV, rfl, hfz, hnd⟩ := hW
  refine ⟨ds, gs, _, [], p, [], hW', ?_, ?_, ?_, hb.frame _, fun h => by cases h⟩
  · rw [hfn, hres]; exact trodAll_mk1 (shut_bool htb _)
  · rw [hfn]; exact args_stay hl hb hts hA
  · rw [hfn, hvs]; rfl

/-- The whole step of the row, for plain arguments, by cases. -/
theorem lifted_plain {C : Checked} (own : ownKnob C.prog.godebug = none) (laidOut : laidOutB C.prog = true) {os : Os} (started : os.Started) {f : FuncId} {fn : Func} {s : ChangeSpec} {conds : List PathCond} {apart : Bool} {tb : TypeId}
    (noInit : C.prog.inits.idxOf? f = none) (hf : C.prog.funcs[f]? = some fn)
    (witness : ∃ (w : World) (tape : Tape) (i : Input), w.os = os ∧ (w.forCall tape i).Shaped C.prog ∧ i.vars = [] ∧ Input.okWide C.prog (w.forCall tape i) .any w.heap.size f i ∧
      s.pre6 enc C.prog fn conds apart (w.forCall tape i).memory i.args ∧ Assume.holds {} C.prog (lone (Frame.enter C.prog f i.args .normal) [] (w.forCall tape i)))
    (hts : plainB C.prog fn.params.toList = true) (hres : fn.resultTypes = #[tb]) (htb : C.prog.underlying tb = some .bool) (hvs : s.vars = [])
    (hsf : ∀ ds : List (DataW H), ds.length = fn.params.toList.length → s.fn H ds = { results := [.lit (.bool true)], args := ds })
    {loops depth : Nat} {dt : DT} (hr : DT.run C.prog (fun _ => Γ0) loops depth f (argsDV C.prog fn.params.toList 0) .nil 0 goodTrue { bnds := argsB C.prog fn.params.toList 0 } dt = true)
    (fit : ∀ ρ : Env, (∀ p ∈ argsB C.prog fn.params.toList 0, p.2.1 ≤ (p.1.ev ρ).int ∧ (p.1.ev ρ).int ≤ p.2.2) → dt.Fit ρ) :
    ReturnsInHanded {} C os f .any (s.pre6 enc C.prog fn conds apart) (s.post enc C.prog fn apart true false false) := by
  refine returnsInHanded_of_change own started noInit hf witness ?_
  intro W base args ds gs before hval hW _ _
  have hW' := hW
  obtain ⟨p, q, hA, hV, rfl, hfz, hnd⟩ := hW
  unfold plainB at hts
  simp only [List.all_eq_true, Bool.and_eq_true, decide_eq_true_eq] at hts
  have hlen : ∀ {ts : List TypeId} {vs : List Value} {ds : List (DataW H)} {ps : List MemPlace}, DataW.TrodAll enc C.prog W 0 (fun _ => true) true ts vs ds ps → ds.length = ts.length := by
    intro ts
    induction ts with
    | nil => intro vs ds ps h; obtain ⟨_, rfl, _⟩ := trodAll_nil h; rfl
    | cons t ts ih =>
      intro vs ds ps h
      obtain ⟨v, vs', d, ds', p, q, rfl, rfl, rfl, h1, h2⟩ := trodAll_cons h
      simp [ih h2]
  have hg : gs = [] := by
    rw [hvs] at hV
    exact (trodVars_none hV).1
  obtain ⟨hR, hB⟩ := args_plain (r := .any) (b0 := base) m0 (ρ := rhoOf args.toList) (i := 0) (fun t ht => (hts t ht).2) (fun j t v h1 h2 => hval j t v (by simpa using h1) (by simpa using h2)) hA
    (fun j u hu => by
      show Sc.ofValue _ = _
      simp only [Nat.zero_add, List.getD_eq_getElem?_getD, hu, Option.getD_some])
  refine (law_by_cases (fun _ => Γ0_ok) hr (ρ := rhoOf args.toList) ⟨by simp, hB, by simp, trivial⟩ (fit _ hB) hR (heap_nil _ W) (fun _ _ => rfl) (by intro id B h; simp at h)).mono fun e W' ⟨he, bel⟩ => ?_
  subst he
  refine ⟨_, rfl, post_true laidOut ?_ hres htb hvs ?_ hW' bel⟩
  · simp only [List.all_eq_true, Bool.and_eq_true, decide_eq_true_eq]; exact fun t ht => (hts t ht).1
  · rw [hg, List.append_nil]; exact hsf ds (hlen hA)
end
end Go.Eng
