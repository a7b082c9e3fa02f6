/-
  What a reading of data says of the cells: each is of its kind.
-/
import Derived.Test.YtgielkefgliiiaaEngV
import Derived.ProofKit
import Derived.OpenShut
namespace Go.Eng
open Go.RowKit

/-- Of its kind, and fitting it. -/
def Kd.wok : Kd → Value → Prop
  | .int k, v => ∃ n, v = .int k n ∧ k.min ≤ n ∧ n ≤ k.max
  | .bool, v => ∃ b, v = .bool b
  | .str, v => ∃ s, v = .string s ∧ s.size ≤ maxLen
  | .any, _ => True

theorem Kd.ok_of_wok {k : Kd} {v : Value} (h : k.wok v) : k.ok v := by
  cases k with
  | int k => exact h
  | bool => exact h
  | str => obtain ⟨s, h, _⟩ := h; exact ⟨s, h⟩
  | any => trivial

def kdsF (rec : TypeId → Option (List Kd)) : Nat → List Field → Option (List Kd)
  | _, [] => some []
  | off, f :: r => if f.offset = off then
      match rec f.type with
      | some ks => (kdsF rec (off + ks.length) r).map (ks ++ ·)
      | none => none
    else none

def repL (n : Nat) (ks : List Kd) : List Kd := (List.replicate n ks).flatten

/-- The kinds of the cells of a type. -/
def kds (P : Program) : Nat → TypeId → Option (List Kd)
  | 0, _ => none
  | n + 1, t => match P.underlying t with
    | some .bool => some [.bool]
    | some (.int k) => some [.int k]
    | some .string => some [.str]
    | some (.struct fs) => match kdsF (fun t => match kds P n t with | some ks => if P.cellsOf t = ks.length then some ks else none | none => none) 0 fs.toList with
      | some ks => if P.cellsOf t = ks.length then some ks else none
      | none => none
    | some (.array len e) => match kds P n e with
      | some ks => if P.cellsOf e = ks.length ∧ P.cellsOf t = len * ks.length then some (repL len ks) else none
      | none => none
    | _ => none

def Typed (ks : List Kd) (cs : List Value) : Prop := cs.length = ks.length ∧ ∀ (i : Nat) (k : Kd) (v : Value), ks[i]? = some k → cs[i]? = some v → k.wok v

theorem typed_one {k : Kd} {v : Value} (h : k.wok v) : Typed [k] [v] := by
  refine ⟨rfl, fun i k' v' hk hv => ?_⟩
  cases i with
  | zero => simp at hk hv; subst hk; subst hv; exact h
  | succ i => simp at hk

theorem typed_append {a b : List Kd} {x y : List Value} (h1 : Typed a x) (h2 : Typed b y) : Typed (a ++ b) (x ++ y) := by
  refine ⟨by simp [h1.1, h2.1], fun i k v hk hv => ?_⟩
  rw [List.getElem?_append] at hk hv
  rw [h1.1] at hv
  split at hk
  · rename_i hi; rw [if_pos hi] at hv; exact h1.2 i k v hk hv
  · rename_i hi; rw [if_neg hi] at hv; exact h2.2 _ k v hk hv

theorem wf_rng {k : IntKind} {n : Int} (h : (Lit.int k n).wf = true) : k.min ≤ n ∧ n ≤ k.max := by
  cases k <;> simp [Lit.wf, IntKind.min, IntKind.max, IntKind.signed, IntKind.bits] at * <;> omega

section
variable {H : Type} {enc : TypeId × Value → H} {P : Program} {w : World} {base : Nat} {spare : Nat → Bool} {held : Bool}

theorem kds_trod : ∀ (n : Nat) (t : TypeId) (ks : List Kd), kds P n t = some ks → ∀ (fuel : Nat) (cs : List Value) (x : DataW H × List MemPlace), DataW.trod enc P w base spare held fuel t cs = some x → Typed ks cs := by
  intro n
  induction n with
  | zero => intro t ks h; simp [kds] at h
  | succ n ih =>
    intro t ks h fuel cs x hx
    cases fuel with
    | zero => simp [DataW.trod] at hx
    | succ fuel =>
      simp only [kds] at h
      simp only [DataW.trod] at hx
      split at h
      · rename_i hu
        cases h
        simp only [hu] at hx
        split at hx
        all_goals first
          | exact typed_one ⟨_, rfl⟩
          | (exfalso; simp_all; done)
      · rename_i k hu
        cases h
        simp only [hu] at hx
        split at hx
        all_goals try (exfalso; simp_all; done)
        rename_i kk k' m hkk
        cases hkk
        split at hx
        · rename_i hc
          obtain ⟨rfl, hwf⟩ := hc
          have := wf_rng hwf
          exact typed_one ⟨_, rfl, this⟩
        · cases hx
      · rename_i hu
        cases h
        simp only [hu] at hx
        split at hx
        all_goals try (exfalso; simp_all; done)
        split at hx
        · rename_i hsz; exact typed_one ⟨_, rfl, hsz⟩
        · cases hx
      · rename_i fs hu
        split at h
        · rename_i ks' hks
          split at h
          · rename_i hlen
            cases h
            simp only [hu] at hx
            split at hx
            · rename_i hcl
              simp only [Option.map_eq_some_iff] at hx
              obtain ⟨xs, hxs, _⟩ := hx
              have key : ∀ (fl : List Field) (off : Nat) (l : List Kd) (ys : List (DataW H × List MemPlace)), kdsF (fun t => match kds P n t with | some ks => if P.cellsOf t = ks.length then some ks else none | none => none) off fl = some l →
                  fl.mapM (fun f => DataW.trod enc P w base spare held fuel f.type ((cs.drop f.offset).take (P.cellsOf f.type))) = some ys → off + l.length ≤ cs.length → Typed l ((cs.drop off).take l.length) := by
                intro fl
                induction fl with
                | nil => intro off l ys h1 _ _; simp [kdsF] at h1; subst h1; exact ⟨by simp, fun i k v hk => by simp at hk⟩
                | cons f fl ihf =>
                  intro off l ys h1 h2 h3
                  simp only [kdsF] at h1
                  split at h1
                  · rename_i hoff
                    split at h1
                    · rename_i kf hkf
                      simp only [Option.map_eq_some_iff] at h1
                      obtain ⟨l', hl', rfl⟩ := h1
                      split at hkf
                      · rename_i kf' hkf'
                        split at hkf
                        · rename_i hsz
                          cases hkf
                          simp only [List.mapM_cons, Option.bind_eq_bind, Option.pure_def, Option.bind_eq_some_iff] at h2
                          obtain ⟨y, hy, rs, hr, _⟩ := h2
                          have t1 := ih f.type kf hkf' fuel _ _ hy
                          rw [hoff, hsz] at t1
                          have t2 := ihf (off + kf.length) l' rs hl' hr (by simp at h3; omega)
                          have := typed_append t1 t2
                          rw [List.length_append, List.take_add, List.drop_drop]
                          exact this
                        · cases hkf
                      · cases hkf
                    · cases h1
                  · cases h1
              have := key fs.toList 0 ks xs hks hxs (by omega)
              simp only [List.drop_zero] at this
              rwa [List.take_of_length_le (by omega)] at this
            · cases hx
          · cases h
        · cases h
      · rename_i len e hu
        split at h
        · rename_i ks' hks
          split at h
          · rename_i hsz
            cases h
            obtain ⟨hse, hst⟩ := hsz
            simp only [hu] at hx
            split at hx
            · rename_i hcl
              simp only [Option.map_eq_some_iff] at hx
              obtain ⟨xs, hxs, _⟩ := hx
              have key : ∀ (m i0 : Nat) (ys : List (DataW H × List MemPlace)), ((List.range' i0 m).mapM fun i => DataW.trod enc P w base spare held fuel e ((cs.drop (i * P.cellsOf e)).take (P.cellsOf e))) = some ys → (i0 + m) * ks'.length ≤ cs.length →
                  Typed (repL m ks') ((cs.drop (i0 * ks'.length)).take (m * ks'.length)) := by
                intro m
                induction m with
                | zero => intro i0 ys _ _; exact ⟨by simp [repL], fun i k v hk => by simp [repL] at hk⟩
                | succ m ihm =>
                  intro i0 ys h2 h3
                  simp only [List.range'_succ, List.mapM_cons, Option.bind_eq_bind, Option.pure_def, Option.bind_eq_some_iff] at h2
                  obtain ⟨y, hy, rs, hr, _⟩ := h2
                  have t1 := ih e ks' hks fuel _ _ hy
                  rw [hse] at t1
                  have t2 := ihm (i0 + 1) rs hr (by rw [show i0 + 1 + m = i0 + (m + 1) by omega]; exact h3)
                  have := typed_append t1 t2
                  have e1 : repL (m + 1) ks' = ks' ++ repL m ks' := by simp [repL, List.replicate_succ]
                  rw [e1, Nat.add_mul, Nat.one_mul, Nat.add_comm (m * ks'.length), List.take_add, List.drop_drop]
                  rw [Nat.add_mul, Nat.one_mul] at this
                  exact this
              rw [List.range_eq_range'] at hxs
              have := key len 0 xs hxs (by rw [Nat.zero_add]; omega)
              simp only [Nat.zero_mul, List.drop_zero] at this
              rwa [List.take_of_length_le (by omega)] at this
            · cases hx
          · cases h
        · cases h
      · cases h

end

/-- Symbolic cells: of each kind, a variable. -/
def kdDV (k : Kd) (i : Nat) : DV :=
  match k with
  | .int k => .int k (.vr i)
  | .bool => .bool (.vr i)
  | .str => .str (.vr i)
  | .any => .nilp

def kdsDV : List Kd → Nat → List DV
  | [], _ => []
  | k :: r, i => kdDV k i :: kdsDV r (i + 1)

theorem kdDV_R (m : Emb) {ρ : Env} {k : Kd} {i : Nat} {v : Value} (hk : k.wok v) (hne : k ≠ .any) (hv : ρ.v i = Sc.ofValue v) : (kdDV k i).R m ρ v := by
  cases k with
  | int k => obtain ⟨n, rfl, _⟩ := hk; simp only [kdDV, DV.R, E.ev, hv]; rfl
  | bool => obtain ⟨b, rfl⟩ := hk; simp only [kdDV, DV.R, E.ev, hv]; rfl
  | str => obtain ⟨s, rfl, _⟩ := hk; simp only [kdDV, DV.R, E.ev, hv]; rfl
  | any => exact absurd rfl hne

theorem kdsDV_R (m : Emb) {ρ : Env} : ∀ {ks : List Kd} {cs : List Value} {i : Nat}, Typed ks cs → Kd.any ∉ ks → (∀ (j : Nat) (v : Value), cs[j]? = some v → ρ.v (i + j) = Sc.ofValue v) → DV.RL m ρ (kdsDV ks i) cs
  | [], cs, i, h, _, _ => by simp only [kdsDV, DV.RL]; simpa using h.1
  | k :: r, cs, i, h, hne, hv => by
    match cs, h.1 with
    | c :: cr, hl =>
      simp only [kdsDV, DV.RL]
      refine ⟨c, cr, rfl, kdDV_R m (h.2 0 k c rfl rfl) (fun e => hne (by simp [e])) (by simpa using hv 0 c rfl), kdsDV_R m ⟨by simpa using hl, fun j k' v hk' hv' => h.2 (j + 1) k' v (by simpa using hk') (by simpa using hv')⟩ (fun hm => hne (by simp [hm])) (fun j v hjv => ?_)⟩
      have := hv (j + 1) v (by simpa using hjv)
      rw [show i + 1 + j = i + (j + 1) by omega]; exact this

/-- The bounds of the variables of symbolic cells. -/
def kdsB : List Kd → Nat → List (E × Int × Int)
  | [], _ => []
  | .int k :: r, i => (.vr i, k.min, k.max) :: kdsB r (i + 1)
  | .str :: r, i => (.un .len (.vr i), 0, 9223372036854775807) :: kdsB r (i + 1)
  | _ :: r, i => kdsB r (i + 1)

theorem kdsB_ok {ρ : Env} : ∀ {ks : List Kd} {cs : List Value} {i : Nat}, Typed ks cs → (∀ (j : Nat) (v : Value), cs[j]? = some v → ρ.v (i + j) = Sc.ofValue v) → ∀ p ∈ kdsB ks i, p.2.1 ≤ (p.1.ev ρ).int ∧ (p.1.ev ρ).int ≤ p.2.2
  | [], cs, i, _, _, p, hp => by simp [kdsB] at hp
  | k :: r, cs, i, h, hv, p, hp => by
    match cs, h.1 with
    | c :: cr, hl =>
      have ih := kdsB_ok (ρ := ρ) (ks := r) (cs := cr) (i := i + 1) ⟨by simpa using hl, fun j k' v hk' hv' => h.2 (j + 1) k' v (by simpa using hk') (by simpa using hv')⟩ (fun j v hjv => by
        have := hv (j + 1) v (by simpa using hjv)
        rw [show i + 1 + j = i + (j + 1) by omega]; exact this)
      have hc := h.2 0 k c rfl rfl
      have hv0 := hv 0 c rfl
      simp only [Nat.add_zero] at hv0
      cases k with
      | int k =>
        simp only [kdsB, List.mem_cons] at hp
        rcases hp with rfl | hp
        · obtain ⟨n, rfl, h1, h2⟩ := hc
          simp only [E.ev, hv0, Sc.ofValue, Sc.int_I]; exact ⟨h1, h2⟩
        · exact ih p hp
      | bool => exact ih p (by simpa [kdsB] using hp)
      | str =>
        simp only [kdsB, List.mem_cons] at hp
        rcases hp with rfl | hp
        · obtain ⟨s, rfl, h1⟩ := hc
          simp only [E.ev, U.ev, hv0, Sc.ofValue, Sc.str_S, Sc.int_I]
          unfold maxLen at h1
          exact ⟨by omega, by omega⟩
        · exact ih p hp
      | any => exact ih p (by simpa [kdsB] using hp)

end Go.Eng
