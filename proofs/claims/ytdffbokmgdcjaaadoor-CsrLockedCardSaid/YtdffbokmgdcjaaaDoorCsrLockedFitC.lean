/- What holds at the heads of the loops of the law CsrLocked: what is locked stays. -/
import Derived.Test.YtdffbokmgdcjaaaDoorCsrLockedPlanC
namespace Go.Proofs.YtdffbokmgdcjaaaDoor.CsrLockedDone
open Go.Eng Go.Proofs.YtdffbokmgdcjaaaDoor.CsrKeepsDone

def cfgE : E := mixE (.vr 1022) cV
def bitE (k : Nat) : E := .bi .eqi (.bi (.bits .and .u8) (bE (.vr 1022) k) (.li 128)) (.li 0)
def adrE (k : Nat) : E := if k = 7 then .tr .ite (bitE 7) (.bi (.bits .and .u64) cV (.li 18014398509481983)) (.vr 1030) else
  .tr .ite (.un .not (.bi .or (.un .not (bitE k)) (.bi .and (.un .not (bitE (k + 1))) (.bi .eqi (.bi (.bits .and .u8) (bE (.vr 1022) (k + 1)) (.li 24)) (.li 8))))) (.bi (.bits .and .u64) cV (.li 18014398509481983)) (.vr (1023 + k))

/-- The ends of a chain of tests of the register and of the mode. -/
def leafs : E → List E
  | .tr .ite c a b => match c with
    | .bi .eqi x (.li _) => if x.same c0 then leafs a ++ leafs b else [.tr .ite c a b]
    | c => if c.same badE then leafs a ++ leafs b else [.tr .ite c a b]
  | e => [e]
theorem leafs_ev (ρ : Env) : ∀ e : E, ∃ x ∈ leafs e, (e.ev ρ).int = (x.ev ρ).int := by
  intro e
  induction e with
  | tr o c a b _ iha ihb =>
    have key : ∃ x ∈ leafs a ++ leafs b, ((E.tr .ite c a b).ev ρ).int = (x.ev ρ).int := by
      simp only [ev_ite, ite_int]
      split
      · obtain ⟨x, hx, he⟩ := iha; exact ⟨x, List.mem_append_left _ hx, he⟩
      · obtain ⟨x, hx, he⟩ := ihb; exact ⟨x, List.mem_append_right _ hx, he⟩
    cases o with
    | ite =>
      unfold leafs
      split
      · split
        · exact key
        · exact ⟨_, List.mem_singleton.2 rfl, rfl⟩
      · split
        · exact key
        · exact ⟨_, List.mem_singleton.2 rfl, rfl⟩
    | sub => exact ⟨_, List.mem_singleton.2 rfl, rfl⟩
    | app f => exact ⟨_, List.mem_singleton.2 rfl, rfl⟩
    | row o => exact ⟨_, List.mem_singleton.2 rfl, rfl⟩
  | _ => exact ⟨_, List.mem_singleton.2 rfl, rfl⟩

def okCell (k : Nat) (e : E) : Bool := inKind factsA .u64 e && (if k = 22 then (leafs e).all (fun x => x.same (.vr 1022) || x.same cfgE) else if 23 ≤ k then (leafs e).all (fun x => x.same (.vr (1000 + k)) || x.same (adrE (k - 23))) else true)
def sigOk (σ : List (Nat × E)) : Bool := (List.range 31).all (fun k => (match (T.ofList σ).get (1000 + k) with | some e => okCell k e | none => true) && ((T.ofList σ).get (1100 + k)).isNone) && (match (T.ofList σ).get 1200 with | some e => e.same (.bi .add (.vr 1200) (.li 1)) | none => false) && σ.all (fun p => decide (1000 ≤ p.1))
def planOk : PL → Bool
  | .node _ a b => planOk a && planOk b
  | .go 0 σ _ => sigOk σ
  | _ => false

def U (n : Int) : Prop := 0 ≤ n ∧ n ≤ 18446744073709551615
structure L (v : Nat → Sc) : Prop where
  s : ∀ k, k < 31 → U (v (1000 + k)).int
  f : ∀ k, k < 31 → U (v (1100 + k)).int
  rel : ∀ k, k < 8 → 128 ≤ bI (v 1122).int k → bI (v 1022).int k = bI (v 1122).int k ∧ (v (1023 + k)).int = (v (1123 + k)).int ∧ (0 < k → bitsOf .and .u8 ((bI (v 1122).int k).fdiv 8) 3 = 1 → (v (1022 + k)).int = (v (1122 + k)).int)

theorem tor_eq {y : Int} (h0 : 0 ≤ y) (h1 : y < 256) : (bitsOf .and .u8 (y.fdiv 8) 3 = 1) = (bitsOf .and .u8 y 24 = 8) :=
  fin256 (P := fun y => (bitsOf .and .u8 (y.fdiv 8) 3 = 1) = (bitsOf .and .u8 y 24 = 8)) (fun n => propext (by revert n; decide +kernel)) h0 h1

theorem bit_ev {ρ : Env} (h : U (ρ.v 1022).int) (k : Nat) : ((bitE k).ev ρ).bool = decide (bI (ρ.v 1022).int k < 128) := by
  have r := bI_rng h.1 h.2 k
  simp only [bitE, E.ev, B2.ev, Sc.bool_B, Sc.int_I]
  have := bE_ev (ρ := ρ) (.vr 1022) k
  rw [ev_vr] at this
  have e : (bitsOf .and .u8 ((bE (.vr 1022) k).ev ρ).int 128 = 0) = (bI (ρ.v 1022).int k < 128) := by rw [this]; exact byte_hi r.1 (by omega)
  exact decide_eq_decide.2 (Iff.of_eq e)

theorem adr_own {ρ : Env} (h : U (ρ.v 1022).int) {k : Nat} (hk : k < 8) (h1 : 128 ≤ bI (ρ.v 1022).int k) : ((adrE k).ev ρ).int = (ρ.v (1023 + k)).int := by
  have hb := bit_ev h k
  rw [decide_eq_false (by omega)] at hb
  unfold adrE
  split
  · rename_i e
    subst e
    simp only [E.ev, B3.ev] at hb ⊢
    simp only [hb, Bool.false_eq_true, if_false]
  · simp only [E.ev, B3.ev, U.ev, B2.ev, Sc.bool_B] at hb ⊢
    simp only [hb, Bool.not_false, Bool.true_or, Bool.not_true, Bool.false_eq_true, if_false]

theorem adr_next {ρ : Env} (h : U (ρ.v 1022).int) {k : Nat} (hk : k + 1 < 8) (h1 : 128 ≤ bI (ρ.v 1022).int (k + 1)) (h2 : bitsOf .and .u8 (bI (ρ.v 1022).int (k + 1)) 24 = 8) : ((adrE k).ev ρ).int = (ρ.v (1023 + k)).int := by
  have hb := bit_ev h (k + 1)
  rw [decide_eq_false (by omega)] at hb
  have e := bE_ev (ρ := ρ) (.vr 1022) (k + 1)
  rw [ev_vr] at e
  unfold adrE
  rw [if_neg (by omega)]
  simp only [E.ev, B3.ev, U.ev, B2.ev, Sc.bool_B, Sc.int_I] at hb ⊢
  simp only [hb, e, h2, decide_true, Bool.not_false, Bool.true_and, Bool.or_true, Bool.not_true, Bool.false_eq_true, if_false]

theorem cfg_byte {ρ : Env} (h : U (ρ.v 1022).int) {k : Nat} (hk : k < 8) (h1 : 128 ≤ bI (ρ.v 1022).int k) : bI (cfgE.ev ρ).int k = bI (ρ.v 1022).int k := by
  have hv : U (cV.ev ρ).int := wrap_rng .u64 _
  unfold cfgE
  rw [mix_int, ev_vr, SI_byte (fun j hj => ?_) hk]
  · rw [if_pos]
    rw [byte_hi (bI_rng h.1 h.2 k).1 (by have := bI_rng h.1 h.2 k; omega)]
    omega
  · split
    · exact bI_rng h.1 h.2 j
    · exact lI_rng (bI_rng hv.1 hv.2 j).1 (bI_rng hv.1 hv.2 j).2

theorem step_ok {σ : List (Nat × E)} {ρ : Env} (h : sigOk σ = true) (hF : factsA.ok ρ) (hL : L ρ.v) : L (ρ.upd (T.ofList σ)).v ∧ ((ρ.upd (T.ofList σ)).v 1200).int = (ρ.v 1200).int + 1 := by
  simp only [sigOk, Bool.and_eq_true, List.all_eq_true, List.mem_range] at h
  obtain ⟨⟨hk, hi⟩, _⟩ := h
  have hfst : ∀ k, k < 31 → (ρ.upd (T.ofList σ)).v (1100 + k) = ρ.v (1100 + k) := fun k hlt => by
    have := (hk k hlt).2
    rw [Option.isNone_iff_eq_none] at this
    simp only [Env.upd, this]
  have hrng : ∀ k, k < 31 → U ((ρ.upd (T.ofList σ)).v (1000 + k)).int := fun k hlt => by
    have h1 := (hk k hlt).1
    simp only [Env.upd]
    cases hg : (T.ofList σ).get (1000 + k) with
    | none => exact hL.s k hlt
    | some e =>
      rw [hg] at h1
      simp only [okCell, Bool.and_eq_true] at h1
      exact inKind_rng hF h1.1
  have hcfg : ((ρ.upd (T.ofList σ)).v 1022).int = (ρ.v 1022).int ∨ ((ρ.upd (T.ofList σ)).v 1022).int = (cfgE.ev ρ).int := by
    have h1 := (hk 22 (by decide)).1
    simp only [Env.upd]
    cases hg : (T.ofList σ).get 1022 with
    | none => exact .inl rfl
    | some e =>
      rw [show 1000 + 22 = 1022 from rfl, hg] at h1
      simp only [okCell, Bool.and_eq_true, if_true, List.all_eq_true, Bool.or_eq_true] at h1
      obtain ⟨x, hx, he⟩ := leafs_ev ρ e
      rcases h1.2 x hx with h2 | h2
      · left; rw [he, E.same_eq h2]; rfl
      · right; rw [he, E.same_eq h2]
  have hadr : ∀ k, k < 8 → ((ρ.upd (T.ofList σ)).v (1023 + k)).int = (ρ.v (1023 + k)).int ∨ ((ρ.upd (T.ofList σ)).v (1023 + k)).int = ((adrE k).ev ρ).int := fun k hlt => by
    have h1 := (hk (23 + k) (by omega)).1
    simp only [Env.upd]
    cases hg : (T.ofList σ).get (1023 + k) with
    | none => exact .inl rfl
    | some e =>
      rw [show 1000 + (23 + k) = 1023 + k by omega, hg] at h1
      simp only [okCell, Bool.and_eq_true] at h1
      have h2 := h1.2
      rw [if_neg (by omega), if_pos (by omega)] at h2
      simp only [List.all_eq_true, Bool.or_eq_true] at h2
      obtain ⟨x, hx, he⟩ := leafs_ev ρ e
      rcases h2 x hx with h3 | h3
      · left; rw [he, E.same_eq h3, show 1000 + (23 + k) = 1023 + k by omega]; rfl
      · right; rw [he, E.same_eq h3, show 23 + k - 23 = k by omega]
  refine ⟨⟨hrng, fun k hlt => by rw [hfst k hlt]; exact hL.f k hlt, fun k hlt hb => ?_⟩, ?_⟩
  · have e22 := hfst 22 (by decide)
    rw [show 1100 + 22 = 1122 from rfl] at e22
    rw [e22] at hb ⊢
    obtain ⟨r1, r2, r3⟩ := hL.rel k hlt hb
    have hs := hL.s 22 (by decide)
    rw [show 1000 + 22 = 1022 from rfl] at hs
    have hb' : 128 ≤ bI (ρ.v 1022).int k := by rw [r1]; exact hb
    refine ⟨?_, ?_, fun h0 ht => ?_⟩
    · rw [← r1]
      rcases hcfg with e | e
      · rw [e]
      · rw [e]; exact cfg_byte hs hlt hb'
    · have ef := hfst (23 + k) (by omega)
      rw [show 1100 + (23 + k) = 1123 + k by omega] at ef
      rw [ef, ← r2]
      rcases hadr k hlt with e | e
      · exact e
      · rw [e]; exact adr_own hs hlt hb'
    · have ef := hfst (22 + k) (by omega)
      rw [show 1100 + (22 + k) = 1122 + k by omega] at ef
      rw [ef, ← r3 h0 ht]
      obtain ⟨j, rfl⟩ : ∃ j, k = j + 1 := ⟨k - 1, by omega⟩
      have ej : 1022 + (j + 1) = 1023 + j := by omega
      rw [ej]
      rcases hadr j (by omega) with e | e
      · exact e
      · rw [e]
        have rr := bI_rng hs.1 hs.2 (j + 1)
        rw [← r1, tor_eq rr.1 (by omega)] at ht
        exact adr_next hs hlt hb' ht
  · simp only [Env.upd]
    split at hi
    · rename_i e hg
      rw [hg, E.same_eq hi]; rfl
    · cases hi

theorem us_ok {ρ : Env} (hL : L ρ.v) : ∀ p ∈ us, p.2.1 ≤ (p.1.ev ρ).int ∧ (p.1.ev ρ).int ≤ p.2.2 := fun p hp => by
  simp only [us, List.mem_flatMap, List.mem_range, List.mem_cons, List.not_mem_nil, or_false] at hp
  obtain ⟨k, hk, rfl | rfl⟩ := hp
  · exact hL.s k hk
  · exact hL.f k hk

def I (n : Int) (hi : Int) : Prop := 0 ≤ n ∧ n ≤ hi
def Inv (j : Nat) (ρ : Env) : Prop := (j = 0 ∧ constsA.ok ρ ∧ L ρ.v ∧ I (ρ.v 1200).int 20) ∨ (j = 1 ∧ L ρ.v ∧ I (ρ.v 1300).int 8)
def mu (j : Nat) (ρ : Env) : Nat := if j = 0 then (100 - (ρ.v 1200).int).toNat else (8 - (ρ.v 1300).int).toNat
def InvN (j : Nat) (ρ : Env) : Prop := j = 0 ∧ L ρ.v ∧ I (ρ.v 1300).int 8
def muN (_ : Nat) (ρ : Env) : Nat := (8 - (ρ.v 1300).int).toNat

theorem factsA_ok {ρ : Env} (hC : constsA.ok ρ) (hL : L ρ.v) (hi : I (ρ.v 1200).int 20) : factsA.ok ρ :=
  Facts.join_ok hC ⟨by simp [loopA], fun p hp => by
    simp only [loopA, List.mem_cons] at hp
    rcases hp with rfl | hp
    · exact hi
    · exact us_ok hL p hp, by simp [loopA], trivial⟩
theorem factsB_ok {ρ : Env} (hL : L ρ.v) (hi : I (ρ.v 1300).int 8) : factsB.ok ρ :=
  ⟨by simp [factsB], fun p hp => by
    simp only [factsB, List.mem_cons] at hp
    rcases hp with rfl | hp
    · exact hi
    · exact us_ok hL p hp, by simp [factsB], trivial⟩

theorem consts_upd {ρ : Env} (hC : constsA.ok ρ) {σ : List (Nat × E)} (h : (σ.all fun p => decide (1000 ≤ p.1)) = true) : constsA.ok (ρ.upd (T.ofList σ)) :=
  Facts.ok_upd hC (N := 1000) (by kernel_rfl) h (fun _ => trivial)

theorem planOk_fit {ρ : Env} (hC : constsA.ok ρ) (hL : L ρ.v) (hi : I (ρ.v 1200).int 20) (hlt : (ρ.v 1200).int < 20) : ∀ {p : PL}, planOk p = true → p.Fit oblT (fun j' ρ' => Inv j' ρ' ∧ mu j' ρ' < mu 0 ρ) ρ
  | .node _ a b, h => by
    simp only [planOk, Bool.and_eq_true] at h
    exact ⟨fun _ => planOk_fit hC hL hi hlt h.1, fun _ => planOk_fit hC hL hi hlt h.2⟩
  | .go 0 σ r, h => by
    simp only [planOk] at h
    obtain ⟨h1, h2⟩ := step_ok h (factsA_ok hC hL hi) hL
    have h3 : (σ.all fun p => decide (1000 ≤ p.1)) = true := by
      simp only [sigOk, Bool.and_eq_true] at h; exact h.2
    simp only [I] at hi
    refine ⟨.inl ⟨rfl, consts_upd hC h3, h1, ?_⟩, ?_⟩
    · simp only [I, h2]; omega
    · simp only [mu, if_true, h2]; omega
  | .go (j + 1) σ r, h => by simp [planOk] at h
  | .ret, h => by simp [planOk] at h
  | .retd _, h => by simp [planOk] at h
  | .absurd, h => by simp [planOk] at h
  | .know _ _ _, h => by simp [planOk] at h

theorem lenA : (E.vr 33).rng constsA = (some 1, some 20) := by kernel_rfl

theorem fitA {ρ : Env} (hC : constsA.ok ρ) (hL : L ρ.v) (hi : I (ρ.v 1200).int 20) : planA.Fit oblT (fun j' ρ' => Inv j' ρ' ∧ mu j' ρ' < mu 0 ρ) ρ := by
  have hr := E.rng_has hC (.vr 33)
  rw [lenA] at hr
  have hlen := hr.2 20 rfl
  refine ⟨fun hlt => ?_, fun _ => ?_⟩
  · simp only [ltA, ev_lt, ev_vr] at hlt
    exact planOk_fit hC hL hi (by simp only [ev_vr] at hlen; omega) (by kernel_rfl)
  · have e : ∀ n, n ≠ 1300 → (ρ.upd (T.ofList [(1300, E.li 0)])).v n = ρ.v n := fun n hn => by simp [Env.upd, T.ofList, T.get_set, hn]
    have e3 : (ρ.upd (T.ofList [(1300, E.li 0)])).v 1300 = .I 0 := by simp [Env.upd, T.ofList, T.get_set, E.ev]
    simp only [I] at hi
    refine ⟨.inr ⟨rfl, ⟨fun k hk => by rw [e _ (by omega)]; exact hL.s k hk, fun k hk => by rw [e _ (by omega)]; exact hL.f k hk, fun k hk => ?_⟩, ?_⟩, ?_⟩
    · rw [e _ (by omega), e _ (by omega), e _ (by omega), e _ (by omega), e _ (by omega), e _ (by omega)]; exact hL.rel k hk
    · rw [e3]; exact ⟨by decide, by decide⟩
    · simp only [mu, e3, if_true, Sc.int_I]
      rw [if_neg (by decide)]
      omega

theorem byt_ev {ρ : Env} {n k : Nat} (h : U (ρ.v n).int) (hk : k < 8) (hi : (ρ.v 1300).int = k) : ((bytE n).ev ρ).int = bI (ρ.v n).int k := by
  have r := bI_rng h.1 h.2 k
  have hk' : (k : Int) * 8 < 64 := by omega
  have e : ((k : Int) * 8).toNat = 8 * k := by omega
  simp only [bytE, ev_wrap, ev_fdiv, ev_vr, ev_pow2, ev_ite, ite_int, ev_mul, ev_li, hi, ev_lt, hk', if_true, e]
  unfold bI at r ⊢
  split
  · rename_i e7
    rw [if_pos e7] at r
    subst e7
    exact wrap_id r.1 r.2
  · rfl
theorem chF0_ev {ρ : Env} {k : Nat} (hk : k < 8) (hi : (ρ.v 1300).int = k) : (chF0.ev ρ).int = (ρ.v (1123 + k)).int := by
  simp only [chF0, ev_ite, ite_int, ev_eqi, ev_vr, ev_li, hi]
  rcases k with _ | _ | _ | _ | _ | _ | _ | _ | k <;> first | (simp; done) | omega
theorem chF1_ev {ρ : Env} {k : Nat} (hk : k < 8) (h0 : 0 < k) (hi : (ρ.v 1300).int = k) : (chF1.ev ρ).int = (ρ.v (1123 + k)).int := by
  simp only [chF1, ev_ite, ite_int, ev_eqi, ev_vr, ev_li, hi]
  rcases k with _ | _ | _ | _ | _ | _ | _ | _ | k <;> first | (simp; done) | omega
theorem chFm_ev {ρ : Env} {k : Nat} (hk : k < 8) (h0 : 0 < k) (hi : (ρ.v 1300).int = k) : (chFm.ev ρ).int = (ρ.v (1122 + k)).int := by
  simp only [chFm, ev_ite, ite_int, ev_eqi, ev_add, ev_vr, ev_li, hi]
  rcases k with _ | _ | _ | _ | _ | _ | _ | _ | k <;> first | (simp; done) | omega
theorem chS0_ev {ρ : Env} {k : Nat} (hk : k < 8) (hi : (ρ.v 1300).int = k) : (chS0.ev ρ).int = (ρ.v (1023 + k)).int := by
  simp only [chS0, ev_ite, ite_int, ev_eqi, ev_vr, ev_li, hi]
  rcases k with _ | _ | _ | _ | _ | _ | _ | _ | k <;> first | (simp; done) | omega
theorem chS1_ev {ρ : Env} {k : Nat} (hk : k < 8) (h0 : 0 < k) (hi : (ρ.v 1300).int = k) : (chS1.ev ρ).int = (ρ.v (1023 + k)).int := by
  simp only [chS1, ev_ite, ite_int, ev_eqi, ev_vr, ev_li, hi]
  rcases k with _ | _ | _ | _ | _ | _ | _ | _ | k <;> first | (simp; done) | omega
theorem chSm_ev {ρ : Env} {k : Nat} (hk : k < 8) (h0 : 0 < k) (hi : (ρ.v 1300).int = k) : (chSm.ev ρ).int = (ρ.v (1022 + k)).int := by
  simp only [chSm, ev_ite, ite_int, ev_eqi, ev_add, ev_vr, ev_li, hi]
  rcases k with _ | _ | _ | _ | _ | _ | _ | _ | k <;> first | (simp; done) | omega

theorem upd1 (ρ : Env) (e : E) : (∀ n, n ≠ 1300 → (ρ.upd (T.ofList [(1300, e)])).v n = ρ.v n) ∧ (ρ.upd (T.ofList [(1300, e)])).v 1300 = e.ev ρ :=
  ⟨fun n hn => by simp [Env.upd, T.ofList, T.get_set, hn], by simp [Env.upd, T.ofList, T.get_set]⟩
theorem L_upd {ρ : Env} (hL : L ρ.v) (e : E) : L (ρ.upd (T.ofList [(1300, e)])).v := by
  have q := (upd1 ρ e).1
  refine ⟨fun k hk => by rw [q _ (by omega)]; exact hL.s k hk, fun k hk => by rw [q _ (by omega)]; exact hL.f k hk, fun k hk => ?_⟩
  rw [q _ (by omega), q _ (by omega), q _ (by omega), q _ (by omega), q _ (by omega), q _ (by omega)]; exact hL.rel k hk

theorem fitB {ρ : Env} (j : Nat) (hL : L ρ.v) (hi : I (ρ.v 1300).int 8) (obl : Nat → Env → Prop) (hgo : (ρ.v 1300).int < 8 → ∀ ρ' : Env, L ρ'.v → (ρ'.v 1300).int = (ρ.v 1300).int + 1 → obl j ρ') : (planB j).Fit oblT obl ρ := by
  by_cases h8 : (ρ.v 1300).int < 8
  · obtain ⟨k, hik⟩ : ∃ k : Nat, (ρ.v 1300).int = k := ⟨(ρ.v 1300).int.toNat, by simp only [I] at hi; omega⟩
    have hk : k < 8 := by omega
    have hF : U (ρ.v 1122).int := hL.f 22 (by decide)
    have hS : U (ρ.v 1022).int := hL.s 22 (by decide)
    have go : obl j (ρ.upd (T.ofList [(1300, (.bi .add (.vr 1300) (.li 1)))])) := hgo h8 _ (L_upd hL _) (by rw [(upd1 ρ _).2]; simp only [E.ev, B2.ev, Sc.int_I])
    have bF := byt_ev hF hk hik
    have bS := byt_ev hS hk hik
    have rr := hL.rel k hk
    refine ⟨fun _ => ⟨fun _ => go, fun hlo => ?_⟩, fun h => by simp only [ev_ltf, ev_vr, ev_li] at h; omega⟩
    have hlo' : 128 ≤ bI (ρ.v 1122).int k := by
      simp only [ev_ltf, ev_li, bF] at hlo; omega
    obtain ⟨r1, r2, r3⟩ := rr hlo'
    refine ⟨fun _ => ⟨fun _ => ⟨fun h0 => ⟨fun _ => ⟨fun ht => ⟨fun _ => go, fun hne => ?_⟩, fun _ => go⟩, fun hne => ?_⟩, fun h0 => ⟨fun _ => go, fun hne => ?_⟩⟩, fun hne => ?_⟩, fun hne => ?_⟩
    · have h0' : 0 < k := by simp only [ev_lt, ev_li, ev_vr, hik] at h0; omega
      simp only [ev_eqi, ev_bits, ev_fdiv, ev_li, bF] at ht
      simp only [ev_eqif, chFm_ev hk h0' hik, chSm_ev hk h0' hik] at hne
      exact hne (r3 h0' ht).symm
    · have h0' : 0 < k := by simp only [ev_lt, ev_li, ev_vr, hik] at h0; omega
      simp only [ev_eqif, chF1_ev hk h0' hik, chS1_ev hk h0' hik] at hne
      exact hne r2.symm
    · have h0' : k = 0 := by simp only [ev_ltf, ev_li, ev_vr, hik] at h0; omega
      subst h0'
      simp only [ev_eqif, ev_vr] at hne
      exact hne r2.symm
    · simp only [ev_eqif, chF0_ev hk hik, chS0_ev hk hik] at hne
      exact hne r2.symm
    · simp only [ev_eqif, bF, bS] at hne
      exact hne r1.symm
  · exact ⟨fun h => absurd (by simpa only [ev_lt, ev_vr, ev_li] using h) h8, fun _ => rfl⟩

theorem fitB1 {ρ : Env} (hL : L ρ.v) (hi : I (ρ.v 1300).int 8) : (planB 1).Fit oblT (fun j' ρ' => Inv j' ρ' ∧ mu j' ρ' < mu 1 ρ) ρ :=
  fitB 1 hL hi _ fun h8 ρ' h1 h2 => by
    simp only [I] at hi
    refine ⟨.inr ⟨rfl, h1, by simp only [I, h2]; omega⟩, ?_⟩
    simp only [mu, h2]
    rw [if_neg (by decide), if_neg (by decide)]
    omega
theorem fitB0 {ρ : Env} (hL : L ρ.v) (hi : I (ρ.v 1300).int 8) : (planB 0).Fit oblT (fun j' ρ' => InvN j' ρ' ∧ muN j' ρ' < muN 0 ρ) ρ :=
  fitB 0 hL hi _ fun h8 ρ' h1 h2 => by
    simp only [I] at hi
    refine ⟨⟨rfl, h1, by simp only [I, h2]; omega⟩, ?_⟩
    simp only [muN, h2]
    omega

/-- At the entry both states are the one that was made. -/
def entOk (F : Facts) (σ : List (Nat × E)) : Bool := (List.range 31).all fun k => match (T.ofList σ).get (1000 + k), (T.ofList σ).get (1100 + k) with
  | some a, some b => a.same b && inKind F .u64 a
  | _, _ => false
theorem ent_ok {F : Facts} {σ : List (Nat × E)} {ρ : Env} (h : entOk F σ = true) (hF : F.ok ρ) : L (ρ.upd (T.ofList σ)).v := by
  simp only [entOk, List.all_eq_true, List.mem_range] at h
  have key : ∀ k, k < 31 → ∃ x : Sc, (ρ.upd (T.ofList σ)).v (1000 + k) = x ∧ (ρ.upd (T.ofList σ)).v (1100 + k) = x ∧ U x.int := fun k hk => by
    have h1 := h k hk
    split at h1
    · rename_i a b ha hb
      simp only [Bool.and_eq_true] at h1
      refine ⟨a.ev ρ, by simp only [Env.upd, ha], by simp only [Env.upd, hb, E.same_eq h1.1], inKind_rng hF h1.2⟩
    · cases h1
  refine ⟨fun k hk => ?_, fun k hk => ?_, fun k hk _ => ⟨?_, ?_, fun h0 _ => ?_⟩⟩
  · obtain ⟨x, h1, _, h3⟩ := key k hk; rw [h1]; exact h3
  · obtain ⟨x, _, h2, h3⟩ := key k hk; rw [h2]; exact h3
  · obtain ⟨x, h1, h2, _⟩ := key 22 (by decide)
    rw [show 1000 + 22 = 1022 from rfl] at h1
    rw [show 1100 + 22 = 1122 from rfl] at h2
    rw [h1, h2]
  · obtain ⟨x, h1, h2, _⟩ := key (23 + k) (by omega)
    rw [show 1000 + (23 + k) = 1023 + k by omega] at h1
    rw [show 1100 + (23 + k) = 1123 + k by omega] at h2
    rw [h1, h2]
  · obtain ⟨x, h1, h2, _⟩ := key (22 + k) (by omega)
    rw [show 1000 + (22 + k) = 1022 + k by omega] at h1
    rw [show 1100 + (22 + k) = 1122 + k by omega] at h2
    rw [h1, h2]
/-- The same, of a plan. -/
def goOk (F : Facts) (n : Nat) : PL → Bool
  | .go _ σ _ => entOk F σ && (match (T.ofList σ).get n with | some e => e.same (.li 0) | none => false)
  | _ => false
theorem bnds1 {ρ : Env} (hb : ∀ p ∈ shB Tryd.prog sh1 0, p.2.1 ≤ (p.1.ev ρ).int ∧ (p.1.ev ρ).int ≤ p.2.2) : Facts.ok { bnds := shB Tryd.prog sh1 0, sem := fun _ => True } ρ := ⟨by simp, hb, by simp, trivial⟩
theorem bnds2 {ρ : Env} (hb : ∀ p ∈ shB Tryd.prog sh2 0, p.2.1 ≤ (p.1.ev ρ).int ∧ (p.1.ev ρ).int ≤ p.2.2) : Facts.ok { bnds := shB Tryd.prog sh2 0, sem := fun _ => True } ρ := ⟨by simp, hb, by simp, trivial⟩
theorem go_fit {F : Facts} {n j : Nat} {σ : List (Nat × E)} {r : List (Nat × Nat)} (h : goOk F n (.go j σ r) = true) {ρ : Env} (hF : F.ok ρ) : L (ρ.upd (T.ofList σ)).v ∧ ((ρ.upd (T.ofList σ)).v n).int = 0 := by
  simp only [goOk, Bool.and_eq_true] at h
  refine ⟨ent_ok h.1 hF, ?_⟩
  have h2 := h.2
  split at h2
  · rename_i e he
    simp only [Env.upd, he, E.same_eq h2]; rfl
  · cases h2
def plan2g : PL := match plan2 with | .node _ _ g => g | _ => .absurd
noncomputable def facts2 : Facts := { bnds := shB Tryd.prog sh2 0, sem := fun _ => True }
noncomputable def facts1 : Facts := { bnds := shB Tryd.prog sh1 0, sem := fun _ => True }
theorem go2 : goOk facts2 1200 plan2g = true := by kernel_rfl
theorem go1 : goOk facts1 1300 plan1 = true := by kernel_rfl
theorem bnd33 : (E.vr 33).rng facts2 = (some 1, some 9223372036854775807) := by kernel_rfl
theorem consts_eq : constsA = facts2.cons (.bi .lt (.li 20) (.vr 33)) false := by kernel_rfl
theorem consts_at {ρ : Env} (hF : facts2.ok ρ) (h : ((E.bi .lt (.li 20) (.vr 33)).ev ρ).bool = false) : constsA.ok ρ := by
  rw [consts_eq]; exact facts_cons hF h
end Go.Proofs.YtdffbokmgdcjaaaDoor.CsrLockedDone
