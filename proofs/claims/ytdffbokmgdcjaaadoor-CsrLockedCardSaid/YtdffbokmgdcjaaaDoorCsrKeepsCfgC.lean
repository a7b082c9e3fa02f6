/- What CsrKeeps needs to know of pmpcfg: byte by byte. -/
import Derived.Test.YtdffbokmgdcjaaaDoorCsrKeepsByteC
import Derived.Test.YtdffbokmgdcjaaaDoorEngG13
namespace Go.Proofs.YtdffbokmgdcjaaaDoor.CsrKeepsDone
open Go.Eng

def bE (x : E) (k : Nat) : E := if k = 7 then .bi .fdiv x (.li 72057594037927936) else .un (.wrap .u8) (.bi .fdiv x (.li (2 ^ (8 * k))))
def lE (y : E) : E := .tr .ite (.bi .eqi (.bi (.bits .and .u8) (.bi (.bits .andNot .u8) y (.li 96)) (.li 1)) (.li 0)) (.bi (.bits .andNot .u8) (.bi (.bits .andNot .u8) y (.li 96)) (.li 2)) (.bi (.bits .andNot .u8) y (.li 96))
def SE (f : Nat → E) : E := .bi (.bits .or .u64) (.bi (.bits .or .u64) (.bi (.bits .or .u64) (.bi (.bits .or .u64) (.bi (.bits .or .u64) (.bi (.bits .or .u64) (.bi (.bits .or .u64) (.bi (.bits .or .u64) (.li 0) (f 0)) (.bi .mul (f 1) (.li 256))) (.bi .mul (f 2) (.li 65536))) (.bi .mul (f 3) (.li 16777216))) (.bi .mul (f 4) (.li 4294967296))) (.bi .mul (f 5) (.li 1099511627776))) (.bi .mul (f 6) (.li 281474976710656))) (.bi .mul (f 7) (.li 72057594037927936))
def entE (x : E) : E := SE fun k => lE (bE x k)
def mixE (o n : E) : E := SE fun k => .tr .ite (.un .not (.bi .eqi (.bi (.bits .and .u8) (bE o k) (.li 128)) (.li 0))) (bE o k) (lE (bE n k))
def WE : E := mixE (entE (.vr 22)) (.vr 34)
def e19 : E := .bi .eqi (entE (entE (.vr 22))) (entE (.vr 22))
def e47 : E := .bi .eqi (entE WE) WE
def e48 : E := .bi .eqi (mixE WE WE) WE

def bI (x : Int) (k : Nat) : Int := if k = 7 then x.fdiv 72057594037927936 else IntKind.u8.wrap (x.fdiv (2 ^ (8 * k)))
def lI (y : Int) : Int := if bitsOf .and .u8 (bitsOf .andNot .u8 y 96) 1 = 0 then bitsOf .andNot .u8 (bitsOf .andNot .u8 y 96) 2 else bitsOf .andNot .u8 y 96
def SI (f : Nat → Int) : Int := bitsOf .or .u64 (bitsOf .or .u64 (bitsOf .or .u64 (bitsOf .or .u64 (bitsOf .or .u64 (bitsOf .or .u64 (bitsOf .or .u64 (bitsOf .or .u64 (0) (f 0)) (f 1 * 256)) (f 2 * 65536)) (f 3 * 16777216)) (f 4 * 4294967296)) (f 5 * 1099511627776)) (f 6 * 281474976710656)) (f 7 * 72057594037927936)
section
variable {ρ : Env}
theorem bE_ev (x : E) (k : Nat) : ((bE x k).ev ρ).int = bI (x.ev ρ).int k := by
  unfold bE bI
  split
  · rw [ev_fdiv, ev_li]
  · rw [ev_wrap, ev_fdiv, ev_li]
theorem lE_ev (y : E) : ((lE y).ev ρ).int = lI (y.ev ρ).int := by
  simp only [lE, lI, ev_ite, ite_int, ev_eqi, ev_bits, ev_li]
theorem SE_ev (f : Nat → E) : ((SE f).ev ρ).int = SI fun k => ((f k).ev ρ).int := by
  simp only [SE, SI, ev_bits, ev_mul, ev_li]
end
theorem SI_congr {f g : Nat → Int} (h : ∀ k, k < 8 → f k = g k) : SI f = SI g := by
  simp only [SI, h 0 (by decide), h 1 (by decide), h 2 (by decide), h 3 (by decide), h 4 (by decide), h 5 (by decide), h 6 (by decide), h 7 (by decide)]
theorem lI_rng {y : Int} (h0 : 0 ≤ y) (h1 : y ≤ 255) : 0 ≤ lI y ∧ lI y ≤ 255 := fin256 (P := fun y => 0 ≤ lI y ∧ lI y ≤ 255) (by decide +kernel) h0 (by omega)
theorem lI_idem {y : Int} (h0 : 0 ≤ y) (h1 : y ≤ 255) : lI (lI y) = lI y := fin256 (P := fun y => lI (lI y) = lI y) (by decide +kernel) h0 (by omega)
theorem bI_rng {x : Int} (h0 : 0 ≤ x) (h1 : x ≤ 18446744073709551615) (k : Nat) : 0 ≤ bI x k ∧ bI x k ≤ 255 := by
  unfold bI
  split
  · obtain ⟨X, rfl⟩ := bv64_of h0 h1
    have := X.isLt
    rw [Int.fdiv_eq_ediv_of_nonneg _ (by decide)]
    omega
  · rw [wrap_u8]
    exact ⟨Int.emod_nonneg _ (by decide), by have := Int.emod_lt_of_pos (x.fdiv (2 ^ (8 * k))) (show (0 : Int) < 256 by decide); omega⟩
theorem SI_bv (f : Nat → Int) (h : ∀ k, k < 8 → 0 ≤ f k ∧ f k ≤ 255) : ∃ F0 F1 F2 F3 F4 F5 F6 F7 : BitVec 8, f 0 = (F0.toNat : Int) ∧ f 1 = (F1.toNat : Int) ∧ f 2 = (F2.toNat : Int) ∧ f 3 = (F3.toNat : Int) ∧ f 4 = (F4.toNat : Int) ∧ f 5 = (F5.toNat : Int) ∧ f 6 = (F6.toNat : Int) ∧ f 7 = (F7.toNat : Int) ∧ SI f = ((((((((((0#64 ||| F0.setWidth 64) ||| ((F1.setWidth 64) <<< 8)) ||| ((F2.setWidth 64) <<< 16)) ||| ((F3.setWidth 64) <<< 24)) ||| ((F4.setWidth 64) <<< 32)) ||| ((F5.setWidth 64) <<< 40)) ||| ((F6.setWidth 64) <<< 48)) ||| ((F7.setWidth 64) <<< 56))).toNat : Int) := by
  obtain ⟨F0, h0⟩ := bv8_of (h 0 (by decide)).1 (h 0 (by decide)).2
  obtain ⟨F1, h1⟩ := bv8_of (h 1 (by decide)).1 (h 1 (by decide)).2
  obtain ⟨F2, h2⟩ := bv8_of (h 2 (by decide)).1 (h 2 (by decide)).2
  obtain ⟨F3, h3⟩ := bv8_of (h 3 (by decide)).1 (h 3 (by decide)).2
  obtain ⟨F4, h4⟩ := bv8_of (h 4 (by decide)).1 (h 4 (by decide)).2
  obtain ⟨F5, h5⟩ := bv8_of (h 5 (by decide)).1 (h 5 (by decide)).2
  obtain ⟨F6, h6⟩ := bv8_of (h 6 (by decide)).1 (h 6 (by decide)).2
  obtain ⟨F7, h7⟩ := bv8_of (h 7 (by decide)).1 (h 7 (by decide)).2
  refine ⟨F0, F1, F2, F3, F4, F5, F6, F7, h0, h1, h2, h3, h4, h5, h6, h7, ?_⟩
  have z : (F0.toNat : Int) = ((F0.setWidth 64).toNat : Int) := by
    have := F0.isLt
    rw [BitVec.toNat_setWidth, Nat.mod_eq_of_lt (by omega)]
  unfold SI
  rw [h0, h1, h2, h3, h4, h5, h6, h7, z, show (0 : Int) = ((0#64).toNat : Int) from rfl, place8 8 256 (by decide) (by decide) F1, place8 16 65536 (by decide) (by decide) F2, place8 24 16777216 (by decide) (by decide) F3, place8 32 4294967296 (by decide) (by decide) F4, place8 40 1099511627776 (by decide) (by decide) F5, place8 48 281474976710656 (by decide) (by decide) F6, place8 56 72057594037927936 (by decide) (by decide) F7]
  simp only [b64_or]
theorem SI_byte {f : Nat → Int} (h : ∀ k, k < 8 → 0 ≤ f k ∧ f k ≤ 255) {k : Nat} (hk : k < 8) : bI (SI f) k = f k := by
  obtain ⟨F0, F1, F2, F3, F4, F5, F6, F7, h0, h1, h2, h3, h4, h5, h6, h7, e⟩ := SI_bv f h
  rcases k with _ | _ | _ | _ | _ | _ | _ | _ | k
  · have a := byte_at0 F0 F1 F2 F3 F4 F5 F6 F7
    rw [BitVec.ushiftRight_zero] at a
    unfold bI
    rw [if_neg (by decide), e, fdiv64 0 _ (by decide), BitVec.ushiftRight_zero, low8, a]
    exact h0.symm
  · unfold bI
    rw [if_neg (by decide), e, fdiv64 8 _ (by decide), low8, byte_at1 F0 F1 F2 F3 F4 F5 F6 F7]
    exact h1.symm
  · unfold bI
    rw [if_neg (by decide), e, fdiv64 16 _ (by decide), low8, byte_at2 F0 F1 F2 F3 F4 F5 F6 F7]
    exact h2.symm
  · unfold bI
    rw [if_neg (by decide), e, fdiv64 24 _ (by decide), low8, byte_at3 F0 F1 F2 F3 F4 F5 F6 F7]
    exact h3.symm
  · unfold bI
    rw [if_neg (by decide), e, fdiv64 32 _ (by decide), low8, byte_at4 F0 F1 F2 F3 F4 F5 F6 F7]
    exact h4.symm
  · unfold bI
    rw [if_neg (by decide), e, fdiv64 40 _ (by decide), low8, byte_at5 F0 F1 F2 F3 F4 F5 F6 F7]
    exact h5.symm
  · unfold bI
    rw [if_neg (by decide), e, fdiv64 48 _ (by decide), low8, byte_at6 F0 F1 F2 F3 F4 F5 F6 F7]
    exact h6.symm
  · have a := byte_at7 F0 F1 F2 F3 F4 F5 F6 F7
    unfold bI
    rw [if_pos rfl, e, fdiv64 56 _ (by decide)]
    have b := congrArg BitVec.toNat a
    rw [BitVec.toNat_setWidth] at b
    have l := BitVec.isLt ((((((((0#64 ||| F0.setWidth 64) ||| ((F1.setWidth 64) <<< 8)) ||| ((F2.setWidth 64) <<< 16)) ||| ((F3.setWidth 64) <<< 24)) ||| ((F4.setWidth 64) <<< 32)) ||| ((F5.setWidth 64) <<< 40)) ||| ((F6.setWidth 64) <<< 48)) ||| ((F7.setWidth 64) <<< 56))
    rw [BitVec.toNat_ushiftRight, Nat.shiftRight_eq_div_pow] at b ⊢
    rw [Nat.mod_eq_of_lt (by omega)] at b
    rw [b]
    exact h7.symm
  · omega

section
variable {ρ : Env}
theorem ent_int (x : E) : ((entE x).ev ρ).int = SI fun k => lI (bI (x.ev ρ).int k) := by
  rw [entE, SE_ev]
  exact SI_congr fun k _ => by rw [lE_ev, bE_ev]
theorem mix_int (o n : E) : ((mixE o n).ev ρ).int = SI fun k => if ¬ bitsOf .and .u8 (bI (o.ev ρ).int k) 128 = 0 then bI (o.ev ρ).int k else lI (bI (n.ev ρ).int k) := by
  rw [mixE, SE_ev]
  refine SI_congr fun k _ => ?_
  simp only [ev_ite, ite_int, ev_not, ev_eqif, ev_bits, ev_li, bE_ev, lE_ev, ne_eq]
theorem k19 (a22 : 0 ≤ (ρ.v 22).int) (c22 : (ρ.v 22).int ≤ 18446744073709551615) : (e19.ev ρ).bool = true := by
  simp only [e19, ev_eqi, ent_int, ev_vr]
  have r := fun k => lI_rng (bI_rng a22 c22 k).1 (bI_rng a22 c22 k).2
  refine SI_congr fun k hk => ?_
  rw [SI_byte (fun k _ => r k) hk]
  exact lI_idem (bI_rng a22 c22 k).1 (bI_rng a22 c22 k).2
/-- What is written, byte by byte. -/
def wI (x v : Int) (k : Nat) : Int := if ¬ bitsOf .and .u8 (lI (bI x k)) 128 = 0 then lI (bI x k) else lI (bI v k)
theorem W_int (a22 : 0 ≤ (ρ.v 22).int) (c22 : (ρ.v 22).int ≤ 18446744073709551615) : (WE.ev ρ).int = SI (wI (ρ.v 22).int (ρ.v 34).int) := by
  rw [WE, mix_int]
  refine SI_congr fun k hk => ?_
  have q : bI ((entE (.vr 22)).ev ρ).int k = lI (bI (ρ.v 22).int k) := by
    rw [ent_int]
    exact SI_byte (f := fun k => lI (bI (ρ.v 22).int k)) (fun k _ => lI_rng (bI_rng a22 c22 k).1 (bI_rng a22 c22 k).2) hk
  simp only [q, wI, ev_vr]
theorem wI_rng {x v : Int} (x0 : 0 ≤ x) (x1 : x ≤ 18446744073709551615) (v0 : 0 ≤ v) (v1 : v ≤ 18446744073709551615) (k : Nat) : 0 ≤ wI x v k ∧ wI x v k ≤ 255 := by
  unfold wI
  split
  · exact lI_rng (bI_rng x0 x1 k).1 (bI_rng x0 x1 k).2
  · exact lI_rng (bI_rng v0 v1 k).1 (bI_rng v0 v1 k).2
theorem wI_l {x v : Int} (x0 : 0 ≤ x) (x1 : x ≤ 18446744073709551615) (v0 : 0 ≤ v) (v1 : v ≤ 18446744073709551615) (k : Nat) : lI (wI x v k) = wI x v k := by
  unfold wI
  split
  · exact lI_idem (bI_rng x0 x1 k).1 (bI_rng x0 x1 k).2
  · exact lI_idem (bI_rng v0 v1 k).1 (bI_rng v0 v1 k).2
theorem k47 (a22 : 0 ≤ (ρ.v 22).int) (c22 : (ρ.v 22).int ≤ 18446744073709551615) (a34 : 0 ≤ (ρ.v 34).int) (c34 : (ρ.v 34).int ≤ 18446744073709551615) : (e47.ev ρ).bool = true := by
  simp only [e47, ev_eqi, ent_int, W_int a22 c22]
  refine SI_congr fun k hk => ?_
  rw [SI_byte (fun k _ => wI_rng a22 c22 a34 c34 k) hk]
  exact wI_l a22 c22 a34 c34 k
theorem k48 (a22 : 0 ≤ (ρ.v 22).int) (c22 : (ρ.v 22).int ≤ 18446744073709551615) (a34 : 0 ≤ (ρ.v 34).int) (c34 : (ρ.v 34).int ≤ 18446744073709551615) : (e48.ev ρ).bool = true := by
  simp only [e48, ev_eqi, mix_int, W_int a22 c22]
  refine SI_congr fun k hk => ?_
  rw [SI_byte (fun k _ => wI_rng a22 c22 a34 c34 k) hk, wI_l a22 c22 a34 c34 k]
  split <;> rfl
end
end Go.Proofs.YtdffbokmgdcjaaaDoor.CsrKeepsDone
