/- That a number's digits are the same, however they are written: for the law HealthPlays. -/
import Derived.Test.YtlefdfcknddaaaaDoorEngG13
namespace Go.Proofs.YtlefdfcknddaaaaDoor.HealthPlaysDone
open Go.Eng

def DIG : ByteArray := ⟨#[48, 49, 50, 51, 52, 53, 54, 55, 56, 57, 97, 98, 99, 100, 101, 102, 103, 104, 105, 106, 107, 108, 109, 110, 111, 112, 113, 114, 115, 116, 117, 118, 119, 120, 121, 122]⟩
def SML : ByteArray := ⟨#[48, 48, 48, 49, 48, 50, 48, 51, 48, 52, 48, 53, 48, 54, 48, 55, 48, 56, 48, 57, 49, 48, 49, 49, 49, 50, 49, 51, 49, 52, 49, 53, 49, 54, 49, 55, 49, 56, 49, 57, 50, 48, 50, 49, 50, 50, 50, 51, 50, 52, 50, 53, 50, 54, 50, 55, 50, 56, 50, 57, 51, 48, 51, 49, 51, 50, 51, 51, 51, 52, 51, 53, 51, 54, 51, 55, 51, 56, 51, 57, 52, 48, 52, 49, 52, 50, 52, 51, 52, 52, 52, 53, 52, 54, 52, 55, 52, 56, 52, 57, 53, 48, 53, 49, 53, 50, 53, 51, 53, 52, 53, 53, 53, 54, 53, 55, 53, 56, 53, 57, 54, 48, 54, 49, 54, 50, 54, 51, 54, 52, 54, 53, 54, 54, 54, 55, 54, 56, 54, 57, 55, 48, 55, 49, 55, 50, 55, 51, 55, 52, 55, 53, 55, 54, 55, 55, 55, 56, 55, 57, 56, 48, 56, 49, 56, 50, 56, 51, 56, 52, 56, 53, 56, 54, 56, 55, 56, 56, 56, 57, 57, 48, 57, 49, 57, 50, 57, 51, 57, 52, 57, 53, 57, 54, 57, 55, 57, 56, 57, 57]⟩

theorem ev_cat (ρ : Env) (a b : E) : ((E.bi .cat a b).ev ρ).str = (a.ev ρ).str ++ (b.ev ρ).str := rfl
theorem ev_subs (ρ : Env) (a b c : E) : ((E.tr .sub a b c).ev ρ).str = (a.ev ρ).str.extract (b.ev ρ).int.toNat (c.ev ρ).int.toNat := rfl
theorem ev_chr (ρ : Env) (a : E) : ((E.un .chr a).ev ρ).str = chrOf (a.ev ρ).int := rfl
theorem ev_at (ρ : Env) (a b : E) : ((E.bi .at a b).ev ρ).int = byteAt (a.ev ρ).str (b.ev ρ).int := rfl

theorem num {p : Int → Prop} {n : Nat} (h : ∀ k : Fin n, p (k : Nat)) {i : Int} (h0 : 0 ≤ i) (h1 : i < n) : p i := by
  obtain ⟨k, rfl⟩ := Int.eq_ofNat_of_zero_le h0
  exact h ⟨k, by omega⟩

/-- One digit. -/
theorem d1 {n m : Int} (h0 : 0 ≤ n) (h1 : n < 10) (hm : m = n + 1) : DIG.extract n.toNat m.toNat = chrOf (n.tmod 10 + 48) := by
  subst hm
  exact num (p := fun n => DIG.extract n.toNat (n + 1).toNat = chrOf (n.tmod 10 + 48)) (n := 10) (by decide +kernel) h0 h1

theorem d1' {n m k : Int} (h0 : 0 ≤ n) (h1 : n < 10) (hm : m = n + 1) (hk : k = n) : DIG.extract n.toNat m.toNat = chrOf (k.tmod 10 + 48) := by
  subst hk
  exact d1 h0 h1 hm

theorem cat_eq {a b c d : ByteArray} (h : a = c) (g : b = d) : a ++ b = c ++ d := by rw [h, g]

/-- Two digits. -/
theorem d2 {n a b : Int} (h0 : 10 ≤ n) (h1 : n < 100) (ha : a = n * 2) (hb : b = n * 2 + 2) : SML.extract a.toNat b.toNat = chrOf ((n.tdiv 10).tmod 10 + 48) ++ chrOf (n.tmod 10 + 48) := by
  subst ha hb
  have := num (p := fun n => 10 ≤ n → SML.extract (n * 2).toNat (n * 2 + 2).toNat = chrOf ((n.tdiv 10).tmod 10 + 48) ++ chrOf (n.tmod 10 + 48)) (n := 100) (by decide +kernel) (by omega) h1
  exact this h0

/-- Three digits. -/
theorem d3 {n : Int} (h0 : 100 ≤ n) (h1 : n ≤ 255) : chrOf (n.tdiv 100 + 48) ++ (chrOf (byteAt SML (n.tmod 100 * 2)) ++ chrOf (byteAt SML (n.tmod 100 * 2 + 1))) = chrOf (((n.tdiv 10).tdiv 10).tmod 10 + 48) ++ (chrOf ((n.tdiv 10).tmod 10 + 48) ++ chrOf (n.tmod 10 + 48)) := by
  have := num (p := fun n => 100 ≤ n → chrOf (n.tdiv 100 + 48) ++ (chrOf (byteAt SML (n.tmod 100 * 2)) ++ chrOf (byteAt SML (n.tmod 100 * 2 + 1))) = chrOf (((n.tdiv 10).tdiv 10).tmod 10 + 48) ++ (chrOf ((n.tdiv 10).tmod 10 + 48) ++ chrOf (n.tmod 10 + 48))) (n := 256) (i := n) (by decide +kernel) (by omega) (by omega)
  exact this h0

/-- A nought, and a blank. -/
theorem d0 {n m : Int} (h0 : n = 0) (hm : m = n + 1) : DIG.extract n.toNat m.toNat ++ ⟨#[32]⟩ = ⟨#[48, 32]⟩ := by
  subst h0 hm
  decide +kernel
/-! The same, the texts by their values. -/
theorem x0 {s t u : ByteArray} {n m : Int} (hs : s = DIG) (ht : t = ⟨#[32]⟩) (hu : u = ⟨#[48, 32]⟩) (h0 : n = 0) (hm : m = n + 1) : s.extract n.toNat m.toNat ++ t = u := by
  subst hs ht hu
  exact d0 h0 hm
theorem x1 {s : ByteArray} {n m k : Int} (hs : s = DIG) (h0 : 0 ≤ n) (h1 : n < 10) (hm : m = n + 1) (hk : k = n) : s.extract n.toNat m.toNat = chrOf (k.tmod 10 + 48) := by
  subst hs
  exact d1' h0 h1 hm hk
theorem x2 {s : ByteArray} {n a b : Int} (hs : s = SML) (h0 : 10 ≤ n) (h1 : n < 100) (ha : a = n * 2) (hb : b = n * 2 + 2) : s.extract a.toNat b.toNat = chrOf ((n.tdiv 10).tmod 10 + 48) ++ chrOf (n.tmod 10 + 48) := by
  subst hs
  exact d2 h0 h1 ha hb
theorem x3 {s t : ByteArray} {n : Int} (hs : s = SML) (ht : t = SML) (h0 : 100 ≤ n) (h1 : n ≤ 255) : chrOf (n.tdiv 100 + 48) ++ (chrOf (byteAt s (n.tmod 100 * 2)) ++ chrOf (byteAt t (n.tmod 100 * 2 + 1))) = chrOf (((n.tdiv 10).tdiv 10).tmod 10 + 48) ++ (chrOf ((n.tdiv 10).tmod 10 + 48) ++ chrOf (n.tmod 10 + 48)) := by
  subst hs ht
  exact d3 h0 h1
end Go.Proofs.YtlefdfcknddaaaaDoor.HealthPlaysDone
