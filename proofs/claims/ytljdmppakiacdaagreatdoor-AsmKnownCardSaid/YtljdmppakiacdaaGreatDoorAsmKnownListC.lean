/- A call of asm.List, walked: strings.Builder by its contracts. -/
import Derived.Test.YtljdmppakiacdaaGreatDoorAsmKnownGC
import Derived.WalkKit
import Derived.BigCall
import Derived.Deep.QuietTactic
import Derived.BigQuiet
namespace Go.Proofs.YtljdmppakiacdaaGreatDoor.AsmKnownDone
open Go.Eng Go.RowKit Go.Proofs

theorem plain_call {P : Program} {c : MC} (h : Memo P c) {vs : Array Value} {v : Value} (ha : ∀ m ρ, DV.RL m ρ c.args vs.toList) (hv : ∀ m ρ x, c.res.R m ρ x → x = v) (w : World) : Calls P c.f vs w fun e w' => e = .returned v ∧ Below w.heap.size w w' :=
  (h { v := fun _ => .I 0, f := fun _ _ _ _ => .I 0 } ⟨fun _ => none, fun _ => 0⟩ w vs (ha _ _) ⟨fun id B hB => by simp at hB, fun id id' B B' b hB => by simp at hB⟩ (fun _ => rfl)).mono fun e w' ⟨x, m', he, hx, hb⟩ => ⟨by rw [he, hv _ _ _ hx], hb⟩

def d1 : MC := ⟨15, [.int .u32 (.li 5243027)], .agg [.int .u8 (.li 22), .int .u8 (.li 1), .int .u8 (.li 0), .int .u8 (.li 0), .int .i64 (.li 5), .int .u16 (.li 0), .int .u8 (.li 4)]⟩
def d2 : MC := ⟨15, [.int .u32 (.li 115)], .agg [.int .u8 (.li 52), .int .u8 (.li 0), .int .u8 (.li 0), .int .u8 (.li 0), .int .i64 (.li 0), .int .u16 (.li 0), .int .u8 (.li 4)]⟩
def l1 : MC := ⟨14, [d1.res], .tup [.str (.ls ⟨#[97, 100, 100, 105, 32, 120, 49, 44, 120, 48, 44, 53]⟩), .int .i64 (.li 0)]⟩
def l2 : MC := ⟨14, [d2.res], .tup [.str (.ls ⟨#[101, 99, 97, 108, 108]⟩), .int .i64 (.li 0)]⟩
theorem md1 : memoOk Tryz.prog Asm.Γl 5000 40 d1 = true := by kernel_rfl
theorem md2 : memoOk Tryz.prog Asm.Γl 5000 40 d2 = true := by kernel_rfl
theorem ml1 : memoOk Tryz.prog Asm.Γl 5000 40 l1 = true := by kernel_rfl
theorem ml2 : memoOk Tryz.prog Asm.Γl 5000 40 l2 = true := by kernel_rfl
theorem dec1 (w : World) : Calls Tryz.prog 15 #[.int .u32 5243027] w fun e w' => e = .returned (.agg #[.int .u8 22, .int .u8 1, .int .u8 0, .int .u8 0, .int .i64 5, .int .u16 0, .int .u8 4]) ∧ Below w.heap.size w w' :=
  plain_call (c := d1) (memo_of Asm.Γl_ok md1) (fun m ρ => by simp [d1, DV.RL, DV.R, E.ev, Sc.int_I]) (fun m ρ x hx => by
    simp [d1, DV.RL, DV.R, E.ev, Sc.int_I] at hx
    obtain ⟨vs, rfl, hx⟩ := hx
    exact congrArg Value.agg (Array.toList_inj.1 hx)) w
theorem dec2 (w : World) : Calls Tryz.prog 15 #[.int .u32 115] w fun e w' => e = .returned (.agg #[.int .u8 52, .int .u8 0, .int .u8 0, .int .u8 0, .int .i64 0, .int .u16 0, .int .u8 4]) ∧ Below w.heap.size w w' :=
  plain_call (c := d2) (memo_of Asm.Γl_ok md2) (fun m ρ => by simp [d2, DV.RL, DV.R, E.ev, Sc.int_I]) (fun m ρ x hx => by
    simp [d2, DV.RL, DV.R, E.ev, Sc.int_I] at hx
    obtain ⟨vs, rfl, hx⟩ := hx
    exact congrArg Value.agg (Array.toList_inj.1 hx)) w
theorem lin1 (w : World) : Calls Tryz.prog 14 #[.agg #[.int .u8 22, .int .u8 1, .int .u8 0, .int .u8 0, .int .i64 5, .int .u16 0, .int .u8 4]] w fun e w' => e = .returned (.tuple #[.string ⟨#[97, 100, 100, 105, 32, 120, 49, 44, 120, 48, 44, 53]⟩, .int .i64 0]) ∧ Below w.heap.size w w' :=
  plain_call (c := l1) (memo_of Asm.Γl_ok ml1) (fun m ρ => by simp [l1, d1, DV.RL, DV.R, E.ev, Sc.int_I]) (fun m ρ x hx => by
    simp [l1, DV.RL, DV.R, E.ev, Sc.int_I, Sc.str_S] at hx
    obtain ⟨vs, rfl, hx⟩ := hx
    exact congrArg Value.tuple (Array.toList_inj.1 hx)) w
theorem lin2 (w : World) : Calls Tryz.prog 14 #[.agg #[.int .u8 52, .int .u8 0, .int .u8 0, .int .u8 0, .int .i64 0, .int .u16 0, .int .u8 4]] w fun e w' => e = .returned (.tuple #[.string ⟨#[101, 99, 97, 108, 108]⟩, .int .i64 0]) ∧ Below w.heap.size w w' :=
  plain_call (c := l2) (memo_of Asm.Γl_ok ml2) (fun m ρ => by simp [l2, d2, DV.RL, DV.R, E.ev, Sc.int_I]) (fun m ρ x hx => by
    simp [l2, DV.RL, DV.R, E.ev, Sc.int_I, Sc.str_S] at hx
    obtain ⟨vs, rfl, hx⟩ := hx
    exact congrArg Value.tuple (Array.toList_inj.1 hx)) w
theorem bld_below {T e : TypeId} {B b : Nat} {bs : List Value} {W W' : World} (h : Lib.IsBuilderF T e B b bs W) (hb : Below W.heap.size W W') : Lib.IsBuilderF T e B b bs W' := by
  have key : ∀ p, Lib.BuilderAtF T e B b p bs W → Lib.BuilderAtF T e B b p bs W' := fun p h => by
    have hlt := h.lt
    obtain ⟨hB, v, h1, h2, h3⟩ := h
    refine ⟨hB, v, (hb.block b hlt).trans h1, ?_, h3⟩
    exact h2.kept (row := none) ⟨hb.os, hb.tape, hb.output, hb.size, fun k hk _ => hb.block k hk⟩ (by
      cases v.ownBlock <;> simp)
  exact h.imp (key _) (key _)
theorem below_mono {B B' : Nat} {a b : World} (h : Below B a b) (hB : B' ≤ B) : Below B' a b := ⟨h.os, h.tape, h.output, h.size, fun k hk => h.block k (by omega)⟩

set_option maxHeartbeats 2000000 in
theorem list1 (w : World) : Calls Tryz.prog 10 #[.string ⟨#[147, 0, 80, 0, 115, 0, 0, 0]⟩] w fun e w' => e = .returned (.tuple #[.string ⟨#[97, 100, 100, 105, 32, 120, 49, 44, 120, 48, 44, 53, 10, 101, 99, 97, 108, 108, 10]⟩, .int .i64 0]) ∧ Below w.heap.size w w' := by
  have h0 : Lib.IsBuilderF 49 5 w.heap.size w.heap.size (Lib.byteCells []) (w.alloc (.cells #[.pointer none, .slice none 0 0] 49)) := Lib.IsBuilderF.of (Lib.fresh_isBuilder 49 5 w)
  have b0 : Below w.heap.size w (w.alloc (.cells #[.pointer none, .slice none 0 0] 49)) := (Below.refl _ w).alloc (Nat.le_refl _) _
  have H0 := Lib.hid h0
  have B0 := Lib.hid b0
  clear h0 b0
  go_enter Tryz.func10, Tryz.ntmps10
  go_wp2_with fail
  go_loopw [5] (fun s wr => Hid (Below w.heap.size w wr) ∧ ((s = .string ⟨#[147, 0, 80, 0, 115, 0, 0, 0]⟩ ∧ Hid (Lib.IsBuilderF 49 5 w.heap.size w.heap.size (Lib.byteCells []) wr)) ∨
    (s = .string ⟨#[115, 0, 0, 0]⟩ ∧ Hid (Lib.IsBuilderF 49 5 w.heap.size w.heap.size (Lib.byteCells [97, 100, 100, 105, 32, 120, 49, 44, 120, 48, 44, 53, 10]) wr)) ∨
    (s = .string ⟨#[]⟩ ∧ Hid (Lib.IsBuilderF 49 5 w.heap.size w.heap.size (Lib.byteCells [97, 100, 100, 105, 32, 120, 49, 44, 120, 48, 44, 53, 10, 101, 99, 97, 108, 108, 10]) wr)))) (fun s _ => match s with | .string x => x.size | _ => 0)
  case atStart => exact ⟨B0, .inl ⟨rfl, H0⟩⟩
  case round =>
    obtain ⟨HW, ⟨rfl, HB⟩ | ⟨rfl, HB⟩ | ⟨rfl, HB⟩⟩ := hrel
    · go_wp2_with fail
      go_region
      go_wp2_with fail
      refine (dec1 _).mono ?_
      rintro e w1 ⟨rfl, hb1⟩
      have B1 := Lib.hid hb1
      clear hb1
      go_wp2_with fail
      refine (lin1 _).mono ?_
      rintro e w2 ⟨rfl, hb2⟩
      have hBw : w.heap.size ≤ w2.heap.size := Nat.le_trans HW.out.size (Nat.le_trans B1.out.size hb2.size)
      have HB2 := Lib.hid (bld_below (bld_below (HB.out.imp (·.drew) (·.drew)) B1.out) hb2)
      have HW2 := Lib.hid (HW.out.drew.trans ((below_mono B1.out HW.out.size).trans (below_mono hb2 (Nat.le_trans HW.out.size B1.out.size))))
      clear hb2 B1 HB HW
      go_wp2_with fail
      refine (Tryz.Builder_WriteString_f w.heap.size w.heap.size _ _ _ HB2.out (by decide) hBw).mono ?_
      rintro e w3 ⟨rfl, h3, b3⟩
      have H3 := Lib.hid (Or.inr h3 : Lib.IsBuilderF 49 5 w.heap.size w.heap.size _ w3)
      have HW3 := Lib.hid (HW2.out.trans b3)
      clear h3 b3 HB2 HW2 hBw
      go_wp2
      go_roundw
      case rel =>
        exact ⟨HW3, .inr (.inl ⟨rfl, H3⟩)⟩
      case measure => decide
    · go_wp2_with fail
      go_region
      go_wp2_with fail
      refine (dec2 _).mono ?_
      rintro e w1 ⟨rfl, hb1⟩
      have B1 := Lib.hid hb1
      clear hb1
      go_wp2_with fail
      refine (lin2 _).mono ?_
      rintro e w2 ⟨rfl, hb2⟩
      have hBw : w.heap.size ≤ w2.heap.size := Nat.le_trans HW.out.size (Nat.le_trans B1.out.size hb2.size)
      have HB2 := Lib.hid (bld_below (bld_below (HB.out.imp (·.drew) (·.drew)) B1.out) hb2)
      have HW2 := Lib.hid (HW.out.drew.trans ((below_mono B1.out HW.out.size).trans (below_mono hb2 (Nat.le_trans HW.out.size B1.out.size))))
      clear hb2 B1 HB HW
      go_wp2_with fail
      refine (Tryz.Builder_WriteString_f w.heap.size w.heap.size _ _ _ HB2.out (by decide) hBw).mono ?_
      rintro e w3 ⟨rfl, h3, b3⟩
      have H3 := Lib.hid (Or.inr h3 : Lib.IsBuilderF 49 5 w.heap.size w.heap.size _ w3)
      have HW3 := Lib.hid (HW2.out.trans b3)
      clear h3 b3 HB2 HW2 hBw
      go_wp2
      go_roundw
      case rel =>
        exact ⟨HW3, .inr (.inr ⟨rfl, H3⟩)⟩
      case measure => decide
    · have hBw : w.heap.size ≤ wr.heap.size := HW.out.size
      go_wp2_with fail
      refine (Tryz.Builder_String_any_f w.heap.size w.heap.size _ _ HB.out hBw).mono ?_
      rintro e W4 ⟨rfl, _, b4⟩
      have B4 := Lib.hid b4
      clear b4
      go_wp2
      go_ret2
      exact ⟨rfl, HW.out.trans B4.out⟩
def tL : MC := ⟨10, [.str (.ls ⟨#[147, 0, 80, 0, 115, 0, 0, 0]⟩)], .tup [.str (.ls ⟨#[97, 100, 100, 105, 32, 120, 49, 44, 120, 48, 44, 53, 10, 101, 99, 97, 108, 108, 10]⟩), .int .i64 (.li 0)]⟩
theorem mL : MemoG Tryz.prog G tL := fun ρ m w vs hvs _ _ => by
  simp [tL, DV.RL, DV.R, E.ev, Sc.str_S] at hvs
  obtain rfl : vs = #[.string ⟨#[147, 0, 80, 0, 115, 0, 0, 0]⟩] := Array.toList_inj.1 (by simpa using hvs)
  exact (list1 w).mono fun e w' ⟨he, hb⟩ => ⟨_, m, he, by simp [tL, DV.RL, DV.R, E.ev, Sc.int_I, Sc.str_S], hb⟩
def tT : MC := ⟨10, [.str (.ls ⟨#[147, 0]⟩)], .tup [.str (.ls ⟨#[]⟩), .int .i64 (.li 4)]⟩
theorem mT : memoGOk Tryz.prog G Γb 5000 60 tT = true := by kernel_rfl
end Go.Proofs.YtljdmppakiacdaaGreatDoor.AsmKnownDone
