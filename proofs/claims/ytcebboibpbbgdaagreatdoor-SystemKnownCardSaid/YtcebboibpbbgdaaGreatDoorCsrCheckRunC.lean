/- What csr.Check answers: whether each field of a state is what would be kept of it; the loop over the map of fields goes in whatever order. -/
import Derived.Test.YtcebboibpbbgdaaGreatDoorProg
import Derived.Test.YtcebboibpbbgdaaGreatDoorEngG14
namespace Go.Proofs.YtcebboibpbbgdaaGreatDoor.Csr
open Go.Eng Go.RowKit

def idx : List Nat := [1, 5, 6, 2, 7, 12, 11, 8, 9, 10, 3, 13, 18, 17, 14, 15, 16, 19]
def fld (i : Nat) : DV := .int .u64 (if i = 0 ∨ i = 20 ∨ i = 21 then .vr i else if i = 4 then .bi (.bits .and .u64) (.vr 4) (.li 2696) else match idx.findIdx? (· == i) with | some j => .vr (60 + j) | none => .li 0)
def regs : List Nat := [768,770,771,772,773,774,832,833,834,835,836,261,262,320,321,322,323,384]
def es : List (DV × DV) := (regs.zip idx).map fun p => (.int .u16 (.li p.1), .int .u64 (.vr p.2))
def seen : List E := (List.range 18).map fun i => .vr (100 + i)
def tm0 : Tm := { tmps := [(1, .ptr 0 ⟨0, []⟩), (2, .int .i64 (.li 0)), (3, .ptr 1 ⟨0, []⟩), (57, .mp 2), (58, .ptr 3 ⟨0, []⟩)], heap := [(0, .cells ((List.range 31).map fun i => .int .u64 (.vr i)) 177 .rw), (1, .cells ((List.range 31).map fld) 177 .rw), (2, .mpb es), (3, .itb 2 seen none)], next := 4, sz := 92 }
def ks14 : List AK := [.agg (List.replicate 31 (.int .u64))]
/-- What a write leaves in each field, by the order of the map; the last one's old number is variable 77. -/
def news : List E := [(.tr .ite (.bi .eqi (.bi (.bits .and .u64) (.bi (.bits .and .u64) (.vr 1) (.li 8264106)) (.li 6144)) (.li 4096)) (.bi (.bits .andNot .u64) (.bi (.bits .and .u64) (.vr 1) (.li 8264106)) (.li 6144)) (.bi (.bits .and .u64) (.vr 1) (.li 8264106))),
  (.bi (.bits .and .u64) (.vr 5) (.li 46079)),
  (.bi (.bits .and .u64) (.vr 6) (.li 546)),
  (.bi (.bits .and .u64) (.vr 2) (.li 2730)),
  (.bi (.bits .and .u64) (.vr 7) (.li 18446744073709551613)),
  (.bi (.bits .and .u64) (.vr 12) (.li 7)),
  (.bi (.bits .and .u64) (.vr 11) (.li 18446744073709551615)),
  (.bi (.bits .and .u64) (.vr 8) (.li 18446744073709551614)),
  (.bi (.bits .and .u64) (.vr 9) (.li 18446744073709551615)),
  (.bi (.bits .and .u64) (.vr 10) (.li 18446744073709551615)),
  (.bi (.bits .and .u64) (.vr 3) (.li 546)),
  (.bi (.bits .and .u64) (.vr 13) (.li 18446744073709551613)),
  (.bi (.bits .and .u64) (.vr 18) (.li 7)),
  (.bi (.bits .and .u64) (.vr 17) (.li 18446744073709551615)),
  (.bi (.bits .and .u64) (.vr 14) (.li 18446744073709551614)),
  (.bi (.bits .and .u64) (.vr 15) (.li 18446744073709551615)),
  (.bi (.bits .and .u64) (.vr 16) (.li 18446744073709551615)),
  (.tr .ite (.bi .or (.bi .eqi (.bi .fdiv (.vr 19) (.li 1152921504606846976)) (.li 0)) (.bi .eqi (.bi .fdiv (.vr 19) (.li 1152921504606846976)) (.li 8))) (.vr 19) (.vr 77))]
def cEnd : E := (.un .not (.bi .and (.bi .eqi (.vr 60) (.vr 1)) (.bi .and (.bi .eqi (.vr 63) (.vr 2)) (.bi .and (.bi .eqi (.vr 70) (.vr 3)) (.bi .and (.bi .eqi (.bi (.bits .and .u64) (.vr 4) (.li 2696)) (.vr 4)) (.bi .and (.bi .eqi (.vr 61) (.vr 5)) (.bi .and (.bi .eqi (.vr 62) (.vr 6)) (.bi .and (.bi .eqi (.vr 64) (.vr 7)) (.bi .and (.bi .eqi (.vr 67) (.vr 8)) (.bi .and (.bi .eqi (.vr 68) (.vr 9)) (.bi .and (.bi .eqi (.vr 69) (.vr 10)) (.bi .and (.bi .eqi (.vr 66) (.vr 11)) (.bi .and (.bi .eqi (.vr 65) (.vr 12)) (.bi .and (.bi .eqi (.vr 71) (.vr 13)) (.bi .and (.bi .eqi (.vr 74) (.vr 14)) (.bi .and (.bi .eqi (.vr 75) (.vr 15)) (.bi .and (.bi .eqi (.vr 76) (.vr 16)) (.bi .and (.bi .eqi (.vr 73) (.vr 17)) (.bi .and (.bi .eqi (.vr 72) (.vr 18)) (.bi .and (.bi .eqi (.vr 77) (.vr 19)) (.bi .and (.bi .eqi (.bi (.bits .or .u64) (.bi (.bits .or .u64) (.bi (.bits .or .u64) (.bi (.bits .or .u64) (.bi (.bits .or .u64) (.bi (.bits .or .u64) (.bi (.bits .or .u64) (.bi (.bits .or .u64) (.li 0) (.tr .ite (.bi .eqi (.bi (.bits .and .u8) (.bi (.bits .andNot .u8) (.un (.wrap .u8) (.bi .fdiv (.vr 22) (.li 1))) (.li 96)) (.li 1)) (.li 0)) (.bi (.bits .andNot .u8) (.bi (.bits .andNot .u8) (.un (.wrap .u8) (.bi .fdiv (.vr 22) (.li 1))) (.li 96)) (.li 2)) (.bi (.bits .andNot .u8) (.un (.wrap .u8) (.bi .fdiv (.vr 22) (.li 1))) (.li 96)))) (.bi .mul (.tr .ite (.bi .eqi (.bi (.bits .and .u8) (.bi (.bits .andNot .u8) (.un (.wrap .u8) (.bi .fdiv (.vr 22) (.li 256))) (.li 96)) (.li 1)) (.li 0)) (.bi (.bits .andNot .u8) (.bi (.bits .andNot .u8) (.un (.wrap .u8) (.bi .fdiv (.vr 22) (.li 256))) (.li 96)) (.li 2)) (.bi (.bits .andNot .u8) (.un (.wrap .u8) (.bi .fdiv (.vr 22) (.li 256))) (.li 96))) (.li 256))) (.bi .mul (.tr .ite (.bi .eqi (.bi (.bits .and .u8) (.bi (.bits .andNot .u8) (.un (.wrap .u8) (.bi .fdiv (.vr 22) (.li 65536))) (.li 96)) (.li 1)) (.li 0)) (.bi (.bits .andNot .u8) (.bi (.bits .andNot .u8) (.un (.wrap .u8) (.bi .fdiv (.vr 22) (.li 65536))) (.li 96)) (.li 2)) (.bi (.bits .andNot .u8) (.un (.wrap .u8) (.bi .fdiv (.vr 22) (.li 65536))) (.li 96))) (.li 65536))) (.bi .mul (.tr .ite (.bi .eqi (.bi (.bits .and .u8) (.bi (.bits .andNot .u8) (.un (.wrap .u8) (.bi .fdiv (.vr 22) (.li 16777216))) (.li 96)) (.li 1)) (.li 0)) (.bi (.bits .andNot .u8) (.bi (.bits .andNot .u8) (.un (.wrap .u8) (.bi .fdiv (.vr 22) (.li 16777216))) (.li 96)) (.li 2)) (.bi (.bits .andNot .u8) (.un (.wrap .u8) (.bi .fdiv (.vr 22) (.li 16777216))) (.li 96))) (.li 16777216))) (.bi .mul (.tr .ite (.bi .eqi (.bi (.bits .and .u8) (.bi (.bits .andNot .u8) (.un (.wrap .u8) (.bi .fdiv (.vr 22) (.li 4294967296))) (.li 96)) (.li 1)) (.li 0)) (.bi (.bits .andNot .u8) (.bi (.bits .andNot .u8) (.un (.wrap .u8) (.bi .fdiv (.vr 22) (.li 4294967296))) (.li 96)) (.li 2)) (.bi (.bits .andNot .u8) (.un (.wrap .u8) (.bi .fdiv (.vr 22) (.li 4294967296))) (.li 96))) (.li 4294967296))) (.bi .mul (.tr .ite (.bi .eqi (.bi (.bits .and .u8) (.bi (.bits .andNot .u8) (.un (.wrap .u8) (.bi .fdiv (.vr 22) (.li 1099511627776))) (.li 96)) (.li 1)) (.li 0)) (.bi (.bits .andNot .u8) (.bi (.bits .andNot .u8) (.un (.wrap .u8) (.bi .fdiv (.vr 22) (.li 1099511627776))) (.li 96)) (.li 2)) (.bi (.bits .andNot .u8) (.un (.wrap .u8) (.bi .fdiv (.vr 22) (.li 1099511627776))) (.li 96))) (.li 1099511627776))) (.bi .mul (.tr .ite (.bi .eqi (.bi (.bits .and .u8) (.bi (.bits .andNot .u8) (.un (.wrap .u8) (.bi .fdiv (.vr 22) (.li 281474976710656))) (.li 96)) (.li 1)) (.li 0)) (.bi (.bits .andNot .u8) (.bi (.bits .andNot .u8) (.un (.wrap .u8) (.bi .fdiv (.vr 22) (.li 281474976710656))) (.li 96)) (.li 2)) (.bi (.bits .andNot .u8) (.un (.wrap .u8) (.bi .fdiv (.vr 22) (.li 281474976710656))) (.li 96))) (.li 281474976710656))) (.bi .mul (.tr .ite (.bi .eqi (.bi (.bits .and .u8) (.bi (.bits .andNot .u8) (.bi .fdiv (.vr 22) (.li 72057594037927936)) (.li 96)) (.li 1)) (.li 0)) (.bi (.bits .andNot .u8) (.bi (.bits .andNot .u8) (.bi .fdiv (.vr 22) (.li 72057594037927936)) (.li 96)) (.li 2)) (.bi (.bits .andNot .u8) (.bi .fdiv (.vr 22) (.li 72057594037927936)) (.li 96))) (.li 72057594037927936))) (.vr 22)) (.bi .and (.bi .eqi (.bi (.bits .and .u64) (.vr 23) (.li 18014398509481983)) (.vr 23)) (.bi .and (.bi .eqi (.bi (.bits .and .u64) (.vr 24) (.li 18014398509481983)) (.vr 24)) (.bi .and (.bi .eqi (.bi (.bits .and .u64) (.vr 25) (.li 18014398509481983)) (.vr 25)) (.bi .and (.bi .eqi (.bi (.bits .and .u64) (.vr 26) (.li 18014398509481983)) (.vr 26)) (.bi .and (.bi .eqi (.bi (.bits .and .u64) (.vr 27) (.li 18014398509481983)) (.vr 27)) (.bi .and (.bi .eqi (.bi (.bits .and .u64) (.vr 28) (.li 18014398509481983)) (.vr 28)) (.bi .and (.bi .eqi (.bi (.bits .and .u64) (.vr 29) (.li 18014398509481983)) (.vr 29)) (.bi .eqi (.bi (.bits .and .u64) (.vr 30) (.li 18014398509481983)) (.vr 30))))))))))))))))))))))))))))))
def fin0 : T E := T.ofList ((List.range 18).map fun i => (60 + i, if i = 17 then (news.getD 17 (.li 0)).sub (T.ofList [(77, .li 0)]) else news.getD i (.li 0)))
def cAll : E := cEnd.sub fin0
def res14 : DV := .int .i64 (.tr .ite cAll (.li 3) (.li 0))
def alt (i : Nat) : PL := .go 0 [(100 + i, .lb true), (60 + i, news.getD i (.li 0))] []
def planE : PL := .go 0 ((List.range 18).flatMap fun i => [(100 + i, .lb false), (60 + i, .li 0)]) []
def rp0 : List Nat := [0, 1, 0, 1, 1]
def FP : Facts := { bnds := kdB (aksK ks14) 0, sem := fun _ => True }
def pt0 : Pt := { rp := rp0, tm := tm0, facts := FP, plan := .node cEnd (.retd (.int .i64 (.li 3))) (.retd (.int .i64 (.li 0))), seen := seen, alts := (List.range 18).map alt }
def pts : List Pt := [pt0]
noncomputable def root : Code := (Tryz.f368.body).getD .skip
theorem runE : PL.run (seg Tryz.prog (fun _ => Γ0) 6005000 50 (pts.map (·.rp)) (.code root []) [] ⟨argsT 0 (aksDV ks14 0), .nil, 0, Tryz.f368.ntmps, []⟩) (finTrue Tryz.prog Tryz.f368) pts FP planE = true := by kernel_rfl
theorem runP : ptOk Tryz.prog (fun _ => Γ0) 6005000 50 root Tryz.f368 pts pt0 = true := by kernel_rfl
end Go.Proofs.YtcebboibpbbgdaaGreatDoor.Csr
