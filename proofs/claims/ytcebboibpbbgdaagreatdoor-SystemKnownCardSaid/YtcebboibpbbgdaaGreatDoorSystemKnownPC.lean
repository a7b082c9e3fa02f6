/- The lines that the law SystemKnown has parsed: what Parse answers. -/
import Derived.Test.YtcebboibpbbgdaaGreatDoorSystemKnownGC
namespace Go.Proofs.YtcebboibpbbgdaaGreatDoor.SystemKnownDone
open Go.Eng
def t0 : MC := ⟨41, [.str (.ls ⟨#[108, 117, 105, 32, 120, 53, 44, 54, 53, 53, 51, 54]⟩)], .tup [.agg [.int .u8 (.li 1), .int .u8 (.li 5), .int .u8 (.li 0), .int .u8 (.li 0), .int .i64 (.li 268435456), .int .u16 (.li 0), .int .u8 (.li 4)], .int .i64 (.li 0)]⟩
theorem m0 : memoGOk Tryz.prog G Γb 5000 80 t0 = true := by kernel_rfl
def t1 : MC := ⟨41, [.str (.ls ⟨#[97, 100, 100, 105, 32, 120, 54, 44, 120, 48, 44, 57, 55]⟩)], .tup [.agg [.int .u8 (.li 22), .int .u8 (.li 6), .int .u8 (.li 0), .int .u8 (.li 0), .int .i64 (.li 97), .int .u16 (.li 0), .int .u8 (.li 4)], .int .i64 (.li 0)]⟩
theorem m1 : memoGOk Tryz.prog G Γb 5000 80 t1 = true := by kernel_rfl
def t2 : MC := ⟨41, [.str (.ls ⟨#[115, 98, 32, 120, 54, 44, 48, 40, 120, 53, 41]⟩)], .tup [.agg [.int .u8 (.li 18), .int .u8 (.li 0), .int .u8 (.li 5), .int .u8 (.li 6), .int .i64 (.li 0), .int .u16 (.li 0), .int .u8 (.li 4)], .int .i64 (.li 0)]⟩
theorem m2 : memoGOk Tryz.prog G Γb 5000 80 t2 = true := by kernel_rfl
def t3 : MC := ⟨41, [.str (.ls ⟨#[46, 119, 111, 114, 100, 32, 48]⟩)], .tup [.agg [.int .u8 (.li 0), .int .u8 (.li 0), .int .u8 (.li 0), .int .u8 (.li 0), .int .i64 (.li 0), .int .u16 (.li 0), .int .u8 (.li 4)], .int .i64 (.li 0)]⟩
theorem m3 : memoGOk Tryz.prog G Γb 5000 80 t3 = true := by kernel_rfl
def t4 : MC := ⟨41, [.str (.ls ⟨#[119, 102, 105]⟩)], .tup [.agg [.int .u8 (.li 97), .int .u8 (.li 0), .int .u8 (.li 0), .int .u8 (.li 0), .int .i64 (.li 0), .int .u16 (.li 0), .int .u8 (.li 4)], .int .i64 (.li 0)]⟩
theorem m4 : memoGOk Tryz.prog G Γb 5000 80 t4 = true := by kernel_rfl
def lP : List MC := [t0, t1, t2, t3, t4]
theorem lP_ok : ∀ c ∈ lP, MemoG Tryz.prog G c := by
  simp only [lP, List.forall_mem_cons, List.not_mem_nil, false_implies, implies_true, and_true]
  exact ⟨memoG_of Γb_ok m0, memoG_of Γb_ok m1, memoG_of Γb_ok m2, memoG_of Γb_ok m3, memoG_of Γb_ok m4⟩
def libsP : List (FuncId × CallD) := [(41, memoGC G 41 lP)]
theorem libsP_ok (F : Facts) : ∀ p ∈ libsP, CallCOk Tryz.prog F p.1 p.2 := by
  simp only [libsP, List.forall_mem_cons, List.not_mem_nil, false_implies, implies_true, and_true]
  exact memoGC_ok lP_ok
noncomputable def Γp : Facts → FuncId → Option CallD := ΓN libsP Γb
theorem Γp_ok : ∀ F : Facts, ΓOk Tryz.prog F (Γp F) := ΓN_ok libsP_ok Γb_ok
end Go.Proofs.YtcebboibpbbgdaaGreatDoor.SystemKnownDone
