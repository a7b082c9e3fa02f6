/- The lines that the law SystemEvents has parsed: what Parse answers. -/
import Derived.Test.YtcebboibpbbgdaaGreatDoorSystemEventsGC
namespace Go.Proofs.YtcebboibpbbgdaaGreatDoor.SystemEventsDone
open Go.Eng
def t0 : MC := ⟨41, [.str (.ls ⟨#[108, 117, 105, 32, 120, 53, 44, 54, 53, 53, 51, 54]⟩)], .tup [.agg [.int .u8 (.li 1), .int .u8 (.li 5), .int .u8 (.li 0), .int .u8 (.li 0), .int .i64 (.li 268435456), .int .u16 (.li 0), .int .u8 (.li 4)], .int .i64 (.li 0)]⟩
theorem m0 : memoGOk Tryz.prog G Γb 5000 80 t0 = true := by kernel_rfl
def t1 : MC := ⟨41, [.str (.ls ⟨#[108, 98, 117, 32, 120, 54, 44, 48, 40, 120, 53, 41]⟩)], .tup [.agg [.int .u8 (.li 15), .int .u8 (.li 6), .int .u8 (.li 5), .int .u8 (.li 0), .int .i64 (.li 0), .int .u16 (.li 0), .int .u8 (.li 4)], .int .i64 (.li 0)]⟩
theorem m1 : memoGOk Tryz.prog G Γb 5000 80 t1 = true := by kernel_rfl
def t2 : MC := ⟨41, [.str (.ls ⟨#[98, 101, 113, 32, 120, 54, 44, 120, 48, 44, 45, 52]⟩)], .tup [.agg [.int .u8 (.li 5), .int .u8 (.li 0), .int .u8 (.li 6), .int .u8 (.li 0), .int .i64 (.li (-4)), .int .u16 (.li 0), .int .u8 (.li 4)], .int .i64 (.li 0)]⟩
theorem m2 : memoGOk Tryz.prog G Γb 5000 80 t2 = true := by kernel_rfl
def t3 : MC := ⟨41, [.str (.ls ⟨#[115, 98, 32, 120, 54, 44, 48, 40, 120, 53, 41]⟩)], .tup [.agg [.int .u8 (.li 18), .int .u8 (.li 0), .int .u8 (.li 5), .int .u8 (.li 6), .int .i64 (.li 0), .int .u16 (.li 0), .int .u8 (.li 4)], .int .i64 (.li 0)]⟩
theorem m3 : memoGOk Tryz.prog G Γb 5000 80 t3 = true := by kernel_rfl
def t4 : MC := ⟨41, [.str (.ls ⟨#[106, 97, 108, 32, 120, 48, 44, 45, 49, 50]⟩)], .tup [.agg [.int .u8 (.li 3), .int .u8 (.li 0), .int .u8 (.li 0), .int .u8 (.li 0), .int .i64 (.li (-12)), .int .u16 (.li 0), .int .u8 (.li 4)], .int .i64 (.li 0)]⟩
theorem m4 : memoGOk Tryz.prog G Γb 5000 80 t4 = true := by kernel_rfl
def t5 : MC := ⟨41, [.str (.ls ⟨#[108, 117, 105, 32, 120, 55, 44, 52, 57, 49, 53, 50]⟩)], .tup [.agg [.int .u8 (.li 1), .int .u8 (.li 7), .int .u8 (.li 0), .int .u8 (.li 0), .int .i64 (.li 201326592), .int .u16 (.li 0), .int .u8 (.li 4)], .int .i64 (.li 0)]⟩
theorem m5 : memoGOk Tryz.prog G Γb 5000 80 t5 = true := by kernel_rfl
def t6 : MC := ⟨41, [.str (.ls ⟨#[97, 100, 100, 105, 32, 120, 54, 44, 120, 48, 44, 49]⟩)], .tup [.agg [.int .u8 (.li 22), .int .u8 (.li 6), .int .u8 (.li 0), .int .u8 (.li 0), .int .i64 (.li 1), .int .u16 (.li 0), .int .u8 (.li 4)], .int .i64 (.li 0)]⟩
theorem m6 : memoGOk Tryz.prog G Γb 5000 80 t6 = true := by kernel_rfl
def t7 : MC := ⟨41, [.str (.ls ⟨#[115, 119, 32, 120, 54, 44, 50, 48, 40, 120, 55, 41]⟩)], .tup [.agg [.int .u8 (.li 20), .int .u8 (.li 0), .int .u8 (.li 7), .int .u8 (.li 6), .int .i64 (.li 20), .int .u16 (.li 0), .int .u8 (.li 4)], .int .i64 (.li 0)]⟩
theorem m7 : memoGOk Tryz.prog G Γb 5000 80 t7 = true := by kernel_rfl
def t8 : MC := ⟨41, [.str (.ls ⟨#[108, 117, 105, 32, 120, 56, 44, 52, 57, 49, 53, 52]⟩)], .tup [.agg [.int .u8 (.li 1), .int .u8 (.li 8), .int .u8 (.li 0), .int .u8 (.li 0), .int .i64 (.li 201334784), .int .u16 (.li 0), .int .u8 (.li 4)], .int .i64 (.li 0)]⟩
theorem m8 : memoGOk Tryz.prog G Γb 5000 80 t8 = true := by kernel_rfl
def t9 : MC := ⟨41, [.str (.ls ⟨#[97, 100, 100, 105, 32, 120, 54, 44, 120, 48, 44, 51, 50]⟩)], .tup [.agg [.int .u8 (.li 22), .int .u8 (.li 6), .int .u8 (.li 0), .int .u8 (.li 0), .int .i64 (.li 32), .int .u16 (.li 0), .int .u8 (.li 4)], .int .i64 (.li 0)]⟩
theorem m9 : memoGOk Tryz.prog G Γb 5000 80 t9 = true := by kernel_rfl
def t10 : MC := ⟨41, [.str (.ls ⟨#[115, 119, 32, 120, 54, 44, 48, 40, 120, 56, 41]⟩)], .tup [.agg [.int .u8 (.li 20), .int .u8 (.li 0), .int .u8 (.li 8), .int .u8 (.li 6), .int .i64 (.li 0), .int .u16 (.li 0), .int .u8 (.li 4)], .int .i64 (.li 0)]⟩
theorem m10 : memoGOk Tryz.prog G Γb 5000 80 t10 = true := by kernel_rfl
def t11 : MC := ⟨41, [.str (.ls ⟨#[97, 117, 105, 112, 99, 32, 120, 57, 44, 48]⟩)], .tup [.agg [.int .u8 (.li 2), .int .u8 (.li 9), .int .u8 (.li 0), .int .u8 (.li 0), .int .i64 (.li 0), .int .u16 (.li 0), .int .u8 (.li 4)], .int .i64 (.li 0)]⟩
theorem m11 : memoGOk Tryz.prog G Γb 5000 80 t11 = true := by kernel_rfl
def t12 : MC := ⟨41, [.str (.ls ⟨#[97, 100, 100, 105, 32, 120, 57, 44, 120, 57, 44, 52, 48]⟩)], .tup [.agg [.int .u8 (.li 22), .int .u8 (.li 9), .int .u8 (.li 9), .int .u8 (.li 0), .int .i64 (.li 40), .int .u16 (.li 0), .int .u8 (.li 4)], .int .i64 (.li 0)]⟩
theorem m12 : memoGOk Tryz.prog G Γb 5000 80 t12 = true := by kernel_rfl
def t13 : MC := ⟨41, [.str (.ls ⟨#[99, 115, 114, 114, 119, 32, 120, 48, 44, 55, 55, 51, 44, 120, 57]⟩)], .tup [.agg [.int .u8 (.li 89), .int .u8 (.li 0), .int .u8 (.li 9), .int .u8 (.li 0), .int .i64 (.li 0), .int .u16 (.li 773), .int .u8 (.li 4)], .int .i64 (.li 0)]⟩
theorem m13 : memoGOk Tryz.prog G Γb 5000 80 t13 = true := by kernel_rfl
def t14 : MC := ⟨41, [.str (.ls ⟨#[108, 117, 105, 32, 120, 54, 44, 49]⟩)], .tup [.agg [.int .u8 (.li 1), .int .u8 (.li 6), .int .u8 (.li 0), .int .u8 (.li 0), .int .i64 (.li 4096), .int .u16 (.li 0), .int .u8 (.li 4)], .int .i64 (.li 0)]⟩
theorem m14 : memoGOk Tryz.prog G Γb 5000 80 t14 = true := by kernel_rfl
def t15 : MC := ⟨41, [.str (.ls ⟨#[97, 100, 100, 105, 32, 120, 54, 44, 120, 54, 44, 45, 50, 48, 52, 56]⟩)], .tup [.agg [.int .u8 (.li 22), .int .u8 (.li 6), .int .u8 (.li 6), .int .u8 (.li 0), .int .i64 (.li (-2048)), .int .u16 (.li 0), .int .u8 (.li 4)], .int .i64 (.li 0)]⟩
theorem m15 : memoGOk Tryz.prog G Γb 5000 80 t15 = true := by kernel_rfl
def t16 : MC := ⟨41, [.str (.ls ⟨#[99, 115, 114, 114, 115, 32, 120, 48, 44, 55, 55, 50, 44, 120, 54]⟩)], .tup [.agg [.int .u8 (.li 90), .int .u8 (.li 0), .int .u8 (.li 6), .int .u8 (.li 0), .int .i64 (.li 0), .int .u16 (.li 772), .int .u8 (.li 4)], .int .i64 (.li 0)]⟩
theorem m16 : memoGOk Tryz.prog G Γb 5000 80 t16 = true := by kernel_rfl
def t17 : MC := ⟨41, [.str (.ls ⟨#[99, 115, 114, 114, 115, 105, 32, 120, 48, 44, 55, 54, 56, 44, 56]⟩)], .tup [.agg [.int .u8 (.li 93), .int .u8 (.li 0), .int .u8 (.li 0), .int .u8 (.li 0), .int .i64 (.li 8), .int .u16 (.li 768), .int .u8 (.li 4)], .int .i64 (.li 0)]⟩
theorem m17 : memoGOk Tryz.prog G Γb 5000 80 t17 = true := by kernel_rfl
def t18 : MC := ⟨41, [.str (.ls ⟨#[119, 102, 105]⟩)], .tup [.agg [.int .u8 (.li 97), .int .u8 (.li 0), .int .u8 (.li 0), .int .u8 (.li 0), .int .i64 (.li 0), .int .u16 (.li 0), .int .u8 (.li 4)], .int .i64 (.li 0)]⟩
theorem m18 : memoGOk Tryz.prog G Γb 5000 80 t18 = true := by kernel_rfl
def t19 : MC := ⟨41, [.str (.ls ⟨#[106, 97, 108, 32, 120, 48, 44, 45, 52]⟩)], .tup [.agg [.int .u8 (.li 3), .int .u8 (.li 0), .int .u8 (.li 0), .int .u8 (.li 0), .int .i64 (.li (-4)), .int .u16 (.li 0), .int .u8 (.li 4)], .int .i64 (.li 0)]⟩
theorem m19 : memoGOk Tryz.prog G Γb 5000 80 t19 = true := by kernel_rfl
def t20 : MC := ⟨41, [.str (.ls ⟨#[46, 119, 111, 114, 100, 32, 48]⟩)], .tup [.agg [.int .u8 (.li 0), .int .u8 (.li 0), .int .u8 (.li 0), .int .u8 (.li 0), .int .i64 (.li 0), .int .u16 (.li 0), .int .u8 (.li 4)], .int .i64 (.li 0)]⟩
theorem m20 : memoGOk Tryz.prog G Γb 5000 80 t20 = true := by kernel_rfl
def t21 : MC := ⟨41, [.str (.ls ⟨#[97, 100, 100, 105, 32, 120, 54, 44, 120, 48, 44, 51, 51]⟩)], .tup [.agg [.int .u8 (.li 22), .int .u8 (.li 6), .int .u8 (.li 0), .int .u8 (.li 0), .int .i64 (.li 33), .int .u16 (.li 0), .int .u8 (.li 4)], .int .i64 (.li 0)]⟩
theorem m21 : memoGOk Tryz.prog G Γb 5000 80 t21 = true := by kernel_rfl
def t22 : MC := ⟨41, [.str (.ls ⟨#[106, 97, 108, 32, 120, 48, 44, 48]⟩)], .tup [.agg [.int .u8 (.li 3), .int .u8 (.li 0), .int .u8 (.li 0), .int .u8 (.li 0), .int .i64 (.li 0), .int .u16 (.li 0), .int .u8 (.li 4)], .int .i64 (.li 0)]⟩
theorem m22 : memoGOk Tryz.prog G Γb 5000 80 t22 = true := by kernel_rfl
def t23 : MC := ⟨41, [.str (.ls ⟨#[97, 100, 100, 105, 32, 120, 54, 44, 120, 48, 44, 57, 55]⟩)], .tup [.agg [.int .u8 (.li 22), .int .u8 (.li 6), .int .u8 (.li 0), .int .u8 (.li 0), .int .i64 (.li 97), .int .u16 (.li 0), .int .u8 (.li 4)], .int .i64 (.li 0)]⟩
theorem m23 : memoGOk Tryz.prog G Γb 5000 80 t23 = true := by kernel_rfl
def lP : List MC := [t0, t1, t2, t3, t4, t5, t6, t7, t8, t9, t10, t11, t12, t13, t14, t15, t16, t17, t18, t19, t20, t21, t22, t23]
theorem lP_ok : ∀ c ∈ lP, MemoG Tryz.prog G c := by
  simp only [lP, List.forall_mem_cons, List.not_mem_nil, false_implies, implies_true, and_true]
  exact ⟨memoG_of Γb_ok m0, memoG_of Γb_ok m1, memoG_of Γb_ok m2, memoG_of Γb_ok m3, memoG_of Γb_ok m4, memoG_of Γb_ok m5, memoG_of Γb_ok m6, memoG_of Γb_ok m7, memoG_of Γb_ok m8, memoG_of Γb_ok m9, memoG_of Γb_ok m10, memoG_of Γb_ok m11, memoG_of Γb_ok m12, memoG_of Γb_ok m13, memoG_of Γb_ok m14, memoG_of Γb_ok m15, memoG_of Γb_ok m16, memoG_of Γb_ok m17, memoG_of Γb_ok m18, memoG_of Γb_ok m19, memoG_of Γb_ok m20, memoG_of Γb_ok m21, memoG_of Γb_ok m22, memoG_of Γb_ok m23⟩
def libsP : List (FuncId × CallD) := [(41, memoGC G 41 lP)]
theorem libsP_ok (F : Facts) : ∀ p ∈ libsP, CallCOk Tryz.prog F p.1 p.2 := by
  simp only [libsP, List.forall_mem_cons, List.not_mem_nil, false_implies, implies_true, and_true]
  exact memoGC_ok lP_ok
noncomputable def Γp : Facts → FuncId → Option CallD := ΓN libsP Γb
theorem Γp_ok : ∀ F : Facts, ΓOk Tryz.prog F (Γp F) := ΓN_ok libsP_ok Γb_ok
end Go.Proofs.YtcebboibpbbgdaaGreatDoor.SystemEventsDone
