/- The contract of csr.Check, as the law CoreKnown's run asks for it. -/
import Derived.Test.YtmlimbddbcmmpaaGreatDoorCsrCheckC
import Derived.Test.YtmlimbddbcmmpaaGreatDoorEngG13
import Derived.Test.YtmlimbddbcmmpaaGreatDoorEngG10
namespace Go.Proofs.YtmlimbddbcmmpaaGreatDoor.CoreKnownDone
open Go.Eng
def lc : List PC := [⟨38, Csr.ks14, Csr.res14⟩]
theorem lc_ok : ∀ c ∈ lc, PureA Tryz.prog c.f c.ks c.res := fun c hm => by rw [List.mem_singleton.1 hm]; exact Csr.check_pure
def t0 : MC := ⟨290, [.int .u64 (.li 0), .agg [.int .u64 (.li 0), .int .u64 (.li 0), .int .u64 (.li 0), .int .u64 (.li 0), .int .u64 (.li 0), .int .u64 (.li 0), .int .u64 (.li 0), .int .u64 (.li 0)], .agg [.int .u8 (.li 3), .int .u8 (.li 0), .int .u64 (.li 2147483648), .int .i64 (.li 2)]], .bool (.lb true)⟩
theorem m0 : memoOk Tryz.prog (fun _ => Γ0) 5000 60 t0 = true := by kernel_rfl
def t1 : MC := ⟨290, [.int .u64 (.li 0), .agg [.int .u64 (.li 0), .int .u64 (.li 0), .int .u64 (.li 0), .int .u64 (.li 0), .int .u64 (.li 0), .int .u64 (.li 0), .int .u64 (.li 0), .int .u64 (.li 0)], .agg [.int .u8 (.li 3), .int .u8 (.li 0), .int .u64 (.li 2147483650), .int .i64 (.li 2)]], .bool (.lb true)⟩
theorem m1 : memoOk Tryz.prog (fun _ => Γ0) 5000 60 t1 = true := by kernel_rfl
def t2 : MC := ⟨62, [.int .u32 (.li 5243027)], .agg [.int .u8 (.li 22), .int .u8 (.li 1), .int .u8 (.li 0), .int .u8 (.li 0), .int .i64 (.li 5), .int .u16 (.li 0), .int .u8 (.li 4)]⟩
theorem m2 : memoOk Tryz.prog (fun _ => Γ0) 5000 60 t2 = true := by kernel_rfl
def t3 : MC := ⟨290, [.int .u64 (.li 0), .agg [.int .u64 (.li 0), .int .u64 (.li 0), .int .u64 (.li 0), .int .u64 (.li 0), .int .u64 (.li 0), .int .u64 (.li 0), .int .u64 (.li 0), .int .u64 (.li 0)], .agg [.int .u8 (.li 3), .int .u8 (.li 0), .int .u64 (.li 2147483652), .int .i64 (.li 2)]], .bool (.lb true)⟩
theorem m3 : memoOk Tryz.prog (fun _ => Γ0) 5000 60 t3 = true := by kernel_rfl
def t4 : MC := ⟨290, [.int .u64 (.li 0), .agg [.int .u64 (.li 0), .int .u64 (.li 0), .int .u64 (.li 0), .int .u64 (.li 0), .int .u64 (.li 0), .int .u64 (.li 0), .int .u64 (.li 0), .int .u64 (.li 0)], .agg [.int .u8 (.li 3), .int .u8 (.li 0), .int .u64 (.li 2147483654), .int .i64 (.li 2)]], .bool (.lb true)⟩
theorem m4 : memoOk Tryz.prog (fun _ => Γ0) 5000 60 t4 = true := by kernel_rfl
def t5 : MC := ⟨62, [.int .u32 (.li 810586227)], .agg [.int .u8 (.li 89), .int .u8 (.li 0), .int .u8 (.li 1), .int .u8 (.li 0), .int .i64 (.li 0), .int .u16 (.li 773), .int .u8 (.li 4)]⟩
theorem m5 : memoOk Tryz.prog (fun _ => Γ0) 5000 60 t5 = true := by kernel_rfl
def t6 : MC := ⟨290, [.int .u64 (.li 0), .agg [.int .u64 (.li 0), .int .u64 (.li 0), .int .u64 (.li 0), .int .u64 (.li 0), .int .u64 (.li 0), .int .u64 (.li 0), .int .u64 (.li 0), .int .u64 (.li 0)], .agg [.int .u8 (.li 3), .int .u8 (.li 0), .int .u64 (.li 2147483656), .int .i64 (.li 2)]], .bool (.lb true)⟩
theorem m6 : memoOk Tryz.prog (fun _ => Γ0) 5000 60 t6 = true := by kernel_rfl
def t7 : MC := ⟨61, [.int .u16 (.li 0)], .agg [.int .u8 (.li 0), .int .u8 (.li 0), .int .u8 (.li 0), .int .u8 (.li 0), .int .i64 (.li 0), .int .u16 (.li 0), .int .u8 (.li 2)]⟩
theorem m7 : memoOk Tryz.prog (fun _ => Γ0) 5000 60 t7 = true := by kernel_rfl
def t8 : MC := ⟨62, [.int .u32 (.li 273678451)], .agg [.int .u8 (.li 97), .int .u8 (.li 0), .int .u8 (.li 0), .int .u8 (.li 0), .int .i64 (.li 0), .int .u16 (.li 0), .int .u8 (.li 4)]⟩
theorem m8 : memoOk Tryz.prog (fun _ => Γ0) 5000 60 t8 = true := by kernel_rfl
def t9 : MC := ⟨62, [.int .u32 (.li 115)], .agg [.int .u8 (.li 52), .int .u8 (.li 0), .int .u8 (.li 0), .int .u8 (.li 0), .int .i64 (.li 0), .int .u16 (.li 0), .int .u8 (.li 4)]⟩
theorem m9 : memoOk Tryz.prog (fun _ => Γ0) 5000 60 t9 = true := by kernel_rfl
def t10 : MC := ⟨62, [.int .u32 (.li 2954891507)], .agg [.int .u8 (.li 89), .int .u8 (.li 1), .int .u8 (.li 0), .int .u8 (.li 0), .int .i64 (.li 0), .int .u16 (.li 2818), .int .u8 (.li 4)]⟩
theorem m10 : memoOk Tryz.prog (fun _ => Γ0) 5000 60 t10 = true := by kernel_rfl
def t11 : MC := ⟨62, [.int .u32 (.li 2954895603)], .agg [.int .u8 (.li 90), .int .u8 (.li 1), .int .u8 (.li 0), .int .u8 (.li 0), .int .i64 (.li 0), .int .u16 (.li 2818), .int .u8 (.li 4)]⟩
theorem m11 : memoOk Tryz.prog (fun _ => Γ0) 5000 60 t11 = true := by kernel_rfl
def t12 : MC := ⟨62, [.int .u32 (.li 3)], .agg [.int .u8 (.li 11), .int .u8 (.li 0), .int .u8 (.li 0), .int .u8 (.li 0), .int .i64 (.li 0), .int .u16 (.li 0), .int .u8 (.li 4)]⟩
theorem m12 : memoOk Tryz.prog (fun _ => Γ0) 5000 60 t12 = true := by kernel_rfl
def t13 : MC := ⟨290, [.int .u64 (.li 0), .agg [.int .u64 (.li 0), .int .u64 (.li 0), .int .u64 (.li 0), .int .u64 (.li 0), .int .u64 (.li 0), .int .u64 (.li 0), .int .u64 (.li 0), .int .u64 (.li 0)], .agg [.int .u8 (.li 3), .int .u8 (.li 1), .int .u64 (.li 0), .int .i64 (.li 1)]], .bool (.lb true)⟩
theorem m13 : memoOk Tryz.prog (fun _ => Γ0) 5000 60 t13 = true := by kernel_rfl
def t14 : MC := ⟨61, [.int .u16 (.li 17673)], .agg [.int .u8 (.li 22), .int .u8 (.li 10), .int .u8 (.li 0), .int .u8 (.li 0), .int .i64 (.li 2), .int .u16 (.li 0), .int .u8 (.li 2)]⟩
theorem m14 : memoOk Tryz.prog (fun _ => Γ0) 5000 60 t14 = true := by kernel_rfl
def t15 : MC := ⟨61, [.int .u16 (.li 1301)], .agg [.int .u8 (.li 22), .int .u8 (.li 10), .int .u8 (.li 10), .int .u8 (.li 0), .int .i64 (.li 5), .int .u16 (.li 0), .int .u8 (.li 2)]⟩
theorem m15 : memoOk Tryz.prog (fun _ => Γ0) 5000 60 t15 = true := by kernel_rfl
def t16 : MC := ⟨61, [.int .u16 (.li 38190)], .agg [.int .u8 (.li 31), .int .u8 (.li 10), .int .u8 (.li 10), .int .u8 (.li 11), .int .i64 (.li 0), .int .u16 (.li 0), .int .u8 (.li 2)]⟩
theorem m16 : memoOk Tryz.prog (fun _ => Γ0) 5000 60 t16 = true := by kernel_rfl
def t17 : MC := ⟨290, [.int .u64 (.li 0), .agg [.int .u64 (.li 0), .int .u64 (.li 0), .int .u64 (.li 0), .int .u64 (.li 0), .int .u64 (.li 0), .int .u64 (.li 0), .int .u64 (.li 0), .int .u64 (.li 0)], .agg [.int .u8 (.li 3), .int .u8 (.li 0), .int .u64 (.li 0), .int .i64 (.li 2)]], .bool (.lb true)⟩
theorem m17 : memoOk Tryz.prog (fun _ => Γ0) 5000 60 t17 = true := by kernel_rfl
def told : List MC := [t0, t1, t2, t3, t4, t5, t6, t7, t8, t9, t10, t11, t12, t13, t14, t15, t16, t17]
theorem told_ok : ∀ c ∈ told, Memo Tryz.prog c := by
  simp only [told, List.forall_mem_cons, List.not_mem_nil, false_implies, implies_true, and_true]
  exact ⟨memo_of (fun _ => Γ0_ok) m0, memo_of (fun _ => Γ0_ok) m1, memo_of (fun _ => Γ0_ok) m2, memo_of (fun _ => Γ0_ok) m3, memo_of (fun _ => Γ0_ok) m4, memo_of (fun _ => Γ0_ok) m5, memo_of (fun _ => Γ0_ok) m6, memo_of (fun _ => Γ0_ok) m7, memo_of (fun _ => Γ0_ok) m8, memo_of (fun _ => Γ0_ok) m9, memo_of (fun _ => Γ0_ok) m10, memo_of (fun _ => Γ0_ok) m11, memo_of (fun _ => Γ0_ok) m12, memo_of (fun _ => Γ0_ok) m13, memo_of (fun _ => Γ0_ok) m14, memo_of (fun _ => Γ0_ok) m15, memo_of (fun _ => Γ0_ok) m16, memo_of (fun _ => Γ0_ok) m17⟩
def Γb : Facts → FuncId → Option CallD := ΓM [290, 62, 61] told (ΓA lc)
theorem Γb_ok (F : Facts) : ΓOk Tryz.prog F (Γb F) := ΓM_ok told_ok (ΓA_ok lc_ok) F
end Go.Proofs.YtmlimbddbcmmpaaGreatDoor.CoreKnownDone
