/- The names of the operations, each by a run of asm.Name. -/
import Derived.Test.YtljdmppakiacdaaGreatDoorAsmGC
namespace Go.Proofs.YtljdmppakiacdaaGreatDoor.AsmNamesDone
open Go.Eng
def nm : List DV := [.str (.ls ⟨#[]⟩),
  .str (.ls ⟨#[108, 117, 105]⟩),
  .str (.ls ⟨#[97, 117, 105, 112, 99]⟩),
  .str (.ls ⟨#[106, 97, 108]⟩),
  .str (.ls ⟨#[106, 97, 108, 114]⟩),
  .str (.ls ⟨#[98, 101, 113]⟩),
  .str (.ls ⟨#[98, 110, 101]⟩),
  .str (.ls ⟨#[98, 108, 116]⟩),
  .str (.ls ⟨#[98, 103, 101]⟩),
  .str (.ls ⟨#[98, 108, 116, 117]⟩),
  .str (.ls ⟨#[98, 103, 101, 117]⟩),
  .str (.ls ⟨#[108, 98]⟩),
  .str (.ls ⟨#[108, 104]⟩),
  .str (.ls ⟨#[108, 119]⟩),
  .str (.ls ⟨#[108, 100]⟩),
  .str (.ls ⟨#[108, 98, 117]⟩),
  .str (.ls ⟨#[108, 104, 117]⟩),
  .str (.ls ⟨#[108, 119, 117]⟩),
  .str (.ls ⟨#[115, 98]⟩),
  .str (.ls ⟨#[115, 104]⟩),
  .str (.ls ⟨#[115, 119]⟩),
  .str (.ls ⟨#[115, 100]⟩),
  .str (.ls ⟨#[97, 100, 100, 105]⟩),
  .str (.ls ⟨#[115, 108, 116, 105]⟩),
  .str (.ls ⟨#[115, 108, 116, 105, 117]⟩),
  .str (.ls ⟨#[120, 111, 114, 105]⟩),
  .str (.ls ⟨#[111, 114, 105]⟩),
  .str (.ls ⟨#[97, 110, 100, 105]⟩),
  .str (.ls ⟨#[115, 108, 108, 105]⟩),
  .str (.ls ⟨#[115, 114, 108, 105]⟩),
  .str (.ls ⟨#[115, 114, 97, 105]⟩),
  .str (.ls ⟨#[97, 100, 100]⟩),
  .str (.ls ⟨#[115, 117, 98]⟩),
  .str (.ls ⟨#[115, 108, 108]⟩),
  .str (.ls ⟨#[115, 108, 116]⟩),
  .str (.ls ⟨#[115, 108, 116, 117]⟩),
  .str (.ls ⟨#[120, 111, 114]⟩),
  .str (.ls ⟨#[115, 114, 108]⟩),
  .str (.ls ⟨#[115, 114, 97]⟩),
  .str (.ls ⟨#[111, 114]⟩),
  .str (.ls ⟨#[97, 110, 100]⟩),
  .str (.ls ⟨#[97, 100, 100, 105, 119]⟩),
  .str (.ls ⟨#[115, 108, 108, 105, 119]⟩),
  .str (.ls ⟨#[115, 114, 108, 105, 119]⟩),
  .str (.ls ⟨#[115, 114, 97, 105, 119]⟩),
  .str (.ls ⟨#[97, 100, 100, 119]⟩),
  .str (.ls ⟨#[115, 117, 98, 119]⟩),
  .str (.ls ⟨#[115, 108, 108, 119]⟩),
  .str (.ls ⟨#[115, 114, 108, 119]⟩),
  .str (.ls ⟨#[115, 114, 97, 119]⟩),
  .str (.ls ⟨#[102, 101, 110, 99, 101]⟩),
  .str (.ls ⟨#[102, 101, 110, 99, 101, 105]⟩),
  .str (.ls ⟨#[101, 99, 97, 108, 108]⟩),
  .str (.ls ⟨#[101, 98, 114, 101, 97, 107]⟩),
  .str (.ls ⟨#[109, 117, 108]⟩),
  .str (.ls ⟨#[109, 117, 108, 104]⟩),
  .str (.ls ⟨#[109, 117, 108, 104, 115, 117]⟩),
  .str (.ls ⟨#[109, 117, 108, 104, 117]⟩),
  .str (.ls ⟨#[100, 105, 118]⟩),
  .str (.ls ⟨#[100, 105, 118, 117]⟩),
  .str (.ls ⟨#[114, 101, 109]⟩),
  .str (.ls ⟨#[114, 101, 109, 117]⟩),
  .str (.ls ⟨#[109, 117, 108, 119]⟩),
  .str (.ls ⟨#[100, 105, 118, 119]⟩),
  .str (.ls ⟨#[100, 105, 118, 117, 119]⟩),
  .str (.ls ⟨#[114, 101, 109, 119]⟩),
  .str (.ls ⟨#[114, 101, 109, 117, 119]⟩),
  .str (.ls ⟨#[108, 114, 119]⟩),
  .str (.ls ⟨#[115, 99, 119]⟩),
  .str (.ls ⟨#[97, 109, 111, 115, 119, 97, 112, 119]⟩),
  .str (.ls ⟨#[97, 109, 111, 97, 100, 100, 119]⟩),
  .str (.ls ⟨#[97, 109, 111, 120, 111, 114, 119]⟩),
  .str (.ls ⟨#[97, 109, 111, 97, 110, 100, 119]⟩),
  .str (.ls ⟨#[97, 109, 111, 111, 114, 119]⟩),
  .str (.ls ⟨#[97, 109, 111, 109, 105, 110, 119]⟩),
  .str (.ls ⟨#[97, 109, 111, 109, 97, 120, 119]⟩),
  .str (.ls ⟨#[97, 109, 111, 109, 105, 110, 117, 119]⟩),
  .str (.ls ⟨#[97, 109, 111, 109, 97, 120, 117, 119]⟩),
  .str (.ls ⟨#[108, 114, 100]⟩),
  .str (.ls ⟨#[115, 99, 100]⟩),
  .str (.ls ⟨#[97, 109, 111, 115, 119, 97, 112, 100]⟩),
  .str (.ls ⟨#[97, 109, 111, 97, 100, 100, 100]⟩),
  .str (.ls ⟨#[97, 109, 111, 120, 111, 114, 100]⟩),
  .str (.ls ⟨#[97, 109, 111, 97, 110, 100, 100]⟩),
  .str (.ls ⟨#[97, 109, 111, 111, 114, 100]⟩),
  .str (.ls ⟨#[97, 109, 111, 109, 105, 110, 100]⟩),
  .str (.ls ⟨#[97, 109, 111, 109, 97, 120, 100]⟩),
  .str (.ls ⟨#[97, 109, 111, 109, 105, 110, 117, 100]⟩),
  .str (.ls ⟨#[97, 109, 111, 109, 97, 120, 117, 100]⟩),
  .str (.ls ⟨#[99, 115, 114, 114, 119]⟩),
  .str (.ls ⟨#[99, 115, 114, 114, 115]⟩),
  .str (.ls ⟨#[99, 115, 114, 114, 99]⟩),
  .str (.ls ⟨#[99, 115, 114, 114, 119, 105]⟩),
  .str (.ls ⟨#[99, 115, 114, 114, 115, 105]⟩),
  .str (.ls ⟨#[99, 115, 114, 114, 99, 105]⟩),
  .str (.ls ⟨#[109, 114, 101, 116]⟩),
  .str (.ls ⟨#[115, 114, 101, 116]⟩),
  .str (.ls ⟨#[119, 102, 105]⟩),
  .str (.ls ⟨#[115, 102, 101, 110, 99, 101, 118, 109, 97]⟩)]
def told : List MC := (List.range 256).map fun (i : Nat) => ⟨5, [.int .u8 (.li (i : Int))], nm.getD i (.str (.ls ⟨#[]⟩))⟩
theorem m0 : (((told.drop 0).take 32).all fun c => memoOk Tryz.prog (fun _ => Γ0) 5000 40 c) = true := by kernel_rfl
theorem m32 : (((told.drop 32).take 32).all fun c => memoOk Tryz.prog (fun _ => Γ0) 5000 40 c) = true := by kernel_rfl
theorem m64 : (((told.drop 64).take 32).all fun c => memoOk Tryz.prog (fun _ => Γ0) 5000 40 c) = true := by kernel_rfl
theorem m96 : (((told.drop 96).take 32).all fun c => memoOk Tryz.prog (fun _ => Γ0) 5000 40 c) = true := by kernel_rfl
theorem m128 : (((told.drop 128).take 32).all fun c => memoOk Tryz.prog (fun _ => Γ0) 5000 40 c) = true := by kernel_rfl
theorem m160 : (((told.drop 160).take 32).all fun c => memoOk Tryz.prog (fun _ => Γ0) 5000 40 c) = true := by kernel_rfl
theorem m192 : (((told.drop 192).take 32).all fun c => memoOk Tryz.prog (fun _ => Γ0) 5000 40 c) = true := by kernel_rfl
theorem m224 : (((told.drop 224).take 32).all fun c => memoOk Tryz.prog (fun _ => Γ0) 5000 40 c) = true := by kernel_rfl
theorem told_all : (told.all fun c => memoOk Tryz.prog (fun _ => Γ0) 5000 40 c) = true := by
  have e : told = (told.drop 0).take 32 ++ (told.drop 32).take 32 ++ (told.drop 64).take 32 ++ (told.drop 96).take 32 ++ (told.drop 128).take 32 ++ (told.drop 160).take 32 ++ (told.drop 192).take 32 ++ (told.drop 224).take 32 := by kernel_rfl
  rw [e]
  simp only [List.all_append, m0, m32, m64, m96, m128, m160, m192, m224, Bool.and_true]
theorem told_ok : ∀ c ∈ told, Memo Tryz.prog c := fun c hc => memo_of (fun _ => Γ0_ok) (List.all_eq_true.1 told_all c hc)
/-- A call of asm.Name, by its number. -/
def nameC : CallD := fun g xs h n => match xs with
  | [.int _ (.li i)] => memoC g (told[i.toNat]?).toList g xs h n
  | _ => none
theorem nameC_ok (F : Facts) : CallCOk Tryz.prog F 5 nameC := by
  intro args h n r hr ρ hF m w vs hvs hH hf
  unfold nameC at hr
  split at hr
  · refine memoC_ok (fun c hc => told_ok c ?_) 5 _ h n r hr ρ hF m w vs hvs hH hf
    simp only [Option.mem_toList] at hc
    exact List.mem_of_getElem? hc
  · cases hr
end Go.Proofs.YtljdmppakiacdaaGreatDoor.AsmNamesDone
