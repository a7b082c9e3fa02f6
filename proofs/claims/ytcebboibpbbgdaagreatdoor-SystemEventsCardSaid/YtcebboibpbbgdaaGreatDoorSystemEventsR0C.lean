/- The run of the law SystemEvents, its calls told. -/
import Derived.Test.YtcebboibpbbgdaaGreatDoorSystemEventsGC
import Derived.Test.YtcebboibpbbgdaaGreatDoorSystemEventsSC
namespace Go.Proofs.YtcebboibpbbgdaaGreatDoor.SystemEventsDone
open Go.Eng
def l5 : List MH := [s0, s42, s84]
def l6 : List MH := [s1, s43, s85]
def l15 : List MH := [s2, s3, s4, s5, s6, s7, s8, s9, s10, s11, s12, s13, s14, s15, s16, s17, s18, s19, s20, s21, s22, s23, s24, s25, s26, s27, s28, s29, s30, s31, s32, s33, s34, s35, s36, s37, s38, s39, s40, s41, s44, s45, s46, s47, s48, s49, s50, s51, s52, s53, s54, s55, s56, s57, s58, s59, s60, s61, s62, s63, s64, s65, s66, s67, s68, s69, s70, s71, s72, s73, s74, s75, s76, s77, s78, s79, s80, s81, s82, s83, s86, s87, s88]
def libsN : List (FuncId × CallD) := [(5, mhC 5 l5), (6, mhC 6 l6), (15, mhC 15 l15)]
noncomputable def Γn : Facts → FuncId → Option CallD := ΓN libsN Γb
noncomputable def root : Code := (Tryz.f3.body).getD .skip
theorem run : cutGo Tryz.prog Γn 9000 80 root Tryz.f3 {} none (.code root []) [] ⟨argsT 0 [], T.ofList (glH G), 501, Tryz.f3.ntmps, []⟩ = true := by kernel_rfl
end Go.Proofs.YtcebboibpbbgdaaGreatDoor.SystemEventsDone
