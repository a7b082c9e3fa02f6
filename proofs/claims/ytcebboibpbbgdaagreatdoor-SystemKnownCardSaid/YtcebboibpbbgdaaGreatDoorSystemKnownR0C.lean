/- The run of the law SystemKnown, its calls told. -/
import Derived.Test.YtcebboibpbbgdaaGreatDoorSystemKnownGC
import Derived.Test.YtcebboibpbbgdaaGreatDoorSystemKnownSC
import Derived.Test.YtcebboibpbbgdaaGreatDoorSystemKnownT5C
namespace Go.Proofs.YtcebboibpbbgdaaGreatDoor.SystemKnownDone
open Go.Eng
def l5 : List MH := [s0, s2, s19, s25]
def l6 : List MH := [s1, s3, s20, s21, s22, s26]
def l15 : List MH := [s4, s5, s6, s7, s8, s9, s10, s11, s12, s13, s14, s15, s16, s17, s18, s23, s24, s27, s28, s29]
def libsN : List (FuncId × CallD) := [(16, mhC 16 l16), (5, mhC 5 l5), (6, mhC 6 l6), (15, mhC 15 l15)]
noncomputable def Γn : Facts → FuncId → Option CallD := ΓN libsN Γb
noncomputable def root : Code := (Tryz.f4.body).getD .skip
theorem run : cutGo Tryz.prog Γn 9000 80 root Tryz.f4 {} none (.code root []) [] ⟨argsT 0 [], T.ofList (glH G), 501, Tryz.f4.ntmps, []⟩ = true := by kernel_rfl
end Go.Proofs.YtcebboibpbbgdaaGreatDoor.SystemKnownDone
