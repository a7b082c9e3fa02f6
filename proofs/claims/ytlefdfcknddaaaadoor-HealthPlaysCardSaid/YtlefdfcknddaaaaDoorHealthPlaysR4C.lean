/- That the run goes by a part of the plan. -/
import Derived.Test.YtlefdfcknddaaaaDoorHealthPlaysCutC
namespace Go.Proofs.YtlefdfcknddaaaaDoor.HealthPlaysDone
open Go.Eng
theorem z0_r7 : PL.run (sg tm0) fn0 pts (((facts0.cons (.vr 1002) true).cons (.bi .eqi (.vr 1001) (.li 0)) true).cons (.bi .lt (.vr 1000) (.vr 22)) false) z0_p7 = true := by kernel_rfl
theorem z1_r0 : PL.run (sg tm1) fn0 pts ((((facts1.cons (.vr 1002) true).cons (.bi .eqi (.vr 1001) (.li 0)) true).cons (.bi .lt (.vr 1000) (.vr 22)) true).cons (.bi .eqi c0 (.li 255)) true) z1_p0 = true := by kernel_rfl
theorem z1_r11 : PL.run (sg tm1) fn0 pts (((((((facts1.cons (.vr 1002) false).cons (.bi .eqi (.vr 1001) (.tr (.app 900) (.vr 1010) (.li 0) (.li 0))) true).cons (.bi .lt (.vr 1000) (.vr 22)) true).cons (.bi .eqi c0 (.li 255)) true).cons (.bi .eqi (.vr 1001) (.li 0)) true).cons (.bi .eqi (.tr (.app 900) (.vr 1010) (.li 0) (.li 0)) (.li 0)) false).cons (.bi .eqi (.tr (.app 900) (.vr 1010) (.li 0) (.li 0)) (.li 4)) true) z1_p11 = true := by kernel_rfl
theorem z1_r23 : PL.run (sg tm1) fn0 pts (((((((facts1.cons (.vr 1002) false).cons (.bi .eqi (.vr 1001) (.tr (.app 900) (.vr 1010) (.li 0) (.li 0))) true).cons (.bi .lt (.vr 1000) (.vr 22)) true).cons (.bi .eqi c0 (.li 255)) true).cons (.bi .eqi (.vr 1001) (.li 0)) false).cons (.bi .eqi (.vr 1001) (.li 4)) true).cons (.bi .eqi (.tr (.app 900) (.vr 1010) (.li 0) (.li 0)) (.li 0)) true) z1_p23 = true := by kernel_rfl
theorem z1_r32 : PL.run (sg tm1) fn0 pts (((((((((facts1.cons (.vr 1002) false).cons (.bi .eqi (.vr 1001) (.tr (.app 900) (.vr 1010) (.li 0) (.li 0))) true).cons (.bi .lt (.vr 1000) (.vr 22)) true).cons (.bi .eqi c0 (.li 255)) true).cons (.bi .eqi (.vr 1001) (.li 0)) false).cons (.bi .eqi (.vr 1001) (.li 4)) false).cons (.bi .lt (.vr 1003) (.vr 2)) false).cons (.bi .eqi (.tr (.app 900) (.vr 1010) (.li 0) (.li 0)) (.li 0)) false).cons (.bi .eqi (.tr (.app 900) (.vr 1010) (.li 0) (.li 0)) (.li 4)) true) z1_p32 = true := by kernel_rfl
theorem z2_r0 : PL.run (sg tm2) fn0 pts facts2 z2_p0 = true := by kernel_rfl
end Go.Proofs.YtlefdfcknddaaaaDoor.HealthPlaysDone
