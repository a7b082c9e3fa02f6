/- That the run goes by a part of the plan. -/
import Derived.Test.YtlefdfcknddaaaaSampleEndsRunC
namespace Go.Proofs.Ytlefdfcknddaaaa.SampleEndsDone
open Go.Eng Go.RowKit Go.ChangeShapes Go.WideShapes Go.ChangeAt
theorem z_r3 : PL.run sg0 fn0 pts (((facts0.cons (.bi .lt (.vr 1000) (.vr 5)) true).cons (.bi .lt c0 (.li 2)) true).cons (.bi .lt (.vr 0) c1) false) z_p3 = true := by kernel_rfl
theorem z_r9 : PL.run sg0 fn0 pts ((((((facts0.cons (.bi .lt (.vr 1000) (.vr 5)) true).cons (.bi .lt c0 (.li 2)) false).cons (.bi .lt c0 (.li 4)) true).cons (.bi .lt c4 (.li 0)) false).cons (.bi .lt c4 (.vr 2)) true).cons (.vr 1001) false) z_p9 = true := by kernel_rfl
theorem z_r17 : PL.run sg0 fn0 pts ((((facts0.cons (.bi .lt (.vr 1000) (.vr 5)) true).cons (.bi .lt c0 (.li 2)) false).cons (.bi .lt c0 (.li 4)) false).cons (.vr 1001) false) z_p17 = true := by kernel_rfl
end Go.Proofs.Ytlefdfcknddaaaa.SampleEndsDone
