/- The cut of the program that CurveTimes reaches. -/
import Derived.Test.YtabiimelnalapaaRows
import Derived.JoinedOf
namespace Go.Proofs.Ytabiimelnalapaa
open Go
theorem curveTimes_closed : joinedFacts Try.prog 4 Try.f4 Rows.curveTimesSpec Rows.curveTimesRow = true := by kernel_rfl
end Go.Proofs.Ytabiimelnalapaa
