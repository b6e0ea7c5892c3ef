/- The cut of the program that CurveSums reaches. -/
import Derived.Test.YtabiimelnalapaaRows
import Derived.JoinedOf
namespace Go.Proofs.Ytabiimelnalapaa
open Go
theorem curveSums_closed : joinedFacts Try.prog 5 Try.f5 Rows.curveSumsSpec Rows.curveSumsRow = true := by kernel_rfl
end Go.Proofs.Ytabiimelnalapaa
