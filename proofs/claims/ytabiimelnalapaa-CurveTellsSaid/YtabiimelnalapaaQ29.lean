/- The cut of the program that CurveTells reaches. -/
import Derived.Test.YtabiimelnalapaaRows
import Derived.JoinedOf
namespace Go.Proofs.Ytabiimelnalapaa
open Go
theorem curveTells_closed : joinedFacts Try.prog 7 Try.f7 Rows.curveTellsSpec Rows.curveTellsRow = true := by kernel_rfl
end Go.Proofs.Ytabiimelnalapaa
