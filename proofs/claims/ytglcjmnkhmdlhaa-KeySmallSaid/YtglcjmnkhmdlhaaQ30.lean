/- The cut of the program that KeySmall reaches. -/
import Derived.Test.YtglcjmnkhmdlhaaRows
import Derived.JoinedOf
namespace Go.Proofs.Ytglcjmnkhmdlhaa
open Go
theorem keySmall_closed : joinedFacts Try.prog 5 Try.f5 Rows.keySmallSpec Rows.keySmallRow = true := by kernel_rfl
end Go.Proofs.Ytglcjmnkhmdlhaa
