/- The cut of the program that MemSlices reaches. -/
import Derived.Test.YtakmgioeldbkcaaRows
import Derived.JoinedOf
namespace Go.Proofs.Ytakmgioeldbkcaa
open Go
theorem memSlices_closed : joinedFacts Try.prog 15 Try.f15 Rows.memSlicesSpec Rows.memSlicesRow = true := by kernel_rfl
end Go.Proofs.Ytakmgioeldbkcaa
