/- The cut of the program that SignBack reaches. -/
import Derived.Test.YtakmgioeldbkcaaRows
import Derived.JoinedOf
namespace Go.Proofs.Ytakmgioeldbkcaa
open Go
theorem signBack_closed : joinedFacts Try.prog 21 Try.f21 Rows.signBackSpec Rows.signBackRow = true := by kernel_rfl
end Go.Proofs.Ytakmgioeldbkcaa
