/- The cut of the program that SignTells reaches. -/
import Derived.Test.YtakmgioeldbkcaaRows
import Derived.JoinedOf
namespace Go.Proofs.Ytakmgioeldbkcaa
open Go
theorem signTells_closed : joinedFacts Try.prog 19 Try.f19 Rows.signTellsSpec Rows.signTellsRow = true := by kernel_rfl
end Go.Proofs.Ytakmgioeldbkcaa
