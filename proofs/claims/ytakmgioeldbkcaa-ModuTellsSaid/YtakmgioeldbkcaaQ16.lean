/- The cut of the program that ModuTells reaches. -/
import Derived.Test.YtakmgioeldbkcaaRows
import Derived.JoinedOf
namespace Go.Proofs.Ytakmgioeldbkcaa
open Go
theorem moduTells_closed : joinedFacts Try.prog 24 Try.f24 Rows.moduTellsSpec Rows.moduTellsRow = true := by kernel_rfl
end Go.Proofs.Ytakmgioeldbkcaa
