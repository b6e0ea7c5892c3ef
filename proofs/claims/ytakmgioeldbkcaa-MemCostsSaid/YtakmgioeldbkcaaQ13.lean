/- The cut of the program that MemCosts reaches. -/
import Derived.Test.YtakmgioeldbkcaaRows
import Derived.JoinedOf
namespace Go.Proofs.Ytakmgioeldbkcaa
open Go
theorem memCosts_closed : joinedFacts Try.prog 14 Try.f14 Rows.memCostsSpec Rows.memCostsRow = true := by kernel_rfl
end Go.Proofs.Ytakmgioeldbkcaa
