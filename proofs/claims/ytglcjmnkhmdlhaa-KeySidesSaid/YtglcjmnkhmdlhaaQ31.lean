/- The cut of the program that KeySides reaches. -/
import Derived.Test.YtglcjmnkhmdlhaaRows
import Derived.JoinedOf
namespace Go.Proofs.Ytglcjmnkhmdlhaa
open Go
theorem keySides_closed : joinedFacts Try.prog 3 Try.f3 Rows.keySidesSpec Rows.keySidesRow = true := by kernel_rfl
end Go.Proofs.Ytglcjmnkhmdlhaa
