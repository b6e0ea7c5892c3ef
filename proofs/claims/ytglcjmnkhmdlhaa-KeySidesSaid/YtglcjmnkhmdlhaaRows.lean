/-
  No cell of these rows narrows 'for every input' (looked for: loops, veiled, ifaces, maps, wideKeys, modest, calm, conditions, laid).
  DERIVED. THE GIVEN ROWS OF THIS SEAT. 4 by the template 'for every input the law returns true; each argument reads behind the call as it read before'; 0 by the template 'total and deterministic' (their statements: YtglcjmnkhmdlhaaTotals.lean).
  GIVEN WITH THE SEED: the statements are not yours to turn. If you find one false, say at which input.
  Laid BY PROGRAM, IN A SANDBOX (cutbox-rows.mjs): the forced cells as the released guide's own fill.sh prints them over the translation ec5d305136c595fd… (all of the seat's roots in one cut). By AI agents, Wed Nov 11 2026. No macro, syntax, notation, axiom, sorry.
-/
import Derived.Test.YtglcjmnkhmdlhaaChecked
import GoSem.Claim
import GoSem.ClaimJoined
import GoSem.ClaimMapViews
import Derived.JoinedTies
import Derived.KernelRfl
namespace Go.Proofs.Ytglcjmnkhmdlhaa
/- THE CELL 'sum', in the pinned program and in every row, IS THE sha256 OF THE DUMP (.gsa) THAT YtglcjmnkhmdlhaaProg.lean LOADS. Nothing in Lean hashes anything: it is a label: what it is worth is what the hold of that sum in a sandbox is worth. -/
noncomputable def Try.pinned : Pinned := { name := "ytglcjmnkhmdlhaa", sum := "ec5d305136c595fdb3422607a02a8dff7fb03ea258557a106d92b8feb61e67c8", checked := Try.checked }
namespace Rows
def none {H : Type} : Left H := { results := [], args := [] }

/-- 'trucelaw07.KeySides': WHATEVER THE INPUT: true; the input reads as it did. -/
def keySidesSpec : ChangeSpec := { name := "keySides", fn := fun _ => fun
  | [d] => { results := [.lit (.bool true)], args := [d] }
  | _ => none }
def keySidesRow : OpenClaim := { program := "ytglcjmnkhmdlhaa", sum := "ec5d305136c595fdb3422607a02a8dff7fb03ea258557a106d92b8feb61e67c8", func := "truce/trucelaw07.KeySides", spec := "keySides", inPlace := ["math/bits.Sub64", "math/bits.Add64", "internal/abi.NoEscape"], unfollowed := true, recurses := true, apart := false }
def KeySidesSaid : Prop := keySidesRow.holds Try.pinned (OpenSpec.ofChange keySidesSpec)

/-- ITS FALSE NEIGHBOUR: 'it returns false'. Refute it at one input. -/
def keySidesWrong : ChangeSpec := { name := "keySides", fn := fun _ => fun
  | [d] => { results := [.lit (.bool false)], args := [d] }
  | _ => none }
def KeySidesWrongFalsely : Prop := keySidesRow.holds Try.pinned (OpenSpec.ofChange keySidesWrong)

/-- 'trucelaw07.KeyTells': WHATEVER THE INPUT: true; the input reads as it did. -/
def keyTellsSpec : ChangeSpec := { name := "keyTells", fn := fun _ => fun
  | [d1, d2, d3] => { results := [.lit (.bool true)], args := [d1, d2, d3] }
  | _ => none }
def keyTellsRow : OpenClaim := { program := "ytglcjmnkhmdlhaa", sum := "ec5d305136c595fdb3422607a02a8dff7fb03ea258557a106d92b8feb61e67c8", func := "truce/trucelaw07.KeyTells", spec := "keyTells", inPlace := ["math/bits.Sub64", "math/bits.Add64", "internal/abi.NoEscape"], unfollowed := true, recurses := true, apart := false }
def KeyTellsSaid : Prop := keyTellsRow.holds Try.pinned (OpenSpec.ofChange keyTellsSpec)

/-- ITS FALSE NEIGHBOUR: 'it returns false'. Refute it at one input. -/
def keyTellsWrong : ChangeSpec := { name := "keyTells", fn := fun _ => fun
  | [d1, d2, d3] => { results := [.lit (.bool false)], args := [d1, d2, d3] }
  | _ => none }
def KeyTellsWrongFalsely : Prop := keyTellsRow.holds Try.pinned (OpenSpec.ofChange keyTellsWrong)

/-- 'trucelaw07.KeySmall': WHATEVER THE INPUT: true; the input reads as it did. -/
def keySmallSpec : ChangeSpec := { name := "keySmall", fn := fun _ => fun
  | [d] => { results := [.lit (.bool true)], args := [d] }
  | _ => none }
def keySmallRow : OpenClaim := { program := "ytglcjmnkhmdlhaa", sum := "ec5d305136c595fdb3422607a02a8dff7fb03ea258557a106d92b8feb61e67c8", func := "truce/trucelaw07.KeySmall", spec := "keySmall", inPlace := ["math/bits.Add64", "math/bits.Sub64", "internal/abi.NoEscape"], unfollowed := true, recurses := true, apart := false }
def KeySmallSaid : Prop := keySmallRow.holds Try.pinned (OpenSpec.ofChange keySmallSpec)

/-- ITS FALSE NEIGHBOUR: 'it returns false'. Refute it at one input. -/
def keySmallWrong : ChangeSpec := { name := "keySmall", fn := fun _ => fun
  | [d] => { results := [.lit (.bool false)], args := [d] }
  | _ => none }
def KeySmallWrongFalsely : Prop := keySmallRow.holds Try.pinned (OpenSpec.ofChange keySmallWrong)

/-- 'trucelaw07.KeySums': WHATEVER THE INPUT: true; the input reads as it did. -/
def keySumsSpec : ChangeSpec := { name := "keySums", fn := fun _ => fun
  | [d1, d2] => { results := [.lit (.bool true)], args := [d1, d2] }
  | _ => none }
def keySumsRow : OpenClaim := { program := "ytglcjmnkhmdlhaa", sum := "ec5d305136c595fdb3422607a02a8dff7fb03ea258557a106d92b8feb61e67c8", func := "truce/trucelaw07.KeySums", spec := "keySums", inPlace := ["math/bits.Sub64", "math/bits.Add64", "internal/abi.NoEscape"], unfollowed := true, recurses := true, apart := false }
def KeySumsSaid : Prop := keySumsRow.holds Try.pinned (OpenSpec.ofChange keySumsSpec)

/-- ITS FALSE NEIGHBOUR: 'it returns false'. Refute it at one input. -/
def keySumsWrong : ChangeSpec := { name := "keySums", fn := fun _ => fun
  | [d1, d2] => { results := [.lit (.bool false)], args := [d1, d2] }
  | _ => none }
def KeySumsWrongFalsely : Prop := keySumsRow.holds Try.pinned (OpenSpec.ofChange keySumsWrong)

/- THE SECOND FORM. 'bulk': how many values and letters a reading holds, each counted each time it is reached (what is shared counts as often as it is met; a slice's spare places count too). A statement '..UptoSaid' is the law's where the arguments, and the package variables that the reading takes, are together of bulk at most 1048576: NARROWER than '..Said'. Prove '..Said' where nothing that the law and all that it calls make is longer than what came in: it says more and counts as full. Else prove '..UptoSaid'. A law counts once. -/
mutual
def uptoBulk {H : Type} : DataW H → Nat
  | .lit (.string bytes) => bytes.length + 1
  | .lit _ => 1
  | .nil => 1
  | .ptr d => uptoBulk d + 1
  | .slice elems spare => uptoBulkAll elems + uptoBulkAll spare + 1
  | .agg parts => uptoBulkAll parts + 1
  | .iface _ d => uptoBulk d + 1
  | .map entries => uptoBulkEntries entries + 1
  | .held _ => 1
def uptoBulkAll {H : Type} : List (DataW H) → Nat
  | [] => 0
  | d :: r => uptoBulk d + uptoBulkAll r
def uptoBulkEntries {H : Type} : List (Lit × DataW H) → Nat
  | [] => 0
  | x :: r => uptoBulkEntry x + uptoBulkEntries r
def uptoBulkEntry {H : Type} : Lit × DataW H → Nat
  | (.string bytes, d) => bytes.length + uptoBulk d + 1
  | (_, d) => uptoBulk d + 1
 end
def uptoSmall : (H : Type) → List (DataW H) → Bool := fun _ ds => decide (uptoBulkAll ds ≤ 1048576)
def OpenSpec.upto (s : _root_.Go.ChangeSpec) : _root_.Go.OpenSpec := { _root_.Go.OpenSpec.ofChange s with cond := some uptoSmall }

/-- 'trucelaw07.KeySides', WHERE WHAT IT READS IS OF BULK AT MOST 1048576: true; the input reads as it did. -/
def keySidesUptoRow : OpenClaim := { program := "ytglcjmnkhmdlhaa", sum := "ec5d305136c595fdb3422607a02a8dff7fb03ea258557a106d92b8feb61e67c8", func := "truce/trucelaw07.KeySides", spec := "keySides", inPlace := ["math/bits.Sub64", "math/bits.Add64", "internal/abi.NoEscape"], unfollowed := true, recurses := true, apart := false, narrowed := true }
def KeySidesUptoSaid : Prop := keySidesUptoRow.holds Try.pinned (OpenSpec.upto keySidesSpec)

/-- 'trucelaw07.KeyTells', WHERE WHAT IT READS IS OF BULK AT MOST 1048576: true; the input reads as it did. -/
def keyTellsUptoRow : OpenClaim := { program := "ytglcjmnkhmdlhaa", sum := "ec5d305136c595fdb3422607a02a8dff7fb03ea258557a106d92b8feb61e67c8", func := "truce/trucelaw07.KeyTells", spec := "keyTells", inPlace := ["math/bits.Sub64", "math/bits.Add64", "internal/abi.NoEscape"], unfollowed := true, recurses := true, apart := false, narrowed := true }
def KeyTellsUptoSaid : Prop := keyTellsUptoRow.holds Try.pinned (OpenSpec.upto keyTellsSpec)

/-- 'trucelaw07.KeySmall', WHERE WHAT IT READS IS OF BULK AT MOST 1048576: true; the input reads as it did. -/
def keySmallUptoRow : OpenClaim := { program := "ytglcjmnkhmdlhaa", sum := "ec5d305136c595fdb3422607a02a8dff7fb03ea258557a106d92b8feb61e67c8", func := "truce/trucelaw07.KeySmall", spec := "keySmall", inPlace := ["math/bits.Add64", "math/bits.Sub64", "internal/abi.NoEscape"], unfollowed := true, recurses := true, apart := false, narrowed := true }
def KeySmallUptoSaid : Prop := keySmallUptoRow.holds Try.pinned (OpenSpec.upto keySmallSpec)

/-- 'trucelaw07.KeySums', WHERE WHAT IT READS IS OF BULK AT MOST 1048576: true; the input reads as it did. -/
def keySumsUptoRow : OpenClaim := { program := "ytglcjmnkhmdlhaa", sum := "ec5d305136c595fdb3422607a02a8dff7fb03ea258557a106d92b8feb61e67c8", func := "truce/trucelaw07.KeySums", spec := "keySums", inPlace := ["math/bits.Sub64", "math/bits.Add64", "internal/abi.NoEscape"], unfollowed := true, recurses := true, apart := false, narrowed := true }
def KeySumsUptoSaid : Prop := keySumsUptoRow.holds Try.pinned (OpenSpec.upto keySumsSpec)

end Rows
end Go.Proofs.Ytglcjmnkhmdlhaa
