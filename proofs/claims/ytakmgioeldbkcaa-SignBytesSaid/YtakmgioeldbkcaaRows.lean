/-
  No cell of these rows narrows 'for every input' (looked for: loops, veiled, ifaces, maps, wideKeys, modest, calm, conditions, laid).
  DERIVED. THE GIVEN ROWS OF THIS SEAT. 24 by the template 'for every input the law returns true; each argument reads behind the call as it read before'; 0 by the template 'total and deterministic' (their statements: YtakmgioeldbkcaaTotals.lean).
  GIVEN WITH THE SEED: the statements are not yours to turn. If you find one false, say at which input.
  Laid BY PROGRAM, IN A SANDBOX (cutbox-rows.mjs): the forced cells as the released guide's own fill.sh prints them over the translation 048285618cbfe8f8… (all of the seat's roots in one cut). By AI agents, Wed Nov 11 2026. No macro, syntax, notation, axiom, sorry.
-/
import Derived.Test.YtakmgioeldbkcaaChecked
import GoSem.Claim
import GoSem.ClaimJoined
import GoSem.ClaimMapViews
import Derived.JoinedTies
import Derived.KernelRfl
namespace Go.Proofs.Ytakmgioeldbkcaa
/- THE CELL 'sum', in the pinned program and in every row, IS THE sha256 OF THE DUMP (.gsa) THAT YtakmgioeldbkcaaProg.lean LOADS. Nothing in Lean hashes anything: it is a label: what it is worth is what the hold of that sum in a sandbox is worth. -/
noncomputable def Try.pinned : Pinned := { name := "ytakmgioeldbkcaa", sum := "048285618cbfe8f86826a458d45149f941d222b1fd01bb729ae7b8d10e5f2d34", checked := Try.checked }
namespace Rows
def none {H : Type} : Left H := { results := [], args := [] }

/-- 'trucelaw01.NumSums': WHATEVER THE INPUT: true; the input reads as it did. -/
def numSumsSpec : ChangeSpec := { name := "numSums", fn := fun _ => fun
  | [d1, d2, d3] => { results := [.lit (.bool true)], args := [d1, d2, d3] }
  | _ => none }
def numSumsRow : OpenClaim := { program := "ytakmgioeldbkcaa", sum := "048285618cbfe8f86826a458d45149f941d222b1fd01bb729ae7b8d10e5f2d34", func := "truce/trucelaw01.NumSums", spec := "numSums", inPlace := ["math/bits.Add64", "math/bits.Sub64"], apart := false }
def NumSumsSaid : Prop := numSumsRow.holds Try.pinned (OpenSpec.ofChange numSumsSpec)

/-- ITS FALSE NEIGHBOUR: 'it returns false'. Refute it at one input. -/
def numSumsWrong : ChangeSpec := { name := "numSums", fn := fun _ => fun
  | [d1, d2, d3] => { results := [.lit (.bool false)], args := [d1, d2, d3] }
  | _ => none }
def NumSumsWrongFalsely : Prop := numSumsRow.holds Try.pinned (OpenSpec.ofChange numSumsWrong)

/-- 'trucelaw01.NumOrders': WHATEVER THE INPUT: true; the input reads as it did. -/
def numOrdersSpec : ChangeSpec := { name := "numOrders", fn := fun _ => fun
  | [d1, d2, d3] => { results := [.lit (.bool true)], args := [d1, d2, d3] }
  | _ => none }
def numOrdersRow : OpenClaim := { program := "ytakmgioeldbkcaa", sum := "048285618cbfe8f86826a458d45149f941d222b1fd01bb729ae7b8d10e5f2d34", func := "truce/trucelaw01.NumOrders", spec := "numOrders", inPlace := ["math/bits.Add64", "math/bits.Sub64"], unfollowed := true, recurses := true, apart := false }
def NumOrdersSaid : Prop := numOrdersRow.holds Try.pinned (OpenSpec.ofChange numOrdersSpec)

/-- ITS FALSE NEIGHBOUR: 'it returns false'. Refute it at one input. -/
def numOrdersWrong : ChangeSpec := { name := "numOrders", fn := fun _ => fun
  | [d1, d2, d3] => { results := [.lit (.bool false)], args := [d1, d2, d3] }
  | _ => none }
def NumOrdersWrongFalsely : Prop := numOrdersRow.holds Try.pinned (OpenSpec.ofChange numOrdersWrong)

/-- 'trucelaw01.NumBytes': WHATEVER THE INPUT: true; the input reads as it did. -/
def numBytesSpec : ChangeSpec := { name := "numBytes", fn := fun _ => fun
  | [d1, d2] => { results := [.lit (.bool true)], args := [d1, d2] }
  | _ => none }
def numBytesRow : OpenClaim := { program := "ytakmgioeldbkcaa", sum := "048285618cbfe8f86826a458d45149f941d222b1fd01bb729ae7b8d10e5f2d34", func := "truce/trucelaw01.NumBytes", spec := "numBytes", inPlace := ["math/bits.Add64", "math/bits.Sub64"], apart := false }
def NumBytesSaid : Prop := numBytesRow.holds Try.pinned (OpenSpec.ofChange numBytesSpec)

/-- ITS FALSE NEIGHBOUR: 'it returns false'. Refute it at one input. -/
def numBytesWrong : ChangeSpec := { name := "numBytes", fn := fun _ => fun
  | [d1, d2] => { results := [.lit (.bool false)], args := [d1, d2] }
  | _ => none }
def NumBytesWrongFalsely : Prop := numBytesRow.holds Try.pinned (OpenSpec.ofChange numBytesWrong)

/-- 'trucelaw01.NumBack': WHATEVER THE INPUT: true; the input reads as it did. -/
def numBackSpec : ChangeSpec := { name := "numBack", fn := fun _ => fun
  | [d1, d2] => { results := [.lit (.bool true)], args := [d1, d2] }
  | _ => none }
def numBackRow : OpenClaim := { program := "ytakmgioeldbkcaa", sum := "048285618cbfe8f86826a458d45149f941d222b1fd01bb729ae7b8d10e5f2d34", func := "truce/trucelaw01.NumBack", spec := "numBack", inPlace := ["math/bits.Add64", "math/bits.Sub64"], apart := false }
def NumBackSaid : Prop := numBackRow.holds Try.pinned (OpenSpec.ofChange numBackSpec)

/-- ITS FALSE NEIGHBOUR: 'it returns false'. Refute it at one input. -/
def numBackWrong : ChangeSpec := { name := "numBack", fn := fun _ => fun
  | [d1, d2] => { results := [.lit (.bool false)], args := [d1, d2] }
  | _ => none }
def NumBackWrongFalsely : Prop := numBackRow.holds Try.pinned (OpenSpec.ofChange numBackWrong)

/-- 'trucelaw01.NumBits': WHATEVER THE INPUT: true; the input reads as it did. -/
def numBitsSpec : ChangeSpec := { name := "numBits", fn := fun _ => fun
  | [d1, d2, d3] => { results := [.lit (.bool true)], args := [d1, d2, d3] }
  | _ => none }
def numBitsRow : OpenClaim := { program := "ytakmgioeldbkcaa", sum := "048285618cbfe8f86826a458d45149f941d222b1fd01bb729ae7b8d10e5f2d34", func := "truce/trucelaw01.NumBits", spec := "numBits", inPlace := ["math/bits.Add64", "math/bits.Sub64"], unfollowed := true, recurses := true, apart := false }
def NumBitsSaid : Prop := numBitsRow.holds Try.pinned (OpenSpec.ofChange numBitsSpec)

/-- ITS FALSE NEIGHBOUR: 'it returns false'. Refute it at one input. -/
def numBitsWrong : ChangeSpec := { name := "numBits", fn := fun _ => fun
  | [d1, d2, d3] => { results := [.lit (.bool false)], args := [d1, d2, d3] }
  | _ => none }
def NumBitsWrongFalsely : Prop := numBitsRow.holds Try.pinned (OpenSpec.ofChange numBitsWrong)

/-- 'trucelaw01.NumShifts': WHATEVER THE INPUT: true; the input reads as it did. -/
def numShiftsSpec : ChangeSpec := { name := "numShifts", fn := fun _ => fun
  | [d1, d2, d3] => { results := [.lit (.bool true)], args := [d1, d2, d3] }
  | _ => none }
def numShiftsRow : OpenClaim := { program := "ytakmgioeldbkcaa", sum := "048285618cbfe8f86826a458d45149f941d222b1fd01bb729ae7b8d10e5f2d34", func := "truce/trucelaw01.NumShifts", spec := "numShifts", inPlace := ["math/bits.Sub64", "math/bits.Add64"], unfollowed := true, recurses := true, apart := false }
def NumShiftsSaid : Prop := numShiftsRow.holds Try.pinned (OpenSpec.ofChange numShiftsSpec)

/-- ITS FALSE NEIGHBOUR: 'it returns false'. Refute it at one input. -/
def numShiftsWrong : ChangeSpec := { name := "numShifts", fn := fun _ => fun
  | [d1, d2, d3] => { results := [.lit (.bool false)], args := [d1, d2, d3] }
  | _ => none }
def NumShiftsWrongFalsely : Prop := numShiftsRow.holds Try.pinned (OpenSpec.ofChange numShiftsWrong)

/-- 'trucelaw02.MulDivs': WHATEVER THE INPUT: true; the input reads as it did. -/
def mulDivsSpec : ChangeSpec := { name := "mulDivs", fn := fun _ => fun
  | [d1, d2, d3] => { results := [.lit (.bool true)], args := [d1, d2, d3] }
  | _ => none }
def mulDivsRow : OpenClaim := { program := "ytakmgioeldbkcaa", sum := "048285618cbfe8f86826a458d45149f941d222b1fd01bb729ae7b8d10e5f2d34", func := "truce/trucelaw02.MulDivs", spec := "mulDivs", inPlace := ["math/bits.Sub64", "math/bits.Add64"], apart := false }
def MulDivsSaid : Prop := mulDivsRow.holds Try.pinned (OpenSpec.ofChange mulDivsSpec)

/-- ITS FALSE NEIGHBOUR: 'it returns false'. Refute it at one input. -/
def mulDivsWrong : ChangeSpec := { name := "mulDivs", fn := fun _ => fun
  | [d1, d2, d3] => { results := [.lit (.bool false)], args := [d1, d2, d3] }
  | _ => none }
def MulDivsWrongFalsely : Prop := mulDivsRow.holds Try.pinned (OpenSpec.ofChange mulDivsWrong)

/-- 'trucelaw02.MulBack': WHATEVER THE INPUT: true; the input reads as it did. -/
def mulBackSpec : ChangeSpec := { name := "mulBack", fn := fun _ => fun
  | [d1, d2] => { results := [.lit (.bool true)], args := [d1, d2] }
  | _ => none }
def mulBackRow : OpenClaim := { program := "ytakmgioeldbkcaa", sum := "048285618cbfe8f86826a458d45149f941d222b1fd01bb729ae7b8d10e5f2d34", func := "truce/trucelaw02.MulBack", spec := "mulBack", inPlace := ["math/bits.Sub64", "math/bits.Add64"], apart := false }
def MulBackSaid : Prop := mulBackRow.holds Try.pinned (OpenSpec.ofChange mulBackSpec)

/-- ITS FALSE NEIGHBOUR: 'it returns false'. Refute it at one input. -/
def mulBackWrong : ChangeSpec := { name := "mulBack", fn := fun _ => fun
  | [d1, d2] => { results := [.lit (.bool false)], args := [d1, d2] }
  | _ => none }
def MulBackWrongFalsely : Prop := mulBackRow.holds Try.pinned (OpenSpec.ofChange mulBackWrong)

/-- 'trucelaw02.MulRests': WHATEVER THE INPUT: true; the input reads as it did. -/
def mulRestsSpec : ChangeSpec := { name := "mulRests", fn := fun _ => fun
  | [d1, d2, d3] => { results := [.lit (.bool true)], args := [d1, d2, d3] }
  | _ => none }
def mulRestsRow : OpenClaim := { program := "ytakmgioeldbkcaa", sum := "048285618cbfe8f86826a458d45149f941d222b1fd01bb729ae7b8d10e5f2d34", func := "truce/trucelaw02.MulRests", spec := "mulRests", inPlace := ["math/bits.Add64", "math/bits.Sub64"], apart := false }
def MulRestsSaid : Prop := mulRestsRow.holds Try.pinned (OpenSpec.ofChange mulRestsSpec)

/-- ITS FALSE NEIGHBOUR: 'it returns false'. Refute it at one input. -/
def mulRestsWrong : ChangeSpec := { name := "mulRests", fn := fun _ => fun
  | [d1, d2, d3] => { results := [.lit (.bool false)], args := [d1, d2, d3] }
  | _ => none }
def MulRestsWrongFalsely : Prop := mulRestsRow.holds Try.pinned (OpenSpec.ofChange mulRestsWrong)

/-- 'trucelaw02.MulWides': WHATEVER THE INPUT: true; the input reads as it did. -/
def mulWidesSpec : ChangeSpec := { name := "mulWides", fn := fun _ => fun
  | [d1, d2] => { results := [.lit (.bool true)], args := [d1, d2] }
  | _ => none }
def mulWidesRow : OpenClaim := { program := "ytakmgioeldbkcaa", sum := "048285618cbfe8f86826a458d45149f941d222b1fd01bb729ae7b8d10e5f2d34", func := "truce/trucelaw02.MulWides", spec := "mulWides", inPlace := ["math/bits.Add64", "math/bits.Sub64"], apart := false }
def MulWidesSaid : Prop := mulWidesRow.holds Try.pinned (OpenSpec.ofChange mulWidesSpec)

/-- ITS FALSE NEIGHBOUR: 'it returns false'. Refute it at one input. -/
def mulWidesWrong : ChangeSpec := { name := "mulWides", fn := fun _ => fun
  | [d1, d2] => { results := [.lit (.bool false)], args := [d1, d2] }
  | _ => none }
def MulWidesWrongFalsely : Prop := mulWidesRow.holds Try.pinned (OpenSpec.ofChange mulWidesWrong)

/-- 'trucelaw02.MulSpreads': WHATEVER THE INPUT: true; the input reads as it did. -/
def mulSpreadsSpec : ChangeSpec := { name := "mulSpreads", fn := fun _ => fun
  | [d1, d2, d3] => { results := [.lit (.bool true)], args := [d1, d2, d3] }
  | _ => none }
def mulSpreadsRow : OpenClaim := { program := "ytakmgioeldbkcaa", sum := "048285618cbfe8f86826a458d45149f941d222b1fd01bb729ae7b8d10e5f2d34", func := "truce/trucelaw02.MulSpreads", spec := "mulSpreads", inPlace := ["math/bits.Add64", "math/bits.Sub64"], apart := false }
def MulSpreadsSaid : Prop := mulSpreadsRow.holds Try.pinned (OpenSpec.ofChange mulSpreadsSpec)

/-- ITS FALSE NEIGHBOUR: 'it returns false'. Refute it at one input. -/
def mulSpreadsWrong : ChangeSpec := { name := "mulSpreads", fn := fun _ => fun
  | [d1, d2, d3] => { results := [.lit (.bool false)], args := [d1, d2, d3] }
  | _ => none }
def MulSpreadsWrongFalsely : Prop := mulSpreadsRow.holds Try.pinned (OpenSpec.ofChange mulSpreadsWrong)

/-- 'trucelaw12.MemCosts': WHATEVER THE INPUT: true; the input reads as it did. -/
def memCostsSpec : ChangeSpec := { name := "memCosts", fn := fun _ => fun
  | [d1, d2] => { results := [.lit (.bool true)], args := [d1, d2] }
  | _ => none }
def memCostsRow : OpenClaim := { program := "ytakmgioeldbkcaa", sum := "048285618cbfe8f86826a458d45149f941d222b1fd01bb729ae7b8d10e5f2d34", func := "truce/trucelaw12.MemCosts", spec := "memCosts", inPlace := ["math/bits.Add64", "math/bits.Sub64", "internal/abi.NoEscape", "internal/bytealg.MakeNoZero"], unfollowed := true, recurses := true, apart := false }
def MemCostsSaid : Prop := memCostsRow.holds Try.pinned (OpenSpec.ofChange memCostsSpec)

/-- ITS FALSE NEIGHBOUR: 'it returns false'. Refute it at one input. -/
def memCostsWrong : ChangeSpec := { name := "memCosts", fn := fun _ => fun
  | [d1, d2] => { results := [.lit (.bool false)], args := [d1, d2] }
  | _ => none }
def MemCostsWrongFalsely : Prop := memCostsRow.holds Try.pinned (OpenSpec.ofChange memCostsWrong)

/-- 'trucelaw12.MemSlices': WHATEVER THE INPUT: true; the input reads as it did. -/
def memSlicesSpec : ChangeSpec := { name := "memSlices", fn := fun _ => fun
  | [d1, d2, d3, d4] => { results := [.lit (.bool true)], args := [d1, d2, d3, d4] }
  | _ => none }
def memSlicesRow : OpenClaim := { program := "ytakmgioeldbkcaa", sum := "048285618cbfe8f86826a458d45149f941d222b1fd01bb729ae7b8d10e5f2d34", func := "truce/trucelaw12.MemSlices", spec := "memSlices", inPlace := ["math/bits.Add64", "math/bits.Sub64", "internal/abi.NoEscape", "internal/bytealg.MakeNoZero"], unfollowed := true, recurses := true, apart := false }
def MemSlicesSaid : Prop := memSlicesRow.holds Try.pinned (OpenSpec.ofChange memSlicesSpec)

/-- ITS FALSE NEIGHBOUR: 'it returns false'. Refute it at one input. -/
def memSlicesWrong : ChangeSpec := { name := "memSlices", fn := fun _ => fun
  | [d1, d2, d3, d4] => { results := [.lit (.bool false)], args := [d1, d2, d3, d4] }
  | _ => none }
def MemSlicesWrongFalsely : Prop := memSlicesRow.holds Try.pinned (OpenSpec.ofChange memSlicesWrong)

/-- 'trucelaw12.MemWords': WHATEVER THE INPUT: true; the input reads as it did. -/
def memWordsSpec : ChangeSpec := { name := "memWords", fn := fun _ => fun
  | [d1, d2] => { results := [.lit (.bool true)], args := [d1, d2] }
  | _ => none }
def memWordsRow : OpenClaim := { program := "ytakmgioeldbkcaa", sum := "048285618cbfe8f86826a458d45149f941d222b1fd01bb729ae7b8d10e5f2d34", func := "truce/trucelaw12.MemWords", spec := "memWords", inPlace := ["math/bits.Add64", "math/bits.Sub64", "internal/abi.NoEscape", "internal/bytealg.MakeNoZero"], unfollowed := true, recurses := true, apart := false }
def MemWordsSaid : Prop := memWordsRow.holds Try.pinned (OpenSpec.ofChange memWordsSpec)

/-- ITS FALSE NEIGHBOUR: 'it returns false'. Refute it at one input. -/
def memWordsWrong : ChangeSpec := { name := "memWords", fn := fun _ => fun
  | [d1, d2] => { results := [.lit (.bool false)], args := [d1, d2] }
  | _ => none }
def MemWordsWrongFalsely : Prop := memWordsRow.holds Try.pinned (OpenSpec.ofChange memWordsWrong)

/-- 'trucelaw12.MemBack': WHATEVER THE INPUT: true; the input reads as it did. -/
def memBackSpec : ChangeSpec := { name := "memBack", fn := fun _ => fun
  | [d1, d2, d3] => { results := [.lit (.bool true)], args := [d1, d2, d3] }
  | _ => none }
def memBackRow : OpenClaim := { program := "ytakmgioeldbkcaa", sum := "048285618cbfe8f86826a458d45149f941d222b1fd01bb729ae7b8d10e5f2d34", func := "truce/trucelaw12.MemBack", spec := "memBack", inPlace := ["math/bits.Add64", "math/bits.Sub64", "internal/abi.NoEscape", "internal/bytealg.MakeNoZero"], unfollowed := true, recurses := true, apart := false }
def MemBackSaid : Prop := memBackRow.holds Try.pinned (OpenSpec.ofChange memBackSpec)

/-- ITS FALSE NEIGHBOUR: 'it returns false'. Refute it at one input. -/
def memBackWrong : ChangeSpec := { name := "memBack", fn := fun _ => fun
  | [d1, d2, d3] => { results := [.lit (.bool false)], args := [d1, d2, d3] }
  | _ => none }
def MemBackWrongFalsely : Prop := memBackRow.holds Try.pinned (OpenSpec.ofChange memBackWrong)

/-- 'trucelaw04.SignOrder': WHATEVER THE INPUT: true; the input reads as it did. -/
def signOrderSpec : ChangeSpec := { name := "signOrder", fn := fun _ => fun
  | [d1, d2] => { results := [.lit (.bool true)], args := [d1, d2] }
  | _ => none }
def signOrderRow : OpenClaim := { program := "ytakmgioeldbkcaa", sum := "048285618cbfe8f86826a458d45149f941d222b1fd01bb729ae7b8d10e5f2d34", func := "truce/trucelaw04.SignOrder", spec := "signOrder", inPlace := ["math/bits.Sub64", "math/bits.Add64"], unfollowed := true, recurses := true, apart := false }
def SignOrderSaid : Prop := signOrderRow.holds Try.pinned (OpenSpec.ofChange signOrderSpec)

/-- ITS FALSE NEIGHBOUR: 'it returns false'. Refute it at one input. -/
def signOrderWrong : ChangeSpec := { name := "signOrder", fn := fun _ => fun
  | [d1, d2] => { results := [.lit (.bool false)], args := [d1, d2] }
  | _ => none }
def SignOrderWrongFalsely : Prop := signOrderRow.holds Try.pinned (OpenSpec.ofChange signOrderWrong)

/-- 'trucelaw04.SignTells': WHATEVER THE INPUT: true; the input reads as it did. -/
def signTellsSpec : ChangeSpec := { name := "signTells", fn := fun _ => fun
  | [d1, d2, d3] => { results := [.lit (.bool true)], args := [d1, d2, d3] }
  | _ => none }
def signTellsRow : OpenClaim := { program := "ytakmgioeldbkcaa", sum := "048285618cbfe8f86826a458d45149f941d222b1fd01bb729ae7b8d10e5f2d34", func := "truce/trucelaw04.SignTells", spec := "signTells", inPlace := ["math/bits.Add64", "math/bits.Sub64"], unfollowed := true, recurses := true, apart := false }
def SignTellsSaid : Prop := signTellsRow.holds Try.pinned (OpenSpec.ofChange signTellsSpec)

/-- ITS FALSE NEIGHBOUR: 'it returns false'. Refute it at one input. -/
def signTellsWrong : ChangeSpec := { name := "signTells", fn := fun _ => fun
  | [d1, d2, d3] => { results := [.lit (.bool false)], args := [d1, d2, d3] }
  | _ => none }
def SignTellsWrongFalsely : Prop := signTellsRow.holds Try.pinned (OpenSpec.ofChange signTellsWrong)

/-- 'trucelaw04.SignBytes': WHATEVER THE INPUT: true; the input reads as it did. -/
def signBytesSpec : ChangeSpec := { name := "signBytes", fn := fun _ => fun
  | [d1, d2] => { results := [.lit (.bool true)], args := [d1, d2] }
  | _ => none }
def signBytesRow : OpenClaim := { program := "ytakmgioeldbkcaa", sum := "048285618cbfe8f86826a458d45149f941d222b1fd01bb729ae7b8d10e5f2d34", func := "truce/trucelaw04.SignBytes", spec := "signBytes", inPlace := ["math/bits.Sub64", "math/bits.Add64"], unfollowed := true, recurses := true, apart := false }
def SignBytesSaid : Prop := signBytesRow.holds Try.pinned (OpenSpec.ofChange signBytesSpec)

/-- ITS FALSE NEIGHBOUR: 'it returns false'. Refute it at one input. -/
def signBytesWrong : ChangeSpec := { name := "signBytes", fn := fun _ => fun
  | [d1, d2] => { results := [.lit (.bool false)], args := [d1, d2] }
  | _ => none }
def SignBytesWrongFalsely : Prop := signBytesRow.holds Try.pinned (OpenSpec.ofChange signBytesWrong)

/-- 'trucelaw04.SignBack': WHATEVER THE INPUT: true; the input reads as it did. -/
def signBackSpec : ChangeSpec := { name := "signBack", fn := fun _ => fun
  | [d1, d2] => { results := [.lit (.bool true)], args := [d1, d2] }
  | _ => none }
def signBackRow : OpenClaim := { program := "ytakmgioeldbkcaa", sum := "048285618cbfe8f86826a458d45149f941d222b1fd01bb729ae7b8d10e5f2d34", func := "truce/trucelaw04.SignBack", spec := "signBack", inPlace := ["math/bits.Add64", "math/bits.Sub64"], unfollowed := true, recurses := true, apart := false }
def SignBackSaid : Prop := signBackRow.holds Try.pinned (OpenSpec.ofChange signBackSpec)

/-- ITS FALSE NEIGHBOUR: 'it returns false'. Refute it at one input. -/
def signBackWrong : ChangeSpec := { name := "signBack", fn := fun _ => fun
  | [d1, d2] => { results := [.lit (.bool false)], args := [d1, d2] }
  | _ => none }
def SignBackWrongFalsely : Prop := signBackRow.holds Try.pinned (OpenSpec.ofChange signBackWrong)

/-- 'trucelaw03.ModuInverse': WHATEVER THE INPUT: true; the input reads as it did. -/
def moduInverseSpec : ChangeSpec := { name := "moduInverse", fn := fun _ => fun
  | [d1, d2] => { results := [.lit (.bool true)], args := [d1, d2] }
  | _ => none }
def moduInverseRow : OpenClaim := { program := "ytakmgioeldbkcaa", sum := "048285618cbfe8f86826a458d45149f941d222b1fd01bb729ae7b8d10e5f2d34", func := "truce/trucelaw03.ModuInverse", spec := "moduInverse", inPlace := ["math/bits.Sub64", "math/bits.Add64"], unfollowed := true, recurses := true, apart := false }
def ModuInverseSaid : Prop := moduInverseRow.holds Try.pinned (OpenSpec.ofChange moduInverseSpec)

/-- ITS FALSE NEIGHBOUR: 'it returns false'. Refute it at one input. -/
def moduInverseWrong : ChangeSpec := { name := "moduInverse", fn := fun _ => fun
  | [d1, d2] => { results := [.lit (.bool false)], args := [d1, d2] }
  | _ => none }
def ModuInverseWrongFalsely : Prop := moduInverseRow.holds Try.pinned (OpenSpec.ofChange moduInverseWrong)

/-- 'trucelaw03.ModuSpreads': WHATEVER THE INPUT: true; the input reads as it did. -/
def moduSpreadsSpec : ChangeSpec := { name := "moduSpreads", fn := fun _ => fun
  | [d1, d2, d3, d4] => { results := [.lit (.bool true)], args := [d1, d2, d3, d4] }
  | _ => none }
def moduSpreadsRow : OpenClaim := { program := "ytakmgioeldbkcaa", sum := "048285618cbfe8f86826a458d45149f941d222b1fd01bb729ae7b8d10e5f2d34", func := "truce/trucelaw03.ModuSpreads", spec := "moduSpreads", inPlace := ["math/bits.Add64", "math/bits.Sub64"], unfollowed := true, recurses := true, apart := false }
def ModuSpreadsSaid : Prop := moduSpreadsRow.holds Try.pinned (OpenSpec.ofChange moduSpreadsSpec)

/-- ITS FALSE NEIGHBOUR: 'it returns false'. Refute it at one input. -/
def moduSpreadsWrong : ChangeSpec := { name := "moduSpreads", fn := fun _ => fun
  | [d1, d2, d3, d4] => { results := [.lit (.bool false)], args := [d1, d2, d3, d4] }
  | _ => none }
def ModuSpreadsWrongFalsely : Prop := moduSpreadsRow.holds Try.pinned (OpenSpec.ofChange moduSpreadsWrong)

/-- 'trucelaw03.ModuTells': WHATEVER THE INPUT: true; the input reads as it did. -/
def moduTellsSpec : ChangeSpec := { name := "moduTells", fn := fun _ => fun
  | [d1, d2, d3] => { results := [.lit (.bool true)], args := [d1, d2, d3] }
  | _ => none }
def moduTellsRow : OpenClaim := { program := "ytakmgioeldbkcaa", sum := "048285618cbfe8f86826a458d45149f941d222b1fd01bb729ae7b8d10e5f2d34", func := "truce/trucelaw03.ModuTells", spec := "moduTells", inPlace := ["math/bits.Sub64", "math/bits.Add64"], unfollowed := true, recurses := true, apart := false }
def ModuTellsSaid : Prop := moduTellsRow.holds Try.pinned (OpenSpec.ofChange moduTellsSpec)

/-- ITS FALSE NEIGHBOUR: 'it returns false'. Refute it at one input. -/
def moduTellsWrong : ChangeSpec := { name := "moduTells", fn := fun _ => fun
  | [d1, d2, d3] => { results := [.lit (.bool false)], args := [d1, d2, d3] }
  | _ => none }
def ModuTellsWrongFalsely : Prop := moduTellsRow.holds Try.pinned (OpenSpec.ofChange moduTellsWrong)

/-- 'trucelaw03.ModuPowers': WHATEVER THE INPUT: true; the input reads as it did. -/
def moduPowersSpec : ChangeSpec := { name := "moduPowers", fn := fun _ => fun
  | [d1, d2, d3, d4] => { results := [.lit (.bool true)], args := [d1, d2, d3, d4] }
  | _ => none }
def moduPowersRow : OpenClaim := { program := "ytakmgioeldbkcaa", sum := "048285618cbfe8f86826a458d45149f941d222b1fd01bb729ae7b8d10e5f2d34", func := "truce/trucelaw03.ModuPowers", spec := "moduPowers", inPlace := ["math/bits.Add64", "math/bits.Sub64"], unfollowed := true, recurses := true, apart := false }
def ModuPowersSaid : Prop := moduPowersRow.holds Try.pinned (OpenSpec.ofChange moduPowersSpec)

/-- ITS FALSE NEIGHBOUR: 'it returns false'. Refute it at one input. -/
def moduPowersWrong : ChangeSpec := { name := "moduPowers", fn := fun _ => fun
  | [d1, d2, d3, d4] => { results := [.lit (.bool false)], args := [d1, d2, d3, d4] }
  | _ => none }
def ModuPowersWrongFalsely : Prop := moduPowersRow.holds Try.pinned (OpenSpec.ofChange moduPowersWrong)

/-- 'trucelaw03.ModuTwice': WHATEVER THE INPUT: true; the input reads as it did. -/
def moduTwiceSpec : ChangeSpec := { name := "moduTwice", fn := fun _ => fun
  | [d1, d2, d3, d4] => { results := [.lit (.bool true)], args := [d1, d2, d3, d4] }
  | _ => none }
def moduTwiceRow : OpenClaim := { program := "ytakmgioeldbkcaa", sum := "048285618cbfe8f86826a458d45149f941d222b1fd01bb729ae7b8d10e5f2d34", func := "truce/trucelaw03.ModuTwice", spec := "moduTwice", inPlace := ["math/bits.Add64", "math/bits.Sub64"], unfollowed := true, recurses := true, apart := false }
def ModuTwiceSaid : Prop := moduTwiceRow.holds Try.pinned (OpenSpec.ofChange moduTwiceSpec)

/-- ITS FALSE NEIGHBOUR: 'it returns false'. Refute it at one input. -/
def moduTwiceWrong : ChangeSpec := { name := "moduTwice", fn := fun _ => fun
  | [d1, d2, d3, d4] => { results := [.lit (.bool false)], args := [d1, d2, d3, d4] }
  | _ => none }
def ModuTwiceWrongFalsely : Prop := moduTwiceRow.holds Try.pinned (OpenSpec.ofChange moduTwiceWrong)

/- THE SECOND FORM. 'bulk': how many values and letters a reading holds, each counted each time it is reached (what is shared counts as often as it is met; a slice's spare places count too). A statement '..UptoSaid' is the law's where the arguments, and the package variables that the reading takes, are together of bulk at most 1048576: NARROWER than '..Said'. Prove '..Said' where nothing that the law and all that it calls make is longer than what came in: it says more and counts as full. Else prove '..UptoSaid'. A law counts once. -/
mutual
def uptoBulk {H : Type} : DataW H → Nat
  | .lit (.string bytes) => bytes.length + 1
  | .lit _ => 1
  | .nil => 1
  | .ptr d => uptoBulk d + 1
  | .slice elems spare => uptoBulkAll elems + uptoBulkAll spare + 1
  | .agg parts => uptoBulkAll parts + 1
  | .iface _ d => uptoBulk d + 1
  | .map entries => uptoBulkEntries entries + 1
  | .held _ => 1
def uptoBulkAll {H : Type} : List (DataW H) → Nat
  | [] => 0
  | d :: r => uptoBulk d + uptoBulkAll r
def uptoBulkEntries {H : Type} : List (Lit × DataW H) → Nat
  | [] => 0
  | x :: r => uptoBulkEntry x + uptoBulkEntries r
def uptoBulkEntry {H : Type} : Lit × DataW H → Nat
  | (.string bytes, d) => bytes.length + uptoBulk d + 1
  | (_, d) => uptoBulk d + 1
 end
def uptoSmall : (H : Type) → List (DataW H) → Bool := fun _ ds => decide (uptoBulkAll ds ≤ 1048576)
def OpenSpec.upto (s : _root_.Go.ChangeSpec) : _root_.Go.OpenSpec := { _root_.Go.OpenSpec.ofChange s with cond := some uptoSmall }

/-- 'trucelaw01.NumSums', WHERE WHAT IT READS IS OF BULK AT MOST 1048576: true; the input reads as it did. -/
def numSumsUptoRow : OpenClaim := { program := "ytakmgioeldbkcaa", sum := "048285618cbfe8f86826a458d45149f941d222b1fd01bb729ae7b8d10e5f2d34", func := "truce/trucelaw01.NumSums", spec := "numSums", inPlace := ["math/bits.Add64", "math/bits.Sub64"], apart := false, narrowed := true }
def NumSumsUptoSaid : Prop := numSumsUptoRow.holds Try.pinned (OpenSpec.upto numSumsSpec)

/-- 'trucelaw01.NumOrders', WHERE WHAT IT READS IS OF BULK AT MOST 1048576: true; the input reads as it did. -/
def numOrdersUptoRow : OpenClaim := { program := "ytakmgioeldbkcaa", sum := "048285618cbfe8f86826a458d45149f941d222b1fd01bb729ae7b8d10e5f2d34", func := "truce/trucelaw01.NumOrders", spec := "numOrders", inPlace := ["math/bits.Add64", "math/bits.Sub64"], unfollowed := true, recurses := true, apart := false, narrowed := true }
def NumOrdersUptoSaid : Prop := numOrdersUptoRow.holds Try.pinned (OpenSpec.upto numOrdersSpec)

/-- 'trucelaw01.NumBytes', WHERE WHAT IT READS IS OF BULK AT MOST 1048576: true; the input reads as it did. -/
def numBytesUptoRow : OpenClaim := { program := "ytakmgioeldbkcaa", sum := "048285618cbfe8f86826a458d45149f941d222b1fd01bb729ae7b8d10e5f2d34", func := "truce/trucelaw01.NumBytes", spec := "numBytes", inPlace := ["math/bits.Add64", "math/bits.Sub64"], apart := false, narrowed := true }
def NumBytesUptoSaid : Prop := numBytesUptoRow.holds Try.pinned (OpenSpec.upto numBytesSpec)

/-- 'trucelaw01.NumBack', WHERE WHAT IT READS IS OF BULK AT MOST 1048576: true; the input reads as it did. -/
def numBackUptoRow : OpenClaim := { program := "ytakmgioeldbkcaa", sum := "048285618cbfe8f86826a458d45149f941d222b1fd01bb729ae7b8d10e5f2d34", func := "truce/trucelaw01.NumBack", spec := "numBack", inPlace := ["math/bits.Add64", "math/bits.Sub64"], apart := false, narrowed := true }
def NumBackUptoSaid : Prop := numBackUptoRow.holds Try.pinned (OpenSpec.upto numBackSpec)

/-- 'trucelaw01.NumBits', WHERE WHAT IT READS IS OF BULK AT MOST 1048576: true; the input reads as it did. -/
def numBitsUptoRow : OpenClaim := { program := "ytakmgioeldbkcaa", sum := "048285618cbfe8f86826a458d45149f941d222b1fd01bb729ae7b8d10e5f2d34", func := "truce/trucelaw01.NumBits", spec := "numBits", inPlace := ["math/bits.Add64", "math/bits.Sub64"], unfollowed := true, recurses := true, apart := false, narrowed := true }
def NumBitsUptoSaid : Prop := numBitsUptoRow.holds Try.pinned (OpenSpec.upto numBitsSpec)

/-- 'trucelaw01.NumShifts', WHERE WHAT IT READS IS OF BULK AT MOST 1048576: true; the input reads as it did. -/
def numShiftsUptoRow : OpenClaim := { program := "ytakmgioeldbkcaa", sum := "048285618cbfe8f86826a458d45149f941d222b1fd01bb729ae7b8d10e5f2d34", func := "truce/trucelaw01.NumShifts", spec := "numShifts", inPlace := ["math/bits.Sub64", "math/bits.Add64"], unfollowed := true, recurses := true, apart := false, narrowed := true }
def NumShiftsUptoSaid : Prop := numShiftsUptoRow.holds Try.pinned (OpenSpec.upto numShiftsSpec)

/-- 'trucelaw02.MulDivs', WHERE WHAT IT READS IS OF BULK AT MOST 1048576: true; the input reads as it did. -/
def mulDivsUptoRow : OpenClaim := { program := "ytakmgioeldbkcaa", sum := "048285618cbfe8f86826a458d45149f941d222b1fd01bb729ae7b8d10e5f2d34", func := "truce/trucelaw02.MulDivs", spec := "mulDivs", inPlace := ["math/bits.Sub64", "math/bits.Add64"], apart := false, narrowed := true }
def MulDivsUptoSaid : Prop := mulDivsUptoRow.holds Try.pinned (OpenSpec.upto mulDivsSpec)

/-- 'trucelaw02.MulBack', WHERE WHAT IT READS IS OF BULK AT MOST 1048576: true; the input reads as it did. -/
def mulBackUptoRow : OpenClaim := { program := "ytakmgioeldbkcaa", sum := "048285618cbfe8f86826a458d45149f941d222b1fd01bb729ae7b8d10e5f2d34", func := "truce/trucelaw02.MulBack", spec := "mulBack", inPlace := ["math/bits.Sub64", "math/bits.Add64"], apart := false, narrowed := true }
def MulBackUptoSaid : Prop := mulBackUptoRow.holds Try.pinned (OpenSpec.upto mulBackSpec)

/-- 'trucelaw02.MulRests', WHERE WHAT IT READS IS OF BULK AT MOST 1048576: true; the input reads as it did. -/
def mulRestsUptoRow : OpenClaim := { program := "ytakmgioeldbkcaa", sum := "048285618cbfe8f86826a458d45149f941d222b1fd01bb729ae7b8d10e5f2d34", func := "truce/trucelaw02.MulRests", spec := "mulRests", inPlace := ["math/bits.Add64", "math/bits.Sub64"], apart := false, narrowed := true }
def MulRestsUptoSaid : Prop := mulRestsUptoRow.holds Try.pinned (OpenSpec.upto mulRestsSpec)

/-- 'trucelaw02.MulWides', WHERE WHAT IT READS IS OF BULK AT MOST 1048576: true; the input reads as it did. -/
def mulWidesUptoRow : OpenClaim := { program := "ytakmgioeldbkcaa", sum := "048285618cbfe8f86826a458d45149f941d222b1fd01bb729ae7b8d10e5f2d34", func := "truce/trucelaw02.MulWides", spec := "mulWides", inPlace := ["math/bits.Add64", "math/bits.Sub64"], apart := false, narrowed := true }
def MulWidesUptoSaid : Prop := mulWidesUptoRow.holds Try.pinned (OpenSpec.upto mulWidesSpec)

/-- 'trucelaw02.MulSpreads', WHERE WHAT IT READS IS OF BULK AT MOST 1048576: true; the input reads as it did. -/
def mulSpreadsUptoRow : OpenClaim := { program := "ytakmgioeldbkcaa", sum := "048285618cbfe8f86826a458d45149f941d222b1fd01bb729ae7b8d10e5f2d34", func := "truce/trucelaw02.MulSpreads", spec := "mulSpreads", inPlace := ["math/bits.Add64", "math/bits.Sub64"], apart := false, narrowed := true }
def MulSpreadsUptoSaid : Prop := mulSpreadsUptoRow.holds Try.pinned (OpenSpec.upto mulSpreadsSpec)

/-- 'trucelaw12.MemCosts', WHERE WHAT IT READS IS OF BULK AT MOST 1048576: true; the input reads as it did. -/
def memCostsUptoRow : OpenClaim := { program := "ytakmgioeldbkcaa", sum := "048285618cbfe8f86826a458d45149f941d222b1fd01bb729ae7b8d10e5f2d34", func := "truce/trucelaw12.MemCosts", spec := "memCosts", inPlace := ["math/bits.Add64", "math/bits.Sub64", "internal/abi.NoEscape", "internal/bytealg.MakeNoZero"], unfollowed := true, recurses := true, apart := false, narrowed := true }
def MemCostsUptoSaid : Prop := memCostsUptoRow.holds Try.pinned (OpenSpec.upto memCostsSpec)

/-- 'trucelaw12.MemSlices', WHERE WHAT IT READS IS OF BULK AT MOST 1048576: true; the input reads as it did. -/
def memSlicesUptoRow : OpenClaim := { program := "ytakmgioeldbkcaa", sum := "048285618cbfe8f86826a458d45149f941d222b1fd01bb729ae7b8d10e5f2d34", func := "truce/trucelaw12.MemSlices", spec := "memSlices", inPlace := ["math/bits.Add64", "math/bits.Sub64", "internal/abi.NoEscape", "internal/bytealg.MakeNoZero"], unfollowed := true, recurses := true, apart := false, narrowed := true }
def MemSlicesUptoSaid : Prop := memSlicesUptoRow.holds Try.pinned (OpenSpec.upto memSlicesSpec)

/-- 'trucelaw12.MemWords', WHERE WHAT IT READS IS OF BULK AT MOST 1048576: true; the input reads as it did. -/
def memWordsUptoRow : OpenClaim := { program := "ytakmgioeldbkcaa", sum := "048285618cbfe8f86826a458d45149f941d222b1fd01bb729ae7b8d10e5f2d34", func := "truce/trucelaw12.MemWords", spec := "memWords", inPlace := ["math/bits.Add64", "math/bits.Sub64", "internal/abi.NoEscape", "internal/bytealg.MakeNoZero"], unfollowed := true, recurses := true, apart := false, narrowed := true }
def MemWordsUptoSaid : Prop := memWordsUptoRow.holds Try.pinned (OpenSpec.upto memWordsSpec)

/-- 'trucelaw12.MemBack', WHERE WHAT IT READS IS OF BULK AT MOST 1048576: true; the input reads as it did. -/
def memBackUptoRow : OpenClaim := { program := "ytakmgioeldbkcaa", sum := "048285618cbfe8f86826a458d45149f941d222b1fd01bb729ae7b8d10e5f2d34", func := "truce/trucelaw12.MemBack", spec := "memBack", inPlace := ["math/bits.Add64", "math/bits.Sub64", "internal/abi.NoEscape", "internal/bytealg.MakeNoZero"], unfollowed := true, recurses := true, apart := false, narrowed := true }
def MemBackUptoSaid : Prop := memBackUptoRow.holds Try.pinned (OpenSpec.upto memBackSpec)

/-- 'trucelaw04.SignOrder', WHERE WHAT IT READS IS OF BULK AT MOST 1048576: true; the input reads as it did. -/
def signOrderUptoRow : OpenClaim := { program := "ytakmgioeldbkcaa", sum := "048285618cbfe8f86826a458d45149f941d222b1fd01bb729ae7b8d10e5f2d34", func := "truce/trucelaw04.SignOrder", spec := "signOrder", inPlace := ["math/bits.Sub64", "math/bits.Add64"], unfollowed := true, recurses := true, apart := false, narrowed := true }
def SignOrderUptoSaid : Prop := signOrderUptoRow.holds Try.pinned (OpenSpec.upto signOrderSpec)

/-- 'trucelaw04.SignTells', WHERE WHAT IT READS IS OF BULK AT MOST 1048576: true; the input reads as it did. -/
def signTellsUptoRow : OpenClaim := { program := "ytakmgioeldbkcaa", sum := "048285618cbfe8f86826a458d45149f941d222b1fd01bb729ae7b8d10e5f2d34", func := "truce/trucelaw04.SignTells", spec := "signTells", inPlace := ["math/bits.Add64", "math/bits.Sub64"], unfollowed := true, recurses := true, apart := false, narrowed := true }
def SignTellsUptoSaid : Prop := signTellsUptoRow.holds Try.pinned (OpenSpec.upto signTellsSpec)

/-- 'trucelaw04.SignBytes', WHERE WHAT IT READS IS OF BULK AT MOST 1048576: true; the input reads as it did. -/
def signBytesUptoRow : OpenClaim := { program := "ytakmgioeldbkcaa", sum := "048285618cbfe8f86826a458d45149f941d222b1fd01bb729ae7b8d10e5f2d34", func := "truce/trucelaw04.SignBytes", spec := "signBytes", inPlace := ["math/bits.Sub64", "math/bits.Add64"], unfollowed := true, recurses := true, apart := false, narrowed := true }
def SignBytesUptoSaid : Prop := signBytesUptoRow.holds Try.pinned (OpenSpec.upto signBytesSpec)

/-- 'trucelaw04.SignBack', WHERE WHAT IT READS IS OF BULK AT MOST 1048576: true; the input reads as it did. -/
def signBackUptoRow : OpenClaim := { program := "ytakmgioeldbkcaa", sum := "048285618cbfe8f86826a458d45149f941d222b1fd01bb729ae7b8d10e5f2d34", func := "truce/trucelaw04.SignBack", spec := "signBack", inPlace := ["math/bits.Add64", "math/bits.Sub64"], unfollowed := true, recurses := true, apart := false, narrowed := true }
def SignBackUptoSaid : Prop := signBackUptoRow.holds Try.pinned (OpenSpec.upto signBackSpec)

/-- 'trucelaw03.ModuInverse', WHERE WHAT IT READS IS OF BULK AT MOST 1048576: true; the input reads as it did. -/
def moduInverseUptoRow : OpenClaim := { program := "ytakmgioeldbkcaa", sum := "048285618cbfe8f86826a458d45149f941d222b1fd01bb729ae7b8d10e5f2d34", func := "truce/trucelaw03.ModuInverse", spec := "moduInverse", inPlace := ["math/bits.Sub64", "math/bits.Add64"], unfollowed := true, recurses := true, apart := false, narrowed := true }
def ModuInverseUptoSaid : Prop := moduInverseUptoRow.holds Try.pinned (OpenSpec.upto moduInverseSpec)

/-- 'trucelaw03.ModuSpreads', WHERE WHAT IT READS IS OF BULK AT MOST 1048576: true; the input reads as it did. -/
def moduSpreadsUptoRow : OpenClaim := { program := "ytakmgioeldbkcaa", sum := "048285618cbfe8f86826a458d45149f941d222b1fd01bb729ae7b8d10e5f2d34", func := "truce/trucelaw03.ModuSpreads", spec := "moduSpreads", inPlace := ["math/bits.Add64", "math/bits.Sub64"], unfollowed := true, recurses := true, apart := false, narrowed := true }
def ModuSpreadsUptoSaid : Prop := moduSpreadsUptoRow.holds Try.pinned (OpenSpec.upto moduSpreadsSpec)

/-- 'trucelaw03.ModuTells', WHERE WHAT IT READS IS OF BULK AT MOST 1048576: true; the input reads as it did. -/
def moduTellsUptoRow : OpenClaim := { program := "ytakmgioeldbkcaa", sum := "048285618cbfe8f86826a458d45149f941d222b1fd01bb729ae7b8d10e5f2d34", func := "truce/trucelaw03.ModuTells", spec := "moduTells", inPlace := ["math/bits.Sub64", "math/bits.Add64"], unfollowed := true, recurses := true, apart := false, narrowed := true }
def ModuTellsUptoSaid : Prop := moduTellsUptoRow.holds Try.pinned (OpenSpec.upto moduTellsSpec)

/-- 'trucelaw03.ModuPowers', WHERE WHAT IT READS IS OF BULK AT MOST 1048576: true; the input reads as it did. -/
def moduPowersUptoRow : OpenClaim := { program := "ytakmgioeldbkcaa", sum := "048285618cbfe8f86826a458d45149f941d222b1fd01bb729ae7b8d10e5f2d34", func := "truce/trucelaw03.ModuPowers", spec := "moduPowers", inPlace := ["math/bits.Add64", "math/bits.Sub64"], unfollowed := true, recurses := true, apart := false, narrowed := true }
def ModuPowersUptoSaid : Prop := moduPowersUptoRow.holds Try.pinned (OpenSpec.upto moduPowersSpec)

/-- 'trucelaw03.ModuTwice', WHERE WHAT IT READS IS OF BULK AT MOST 1048576: true; the input reads as it did. -/
def moduTwiceUptoRow : OpenClaim := { program := "ytakmgioeldbkcaa", sum := "048285618cbfe8f86826a458d45149f941d222b1fd01bb729ae7b8d10e5f2d34", func := "truce/trucelaw03.ModuTwice", spec := "moduTwice", inPlace := ["math/bits.Add64", "math/bits.Sub64"], unfollowed := true, recurses := true, apart := false, narrowed := true }
def ModuTwiceUptoSaid : Prop := moduTwiceUptoRow.holds Try.pinned (OpenSpec.upto moduTwiceSpec)

end Rows
end Go.Proofs.Ytakmgioeldbkcaa
