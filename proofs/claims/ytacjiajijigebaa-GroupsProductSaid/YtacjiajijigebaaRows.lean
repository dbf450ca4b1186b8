/-
  NARROWER THAN 'FOR EVERY INPUT', by the rows' own cells (each row's printed sentence says how): PrimesCheck: loops · PrimesProduct: loops · PrimesParts: loops · PrimesTurned: loops · PrimesLeft: loops · GroupsCheck: loops.
  DERIVED. THE GIVEN ROWS OF THIS SEAT. 26 by the template 'for every input the law returns true; each argument reads behind the call as it read before'; 0 by the template 'total and deterministic' (their statements: YtacjiajijigebaaTotals.lean).
  GIVEN WITH THE SEED: the statements are not yours to turn. If you find one false, say at which input.
  Laid BY PROGRAM, IN A SANDBOX (cutbox-rows.mjs): the forced cells as the released guide's own fill.sh prints them over the translation de7d2b574011868d… (all of the seat's roots in one cut). By AI agents, Wed Nov 11 2026. No macro, syntax, notation, axiom, sorry.
-/
import Derived.Test.YtacjiajijigebaaChecked
import GoSem.Claim
import GoSem.ClaimJoined
import GoSem.ClaimMapViews
import Derived.JoinedTies
import Derived.KernelRfl
namespace Go.Proofs.Ytacjiajijigebaa
/- THE CELL 'sum', in the pinned program and in every row, IS THE sha256 OF THE DUMP (.gsa) THAT YtacjiajijigebaaProg.lean LOADS. Nothing in Lean hashes anything: it is a label: what it is worth is what the hold of that sum in a sandbox is worth. -/
noncomputable def Try.pinned : Pinned := { name := "ytacjiajijigebaa", sum := "de7d2b574011868d9cd92407e7e3c1acfd1304c5a19b0b93af2c0061d07db386", checked := Try.checked }
namespace Rows
def none {H : Type} : Left H := { results := [], args := [] }

/-- 'balefirelaw07.PrimesSmall': WHATEVER THE INPUT: true; the input reads as it did. -/
def primesSmallSpec : ChangeSpec := { name := "primesSmall", fn := fun _ => fun
  | [d] => { results := [.lit (.bool true)], args := [d] }
  | _ => none }
def primesSmallRow : OpenClaim := { program := "ytacjiajijigebaa", sum := "de7d2b574011868d9cd92407e7e3c1acfd1304c5a19b0b93af2c0061d07db386", func := "balefire/balefirelaw07.PrimesSmall", spec := "primesSmall", apart := false }
def PrimesSmallSaid : Prop := primesSmallRow.holds Try.pinned (OpenSpec.ofChange primesSmallSpec)

/-- ITS FALSE NEIGHBOUR: 'it returns false'. Refute it at one input. -/
def primesSmallWrong : ChangeSpec := { name := "primesSmall", fn := fun _ => fun
  | [d] => { results := [.lit (.bool false)], args := [d] }
  | _ => none }
def PrimesSmallWrongFalsely : Prop := primesSmallRow.holds Try.pinned (OpenSpec.ofChange primesSmallWrong)

/-- 'balefirelaw06.HashesOf': WHATEVER THE INPUT: true; the input reads as it did. -/
def hashesOfSpec : ChangeSpec := { name := "hashesOf", fn := fun _ => fun
  | [d1, d2, d3] => { results := [.lit (.bool true)], args := [d1, d2, d3] }
  | _ => none }
def hashesOfRow : OpenClaim := { program := "ytacjiajijigebaa", sum := "de7d2b574011868d9cd92407e7e3c1acfd1304c5a19b0b93af2c0061d07db386", func := "balefire/balefirelaw06.HashesOf", spec := "hashesOf", inPlace := ["math/bits.Add64", "math/bits.Sub64"], unfollowed := true, recurses := true, named := ["math/bits.divideError", "math/bits.overflowError"], apart := false }
def HashesOfSaid : Prop := hashesOfRow.holds Try.pinned (OpenSpec.ofChange hashesOfSpec)

/-- ITS FALSE NEIGHBOUR: 'it returns false'. Refute it at one input. -/
def hashesOfWrong : ChangeSpec := { name := "hashesOf", fn := fun _ => fun
  | [d1, d2, d3] => { results := [.lit (.bool false)], args := [d1, d2, d3] }
  | _ => none }
def HashesOfWrongFalsely : Prop := hashesOfRow.holds Try.pinned (OpenSpec.ofChange hashesOfWrong)

/-- 'balefirelaw06.HashesBytes': WHATEVER THE INPUT: true; the input reads as it did. -/
def hashesBytesSpec : ChangeSpec := { name := "hashesBytes", fn := fun _ => fun
  | [d1, d2, d3] => { results := [.lit (.bool true)], args := [d1, d2, d3] }
  | _ => none }
def hashesBytesRow : OpenClaim := { program := "ytacjiajijigebaa", sum := "de7d2b574011868d9cd92407e7e3c1acfd1304c5a19b0b93af2c0061d07db386", func := "balefire/balefirelaw06.HashesBytes", spec := "hashesBytes", inPlace := ["math/bits.Add64", "math/bits.Sub64"], unfollowed := true, recurses := true, named := ["math/bits.divideError", "math/bits.overflowError"], apart := false }
def HashesBytesSaid : Prop := hashesBytesRow.holds Try.pinned (OpenSpec.ofChange hashesBytesSpec)

/-- ITS FALSE NEIGHBOUR: 'it returns false'. Refute it at one input. -/
def hashesBytesWrong : ChangeSpec := { name := "hashesBytes", fn := fun _ => fun
  | [d1, d2, d3] => { results := [.lit (.bool false)], args := [d1, d2, d3] }
  | _ => none }
def HashesBytesWrongFalsely : Prop := hashesBytesRow.holds Try.pinned (OpenSpec.ofChange hashesBytesWrong)

/-- 'balefirelaw08.GroupsOf': WHATEVER THE INPUT: true; the input reads as it did. -/
def groupsOfSpec : ChangeSpec := { name := "groupsOf", fn := fun _ => fun
  | [d1, d2, d3] => { results := [.lit (.bool true)], args := [d1, d2, d3] }
  | _ => none }
def groupsOfRow : OpenClaim := { program := "ytacjiajijigebaa", sum := "de7d2b574011868d9cd92407e7e3c1acfd1304c5a19b0b93af2c0061d07db386", func := "balefire/balefirelaw08.GroupsOf", spec := "groupsOf", inPlace := ["math/bits.Sub64", "math/bits.Add64"], unfollowed := true, recurses := true, named := ["math/bits.divideError", "math/bits.overflowError"], apart := false }
def GroupsOfSaid : Prop := groupsOfRow.holds Try.pinned (OpenSpec.ofChange groupsOfSpec)

/-- ITS FALSE NEIGHBOUR: 'it returns false'. Refute it at one input. -/
def groupsOfWrong : ChangeSpec := { name := "groupsOf", fn := fun _ => fun
  | [d1, d2, d3] => { results := [.lit (.bool false)], args := [d1, d2, d3] }
  | _ => none }
def GroupsOfWrongFalsely : Prop := groupsOfRow.holds Try.pinned (OpenSpec.ofChange groupsOfWrong)

/-- 'balefirelaw06.HashesHalves': WHATEVER THE INPUT: true; the input reads as it did. -/
def hashesHalvesSpec : ChangeSpec := { name := "hashesHalves", fn := fun _ => fun
  | [d1, d2, d3] => { results := [.lit (.bool true)], args := [d1, d2, d3] }
  | _ => none }
def hashesHalvesRow : OpenClaim := { program := "ytacjiajijigebaa", sum := "de7d2b574011868d9cd92407e7e3c1acfd1304c5a19b0b93af2c0061d07db386", func := "balefire/balefirelaw06.HashesHalves", spec := "hashesHalves", inPlace := ["math/bits.Add64", "math/bits.Sub64"], unfollowed := true, recurses := true, named := ["math/bits.divideError", "math/bits.overflowError"], apart := false }
def HashesHalvesSaid : Prop := hashesHalvesRow.holds Try.pinned (OpenSpec.ofChange hashesHalvesSpec)

/-- ITS FALSE NEIGHBOUR: 'it returns false'. Refute it at one input. -/
def hashesHalvesWrong : ChangeSpec := { name := "hashesHalves", fn := fun _ => fun
  | [d1, d2, d3] => { results := [.lit (.bool false)], args := [d1, d2, d3] }
  | _ => none }
def HashesHalvesWrongFalsely : Prop := hashesHalvesRow.holds Try.pinned (OpenSpec.ofChange hashesHalvesWrong)

/-- 'balefirelaw07.PrimesCheck': WHATEVER THE INPUT: true; the input reads as it did. -/
def primesCheckSpec : ChangeSpec := { name := "primesCheck", fn := fun _ => fun
  | [d] => { results := [.lit (.bool true)], args := [d] }
  | _ => none }
def primesCheckRow : OpenClaim := { program := "ytacjiajijigebaa", sum := "de7d2b574011868d9cd92407e7e3c1acfd1304c5a19b0b93af2c0061d07db386", func := "balefire/balefirelaw07.PrimesCheck", spec := "primesCheck", inPlace := ["math/bits.Sub64", "math/bits.Add64"], unfollowed := true, recurses := true, named := ["math/bits.divideError", "math/bits.overflowError"], loops := true, apart := false }
def PrimesCheckSaid : Prop := primesCheckRow.holds Try.pinned (OpenSpec.ofChange primesCheckSpec)

/-- ITS FALSE NEIGHBOUR: 'it returns false'. Refute it at one input. -/
def primesCheckWrong : ChangeSpec := { name := "primesCheck", fn := fun _ => fun
  | [d] => { results := [.lit (.bool false)], args := [d] }
  | _ => none }
def PrimesCheckWrongFalsely : Prop := primesCheckRow.holds Try.pinned (OpenSpec.ofChange primesCheckWrong)

/-- 'balefirelaw13.SigsTwo': WHATEVER THE INPUT: true; the input reads as it did. -/
def sigsTwoSpec : ChangeSpec := { name := "sigsTwo", fn := fun _ => fun
  | [d1, d2, d3] => { results := [.lit (.bool true)], args := [d1, d2, d3] }
  | _ => none }
def sigsTwoRow : OpenClaim := { program := "ytacjiajijigebaa", sum := "de7d2b574011868d9cd92407e7e3c1acfd1304c5a19b0b93af2c0061d07db386", func := "balefire/balefirelaw13.SigsTwo", spec := "sigsTwo", inPlace := ["math/bits.Sub64", "math/bits.Add64"], unfollowed := true, recurses := true, named := ["math/bits.divideError", "math/bits.overflowError"], apart := false }
def SigsTwoSaid : Prop := sigsTwoRow.holds Try.pinned (OpenSpec.ofChange sigsTwoSpec)

/-- ITS FALSE NEIGHBOUR: 'it returns false'. Refute it at one input. -/
def sigsTwoWrong : ChangeSpec := { name := "sigsTwo", fn := fun _ => fun
  | [d1, d2, d3] => { results := [.lit (.bool false)], args := [d1, d2, d3] }
  | _ => none }
def SigsTwoWrongFalsely : Prop := sigsTwoRow.holds Try.pinned (OpenSpec.ofChange sigsTwoWrong)

/-- 'balefirelaw07.PrimesProduct': WHATEVER THE INPUT: true; the input reads as it did. -/
def primesProductSpec : ChangeSpec := { name := "primesProduct", fn := fun _ => fun
  | [d1, d2, d3] => { results := [.lit (.bool true)], args := [d1, d2, d3] }
  | _ => none }
def primesProductRow : OpenClaim := { program := "ytacjiajijigebaa", sum := "de7d2b574011868d9cd92407e7e3c1acfd1304c5a19b0b93af2c0061d07db386", func := "balefire/balefirelaw07.PrimesProduct", spec := "primesProduct", inPlace := ["math/bits.Sub64", "math/bits.Add64"], unfollowed := true, recurses := true, named := ["math/bits.divideError", "math/bits.overflowError"], loops := true, apart := false }
def PrimesProductSaid : Prop := primesProductRow.holds Try.pinned (OpenSpec.ofChange primesProductSpec)

/-- ITS FALSE NEIGHBOUR: 'it returns false'. Refute it at one input. -/
def primesProductWrong : ChangeSpec := { name := "primesProduct", fn := fun _ => fun
  | [d1, d2, d3] => { results := [.lit (.bool false)], args := [d1, d2, d3] }
  | _ => none }
def PrimesProductWrongFalsely : Prop := primesProductRow.holds Try.pinned (OpenSpec.ofChange primesProductWrong)

/-- 'balefirelaw07.PrimesParts': WHATEVER THE INPUT: true; the input reads as it did. -/
def primesPartsSpec : ChangeSpec := { name := "primesParts", fn := fun _ => fun
  | [d] => { results := [.lit (.bool true)], args := [d] }
  | _ => none }
def primesPartsRow : OpenClaim := { program := "ytacjiajijigebaa", sum := "de7d2b574011868d9cd92407e7e3c1acfd1304c5a19b0b93af2c0061d07db386", func := "balefire/balefirelaw07.PrimesParts", spec := "primesParts", inPlace := ["math/bits.Sub64", "math/bits.Add64"], unfollowed := true, recurses := true, named := ["math/bits.divideError", "math/bits.overflowError"], loops := true, apart := false }
def PrimesPartsSaid : Prop := primesPartsRow.holds Try.pinned (OpenSpec.ofChange primesPartsSpec)

/-- ITS FALSE NEIGHBOUR: 'it returns false'. Refute it at one input. -/
def primesPartsWrong : ChangeSpec := { name := "primesParts", fn := fun _ => fun
  | [d] => { results := [.lit (.bool false)], args := [d] }
  | _ => none }
def PrimesPartsWrongFalsely : Prop := primesPartsRow.holds Try.pinned (OpenSpec.ofChange primesPartsWrong)

/-- 'balefirelaw14.ProofsTold': WHATEVER THE INPUT: true; the input reads as it did. -/
def proofsToldSpec : ChangeSpec := { name := "proofsTold", fn := fun _ => fun
  | [d1, d2, d3] => { results := [.lit (.bool true)], args := [d1, d2, d3] }
  | _ => none }
def proofsToldRow : OpenClaim := { program := "ytacjiajijigebaa", sum := "de7d2b574011868d9cd92407e7e3c1acfd1304c5a19b0b93af2c0061d07db386", func := "balefire/balefirelaw14.ProofsTold", spec := "proofsTold", inPlace := ["math/bits.Sub64", "math/bits.Add64"], unfollowed := true, recurses := true, named := ["math/bits.divideError", "math/bits.overflowError"], apart := false }
def ProofsToldSaid : Prop := proofsToldRow.holds Try.pinned (OpenSpec.ofChange proofsToldSpec)

/-- ITS FALSE NEIGHBOUR: 'it returns false'. Refute it at one input. -/
def proofsToldWrong : ChangeSpec := { name := "proofsTold", fn := fun _ => fun
  | [d1, d2, d3] => { results := [.lit (.bool false)], args := [d1, d2, d3] }
  | _ => none }
def ProofsToldWrongFalsely : Prop := proofsToldRow.holds Try.pinned (OpenSpec.ofChange proofsToldWrong)

/-- 'balefirelaw07.PrimesTurned': WHATEVER THE INPUT: true; the input reads as it did. -/
def primesTurnedSpec : ChangeSpec := { name := "primesTurned", fn := fun _ => fun
  | [d1, d2] => { results := [.lit (.bool true)], args := [d1, d2] }
  | _ => none }
def primesTurnedRow : OpenClaim := { program := "ytacjiajijigebaa", sum := "de7d2b574011868d9cd92407e7e3c1acfd1304c5a19b0b93af2c0061d07db386", func := "balefire/balefirelaw07.PrimesTurned", spec := "primesTurned", inPlace := ["math/bits.Sub64", "math/bits.Add64"], unfollowed := true, recurses := true, named := ["math/bits.divideError", "math/bits.overflowError"], loops := true, apart := false }
def PrimesTurnedSaid : Prop := primesTurnedRow.holds Try.pinned (OpenSpec.ofChange primesTurnedSpec)

/-- ITS FALSE NEIGHBOUR: 'it returns false'. Refute it at one input. -/
def primesTurnedWrong : ChangeSpec := { name := "primesTurned", fn := fun _ => fun
  | [d1, d2] => { results := [.lit (.bool false)], args := [d1, d2] }
  | _ => none }
def PrimesTurnedWrongFalsely : Prop := primesTurnedRow.holds Try.pinned (OpenSpec.ofChange primesTurnedWrong)

/-- 'balefirelaw07.PrimesWilson': WHATEVER THE INPUT: true; the input reads as it did. -/
def primesWilsonSpec : ChangeSpec := { name := "primesWilson", fn := fun _ => fun
  | [d] => { results := [.lit (.bool true)], args := [d] }
  | _ => none }
def primesWilsonRow : OpenClaim := { program := "ytacjiajijigebaa", sum := "de7d2b574011868d9cd92407e7e3c1acfd1304c5a19b0b93af2c0061d07db386", func := "balefire/balefirelaw07.PrimesWilson", spec := "primesWilson", inPlace := ["math/bits.Add64", "math/bits.Sub64"], unfollowed := true, recurses := true, named := ["math/bits.divideError", "math/bits.overflowError"], apart := false }
def PrimesWilsonSaid : Prop := primesWilsonRow.holds Try.pinned (OpenSpec.ofChange primesWilsonSpec)

/-- ITS FALSE NEIGHBOUR: 'it returns false'. Refute it at one input. -/
def primesWilsonWrong : ChangeSpec := { name := "primesWilson", fn := fun _ => fun
  | [d] => { results := [.lit (.bool false)], args := [d] }
  | _ => none }
def PrimesWilsonWrongFalsely : Prop := primesWilsonRow.holds Try.pinned (OpenSpec.ofChange primesWilsonWrong)

/-- 'balefirelaw06.HashesNumber': WHATEVER THE INPUT: true; the input reads as it did. -/
def hashesNumberSpec : ChangeSpec := { name := "hashesNumber", fn := fun _ => fun
  | [d1, d2, d3] => { results := [.lit (.bool true)], args := [d1, d2, d3] }
  | _ => none }
def hashesNumberRow : OpenClaim := { program := "ytacjiajijigebaa", sum := "de7d2b574011868d9cd92407e7e3c1acfd1304c5a19b0b93af2c0061d07db386", func := "balefire/balefirelaw06.HashesNumber", spec := "hashesNumber", inPlace := ["math/bits.Add64", "math/bits.Sub64"], unfollowed := true, recurses := true, named := ["math/bits.divideError", "math/bits.overflowError"], apart := false }
def HashesNumberSaid : Prop := hashesNumberRow.holds Try.pinned (OpenSpec.ofChange hashesNumberSpec)

/-- ITS FALSE NEIGHBOUR: 'it returns false'. Refute it at one input. -/
def hashesNumberWrong : ChangeSpec := { name := "hashesNumber", fn := fun _ => fun
  | [d1, d2, d3] => { results := [.lit (.bool false)], args := [d1, d2, d3] }
  | _ => none }
def HashesNumberWrongFalsely : Prop := hashesNumberRow.holds Try.pinned (OpenSpec.ofChange hashesNumberWrong)

/-- 'balefirelaw07.PrimesLeft': WHATEVER THE INPUT: true; the input reads as it did. -/
def primesLeftSpec : ChangeSpec := { name := "primesLeft", fn := fun _ => fun
  | [d1, d2] => { results := [.lit (.bool true)], args := [d1, d2] }
  | _ => none }
def primesLeftRow : OpenClaim := { program := "ytacjiajijigebaa", sum := "de7d2b574011868d9cd92407e7e3c1acfd1304c5a19b0b93af2c0061d07db386", func := "balefire/balefirelaw07.PrimesLeft", spec := "primesLeft", inPlace := ["math/bits.Sub64", "math/bits.Add64"], unfollowed := true, recurses := true, named := ["math/bits.divideError", "math/bits.overflowError"], loops := true, apart := false }
def PrimesLeftSaid : Prop := primesLeftRow.holds Try.pinned (OpenSpec.ofChange primesLeftSpec)

/-- ITS FALSE NEIGHBOUR: 'it returns false'. Refute it at one input. -/
def primesLeftWrong : ChangeSpec := { name := "primesLeft", fn := fun _ => fun
  | [d1, d2] => { results := [.lit (.bool false)], args := [d1, d2] }
  | _ => none }
def PrimesLeftWrongFalsely : Prop := primesLeftRow.holds Try.pinned (OpenSpec.ofChange primesLeftWrong)

/-- 'balefirelaw08.GroupsCheck': WHATEVER THE INPUT: true; the input reads as it did. -/
def groupsCheckSpec : ChangeSpec := { name := "groupsCheck", fn := fun _ => fun
  | [d1, d2, d3] => { results := [.lit (.bool true)], args := [d1, d2, d3] }
  | _ => none }
def groupsCheckRow : OpenClaim := { program := "ytacjiajijigebaa", sum := "de7d2b574011868d9cd92407e7e3c1acfd1304c5a19b0b93af2c0061d07db386", func := "balefire/balefirelaw08.GroupsCheck", spec := "groupsCheck", inPlace := ["math/bits.Sub64", "math/bits.Add64"], unfollowed := true, recurses := true, named := ["math/bits.divideError", "math/bits.overflowError"], loops := true, apart := false }
def GroupsCheckSaid : Prop := groupsCheckRow.holds Try.pinned (OpenSpec.ofChange groupsCheckSpec)

/-- ITS FALSE NEIGHBOUR: 'it returns false'. Refute it at one input. -/
def groupsCheckWrong : ChangeSpec := { name := "groupsCheck", fn := fun _ => fun
  | [d1, d2, d3] => { results := [.lit (.bool false)], args := [d1, d2, d3] }
  | _ => none }
def GroupsCheckWrongFalsely : Prop := groupsCheckRow.holds Try.pinned (OpenSpec.ofChange groupsCheckWrong)

/-- 'balefirelaw08.GroupsClosed': WHATEVER THE INPUT: true; the input reads as it did. -/
def groupsClosedSpec : ChangeSpec := { name := "groupsClosed", fn := fun _ => fun
  | [d1, d2, d3] => { results := [.lit (.bool true)], args := [d1, d2, d3] }
  | _ => none }
def groupsClosedRow : OpenClaim := { program := "ytacjiajijigebaa", sum := "de7d2b574011868d9cd92407e7e3c1acfd1304c5a19b0b93af2c0061d07db386", func := "balefire/balefirelaw08.GroupsClosed", spec := "groupsClosed", inPlace := ["math/bits.Sub64", "math/bits.Add64"], unfollowed := true, recurses := true, named := ["math/bits.divideError", "math/bits.overflowError"], apart := false }
def GroupsClosedSaid : Prop := groupsClosedRow.holds Try.pinned (OpenSpec.ofChange groupsClosedSpec)

/-- ITS FALSE NEIGHBOUR: 'it returns false'. Refute it at one input. -/
def groupsClosedWrong : ChangeSpec := { name := "groupsClosed", fn := fun _ => fun
  | [d1, d2, d3] => { results := [.lit (.bool false)], args := [d1, d2, d3] }
  | _ => none }
def GroupsClosedWrongFalsely : Prop := groupsClosedRow.holds Try.pinned (OpenSpec.ofChange groupsClosedWrong)

/-- 'balefirelaw08.GroupsRound': WHATEVER THE INPUT: true; the input reads as it did. -/
def groupsRoundSpec : ChangeSpec := { name := "groupsRound", fn := fun _ => fun
  | [d1, d2, d3] => { results := [.lit (.bool true)], args := [d1, d2, d3] }
  | _ => none }
def groupsRoundRow : OpenClaim := { program := "ytacjiajijigebaa", sum := "de7d2b574011868d9cd92407e7e3c1acfd1304c5a19b0b93af2c0061d07db386", func := "balefire/balefirelaw08.GroupsRound", spec := "groupsRound", inPlace := ["math/bits.Sub64", "math/bits.Add64"], unfollowed := true, recurses := true, named := ["math/bits.divideError", "math/bits.overflowError"], apart := false }
def GroupsRoundSaid : Prop := groupsRoundRow.holds Try.pinned (OpenSpec.ofChange groupsRoundSpec)

/-- ITS FALSE NEIGHBOUR: 'it returns false'. Refute it at one input. -/
def groupsRoundWrong : ChangeSpec := { name := "groupsRound", fn := fun _ => fun
  | [d1, d2, d3] => { results := [.lit (.bool false)], args := [d1, d2, d3] }
  | _ => none }
def GroupsRoundWrongFalsely : Prop := groupsRoundRow.holds Try.pinned (OpenSpec.ofChange groupsRoundWrong)

/-- 'balefirelaw08.GroupsProduct': WHATEVER THE INPUT: true; the input reads as it did. -/
def groupsProductSpec : ChangeSpec := { name := "groupsProduct", fn := fun _ => fun
  | [d1, d2, d3] => { results := [.lit (.bool true)], args := [d1, d2, d3] }
  | _ => none }
def groupsProductRow : OpenClaim := { program := "ytacjiajijigebaa", sum := "de7d2b574011868d9cd92407e7e3c1acfd1304c5a19b0b93af2c0061d07db386", func := "balefire/balefirelaw08.GroupsProduct", spec := "groupsProduct", inPlace := ["math/bits.Sub64", "math/bits.Add64"], unfollowed := true, recurses := true, named := ["math/bits.divideError", "math/bits.overflowError"], apart := false }
def GroupsProductSaid : Prop := groupsProductRow.holds Try.pinned (OpenSpec.ofChange groupsProductSpec)

/-- ITS FALSE NEIGHBOUR: 'it returns false'. Refute it at one input. -/
def groupsProductWrong : ChangeSpec := { name := "groupsProduct", fn := fun _ => fun
  | [d1, d2, d3] => { results := [.lit (.bool false)], args := [d1, d2, d3] }
  | _ => none }
def GroupsProductWrongFalsely : Prop := groupsProductRow.holds Try.pinned (OpenSpec.ofChange groupsProductWrong)

/-- 'balefirelaw08.GroupsRoot': WHATEVER THE INPUT: true; the input reads as it did. -/
def groupsRootSpec : ChangeSpec := { name := "groupsRoot", fn := fun _ => fun
  | [d1, d2, d3] => { results := [.lit (.bool true)], args := [d1, d2, d3] }
  | _ => none }
def groupsRootRow : OpenClaim := { program := "ytacjiajijigebaa", sum := "de7d2b574011868d9cd92407e7e3c1acfd1304c5a19b0b93af2c0061d07db386", func := "balefire/balefirelaw08.GroupsRoot", spec := "groupsRoot", inPlace := ["math/bits.Sub64", "math/bits.Add64"], unfollowed := true, recurses := true, named := ["math/bits.divideError", "math/bits.overflowError"], apart := false }
def GroupsRootSaid : Prop := groupsRootRow.holds Try.pinned (OpenSpec.ofChange groupsRootSpec)

/-- ITS FALSE NEIGHBOUR: 'it returns false'. Refute it at one input. -/
def groupsRootWrong : ChangeSpec := { name := "groupsRoot", fn := fun _ => fun
  | [d1, d2, d3] => { results := [.lit (.bool false)], args := [d1, d2, d3] }
  | _ => none }
def GroupsRootWrongFalsely : Prop := groupsRootRow.holds Try.pinned (OpenSpec.ofChange groupsRootWrong)

/-- 'balefirelaw13.SigsBounds': WHATEVER THE INPUT: true; the input reads as it did. -/
def sigsBoundsSpec : ChangeSpec := { name := "sigsBounds", fn := fun _ => fun
  | [d1, d2] => { results := [.lit (.bool true)], args := [d1, d2] }
  | _ => none }
def sigsBoundsRow : OpenClaim := { program := "ytacjiajijigebaa", sum := "de7d2b574011868d9cd92407e7e3c1acfd1304c5a19b0b93af2c0061d07db386", func := "balefire/balefirelaw13.SigsBounds", spec := "sigsBounds", inPlace := ["math/bits.Sub64", "math/bits.Add64"], unfollowed := true, recurses := true, named := ["math/bits.divideError", "math/bits.overflowError"], apart := false }
def SigsBoundsSaid : Prop := sigsBoundsRow.holds Try.pinned (OpenSpec.ofChange sigsBoundsSpec)

/-- ITS FALSE NEIGHBOUR: 'it returns false'. Refute it at one input. -/
def sigsBoundsWrong : ChangeSpec := { name := "sigsBounds", fn := fun _ => fun
  | [d1, d2] => { results := [.lit (.bool false)], args := [d1, d2] }
  | _ => none }
def SigsBoundsWrongFalsely : Prop := sigsBoundsRow.holds Try.pinned (OpenSpec.ofChange sigsBoundsWrong)

/-- 'balefirelaw13.SigsBack': WHATEVER THE INPUT: true; the input reads as it did. -/
def sigsBackSpec : ChangeSpec := { name := "sigsBack", fn := fun _ => fun
  | [d1, d2, d3] => { results := [.lit (.bool true)], args := [d1, d2, d3] }
  | _ => none }
def sigsBackRow : OpenClaim := { program := "ytacjiajijigebaa", sum := "de7d2b574011868d9cd92407e7e3c1acfd1304c5a19b0b93af2c0061d07db386", func := "balefire/balefirelaw13.SigsBack", spec := "sigsBack", inPlace := ["math/bits.Sub64", "math/bits.Add64"], unfollowed := true, recurses := true, named := ["math/bits.divideError", "math/bits.overflowError"], apart := false }
def SigsBackSaid : Prop := sigsBackRow.holds Try.pinned (OpenSpec.ofChange sigsBackSpec)

/-- ITS FALSE NEIGHBOUR: 'it returns false'. Refute it at one input. -/
def sigsBackWrong : ChangeSpec := { name := "sigsBack", fn := fun _ => fun
  | [d1, d2, d3] => { results := [.lit (.bool false)], args := [d1, d2, d3] }
  | _ => none }
def SigsBackWrongFalsely : Prop := sigsBackRow.holds Try.pinned (OpenSpec.ofChange sigsBackWrong)

/-- 'balefirelaw13.SigsMoved': WHATEVER THE INPUT: true; the input reads as it did. -/
def sigsMovedSpec : ChangeSpec := { name := "sigsMoved", fn := fun _ => fun
  | [d1, d2, d3] => { results := [.lit (.bool true)], args := [d1, d2, d3] }
  | _ => none }
def sigsMovedRow : OpenClaim := { program := "ytacjiajijigebaa", sum := "de7d2b574011868d9cd92407e7e3c1acfd1304c5a19b0b93af2c0061d07db386", func := "balefire/balefirelaw13.SigsMoved", spec := "sigsMoved", inPlace := ["math/bits.Sub64", "math/bits.Add64"], unfollowed := true, recurses := true, named := ["math/bits.divideError", "math/bits.overflowError"], apart := false }
def SigsMovedSaid : Prop := sigsMovedRow.holds Try.pinned (OpenSpec.ofChange sigsMovedSpec)

/-- ITS FALSE NEIGHBOUR: 'it returns false'. Refute it at one input. -/
def sigsMovedWrong : ChangeSpec := { name := "sigsMoved", fn := fun _ => fun
  | [d1, d2, d3] => { results := [.lit (.bool false)], args := [d1, d2, d3] }
  | _ => none }
def SigsMovedWrongFalsely : Prop := sigsMovedRow.holds Try.pinned (OpenSpec.ofChange sigsMovedWrong)

/-- 'balefirelaw14.ProofsBounds': WHATEVER THE INPUT: true; the input reads as it did. -/
def proofsBoundsSpec : ChangeSpec := { name := "proofsBounds", fn := fun _ => fun
  | [d1, d2] => { results := [.lit (.bool true)], args := [d1, d2] }
  | _ => none }
def proofsBoundsRow : OpenClaim := { program := "ytacjiajijigebaa", sum := "de7d2b574011868d9cd92407e7e3c1acfd1304c5a19b0b93af2c0061d07db386", func := "balefire/balefirelaw14.ProofsBounds", spec := "proofsBounds", inPlace := ["math/bits.Sub64", "math/bits.Add64"], unfollowed := true, recurses := true, named := ["math/bits.divideError", "math/bits.overflowError"], apart := false }
def ProofsBoundsSaid : Prop := proofsBoundsRow.holds Try.pinned (OpenSpec.ofChange proofsBoundsSpec)

/-- ITS FALSE NEIGHBOUR: 'it returns false'. Refute it at one input. -/
def proofsBoundsWrong : ChangeSpec := { name := "proofsBounds", fn := fun _ => fun
  | [d1, d2] => { results := [.lit (.bool false)], args := [d1, d2] }
  | _ => none }
def ProofsBoundsWrongFalsely : Prop := proofsBoundsRow.holds Try.pinned (OpenSpec.ofChange proofsBoundsWrong)

/-- 'balefirelaw14.ProofsBack': WHATEVER THE INPUT: true; the input reads as it did. -/
def proofsBackSpec : ChangeSpec := { name := "proofsBack", fn := fun _ => fun
  | [d1, d2, d3] => { results := [.lit (.bool true)], args := [d1, d2, d3] }
  | _ => none }
def proofsBackRow : OpenClaim := { program := "ytacjiajijigebaa", sum := "de7d2b574011868d9cd92407e7e3c1acfd1304c5a19b0b93af2c0061d07db386", func := "balefire/balefirelaw14.ProofsBack", spec := "proofsBack", inPlace := ["math/bits.Sub64", "math/bits.Add64"], unfollowed := true, recurses := true, named := ["math/bits.divideError", "math/bits.overflowError"], apart := false }
def ProofsBackSaid : Prop := proofsBackRow.holds Try.pinned (OpenSpec.ofChange proofsBackSpec)

/-- ITS FALSE NEIGHBOUR: 'it returns false'. Refute it at one input. -/
def proofsBackWrong : ChangeSpec := { name := "proofsBack", fn := fun _ => fun
  | [d1, d2, d3] => { results := [.lit (.bool false)], args := [d1, d2, d3] }
  | _ => none }
def ProofsBackWrongFalsely : Prop := proofsBackRow.holds Try.pinned (OpenSpec.ofChange proofsBackWrong)

/-- 'balefirelaw14.ProofsSame': WHATEVER THE INPUT: true; the input reads as it did. -/
def proofsSameSpec : ChangeSpec := { name := "proofsSame", fn := fun _ => fun
  | [d1, d2, d3] => { results := [.lit (.bool true)], args := [d1, d2, d3] }
  | _ => none }
def proofsSameRow : OpenClaim := { program := "ytacjiajijigebaa", sum := "de7d2b574011868d9cd92407e7e3c1acfd1304c5a19b0b93af2c0061d07db386", func := "balefire/balefirelaw14.ProofsSame", spec := "proofsSame", inPlace := ["math/bits.Sub64", "math/bits.Add64"], unfollowed := true, recurses := true, named := ["math/bits.divideError", "math/bits.overflowError"], apart := false }
def ProofsSameSaid : Prop := proofsSameRow.holds Try.pinned (OpenSpec.ofChange proofsSameSpec)

/-- ITS FALSE NEIGHBOUR: 'it returns false'. Refute it at one input. -/
def proofsSameWrong : ChangeSpec := { name := "proofsSame", fn := fun _ => fun
  | [d1, d2, d3] => { results := [.lit (.bool false)], args := [d1, d2, d3] }
  | _ => none }
def ProofsSameWrongFalsely : Prop := proofsSameRow.holds Try.pinned (OpenSpec.ofChange proofsSameWrong)

/-- 'balefirelaw14.ProofsMoved': WHATEVER THE INPUT: true; the input reads as it did. -/
def proofsMovedSpec : ChangeSpec := { name := "proofsMoved", fn := fun _ => fun
  | [d1, d2, d3] => { results := [.lit (.bool true)], args := [d1, d2, d3] }
  | _ => none }
def proofsMovedRow : OpenClaim := { program := "ytacjiajijigebaa", sum := "de7d2b574011868d9cd92407e7e3c1acfd1304c5a19b0b93af2c0061d07db386", func := "balefire/balefirelaw14.ProofsMoved", spec := "proofsMoved", inPlace := ["math/bits.Sub64", "math/bits.Add64"], unfollowed := true, recurses := true, named := ["math/bits.divideError", "math/bits.overflowError"], apart := false }
def ProofsMovedSaid : Prop := proofsMovedRow.holds Try.pinned (OpenSpec.ofChange proofsMovedSpec)

/-- ITS FALSE NEIGHBOUR: 'it returns false'. Refute it at one input. -/
def proofsMovedWrong : ChangeSpec := { name := "proofsMoved", fn := fun _ => fun
  | [d1, d2, d3] => { results := [.lit (.bool false)], args := [d1, d2, d3] }
  | _ => none }
def ProofsMovedWrongFalsely : Prop := proofsMovedRow.holds Try.pinned (OpenSpec.ofChange proofsMovedWrong)

/- THE SECOND FORM. 'bulk': how many values and letters a reading holds, each counted each time it is reached (what is shared counts as often as it is met; a slice's spare places count too). A statement '..UptoSaid' is the law's where the arguments, and the package variables that the reading takes, are together of bulk at most 1048576: NARROWER than '..Said'. Prove '..Said' where nothing that the law and all that it calls make is longer than what came in: it says more and counts as full. Else prove '..UptoSaid'. A law counts once. -/
mutual
def uptoBulk {H : Type} : DataW H → Nat
  | .lit (.string bytes) => bytes.length + 1
  | .lit _ => 1
  | .nil => 1
  | .ptr d => uptoBulk d + 1
  | .slice elems spare => uptoBulkAll elems + uptoBulkAll spare + 1
  | .agg parts => uptoBulkAll parts + 1
  | .iface _ d => uptoBulk d + 1
  | .map entries => uptoBulkEntries entries + 1
  | .held _ => 1
def uptoBulkAll {H : Type} : List (DataW H) → Nat
  | [] => 0
  | d :: r => uptoBulk d + uptoBulkAll r
def uptoBulkEntries {H : Type} : List (Lit × DataW H) → Nat
  | [] => 0
  | x :: r => uptoBulkEntry x + uptoBulkEntries r
def uptoBulkEntry {H : Type} : Lit × DataW H → Nat
  | (.string bytes, d) => bytes.length + uptoBulk d + 1
  | (_, d) => uptoBulk d + 1
 end
def uptoSmall : (H : Type) → List (DataW H) → Bool := fun _ ds => decide (uptoBulkAll ds ≤ 1048576)
def OpenSpec.upto (s : _root_.Go.ChangeSpec) : _root_.Go.OpenSpec := { _root_.Go.OpenSpec.ofChange s with cond := some uptoSmall }

/-- 'balefirelaw07.PrimesSmall', WHERE WHAT IT READS IS OF BULK AT MOST 1048576: true; the input reads as it did. -/
def primesSmallUptoRow : OpenClaim := { program := "ytacjiajijigebaa", sum := "de7d2b574011868d9cd92407e7e3c1acfd1304c5a19b0b93af2c0061d07db386", func := "balefire/balefirelaw07.PrimesSmall", spec := "primesSmall", apart := false, narrowed := true }
def PrimesSmallUptoSaid : Prop := primesSmallUptoRow.holds Try.pinned (OpenSpec.upto primesSmallSpec)

/-- 'balefirelaw06.HashesOf', WHERE WHAT IT READS IS OF BULK AT MOST 1048576: true; the input reads as it did. -/
def hashesOfUptoRow : OpenClaim := { program := "ytacjiajijigebaa", sum := "de7d2b574011868d9cd92407e7e3c1acfd1304c5a19b0b93af2c0061d07db386", func := "balefire/balefirelaw06.HashesOf", spec := "hashesOf", inPlace := ["math/bits.Add64", "math/bits.Sub64"], unfollowed := true, recurses := true, named := ["math/bits.divideError", "math/bits.overflowError"], apart := false, narrowed := true }
def HashesOfUptoSaid : Prop := hashesOfUptoRow.holds Try.pinned (OpenSpec.upto hashesOfSpec)

/-- 'balefirelaw06.HashesBytes', WHERE WHAT IT READS IS OF BULK AT MOST 1048576: true; the input reads as it did. -/
def hashesBytesUptoRow : OpenClaim := { program := "ytacjiajijigebaa", sum := "de7d2b574011868d9cd92407e7e3c1acfd1304c5a19b0b93af2c0061d07db386", func := "balefire/balefirelaw06.HashesBytes", spec := "hashesBytes", inPlace := ["math/bits.Add64", "math/bits.Sub64"], unfollowed := true, recurses := true, named := ["math/bits.divideError", "math/bits.overflowError"], apart := false, narrowed := true }
def HashesBytesUptoSaid : Prop := hashesBytesUptoRow.holds Try.pinned (OpenSpec.upto hashesBytesSpec)

/-- 'balefirelaw08.GroupsOf', WHERE WHAT IT READS IS OF BULK AT MOST 1048576: true; the input reads as it did. -/
def groupsOfUptoRow : OpenClaim := { program := "ytacjiajijigebaa", sum := "de7d2b574011868d9cd92407e7e3c1acfd1304c5a19b0b93af2c0061d07db386", func := "balefire/balefirelaw08.GroupsOf", spec := "groupsOf", inPlace := ["math/bits.Sub64", "math/bits.Add64"], unfollowed := true, recurses := true, named := ["math/bits.divideError", "math/bits.overflowError"], apart := false, narrowed := true }
def GroupsOfUptoSaid : Prop := groupsOfUptoRow.holds Try.pinned (OpenSpec.upto groupsOfSpec)

/-- 'balefirelaw06.HashesHalves', WHERE WHAT IT READS IS OF BULK AT MOST 1048576: true; the input reads as it did. -/
def hashesHalvesUptoRow : OpenClaim := { program := "ytacjiajijigebaa", sum := "de7d2b574011868d9cd92407e7e3c1acfd1304c5a19b0b93af2c0061d07db386", func := "balefire/balefirelaw06.HashesHalves", spec := "hashesHalves", inPlace := ["math/bits.Add64", "math/bits.Sub64"], unfollowed := true, recurses := true, named := ["math/bits.divideError", "math/bits.overflowError"], apart := false, narrowed := true }
def HashesHalvesUptoSaid : Prop := hashesHalvesUptoRow.holds Try.pinned (OpenSpec.upto hashesHalvesSpec)

/-- 'balefirelaw07.PrimesCheck', WHERE WHAT IT READS IS OF BULK AT MOST 1048576: true; the input reads as it did. -/
def primesCheckUptoRow : OpenClaim := { program := "ytacjiajijigebaa", sum := "de7d2b574011868d9cd92407e7e3c1acfd1304c5a19b0b93af2c0061d07db386", func := "balefire/balefirelaw07.PrimesCheck", spec := "primesCheck", inPlace := ["math/bits.Sub64", "math/bits.Add64"], unfollowed := true, recurses := true, named := ["math/bits.divideError", "math/bits.overflowError"], loops := true, apart := false, narrowed := true }
def PrimesCheckUptoSaid : Prop := primesCheckUptoRow.holds Try.pinned (OpenSpec.upto primesCheckSpec)

/-- 'balefirelaw13.SigsTwo', WHERE WHAT IT READS IS OF BULK AT MOST 1048576: true; the input reads as it did. -/
def sigsTwoUptoRow : OpenClaim := { program := "ytacjiajijigebaa", sum := "de7d2b574011868d9cd92407e7e3c1acfd1304c5a19b0b93af2c0061d07db386", func := "balefire/balefirelaw13.SigsTwo", spec := "sigsTwo", inPlace := ["math/bits.Sub64", "math/bits.Add64"], unfollowed := true, recurses := true, named := ["math/bits.divideError", "math/bits.overflowError"], apart := false, narrowed := true }
def SigsTwoUptoSaid : Prop := sigsTwoUptoRow.holds Try.pinned (OpenSpec.upto sigsTwoSpec)

/-- 'balefirelaw07.PrimesProduct', WHERE WHAT IT READS IS OF BULK AT MOST 1048576: true; the input reads as it did. -/
def primesProductUptoRow : OpenClaim := { program := "ytacjiajijigebaa", sum := "de7d2b574011868d9cd92407e7e3c1acfd1304c5a19b0b93af2c0061d07db386", func := "balefire/balefirelaw07.PrimesProduct", spec := "primesProduct", inPlace := ["math/bits.Sub64", "math/bits.Add64"], unfollowed := true, recurses := true, named := ["math/bits.divideError", "math/bits.overflowError"], loops := true, apart := false, narrowed := true }
def PrimesProductUptoSaid : Prop := primesProductUptoRow.holds Try.pinned (OpenSpec.upto primesProductSpec)

/-- 'balefirelaw07.PrimesParts', WHERE WHAT IT READS IS OF BULK AT MOST 1048576: true; the input reads as it did. -/
def primesPartsUptoRow : OpenClaim := { program := "ytacjiajijigebaa", sum := "de7d2b574011868d9cd92407e7e3c1acfd1304c5a19b0b93af2c0061d07db386", func := "balefire/balefirelaw07.PrimesParts", spec := "primesParts", inPlace := ["math/bits.Sub64", "math/bits.Add64"], unfollowed := true, recurses := true, named := ["math/bits.divideError", "math/bits.overflowError"], loops := true, apart := false, narrowed := true }
def PrimesPartsUptoSaid : Prop := primesPartsUptoRow.holds Try.pinned (OpenSpec.upto primesPartsSpec)

/-- 'balefirelaw14.ProofsTold', WHERE WHAT IT READS IS OF BULK AT MOST 1048576: true; the input reads as it did. -/
def proofsToldUptoRow : OpenClaim := { program := "ytacjiajijigebaa", sum := "de7d2b574011868d9cd92407e7e3c1acfd1304c5a19b0b93af2c0061d07db386", func := "balefire/balefirelaw14.ProofsTold", spec := "proofsTold", inPlace := ["math/bits.Sub64", "math/bits.Add64"], unfollowed := true, recurses := true, named := ["math/bits.divideError", "math/bits.overflowError"], apart := false, narrowed := true }
def ProofsToldUptoSaid : Prop := proofsToldUptoRow.holds Try.pinned (OpenSpec.upto proofsToldSpec)

/-- 'balefirelaw07.PrimesTurned', WHERE WHAT IT READS IS OF BULK AT MOST 1048576: true; the input reads as it did. -/
def primesTurnedUptoRow : OpenClaim := { program := "ytacjiajijigebaa", sum := "de7d2b574011868d9cd92407e7e3c1acfd1304c5a19b0b93af2c0061d07db386", func := "balefire/balefirelaw07.PrimesTurned", spec := "primesTurned", inPlace := ["math/bits.Sub64", "math/bits.Add64"], unfollowed := true, recurses := true, named := ["math/bits.divideError", "math/bits.overflowError"], loops := true, apart := false, narrowed := true }
def PrimesTurnedUptoSaid : Prop := primesTurnedUptoRow.holds Try.pinned (OpenSpec.upto primesTurnedSpec)

/-- 'balefirelaw07.PrimesWilson', WHERE WHAT IT READS IS OF BULK AT MOST 1048576: true; the input reads as it did. -/
def primesWilsonUptoRow : OpenClaim := { program := "ytacjiajijigebaa", sum := "de7d2b574011868d9cd92407e7e3c1acfd1304c5a19b0b93af2c0061d07db386", func := "balefire/balefirelaw07.PrimesWilson", spec := "primesWilson", inPlace := ["math/bits.Add64", "math/bits.Sub64"], unfollowed := true, recurses := true, named := ["math/bits.divideError", "math/bits.overflowError"], apart := false, narrowed := true }
def PrimesWilsonUptoSaid : Prop := primesWilsonUptoRow.holds Try.pinned (OpenSpec.upto primesWilsonSpec)

/-- 'balefirelaw06.HashesNumber', WHERE WHAT IT READS IS OF BULK AT MOST 1048576: true; the input reads as it did. -/
def hashesNumberUptoRow : OpenClaim := { program := "ytacjiajijigebaa", sum := "de7d2b574011868d9cd92407e7e3c1acfd1304c5a19b0b93af2c0061d07db386", func := "balefire/balefirelaw06.HashesNumber", spec := "hashesNumber", inPlace := ["math/bits.Add64", "math/bits.Sub64"], unfollowed := true, recurses := true, named := ["math/bits.divideError", "math/bits.overflowError"], apart := false, narrowed := true }
def HashesNumberUptoSaid : Prop := hashesNumberUptoRow.holds Try.pinned (OpenSpec.upto hashesNumberSpec)

/-- 'balefirelaw07.PrimesLeft', WHERE WHAT IT READS IS OF BULK AT MOST 1048576: true; the input reads as it did. -/
def primesLeftUptoRow : OpenClaim := { program := "ytacjiajijigebaa", sum := "de7d2b574011868d9cd92407e7e3c1acfd1304c5a19b0b93af2c0061d07db386", func := "balefire/balefirelaw07.PrimesLeft", spec := "primesLeft", inPlace := ["math/bits.Sub64", "math/bits.Add64"], unfollowed := true, recurses := true, named := ["math/bits.divideError", "math/bits.overflowError"], loops := true, apart := false, narrowed := true }
def PrimesLeftUptoSaid : Prop := primesLeftUptoRow.holds Try.pinned (OpenSpec.upto primesLeftSpec)

/-- 'balefirelaw08.GroupsCheck', WHERE WHAT IT READS IS OF BULK AT MOST 1048576: true; the input reads as it did. -/
def groupsCheckUptoRow : OpenClaim := { program := "ytacjiajijigebaa", sum := "de7d2b574011868d9cd92407e7e3c1acfd1304c5a19b0b93af2c0061d07db386", func := "balefire/balefirelaw08.GroupsCheck", spec := "groupsCheck", inPlace := ["math/bits.Sub64", "math/bits.Add64"], unfollowed := true, recurses := true, named := ["math/bits.divideError", "math/bits.overflowError"], loops := true, apart := false, narrowed := true }
def GroupsCheckUptoSaid : Prop := groupsCheckUptoRow.holds Try.pinned (OpenSpec.upto groupsCheckSpec)

/-- 'balefirelaw08.GroupsClosed', WHERE WHAT IT READS IS OF BULK AT MOST 1048576: true; the input reads as it did. -/
def groupsClosedUptoRow : OpenClaim := { program := "ytacjiajijigebaa", sum := "de7d2b574011868d9cd92407e7e3c1acfd1304c5a19b0b93af2c0061d07db386", func := "balefire/balefirelaw08.GroupsClosed", spec := "groupsClosed", inPlace := ["math/bits.Sub64", "math/bits.Add64"], unfollowed := true, recurses := true, named := ["math/bits.divideError", "math/bits.overflowError"], apart := false, narrowed := true }
def GroupsClosedUptoSaid : Prop := groupsClosedUptoRow.holds Try.pinned (OpenSpec.upto groupsClosedSpec)

/-- 'balefirelaw08.GroupsRound', WHERE WHAT IT READS IS OF BULK AT MOST 1048576: true; the input reads as it did. -/
def groupsRoundUptoRow : OpenClaim := { program := "ytacjiajijigebaa", sum := "de7d2b574011868d9cd92407e7e3c1acfd1304c5a19b0b93af2c0061d07db386", func := "balefire/balefirelaw08.GroupsRound", spec := "groupsRound", inPlace := ["math/bits.Sub64", "math/bits.Add64"], unfollowed := true, recurses := true, named := ["math/bits.divideError", "math/bits.overflowError"], apart := false, narrowed := true }
def GroupsRoundUptoSaid : Prop := groupsRoundUptoRow.holds Try.pinned (OpenSpec.upto groupsRoundSpec)

/-- 'balefirelaw08.GroupsProduct', WHERE WHAT IT READS IS OF BULK AT MOST 1048576: true; the input reads as it did. -/
def groupsProductUptoRow : OpenClaim := { program := "ytacjiajijigebaa", sum := "de7d2b574011868d9cd92407e7e3c1acfd1304c5a19b0b93af2c0061d07db386", func := "balefire/balefirelaw08.GroupsProduct", spec := "groupsProduct", inPlace := ["math/bits.Sub64", "math/bits.Add64"], unfollowed := true, recurses := true, named := ["math/bits.divideError", "math/bits.overflowError"], apart := false, narrowed := true }
def GroupsProductUptoSaid : Prop := groupsProductUptoRow.holds Try.pinned (OpenSpec.upto groupsProductSpec)

/-- 'balefirelaw08.GroupsRoot', WHERE WHAT IT READS IS OF BULK AT MOST 1048576: true; the input reads as it did. -/
def groupsRootUptoRow : OpenClaim := { program := "ytacjiajijigebaa", sum := "de7d2b574011868d9cd92407e7e3c1acfd1304c5a19b0b93af2c0061d07db386", func := "balefire/balefirelaw08.GroupsRoot", spec := "groupsRoot", inPlace := ["math/bits.Sub64", "math/bits.Add64"], unfollowed := true, recurses := true, named := ["math/bits.divideError", "math/bits.overflowError"], apart := false, narrowed := true }
def GroupsRootUptoSaid : Prop := groupsRootUptoRow.holds Try.pinned (OpenSpec.upto groupsRootSpec)

/-- 'balefirelaw13.SigsBounds', WHERE WHAT IT READS IS OF BULK AT MOST 1048576: true; the input reads as it did. -/
def sigsBoundsUptoRow : OpenClaim := { program := "ytacjiajijigebaa", sum := "de7d2b574011868d9cd92407e7e3c1acfd1304c5a19b0b93af2c0061d07db386", func := "balefire/balefirelaw13.SigsBounds", spec := "sigsBounds", inPlace := ["math/bits.Sub64", "math/bits.Add64"], unfollowed := true, recurses := true, named := ["math/bits.divideError", "math/bits.overflowError"], apart := false, narrowed := true }
def SigsBoundsUptoSaid : Prop := sigsBoundsUptoRow.holds Try.pinned (OpenSpec.upto sigsBoundsSpec)

/-- 'balefirelaw13.SigsBack', WHERE WHAT IT READS IS OF BULK AT MOST 1048576: true; the input reads as it did. -/
def sigsBackUptoRow : OpenClaim := { program := "ytacjiajijigebaa", sum := "de7d2b574011868d9cd92407e7e3c1acfd1304c5a19b0b93af2c0061d07db386", func := "balefire/balefirelaw13.SigsBack", spec := "sigsBack", inPlace := ["math/bits.Sub64", "math/bits.Add64"], unfollowed := true, recurses := true, named := ["math/bits.divideError", "math/bits.overflowError"], apart := false, narrowed := true }
def SigsBackUptoSaid : Prop := sigsBackUptoRow.holds Try.pinned (OpenSpec.upto sigsBackSpec)

/-- 'balefirelaw13.SigsMoved', WHERE WHAT IT READS IS OF BULK AT MOST 1048576: true; the input reads as it did. -/
def sigsMovedUptoRow : OpenClaim := { program := "ytacjiajijigebaa", sum := "de7d2b574011868d9cd92407e7e3c1acfd1304c5a19b0b93af2c0061d07db386", func := "balefire/balefirelaw13.SigsMoved", spec := "sigsMoved", inPlace := ["math/bits.Sub64", "math/bits.Add64"], unfollowed := true, recurses := true, named := ["math/bits.divideError", "math/bits.overflowError"], apart := false, narrowed := true }
def SigsMovedUptoSaid : Prop := sigsMovedUptoRow.holds Try.pinned (OpenSpec.upto sigsMovedSpec)

/-- 'balefirelaw14.ProofsBounds', WHERE WHAT IT READS IS OF BULK AT MOST 1048576: true; the input reads as it did. -/
def proofsBoundsUptoRow : OpenClaim := { program := "ytacjiajijigebaa", sum := "de7d2b574011868d9cd92407e7e3c1acfd1304c5a19b0b93af2c0061d07db386", func := "balefire/balefirelaw14.ProofsBounds", spec := "proofsBounds", inPlace := ["math/bits.Sub64", "math/bits.Add64"], unfollowed := true, recurses := true, named := ["math/bits.divideError", "math/bits.overflowError"], apart := false, narrowed := true }
def ProofsBoundsUptoSaid : Prop := proofsBoundsUptoRow.holds Try.pinned (OpenSpec.upto proofsBoundsSpec)

/-- 'balefirelaw14.ProofsBack', WHERE WHAT IT READS IS OF BULK AT MOST 1048576: true; the input reads as it did. -/
def proofsBackUptoRow : OpenClaim := { program := "ytacjiajijigebaa", sum := "de7d2b574011868d9cd92407e7e3c1acfd1304c5a19b0b93af2c0061d07db386", func := "balefire/balefirelaw14.ProofsBack", spec := "proofsBack", inPlace := ["math/bits.Sub64", "math/bits.Add64"], unfollowed := true, recurses := true, named := ["math/bits.divideError", "math/bits.overflowError"], apart := false, narrowed := true }
def ProofsBackUptoSaid : Prop := proofsBackUptoRow.holds Try.pinned (OpenSpec.upto proofsBackSpec)

/-- 'balefirelaw14.ProofsSame', WHERE WHAT IT READS IS OF BULK AT MOST 1048576: true; the input reads as it did. -/
def proofsSameUptoRow : OpenClaim := { program := "ytacjiajijigebaa", sum := "de7d2b574011868d9cd92407e7e3c1acfd1304c5a19b0b93af2c0061d07db386", func := "balefire/balefirelaw14.ProofsSame", spec := "proofsSame", inPlace := ["math/bits.Sub64", "math/bits.Add64"], unfollowed := true, recurses := true, named := ["math/bits.divideError", "math/bits.overflowError"], apart := false, narrowed := true }
def ProofsSameUptoSaid : Prop := proofsSameUptoRow.holds Try.pinned (OpenSpec.upto proofsSameSpec)

/-- 'balefirelaw14.ProofsMoved', WHERE WHAT IT READS IS OF BULK AT MOST 1048576: true; the input reads as it did. -/
def proofsMovedUptoRow : OpenClaim := { program := "ytacjiajijigebaa", sum := "de7d2b574011868d9cd92407e7e3c1acfd1304c5a19b0b93af2c0061d07db386", func := "balefire/balefirelaw14.ProofsMoved", spec := "proofsMoved", inPlace := ["math/bits.Sub64", "math/bits.Add64"], unfollowed := true, recurses := true, named := ["math/bits.divideError", "math/bits.overflowError"], apart := false, narrowed := true }
def ProofsMovedUptoSaid : Prop := proofsMovedUptoRow.holds Try.pinned (OpenSpec.upto proofsMovedSpec)

end Rows
end Go.Proofs.Ytacjiajijigebaa
