/-
  No cell of these rows narrows 'for every input' (looked for: loops, veiled, ifaces, maps, wideKeys, modest, calm, conditions, laid).
  DERIVED. THE GIVEN ROWS OF THIS SEAT. 14 by the template 'for every input the law returns true; each argument reads behind the call as it read before'; 0 by the template 'total and deterministic' (their statements: YtpemchghaddgdaaTotals.lean).
  GIVEN WITH THE SEED: the statements are not yours to turn. If you find one false, say at which input.
  Laid BY PROGRAM, IN A SANDBOX (cutbox-rows.mjs): the forced cells as the released guide's own fill.sh prints them over the translation 5e2d3f050d38b073… (all of the seat's roots in one cut). By AI agents, Wed Nov 11 2026. No macro, syntax, notation, axiom, sorry.
-/
import Derived.Test.YtpemchghaddgdaaChecked
import GoSem.Claim
import GoSem.ClaimJoined
import GoSem.ClaimMapViews
import Derived.JoinedTies
import Derived.KernelRfl
namespace Go.Proofs.Ytpemchghaddgdaa
/- THE CELL 'sum', in the pinned program and in every row, IS THE sha256 OF THE DUMP (.gsa) THAT YtpemchghaddgdaaProg.lean LOADS. Nothing in Lean hashes anything: it is a label: what it is worth is what the hold of that sum in a sandbox is worth. -/
noncomputable def Try.pinned : Pinned := { name := "ytpemchghaddgdaa", sum := "5e2d3f050d38b073d1f3f253b7a1b5377da6e9b409c7205cdcde549bfd85209a", checked := Try.checked }
namespace Rows
def none {H : Type} : Left H := { results := [], args := [] }

/-- 'posternlaw04.RealOf': WHATEVER THE INPUT: true; the input reads as it did. -/
def realOfSpec : ChangeSpec := { name := "realOf", fn := fun _ => fun
  | [d] => { results := [.lit (.bool true)], args := [d] }
  | _ => none }
def realOfRow : OpenClaim := { program := "ytpemchghaddgdaa", sum := "5e2d3f050d38b073d1f3f253b7a1b5377da6e9b409c7205cdcde549bfd85209a", func := "postern/posternlaw04.RealOf", spec := "realOf", inPlace := ["math.Float64bits", "math.Float64frombits", "math.Float32frombits", "math.Float32bits"], apart := false }
def RealOfSaid : Prop := realOfRow.holds Try.pinned (OpenSpec.ofChange realOfSpec)

/-- ITS FALSE NEIGHBOUR: 'it returns false'. Refute it at one input. -/
def realOfWrong : ChangeSpec := { name := "realOf", fn := fun _ => fun
  | [d] => { results := [.lit (.bool false)], args := [d] }
  | _ => none }
def RealOfWrongFalsely : Prop := realOfRow.holds Try.pinned (OpenSpec.ofChange realOfWrong)

/-- 'posternlaw04.RealParts': WHATEVER THE INPUT: true; the input reads as it did. -/
def realPartsSpec : ChangeSpec := { name := "realParts", fn := fun _ => fun
  | [d1, d2] => { results := [.lit (.bool true)], args := [d1, d2] }
  | _ => none }
def realPartsRow : OpenClaim := { program := "ytpemchghaddgdaa", sum := "5e2d3f050d38b073d1f3f253b7a1b5377da6e9b409c7205cdcde549bfd85209a", func := "postern/posternlaw04.RealParts", spec := "realParts", inPlace := ["math.Float64bits", "math.Float64frombits", "math.Float32frombits", "math.Float32bits"], apart := false }
def RealPartsSaid : Prop := realPartsRow.holds Try.pinned (OpenSpec.ofChange realPartsSpec)

/-- ITS FALSE NEIGHBOUR: 'it returns false'. Refute it at one input. -/
def realPartsWrong : ChangeSpec := { name := "realParts", fn := fun _ => fun
  | [d1, d2] => { results := [.lit (.bool false)], args := [d1, d2] }
  | _ => none }
def RealPartsWrongFalsely : Prop := realPartsRow.holds Try.pinned (OpenSpec.ofChange realPartsWrong)

/-- 'posternlaw04.RealSteps': WHATEVER THE INPUT: true; the input reads as it did. -/
def realStepsSpec : ChangeSpec := { name := "realSteps", fn := fun _ => fun
  | [d1, d2] => { results := [.lit (.bool true)], args := [d1, d2] }
  | _ => none }
def realStepsRow : OpenClaim := { program := "ytpemchghaddgdaa", sum := "5e2d3f050d38b073d1f3f253b7a1b5377da6e9b409c7205cdcde549bfd85209a", func := "postern/posternlaw04.RealSteps", spec := "realSteps", inPlace := ["math.Float64bits", "math.Float64frombits"], unfollowed := true, recurses := true, apart := false }
def RealStepsSaid : Prop := realStepsRow.holds Try.pinned (OpenSpec.ofChange realStepsSpec)

/-- ITS FALSE NEIGHBOUR: 'it returns false'. Refute it at one input. -/
def realStepsWrong : ChangeSpec := { name := "realSteps", fn := fun _ => fun
  | [d1, d2] => { results := [.lit (.bool false)], args := [d1, d2] }
  | _ => none }
def RealStepsWrongFalsely : Prop := realStepsRow.holds Try.pinned (OpenSpec.ofChange realStepsWrong)

/-- 'posternlaw04.RealOrders': WHATEVER THE INPUT: true; the input reads as it did. -/
def realOrdersSpec : ChangeSpec := { name := "realOrders", fn := fun _ => fun
  | [d1, d2] => { results := [.lit (.bool true)], args := [d1, d2] }
  | _ => none }
def realOrdersRow : OpenClaim := { program := "ytpemchghaddgdaa", sum := "5e2d3f050d38b073d1f3f253b7a1b5377da6e9b409c7205cdcde549bfd85209a", func := "postern/posternlaw04.RealOrders", spec := "realOrders", inPlace := ["math.Float64bits", "math.Float64frombits"], apart := false }
def RealOrdersSaid : Prop := realOrdersRow.holds Try.pinned (OpenSpec.ofChange realOrdersSpec)

/-- ITS FALSE NEIGHBOUR: 'it returns false'. Refute it at one input. -/
def realOrdersWrong : ChangeSpec := { name := "realOrders", fn := fun _ => fun
  | [d1, d2] => { results := [.lit (.bool false)], args := [d1, d2] }
  | _ => none }
def RealOrdersWrongFalsely : Prop := realOrdersRow.holds Try.pinned (OpenSpec.ofChange realOrdersWrong)

/-- 'posternlaw04.RealWholes': WHATEVER THE INPUT: true; the input reads as it did. -/
def realWholesSpec : ChangeSpec := { name := "realWholes", fn := fun _ => fun
  | [d] => { results := [.lit (.bool true)], args := [d] }
  | _ => none }
def realWholesRow : OpenClaim := { program := "ytpemchghaddgdaa", sum := "5e2d3f050d38b073d1f3f253b7a1b5377da6e9b409c7205cdcde549bfd85209a", func := "postern/posternlaw04.RealWholes", spec := "realWholes", inPlace := ["math.Float64bits", "math.Float64frombits", "math.archTrunc", "math.RoundToEven"], apart := false }
def RealWholesSaid : Prop := realWholesRow.holds Try.pinned (OpenSpec.ofChange realWholesSpec)

/-- ITS FALSE NEIGHBOUR: 'it returns false'. Refute it at one input. -/
def realWholesWrong : ChangeSpec := { name := "realWholes", fn := fun _ => fun
  | [d] => { results := [.lit (.bool false)], args := [d] }
  | _ => none }
def RealWholesWrongFalsely : Prop := realWholesRow.holds Try.pinned (OpenSpec.ofChange realWholesWrong)

/-- 'posternlaw04.RealSquares': WHATEVER THE INPUT: true; the input reads as it did. -/
def realSquaresSpec : ChangeSpec := { name := "realSquares", fn := fun _ => fun
  | [d1, d2, d3] => { results := [.lit (.bool true)], args := [d1, d2, d3] }
  | _ => none }
def realSquaresRow : OpenClaim := { program := "ytpemchghaddgdaa", sum := "5e2d3f050d38b073d1f3f253b7a1b5377da6e9b409c7205cdcde549bfd85209a", func := "postern/posternlaw04.RealSquares", spec := "realSquares", inPlace := ["math.Float64bits", "math.Float64frombits", "math.sqrt", "math.archTrunc"], apart := false }
def RealSquaresSaid : Prop := realSquaresRow.holds Try.pinned (OpenSpec.ofChange realSquaresSpec)

/-- ITS FALSE NEIGHBOUR: 'it returns false'. Refute it at one input. -/
def realSquaresWrong : ChangeSpec := { name := "realSquares", fn := fun _ => fun
  | [d1, d2, d3] => { results := [.lit (.bool false)], args := [d1, d2, d3] }
  | _ => none }
def RealSquaresWrongFalsely : Prop := realSquaresRow.holds Try.pinned (OpenSpec.ofChange realSquaresWrong)

/-- 'posternlaw04.RealExtremes': WHATEVER THE INPUT: true; the input reads as it did. -/
def realExtremesSpec : ChangeSpec := { name := "realExtremes", fn := fun _ => fun
  | [d1, d2] => { results := [.lit (.bool true)], args := [d1, d2] }
  | _ => none }
def realExtremesRow : OpenClaim := { program := "ytpemchghaddgdaa", sum := "5e2d3f050d38b073d1f3f253b7a1b5377da6e9b409c7205cdcde549bfd85209a", func := "postern/posternlaw04.RealExtremes", spec := "realExtremes", inPlace := ["math.Float64bits", "math.Float64frombits"], apart := false }
def RealExtremesSaid : Prop := realExtremesRow.holds Try.pinned (OpenSpec.ofChange realExtremesSpec)

/-- ITS FALSE NEIGHBOUR: 'it returns false'. Refute it at one input. -/
def realExtremesWrong : ChangeSpec := { name := "realExtremes", fn := fun _ => fun
  | [d1, d2] => { results := [.lit (.bool false)], args := [d1, d2] }
  | _ => none }
def RealExtremesWrongFalsely : Prop := realExtremesRow.holds Try.pinned (OpenSpec.ofChange realExtremesWrong)

/-- 'posternlaw04.RealScales': WHATEVER THE INPUT: true; the input reads as it did. -/
def realScalesSpec : ChangeSpec := { name := "realScales", fn := fun _ => fun
  | [d1, d2] => { results := [.lit (.bool true)], args := [d1, d2] }
  | _ => none }
def realScalesRow : OpenClaim := { program := "ytpemchghaddgdaa", sum := "5e2d3f050d38b073d1f3f253b7a1b5377da6e9b409c7205cdcde549bfd85209a", func := "postern/posternlaw04.RealScales", spec := "realScales", inPlace := ["math.Float64bits", "math.Float64frombits"], apart := false }
def RealScalesSaid : Prop := realScalesRow.holds Try.pinned (OpenSpec.ofChange realScalesSpec)

/-- ITS FALSE NEIGHBOUR: 'it returns false'. Refute it at one input. -/
def realScalesWrong : ChangeSpec := { name := "realScales", fn := fun _ => fun
  | [d1, d2] => { results := [.lit (.bool false)], args := [d1, d2] }
  | _ => none }
def RealScalesWrongFalsely : Prop := realScalesRow.holds Try.pinned (OpenSpec.ofChange realScalesWrong)

/-- 'posternlaw04.RealRounds': WHATEVER THE INPUT: true; the input reads as it did. -/
def realRoundsSpec : ChangeSpec := { name := "realRounds", fn := fun _ => fun
  | [d1, d2, d3] => { results := [.lit (.bool true)], args := [d1, d2, d3] }
  | _ => none }
def realRoundsRow : OpenClaim := { program := "ytpemchghaddgdaa", sum := "5e2d3f050d38b073d1f3f253b7a1b5377da6e9b409c7205cdcde549bfd85209a", func := "postern/posternlaw04.RealRounds", spec := "realRounds", inPlace := ["math.Float64bits", "math.Float64frombits", "math.Float32bits", "math.Float32frombits"], apart := false }
def RealRoundsSaid : Prop := realRoundsRow.holds Try.pinned (OpenSpec.ofChange realRoundsSpec)

/-- ITS FALSE NEIGHBOUR: 'it returns false'. Refute it at one input. -/
def realRoundsWrong : ChangeSpec := { name := "realRounds", fn := fun _ => fun
  | [d1, d2, d3] => { results := [.lit (.bool false)], args := [d1, d2, d3] }
  | _ => none }
def RealRoundsWrongFalsely : Prop := realRoundsRow.holds Try.pinned (OpenSpec.ofChange realRoundsWrong)

/-- 'posternlaw04.RealRises': WHATEVER THE INPUT: true; the input reads as it did. -/
def realRisesSpec : ChangeSpec := { name := "realRises", fn := fun _ => fun
  | [d1, d2] => { results := [.lit (.bool true)], args := [d1, d2] }
  | _ => none }
def realRisesRow : OpenClaim := { program := "ytpemchghaddgdaa", sum := "5e2d3f050d38b073d1f3f253b7a1b5377da6e9b409c7205cdcde549bfd85209a", func := "postern/posternlaw04.RealRises", spec := "realRises", inPlace := ["math.Float64bits", "math.Float64frombits", "math.RoundToEven", "math.archTrunc"], apart := false }
def RealRisesSaid : Prop := realRisesRow.holds Try.pinned (OpenSpec.ofChange realRisesSpec)

/-- ITS FALSE NEIGHBOUR: 'it returns false'. Refute it at one input. -/
def realRisesWrong : ChangeSpec := { name := "realRises", fn := fun _ => fun
  | [d1, d2] => { results := [.lit (.bool false)], args := [d1, d2] }
  | _ => none }
def RealRisesWrongFalsely : Prop := realRisesRow.holds Try.pinned (OpenSpec.ofChange realRisesWrong)

/-- 'posternlaw04.RealBack': WHATEVER THE INPUT: true; the input reads as it did. -/
def realBackSpec : ChangeSpec := { name := "realBack", fn := fun _ => fun
  | [d] => { results := [.lit (.bool true)], args := [d] }
  | _ => none }
def realBackRow : OpenClaim := { program := "ytpemchghaddgdaa", sum := "5e2d3f050d38b073d1f3f253b7a1b5377da6e9b409c7205cdcde549bfd85209a", func := "postern/posternlaw04.RealBack", spec := "realBack", inPlace := ["math.Float64bits", "math.Float64frombits"], apart := false }
def RealBackSaid : Prop := realBackRow.holds Try.pinned (OpenSpec.ofChange realBackSpec)

/-- ITS FALSE NEIGHBOUR: 'it returns false'. Refute it at one input. -/
def realBackWrong : ChangeSpec := { name := "realBack", fn := fun _ => fun
  | [d] => { results := [.lit (.bool false)], args := [d] }
  | _ => none }
def RealBackWrongFalsely : Prop := realBackRow.holds Try.pinned (OpenSpec.ofChange realBackWrong)

/-- 'posternlaw04.RealFormats': WHATEVER THE INPUT: true; the input reads as it did. -/
def realFormatsSpec : ChangeSpec := { name := "realFormats", fn := fun _ => fun
  | [d1, d2, d3] => { results := [.lit (.bool true)], args := [d1, d2, d3] }
  | _ => none }
def realFormatsRow : OpenClaim := { program := "ytpemchghaddgdaa", sum := "5e2d3f050d38b073d1f3f253b7a1b5377da6e9b409c7205cdcde549bfd85209a", func := "postern/posternlaw04.RealFormats", spec := "realFormats", inPlace := ["math.Float64bits", "math.Float64frombits"], apart := false }
def RealFormatsSaid : Prop := realFormatsRow.holds Try.pinned (OpenSpec.ofChange realFormatsSpec)

/-- ITS FALSE NEIGHBOUR: 'it returns false'. Refute it at one input. -/
def realFormatsWrong : ChangeSpec := { name := "realFormats", fn := fun _ => fun
  | [d1, d2, d3] => { results := [.lit (.bool false)], args := [d1, d2, d3] }
  | _ => none }
def RealFormatsWrongFalsely : Prop := realFormatsRow.holds Try.pinned (OpenSpec.ofChange realFormatsWrong)

/-- 'posternlaw04.RealRoots': WHATEVER THE INPUT: true; the input reads as it did. -/
def realRootsSpec : ChangeSpec := { name := "realRoots", fn := fun _ => fun
  | [d] => { results := [.lit (.bool true)], args := [d] }
  | _ => none }
def realRootsRow : OpenClaim := { program := "ytpemchghaddgdaa", sum := "5e2d3f050d38b073d1f3f253b7a1b5377da6e9b409c7205cdcde549bfd85209a", func := "postern/posternlaw04.RealRoots", spec := "realRoots", inPlace := ["math.Float64bits", "math.Float64frombits", "math.archTrunc", "math.sqrt"], apart := false }
def RealRootsSaid : Prop := realRootsRow.holds Try.pinned (OpenSpec.ofChange realRootsSpec)

/-- ITS FALSE NEIGHBOUR: 'it returns false'. Refute it at one input. -/
def realRootsWrong : ChangeSpec := { name := "realRoots", fn := fun _ => fun
  | [d] => { results := [.lit (.bool false)], args := [d] }
  | _ => none }
def RealRootsWrongFalsely : Prop := realRootsRow.holds Try.pinned (OpenSpec.ofChange realRootsWrong)

/-- 'posternlaw04.RealRests': WHATEVER THE INPUT: true; the input reads as it did. -/
def realRestsSpec : ChangeSpec := { name := "realRests", fn := fun _ => fun
  | [d1, d2] => { results := [.lit (.bool true)], args := [d1, d2] }
  | _ => none }
def realRestsRow : OpenClaim := { program := "ytpemchghaddgdaa", sum := "5e2d3f050d38b073d1f3f253b7a1b5377da6e9b409c7205cdcde549bfd85209a", func := "postern/posternlaw04.RealRests", spec := "realRests", inPlace := ["math.Float64bits", "math.Float64frombits"], apart := false }
def RealRestsSaid : Prop := realRestsRow.holds Try.pinned (OpenSpec.ofChange realRestsSpec)

/-- ITS FALSE NEIGHBOUR: 'it returns false'. Refute it at one input. -/
def realRestsWrong : ChangeSpec := { name := "realRests", fn := fun _ => fun
  | [d1, d2] => { results := [.lit (.bool false)], args := [d1, d2] }
  | _ => none }
def RealRestsWrongFalsely : Prop := realRestsRow.holds Try.pinned (OpenSpec.ofChange realRestsWrong)

/- THE SECOND FORM. 'bulk': how many values and letters a reading holds, each counted each time it is reached (what is shared counts as often as it is met; a slice's spare places count too). A statement '..UptoSaid' is the law's where the arguments, and the package variables that the reading takes, are together of bulk at most 1048576: NARROWER than '..Said'. Prove '..Said' where nothing that the law and all that it calls make is longer than what came in: it says more and counts as full. Else prove '..UptoSaid'. A law counts once. -/
mutual
def uptoBulk {H : Type} : DataW H → Nat
  | .lit (.string bytes) => bytes.length + 1
  | .lit _ => 1
  | .nil => 1
  | .ptr d => uptoBulk d + 1
  | .slice elems spare => uptoBulkAll elems + uptoBulkAll spare + 1
  | .agg parts => uptoBulkAll parts + 1
  | .iface _ d => uptoBulk d + 1
  | .map entries => uptoBulkEntries entries + 1
  | .held _ => 1
def uptoBulkAll {H : Type} : List (DataW H) → Nat
  | [] => 0
  | d :: r => uptoBulk d + uptoBulkAll r
def uptoBulkEntries {H : Type} : List (Lit × DataW H) → Nat
  | [] => 0
  | x :: r => uptoBulkEntry x + uptoBulkEntries r
def uptoBulkEntry {H : Type} : Lit × DataW H → Nat
  | (.string bytes, d) => bytes.length + uptoBulk d + 1
  | (_, d) => uptoBulk d + 1
 end
def uptoSmall : (H : Type) → List (DataW H) → Bool := fun _ ds => decide (uptoBulkAll ds ≤ 1048576)
def OpenSpec.upto (s : _root_.Go.ChangeSpec) : _root_.Go.OpenSpec := { _root_.Go.OpenSpec.ofChange s with cond := some uptoSmall }

/-- 'posternlaw04.RealOf', WHERE WHAT IT READS IS OF BULK AT MOST 1048576: true; the input reads as it did. -/
def realOfUptoRow : OpenClaim := { program := "ytpemchghaddgdaa", sum := "5e2d3f050d38b073d1f3f253b7a1b5377da6e9b409c7205cdcde549bfd85209a", func := "postern/posternlaw04.RealOf", spec := "realOf", inPlace := ["math.Float64bits", "math.Float64frombits", "math.Float32frombits", "math.Float32bits"], apart := false, narrowed := true }
def RealOfUptoSaid : Prop := realOfUptoRow.holds Try.pinned (OpenSpec.upto realOfSpec)

/-- 'posternlaw04.RealParts', WHERE WHAT IT READS IS OF BULK AT MOST 1048576: true; the input reads as it did. -/
def realPartsUptoRow : OpenClaim := { program := "ytpemchghaddgdaa", sum := "5e2d3f050d38b073d1f3f253b7a1b5377da6e9b409c7205cdcde549bfd85209a", func := "postern/posternlaw04.RealParts", spec := "realParts", inPlace := ["math.Float64bits", "math.Float64frombits", "math.Float32frombits", "math.Float32bits"], apart := false, narrowed := true }
def RealPartsUptoSaid : Prop := realPartsUptoRow.holds Try.pinned (OpenSpec.upto realPartsSpec)

/-- 'posternlaw04.RealSteps', WHERE WHAT IT READS IS OF BULK AT MOST 1048576: true; the input reads as it did. -/
def realStepsUptoRow : OpenClaim := { program := "ytpemchghaddgdaa", sum := "5e2d3f050d38b073d1f3f253b7a1b5377da6e9b409c7205cdcde549bfd85209a", func := "postern/posternlaw04.RealSteps", spec := "realSteps", inPlace := ["math.Float64bits", "math.Float64frombits"], unfollowed := true, recurses := true, apart := false, narrowed := true }
def RealStepsUptoSaid : Prop := realStepsUptoRow.holds Try.pinned (OpenSpec.upto realStepsSpec)

/-- 'posternlaw04.RealOrders', WHERE WHAT IT READS IS OF BULK AT MOST 1048576: true; the input reads as it did. -/
def realOrdersUptoRow : OpenClaim := { program := "ytpemchghaddgdaa", sum := "5e2d3f050d38b073d1f3f253b7a1b5377da6e9b409c7205cdcde549bfd85209a", func := "postern/posternlaw04.RealOrders", spec := "realOrders", inPlace := ["math.Float64bits", "math.Float64frombits"], apart := false, narrowed := true }
def RealOrdersUptoSaid : Prop := realOrdersUptoRow.holds Try.pinned (OpenSpec.upto realOrdersSpec)

/-- 'posternlaw04.RealWholes', WHERE WHAT IT READS IS OF BULK AT MOST 1048576: true; the input reads as it did. -/
def realWholesUptoRow : OpenClaim := { program := "ytpemchghaddgdaa", sum := "5e2d3f050d38b073d1f3f253b7a1b5377da6e9b409c7205cdcde549bfd85209a", func := "postern/posternlaw04.RealWholes", spec := "realWholes", inPlace := ["math.Float64bits", "math.Float64frombits", "math.archTrunc", "math.RoundToEven"], apart := false, narrowed := true }
def RealWholesUptoSaid : Prop := realWholesUptoRow.holds Try.pinned (OpenSpec.upto realWholesSpec)

/-- 'posternlaw04.RealSquares', WHERE WHAT IT READS IS OF BULK AT MOST 1048576: true; the input reads as it did. -/
def realSquaresUptoRow : OpenClaim := { program := "ytpemchghaddgdaa", sum := "5e2d3f050d38b073d1f3f253b7a1b5377da6e9b409c7205cdcde549bfd85209a", func := "postern/posternlaw04.RealSquares", spec := "realSquares", inPlace := ["math.Float64bits", "math.Float64frombits", "math.sqrt", "math.archTrunc"], apart := false, narrowed := true }
def RealSquaresUptoSaid : Prop := realSquaresUptoRow.holds Try.pinned (OpenSpec.upto realSquaresSpec)

/-- 'posternlaw04.RealExtremes', WHERE WHAT IT READS IS OF BULK AT MOST 1048576: true; the input reads as it did. -/
def realExtremesUptoRow : OpenClaim := { program := "ytpemchghaddgdaa", sum := "5e2d3f050d38b073d1f3f253b7a1b5377da6e9b409c7205cdcde549bfd85209a", func := "postern/posternlaw04.RealExtremes", spec := "realExtremes", inPlace := ["math.Float64bits", "math.Float64frombits"], apart := false, narrowed := true }
def RealExtremesUptoSaid : Prop := realExtremesUptoRow.holds Try.pinned (OpenSpec.upto realExtremesSpec)

/-- 'posternlaw04.RealScales', WHERE WHAT IT READS IS OF BULK AT MOST 1048576: true; the input reads as it did. -/
def realScalesUptoRow : OpenClaim := { program := "ytpemchghaddgdaa", sum := "5e2d3f050d38b073d1f3f253b7a1b5377da6e9b409c7205cdcde549bfd85209a", func := "postern/posternlaw04.RealScales", spec := "realScales", inPlace := ["math.Float64bits", "math.Float64frombits"], apart := false, narrowed := true }
def RealScalesUptoSaid : Prop := realScalesUptoRow.holds Try.pinned (OpenSpec.upto realScalesSpec)

/-- 'posternlaw04.RealRounds', WHERE WHAT IT READS IS OF BULK AT MOST 1048576: true; the input reads as it did. -/
def realRoundsUptoRow : OpenClaim := { program := "ytpemchghaddgdaa", sum := "5e2d3f050d38b073d1f3f253b7a1b5377da6e9b409c7205cdcde549bfd85209a", func := "postern/posternlaw04.RealRounds", spec := "realRounds", inPlace := ["math.Float64bits", "math.Float64frombits", "math.Float32bits", "math.Float32frombits"], apart := false, narrowed := true }
def RealRoundsUptoSaid : Prop := realRoundsUptoRow.holds Try.pinned (OpenSpec.upto realRoundsSpec)

/-- 'posternlaw04.RealRises', WHERE WHAT IT READS IS OF BULK AT MOST 1048576: true; the input reads as it did. -/
def realRisesUptoRow : OpenClaim := { program := "ytpemchghaddgdaa", sum := "5e2d3f050d38b073d1f3f253b7a1b5377da6e9b409c7205cdcde549bfd85209a", func := "postern/posternlaw04.RealRises", spec := "realRises", inPlace := ["math.Float64bits", "math.Float64frombits", "math.RoundToEven", "math.archTrunc"], apart := false, narrowed := true }
def RealRisesUptoSaid : Prop := realRisesUptoRow.holds Try.pinned (OpenSpec.upto realRisesSpec)

/-- 'posternlaw04.RealBack', WHERE WHAT IT READS IS OF BULK AT MOST 1048576: true; the input reads as it did. -/
def realBackUptoRow : OpenClaim := { program := "ytpemchghaddgdaa", sum := "5e2d3f050d38b073d1f3f253b7a1b5377da6e9b409c7205cdcde549bfd85209a", func := "postern/posternlaw04.RealBack", spec := "realBack", inPlace := ["math.Float64bits", "math.Float64frombits"], apart := false, narrowed := true }
def RealBackUptoSaid : Prop := realBackUptoRow.holds Try.pinned (OpenSpec.upto realBackSpec)

/-- 'posternlaw04.RealFormats', WHERE WHAT IT READS IS OF BULK AT MOST 1048576: true; the input reads as it did. -/
def realFormatsUptoRow : OpenClaim := { program := "ytpemchghaddgdaa", sum := "5e2d3f050d38b073d1f3f253b7a1b5377da6e9b409c7205cdcde549bfd85209a", func := "postern/posternlaw04.RealFormats", spec := "realFormats", inPlace := ["math.Float64bits", "math.Float64frombits"], apart := false, narrowed := true }
def RealFormatsUptoSaid : Prop := realFormatsUptoRow.holds Try.pinned (OpenSpec.upto realFormatsSpec)

/-- 'posternlaw04.RealRoots', WHERE WHAT IT READS IS OF BULK AT MOST 1048576: true; the input reads as it did. -/
def realRootsUptoRow : OpenClaim := { program := "ytpemchghaddgdaa", sum := "5e2d3f050d38b073d1f3f253b7a1b5377da6e9b409c7205cdcde549bfd85209a", func := "postern/posternlaw04.RealRoots", spec := "realRoots", inPlace := ["math.Float64bits", "math.Float64frombits", "math.archTrunc", "math.sqrt"], apart := false, narrowed := true }
def RealRootsUptoSaid : Prop := realRootsUptoRow.holds Try.pinned (OpenSpec.upto realRootsSpec)

/-- 'posternlaw04.RealRests', WHERE WHAT IT READS IS OF BULK AT MOST 1048576: true; the input reads as it did. -/
def realRestsUptoRow : OpenClaim := { program := "ytpemchghaddgdaa", sum := "5e2d3f050d38b073d1f3f253b7a1b5377da6e9b409c7205cdcde549bfd85209a", func := "postern/posternlaw04.RealRests", spec := "realRests", inPlace := ["math.Float64bits", "math.Float64frombits"], apart := false, narrowed := true }
def RealRestsUptoSaid : Prop := realRestsUptoRow.holds Try.pinned (OpenSpec.upto realRestsSpec)

end Rows
end Go.Proofs.Ytpemchghaddgdaa
