/-
  No cell of these rows narrows 'for every input' (looked for: loops, veiled, ifaces, maps, wideKeys, modest, calm, conditions, laid).
  DERIVED. THE GIVEN ROWS OF THIS SEAT. 12 by the template 'for every input the law returns true; each argument reads behind the call as it read before'; 0 by the template 'total and deterministic' (their statements: YtjakjnmfndfehaaTotals.lean).
  GIVEN WITH THE SEED: the statements are not yours to turn. If you find one false, say at which input.
  Laid BY PROGRAM, IN A SANDBOX (cutbox-rows.mjs): the forced cells as the released guide's own fill.sh prints them over the translation 741dfe83f93f977e… (all of the seat's roots in one cut). By AI agents, Wed Nov 11 2026. No macro, syntax, notation, axiom, sorry.
-/
import Derived.Test.YtjakjnmfndfehaaChecked
import GoSem.Claim
import GoSem.ClaimJoined
import GoSem.ClaimMapViews
import Derived.JoinedTies
import Derived.KernelRfl
namespace Go.Proofs.Ytjakjnmfndfehaa
/- THE CELL 'sum', in the pinned program and in every row, IS THE sha256 OF THE DUMP (.gsa) THAT YtjakjnmfndfehaaProg.lean LOADS. Nothing in Lean hashes anything: it is a label: what it is worth is what the hold of that sum in a sandbox is worth. -/
noncomputable def Try.pinned : Pinned := { name := "ytjakjnmfndfehaa", sum := "741dfe83f93f977ec13dab5e6efb2b1b4c29451a906742af9f3f47344571023a", checked := Try.checked }
namespace Rows
def none {H : Type} : Left H := { results := [], args := [] }

/-- 'posternlaw05.TotalSpreads': WHATEVER THE INPUT: true; the input reads as it did. -/
def totalSpreadsSpec : ChangeSpec := { name := "totalSpreads", fn := fun _ => fun
  | [d] => { results := [.lit (.bool true)], args := [d] }
  | _ => none }
def totalSpreadsRow : OpenClaim := { program := "ytjakjnmfndfehaa", sum := "741dfe83f93f977ec13dab5e6efb2b1b4c29451a906742af9f3f47344571023a", func := "postern/posternlaw05.TotalSpreads", spec := "totalSpreads", inPlace := ["math.Float64bits", "math.Float64frombits", "math/bits.Add64", "math.sqrt"], unfollowed := true, recurses := true, apart := false }
def TotalSpreadsSaid : Prop := totalSpreadsRow.holds Try.pinned (OpenSpec.ofChange totalSpreadsSpec)

/-- ITS FALSE NEIGHBOUR: 'it returns false'. Refute it at one input. -/
def totalSpreadsWrong : ChangeSpec := { name := "totalSpreads", fn := fun _ => fun
  | [d] => { results := [.lit (.bool false)], args := [d] }
  | _ => none }
def TotalSpreadsWrongFalsely : Prop := totalSpreadsRow.holds Try.pinned (OpenSpec.ofChange totalSpreadsWrong)

/-- 'posternlaw05.TotalOrders': WHATEVER THE INPUT: true; the input reads as it did. -/
def totalOrdersSpec : ChangeSpec := { name := "totalOrders", fn := fun _ => fun
  | [d1, d2] => { results := [.lit (.bool true)], args := [d1, d2] }
  | _ => none }
def totalOrdersRow : OpenClaim := { program := "ytjakjnmfndfehaa", sum := "741dfe83f93f977ec13dab5e6efb2b1b4c29451a906742af9f3f47344571023a", func := "postern/posternlaw05.TotalOrders", spec := "totalOrders", inPlace := ["math.Float64bits", "math.Float64frombits", "math/bits.Add64"], apart := false }
def TotalOrdersSaid : Prop := totalOrdersRow.holds Try.pinned (OpenSpec.ofChange totalOrdersSpec)

/-- ITS FALSE NEIGHBOUR: 'it returns false'. Refute it at one input. -/
def totalOrdersWrong : ChangeSpec := { name := "totalOrders", fn := fun _ => fun
  | [d1, d2] => { results := [.lit (.bool false)], args := [d1, d2] }
  | _ => none }
def TotalOrdersWrongFalsely : Prop := totalOrdersRow.holds Try.pinned (OpenSpec.ofChange totalOrdersWrong)

/-- 'posternlaw05.TotalExact': WHATEVER THE INPUT: true; the input reads as it did. -/
def totalExactSpec : ChangeSpec := { name := "totalExact", fn := fun _ => fun
  | [d] => { results := [.lit (.bool true)], args := [d] }
  | _ => none }
def totalExactRow : OpenClaim := { program := "ytjakjnmfndfehaa", sum := "741dfe83f93f977ec13dab5e6efb2b1b4c29451a906742af9f3f47344571023a", func := "postern/posternlaw05.TotalExact", spec := "totalExact", inPlace := ["math.Float64bits", "math.Float64frombits", "math/bits.Add64"], apart := false }
def TotalExactSaid : Prop := totalExactRow.holds Try.pinned (OpenSpec.ofChange totalExactSpec)

/-- ITS FALSE NEIGHBOUR: 'it returns false'. Refute it at one input. -/
def totalExactWrong : ChangeSpec := { name := "totalExact", fn := fun _ => fun
  | [d] => { results := [.lit (.bool false)], args := [d] }
  | _ => none }
def TotalExactWrongFalsely : Prop := totalExactRow.holds Try.pinned (OpenSpec.ofChange totalExactWrong)

/-- 'posternlaw05.TotalCancels': WHATEVER THE INPUT: true; the input reads as it did. -/
def totalCancelsSpec : ChangeSpec := { name := "totalCancels", fn := fun _ => fun
  | [d1, d2, d3] => { results := [.lit (.bool true)], args := [d1, d2, d3] }
  | _ => none }
def totalCancelsRow : OpenClaim := { program := "ytjakjnmfndfehaa", sum := "741dfe83f93f977ec13dab5e6efb2b1b4c29451a906742af9f3f47344571023a", func := "postern/posternlaw05.TotalCancels", spec := "totalCancels", inPlace := ["math.Float64bits", "math.Float64frombits", "math/bits.Add64"], apart := false }
def TotalCancelsSaid : Prop := totalCancelsRow.holds Try.pinned (OpenSpec.ofChange totalCancelsSpec)

/-- ITS FALSE NEIGHBOUR: 'it returns false'. Refute it at one input. -/
def totalCancelsWrong : ChangeSpec := { name := "totalCancels", fn := fun _ => fun
  | [d1, d2, d3] => { results := [.lit (.bool false)], args := [d1, d2, d3] }
  | _ => none }
def TotalCancelsWrongFalsely : Prop := totalCancelsRow.holds Try.pinned (OpenSpec.ofChange totalCancelsWrong)

/-- 'posternlaw05.TotalGathers': WHATEVER THE INPUT: true; the input reads as it did. -/
def totalGathersSpec : ChangeSpec := { name := "totalGathers", fn := fun _ => fun
  | [d1, d2] => { results := [.lit (.bool true)], args := [d1, d2] }
  | _ => none }
def totalGathersRow : OpenClaim := { program := "ytjakjnmfndfehaa", sum := "741dfe83f93f977ec13dab5e6efb2b1b4c29451a906742af9f3f47344571023a", func := "postern/posternlaw05.TotalGathers", spec := "totalGathers", inPlace := ["math.Float64bits", "math.Float64frombits", "math/bits.Add64"], apart := false }
def TotalGathersSaid : Prop := totalGathersRow.holds Try.pinned (OpenSpec.ofChange totalGathersSpec)

/-- ITS FALSE NEIGHBOUR: 'it returns false'. Refute it at one input. -/
def totalGathersWrong : ChangeSpec := { name := "totalGathers", fn := fun _ => fun
  | [d1, d2] => { results := [.lit (.bool false)], args := [d1, d2] }
  | _ => none }
def TotalGathersWrongFalsely : Prop := totalGathersRow.holds Try.pinned (OpenSpec.ofChange totalGathersWrong)

/-- 'posternlaw05.TotalKeeps': WHATEVER THE INPUT: true; the input reads as it did. -/
def totalKeepsSpec : ChangeSpec := { name := "totalKeeps", fn := fun _ => fun
  | [d1, d2, d3] => { results := [.lit (.bool true)], args := [d1, d2, d3] }
  | _ => none }
def totalKeepsRow : OpenClaim := { program := "ytjakjnmfndfehaa", sum := "741dfe83f93f977ec13dab5e6efb2b1b4c29451a906742af9f3f47344571023a", func := "postern/posternlaw05.TotalKeeps", spec := "totalKeeps", inPlace := ["math.Float64bits", "math.Float64frombits", "math/bits.Add64"], apart := false }
def TotalKeepsSaid : Prop := totalKeepsRow.holds Try.pinned (OpenSpec.ofChange totalKeepsSpec)

/-- ITS FALSE NEIGHBOUR: 'it returns false'. Refute it at one input. -/
def totalKeepsWrong : ChangeSpec := { name := "totalKeeps", fn := fun _ => fun
  | [d1, d2, d3] => { results := [.lit (.bool false)], args := [d1, d2, d3] }
  | _ => none }
def TotalKeepsWrongFalsely : Prop := totalKeepsRow.holds Try.pinned (OpenSpec.ofChange totalKeepsWrong)

/-- 'posternlaw05.TotalSums': WHATEVER THE INPUT: true; the input reads as it did. -/
def totalSumsSpec : ChangeSpec := { name := "totalSums", fn := fun _ => fun
  | [d1, d2] => { results := [.lit (.bool true)], args := [d1, d2] }
  | _ => none }
def totalSumsRow : OpenClaim := { program := "ytjakjnmfndfehaa", sum := "741dfe83f93f977ec13dab5e6efb2b1b4c29451a906742af9f3f47344571023a", func := "postern/posternlaw05.TotalSums", spec := "totalSums", inPlace := ["math.Float64bits", "math.Float64frombits", "math/bits.Add64"], recurses := true, apart := false }
def TotalSumsSaid : Prop := totalSumsRow.holds Try.pinned (OpenSpec.ofChange totalSumsSpec)

/-- ITS FALSE NEIGHBOUR: 'it returns false'. Refute it at one input. -/
def totalSumsWrong : ChangeSpec := { name := "totalSums", fn := fun _ => fun
  | [d1, d2] => { results := [.lit (.bool false)], args := [d1, d2] }
  | _ => none }
def TotalSumsWrongFalsely : Prop := totalSumsRow.holds Try.pinned (OpenSpec.ofChange totalSumsWrong)

/-- 'posternlaw05.TotalDots': WHATEVER THE INPUT: true; the input reads as it did. -/
def totalDotsSpec : ChangeSpec := { name := "totalDots", fn := fun _ => fun
  | [d1, d2, d3] => { results := [.lit (.bool true)], args := [d1, d2, d3] }
  | _ => none }
def totalDotsRow : OpenClaim := { program := "ytjakjnmfndfehaa", sum := "741dfe83f93f977ec13dab5e6efb2b1b4c29451a906742af9f3f47344571023a", func := "postern/posternlaw05.TotalDots", spec := "totalDots", inPlace := ["math.Float64bits", "math.Float64frombits", "math/bits.Add64"], apart := false }
def TotalDotsSaid : Prop := totalDotsRow.holds Try.pinned (OpenSpec.ofChange totalDotsSpec)

/-- ITS FALSE NEIGHBOUR: 'it returns false'. Refute it at one input. -/
def totalDotsWrong : ChangeSpec := { name := "totalDots", fn := fun _ => fun
  | [d1, d2, d3] => { results := [.lit (.bool false)], args := [d1, d2, d3] }
  | _ => none }
def TotalDotsWrongFalsely : Prop := totalDotsRow.holds Try.pinned (OpenSpec.ofChange totalDotsWrong)

/-- 'posternlaw05.TotalExpands': WHATEVER THE INPUT: true; the input reads as it did. -/
def totalExpandsSpec : ChangeSpec := { name := "totalExpands", fn := fun _ => fun
  | [d1, d2, d3] => { results := [.lit (.bool true)], args := [d1, d2, d3] }
  | _ => none }
def totalExpandsRow : OpenClaim := { program := "ytjakjnmfndfehaa", sum := "741dfe83f93f977ec13dab5e6efb2b1b4c29451a906742af9f3f47344571023a", func := "postern/posternlaw05.TotalExpands", spec := "totalExpands", inPlace := ["math.Float64bits", "math.Float64frombits", "math/bits.Add64"], apart := false }
def TotalExpandsSaid : Prop := totalExpandsRow.holds Try.pinned (OpenSpec.ofChange totalExpandsSpec)

/-- ITS FALSE NEIGHBOUR: 'it returns false'. Refute it at one input. -/
def totalExpandsWrong : ChangeSpec := { name := "totalExpands", fn := fun _ => fun
  | [d1, d2, d3] => { results := [.lit (.bool false)], args := [d1, d2, d3] }
  | _ => none }
def TotalExpandsWrongFalsely : Prop := totalExpandsRow.holds Try.pinned (OpenSpec.ofChange totalExpandsWrong)

/-- 'posternlaw05.TotalKeepsAll': WHATEVER THE INPUT: true; the input reads as it did. -/
def totalKeepsAllSpec : ChangeSpec := { name := "totalKeepsAll", fn := fun _ => fun
  | [d1, d2] => { results := [.lit (.bool true)], args := [d1, d2] }
  | _ => none }
def totalKeepsAllRow : OpenClaim := { program := "ytjakjnmfndfehaa", sum := "741dfe83f93f977ec13dab5e6efb2b1b4c29451a906742af9f3f47344571023a", func := "postern/posternlaw05.TotalKeepsAll", spec := "totalKeepsAll", inPlace := ["math.Float64bits", "math.Float64frombits", "math/bits.Add64"], apart := false }
def TotalKeepsAllSaid : Prop := totalKeepsAllRow.holds Try.pinned (OpenSpec.ofChange totalKeepsAllSpec)

/-- ITS FALSE NEIGHBOUR: 'it returns false'. Refute it at one input. -/
def totalKeepsAllWrong : ChangeSpec := { name := "totalKeepsAll", fn := fun _ => fun
  | [d1, d2] => { results := [.lit (.bool false)], args := [d1, d2] }
  | _ => none }
def TotalKeepsAllWrongFalsely : Prop := totalKeepsAllRow.holds Try.pinned (OpenSpec.ofChange totalKeepsAllWrong)

/-- 'posternlaw05.TotalRuns': WHATEVER THE INPUT: true; the input reads as it did. -/
def totalRunsSpec : ChangeSpec := { name := "totalRuns", fn := fun _ => fun
  | [d1, d2] => { results := [.lit (.bool true)], args := [d1, d2] }
  | _ => none }
def totalRunsRow : OpenClaim := { program := "ytjakjnmfndfehaa", sum := "741dfe83f93f977ec13dab5e6efb2b1b4c29451a906742af9f3f47344571023a", func := "postern/posternlaw05.TotalRuns", spec := "totalRuns", inPlace := ["math.Float64bits", "math.Float64frombits", "math/bits.Add64"], apart := false }
def TotalRunsSaid : Prop := totalRunsRow.holds Try.pinned (OpenSpec.ofChange totalRunsSpec)

/-- ITS FALSE NEIGHBOUR: 'it returns false'. Refute it at one input. -/
def totalRunsWrong : ChangeSpec := { name := "totalRuns", fn := fun _ => fun
  | [d1, d2] => { results := [.lit (.bool false)], args := [d1, d2] }
  | _ => none }
def TotalRunsWrongFalsely : Prop := totalRunsRow.holds Try.pinned (OpenSpec.ofChange totalRunsWrong)

/-- 'posternlaw05.TotalLimits': WHATEVER THE INPUT: true; the input reads as it did. -/
def totalLimitsSpec : ChangeSpec := { name := "totalLimits", fn := fun _ => fun
  | [d1, d2] => { results := [.lit (.bool true)], args := [d1, d2] }
  | _ => none }
def totalLimitsRow : OpenClaim := { program := "ytjakjnmfndfehaa", sum := "741dfe83f93f977ec13dab5e6efb2b1b4c29451a906742af9f3f47344571023a", func := "postern/posternlaw05.TotalLimits", spec := "totalLimits", inPlace := ["math.Float64bits", "math.Float64frombits", "math/bits.Add64"], recurses := true, apart := false }
def TotalLimitsSaid : Prop := totalLimitsRow.holds Try.pinned (OpenSpec.ofChange totalLimitsSpec)

/-- ITS FALSE NEIGHBOUR: 'it returns false'. Refute it at one input. -/
def totalLimitsWrong : ChangeSpec := { name := "totalLimits", fn := fun _ => fun
  | [d1, d2] => { results := [.lit (.bool false)], args := [d1, d2] }
  | _ => none }
def TotalLimitsWrongFalsely : Prop := totalLimitsRow.holds Try.pinned (OpenSpec.ofChange totalLimitsWrong)

/- THE SECOND FORM. 'bulk': how many values and letters a reading holds, each counted each time it is reached (what is shared counts as often as it is met; a slice's spare places count too). A statement '..UptoSaid' is the law's where the arguments, and the package variables that the reading takes, are together of bulk at most 1048576: NARROWER than '..Said'. Prove '..Said' where nothing that the law and all that it calls make is longer than what came in: it says more and counts as full. Else prove '..UptoSaid'. A law counts once. -/
mutual
def uptoBulk {H : Type} : DataW H → Nat
  | .lit (.string bytes) => bytes.length + 1
  | .lit _ => 1
  | .nil => 1
  | .ptr d => uptoBulk d + 1
  | .slice elems spare => uptoBulkAll elems + uptoBulkAll spare + 1
  | .agg parts => uptoBulkAll parts + 1
  | .iface _ d => uptoBulk d + 1
  | .map entries => uptoBulkEntries entries + 1
  | .held _ => 1
def uptoBulkAll {H : Type} : List (DataW H) → Nat
  | [] => 0
  | d :: r => uptoBulk d + uptoBulkAll r
def uptoBulkEntries {H : Type} : List (Lit × DataW H) → Nat
  | [] => 0
  | x :: r => uptoBulkEntry x + uptoBulkEntries r
def uptoBulkEntry {H : Type} : Lit × DataW H → Nat
  | (.string bytes, d) => bytes.length + uptoBulk d + 1
  | (_, d) => uptoBulk d + 1
 end
def uptoSmall : (H : Type) → List (DataW H) → Bool := fun _ ds => decide (uptoBulkAll ds ≤ 1048576)
def OpenSpec.upto (s : _root_.Go.ChangeSpec) : _root_.Go.OpenSpec := { _root_.Go.OpenSpec.ofChange s with cond := some uptoSmall }

/-- 'posternlaw05.TotalSpreads', WHERE WHAT IT READS IS OF BULK AT MOST 1048576: true; the input reads as it did. -/
def totalSpreadsUptoRow : OpenClaim := { program := "ytjakjnmfndfehaa", sum := "741dfe83f93f977ec13dab5e6efb2b1b4c29451a906742af9f3f47344571023a", func := "postern/posternlaw05.TotalSpreads", spec := "totalSpreads", inPlace := ["math.Float64bits", "math.Float64frombits", "math/bits.Add64", "math.sqrt"], unfollowed := true, recurses := true, apart := false, narrowed := true }
def TotalSpreadsUptoSaid : Prop := totalSpreadsUptoRow.holds Try.pinned (OpenSpec.upto totalSpreadsSpec)

/-- 'posternlaw05.TotalOrders', WHERE WHAT IT READS IS OF BULK AT MOST 1048576: true; the input reads as it did. -/
def totalOrdersUptoRow : OpenClaim := { program := "ytjakjnmfndfehaa", sum := "741dfe83f93f977ec13dab5e6efb2b1b4c29451a906742af9f3f47344571023a", func := "postern/posternlaw05.TotalOrders", spec := "totalOrders", inPlace := ["math.Float64bits", "math.Float64frombits", "math/bits.Add64"], apart := false, narrowed := true }
def TotalOrdersUptoSaid : Prop := totalOrdersUptoRow.holds Try.pinned (OpenSpec.upto totalOrdersSpec)

/-- 'posternlaw05.TotalExact', WHERE WHAT IT READS IS OF BULK AT MOST 1048576: true; the input reads as it did. -/
def totalExactUptoRow : OpenClaim := { program := "ytjakjnmfndfehaa", sum := "741dfe83f93f977ec13dab5e6efb2b1b4c29451a906742af9f3f47344571023a", func := "postern/posternlaw05.TotalExact", spec := "totalExact", inPlace := ["math.Float64bits", "math.Float64frombits", "math/bits.Add64"], apart := false, narrowed := true }
def TotalExactUptoSaid : Prop := totalExactUptoRow.holds Try.pinned (OpenSpec.upto totalExactSpec)

/-- 'posternlaw05.TotalCancels', WHERE WHAT IT READS IS OF BULK AT MOST 1048576: true; the input reads as it did. -/
def totalCancelsUptoRow : OpenClaim := { program := "ytjakjnmfndfehaa", sum := "741dfe83f93f977ec13dab5e6efb2b1b4c29451a906742af9f3f47344571023a", func := "postern/posternlaw05.TotalCancels", spec := "totalCancels", inPlace := ["math.Float64bits", "math.Float64frombits", "math/bits.Add64"], apart := false, narrowed := true }
def TotalCancelsUptoSaid : Prop := totalCancelsUptoRow.holds Try.pinned (OpenSpec.upto totalCancelsSpec)

/-- 'posternlaw05.TotalGathers', WHERE WHAT IT READS IS OF BULK AT MOST 1048576: true; the input reads as it did. -/
def totalGathersUptoRow : OpenClaim := { program := "ytjakjnmfndfehaa", sum := "741dfe83f93f977ec13dab5e6efb2b1b4c29451a906742af9f3f47344571023a", func := "postern/posternlaw05.TotalGathers", spec := "totalGathers", inPlace := ["math.Float64bits", "math.Float64frombits", "math/bits.Add64"], apart := false, narrowed := true }
def TotalGathersUptoSaid : Prop := totalGathersUptoRow.holds Try.pinned (OpenSpec.upto totalGathersSpec)

/-- 'posternlaw05.TotalKeeps', WHERE WHAT IT READS IS OF BULK AT MOST 1048576: true; the input reads as it did. -/
def totalKeepsUptoRow : OpenClaim := { program := "ytjakjnmfndfehaa", sum := "741dfe83f93f977ec13dab5e6efb2b1b4c29451a906742af9f3f47344571023a", func := "postern/posternlaw05.TotalKeeps", spec := "totalKeeps", inPlace := ["math.Float64bits", "math.Float64frombits", "math/bits.Add64"], apart := false, narrowed := true }
def TotalKeepsUptoSaid : Prop := totalKeepsUptoRow.holds Try.pinned (OpenSpec.upto totalKeepsSpec)

/-- 'posternlaw05.TotalSums', WHERE WHAT IT READS IS OF BULK AT MOST 1048576: true; the input reads as it did. -/
def totalSumsUptoRow : OpenClaim := { program := "ytjakjnmfndfehaa", sum := "741dfe83f93f977ec13dab5e6efb2b1b4c29451a906742af9f3f47344571023a", func := "postern/posternlaw05.TotalSums", spec := "totalSums", inPlace := ["math.Float64bits", "math.Float64frombits", "math/bits.Add64"], recurses := true, apart := false, narrowed := true }
def TotalSumsUptoSaid : Prop := totalSumsUptoRow.holds Try.pinned (OpenSpec.upto totalSumsSpec)

/-- 'posternlaw05.TotalDots', WHERE WHAT IT READS IS OF BULK AT MOST 1048576: true; the input reads as it did. -/
def totalDotsUptoRow : OpenClaim := { program := "ytjakjnmfndfehaa", sum := "741dfe83f93f977ec13dab5e6efb2b1b4c29451a906742af9f3f47344571023a", func := "postern/posternlaw05.TotalDots", spec := "totalDots", inPlace := ["math.Float64bits", "math.Float64frombits", "math/bits.Add64"], apart := false, narrowed := true }
def TotalDotsUptoSaid : Prop := totalDotsUptoRow.holds Try.pinned (OpenSpec.upto totalDotsSpec)

/-- 'posternlaw05.TotalExpands', WHERE WHAT IT READS IS OF BULK AT MOST 1048576: true; the input reads as it did. -/
def totalExpandsUptoRow : OpenClaim := { program := "ytjakjnmfndfehaa", sum := "741dfe83f93f977ec13dab5e6efb2b1b4c29451a906742af9f3f47344571023a", func := "postern/posternlaw05.TotalExpands", spec := "totalExpands", inPlace := ["math.Float64bits", "math.Float64frombits", "math/bits.Add64"], apart := false, narrowed := true }
def TotalExpandsUptoSaid : Prop := totalExpandsUptoRow.holds Try.pinned (OpenSpec.upto totalExpandsSpec)

/-- 'posternlaw05.TotalKeepsAll', WHERE WHAT IT READS IS OF BULK AT MOST 1048576: true; the input reads as it did. -/
def totalKeepsAllUptoRow : OpenClaim := { program := "ytjakjnmfndfehaa", sum := "741dfe83f93f977ec13dab5e6efb2b1b4c29451a906742af9f3f47344571023a", func := "postern/posternlaw05.TotalKeepsAll", spec := "totalKeepsAll", inPlace := ["math.Float64bits", "math.Float64frombits", "math/bits.Add64"], apart := false, narrowed := true }
def TotalKeepsAllUptoSaid : Prop := totalKeepsAllUptoRow.holds Try.pinned (OpenSpec.upto totalKeepsAllSpec)

/-- 'posternlaw05.TotalRuns', WHERE WHAT IT READS IS OF BULK AT MOST 1048576: true; the input reads as it did. -/
def totalRunsUptoRow : OpenClaim := { program := "ytjakjnmfndfehaa", sum := "741dfe83f93f977ec13dab5e6efb2b1b4c29451a906742af9f3f47344571023a", func := "postern/posternlaw05.TotalRuns", spec := "totalRuns", inPlace := ["math.Float64bits", "math.Float64frombits", "math/bits.Add64"], apart := false, narrowed := true }
def TotalRunsUptoSaid : Prop := totalRunsUptoRow.holds Try.pinned (OpenSpec.upto totalRunsSpec)

/-- 'posternlaw05.TotalLimits', WHERE WHAT IT READS IS OF BULK AT MOST 1048576: true; the input reads as it did. -/
def totalLimitsUptoRow : OpenClaim := { program := "ytjakjnmfndfehaa", sum := "741dfe83f93f977ec13dab5e6efb2b1b4c29451a906742af9f3f47344571023a", func := "postern/posternlaw05.TotalLimits", spec := "totalLimits", inPlace := ["math.Float64bits", "math.Float64frombits", "math/bits.Add64"], recurses := true, apart := false, narrowed := true }
def TotalLimitsUptoSaid : Prop := totalLimitsUptoRow.holds Try.pinned (OpenSpec.upto totalLimitsSpec)

end Rows
end Go.Proofs.Ytjakjnmfndfehaa
