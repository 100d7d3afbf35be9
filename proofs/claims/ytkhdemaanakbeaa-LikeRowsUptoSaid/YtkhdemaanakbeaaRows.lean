/-
  No cell of these rows narrows 'for every input' (looked for: loops, veiled, ifaces, maps, wideKeys, modest, calm, conditions, laid).
  DERIVED. THE GIVEN ROWS OF THIS SEAT. 9 by the template 'for every input the law returns true; each argument reads behind the call as it read before'; 0 by the template 'total and deterministic' (their statements: YtkhdemaanakbeaaTotals.lean).
  GIVEN WITH THE SEED: the statements are not yours to turn. If you find one false, say at which input.
  Laid BY PROGRAM, IN A SANDBOX (cutbox-rows.mjs): the forced cells as the released guide's own fill.sh prints them over the translation cce9d94723d69138… (all of the seat's roots in one cut). By AI agents, Wed Nov 11 2026. No macro, syntax, notation, axiom, sorry.
-/
import Derived.Test.YtkhdemaanakbeaaChecked
import GoSem.Claim
import GoSem.ClaimJoined
import GoSem.ClaimMapViews
import Derived.JoinedTies
import Derived.KernelRfl
namespace Go.Proofs.Ytkhdemaanakbeaa
/- THE CELL 'sum', in the pinned program and in every row, IS THE sha256 OF THE DUMP (.gsa) THAT YtkhdemaanakbeaaProg.lean LOADS. Nothing in Lean hashes anything: it is a label: what it is worth is what the hold of that sum in a sandbox is worth. -/
noncomputable def Try.pinned : Pinned := { name := "ytkhdemaanakbeaa", sum := "cce9d94723d69138046ec5dced9d4b931cf104ba15620195692516899f7b8794", checked := Try.checked }
namespace Rows
def none {H : Type} : Left H := { results := [], args := [] }

/-- 'posternlaw27.LikeUsual': WHATEVER THE INPUT: true; the input reads as it did. -/
def likeUsualSpec : ChangeSpec := { name := "likeUsual", fn := fun _ => fun
  | [d1, d2] => { results := [.lit (.bool true)], args := [d1, d2] }
  | _ => none }
def likeUsualRow : OpenClaim := { program := "ytkhdemaanakbeaa", sum := "cce9d94723d69138046ec5dced9d4b931cf104ba15620195692516899f7b8794", func := "postern/posternlaw27.LikeUsual", spec := "likeUsual", inPlace := ["math.Float64bits"], unfollowed := true, recurses := true, apart := false }
def LikeUsualSaid : Prop := likeUsualRow.holds Try.pinned (OpenSpec.ofChange likeUsualSpec)

/-- ITS FALSE NEIGHBOUR: 'it returns false'. Refute it at one input. -/
def likeUsualWrong : ChangeSpec := { name := "likeUsual", fn := fun _ => fun
  | [d1, d2] => { results := [.lit (.bool false)], args := [d1, d2] }
  | _ => none }
def LikeUsualWrongFalsely : Prop := likeUsualRow.holds Try.pinned (OpenSpec.ofChange likeUsualWrong)

/-- 'posternlaw27.LikeItself': WHATEVER THE INPUT: true; the input reads as it did. -/
def likeItselfSpec : ChangeSpec := { name := "likeItself", fn := fun _ => fun
  | [d1, d2] => { results := [.lit (.bool true)], args := [d1, d2] }
  | _ => none }
def likeItselfRow : OpenClaim := { program := "ytkhdemaanakbeaa", sum := "cce9d94723d69138046ec5dced9d4b931cf104ba15620195692516899f7b8794", func := "postern/posternlaw27.LikeItself", spec := "likeItself", inPlace := ["math.Float64bits"], unfollowed := true, recurses := true, apart := false }
def LikeItselfSaid : Prop := likeItselfRow.holds Try.pinned (OpenSpec.ofChange likeItselfSpec)

/-- ITS FALSE NEIGHBOUR: 'it returns false'. Refute it at one input. -/
def likeItselfWrong : ChangeSpec := { name := "likeItself", fn := fun _ => fun
  | [d1, d2] => { results := [.lit (.bool false)], args := [d1, d2] }
  | _ => none }
def LikeItselfWrongFalsely : Prop := likeItselfRow.holds Try.pinned (OpenSpec.ofChange likeItselfWrong)

/-- 'posternlaw27.LikeDistances': WHATEVER THE INPUT: true; the input reads as it did. -/
def likeDistancesSpec : ChangeSpec := { name := "likeDistances", fn := fun _ => fun
  | [d1, d2, d3] => { results := [.lit (.bool true)], args := [d1, d2, d3] }
  | _ => none }
def likeDistancesRow : OpenClaim := { program := "ytkhdemaanakbeaa", sum := "cce9d94723d69138046ec5dced9d4b931cf104ba15620195692516899f7b8794", func := "postern/posternlaw27.LikeDistances", spec := "likeDistances", inPlace := ["math.Float64bits"], unfollowed := true, recurses := true, apart := false }
def LikeDistancesSaid : Prop := likeDistancesRow.holds Try.pinned (OpenSpec.ofChange likeDistancesSpec)

/-- ITS FALSE NEIGHBOUR: 'it returns false'. Refute it at one input. -/
def likeDistancesWrong : ChangeSpec := { name := "likeDistances", fn := fun _ => fun
  | [d1, d2, d3] => { results := [.lit (.bool false)], args := [d1, d2, d3] }
  | _ => none }
def LikeDistancesWrongFalsely : Prop := likeDistancesRow.holds Try.pinned (OpenSpec.ofChange likeDistancesWrong)

/-- 'posternlaw27.LikeChoices': WHATEVER THE INPUT: true; the input reads as it did. -/
def likeChoicesSpec : ChangeSpec := { name := "likeChoices", fn := fun _ => fun
  | [d1, d2, d3] => { results := [.lit (.bool true)], args := [d1, d2, d3] }
  | _ => none }
def likeChoicesRow : OpenClaim := { program := "ytkhdemaanakbeaa", sum := "cce9d94723d69138046ec5dced9d4b931cf104ba15620195692516899f7b8794", func := "postern/posternlaw27.LikeChoices", spec := "likeChoices", inPlace := ["math.Float64bits"], unfollowed := true, recurses := true, apart := false }
def LikeChoicesSaid : Prop := likeChoicesRow.holds Try.pinned (OpenSpec.ofChange likeChoicesSpec)

/-- ITS FALSE NEIGHBOUR: 'it returns false'. Refute it at one input. -/
def likeChoicesWrong : ChangeSpec := { name := "likeChoices", fn := fun _ => fun
  | [d1, d2, d3] => { results := [.lit (.bool false)], args := [d1, d2, d3] }
  | _ => none }
def LikeChoicesWrongFalsely : Prop := likeChoicesRow.holds Try.pinned (OpenSpec.ofChange likeChoicesWrong)

/-- 'posternlaw27.LikeCommons': WHATEVER THE INPUT: true; the input reads as it did. -/
def likeCommonsSpec : ChangeSpec := { name := "likeCommons", fn := fun _ => fun
  | [d1, d2, d3] => { results := [.lit (.bool true)], args := [d1, d2, d3] }
  | _ => none }
def likeCommonsRow : OpenClaim := { program := "ytkhdemaanakbeaa", sum := "cce9d94723d69138046ec5dced9d4b931cf104ba15620195692516899f7b8794", func := "postern/posternlaw27.LikeCommons", spec := "likeCommons", inPlace := ["math.Float64bits"], unfollowed := true, recurses := true, apart := false }
def LikeCommonsSaid : Prop := likeCommonsRow.holds Try.pinned (OpenSpec.ofChange likeCommonsSpec)

/-- ITS FALSE NEIGHBOUR: 'it returns false'. Refute it at one input. -/
def likeCommonsWrong : ChangeSpec := { name := "likeCommons", fn := fun _ => fun
  | [d1, d2, d3] => { results := [.lit (.bool false)], args := [d1, d2, d3] }
  | _ => none }
def LikeCommonsWrongFalsely : Prop := likeCommonsRow.holds Try.pinned (OpenSpec.ofChange likeCommonsWrong)

/-- 'posternlaw27.LikeEdits': WHATEVER THE INPUT: true; the input reads as it did. -/
def likeEditsSpec : ChangeSpec := { name := "likeEdits", fn := fun _ => fun
  | [d1, d2, d3] => { results := [.lit (.bool true)], args := [d1, d2, d3] }
  | _ => none }
def likeEditsRow : OpenClaim := { program := "ytkhdemaanakbeaa", sum := "cce9d94723d69138046ec5dced9d4b931cf104ba15620195692516899f7b8794", func := "postern/posternlaw27.LikeEdits", spec := "likeEdits", inPlace := ["math.Float64bits"], unfollowed := true, recurses := true, apart := false }
def LikeEditsSaid : Prop := likeEditsRow.holds Try.pinned (OpenSpec.ofChange likeEditsSpec)

/-- ITS FALSE NEIGHBOUR: 'it returns false'. Refute it at one input. -/
def likeEditsWrong : ChangeSpec := { name := "likeEdits", fn := fun _ => fun
  | [d1, d2, d3] => { results := [.lit (.bool false)], args := [d1, d2, d3] }
  | _ => none }
def LikeEditsWrongFalsely : Prop := likeEditsRow.holds Try.pinned (OpenSpec.ofChange likeEditsWrong)

/-- 'posternlaw27.LikeWays': WHATEVER THE INPUT: true; the input reads as it did. -/
def likeWaysSpec : ChangeSpec := { name := "likeWays", fn := fun _ => fun
  | [d1, d2, d3] => { results := [.lit (.bool true)], args := [d1, d2, d3] }
  | _ => none }
def likeWaysRow : OpenClaim := { program := "ytkhdemaanakbeaa", sum := "cce9d94723d69138046ec5dced9d4b931cf104ba15620195692516899f7b8794", func := "postern/posternlaw27.LikeWays", spec := "likeWays", inPlace := ["math.Float64bits"], unfollowed := true, recurses := true, apart := false }
def LikeWaysSaid : Prop := likeWaysRow.holds Try.pinned (OpenSpec.ofChange likeWaysSpec)

/-- ITS FALSE NEIGHBOUR: 'it returns false'. Refute it at one input. -/
def likeWaysWrong : ChangeSpec := { name := "likeWays", fn := fun _ => fun
  | [d1, d2, d3] => { results := [.lit (.bool false)], args := [d1, d2, d3] }
  | _ => none }
def LikeWaysWrongFalsely : Prop := likeWaysRow.holds Try.pinned (OpenSpec.ofChange likeWaysWrong)

/-- 'posternlaw27.LikeRows': WHATEVER THE INPUT: true; the input reads as it did. -/
def likeRowsSpec : ChangeSpec := { name := "likeRows", fn := fun _ => fun
  | [d1, d2, d3] => { results := [.lit (.bool true)], args := [d1, d2, d3] }
  | _ => none }
def likeRowsRow : OpenClaim := { program := "ytkhdemaanakbeaa", sum := "cce9d94723d69138046ec5dced9d4b931cf104ba15620195692516899f7b8794", func := "postern/posternlaw27.LikeRows", spec := "likeRows", inPlace := ["math.Float64bits"], unfollowed := true, recurses := true, apart := false }
def LikeRowsSaid : Prop := likeRowsRow.holds Try.pinned (OpenSpec.ofChange likeRowsSpec)

/-- ITS FALSE NEIGHBOUR: 'it returns false'. Refute it at one input. -/
def likeRowsWrong : ChangeSpec := { name := "likeRows", fn := fun _ => fun
  | [d1, d2, d3] => { results := [.lit (.bool false)], args := [d1, d2, d3] }
  | _ => none }
def LikeRowsWrongFalsely : Prop := likeRowsRow.holds Try.pinned (OpenSpec.ofChange likeRowsWrong)

/-- 'posternlaw27.LikeMeasures': WHATEVER THE INPUT: true; the input reads as it did. -/
def likeMeasuresSpec : ChangeSpec := { name := "likeMeasures", fn := fun _ => fun
  | [d1, d2, d3] => { results := [.lit (.bool true)], args := [d1, d2, d3] }
  | _ => none }
def likeMeasuresRow : OpenClaim := { program := "ytkhdemaanakbeaa", sum := "cce9d94723d69138046ec5dced9d4b931cf104ba15620195692516899f7b8794", func := "postern/posternlaw27.LikeMeasures", spec := "likeMeasures", inPlace := ["math.Float64bits"], unfollowed := true, recurses := true, apart := false }
def LikeMeasuresSaid : Prop := likeMeasuresRow.holds Try.pinned (OpenSpec.ofChange likeMeasuresSpec)

/-- ITS FALSE NEIGHBOUR: 'it returns false'. Refute it at one input. -/
def likeMeasuresWrong : ChangeSpec := { name := "likeMeasures", fn := fun _ => fun
  | [d1, d2, d3] => { results := [.lit (.bool false)], args := [d1, d2, d3] }
  | _ => none }
def LikeMeasuresWrongFalsely : Prop := likeMeasuresRow.holds Try.pinned (OpenSpec.ofChange likeMeasuresWrong)

/- THE SECOND FORM. 'bulk': how many values and letters a reading holds, each counted each time it is reached (what is shared counts as often as it is met; a slice's spare places count too). A statement '..UptoSaid' is the law's where the arguments, and the package variables that the reading takes, are together of bulk at most 1048576: NARROWER than '..Said'. Prove '..Said' where nothing that the law and all that it calls make is longer than what came in: it says more and counts as full. Else prove '..UptoSaid'. A law counts once. -/
mutual
def uptoBulk {H : Type} : DataW H → Nat
  | .lit (.string bytes) => bytes.length + 1
  | .lit _ => 1
  | .nil => 1
  | .ptr d => uptoBulk d + 1
  | .slice elems spare => uptoBulkAll elems + uptoBulkAll spare + 1
  | .agg parts => uptoBulkAll parts + 1
  | .iface _ d => uptoBulk d + 1
  | .map entries => uptoBulkEntries entries + 1
  | .held _ => 1
def uptoBulkAll {H : Type} : List (DataW H) → Nat
  | [] => 0
  | d :: r => uptoBulk d + uptoBulkAll r
def uptoBulkEntries {H : Type} : List (Lit × DataW H) → Nat
  | [] => 0
  | x :: r => uptoBulkEntry x + uptoBulkEntries r
def uptoBulkEntry {H : Type} : Lit × DataW H → Nat
  | (.string bytes, d) => bytes.length + uptoBulk d + 1
  | (_, d) => uptoBulk d + 1
 end
def uptoSmall : (H : Type) → List (DataW H) → Bool := fun _ ds => decide (uptoBulkAll ds ≤ 1048576)
def OpenSpec.upto (s : _root_.Go.ChangeSpec) : _root_.Go.OpenSpec := { _root_.Go.OpenSpec.ofChange s with cond := some uptoSmall }

/-- 'posternlaw27.LikeUsual', WHERE WHAT IT READS IS OF BULK AT MOST 1048576: true; the input reads as it did. -/
def likeUsualUptoRow : OpenClaim := { program := "ytkhdemaanakbeaa", sum := "cce9d94723d69138046ec5dced9d4b931cf104ba15620195692516899f7b8794", func := "postern/posternlaw27.LikeUsual", spec := "likeUsual", inPlace := ["math.Float64bits"], unfollowed := true, recurses := true, apart := false, narrowed := true }
def LikeUsualUptoSaid : Prop := likeUsualUptoRow.holds Try.pinned (OpenSpec.upto likeUsualSpec)

/-- 'posternlaw27.LikeItself', WHERE WHAT IT READS IS OF BULK AT MOST 1048576: true; the input reads as it did. -/
def likeItselfUptoRow : OpenClaim := { program := "ytkhdemaanakbeaa", sum := "cce9d94723d69138046ec5dced9d4b931cf104ba15620195692516899f7b8794", func := "postern/posternlaw27.LikeItself", spec := "likeItself", inPlace := ["math.Float64bits"], unfollowed := true, recurses := true, apart := false, narrowed := true }
def LikeItselfUptoSaid : Prop := likeItselfUptoRow.holds Try.pinned (OpenSpec.upto likeItselfSpec)

/-- 'posternlaw27.LikeDistances', WHERE WHAT IT READS IS OF BULK AT MOST 1048576: true; the input reads as it did. -/
def likeDistancesUptoRow : OpenClaim := { program := "ytkhdemaanakbeaa", sum := "cce9d94723d69138046ec5dced9d4b931cf104ba15620195692516899f7b8794", func := "postern/posternlaw27.LikeDistances", spec := "likeDistances", inPlace := ["math.Float64bits"], unfollowed := true, recurses := true, apart := false, narrowed := true }
def LikeDistancesUptoSaid : Prop := likeDistancesUptoRow.holds Try.pinned (OpenSpec.upto likeDistancesSpec)

/-- 'posternlaw27.LikeChoices', WHERE WHAT IT READS IS OF BULK AT MOST 1048576: true; the input reads as it did. -/
def likeChoicesUptoRow : OpenClaim := { program := "ytkhdemaanakbeaa", sum := "cce9d94723d69138046ec5dced9d4b931cf104ba15620195692516899f7b8794", func := "postern/posternlaw27.LikeChoices", spec := "likeChoices", inPlace := ["math.Float64bits"], unfollowed := true, recurses := true, apart := false, narrowed := true }
def LikeChoicesUptoSaid : Prop := likeChoicesUptoRow.holds Try.pinned (OpenSpec.upto likeChoicesSpec)

/-- 'posternlaw27.LikeCommons', WHERE WHAT IT READS IS OF BULK AT MOST 1048576: true; the input reads as it did. -/
def likeCommonsUptoRow : OpenClaim := { program := "ytkhdemaanakbeaa", sum := "cce9d94723d69138046ec5dced9d4b931cf104ba15620195692516899f7b8794", func := "postern/posternlaw27.LikeCommons", spec := "likeCommons", inPlace := ["math.Float64bits"], unfollowed := true, recurses := true, apart := false, narrowed := true }
def LikeCommonsUptoSaid : Prop := likeCommonsUptoRow.holds Try.pinned (OpenSpec.upto likeCommonsSpec)

/-- 'posternlaw27.LikeEdits', WHERE WHAT IT READS IS OF BULK AT MOST 1048576: true; the input reads as it did. -/
def likeEditsUptoRow : OpenClaim := { program := "ytkhdemaanakbeaa", sum := "cce9d94723d69138046ec5dced9d4b931cf104ba15620195692516899f7b8794", func := "postern/posternlaw27.LikeEdits", spec := "likeEdits", inPlace := ["math.Float64bits"], unfollowed := true, recurses := true, apart := false, narrowed := true }
def LikeEditsUptoSaid : Prop := likeEditsUptoRow.holds Try.pinned (OpenSpec.upto likeEditsSpec)

/-- 'posternlaw27.LikeWays', WHERE WHAT IT READS IS OF BULK AT MOST 1048576: true; the input reads as it did. -/
def likeWaysUptoRow : OpenClaim := { program := "ytkhdemaanakbeaa", sum := "cce9d94723d69138046ec5dced9d4b931cf104ba15620195692516899f7b8794", func := "postern/posternlaw27.LikeWays", spec := "likeWays", inPlace := ["math.Float64bits"], unfollowed := true, recurses := true, apart := false, narrowed := true }
def LikeWaysUptoSaid : Prop := likeWaysUptoRow.holds Try.pinned (OpenSpec.upto likeWaysSpec)

/-- 'posternlaw27.LikeRows', WHERE WHAT IT READS IS OF BULK AT MOST 1048576: true; the input reads as it did. -/
def likeRowsUptoRow : OpenClaim := { program := "ytkhdemaanakbeaa", sum := "cce9d94723d69138046ec5dced9d4b931cf104ba15620195692516899f7b8794", func := "postern/posternlaw27.LikeRows", spec := "likeRows", inPlace := ["math.Float64bits"], unfollowed := true, recurses := true, apart := false, narrowed := true }
def LikeRowsUptoSaid : Prop := likeRowsUptoRow.holds Try.pinned (OpenSpec.upto likeRowsSpec)

/-- 'posternlaw27.LikeMeasures', WHERE WHAT IT READS IS OF BULK AT MOST 1048576: true; the input reads as it did. -/
def likeMeasuresUptoRow : OpenClaim := { program := "ytkhdemaanakbeaa", sum := "cce9d94723d69138046ec5dced9d4b931cf104ba15620195692516899f7b8794", func := "postern/posternlaw27.LikeMeasures", spec := "likeMeasures", inPlace := ["math.Float64bits"], unfollowed := true, recurses := true, apart := false, narrowed := true }
def LikeMeasuresUptoSaid : Prop := likeMeasuresUptoRow.holds Try.pinned (OpenSpec.upto likeMeasuresSpec)

end Rows
end Go.Proofs.Ytkhdemaanakbeaa
