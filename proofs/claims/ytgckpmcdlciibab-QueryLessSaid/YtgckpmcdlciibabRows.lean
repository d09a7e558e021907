/-
  NARROWER THAN 'FOR EVERY INPUT', by the rows' own cells (each row's printed sentence says how): QueryTurns: loops · QueryLess: loops · MeanTells: loops · MeanParts: loops · MeanNames: loops · MeanShape: loops.
  DERIVED. THE GIVEN ROWS OF THIS SEAT. 12 by the template 'for every input the law returns true; each argument reads behind the call as it read before'; 0 by the template 'total and deterministic' (their statements: YtgckpmcdlciibabTotals.lean).
  GIVEN WITH THE SEED: the statements are not yours to turn. If you find one false, say at which input.
  Laid BY PROGRAM, IN A SANDBOX (cutbox-rows.mjs): the forced cells as the released guide's own fill.sh prints them over the translation 42786750da56cc01… (all of the seat's roots in one cut). By AI agents, Wed Nov 11 2026. No macro, syntax, notation, axiom, sorry.
-/
import Derived.Test.YtgckpmcdlciibabChecked
import GoSem.Claim
import GoSem.ClaimJoined
import GoSem.ClaimMapViews
import Derived.JoinedTies
import Derived.KernelRfl
namespace Go.Proofs.Ytgckpmcdlciibab
/- THE CELL 'sum', in the pinned program and in every row, IS THE sha256 OF THE DUMP (.gsa) THAT YtgckpmcdlciibabProg.lean LOADS. Nothing in Lean hashes anything: it is a label: what it is worth is what the hold of that sum in a sandbox is worth. -/
noncomputable def Try.pinned : Pinned := { name := "ytgckpmcdlciibab", sum := "42786750da56cc010c796ed213d318a751d0981b6c8499ce29f7c840ec5d31bc", checked := Try.checked }
namespace Rows
def none {H : Type} : Left H := { results := [], args := [] }

/-- 'stitchtop.TopChain': WHATEVER THE INPUT: true; the input reads as it did. -/
def topChainSpec : ChangeSpec := { name := "topChain", fn := fun _ => fun
  | [d1, d2] => { results := [.lit (.bool true)], args := [d1, d2] }
  | _ => none }
def topChainRow : OpenClaim := { program := "ytgckpmcdlciibab", sum := "42786750da56cc010c796ed213d318a751d0981b6c8499ce29f7c840ec5d31bc", func := "stitchery/stitchtop.TopChain", spec := "topChain", inPlace := ["slices.overlaps[stitchery/api.Part]"], unfollowed := true, recurses := true, apart := false }
def TopChainSaid : Prop := topChainRow.holds Try.pinned (OpenSpec.ofChange topChainSpec)

/-- ITS FALSE NEIGHBOUR: 'it returns false'. Refute it at one input. -/
def topChainWrong : ChangeSpec := { name := "topChain", fn := fun _ => fun
  | [d1, d2] => { results := [.lit (.bool false)], args := [d1, d2] }
  | _ => none }
def TopChainWrongFalsely : Prop := topChainRow.holds Try.pinned (OpenSpec.ofChange topChainWrong)

/-- 'stitchlaw4.QueryTurns': WHATEVER THE INPUT: true; the input reads as it did. -/
def queryTurnsSpec : ChangeSpec := { name := "queryTurns", fn := fun _ => fun
  | [d1, d2] => { results := [.lit (.bool true)], args := [d1, d2] }
  | _ => none }
def queryTurnsRow : OpenClaim := { program := "ytgckpmcdlciibab", sum := "42786750da56cc010c796ed213d318a751d0981b6c8499ce29f7c840ec5d31bc", func := "stitchery/stitchlaw4.QueryTurns", spec := "queryTurns", inPlace := ["internal/abi.NoEscape"], unfollowed := true, recurses := true, loops := true, apart := false }
def QueryTurnsSaid : Prop := queryTurnsRow.holds Try.pinned (OpenSpec.ofChange queryTurnsSpec)

/-- ITS FALSE NEIGHBOUR: 'it returns false'. Refute it at one input. -/
def queryTurnsWrong : ChangeSpec := { name := "queryTurns", fn := fun _ => fun
  | [d1, d2] => { results := [.lit (.bool false)], args := [d1, d2] }
  | _ => none }
def QueryTurnsWrongFalsely : Prop := queryTurnsRow.holds Try.pinned (OpenSpec.ofChange queryTurnsWrong)

/-- 'stitchlaw4.QueryLess': WHATEVER THE INPUT: true; the input reads as it did. -/
def queryLessSpec : ChangeSpec := { name := "queryLess", fn := fun _ => fun
  | [d1, d2, d3] => { results := [.lit (.bool true)], args := [d1, d2, d3] }
  | _ => none }
def queryLessRow : OpenClaim := { program := "ytgckpmcdlciibab", sum := "42786750da56cc010c796ed213d318a751d0981b6c8499ce29f7c840ec5d31bc", func := "stitchery/stitchlaw4.QueryLess", spec := "queryLess", inPlace := ["internal/abi.NoEscape"], unfollowed := true, recurses := true, loops := true, apart := false }
def QueryLessSaid : Prop := queryLessRow.holds Try.pinned (OpenSpec.ofChange queryLessSpec)

/-- ITS FALSE NEIGHBOUR: 'it returns false'. Refute it at one input. -/
def queryLessWrong : ChangeSpec := { name := "queryLess", fn := fun _ => fun
  | [d1, d2, d3] => { results := [.lit (.bool false)], args := [d1, d2, d3] }
  | _ => none }
def QueryLessWrongFalsely : Prop := queryLessRow.holds Try.pinned (OpenSpec.ofChange queryLessWrong)

/-- 'stitchlaw5.ServeFields': WHATEVER THE INPUT: true; the input reads as it did. -/
def serveFieldsSpec : ChangeSpec := { name := "serveFields", fn := fun _ => fun
  | [d1, d2] => { results := [.lit (.bool true)], args := [d1, d2] }
  | _ => none }
def serveFieldsRow : OpenClaim := { program := "ytgckpmcdlciibab", sum := "42786750da56cc010c796ed213d318a751d0981b6c8499ce29f7c840ec5d31bc", func := "stitchery/stitchlaw5.ServeFields", spec := "serveFields", unfollowed := true, recurses := true, apart := false }
def ServeFieldsSaid : Prop := serveFieldsRow.holds Try.pinned (OpenSpec.ofChange serveFieldsSpec)

/-- ITS FALSE NEIGHBOUR: 'it returns false'. Refute it at one input. -/
def serveFieldsWrong : ChangeSpec := { name := "serveFields", fn := fun _ => fun
  | [d1, d2] => { results := [.lit (.bool false)], args := [d1, d2] }
  | _ => none }
def ServeFieldsWrongFalsely : Prop := serveFieldsRow.holds Try.pinned (OpenSpec.ofChange serveFieldsWrong)

/-- 'stitchtop.TopMany': WHATEVER THE INPUT: true; the input reads as it did. -/
def topManySpec : ChangeSpec := { name := "topMany", fn := fun _ => fun
  | [d] => { results := [.lit (.bool true)], args := [d] }
  | _ => none }
def topManyRow : OpenClaim := { program := "ytgckpmcdlciibab", sum := "42786750da56cc010c796ed213d318a751d0981b6c8499ce29f7c840ec5d31bc", func := "stitchery/stitchtop.TopMany", spec := "topMany", inPlace := ["slices.overlaps[stitchery/api.Part]"], unfollowed := true, recurses := true, apart := false }
def TopManySaid : Prop := topManyRow.holds Try.pinned (OpenSpec.ofChange topManySpec)

/-- ITS FALSE NEIGHBOUR: 'it returns false'. Refute it at one input. -/
def topManyWrong : ChangeSpec := { name := "topMany", fn := fun _ => fun
  | [d] => { results := [.lit (.bool false)], args := [d] }
  | _ => none }
def TopManyWrongFalsely : Prop := topManyRow.holds Try.pinned (OpenSpec.ofChange topManyWrong)

/-- 'stitchlaw3.MergeTells': WHATEVER THE INPUT: true; the input reads as it did. -/
def mergeTellsSpec : ChangeSpec := { name := "mergeTells", fn := fun _ => fun
  | [d1, d2] => { results := [.lit (.bool true)], args := [d1, d2] }
  | _ => none }
def mergeTellsRow : OpenClaim := { program := "ytgckpmcdlciibab", sum := "42786750da56cc010c796ed213d318a751d0981b6c8499ce29f7c840ec5d31bc", func := "stitchery/stitchlaw3.MergeTells", spec := "mergeTells", inPlace := ["slices.overlaps[stitchery/api.Part]"], unfollowed := true, recurses := true, apart := false }
def MergeTellsSaid : Prop := mergeTellsRow.holds Try.pinned (OpenSpec.ofChange mergeTellsSpec)

/-- ITS FALSE NEIGHBOUR: 'it returns false'. Refute it at one input. -/
def mergeTellsWrong : ChangeSpec := { name := "mergeTells", fn := fun _ => fun
  | [d1, d2] => { results := [.lit (.bool false)], args := [d1, d2] }
  | _ => none }
def MergeTellsWrongFalsely : Prop := mergeTellsRow.holds Try.pinned (OpenSpec.ofChange mergeTellsWrong)

/-- 'stitchlaw3.MergeRight': WHATEVER THE INPUT: true; the input reads as it did. -/
def mergeRightSpec : ChangeSpec := { name := "mergeRight", fn := fun _ => fun
  | [d] => { results := [.lit (.bool true)], args := [d] }
  | _ => none }
def mergeRightRow : OpenClaim := { program := "ytgckpmcdlciibab", sum := "42786750da56cc010c796ed213d318a751d0981b6c8499ce29f7c840ec5d31bc", func := "stitchery/stitchlaw3.MergeRight", spec := "mergeRight", inPlace := ["slices.overlaps[stitchery/api.Part]"], unfollowed := true, recurses := true, apart := false }
def MergeRightSaid : Prop := mergeRightRow.holds Try.pinned (OpenSpec.ofChange mergeRightSpec)

/-- ITS FALSE NEIGHBOUR: 'it returns false'. Refute it at one input. -/
def mergeRightWrong : ChangeSpec := { name := "mergeRight", fn := fun _ => fun
  | [d] => { results := [.lit (.bool false)], args := [d] }
  | _ => none }
def MergeRightWrongFalsely : Prop := mergeRightRow.holds Try.pinned (OpenSpec.ofChange mergeRightWrong)

/-- 'stitchlaw3.MergeOrder': WHATEVER THE INPUT: true; the input reads as it did. -/
def mergeOrderSpec : ChangeSpec := { name := "mergeOrder", fn := fun _ => fun
  | [d] => { results := [.lit (.bool true)], args := [d] }
  | _ => none }
def mergeOrderRow : OpenClaim := { program := "ytgckpmcdlciibab", sum := "42786750da56cc010c796ed213d318a751d0981b6c8499ce29f7c840ec5d31bc", func := "stitchery/stitchlaw3.MergeOrder", spec := "mergeOrder", inPlace := ["slices.overlaps[stitchery/api.Part]"], unfollowed := true, recurses := true, apart := false }
def MergeOrderSaid : Prop := mergeOrderRow.holds Try.pinned (OpenSpec.ofChange mergeOrderSpec)

/-- ITS FALSE NEIGHBOUR: 'it returns false'. Refute it at one input. -/
def mergeOrderWrong : ChangeSpec := { name := "mergeOrder", fn := fun _ => fun
  | [d] => { results := [.lit (.bool false)], args := [d] }
  | _ => none }
def MergeOrderWrongFalsely : Prop := mergeOrderRow.holds Try.pinned (OpenSpec.ofChange mergeOrderWrong)

/-- 'stitchlaw6.MeanTells': WHATEVER THE INPUT: true; the input reads as it did. -/
def meanTellsSpec : ChangeSpec := { name := "meanTells", fn := fun _ => fun
  | [d1, d2] => { results := [.lit (.bool true)], args := [d1, d2] }
  | _ => none }
def meanTellsRow : OpenClaim := { program := "ytgckpmcdlciibab", sum := "42786750da56cc010c796ed213d318a751d0981b6c8499ce29f7c840ec5d31bc", func := "stitchery/stitchlaw6.MeanTells", spec := "meanTells", inPlace := ["slices.overlaps[stitchery/api.Part]"], unfollowed := true, recurses := true, loops := true, apart := false }
def MeanTellsSaid : Prop := meanTellsRow.holds Try.pinned (OpenSpec.ofChange meanTellsSpec)

/-- ITS FALSE NEIGHBOUR: 'it returns false'. Refute it at one input. -/
def meanTellsWrong : ChangeSpec := { name := "meanTells", fn := fun _ => fun
  | [d1, d2] => { results := [.lit (.bool false)], args := [d1, d2] }
  | _ => none }
def MeanTellsWrongFalsely : Prop := meanTellsRow.holds Try.pinned (OpenSpec.ofChange meanTellsWrong)

/-- 'stitchlaw6.MeanParts': WHATEVER THE INPUT: true; the input reads as it did. -/
def meanPartsSpec : ChangeSpec := { name := "meanParts", fn := fun _ => fun
  | [d1, d2, d3] => { results := [.lit (.bool true)], args := [d1, d2, d3] }
  | _ => none }
def meanPartsRow : OpenClaim := { program := "ytgckpmcdlciibab", sum := "42786750da56cc010c796ed213d318a751d0981b6c8499ce29f7c840ec5d31bc", func := "stitchery/stitchlaw6.MeanParts", spec := "meanParts", inPlace := ["slices.overlaps[stitchery/api.Part]"], unfollowed := true, recurses := true, loops := true, apart := false }
def MeanPartsSaid : Prop := meanPartsRow.holds Try.pinned (OpenSpec.ofChange meanPartsSpec)

/-- ITS FALSE NEIGHBOUR: 'it returns false'. Refute it at one input. -/
def meanPartsWrong : ChangeSpec := { name := "meanParts", fn := fun _ => fun
  | [d1, d2, d3] => { results := [.lit (.bool false)], args := [d1, d2, d3] }
  | _ => none }
def MeanPartsWrongFalsely : Prop := meanPartsRow.holds Try.pinned (OpenSpec.ofChange meanPartsWrong)

/-- 'stitchlaw6.MeanNames': WHATEVER THE INPUT: true; the input reads as it did. -/
def meanNamesSpec : ChangeSpec := { name := "meanNames", fn := fun _ => fun
  | [d1, d2, d3, d4] => { results := [.lit (.bool true)], args := [d1, d2, d3, d4] }
  | _ => none }
def meanNamesRow : OpenClaim := { program := "ytgckpmcdlciibab", sum := "42786750da56cc010c796ed213d318a751d0981b6c8499ce29f7c840ec5d31bc", func := "stitchery/stitchlaw6.MeanNames", spec := "meanNames", inPlace := ["slices.overlaps[stitchery/api.Part]"], unfollowed := true, recurses := true, loops := true, apart := false }
def MeanNamesSaid : Prop := meanNamesRow.holds Try.pinned (OpenSpec.ofChange meanNamesSpec)

/-- ITS FALSE NEIGHBOUR: 'it returns false'. Refute it at one input. -/
def meanNamesWrong : ChangeSpec := { name := "meanNames", fn := fun _ => fun
  | [d1, d2, d3, d4] => { results := [.lit (.bool false)], args := [d1, d2, d3, d4] }
  | _ => none }
def MeanNamesWrongFalsely : Prop := meanNamesRow.holds Try.pinned (OpenSpec.ofChange meanNamesWrong)

/-- 'stitchlaw6.MeanShape': WHATEVER THE INPUT: true; the input reads as it did. -/
def meanShapeSpec : ChangeSpec := { name := "meanShape", fn := fun _ => fun
  | [d1, d2] => { results := [.lit (.bool true)], args := [d1, d2] }
  | _ => none }
def meanShapeRow : OpenClaim := { program := "ytgckpmcdlciibab", sum := "42786750da56cc010c796ed213d318a751d0981b6c8499ce29f7c840ec5d31bc", func := "stitchery/stitchlaw6.MeanShape", spec := "meanShape", inPlace := ["slices.overlaps[stitchery/api.Part]"], unfollowed := true, recurses := true, loops := true, apart := false }
def MeanShapeSaid : Prop := meanShapeRow.holds Try.pinned (OpenSpec.ofChange meanShapeSpec)

/-- ITS FALSE NEIGHBOUR: 'it returns false'. Refute it at one input. -/
def meanShapeWrong : ChangeSpec := { name := "meanShape", fn := fun _ => fun
  | [d1, d2] => { results := [.lit (.bool false)], args := [d1, d2] }
  | _ => none }
def MeanShapeWrongFalsely : Prop := meanShapeRow.holds Try.pinned (OpenSpec.ofChange meanShapeWrong)

/- THE SECOND FORM. 'bulk': how many values and letters a reading holds, each counted each time it is reached (what is shared counts as often as it is met; a slice's spare places count too). A statement '..UptoSaid' is the law's where the arguments, and the package variables that the reading takes, are together of bulk at most 1048576: NARROWER than '..Said'. Prove '..Said' where nothing that the law and all that it calls make is longer than what came in: it says more and counts as full. Else prove '..UptoSaid'. A law counts once. -/
mutual
def uptoBulk {H : Type} : DataW H → Nat
  | .lit (.string bytes) => bytes.length + 1
  | .lit _ => 1
  | .nil => 1
  | .ptr d => uptoBulk d + 1
  | .slice elems spare => uptoBulkAll elems + uptoBulkAll spare + 1
  | .agg parts => uptoBulkAll parts + 1
  | .iface _ d => uptoBulk d + 1
  | .map entries => uptoBulkEntries entries + 1
  | .held _ => 1
def uptoBulkAll {H : Type} : List (DataW H) → Nat
  | [] => 0
  | d :: r => uptoBulk d + uptoBulkAll r
def uptoBulkEntries {H : Type} : List (Lit × DataW H) → Nat
  | [] => 0
  | x :: r => uptoBulkEntry x + uptoBulkEntries r
def uptoBulkEntry {H : Type} : Lit × DataW H → Nat
  | (.string bytes, d) => bytes.length + uptoBulk d + 1
  | (_, d) => uptoBulk d + 1
 end
def uptoSmall : (H : Type) → List (DataW H) → Bool := fun _ ds => decide (uptoBulkAll ds ≤ 1048576)
def OpenSpec.upto (s : _root_.Go.ChangeSpec) : _root_.Go.OpenSpec := { _root_.Go.OpenSpec.ofChange s with cond := some uptoSmall }

/-- 'stitchtop.TopChain', WHERE WHAT IT READS IS OF BULK AT MOST 1048576: true; the input reads as it did. -/
def topChainUptoRow : OpenClaim := { program := "ytgckpmcdlciibab", sum := "42786750da56cc010c796ed213d318a751d0981b6c8499ce29f7c840ec5d31bc", func := "stitchery/stitchtop.TopChain", spec := "topChain", inPlace := ["slices.overlaps[stitchery/api.Part]"], unfollowed := true, recurses := true, apart := false, narrowed := true }
def TopChainUptoSaid : Prop := topChainUptoRow.holds Try.pinned (OpenSpec.upto topChainSpec)

/-- 'stitchlaw4.QueryTurns', WHERE WHAT IT READS IS OF BULK AT MOST 1048576: true; the input reads as it did. -/
def queryTurnsUptoRow : OpenClaim := { program := "ytgckpmcdlciibab", sum := "42786750da56cc010c796ed213d318a751d0981b6c8499ce29f7c840ec5d31bc", func := "stitchery/stitchlaw4.QueryTurns", spec := "queryTurns", inPlace := ["internal/abi.NoEscape"], unfollowed := true, recurses := true, loops := true, apart := false, narrowed := true }
def QueryTurnsUptoSaid : Prop := queryTurnsUptoRow.holds Try.pinned (OpenSpec.upto queryTurnsSpec)

/-- 'stitchlaw4.QueryLess', WHERE WHAT IT READS IS OF BULK AT MOST 1048576: true; the input reads as it did. -/
def queryLessUptoRow : OpenClaim := { program := "ytgckpmcdlciibab", sum := "42786750da56cc010c796ed213d318a751d0981b6c8499ce29f7c840ec5d31bc", func := "stitchery/stitchlaw4.QueryLess", spec := "queryLess", inPlace := ["internal/abi.NoEscape"], unfollowed := true, recurses := true, loops := true, apart := false, narrowed := true }
def QueryLessUptoSaid : Prop := queryLessUptoRow.holds Try.pinned (OpenSpec.upto queryLessSpec)

/-- 'stitchlaw5.ServeFields', WHERE WHAT IT READS IS OF BULK AT MOST 1048576: true; the input reads as it did. -/
def serveFieldsUptoRow : OpenClaim := { program := "ytgckpmcdlciibab", sum := "42786750da56cc010c796ed213d318a751d0981b6c8499ce29f7c840ec5d31bc", func := "stitchery/stitchlaw5.ServeFields", spec := "serveFields", unfollowed := true, recurses := true, apart := false, narrowed := true }
def ServeFieldsUptoSaid : Prop := serveFieldsUptoRow.holds Try.pinned (OpenSpec.upto serveFieldsSpec)

/-- 'stitchtop.TopMany', WHERE WHAT IT READS IS OF BULK AT MOST 1048576: true; the input reads as it did. -/
def topManyUptoRow : OpenClaim := { program := "ytgckpmcdlciibab", sum := "42786750da56cc010c796ed213d318a751d0981b6c8499ce29f7c840ec5d31bc", func := "stitchery/stitchtop.TopMany", spec := "topMany", inPlace := ["slices.overlaps[stitchery/api.Part]"], unfollowed := true, recurses := true, apart := false, narrowed := true }
def TopManyUptoSaid : Prop := topManyUptoRow.holds Try.pinned (OpenSpec.upto topManySpec)

/-- 'stitchlaw3.MergeTells', WHERE WHAT IT READS IS OF BULK AT MOST 1048576: true; the input reads as it did. -/
def mergeTellsUptoRow : OpenClaim := { program := "ytgckpmcdlciibab", sum := "42786750da56cc010c796ed213d318a751d0981b6c8499ce29f7c840ec5d31bc", func := "stitchery/stitchlaw3.MergeTells", spec := "mergeTells", inPlace := ["slices.overlaps[stitchery/api.Part]"], unfollowed := true, recurses := true, apart := false, narrowed := true }
def MergeTellsUptoSaid : Prop := mergeTellsUptoRow.holds Try.pinned (OpenSpec.upto mergeTellsSpec)

/-- 'stitchlaw3.MergeRight', WHERE WHAT IT READS IS OF BULK AT MOST 1048576: true; the input reads as it did. -/
def mergeRightUptoRow : OpenClaim := { program := "ytgckpmcdlciibab", sum := "42786750da56cc010c796ed213d318a751d0981b6c8499ce29f7c840ec5d31bc", func := "stitchery/stitchlaw3.MergeRight", spec := "mergeRight", inPlace := ["slices.overlaps[stitchery/api.Part]"], unfollowed := true, recurses := true, apart := false, narrowed := true }
def MergeRightUptoSaid : Prop := mergeRightUptoRow.holds Try.pinned (OpenSpec.upto mergeRightSpec)

/-- 'stitchlaw3.MergeOrder', WHERE WHAT IT READS IS OF BULK AT MOST 1048576: true; the input reads as it did. -/
def mergeOrderUptoRow : OpenClaim := { program := "ytgckpmcdlciibab", sum := "42786750da56cc010c796ed213d318a751d0981b6c8499ce29f7c840ec5d31bc", func := "stitchery/stitchlaw3.MergeOrder", spec := "mergeOrder", inPlace := ["slices.overlaps[stitchery/api.Part]"], unfollowed := true, recurses := true, apart := false, narrowed := true }
def MergeOrderUptoSaid : Prop := mergeOrderUptoRow.holds Try.pinned (OpenSpec.upto mergeOrderSpec)

/-- 'stitchlaw6.MeanTells', WHERE WHAT IT READS IS OF BULK AT MOST 1048576: true; the input reads as it did. -/
def meanTellsUptoRow : OpenClaim := { program := "ytgckpmcdlciibab", sum := "42786750da56cc010c796ed213d318a751d0981b6c8499ce29f7c840ec5d31bc", func := "stitchery/stitchlaw6.MeanTells", spec := "meanTells", inPlace := ["slices.overlaps[stitchery/api.Part]"], unfollowed := true, recurses := true, loops := true, apart := false, narrowed := true }
def MeanTellsUptoSaid : Prop := meanTellsUptoRow.holds Try.pinned (OpenSpec.upto meanTellsSpec)

/-- 'stitchlaw6.MeanParts', WHERE WHAT IT READS IS OF BULK AT MOST 1048576: true; the input reads as it did. -/
def meanPartsUptoRow : OpenClaim := { program := "ytgckpmcdlciibab", sum := "42786750da56cc010c796ed213d318a751d0981b6c8499ce29f7c840ec5d31bc", func := "stitchery/stitchlaw6.MeanParts", spec := "meanParts", inPlace := ["slices.overlaps[stitchery/api.Part]"], unfollowed := true, recurses := true, loops := true, apart := false, narrowed := true }
def MeanPartsUptoSaid : Prop := meanPartsUptoRow.holds Try.pinned (OpenSpec.upto meanPartsSpec)

/-- 'stitchlaw6.MeanNames', WHERE WHAT IT READS IS OF BULK AT MOST 1048576: true; the input reads as it did. -/
def meanNamesUptoRow : OpenClaim := { program := "ytgckpmcdlciibab", sum := "42786750da56cc010c796ed213d318a751d0981b6c8499ce29f7c840ec5d31bc", func := "stitchery/stitchlaw6.MeanNames", spec := "meanNames", inPlace := ["slices.overlaps[stitchery/api.Part]"], unfollowed := true, recurses := true, loops := true, apart := false, narrowed := true }
def MeanNamesUptoSaid : Prop := meanNamesUptoRow.holds Try.pinned (OpenSpec.upto meanNamesSpec)

/-- 'stitchlaw6.MeanShape', WHERE WHAT IT READS IS OF BULK AT MOST 1048576: true; the input reads as it did. -/
def meanShapeUptoRow : OpenClaim := { program := "ytgckpmcdlciibab", sum := "42786750da56cc010c796ed213d318a751d0981b6c8499ce29f7c840ec5d31bc", func := "stitchery/stitchlaw6.MeanShape", spec := "meanShape", inPlace := ["slices.overlaps[stitchery/api.Part]"], unfollowed := true, recurses := true, loops := true, apart := false, narrowed := true }
def MeanShapeUptoSaid : Prop := meanShapeUptoRow.holds Try.pinned (OpenSpec.upto meanShapeSpec)

end Rows
end Go.Proofs.Ytgckpmcdlciibab
