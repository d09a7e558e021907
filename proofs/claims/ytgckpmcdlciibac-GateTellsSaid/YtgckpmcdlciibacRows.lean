/-
  NARROWER THAN 'FOR EVERY INPUT', by the rows' own cells (each row's printed sentence says how): MeanOrder: loops · GateTells: loops · GateRight: loops · GateFew: loops · GateHidden: loops · GateOthers: loops · GateMoved: loops · GateMeans: loops.
  DERIVED. THE GIVEN ROWS OF THIS SEAT. 11 by the template 'for every input the law returns true; each argument reads behind the call as it read before'; 0 by the template 'total and deterministic' (their statements: YtgckpmcdlciibacTotals.lean).
  GIVEN WITH THE SEED: the statements are not yours to turn. If you find one false, say at which input.
  Laid BY PROGRAM, IN A SANDBOX (cutbox-rows.mjs): the forced cells as the released guide's own fill.sh prints them over the translation cf7179856ee2275b… (all of the seat's roots in one cut). By AI agents, Wed Nov 11 2026. No macro, syntax, notation, axiom, sorry.
-/
import Derived.Test.YtgckpmcdlciibacChecked
import GoSem.Claim
import GoSem.ClaimJoined
import GoSem.ClaimMapViews
import Derived.JoinedTies
import Derived.KernelRfl
namespace Go.Proofs.Ytgckpmcdlciibac
/- THE CELL 'sum', in the pinned program and in every row, IS THE sha256 OF THE DUMP (.gsa) THAT YtgckpmcdlciibacProg.lean LOADS. Nothing in Lean hashes anything: it is a label: what it is worth is what the hold of that sum in a sandbox is worth. -/
noncomputable def Try.pinned : Pinned := { name := "ytgckpmcdlciibac", sum := "cf7179856ee2275b4afa643aed0b051f5e1fc97f1a2f969f67d10a5728d379f4", checked := Try.checked }
namespace Rows
def none {H : Type} : Left H := { results := [], args := [] }

/-- 'stitchlaw6.MeanOrder': WHATEVER THE INPUT: true; the input reads as it did. -/
def meanOrderSpec : ChangeSpec := { name := "meanOrder", fn := fun _ => fun
  | [d1, d2] => { results := [.lit (.bool true)], args := [d1, d2] }
  | _ => none }
def meanOrderRow : OpenClaim := { program := "ytgckpmcdlciibac", sum := "cf7179856ee2275b4afa643aed0b051f5e1fc97f1a2f969f67d10a5728d379f4", func := "stitchery/stitchlaw6.MeanOrder", spec := "meanOrder", inPlace := ["slices.overlaps[stitchery/api.Part]"], unfollowed := true, recurses := true, loops := true, apart := false }
def MeanOrderSaid : Prop := meanOrderRow.holds Try.pinned (OpenSpec.ofChange meanOrderSpec)

/-- ITS FALSE NEIGHBOUR: 'it returns false'. Refute it at one input. -/
def meanOrderWrong : ChangeSpec := { name := "meanOrder", fn := fun _ => fun
  | [d1, d2] => { results := [.lit (.bool false)], args := [d1, d2] }
  | _ => none }
def MeanOrderWrongFalsely : Prop := meanOrderRow.holds Try.pinned (OpenSpec.ofChange meanOrderWrong)

/-- 'stitchlaw7.GateTells': WHATEVER THE INPUT: true; the input reads as it did. -/
def gateTellsSpec : ChangeSpec := { name := "gateTells", fn := fun _ => fun
  | [d1, d2] => { results := [.lit (.bool true)], args := [d1, d2] }
  | _ => none }
def gateTellsRow : OpenClaim := { program := "ytgckpmcdlciibac", sum := "cf7179856ee2275b4afa643aed0b051f5e1fc97f1a2f969f67d10a5728d379f4", func := "stitchery/stitchlaw7.GateTells", spec := "gateTells", inPlace := ["slices.overlaps[stitchery/api.Part]"], unfollowed := true, recurses := true, loops := true, apart := false }
def GateTellsSaid : Prop := gateTellsRow.holds Try.pinned (OpenSpec.ofChange gateTellsSpec)

/-- ITS FALSE NEIGHBOUR: 'it returns false'. Refute it at one input. -/
def gateTellsWrong : ChangeSpec := { name := "gateTells", fn := fun _ => fun
  | [d1, d2] => { results := [.lit (.bool false)], args := [d1, d2] }
  | _ => none }
def GateTellsWrongFalsely : Prop := gateTellsRow.holds Try.pinned (OpenSpec.ofChange gateTellsWrong)

/-- 'stitchlaw7.GateRight': WHATEVER THE INPUT: true; the input reads as it did. -/
def gateRightSpec : ChangeSpec := { name := "gateRight", fn := fun _ => fun
  | [d1, d2] => { results := [.lit (.bool true)], args := [d1, d2] }
  | _ => none }
def gateRightRow : OpenClaim := { program := "ytgckpmcdlciibac", sum := "cf7179856ee2275b4afa643aed0b051f5e1fc97f1a2f969f67d10a5728d379f4", func := "stitchery/stitchlaw7.GateRight", spec := "gateRight", inPlace := ["slices.overlaps[stitchery/api.Part]"], unfollowed := true, recurses := true, loops := true, apart := false }
def GateRightSaid : Prop := gateRightRow.holds Try.pinned (OpenSpec.ofChange gateRightSpec)

/-- ITS FALSE NEIGHBOUR: 'it returns false'. Refute it at one input. -/
def gateRightWrong : ChangeSpec := { name := "gateRight", fn := fun _ => fun
  | [d1, d2] => { results := [.lit (.bool false)], args := [d1, d2] }
  | _ => none }
def GateRightWrongFalsely : Prop := gateRightRow.holds Try.pinned (OpenSpec.ofChange gateRightWrong)

/-- 'stitchlaw7.GateFew': WHATEVER THE INPUT: true; the input reads as it did. -/
def gateFewSpec : ChangeSpec := { name := "gateFew", fn := fun _ => fun
  | [d1, d2] => { results := [.lit (.bool true)], args := [d1, d2] }
  | _ => none }
def gateFewRow : OpenClaim := { program := "ytgckpmcdlciibac", sum := "cf7179856ee2275b4afa643aed0b051f5e1fc97f1a2f969f67d10a5728d379f4", func := "stitchery/stitchlaw7.GateFew", spec := "gateFew", inPlace := ["slices.overlaps[stitchery/api.Part]"], unfollowed := true, recurses := true, loops := true, apart := false }
def GateFewSaid : Prop := gateFewRow.holds Try.pinned (OpenSpec.ofChange gateFewSpec)

/-- ITS FALSE NEIGHBOUR: 'it returns false'. Refute it at one input. -/
def gateFewWrong : ChangeSpec := { name := "gateFew", fn := fun _ => fun
  | [d1, d2] => { results := [.lit (.bool false)], args := [d1, d2] }
  | _ => none }
def GateFewWrongFalsely : Prop := gateFewRow.holds Try.pinned (OpenSpec.ofChange gateFewWrong)

/-- 'stitchlaw7.GateHidden': WHATEVER THE INPUT: true; the input reads as it did. -/
def gateHiddenSpec : ChangeSpec := { name := "gateHidden", fn := fun _ => fun
  | [d1, d2] => { results := [.lit (.bool true)], args := [d1, d2] }
  | _ => none }
def gateHiddenRow : OpenClaim := { program := "ytgckpmcdlciibac", sum := "cf7179856ee2275b4afa643aed0b051f5e1fc97f1a2f969f67d10a5728d379f4", func := "stitchery/stitchlaw7.GateHidden", spec := "gateHidden", inPlace := ["slices.overlaps[stitchery/api.Part]"], unfollowed := true, recurses := true, loops := true, apart := false }
def GateHiddenSaid : Prop := gateHiddenRow.holds Try.pinned (OpenSpec.ofChange gateHiddenSpec)

/-- ITS FALSE NEIGHBOUR: 'it returns false'. Refute it at one input. -/
def gateHiddenWrong : ChangeSpec := { name := "gateHidden", fn := fun _ => fun
  | [d1, d2] => { results := [.lit (.bool false)], args := [d1, d2] }
  | _ => none }
def GateHiddenWrongFalsely : Prop := gateHiddenRow.holds Try.pinned (OpenSpec.ofChange gateHiddenWrong)

/-- 'stitchlaw7.GateOthers': WHATEVER THE INPUT: true; the input reads as it did. -/
def gateOthersSpec : ChangeSpec := { name := "gateOthers", fn := fun _ => fun
  | [d1, d2] => { results := [.lit (.bool true)], args := [d1, d2] }
  | _ => none }
def gateOthersRow : OpenClaim := { program := "ytgckpmcdlciibac", sum := "cf7179856ee2275b4afa643aed0b051f5e1fc97f1a2f969f67d10a5728d379f4", func := "stitchery/stitchlaw7.GateOthers", spec := "gateOthers", inPlace := ["slices.overlaps[stitchery/api.Part]"], unfollowed := true, recurses := true, loops := true, apart := false }
def GateOthersSaid : Prop := gateOthersRow.holds Try.pinned (OpenSpec.ofChange gateOthersSpec)

/-- ITS FALSE NEIGHBOUR: 'it returns false'. Refute it at one input. -/
def gateOthersWrong : ChangeSpec := { name := "gateOthers", fn := fun _ => fun
  | [d1, d2] => { results := [.lit (.bool false)], args := [d1, d2] }
  | _ => none }
def GateOthersWrongFalsely : Prop := gateOthersRow.holds Try.pinned (OpenSpec.ofChange gateOthersWrong)

/-- 'stitchlaw7.GateMoved': WHATEVER THE INPUT: true; the input reads as it did. -/
def gateMovedSpec : ChangeSpec := { name := "gateMoved", fn := fun _ => fun
  | [d1, d2, d3, d4] => { results := [.lit (.bool true)], args := [d1, d2, d3, d4] }
  | _ => none }
def gateMovedRow : OpenClaim := { program := "ytgckpmcdlciibac", sum := "cf7179856ee2275b4afa643aed0b051f5e1fc97f1a2f969f67d10a5728d379f4", func := "stitchery/stitchlaw7.GateMoved", spec := "gateMoved", inPlace := ["slices.overlaps[stitchery/api.Part]"], unfollowed := true, recurses := true, loops := true, apart := false }
def GateMovedSaid : Prop := gateMovedRow.holds Try.pinned (OpenSpec.ofChange gateMovedSpec)

/-- ITS FALSE NEIGHBOUR: 'it returns false'. Refute it at one input. -/
def gateMovedWrong : ChangeSpec := { name := "gateMoved", fn := fun _ => fun
  | [d1, d2, d3, d4] => { results := [.lit (.bool false)], args := [d1, d2, d3, d4] }
  | _ => none }
def GateMovedWrongFalsely : Prop := gateMovedRow.holds Try.pinned (OpenSpec.ofChange gateMovedWrong)

/-- 'stitchlaw7.GateMeans': WHATEVER THE INPUT: true; the input reads as it did. -/
def gateMeansSpec : ChangeSpec := { name := "gateMeans", fn := fun _ => fun
  | [d1, d2] => { results := [.lit (.bool true)], args := [d1, d2] }
  | _ => none }
def gateMeansRow : OpenClaim := { program := "ytgckpmcdlciibac", sum := "cf7179856ee2275b4afa643aed0b051f5e1fc97f1a2f969f67d10a5728d379f4", func := "stitchery/stitchlaw7.GateMeans", spec := "gateMeans", inPlace := ["slices.overlaps[stitchery/api.Part]"], unfollowed := true, recurses := true, loops := true, apart := false }
def GateMeansSaid : Prop := gateMeansRow.holds Try.pinned (OpenSpec.ofChange gateMeansSpec)

/-- ITS FALSE NEIGHBOUR: 'it returns false'. Refute it at one input. -/
def gateMeansWrong : ChangeSpec := { name := "gateMeans", fn := fun _ => fun
  | [d1, d2] => { results := [.lit (.bool false)], args := [d1, d2] }
  | _ => none }
def GateMeansWrongFalsely : Prop := gateMeansRow.holds Try.pinned (OpenSpec.ofChange gateMeansWrong)

/-- 'stitchtop.TopCalled': WHATEVER THE INPUT: true; the input reads as it did. -/
def topCalledSpec : ChangeSpec := { name := "topCalled", fn := fun _ => fun
  | [d1, d2, d3] => { results := [.lit (.bool true)], args := [d1, d2, d3] }
  | _ => none }
def topCalledRow : OpenClaim := { program := "ytgckpmcdlciibac", sum := "cf7179856ee2275b4afa643aed0b051f5e1fc97f1a2f969f67d10a5728d379f4", func := "stitchery/stitchtop.TopCalled", spec := "topCalled", inPlace := ["slices.overlaps[stitchery/api.Part]"], unfollowed := true, recurses := true, apart := false }
def TopCalledSaid : Prop := topCalledRow.holds Try.pinned (OpenSpec.ofChange topCalledSpec)

/-- ITS FALSE NEIGHBOUR: 'it returns false'. Refute it at one input. -/
def topCalledWrong : ChangeSpec := { name := "topCalled", fn := fun _ => fun
  | [d1, d2, d3] => { results := [.lit (.bool false)], args := [d1, d2, d3] }
  | _ => none }
def TopCalledWrongFalsely : Prop := topCalledRow.holds Try.pinned (OpenSpec.ofChange topCalledWrong)

/-- 'stitchtop.TopHalf': WHATEVER THE INPUT: true; the input reads as it did. -/
def topHalfSpec : ChangeSpec := { name := "topHalf", fn := fun _ => fun
  | [d1, d2] => { results := [.lit (.bool true)], args := [d1, d2] }
  | _ => none }
def topHalfRow : OpenClaim := { program := "ytgckpmcdlciibac", sum := "cf7179856ee2275b4afa643aed0b051f5e1fc97f1a2f969f67d10a5728d379f4", func := "stitchery/stitchtop.TopHalf", spec := "topHalf", inPlace := ["slices.overlaps[stitchery/api.Part]"], unfollowed := true, recurses := true, apart := false }
def TopHalfSaid : Prop := topHalfRow.holds Try.pinned (OpenSpec.ofChange topHalfSpec)

/-- ITS FALSE NEIGHBOUR: 'it returns false'. Refute it at one input. -/
def topHalfWrong : ChangeSpec := { name := "topHalf", fn := fun _ => fun
  | [d1, d2] => { results := [.lit (.bool false)], args := [d1, d2] }
  | _ => none }
def TopHalfWrongFalsely : Prop := topHalfRow.holds Try.pinned (OpenSpec.ofChange topHalfWrong)

/-- 'stitchtop.TopText': WHATEVER THE INPUT: true; the input reads as it did. -/
def topTextSpec : ChangeSpec := { name := "topText", fn := fun _ => fun
  | [d1, d2] => { results := [.lit (.bool true)], args := [d1, d2] }
  | _ => none }
def topTextRow : OpenClaim := { program := "ytgckpmcdlciibac", sum := "cf7179856ee2275b4afa643aed0b051f5e1fc97f1a2f969f67d10a5728d379f4", func := "stitchery/stitchtop.TopText", spec := "topText", inPlace := ["slices.overlaps[stitchery/api.Part]"], unfollowed := true, recurses := true, apart := false }
def TopTextSaid : Prop := topTextRow.holds Try.pinned (OpenSpec.ofChange topTextSpec)

/-- ITS FALSE NEIGHBOUR: 'it returns false'. Refute it at one input. -/
def topTextWrong : ChangeSpec := { name := "topText", fn := fun _ => fun
  | [d1, d2] => { results := [.lit (.bool false)], args := [d1, d2] }
  | _ => none }
def TopTextWrongFalsely : Prop := topTextRow.holds Try.pinned (OpenSpec.ofChange topTextWrong)

/- THE SECOND FORM. 'bulk': how many values and letters a reading holds, each counted each time it is reached (what is shared counts as often as it is met; a slice's spare places count too). A statement '..UptoSaid' is the law's where the arguments, and the package variables that the reading takes, are together of bulk at most 1048576: NARROWER than '..Said'. Prove '..Said' where nothing that the law and all that it calls make is longer than what came in: it says more and counts as full. Else prove '..UptoSaid'. A law counts once. -/
mutual
def uptoBulk {H : Type} : DataW H → Nat
  | .lit (.string bytes) => bytes.length + 1
  | .lit _ => 1
  | .nil => 1
  | .ptr d => uptoBulk d + 1
  | .slice elems spare => uptoBulkAll elems + uptoBulkAll spare + 1
  | .agg parts => uptoBulkAll parts + 1
  | .iface _ d => uptoBulk d + 1
  | .map entries => uptoBulkEntries entries + 1
  | .held _ => 1
def uptoBulkAll {H : Type} : List (DataW H) → Nat
  | [] => 0
  | d :: r => uptoBulk d + uptoBulkAll r
def uptoBulkEntries {H : Type} : List (Lit × DataW H) → Nat
  | [] => 0
  | x :: r => uptoBulkEntry x + uptoBulkEntries r
def uptoBulkEntry {H : Type} : Lit × DataW H → Nat
  | (.string bytes, d) => bytes.length + uptoBulk d + 1
  | (_, d) => uptoBulk d + 1
 end
def uptoSmall : (H : Type) → List (DataW H) → Bool := fun _ ds => decide (uptoBulkAll ds ≤ 1048576)
def OpenSpec.upto (s : _root_.Go.ChangeSpec) : _root_.Go.OpenSpec := { _root_.Go.OpenSpec.ofChange s with cond := some uptoSmall }

/-- 'stitchlaw6.MeanOrder', WHERE WHAT IT READS IS OF BULK AT MOST 1048576: true; the input reads as it did. -/
def meanOrderUptoRow : OpenClaim := { program := "ytgckpmcdlciibac", sum := "cf7179856ee2275b4afa643aed0b051f5e1fc97f1a2f969f67d10a5728d379f4", func := "stitchery/stitchlaw6.MeanOrder", spec := "meanOrder", inPlace := ["slices.overlaps[stitchery/api.Part]"], unfollowed := true, recurses := true, loops := true, apart := false, narrowed := true }
def MeanOrderUptoSaid : Prop := meanOrderUptoRow.holds Try.pinned (OpenSpec.upto meanOrderSpec)

/-- 'stitchlaw7.GateTells', WHERE WHAT IT READS IS OF BULK AT MOST 1048576: true; the input reads as it did. -/
def gateTellsUptoRow : OpenClaim := { program := "ytgckpmcdlciibac", sum := "cf7179856ee2275b4afa643aed0b051f5e1fc97f1a2f969f67d10a5728d379f4", func := "stitchery/stitchlaw7.GateTells", spec := "gateTells", inPlace := ["slices.overlaps[stitchery/api.Part]"], unfollowed := true, recurses := true, loops := true, apart := false, narrowed := true }
def GateTellsUptoSaid : Prop := gateTellsUptoRow.holds Try.pinned (OpenSpec.upto gateTellsSpec)

/-- 'stitchlaw7.GateRight', WHERE WHAT IT READS IS OF BULK AT MOST 1048576: true; the input reads as it did. -/
def gateRightUptoRow : OpenClaim := { program := "ytgckpmcdlciibac", sum := "cf7179856ee2275b4afa643aed0b051f5e1fc97f1a2f969f67d10a5728d379f4", func := "stitchery/stitchlaw7.GateRight", spec := "gateRight", inPlace := ["slices.overlaps[stitchery/api.Part]"], unfollowed := true, recurses := true, loops := true, apart := false, narrowed := true }
def GateRightUptoSaid : Prop := gateRightUptoRow.holds Try.pinned (OpenSpec.upto gateRightSpec)

/-- 'stitchlaw7.GateFew', WHERE WHAT IT READS IS OF BULK AT MOST 1048576: true; the input reads as it did. -/
def gateFewUptoRow : OpenClaim := { program := "ytgckpmcdlciibac", sum := "cf7179856ee2275b4afa643aed0b051f5e1fc97f1a2f969f67d10a5728d379f4", func := "stitchery/stitchlaw7.GateFew", spec := "gateFew", inPlace := ["slices.overlaps[stitchery/api.Part]"], unfollowed := true, recurses := true, loops := true, apart := false, narrowed := true }
def GateFewUptoSaid : Prop := gateFewUptoRow.holds Try.pinned (OpenSpec.upto gateFewSpec)

/-- 'stitchlaw7.GateHidden', WHERE WHAT IT READS IS OF BULK AT MOST 1048576: true; the input reads as it did. -/
def gateHiddenUptoRow : OpenClaim := { program := "ytgckpmcdlciibac", sum := "cf7179856ee2275b4afa643aed0b051f5e1fc97f1a2f969f67d10a5728d379f4", func := "stitchery/stitchlaw7.GateHidden", spec := "gateHidden", inPlace := ["slices.overlaps[stitchery/api.Part]"], unfollowed := true, recurses := true, loops := true, apart := false, narrowed := true }
def GateHiddenUptoSaid : Prop := gateHiddenUptoRow.holds Try.pinned (OpenSpec.upto gateHiddenSpec)

/-- 'stitchlaw7.GateOthers', WHERE WHAT IT READS IS OF BULK AT MOST 1048576: true; the input reads as it did. -/
def gateOthersUptoRow : OpenClaim := { program := "ytgckpmcdlciibac", sum := "cf7179856ee2275b4afa643aed0b051f5e1fc97f1a2f969f67d10a5728d379f4", func := "stitchery/stitchlaw7.GateOthers", spec := "gateOthers", inPlace := ["slices.overlaps[stitchery/api.Part]"], unfollowed := true, recurses := true, loops := true, apart := false, narrowed := true }
def GateOthersUptoSaid : Prop := gateOthersUptoRow.holds Try.pinned (OpenSpec.upto gateOthersSpec)

/-- 'stitchlaw7.GateMoved', WHERE WHAT IT READS IS OF BULK AT MOST 1048576: true; the input reads as it did. -/
def gateMovedUptoRow : OpenClaim := { program := "ytgckpmcdlciibac", sum := "cf7179856ee2275b4afa643aed0b051f5e1fc97f1a2f969f67d10a5728d379f4", func := "stitchery/stitchlaw7.GateMoved", spec := "gateMoved", inPlace := ["slices.overlaps[stitchery/api.Part]"], unfollowed := true, recurses := true, loops := true, apart := false, narrowed := true }
def GateMovedUptoSaid : Prop := gateMovedUptoRow.holds Try.pinned (OpenSpec.upto gateMovedSpec)

/-- 'stitchlaw7.GateMeans', WHERE WHAT IT READS IS OF BULK AT MOST 1048576: true; the input reads as it did. -/
def gateMeansUptoRow : OpenClaim := { program := "ytgckpmcdlciibac", sum := "cf7179856ee2275b4afa643aed0b051f5e1fc97f1a2f969f67d10a5728d379f4", func := "stitchery/stitchlaw7.GateMeans", spec := "gateMeans", inPlace := ["slices.overlaps[stitchery/api.Part]"], unfollowed := true, recurses := true, loops := true, apart := false, narrowed := true }
def GateMeansUptoSaid : Prop := gateMeansUptoRow.holds Try.pinned (OpenSpec.upto gateMeansSpec)

/-- 'stitchtop.TopCalled', WHERE WHAT IT READS IS OF BULK AT MOST 1048576: true; the input reads as it did. -/
def topCalledUptoRow : OpenClaim := { program := "ytgckpmcdlciibac", sum := "cf7179856ee2275b4afa643aed0b051f5e1fc97f1a2f969f67d10a5728d379f4", func := "stitchery/stitchtop.TopCalled", spec := "topCalled", inPlace := ["slices.overlaps[stitchery/api.Part]"], unfollowed := true, recurses := true, apart := false, narrowed := true }
def TopCalledUptoSaid : Prop := topCalledUptoRow.holds Try.pinned (OpenSpec.upto topCalledSpec)

/-- 'stitchtop.TopHalf', WHERE WHAT IT READS IS OF BULK AT MOST 1048576: true; the input reads as it did. -/
def topHalfUptoRow : OpenClaim := { program := "ytgckpmcdlciibac", sum := "cf7179856ee2275b4afa643aed0b051f5e1fc97f1a2f969f67d10a5728d379f4", func := "stitchery/stitchtop.TopHalf", spec := "topHalf", inPlace := ["slices.overlaps[stitchery/api.Part]"], unfollowed := true, recurses := true, apart := false, narrowed := true }
def TopHalfUptoSaid : Prop := topHalfUptoRow.holds Try.pinned (OpenSpec.upto topHalfSpec)

/-- 'stitchtop.TopText', WHERE WHAT IT READS IS OF BULK AT MOST 1048576: true; the input reads as it did. -/
def topTextUptoRow : OpenClaim := { program := "ytgckpmcdlciibac", sum := "cf7179856ee2275b4afa643aed0b051f5e1fc97f1a2f969f67d10a5728d379f4", func := "stitchery/stitchtop.TopText", spec := "topText", inPlace := ["slices.overlaps[stitchery/api.Part]"], unfollowed := true, recurses := true, apart := false, narrowed := true }
def TopTextUptoSaid : Prop := topTextUptoRow.holds Try.pinned (OpenSpec.upto topTextSpec)

end Rows
end Go.Proofs.Ytgckpmcdlciibac
