/-
  NARROWER THAN 'FOR EVERY INPUT', by the rows' own cells (each row's printed sentence says how): QueryChecks: loops · QueryTells: loops.
  DERIVED. THE GIVEN ROWS OF THIS SEAT. 12 by the template 'for every input the law returns true; each argument reads behind the call as it read before'; 0 by the template 'total and deterministic' (their statements: YtgckpmcdlciibaaTotals.lean).
  GIVEN WITH THE SEED: the statements are not yours to turn. If you find one false, say at which input.
  Laid BY PROGRAM, IN A SANDBOX (cutbox-rows.mjs): the forced cells as the released guide's own fill.sh prints them over the translation 9b1b3c2ea2ab28d0… (all of the seat's roots in one cut). By AI agents, Wed Nov 11 2026. No macro, syntax, notation, axiom, sorry.
-/
import Derived.Test.YtgckpmcdlciibaaChecked
import GoSem.Claim
import GoSem.ClaimJoined
import GoSem.ClaimMapViews
import Derived.JoinedTies
import Derived.KernelRfl
namespace Go.Proofs.Ytgckpmcdlciibaa
/- THE CELL 'sum', in the pinned program and in every row, IS THE sha256 OF THE DUMP (.gsa) THAT YtgckpmcdlciibaaProg.lean LOADS. Nothing in Lean hashes anything: it is a label: what it is worth is what the hold of that sum in a sandbox is worth. -/
noncomputable def Try.pinned : Pinned := { name := "ytgckpmcdlciibaa", sum := "9b1b3c2ea2ab28d056477e0ea56209b763202e5e1eee0ae7d2ceef534e8f3933", checked := Try.checked }
namespace Rows
def none {H : Type} : Left H := { results := [], args := [] }

/-- 'stitchlaw5.ServeTells': WHATEVER THE INPUT: true; the input reads as it did. -/
def serveTellsSpec : ChangeSpec := { name := "serveTells", fn := fun _ => fun
  | [d1, d2] => { results := [.lit (.bool true)], args := [d1, d2] }
  | _ => none }
def serveTellsRow : OpenClaim := { program := "ytgckpmcdlciibaa", sum := "9b1b3c2ea2ab28d056477e0ea56209b763202e5e1eee0ae7d2ceef534e8f3933", func := "stitchery/stitchlaw5.ServeTells", spec := "serveTells", unfollowed := true, recurses := true, apart := false }
def ServeTellsSaid : Prop := serveTellsRow.holds Try.pinned (OpenSpec.ofChange serveTellsSpec)

/-- ITS FALSE NEIGHBOUR: 'it returns false'. Refute it at one input. -/
def serveTellsWrong : ChangeSpec := { name := "serveTells", fn := fun _ => fun
  | [d1, d2] => { results := [.lit (.bool false)], args := [d1, d2] }
  | _ => none }
def ServeTellsWrongFalsely : Prop := serveTellsRow.holds Try.pinned (OpenSpec.ofChange serveTellsWrong)

/-- 'stitchlaw5.ServeParts': WHATEVER THE INPUT: true; the input reads as it did. -/
def servePartsSpec : ChangeSpec := { name := "serveParts", fn := fun _ => fun
  | [d1, d2, d3] => { results := [.lit (.bool true)], args := [d1, d2, d3] }
  | _ => none }
def servePartsRow : OpenClaim := { program := "ytgckpmcdlciibaa", sum := "9b1b3c2ea2ab28d056477e0ea56209b763202e5e1eee0ae7d2ceef534e8f3933", func := "stitchery/stitchlaw5.ServeParts", spec := "serveParts", unfollowed := true, recurses := true, apart := false }
def ServePartsSaid : Prop := servePartsRow.holds Try.pinned (OpenSpec.ofChange servePartsSpec)

/-- ITS FALSE NEIGHBOUR: 'it returns false'. Refute it at one input. -/
def servePartsWrong : ChangeSpec := { name := "serveParts", fn := fun _ => fun
  | [d1, d2, d3] => { results := [.lit (.bool false)], args := [d1, d2, d3] }
  | _ => none }
def ServePartsWrongFalsely : Prop := servePartsRow.holds Try.pinned (OpenSpec.ofChange servePartsWrong)

/-- 'stitchlaw4.QueryChecks': WHATEVER THE INPUT: true; the input reads as it did. -/
def queryChecksSpec : ChangeSpec := { name := "queryChecks", fn := fun _ => fun
  | [d1, d2] => { results := [.lit (.bool true)], args := [d1, d2] }
  | _ => none }
def queryChecksRow : OpenClaim := { program := "ytgckpmcdlciibaa", sum := "9b1b3c2ea2ab28d056477e0ea56209b763202e5e1eee0ae7d2ceef534e8f3933", func := "stitchery/stitchlaw4.QueryChecks", spec := "queryChecks", unfollowed := true, recurses := true, loops := true, apart := false }
def QueryChecksSaid : Prop := queryChecksRow.holds Try.pinned (OpenSpec.ofChange queryChecksSpec)

/-- ITS FALSE NEIGHBOUR: 'it returns false'. Refute it at one input. -/
def queryChecksWrong : ChangeSpec := { name := "queryChecks", fn := fun _ => fun
  | [d1, d2] => { results := [.lit (.bool false)], args := [d1, d2] }
  | _ => none }
def QueryChecksWrongFalsely : Prop := queryChecksRow.holds Try.pinned (OpenSpec.ofChange queryChecksWrong)

/-- 'stitchlaw1.SchemaTells': WHATEVER THE INPUT: true; the input reads as it did. -/
def schemaTellsSpec : ChangeSpec := { name := "schemaTells", fn := fun _ => fun
  | [d1, d2, d3] => { results := [.lit (.bool true)], args := [d1, d2, d3] }
  | _ => none }
def schemaTellsRow : OpenClaim := { program := "ytgckpmcdlciibaa", sum := "9b1b3c2ea2ab28d056477e0ea56209b763202e5e1eee0ae7d2ceef534e8f3933", func := "stitchery/stitchlaw1.SchemaTells", spec := "schemaTells", unfollowed := true, recurses := true, apart := false }
def SchemaTellsSaid : Prop := schemaTellsRow.holds Try.pinned (OpenSpec.ofChange schemaTellsSpec)

/-- ITS FALSE NEIGHBOUR: 'it returns false'. Refute it at one input. -/
def schemaTellsWrong : ChangeSpec := { name := "schemaTells", fn := fun _ => fun
  | [d1, d2, d3] => { results := [.lit (.bool false)], args := [d1, d2, d3] }
  | _ => none }
def SchemaTellsWrongFalsely : Prop := schemaTellsRow.holds Try.pinned (OpenSpec.ofChange schemaTellsWrong)

/-- 'stitchlaw1.SchemaFirst': WHATEVER THE INPUT: true; the input reads as it did. -/
def schemaFirstSpec : ChangeSpec := { name := "schemaFirst", fn := fun _ => fun
  | [d1, d2, d3] => { results := [.lit (.bool true)], args := [d1, d2, d3] }
  | _ => none }
def schemaFirstRow : OpenClaim := { program := "ytgckpmcdlciibaa", sum := "9b1b3c2ea2ab28d056477e0ea56209b763202e5e1eee0ae7d2ceef534e8f3933", func := "stitchery/stitchlaw1.SchemaFirst", spec := "schemaFirst", unfollowed := true, recurses := true, apart := false }
def SchemaFirstSaid : Prop := schemaFirstRow.holds Try.pinned (OpenSpec.ofChange schemaFirstSpec)

/-- ITS FALSE NEIGHBOUR: 'it returns false'. Refute it at one input. -/
def schemaFirstWrong : ChangeSpec := { name := "schemaFirst", fn := fun _ => fun
  | [d1, d2, d3] => { results := [.lit (.bool false)], args := [d1, d2, d3] }
  | _ => none }
def SchemaFirstWrongFalsely : Prop := schemaFirstRow.holds Try.pinned (OpenSpec.ofChange schemaFirstWrong)

/-- 'stitchlaw1.SchemaMore': WHATEVER THE INPUT: true; the input reads as it did. -/
def schemaMoreSpec : ChangeSpec := { name := "schemaMore", fn := fun _ => fun
  | [d1, d2, d3] => { results := [.lit (.bool true)], args := [d1, d2, d3] }
  | _ => none }
def schemaMoreRow : OpenClaim := { program := "ytgckpmcdlciibaa", sum := "9b1b3c2ea2ab28d056477e0ea56209b763202e5e1eee0ae7d2ceef534e8f3933", func := "stitchery/stitchlaw1.SchemaMore", spec := "schemaMore", unfollowed := true, recurses := true, apart := false }
def SchemaMoreSaid : Prop := schemaMoreRow.holds Try.pinned (OpenSpec.ofChange schemaMoreSpec)

/-- ITS FALSE NEIGHBOUR: 'it returns false'. Refute it at one input. -/
def schemaMoreWrong : ChangeSpec := { name := "schemaMore", fn := fun _ => fun
  | [d1, d2, d3] => { results := [.lit (.bool false)], args := [d1, d2, d3] }
  | _ => none }
def SchemaMoreWrongFalsely : Prop := schemaMoreRow.holds Try.pinned (OpenSpec.ofChange schemaMoreWrong)

/-- 'stitchlaw2.ChangeTells': WHATEVER THE INPUT: true; the input reads as it did. -/
def changeTellsSpec : ChangeSpec := { name := "changeTells", fn := fun _ => fun
  | [d1, d2] => { results := [.lit (.bool true)], args := [d1, d2] }
  | _ => none }
def changeTellsRow : OpenClaim := { program := "ytgckpmcdlciibaa", sum := "9b1b3c2ea2ab28d056477e0ea56209b763202e5e1eee0ae7d2ceef534e8f3933", func := "stitchery/stitchlaw2.ChangeTells", spec := "changeTells", unfollowed := true, recurses := true, apart := false }
def ChangeTellsSaid : Prop := changeTellsRow.holds Try.pinned (OpenSpec.ofChange changeTellsSpec)

/-- ITS FALSE NEIGHBOUR: 'it returns false'. Refute it at one input. -/
def changeTellsWrong : ChangeSpec := { name := "changeTells", fn := fun _ => fun
  | [d1, d2] => { results := [.lit (.bool false)], args := [d1, d2] }
  | _ => none }
def ChangeTellsWrongFalsely : Prop := changeTellsRow.holds Try.pinned (OpenSpec.ofChange changeTellsWrong)

/-- 'stitchlaw2.ChangeRight': WHATEVER THE INPUT: true; the input reads as it did. -/
def changeRightSpec : ChangeSpec := { name := "changeRight", fn := fun _ => fun
  | [d1, d2] => { results := [.lit (.bool true)], args := [d1, d2] }
  | _ => none }
def changeRightRow : OpenClaim := { program := "ytgckpmcdlciibaa", sum := "9b1b3c2ea2ab28d056477e0ea56209b763202e5e1eee0ae7d2ceef534e8f3933", func := "stitchery/stitchlaw2.ChangeRight", spec := "changeRight", unfollowed := true, recurses := true, apart := false }
def ChangeRightSaid : Prop := changeRightRow.holds Try.pinned (OpenSpec.ofChange changeRightSpec)

/-- ITS FALSE NEIGHBOUR: 'it returns false'. Refute it at one input. -/
def changeRightWrong : ChangeSpec := { name := "changeRight", fn := fun _ => fun
  | [d1, d2] => { results := [.lit (.bool false)], args := [d1, d2] }
  | _ => none }
def ChangeRightWrongFalsely : Prop := changeRightRow.holds Try.pinned (OpenSpec.ofChange changeRightWrong)

/-- 'stitchtop.Names': WHATEVER THE INPUT: true; the input reads as it did. -/
def namesSpec : ChangeSpec := { name := "names", fn := fun _ => fun
  | [] => { results := [.lit (.bool true)], args := [] }
  | _ => none }
def namesRow : OpenClaim := { program := "ytgckpmcdlciibaa", sum := "9b1b3c2ea2ab28d056477e0ea56209b763202e5e1eee0ae7d2ceef534e8f3933", func := "stitchery/stitchtop.Names", spec := "names", apart := false }
def NamesSaid : Prop := namesRow.holds Try.pinned (OpenSpec.ofChange namesSpec)

/-- ITS FALSE NEIGHBOUR: 'it returns false'. Refute it at one input. -/
def namesWrong : ChangeSpec := { name := "names", fn := fun _ => fun
  | [] => { results := [.lit (.bool false)], args := [] }
  | _ => none }
def NamesWrongFalsely : Prop := namesRow.holds Try.pinned (OpenSpec.ofChange namesWrong)

/-- 'stitchlaw2.ChangeParts': WHATEVER THE INPUT: true; the input reads as it did. -/
def changePartsSpec : ChangeSpec := { name := "changeParts", fn := fun _ => fun
  | [d1, d2, d3] => { results := [.lit (.bool true)], args := [d1, d2, d3] }
  | _ => none }
def changePartsRow : OpenClaim := { program := "ytgckpmcdlciibaa", sum := "9b1b3c2ea2ab28d056477e0ea56209b763202e5e1eee0ae7d2ceef534e8f3933", func := "stitchery/stitchlaw2.ChangeParts", spec := "changeParts", unfollowed := true, recurses := true, apart := false }
def ChangePartsSaid : Prop := changePartsRow.holds Try.pinned (OpenSpec.ofChange changePartsSpec)

/-- ITS FALSE NEIGHBOUR: 'it returns false'. Refute it at one input. -/
def changePartsWrong : ChangeSpec := { name := "changeParts", fn := fun _ => fun
  | [d1, d2, d3] => { results := [.lit (.bool false)], args := [d1, d2, d3] }
  | _ => none }
def ChangePartsWrongFalsely : Prop := changePartsRow.holds Try.pinned (OpenSpec.ofChange changePartsWrong)

/-- 'stitchlaw2.ChangeBack': WHATEVER THE INPUT: true; the input reads as it did. -/
def changeBackSpec : ChangeSpec := { name := "changeBack", fn := fun _ => fun
  | [d1, d2, d3, d4, d5] => { results := [.lit (.bool true)], args := [d1, d2, d3, d4, d5] }
  | _ => none }
def changeBackRow : OpenClaim := { program := "ytgckpmcdlciibaa", sum := "9b1b3c2ea2ab28d056477e0ea56209b763202e5e1eee0ae7d2ceef534e8f3933", func := "stitchery/stitchlaw2.ChangeBack", spec := "changeBack", unfollowed := true, recurses := true, apart := false }
def ChangeBackSaid : Prop := changeBackRow.holds Try.pinned (OpenSpec.ofChange changeBackSpec)

/-- ITS FALSE NEIGHBOUR: 'it returns false'. Refute it at one input. -/
def changeBackWrong : ChangeSpec := { name := "changeBack", fn := fun _ => fun
  | [d1, d2, d3, d4, d5] => { results := [.lit (.bool false)], args := [d1, d2, d3, d4, d5] }
  | _ => none }
def ChangeBackWrongFalsely : Prop := changeBackRow.holds Try.pinned (OpenSpec.ofChange changeBackWrong)

/-- 'stitchlaw4.QueryTells': WHATEVER THE INPUT: true; the input reads as it did. -/
def queryTellsSpec : ChangeSpec := { name := "queryTells", fn := fun _ => fun
  | [d1, d2] => { results := [.lit (.bool true)], args := [d1, d2] }
  | _ => none }
def queryTellsRow : OpenClaim := { program := "ytgckpmcdlciibaa", sum := "9b1b3c2ea2ab28d056477e0ea56209b763202e5e1eee0ae7d2ceef534e8f3933", func := "stitchery/stitchlaw4.QueryTells", spec := "queryTells", inPlace := ["internal/abi.NoEscape"], unfollowed := true, recurses := true, loops := true, apart := false }
def QueryTellsSaid : Prop := queryTellsRow.holds Try.pinned (OpenSpec.ofChange queryTellsSpec)

/-- ITS FALSE NEIGHBOUR: 'it returns false'. Refute it at one input. -/
def queryTellsWrong : ChangeSpec := { name := "queryTells", fn := fun _ => fun
  | [d1, d2] => { results := [.lit (.bool false)], args := [d1, d2] }
  | _ => none }
def QueryTellsWrongFalsely : Prop := queryTellsRow.holds Try.pinned (OpenSpec.ofChange queryTellsWrong)

/- THE SECOND FORM. 'bulk': how many values and letters a reading holds, each counted each time it is reached (what is shared counts as often as it is met; a slice's spare places count too). A statement '..UptoSaid' is the law's where the arguments, and the package variables that the reading takes, are together of bulk at most 1048576: NARROWER than '..Said'. Prove '..Said' where nothing that the law and all that it calls make is longer than what came in: it says more and counts as full. Else prove '..UptoSaid'. A law counts once. -/
mutual
def uptoBulk {H : Type} : DataW H → Nat
  | .lit (.string bytes) => bytes.length + 1
  | .lit _ => 1
  | .nil => 1
  | .ptr d => uptoBulk d + 1
  | .slice elems spare => uptoBulkAll elems + uptoBulkAll spare + 1
  | .agg parts => uptoBulkAll parts + 1
  | .iface _ d => uptoBulk d + 1
  | .map entries => uptoBulkEntries entries + 1
  | .held _ => 1
def uptoBulkAll {H : Type} : List (DataW H) → Nat
  | [] => 0
  | d :: r => uptoBulk d + uptoBulkAll r
def uptoBulkEntries {H : Type} : List (Lit × DataW H) → Nat
  | [] => 0
  | x :: r => uptoBulkEntry x + uptoBulkEntries r
def uptoBulkEntry {H : Type} : Lit × DataW H → Nat
  | (.string bytes, d) => bytes.length + uptoBulk d + 1
  | (_, d) => uptoBulk d + 1
 end
def uptoSmall : (H : Type) → List (DataW H) → Bool := fun _ ds => decide (uptoBulkAll ds ≤ 1048576)
def OpenSpec.upto (s : _root_.Go.ChangeSpec) : _root_.Go.OpenSpec := { _root_.Go.OpenSpec.ofChange s with cond := some uptoSmall }

/-- 'stitchlaw5.ServeTells', WHERE WHAT IT READS IS OF BULK AT MOST 1048576: true; the input reads as it did. -/
def serveTellsUptoRow : OpenClaim := { program := "ytgckpmcdlciibaa", sum := "9b1b3c2ea2ab28d056477e0ea56209b763202e5e1eee0ae7d2ceef534e8f3933", func := "stitchery/stitchlaw5.ServeTells", spec := "serveTells", unfollowed := true, recurses := true, apart := false, narrowed := true }
def ServeTellsUptoSaid : Prop := serveTellsUptoRow.holds Try.pinned (OpenSpec.upto serveTellsSpec)

/-- 'stitchlaw5.ServeParts', WHERE WHAT IT READS IS OF BULK AT MOST 1048576: true; the input reads as it did. -/
def servePartsUptoRow : OpenClaim := { program := "ytgckpmcdlciibaa", sum := "9b1b3c2ea2ab28d056477e0ea56209b763202e5e1eee0ae7d2ceef534e8f3933", func := "stitchery/stitchlaw5.ServeParts", spec := "serveParts", unfollowed := true, recurses := true, apart := false, narrowed := true }
def ServePartsUptoSaid : Prop := servePartsUptoRow.holds Try.pinned (OpenSpec.upto servePartsSpec)

/-- 'stitchlaw4.QueryChecks', WHERE WHAT IT READS IS OF BULK AT MOST 1048576: true; the input reads as it did. -/
def queryChecksUptoRow : OpenClaim := { program := "ytgckpmcdlciibaa", sum := "9b1b3c2ea2ab28d056477e0ea56209b763202e5e1eee0ae7d2ceef534e8f3933", func := "stitchery/stitchlaw4.QueryChecks", spec := "queryChecks", unfollowed := true, recurses := true, loops := true, apart := false, narrowed := true }
def QueryChecksUptoSaid : Prop := queryChecksUptoRow.holds Try.pinned (OpenSpec.upto queryChecksSpec)

/-- 'stitchlaw1.SchemaTells', WHERE WHAT IT READS IS OF BULK AT MOST 1048576: true; the input reads as it did. -/
def schemaTellsUptoRow : OpenClaim := { program := "ytgckpmcdlciibaa", sum := "9b1b3c2ea2ab28d056477e0ea56209b763202e5e1eee0ae7d2ceef534e8f3933", func := "stitchery/stitchlaw1.SchemaTells", spec := "schemaTells", unfollowed := true, recurses := true, apart := false, narrowed := true }
def SchemaTellsUptoSaid : Prop := schemaTellsUptoRow.holds Try.pinned (OpenSpec.upto schemaTellsSpec)

/-- 'stitchlaw1.SchemaFirst', WHERE WHAT IT READS IS OF BULK AT MOST 1048576: true; the input reads as it did. -/
def schemaFirstUptoRow : OpenClaim := { program := "ytgckpmcdlciibaa", sum := "9b1b3c2ea2ab28d056477e0ea56209b763202e5e1eee0ae7d2ceef534e8f3933", func := "stitchery/stitchlaw1.SchemaFirst", spec := "schemaFirst", unfollowed := true, recurses := true, apart := false, narrowed := true }
def SchemaFirstUptoSaid : Prop := schemaFirstUptoRow.holds Try.pinned (OpenSpec.upto schemaFirstSpec)

/-- 'stitchlaw1.SchemaMore', WHERE WHAT IT READS IS OF BULK AT MOST 1048576: true; the input reads as it did. -/
def schemaMoreUptoRow : OpenClaim := { program := "ytgckpmcdlciibaa", sum := "9b1b3c2ea2ab28d056477e0ea56209b763202e5e1eee0ae7d2ceef534e8f3933", func := "stitchery/stitchlaw1.SchemaMore", spec := "schemaMore", unfollowed := true, recurses := true, apart := false, narrowed := true }
def SchemaMoreUptoSaid : Prop := schemaMoreUptoRow.holds Try.pinned (OpenSpec.upto schemaMoreSpec)

/-- 'stitchlaw2.ChangeTells', WHERE WHAT IT READS IS OF BULK AT MOST 1048576: true; the input reads as it did. -/
def changeTellsUptoRow : OpenClaim := { program := "ytgckpmcdlciibaa", sum := "9b1b3c2ea2ab28d056477e0ea56209b763202e5e1eee0ae7d2ceef534e8f3933", func := "stitchery/stitchlaw2.ChangeTells", spec := "changeTells", unfollowed := true, recurses := true, apart := false, narrowed := true }
def ChangeTellsUptoSaid : Prop := changeTellsUptoRow.holds Try.pinned (OpenSpec.upto changeTellsSpec)

/-- 'stitchlaw2.ChangeRight', WHERE WHAT IT READS IS OF BULK AT MOST 1048576: true; the input reads as it did. -/
def changeRightUptoRow : OpenClaim := { program := "ytgckpmcdlciibaa", sum := "9b1b3c2ea2ab28d056477e0ea56209b763202e5e1eee0ae7d2ceef534e8f3933", func := "stitchery/stitchlaw2.ChangeRight", spec := "changeRight", unfollowed := true, recurses := true, apart := false, narrowed := true }
def ChangeRightUptoSaid : Prop := changeRightUptoRow.holds Try.pinned (OpenSpec.upto changeRightSpec)

/-- 'stitchtop.Names', WHERE WHAT IT READS IS OF BULK AT MOST 1048576: true; the input reads as it did. -/
def namesUptoRow : OpenClaim := { program := "ytgckpmcdlciibaa", sum := "9b1b3c2ea2ab28d056477e0ea56209b763202e5e1eee0ae7d2ceef534e8f3933", func := "stitchery/stitchtop.Names", spec := "names", apart := false, narrowed := true }
def NamesUptoSaid : Prop := namesUptoRow.holds Try.pinned (OpenSpec.upto namesSpec)

/-- 'stitchlaw2.ChangeParts', WHERE WHAT IT READS IS OF BULK AT MOST 1048576: true; the input reads as it did. -/
def changePartsUptoRow : OpenClaim := { program := "ytgckpmcdlciibaa", sum := "9b1b3c2ea2ab28d056477e0ea56209b763202e5e1eee0ae7d2ceef534e8f3933", func := "stitchery/stitchlaw2.ChangeParts", spec := "changeParts", unfollowed := true, recurses := true, apart := false, narrowed := true }
def ChangePartsUptoSaid : Prop := changePartsUptoRow.holds Try.pinned (OpenSpec.upto changePartsSpec)

/-- 'stitchlaw2.ChangeBack', WHERE WHAT IT READS IS OF BULK AT MOST 1048576: true; the input reads as it did. -/
def changeBackUptoRow : OpenClaim := { program := "ytgckpmcdlciibaa", sum := "9b1b3c2ea2ab28d056477e0ea56209b763202e5e1eee0ae7d2ceef534e8f3933", func := "stitchery/stitchlaw2.ChangeBack", spec := "changeBack", unfollowed := true, recurses := true, apart := false, narrowed := true }
def ChangeBackUptoSaid : Prop := changeBackUptoRow.holds Try.pinned (OpenSpec.upto changeBackSpec)

/-- 'stitchlaw4.QueryTells', WHERE WHAT IT READS IS OF BULK AT MOST 1048576: true; the input reads as it did. -/
def queryTellsUptoRow : OpenClaim := { program := "ytgckpmcdlciibaa", sum := "9b1b3c2ea2ab28d056477e0ea56209b763202e5e1eee0ae7d2ceef534e8f3933", func := "stitchery/stitchlaw4.QueryTells", spec := "queryTells", inPlace := ["internal/abi.NoEscape"], unfollowed := true, recurses := true, loops := true, apart := false, narrowed := true }
def QueryTellsUptoSaid : Prop := queryTellsUptoRow.holds Try.pinned (OpenSpec.upto queryTellsSpec)

end Rows
end Go.Proofs.Ytgckpmcdlciibaa
