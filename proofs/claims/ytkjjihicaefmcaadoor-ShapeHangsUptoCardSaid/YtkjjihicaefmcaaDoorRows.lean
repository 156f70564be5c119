/-
  NARROWER THAN 'FOR EVERY INPUT', by the rows' own cells (each row's printed sentence says how): ShapeChecks: laid · ShapeHangs: laid · ShapeBares: laid.
  DERIVED. THE GIVEN ROWS OF THIS SEAT. 3 by the template 'for every input the law returns true; each argument reads behind the call as it read before'; 0 by the template 'total and deterministic' (their statements: YtkjjihicaefmcaaDoorTotals.lean).
  GIVEN WITH THE SEED: the statements are not yours to turn. If you find one false, say at which input.
  Laid BY PROGRAM, IN A SANDBOX (cutbox-rows.mjs): the forced cells as the released guide's own fill.sh prints them over the translation b937d87092bf14bb… (all of the seat's roots in one cut). By AI agents, Wed Nov 11 2026. No macro, syntax, notation, axiom, sorry.
-/
import Derived.Test.YtkjjihicaefmcaaDoorChecked
import GoSem.Claim
import GoSem.ClaimJoined
import GoSem.ClaimMapViews
import Derived.JoinedTies
import Derived.KernelRfl
namespace Go.Proofs.YtkjjihicaefmcaaDoor
/- THE CELL 'sum', in the pinned program and in every row, IS THE sha256 OF THE DUMP (.gsa) THAT YtkjjihicaefmcaaDoorProg.lean LOADS. Nothing in Lean hashes anything: it is a label: what it is worth is what the hold of that sum in a sandbox is worth. -/
noncomputable def Tryd.pinned : Pinned := { name := "ytkjjihicaefmcaadoor", sum := "b937d87092bf14bb94cc327c9ffebf0d9c94126a3a5a21cc30dff1948cc316e0", checked := Tryd.checked }
namespace Rows
def none {H : Type} : Left H := { results := [], args := [] }

/- WHAT THE LISTED PACKAGE-LEVEL VARIABLES READ AS WHEN THE CALL BEGINS. Each datum BY PROGRAM (the guide's laid-datum.mjs) off the statement by which the dump's own 'gosem.cut.vars' lays the variable. In a bare row this is a premise. The card (YtkjjihicaefmcaaDoorCards.lean) ties it to the program's text. -/
def laid_manciple_shape_names {H : Type} : DataW H := .agg [.lit (.string []), .lit (.string [114, 101, 103, 105, 115, 116, 101, 114]), .lit (.string [108, 111, 115, 101]), .lit (.string [115, 117, 98, 115, 99, 114, 105, 98, 101]), .lit (.string [100, 105, 115, 99, 111, 110, 110, 101, 99, 116]), .lit (.string [116, 101, 97, 114, 100, 111, 119, 110]), .lit (.string [97, 99, 99, 101, 112, 116]), .lit (.string [100, 101, 99, 108, 105, 110, 101]), .lit (.string [114, 101, 115, 99, 105, 110, 100]), .lit (.string [114, 101, 118, 105, 118, 101]), .lit (.string [115, 117, 112, 112, 114, 101, 115, 115]), .lit (.string [107, 105, 108, 108]), .lit (.string [102, 105, 110, 105, 115, 104]), .lit (.string [116, 105, 99, 107]), .lit (.string [97, 108, 108, 111, 99, 97, 116, 101]), .lit (.string [97, 108, 108])]
def laid_manciple_shape_ops {H : Type} : DataW H := .agg [.lit (.string []), .lit (.string [108, 97, 117, 110, 99, 104]), .lit (.string [114, 101, 115, 101, 114, 118, 101]), .lit (.string [117, 110, 114, 101, 115, 101, 114, 118, 101])]

/-- 'manciplelaw14.ShapeChecks': WHATEVER THE INPUT: true; the input reads as it did. -/
def shapeChecksSpec : ChangeSpec := { name := "shapeChecks", fn := fun _ => fun
  | [d] => { results := [.lit (.bool true)], args := [d] }
  | _ => none }
def shapeChecksRow : OpenClaim := { program := "ytkjjihicaefmcaadoor", sum := "b937d87092bf14bb94cc327c9ffebf0d9c94126a3a5a21cc30dff1948cc316e0", func := "manciple/manciplelaw14.ShapeChecks", spec := "shapeChecks", unfollowed := true, recurses := true, named := ["manciple/shape.names", "manciple/shape.ops"], apart := false, laid := [("manciple/shape.names", laid_manciple_shape_names), ("manciple/shape.ops", laid_manciple_shape_ops)] }
def ShapeChecksSaid : Prop := shapeChecksRow.holds Tryd.pinned (OpenSpec.ofChange shapeChecksSpec)

/-- ITS FALSE NEIGHBOUR: 'it returns false'. Refute it at one input. -/
def shapeChecksWrong : ChangeSpec := { name := "shapeChecks", fn := fun _ => fun
  | [d] => { results := [.lit (.bool false)], args := [d] }
  | _ => none }
def ShapeChecksWrongFalsely : Prop := shapeChecksRow.holds Tryd.pinned (OpenSpec.ofChange shapeChecksWrong)

/-- 'manciplelaw14.ShapeHangs': WHATEVER THE INPUT: true; the input reads as it did. -/
def shapeHangsSpec : ChangeSpec := { name := "shapeHangs", fn := fun _ => fun
  | [d1, d2] => { results := [.lit (.bool true)], args := [d1, d2] }
  | _ => none }
def shapeHangsRow : OpenClaim := { program := "ytkjjihicaefmcaadoor", sum := "b937d87092bf14bb94cc327c9ffebf0d9c94126a3a5a21cc30dff1948cc316e0", func := "manciple/manciplelaw14.ShapeHangs", spec := "shapeHangs", unfollowed := true, recurses := true, named := ["manciple/shape.names", "manciple/shape.ops"], apart := false, laid := [("manciple/shape.names", laid_manciple_shape_names), ("manciple/shape.ops", laid_manciple_shape_ops)] }
def ShapeHangsSaid : Prop := shapeHangsRow.holds Tryd.pinned (OpenSpec.ofChange shapeHangsSpec)

/-- ITS FALSE NEIGHBOUR: 'it returns false'. Refute it at one input. -/
def shapeHangsWrong : ChangeSpec := { name := "shapeHangs", fn := fun _ => fun
  | [d1, d2] => { results := [.lit (.bool false)], args := [d1, d2] }
  | _ => none }
def ShapeHangsWrongFalsely : Prop := shapeHangsRow.holds Tryd.pinned (OpenSpec.ofChange shapeHangsWrong)

/-- 'manciplelaw14.ShapeBares': WHATEVER THE INPUT: true; the input reads as it did. -/
def shapeBaresSpec : ChangeSpec := { name := "shapeBares", fn := fun _ => fun
  | [d1, d2, d3] => { results := [.lit (.bool true)], args := [d1, d2, d3] }
  | _ => none }
def shapeBaresRow : OpenClaim := { program := "ytkjjihicaefmcaadoor", sum := "b937d87092bf14bb94cc327c9ffebf0d9c94126a3a5a21cc30dff1948cc316e0", func := "manciple/manciplelaw14.ShapeBares", spec := "shapeBares", unfollowed := true, recurses := true, named := ["manciple/shape.names", "manciple/shape.ops"], apart := false, laid := [("manciple/shape.names", laid_manciple_shape_names), ("manciple/shape.ops", laid_manciple_shape_ops)] }
def ShapeBaresSaid : Prop := shapeBaresRow.holds Tryd.pinned (OpenSpec.ofChange shapeBaresSpec)

/-- ITS FALSE NEIGHBOUR: 'it returns false'. Refute it at one input. -/
def shapeBaresWrong : ChangeSpec := { name := "shapeBares", fn := fun _ => fun
  | [d1, d2, d3] => { results := [.lit (.bool false)], args := [d1, d2, d3] }
  | _ => none }
def ShapeBaresWrongFalsely : Prop := shapeBaresRow.holds Tryd.pinned (OpenSpec.ofChange shapeBaresWrong)

/- THE SECOND FORM. 'bulk': how many values and letters a reading holds, each counted each time it is reached (what is shared counts as often as it is met; a slice's spare places count too). A statement '..UptoSaid' is the law's where the arguments, and the package variables that the reading takes, are together of bulk at most 1048576: NARROWER than '..Said'. Prove '..Said' where nothing that the law and all that it calls make is longer than what came in: it says more and counts as full. Else prove '..UptoSaid'. A law counts once. -/
mutual
def uptoBulk {H : Type} : DataW H → Nat
  | .lit (.string bytes) => bytes.length + 1
  | .lit _ => 1
  | .nil => 1
  | .ptr d => uptoBulk d + 1
  | .slice elems spare => uptoBulkAll elems + uptoBulkAll spare + 1
  | .agg parts => uptoBulkAll parts + 1
  | .iface _ d => uptoBulk d + 1
  | .map entries => uptoBulkEntries entries + 1
  | .held _ => 1
def uptoBulkAll {H : Type} : List (DataW H) → Nat
  | [] => 0
  | d :: r => uptoBulk d + uptoBulkAll r
def uptoBulkEntries {H : Type} : List (Lit × DataW H) → Nat
  | [] => 0
  | x :: r => uptoBulkEntry x + uptoBulkEntries r
def uptoBulkEntry {H : Type} : Lit × DataW H → Nat
  | (.string bytes, d) => bytes.length + uptoBulk d + 1
  | (_, d) => uptoBulk d + 1
 end
def uptoSmall : (H : Type) → List (DataW H) → Bool := fun _ ds => decide (uptoBulkAll ds ≤ 1048576)
def OpenSpec.upto (s : _root_.Go.ChangeSpec) : _root_.Go.OpenSpec := { _root_.Go.OpenSpec.ofChange s with cond := some uptoSmall }

/-- 'manciplelaw14.ShapeChecks', WHERE WHAT IT READS IS OF BULK AT MOST 1048576: true; the input reads as it did. -/
def shapeChecksUptoRow : OpenClaim := { program := "ytkjjihicaefmcaadoor", sum := "b937d87092bf14bb94cc327c9ffebf0d9c94126a3a5a21cc30dff1948cc316e0", func := "manciple/manciplelaw14.ShapeChecks", spec := "shapeChecks", unfollowed := true, recurses := true, named := ["manciple/shape.names", "manciple/shape.ops"], apart := false, laid := [("manciple/shape.names", laid_manciple_shape_names), ("manciple/shape.ops", laid_manciple_shape_ops)], narrowed := true }
def ShapeChecksUptoSaid : Prop := shapeChecksUptoRow.holds Tryd.pinned (OpenSpec.upto shapeChecksSpec)

/-- 'manciplelaw14.ShapeHangs', WHERE WHAT IT READS IS OF BULK AT MOST 1048576: true; the input reads as it did. -/
def shapeHangsUptoRow : OpenClaim := { program := "ytkjjihicaefmcaadoor", sum := "b937d87092bf14bb94cc327c9ffebf0d9c94126a3a5a21cc30dff1948cc316e0", func := "manciple/manciplelaw14.ShapeHangs", spec := "shapeHangs", unfollowed := true, recurses := true, named := ["manciple/shape.names", "manciple/shape.ops"], apart := false, laid := [("manciple/shape.names", laid_manciple_shape_names), ("manciple/shape.ops", laid_manciple_shape_ops)], narrowed := true }
def ShapeHangsUptoSaid : Prop := shapeHangsUptoRow.holds Tryd.pinned (OpenSpec.upto shapeHangsSpec)

/-- 'manciplelaw14.ShapeBares', WHERE WHAT IT READS IS OF BULK AT MOST 1048576: true; the input reads as it did. -/
def shapeBaresUptoRow : OpenClaim := { program := "ytkjjihicaefmcaadoor", sum := "b937d87092bf14bb94cc327c9ffebf0d9c94126a3a5a21cc30dff1948cc316e0", func := "manciple/manciplelaw14.ShapeBares", spec := "shapeBares", unfollowed := true, recurses := true, named := ["manciple/shape.names", "manciple/shape.ops"], apart := false, laid := [("manciple/shape.names", laid_manciple_shape_names), ("manciple/shape.ops", laid_manciple_shape_ops)], narrowed := true }
def ShapeBaresUptoSaid : Prop := shapeBaresUptoRow.holds Tryd.pinned (OpenSpec.upto shapeBaresSpec)

end Rows
end Go.Proofs.YtkjjihicaefmcaaDoor
