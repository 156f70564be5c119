/-
  DERIVED. GIVEN WITH THE SEED: THE CARDS: each row of YtkjjihicaefmcaaDoorRows.lean that lists a variable, with what it lists TIED to the program's text (the seventh form; the later family's looks); each row that meets fmt, with fmt's text TOLD by the authors' own Lean function (tested against real Go, not proved from fmt's source: count such statements apart). THE CARD IS WHAT COUNTS. Prove the row's statement (the work); the ties are given (YtkjjihicaefmcaaDoorTie.lean); close each card by the builder's one call (the guide's Derived/Test/ToyasCard.lean, 'card_holds'). Laid BY PROGRAM, IN A SANDBOX (cutbox-door.mjs). By AI agents, Wed Nov 11 2026. No macro, syntax, notation, axiom, sorry.
-/
import Derived.Test.YtkjjihicaefmcaaDoorRows
import GoSem.ClaimSeven
namespace Go.Proofs.YtkjjihicaefmcaaDoor
namespace Rows

/-- THE TIED CARD OF 'manciplelaw14.ShapeChecks'. -/
def shapeChecksCard : Claim7 := { stood := { row := shapeChecksRow, standIns := [], harness := (true, "e57f315b2875c9ceda18be98517c8550f83f9828a5465ce5bd1dfbd71cf7d4b1"), looks := false }, kinds := [], alts := [], laidByText := true, laidKinds := [.widerDeep, .data], laidTests := true, laidLooks := .later }
def ShapeChecksCardSaid : Prop := Claim7.holds Tryd.pinned (.plain (OpenSpec.ofChange shapeChecksSpec)) shapeChecksCard

/-- THE TIED CARD OF 'manciplelaw14.ShapeHangs'. -/
def shapeHangsCard : Claim7 := { stood := { row := shapeHangsRow, standIns := [], harness := (true, "e57f315b2875c9ceda18be98517c8550f83f9828a5465ce5bd1dfbd71cf7d4b1"), looks := false }, kinds := [], alts := [], laidByText := true, laidKinds := [.widerDeep, .data], laidTests := true, laidLooks := .later }
def ShapeHangsCardSaid : Prop := Claim7.holds Tryd.pinned (.plain (OpenSpec.ofChange shapeHangsSpec)) shapeHangsCard

/-- THE TIED CARD OF 'manciplelaw14.ShapeBares'. -/
def shapeBaresCard : Claim7 := { stood := { row := shapeBaresRow, standIns := [], harness := (true, "e57f315b2875c9ceda18be98517c8550f83f9828a5465ce5bd1dfbd71cf7d4b1"), looks := false }, kinds := [], alts := [], laidByText := true, laidKinds := [.widerDeep, .data], laidTests := true, laidLooks := .later }
def ShapeBaresCardSaid : Prop := Claim7.holds Tryd.pinned (.plain (OpenSpec.ofChange shapeBaresSpec)) shapeBaresCard

/-- THE SECOND FORM's CARD OF 'manciplelaw14.ShapeChecks'. -/
def shapeChecksUptoCard : Claim7 := { stood := { row := shapeChecksUptoRow, standIns := [], harness := (true, "e57f315b2875c9ceda18be98517c8550f83f9828a5465ce5bd1dfbd71cf7d4b1"), looks := false }, kinds := [], alts := [], laidByText := true, laidKinds := [.widerDeep, .data], laidTests := true, laidLooks := .later }
def ShapeChecksUptoCardSaid : Prop := Claim7.holds Tryd.pinned (.plain (OpenSpec.upto shapeChecksSpec)) shapeChecksUptoCard

/-- THE SECOND FORM's CARD OF 'manciplelaw14.ShapeHangs'. -/
def shapeHangsUptoCard : Claim7 := { stood := { row := shapeHangsUptoRow, standIns := [], harness := (true, "e57f315b2875c9ceda18be98517c8550f83f9828a5465ce5bd1dfbd71cf7d4b1"), looks := false }, kinds := [], alts := [], laidByText := true, laidKinds := [.widerDeep, .data], laidTests := true, laidLooks := .later }
def ShapeHangsUptoCardSaid : Prop := Claim7.holds Tryd.pinned (.plain (OpenSpec.upto shapeHangsSpec)) shapeHangsUptoCard

/-- THE SECOND FORM's CARD OF 'manciplelaw14.ShapeBares'. -/
def shapeBaresUptoCard : Claim7 := { stood := { row := shapeBaresUptoRow, standIns := [], harness := (true, "e57f315b2875c9ceda18be98517c8550f83f9828a5465ce5bd1dfbd71cf7d4b1"), looks := false }, kinds := [], alts := [], laidByText := true, laidKinds := [.widerDeep, .data], laidTests := true, laidLooks := .later }
def ShapeBaresUptoCardSaid : Prop := Claim7.holds Tryd.pinned (.plain (OpenSpec.upto shapeBaresSpec)) shapeBaresUptoCard
end Rows
end Go.Proofs.YtkjjihicaefmcaaDoor
