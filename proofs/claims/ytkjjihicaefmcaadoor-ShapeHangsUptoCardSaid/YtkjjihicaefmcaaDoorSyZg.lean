/-
  A function that is given a slice of none, nil or not, by its run. Plain theorems.
-/
import Derived.Test.YtkjjihicaefmcaaDoorSyZf
set_option linter.unusedVariables false
set_option linter.unusedSimpArgs false
set_option linter.unusedSectionVars false
namespace Go.Sy
open Go Go.RowKit
theorem run_eq_nil0 {P : Program} {t e : TypeId} (h : P.underlying t = some (.slice e)) (A : Option Addr) (c : Nat) (w : World) : (binOp .eql t (.slice A 0 c) (.slice none 0 0)).run P w = .ok (.bool A.isNone) w := by
  have h1 : (Op.equal t (.slice A 0 c) (.slice none 0 0)).run P w = .ok A.isNone w := by
    unfold Op.equal
    rw [show Op.maxDepth = 9999 + 1 from rfl, Op.equalIn]
    cases A <;> simp [run_underlying h]
  simp [binOp, eqGuard, h1]
end Go.Sy
