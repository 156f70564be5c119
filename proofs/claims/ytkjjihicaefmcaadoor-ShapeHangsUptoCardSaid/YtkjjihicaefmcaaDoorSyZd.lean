/-
  A nil slice in a variable's cell, as a row of the call's own. Plain theorems.
-/
import Derived.Test.YtkjjihicaefmcaaDoorSyZc
set_option linter.unusedVariables false
set_option linter.unusedSimpArgs false
set_option linter.unusedSectionVars false
namespace Go.Sy
open Go Go.RowKit
theorem RelL.set {ρ : Env} {w : World} {Z : Nat → Prop} {l : List D} {vs : List Value} (h : RelL ρ w Z l vs) {j : Nat} {d d' : D} (hj : l[j]? = some d) (hd : ∀ v, Rel ρ w Z d v → Rel ρ w Z d' v) : RelL ρ w Z (l.set j d') vs := by
  obtain ⟨h1, h2⟩ := h
  refine ⟨by rw [List.length_set]; exact h1, fun i hi => ?_⟩
  have h3 := h2 i hi
  rw [List.getD_eq_getElem?_getD, List.getElem?_set]
  split
  · rename_i e
    subst e
    rw [List.getD_eq_getElem?_getD, hj] at h3
    have hjl : j < l.length := by omega
    first
      | (rw [if_pos hjl]; exact hd _ h3)
      | exact hd _ h3
  · rw [← List.getD_eq_getElem?_getD]
    exact h3
end Go.Sy
