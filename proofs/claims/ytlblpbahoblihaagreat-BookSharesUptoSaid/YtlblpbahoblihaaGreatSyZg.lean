/-
  A function that is given a slice of none, nil or not, by its run. Plain theorems.
-/
import Derived.Test.YtlblpbahoblihaaGreatSyZf
set_option linter.unusedVariables false
set_option linter.unusedSimpArgs false
set_option linter.unusedSectionVars false
namespace Go.Sy
open Go Go.RowKit
end Go.Sy
