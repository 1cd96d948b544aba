/-
  Sim: split.Make.
-/
import Derived.Test.YtkfeccbahpmadaaSpA
import Derived.Test.YtkfeccbahpmadaaFrC
set_option linter.unusedVariables false
set_option linter.unusedSimpArgs false
set_option linter.unusedSectionVars false
namespace Go.Proofs.Ytkfeccbahpmadaa
open Go.RowKit
set_option maxRecDepth 100000

end Go.Proofs.Ytkfeccbahpmadaa
