/-
  Sim: trees: Check, Own, words.
-/
import Derived.Test.YticnpbopelgmiaaTreeA
import Derived.Test.YticnpbopelgmiaaT1
import Derived.Test.YticnpbopelgmiaaS4
set_option linter.unusedVariables false
set_option linter.unusedSimpArgs false
set_option linter.unusedSectionVars false
namespace Go.Proofs.Yticnpbopelgmiaa
open Go.RowKit
set_option maxRecDepth 100000

/-! ### Words -/
end Go.Proofs.Yticnpbopelgmiaa
