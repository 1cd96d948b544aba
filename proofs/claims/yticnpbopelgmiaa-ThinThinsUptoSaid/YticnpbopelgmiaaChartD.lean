/-
  Chart, the reference: CountsOf.
-/
import Derived.Test.YticnpbopelgmiaaChA
import Derived.Test.YticnpbopelgmiaaSmN
set_option linter.unusedVariables false
set_option linter.unusedSimpArgs false
set_option linter.unusedSectionVars false
namespace Go.Proofs.Yticnpbopelgmiaa
open Go.RowKit
set_option maxRecDepth 100000
-- SimX

section
variable {g : Gram} {w : List Int} {M : Nat} {N : Cube}
end
end Go.Proofs.Yticnpbopelgmiaa
