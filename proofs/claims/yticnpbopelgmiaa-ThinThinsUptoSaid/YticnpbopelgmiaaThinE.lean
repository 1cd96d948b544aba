/-
  Thin, the reference: ThinOf.
-/
import Derived.Test.YticnpbopelgmiaaThinD
import Derived.Test.YticnpbopelgmiaaFoI
import Derived.Test.YticnpbopelgmiaaFactsL
set_option linter.unusedVariables false
set_option linter.unusedSimpArgs false
set_option linter.unusedSectionVars false
namespace Go.Proofs.Yticnpbopelgmiaa
open Go.RowKit
set_option maxRecDepth 100000
-- SimX

end Go.Proofs.Yticnpbopelgmiaa
