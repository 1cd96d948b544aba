/-
  Forest, the reference: the rules of a nonterminal, one behind the other (plain). Forest, the reference: building.tree, given building.row.
-/
import Derived.Test.YticnpbopelgmiaaFoD
set_option linter.unusedVariables false
set_option linter.unusedSimpArgs false
set_option linter.unusedSectionVars false
namespace Go.Proofs.Yticnpbopelgmiaa
open Go.RowKit
set_option maxRecDepth 100000

end Go.Proofs.Yticnpbopelgmiaa
namespace Go.Proofs.Yticnpbopelgmiaa
open Go.RowKit
set_option maxRecDepth 100000
-- SimX

section
variable {t u : Bool} {g : Gram} {w : List Int}
end
end Go.Proofs.Yticnpbopelgmiaa
