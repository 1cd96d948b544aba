/-
  Sim: tree.Word, the grammar 'again', treeBegun; TreeOrders, TreeDoes return true.
-/
import Derived.Test.YticnpbopelgmiaaTreeB
import Derived.Test.YticnpbopelgmiaaS5
import Derived.Test.YticnpbopelgmiaaGramC
set_option linter.unusedVariables false
set_option linter.unusedSimpArgs false
set_option linter.unusedSectionVars false
namespace Go.Proofs.Yticnpbopelgmiaa
open Go.RowKit
set_option maxRecDepth 100000

end Go.Proofs.Yticnpbopelgmiaa
