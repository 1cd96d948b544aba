/-
  Sim: tree.Word, the grammar 'again', treeBegun; TreeOrders, TreeDoes return true.
-/
import Derived.Test.YtflgmalhpglklaaTreeB
import Derived.Test.YtflgmalhpglklaaS5
import Derived.Test.YtflgmalhpglklaaGramC
set_option linter.unusedVariables false
set_option linter.unusedSimpArgs false
set_option linter.unusedSectionVars false
namespace Go.Proofs.Ytflgmalhpglklaa
open Go.RowKit
set_option maxRecDepth 100000

end Go.Proofs.Ytflgmalhpglklaa
