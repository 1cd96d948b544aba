/-
  Sim: templates: counted, which kids they use, the same, Plain, Node.
-/
import Derived.Test.YtflgmalhpglklaaP1
import Derived.Test.YtflgmalhpglklaaTreeA
set_option linter.unusedVariables false
set_option linter.unusedSimpArgs false
set_option linter.unusedSectionVars false
namespace Go.Proofs.Ytflgmalhpglklaa
open Go.RowKit
set_option maxRecDepth 100000

/-! ### Counted -/
/-! ### The same -/
/-! ### The template of a rule that stays -/
end Go.Proofs.Ytflgmalhpglklaa
