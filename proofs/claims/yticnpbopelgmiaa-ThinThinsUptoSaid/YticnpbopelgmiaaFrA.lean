/-
  Sim: templates: counted, which kids they use, the same, Plain, Node. Sim: templates: which kids they use; Node; steps that are the same.
-/
import Derived.Test.YticnpbopelgmiaaP1
import Derived.Test.YticnpbopelgmiaaTreeA
set_option linter.unusedVariables false
set_option linter.unusedSimpArgs false
set_option linter.unusedSectionVars false
namespace Go.Proofs.Yticnpbopelgmiaa
open Go.RowKit
set_option maxRecDepth 100000

/-! ### Counted -/
/-! ### The same -/
/-! ### The template of a rule that stays -/
end Go.Proofs.Yticnpbopelgmiaa
namespace Go.Proofs.Yticnpbopelgmiaa
open Go.RowKit
set_option maxRecDepth 100000

end Go.Proofs.Yticnpbopelgmiaa
