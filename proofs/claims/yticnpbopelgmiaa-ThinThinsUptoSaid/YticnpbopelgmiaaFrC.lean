/-
  Sim: steps that are the same; Node; StepFault. Sim: StepFault.
-/
import Derived.Test.YticnpbopelgmiaaFrA
import Derived.Test.YticnpbopelgmiaaTreeB
import Derived.Test.YticnpbopelgmiaaS5
set_option linter.unusedVariables false
set_option linter.unusedSimpArgs false
set_option linter.unusedSectionVars false
namespace Go.Proofs.Yticnpbopelgmiaa
open Go.RowKit
set_option maxRecDepth 100000

abbrev stepBox (t : Bool) (s : Step) : Ob := .box 31 [.d (iD s.g.vars), .d (iD s.g.terms), .d (iD s.g.start), .d (rulesD t s.g.rules), .d (.sl t 1 (s.frags.map (fragsD t))), .d (treesD t s.empty)]
end Go.Proofs.Yticnpbopelgmiaa
namespace Go.Proofs.Yticnpbopelgmiaa
open Go.RowKit
set_option maxRecDepth 100000

end Go.Proofs.Yticnpbopelgmiaa
