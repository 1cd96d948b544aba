/-
  Chart, the reference: Sum, Product, ways. Chart, the reference: ways. Chart, the reference: rows of rows of noughts.
-/
import Derived.Test.YticnpbopelgmiaaChartP
import Derived.Test.YticnpbopelgmiaaSmN
import Derived.Test.YticnpbopelgmiaaGramC
set_option linter.unusedVariables false
set_option linter.unusedSimpArgs false
set_option linter.unusedSectionVars false
namespace Go.Proofs.Yticnpbopelgmiaa
open Go.RowKit
set_option maxRecDepth 100000
-- SimX

end Go.Proofs.Yticnpbopelgmiaa
namespace Go.Proofs.Yticnpbopelgmiaa
open Go.RowKit
set_option maxRecDepth 100000
-- SimX

/-! ### One symbol more, step by step -/
section
variable {M : Nat} {N : Cube} {w : List Int} {i j : Nat} {a : Nat → Nat} {s : Int}
end
end Go.Proofs.Yticnpbopelgmiaa
namespace Go.Proofs.Yticnpbopelgmiaa
open Go.RowKit
set_option maxRecDepth 100000
-- SimX

end Go.Proofs.Yticnpbopelgmiaa
