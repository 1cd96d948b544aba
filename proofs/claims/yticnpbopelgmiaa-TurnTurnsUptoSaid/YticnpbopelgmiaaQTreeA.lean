/-
  Sim: trees: counted, fitting, order. Sim: templates: counted, which kids they use, the same, Plain, Node. Sim: templates: which kids they use; Node; steps that are the same.
-/
import Derived.Test.YticnpbopelgmiaaQGramC
import Derived.Test.YticnpbopelgmiaaP1
set_option linter.unusedVariables false
set_option linter.unusedSimpArgs false
set_option linter.unusedSectionVars false
namespace Go.Proofs.Yticnpbopelgmiaa
open Go.RowKit
set_option maxRecDepth 100000

/-! ### Counted -/
/-! ### Fitting -/
/-! ### Order -/
end Go.Proofs.Yticnpbopelgmiaa
namespace Go.Proofs.Yticnpbopelgmiaa
open Go.RowKit
set_option maxRecDepth 100000

/-! ### Counted -/
/-! ### The same -/
/-! ### The template of a rule that stays -/
theorem holes_snoc (k : Nat) : holes (k + 1) = holes k ++ [.mk 2 k []] := by simp [holes, List.range_succ]
theorem holes_dsnoc (t : Bool) (k : Nat) : (holes (k + 1)).map (fragD t) = (holes k).map (fragD t) ++ [.agg [iD 2, iD k, .sl t 3 []]] := by rw [holes_snoc]; simp [fragD, fragDs]
theorem nodeF_map (t : Bool) (r : Int) (k : Nat) : (nodeF r k).map (fragD t) = [.agg [iD 1, iD r, fragsD t (holes k)]] := by simp [nodeF, fragD, fragDs_map]
end Go.Proofs.Yticnpbopelgmiaa
namespace Go.Proofs.Yticnpbopelgmiaa
open Go.RowKit
set_option maxRecDepth 100000

end Go.Proofs.Yticnpbopelgmiaa
