/-
  Chart: the laws' beginning, Heavy.
-/
import Derived.Test.YticnpbopelgmiaaChartL
import Derived.Test.YticnpbopelgmiaaChartE
import Derived.Test.YticnpbopelgmiaaTreeC
import Derived.Test.YticnpbopelgmiaaSmN
set_option linter.unusedVariables false
set_option linter.unusedSimpArgs false
set_option linter.unusedSectionVars false
namespace Go.Proofs.Yticnpbopelgmiaa
open Go.RowKit
set_option maxRecDepth 100000
-- SimX

/-- So many rounds are enough. -/
def stays (g : Gram) (w : List Int) (M k : Nat) : Bool := (List.range g.vars.toNat).all fun v => (List.range (w.length + 1)).all fun i => (List.range (w.length + 1)).all fun j => decide (rnds g w M (k + 1) v i j = rnds g w M k v i j)
theorem wcns_at {g : Gram} {w : List Int} {M k : Nat} (h : stays g w M k = true) : wcns g w M = rnds g w M k := by
  refine (rnds_end ?_).symm
  funext v i j
  by_cases hin : (v : Int) < g.vars ∧ i ≤ j ∧ j ≤ w.length
  · simp only [stays, List.all_eq_true, List.mem_range, decide_eq_true_eq] at h
    exact h v (by omega) i (by omega) j (by omega)
  · rw [rnds_out hin, rnds_out hin]
end Go.Proofs.Yticnpbopelgmiaa
