/-
  Forest, the reference: building.row, given building.tree; both whole. Forest, the reference: AtOf, TreesOf. Forest, the reference: TreesOf.
-/
import Derived.Test.YtflgmalhpglklaaFoG
set_option linter.unusedVariables false
set_option linter.unusedSimpArgs false
set_option linter.unusedSectionVars false
namespace Go.Proofs.Ytflgmalhpglklaa
open Go.RowKit
set_option maxRecDepth 100000
-- SimX

section
variable {t u : Bool} {g : Gram} {w : List Int}
theorem min_prod {M a b c : Nat} (h1 : a * b ≤ c) (h2 : c < M) : a * min M b = a * b := by
  cases a with
  | zero => rw [Nat.zero_mul, Nat.zero_mul]
  | succ a =>
    have : 1 * b ≤ (a + 1) * b := Nat.mul_le_mul_right _ (by omega)
    rw [Nat.min_eq_right (by omega)]
end
end Go.Proofs.Ytflgmalhpglklaa
namespace Go.Proofs.Ytflgmalhpglklaa
open Go.RowKit
set_option maxRecDepth 100000
-- SimX

section
variable {t u : Bool} {g : Gram} {w : List Int}
end
end Go.Proofs.Ytflgmalhpglklaa
namespace Go.Proofs.Ytflgmalhpglklaa
open Go.RowKit
set_option maxRecDepth 100000
-- SimX

section
variable {t u : Bool} {g : Gram} {w : List Int}
end
end Go.Proofs.Ytflgmalhpglklaa
