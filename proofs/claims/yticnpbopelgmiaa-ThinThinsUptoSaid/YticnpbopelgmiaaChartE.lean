/-
  Chart, the reference: Of, Rule, Split.
-/
import Derived.Test.YticnpbopelgmiaaChartD
import Derived.Test.YticnpbopelgmiaaSmN
set_option linter.unusedVariables false
set_option linter.unusedSimpArgs false
set_option linter.unusedSectionVars false
namespace Go.Proofs.Yticnpbopelgmiaa
open Go.RowKit
set_option maxRecDepth 100000
-- SimX

/-- How many trees of v between two places, of whatever numbers. -/
def ofC (g : Gram) (w : List Int) (N : Cube) (v i j : Int) : Nat := if 0 ≤ v ∧ v < g.vars ∧ 0 ≤ i ∧ i ≤ j ∧ j ≤ w.length then N v.toNat i.toNat j.toNat else 0
/-- Of a rule. -/
def ruC (g : Gram) (w : List Int) (M : Nat) (N : Cube) (r i j : Int) : Nat := if 0 ≤ r ∧ r < g.rules.length ∧ 0 ≤ i ∧ i ≤ j ∧ j ≤ w.length then min M (wcn N w (rightAt g r) i.toNat j.toNat) else 0
/-- Of what is behind a rule's k-th symbol, this one as far as m. -/
def spC (g : Gram) (w : List Int) (M : Nat) (N : Cube) (r k i m j : Int) : Nat :=
  if 0 ≤ r ∧ r < g.rules.length ∧ 0 ≤ k ∧ k < (rightAt g r).length ∧ 0 ≤ i ∧ i ≤ m ∧ m ≤ j ∧ j ≤ w.length then min M (symN N w ((rightAt g r).getD k.toNat 0) i.toNat m.toNat * wcn N w ((rightAt g r).drop (k.toNat + 1)) m.toNat j.toNat) else 0
end Go.Proofs.Yticnpbopelgmiaa
