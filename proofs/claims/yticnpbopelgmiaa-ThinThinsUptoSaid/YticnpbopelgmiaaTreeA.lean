/-
  Sim: trees: counted, fitting, order.
-/
import Derived.Test.YticnpbopelgmiaaTreeP
set_option linter.unusedVariables false
set_option linter.unusedSimpArgs false
set_option linter.unusedSectionVars false
namespace Go.Proofs.Yticnpbopelgmiaa
open Go.RowKit
set_option maxRecDepth 100000

theorem kid_le {x : Tree} {N : Nat} (h : cnt x ≤ N) {i : Nat} (hi : i < x.kids.length) : cnt x.kids[i] ≤ N ∧ cnt x.kids[i] < cnt x := by
  have := cnts_mem (List.getElem_mem hi)
  rw [cnt_eq] at h
  have := cnt_eq x
  omega
theorem kids_len {x : Tree} {N : Nat} (h : cnt x ≤ N) : x.kids.length ≤ N := by
  have := cnts_len x.kids
  rw [cnt_eq] at h
  omega

/-! ### Counted -/
/-! ### Fitting -/
/-! ### Order -/
end Go.Proofs.Yticnpbopelgmiaa
