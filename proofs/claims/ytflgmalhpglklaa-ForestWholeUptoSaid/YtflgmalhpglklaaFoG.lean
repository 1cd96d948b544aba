/-
  Forest, the reference: the rules of a nonterminal, one behind the other (plain). Forest, the reference: building.tree, given building.row.
-/
import Derived.Test.YtflgmalhpglklaaFoD
set_option linter.unusedVariables false
set_option linter.unusedSimpArgs false
set_option linter.unusedSectionVars false
namespace Go.Proofs.Ytflgmalhpglklaa
open Go.RowKit
set_option maxRecDepth 100000

end Go.Proofs.Ytflgmalhpglklaa
namespace Go.Proofs.Ytflgmalhpglklaa
open Go.RowKit
set_option maxRecDepth 100000
-- SimX

section
variable {t u : Bool} {g : Gram} {w : List Int}
def sB (F : Nat → Nat) (l : List Int) (x : Nat) : Nat := ((l.take x).map fun b => F b.toNat).sum
theorem sB_succ {F : Nat → Nat} {l : List Int} {x : Nat} (h : x < l.length) : sB F l (x + 1) = sB F l x + F l[x].toNat := by
  unfold sB
  rw [List.take_succ_eq_append_getElem h, List.map_append, List.sum_append]; simp
theorem sB_up {F : Nat → Nat} {l : List Int} {x : Nat} : ∀ {y : Nat}, x ≤ y → sB F l x ≤ sB F l y
  | 0, h => by obtain rfl : x = 0 := by omega
               exact Nat.le_refl _
  | y + 1, h => by
    by_cases e : x = y + 1
    · rw [e]; exact Nat.le_refl _
    · have := sB_up (F := F) (l := l) (x := x) (y := y) (by omega)
      by_cases hy : y < l.length
      · rw [sB_succ hy]; omega
      · unfold sB at this ⊢
        rw [List.take_of_length_le (l := l) (i := y) (by omega)] at this
        rw [List.take_of_length_le (l := l) (i := y + 1) (by omega)]; exact this
end
end Go.Proofs.Ytflgmalhpglklaa
