/-
  Sim: the reference's: stepsTo, ledTo. Sim: CyclicOf, CornersOf. Sim: factor's common, head, tail. Sim: slices.Index, slices.Contains of whole numbers. Sim: the factorer's step. Sim: factor.Make.
-/
import Derived.Test.YticnpbopelgmiaaF2
import Derived.Test.YticnpbopelgmiaaQTreeB
import Derived.Test.YticnpbopelgmiaaG1
set_option linter.unusedVariables false
set_option linter.unusedSimpArgs false
set_option linter.unusedSectionVars false
namespace Go.Proofs.Yticnpbopelgmiaa
open Go.RowKit
set_option maxRecDepth 100000

end Go.Proofs.Yticnpbopelgmiaa
namespace Go.Proofs.Yticnpbopelgmiaa
open Go.RowKit
set_option maxRecDepth 100000

end Go.Proofs.Yticnpbopelgmiaa
namespace Go.Proofs.Yticnpbopelgmiaa
open Go.RowKit
set_option maxRecDepth 100000
-- SimX

end Go.Proofs.Yticnpbopelgmiaa
namespace Go.Proofs.Yticnpbopelgmiaa
open Go.RowKit
set_option maxRecDepth 100000

end Go.Proofs.Yticnpbopelgmiaa
namespace Go.Proofs.Yticnpbopelgmiaa
open Go.RowKit
set_option maxRecDepth 100000
-- SimX

theorem samesW_le {at_ : List Int} : ∀ (l : List Work) (i : Nat), (samesW at_ l i).length ≤ l.length
  | [], i => by simp [samesW]
  | x :: r, i => by
    have ih := samesW_le (at_ := at_) r (i + 1)
    rw [samesW]; split <;> simp only [List.length_cons] <;> omega
end Go.Proofs.Yticnpbopelgmiaa
namespace Go.Proofs.Yticnpbopelgmiaa
open Go.RowKit
set_option maxRecDepth 100000
-- SimX

def Wide (all : List (List Work)) : Prop := ∀ l ∈ all, l.length ≤ 160
theorem Wide.get {all : List (List Work)} (h : Wide all) (v : Nat) : (all.getD v []).length ≤ 160 := by
  rw [List.getD_eq_getElem?_getD]
  by_cases hv : v < all.length
  · rw [List.getElem?_eq_getElem hv]; exact h _ (List.getElem_mem hv)
  · rw [List.getElem?_eq_none (by omega)]; simp
theorem Wide.one {V : Nat} {all : List (List Work)} {v : Nat} {at_ : List Int} (h : Wide all) : Wide (oneW V all v at_) := by
  intro l hl
  have hv := h.get v
  rcases List.mem_append.1 hl with hl | hl
  · rcases List.mem_or_eq_of_mem_set hl with hl | rfl
    · exact h l hl
    · exact Nat.le_trans (leftsW_le _ _) hv
  · rw [List.mem_singleton.1 hl, List.length_map]
    exact Nat.le_trans (samesW_le _ _) hv
theorem by_len (g : Gram) (v : Int) : (by_ g v).length ≤ g.rules.length := byR_le v g.rules 0
end Go.Proofs.Yticnpbopelgmiaa
