/-
  Sim: syntaxBegun.
-/
import Derived.Test.YtkfeccbahpmadaaSyJ
set_option linter.unusedVariables false
set_option linter.unusedSimpArgs false
set_option linter.unusedSectionVars false
namespace Go.Proofs.Ytkfeccbahpmadaa
open Go.RowKit
set_option maxRecDepth 100000
-- SimX

def srcB : ByteArray := ⟨#[83, 32, 61, 32, 34, 97, 34, 32, 83, 32, 34, 98, 34, 32, 124, 32, 59]⟩
def rowB : List Expr := [.mk 1 ⟨#[97]⟩ [], .mk 2 ⟨#[83]⟩ [], .mk 1 ⟨#[98]⟩ []]
def altB : List Expr := [.mk 3 ⟨#[]⟩ rowB, .mk 3 ⟨#[]⟩ []]
def dfsB : List Dfn := [⟨⟨#[83]⟩, 0, .mk 4 ⟨#[]⟩ altB⟩]
theorem parseB_eq : parseS srcB = (dfsB, ⟨0, 0⟩) := by kernel_rfl
theorem dfsB_fit : TextFit dfsB := ⟨by decide, by decide⟩
theorem sameB_eq : sameT false dfsB dfsB = true := by kernel_rfl
end Go.Proofs.Ytkfeccbahpmadaa
