/-
  Sim: syntaxBegun.
-/
import Derived.Test.YtgcagjamjdnglaaSyJ
set_option linter.unusedVariables false
set_option linter.unusedSimpArgs false
set_option linter.unusedSectionVars false
namespace Go.Proofs.Ytgcagjamjdnglaa
open Go.RowKit
set_option maxRecDepth 100000
-- SimX

def srcB : ByteArray := ⟨#[83, 32, 61, 32, 34, 97, 34, 32, 83, 32, 34, 98, 34, 32, 124, 32, 59]⟩
def rowB : List Expr := [.mk 1 ⟨#[97]⟩ [], .mk 2 ⟨#[83]⟩ [], .mk 1 ⟨#[98]⟩ []]
def altB : List Expr := [.mk 3 ⟨#[]⟩ rowB, .mk 3 ⟨#[]⟩ []]
def dfsB : List Dfn := [⟨⟨#[83]⟩, 0, .mk 4 ⟨#[]⟩ altB⟩]
theorem parseB_eq : parseS srcB = (dfsB, ⟨0, 0⟩) := by kernel_rfl
theorem dfsB_fit : TextFit dfsB := ⟨by decide, by decide⟩
theorem sameB_eq : sameT false dfsB dfsB = true := by kernel_rfl
set_option maxHeartbeats 2000000 in
theorem syntaxBegun_sim : ACalls Try.prog 35 [] [] (B true) [] := by
  refine ACalls.intro (n := 53) Try.func35 rfl rfl (by simp) (by rfl) ?_
  simp only [argFr]
  have hp : ACalls Try.prog 36 [Str ⟨#[83, 32, 61, 32, 34, 97, 34, 32, 83, 32, 34, 98, 34, 32, 124, 32, 59]⟩] [] (.tup [.d (textD false dfsB), .d (faultD ⟨0, 0⟩)]) [] := by
    have h := parse_sim srcB (by decide)
    unfold prR at h
    rw [parseB_eq] at h
    exact h
  have hs := same_sim (t := false) (u := false) dfsB_fit dfsB_fit
  rw [sameB_eq] at hs
  have hl1 : dfsB.length = 1 := rfl
  have f1 : dfsB[0].e.op = 4 := rfl
  have f2 : dfsB[0].e.l.length = 2 := rfl
  have f3 : (dfsB[0].e.l[0]'(by rw [f2]; decide)).l.length = 3 := rfl
  repeat (first | refine wk ?_ | refine s_field (hr := ?_))
  refine s_call [] (hA := hp) (hr := ?_)
  repeat (first | refine wk ?_ | refine s_field (hr := ?_))
  --@
  refine s_call [] (hA := hs) (hr := ?_)
  repeat (first | refine wk ?_ | refine s_field (hr := ?_))
  --@
  exact fin
end Go.Proofs.Ytgcagjamjdnglaa
