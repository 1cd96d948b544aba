/-
  Sim: tree.Word, the grammar 'again', treeBegun; TreeOrders, TreeDoes return true.
-/
import Derived.Test.YtflgmalhpglklaaTreeB
import Derived.Test.YtflgmalhpglklaaS5
import Derived.Test.YtflgmalhpglklaaGramC
set_option linter.unusedVariables false
set_option linter.unusedSimpArgs false
set_option linter.unusedSectionVars false
namespace Go.Proofs.Ytflgmalhpglklaa
open Go.RowKit
set_option maxRecDepth 100000

theorem word_top_sim {t u : Bool} {g : Gram} {x : Tree} (hl : g.rules.length ≤ 100000000) (hr : ∀ r ∈ g.rules, r.right.length ≤ 100000000) (hx : cnt x ≤ 100000000) :
    ACalls Try.prog 63 [.d (gramD t g), .d (treeA u x)] [] (.tup [.d (ints false (wordR g x)), .d (faultD (treeFault g x g.start))]) [] := by
  refine ACalls.intro (n := 20) Try.func63 rfl rfl (by simp) (by rfl) ?_
  simp only [argFr]
  repeat (first | refine wk ?_ | refine s_field (hr := ?_))
  refine s_call [] (hA := treeCheck_sim hl hr hx) (hr := ?_)
  by_cases h0 : (treeFault g x g.start).code = 0
  · obtain ⟨hg, h1, h2, h3⟩ := treeFault_zero h0
    repeat (first | refine wk ?_ | refine s_field (hr := ?_))
    refine s_call [] (hA := word0_sim hg h2 h1) (hr := ?_)
    rw [wordR, if_pos h0, h3]
    repeat (first | refine wkr ?_ | refine s_field (hr := ?_))
    refine aw_froz 900 rfl ?_
    repeat (first | refine wk ?_ | refine s_field (hr := ?_))
    exact fin
  · rw [wordR, if_neg h0]
    repeat (first | refine wk ?_ | refine s_field (hr := ?_))
    exact fin
end Go.Proofs.Ytflgmalhpglklaa
