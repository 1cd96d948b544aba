/-
  Sim: tree.Word, the grammar 'again', treeBegun; TreeOrders, TreeDoes return true.
-/
import Derived.Test.YtflgmalhpglklaaTreeB
import Derived.Test.YtflgmalhpglklaaS5
import Derived.Test.YtflgmalhpglklaaGramC
set_option linter.unusedVariables false
set_option linter.unusedSimpArgs false
set_option linter.unusedSectionVars false
namespace Go.Proofs.Ytflgmalhpglklaa
open Go.RowKit
set_option maxRecDepth 100000

theorem word_top_sim {t u : Bool} {g : Gram} {x : Tree} (hl : g.rules.length ≤ 100000000) (hr : ∀ r ∈ g.rules, r.right.length ≤ 100000000) (hx : cnt x ≤ 100000000) :
    ACalls Try.prog 63 [.d (gramD t g), .d (treeA u x)] [] (.tup [.d (ints false (wordR g x)), .d (faultD (treeFault g x g.start))]) [] := by
  refine ACalls.intro (n := 20) Try.func63 rfl rfl (by simp) (by rfl) ?_
  simp only [argFr]
  repeat (first | refine wk ?_ | refine s_field (hr := ?_))
  refine s_call [] (hA := treeCheck_sim hl hr hx) (hr := ?_)
  by_cases h0 : (treeFault g x g.start).code = 0
  · obtain ⟨hg, h1, h2, h3⟩ := treeFault_zero h0
    repeat (first | refine wk ?_ | refine s_field (hr := ?_))
    refine s_call [] (hA := word0_sim hg h2 h1) (hr := ?_)
    rw [wordR, if_pos h0, h3]
    repeat (first | refine wkr ?_ | refine s_field (hr := ?_))
    refine aw_froz 900 rfl ?_
    repeat (first | refine wk ?_ | refine s_field (hr := ?_))
    exact fin
  · rw [wordR, if_neg h0]
    repeat (first | refine wk ?_ | refine s_field (hr := ?_))
    exact fin
def againG : Gram := ⟨1, 2, 0, [⟨0, [0, -1]⟩, ⟨0, [-2]⟩]⟩
theorem again_sim : ACalls Try.prog 70 [] [] (.d (gramD false againG)) [] := by
  refine ACalls.intro (n := 7) Try.func70 rfl rfl (by simp) (by rfl) ?_
  simp only [argFr]
  repeat (first | refine wkr ?_ | refine s_field (hr := ?_))
  refine aw_froz 5 rfl ?_
  repeat (first | refine wk ?_ | refine s_field (hr := ?_))
  exact fin
def tB : Tree := .mk 0 [.mk 1 []]
theorem word_tB : wordT againG tB = [1, 0] := by
  have h1 : wordT againG (.mk 1 []) = [1] := by
    rw [wordT]; show wordL againG [-2] [] = [1]
    rw [wordL_neg (by decide), wordL_nil]; rfl
  rw [tB, wordT]; show wordL againG [0, -1] [.mk 1 []] = [1, 0]
  rw [wordL_pos (by decide), wordL_neg (by decide), wordL_nil, h1]; rfl
theorem wordB_sim : ACalls Try.prog 63 [.d (gramD false againG), .d (.agg [iD 0, .sl false 2 [.agg [iD 1, nilT]]])] [] (.tup [.d (ints false [1, 0]), .d (faultD ⟨0, 0⟩)]) [] := by
  have h := word_top_sim (t := false) (u := false) (g := againG) (x := tB) (by decide) (by decide) (by decide)
  rw [show wordR againG tB = [1, 0] by rw [wordR, if_pos (by decide +kernel), word_tB], show treeFault againG tB againG.start = ⟨0, 0⟩ by decide +kernel] at h
  exact h.le ⟨.refl _, .agg (.cons (.refl _) (.cons (.sl (.cons (.agg (.cons (.refl _) (.cons (.nil _ _) .nil))) .nil)) .nil)), trivial⟩
theorem checkB_sim : ACalls Try.prog 130 [.d (gramD false againG), .d (.agg [iD 0, nilT]), I 0] [] (.d (faultD ⟨13, -1⟩)) [] := by
  have h := treeCheck_sim (t := false) (u := false) (g := againG) (x := .mk 0 []) (v := 0) (by decide) (by decide) (by decide)
  rw [show treeFault againG (.mk 0 []) 0 = ⟨13, -1⟩ by decide +kernel] at h
  exact h.le ⟨.refl _, .agg (.cons (.refl _) (.cons (.nil _ _) .nil)), .refl _, trivial⟩
end Go.Proofs.Ytflgmalhpglklaa
