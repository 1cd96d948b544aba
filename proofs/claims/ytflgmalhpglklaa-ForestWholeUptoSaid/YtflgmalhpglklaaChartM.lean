/-
  Chart: the laws' beginning, Heavy.
-/
import Derived.Test.YtflgmalhpglklaaChartL
import Derived.Test.YtflgmalhpglklaaChartE
import Derived.Test.YtflgmalhpglklaaTreeC
import Derived.Test.YtflgmalhpglklaaSmN
set_option linter.unusedVariables false
set_option linter.unusedSimpArgs false
set_option linter.unusedSectionVars false
namespace Go.Proofs.Ytflgmalhpglklaa
open Go.RowKit
set_option maxRecDepth 100000
-- SimX

def heavyB (g : Gram) (w : List Int) : Bool := greatG g || decide (300 < w.length) || (decide (w.length ≤ 12) && decide (7 < w.length) && decide (40 < g.rules.length)) || (decide (w.length ≤ 12) && decide (5 < w.length) && decide (100 < g.rules.length))
set_option maxHeartbeats 4000000 in
theorem heavy_sim {t u : Bool} {g : Gram} {w : List Int} (hf : g.fit) (hw : w.length ≤ 100000000) : ACalls Try.prog 39 [.d (gramD t g), .d (ints u w)] [] (B (heavyB g w)) [] := by
  have hgg := greatGram_sim (t := t) (g := g) hf.rules hf.right
  have hrl := hf.rules
  unfold heavyB
  refine ACalls.intro (n := 44) Try.func39 rfl rfl (by simp) (by rfl) ?_
  simp only [argFr]
  repeat (first | refine wk ?_ | refine s_field (hr := ?_))
  refine s_call [] (hA := hgg) (hr := ?_)
  cases greatG g with
  | true =>
    simp only [Bool.true_or]
    ((repeat (first | refine wkz ?_ | refine s_field (hr := ?_))); (repeat (first | refine wk ?_ | refine s_field (hr := ?_))); (repeat (first | refine wkz ?_ | refine s_field (hr := ?_))); exact fin)
  | false =>
    by_cases h1 : 300 < w.length
    · rw [decide_eq_true h1]
      simp only [Bool.or_true, Bool.true_or]
      ((repeat (first | refine wkz ?_ | refine s_field (hr := ?_))); (repeat (first | refine wk ?_ | refine s_field (hr := ?_))); (repeat (first | refine wkz ?_ | refine s_field (hr := ?_))); exact fin)
    · rw [decide_eq_false h1]
      by_cases h2 : w.length ≤ 12
      · rw [decide_eq_true h2]
        by_cases h3 : 7 < w.length
        · have h3b : 5 < w.length := by omega
          rw [decide_eq_true h3, decide_eq_true h3b]
          by_cases h4 : 40 < g.rules.length
          · rw [decide_eq_true h4]
            simp only [Bool.true_and, Bool.or_true, Bool.true_or, Bool.false_or]
            ((repeat (first | refine wkz ?_ | refine s_field (hr := ?_))); (repeat (first | refine wk ?_ | refine s_field (hr := ?_))); (repeat (first | refine wkz ?_ | refine s_field (hr := ?_))); exact fin)
          · have h5 : ¬ 100 < g.rules.length := by omega
            rw [decide_eq_false h4, decide_eq_false h5]
            simp only [Bool.true_and, Bool.and_false, Bool.or_false]
            ((repeat (first | refine wkz ?_ | refine s_field (hr := ?_))); (repeat (first | refine wk ?_ | refine s_field (hr := ?_))); (repeat (first | refine wkz ?_ | refine s_field (hr := ?_))); exact fin)
        · rw [decide_eq_false h3]
          by_cases h3b : 5 < w.length
          · rw [decide_eq_true h3b]
            by_cases h4 : 100 < g.rules.length
            · rw [decide_eq_true h4]
              simp only [Bool.true_and, Bool.and_false, Bool.false_and, Bool.or_false, Bool.false_or]
              ((repeat (first | refine wkz ?_ | refine s_field (hr := ?_))); (repeat (first | refine wk ?_ | refine s_field (hr := ?_))); (repeat (first | refine wkz ?_ | refine s_field (hr := ?_))); exact fin)
            · rw [decide_eq_false h4]
              simp only [Bool.true_and, Bool.and_false, Bool.false_and, Bool.or_false, Bool.false_or]
              ((repeat (first | refine wkz ?_ | refine s_field (hr := ?_))); (repeat (first | refine wk ?_ | refine s_field (hr := ?_))); (repeat (first | refine wkz ?_ | refine s_field (hr := ?_))); exact fin)
          · rw [decide_eq_false h3b]
            simp only [Bool.true_and, Bool.and_false, Bool.false_and, Bool.or_false, Bool.false_or]
            ((repeat (first | refine wkz ?_ | refine s_field (hr := ?_))); (repeat (first | refine wk ?_ | refine s_field (hr := ?_))); (repeat (first | refine wkz ?_ | refine s_field (hr := ?_))); exact fin)
      · rw [decide_eq_false h2]
        simp only [Bool.true_and, Bool.and_false, Bool.false_and, Bool.or_false, Bool.false_or]
        ((repeat (first | refine wkz ?_ | refine s_field (hr := ?_))); (repeat (first | refine wk ?_ | refine s_field (hr := ?_))); (repeat (first | refine wkz ?_ | refine s_field (hr := ?_))); exact fin)
/-- So many rounds are enough. -/
def stays (g : Gram) (w : List Int) (M k : Nat) : Bool := (List.range g.vars.toNat).all fun v => (List.range (w.length + 1)).all fun i => (List.range (w.length + 1)).all fun j => decide (rnds g w M (k + 1) v i j = rnds g w M k v i j)
theorem wcns_at {g : Gram} {w : List Int} {M k : Nat} (h : stays g w M k = true) : wcns g w M = rnds g w M k := by
  refine (rnds_end ?_).symm
  funext v i j
  by_cases hin : (v : Int) < g.vars ∧ i ≤ j ∧ j ≤ w.length
  · simp only [stays, List.all_eq_true, List.mem_range, decide_eq_true_eq] at h
    exact h v (by omega) i (by omega) j (by omega)
  · rw [rnds_out hin, rnds_out hin]
end Go.Proofs.Ytflgmalhpglklaa
