/-
  Chart: the laws' beginning, Heavy.
-/
import Derived.Test.YtflgmalhpglklaaChartL
import Derived.Test.YtflgmalhpglklaaChartE
import Derived.Test.YtflgmalhpglklaaTreeC
import Derived.Test.YtflgmalhpglklaaSimCu
set_option linter.unusedVariables false
set_option linter.unusedSimpArgs false
set_option linter.unusedSectionVars false
namespace Go.Proofs.Ytflgmalhpglklaa
open Go.RowKit
set_option maxRecDepth 100000
-- SimX

def heavyB (g : Gram) (w : List Int) : Bool := greatG g || decide (300 < w.length) || (decide (w.length ≤ 12) && decide (7 < w.length) && decide (40 < g.rules.length)) || (decide (w.length ≤ 12) && decide (5 < w.length) && decide (100 < g.rules.length))
set_option maxHeartbeats 4000000 in
theorem heavy_sim {t u : Bool} {g : Gram} {w : List Int} (hf : g.fit) (hw : w.length ≤ 100000000) : ACalls Try.prog 39 [.d (gramD t g), .d (ints u w)] [] (B (heavyB g w)) [] := by
  have hgg := greatGram_sim (t := t) (g := g) hf.rules hf.right
  have hrl := hf.rules
  unfold heavyB
  refine ACalls.intro (n := 44) Try.func39 rfl rfl (by simp) (by rfl) ?_
  simp only [argFr]
  repeat (first | refine wk ?_ | refine s_field (hr := ?_))
  refine s_call [] (hA := hgg) (hr := ?_)
  cases greatG g with
  | true =>
    simp only [Bool.true_or]
    ((repeat (first | refine wkz ?_ | refine s_field (hr := ?_))); (repeat (first | refine wk ?_ | refine s_field (hr := ?_))); (repeat (first | refine wkz ?_ | refine s_field (hr := ?_))); exact fin)
  | false =>
    by_cases h1 : 300 < w.length
    · rw [decide_eq_true h1]
      simp only [Bool.or_true, Bool.true_or]
      ((repeat (first | refine wkz ?_ | refine s_field (hr := ?_))); (repeat (first | refine wk ?_ | refine s_field (hr := ?_))); (repeat (first | refine wkz ?_ | refine s_field (hr := ?_))); exact fin)
    · rw [decide_eq_false h1]
      by_cases h2 : w.length ≤ 12
      · rw [decide_eq_true h2]
        by_cases h3 : 7 < w.length
        · have h3b : 5 < w.length := by omega
          rw [decide_eq_true h3, decide_eq_true h3b]
          by_cases h4 : 40 < g.rules.length
          · rw [decide_eq_true h4]
            simp only [Bool.true_and, Bool.or_true, Bool.true_or, Bool.false_or]
            ((repeat (first | refine wkz ?_ | refine s_field (hr := ?_))); (repeat (first | refine wk ?_ | refine s_field (hr := ?_))); (repeat (first | refine wkz ?_ | refine s_field (hr := ?_))); exact fin)
          · have h5 : ¬ 100 < g.rules.length := by omega
            rw [decide_eq_false h4, decide_eq_false h5]
            simp only [Bool.true_and, Bool.and_false, Bool.or_false]
            ((repeat (first | refine wkz ?_ | refine s_field (hr := ?_))); (repeat (first | refine wk ?_ | refine s_field (hr := ?_))); (repeat (first | refine wkz ?_ | refine s_field (hr := ?_))); exact fin)
        · rw [decide_eq_false h3]
          by_cases h3b : 5 < w.length
          · rw [decide_eq_true h3b]
            by_cases h4 : 100 < g.rules.length
            · rw [decide_eq_true h4]
              simp only [Bool.true_and, Bool.and_false, Bool.false_and, Bool.or_false, Bool.false_or]
              ((repeat (first | refine wkz ?_ | refine s_field (hr := ?_))); (repeat (first | refine wk ?_ | refine s_field (hr := ?_))); (repeat (first | refine wkz ?_ | refine s_field (hr := ?_))); exact fin)
            · rw [decide_eq_false h4]
              simp only [Bool.true_and, Bool.and_false, Bool.false_and, Bool.or_false, Bool.false_or]
              ((repeat (first | refine wkz ?_ | refine s_field (hr := ?_))); (repeat (first | refine wk ?_ | refine s_field (hr := ?_))); (repeat (first | refine wkz ?_ | refine s_field (hr := ?_))); exact fin)
          · rw [decide_eq_false h3b]
            simp only [Bool.true_and, Bool.and_false, Bool.false_and, Bool.or_false, Bool.false_or]
            ((repeat (first | refine wkz ?_ | refine s_field (hr := ?_))); (repeat (first | refine wk ?_ | refine s_field (hr := ?_))); (repeat (first | refine wkz ?_ | refine s_field (hr := ?_))); exact fin)
      · rw [decide_eq_false h2]
        simp only [Bool.true_and, Bool.and_false, Bool.false_and, Bool.or_false, Bool.false_or]
        ((repeat (first | refine wkz ?_ | refine s_field (hr := ?_))); (repeat (first | refine wk ?_ | refine s_field (hr := ?_))); (repeat (first | refine wkz ?_ | refine s_field (hr := ?_))); exact fin)
/-- So many rounds are enough. -/
def stays (g : Gram) (w : List Int) (M k : Nat) : Bool := (List.range g.vars.toNat).all fun v => (List.range (w.length + 1)).all fun i => (List.range (w.length + 1)).all fun j => decide (rnds g w M (k + 1) v i j = rnds g w M k v i j)
theorem wcns_at {g : Gram} {w : List Int} {M k : Nat} (h : stays g w M k = true) : wcns g w M = rnds g w M k := by
  refine (rnds_end ?_).symm
  funext v i j
  by_cases hin : (v : Int) < g.vars ∧ i ≤ j ∧ j ≤ w.length
  · simp only [stays, List.all_eq_true, List.mem_range, decide_eq_true_eq] at h
    exact h v (by omega) i (by omega) j (by omega)
  · rw [rnds_out hin, rnds_out hin]
theorem cyc_again : cycL againG = [] := by kernel_rfl
theorem chOk_again : ChOk againG [1, 0, 0] := ⟨gram_ok (by kernel_rfl), cyc_again, by simp, fun x hx => by simp at hx; rcases hx with rfl | rfl <;> exact ⟨by decide, by decide⟩⟩
theorem wcns_again : wcns againG [1, 0, 0] manyC = rnds againG [1, 0, 0] manyC 3 := wcns_at (by kernel_rfl)
theorem beg_1 : ofC againG [1, 0, 0] (wcns againG [1, 0, 0] manyC) againG.start 0 ([1, 0, 0] : List Int).length = 1 := by rw [wcns_again]; kernel_rfl
theorem beg_2 : ofC againG [1, 0, 0] (wcns againG [1, 0, 0] manyC) 0 0 1 = 1 := by rw [wcns_again]; kernel_rfl
theorem beg_3 : ruC againG [1, 0, 0] manyC (wcns againG [1, 0, 0] manyC) 0 0 2 = 1 := by rw [wcns_again]; kernel_rfl
theorem beg_4 : spC againG [1, 0, 0] manyC (wcns againG [1, 0, 0] manyC) 0 0 0 1 2 = 1 := by rw [wcns_again]; kernel_rfl
set_option maxHeartbeats 4000000 in
theorem chartBegun_sim : ACalls Try.prog 38 [] [] (B true) [] := by
  have hC := chOk_again
  obtain ⟨s1, s2⟩ := hC.small
  have hnew := new_some (t := false) (u := false) hC
  have hct := count_simC hC.ok hC.cyc s1 s2
  have hof := of_simC hC.ok hC.cyc s1 s2 0 0 1
  have hru := rule_simC hC.ok hC.cyc s1 s2 0 0 2
  have hsp := split_simC hC.ok hC.cyc s1 s2 0 0 0 1 2
  have hpl := plus_simC (a := manyC) (b := 1) (Nat.le_refl _) (by decide)
  rw [beg_1] at hct
  rw [beg_2] at hof
  rw [beg_3] at hru
  rw [beg_4] at hsp
  rw [show min manyC (manyC + 1) = manyC from by decide] at hpl
  generalize wcns againG [1, 0, 0] manyC = N at *
  generalize nulB againG = NB at *
  refine ACalls.intro (n := 36) Try.func38 rfl rfl (by simp) (by rfl) ?_
  simp only [argFr]
  repeat (first | refine wk ?_ | refine s_field (hr := ?_))
  --@
  refine s_call [] (hA := again_sim) (hr := ?_)
  repeat (first | refine wk ?_ | refine s_field (hr := ?_))
  --@
  refine s_call [(62, 962), (60, 960)] (hA := hnew) (hr := ?_)
  repeat (first | refine wk ?_ | refine s_field (hr := ?_))
  --@
  refine s_callU [(1000, 962), (1001, 960)] (hA := hct) (hr := ?_)
  repeat (first | refine wk ?_ | refine s_field (hr := ?_))
  refine s_callU [(1000, 962), (1001, 960)] (hA := hof) (hr := ?_)
  repeat (first | refine wk ?_ | refine s_field (hr := ?_))
  refine s_callU [(1000, 962), (1001, 960)] (hA := hru) (hr := ?_)
  repeat (first | refine wk ?_ | refine s_field (hr := ?_))
  refine s_callU [(1000, 962), (1001, 960)] (hA := hsp) (hr := ?_)
  repeat (first | refine wk ?_ | refine s_field (hr := ?_))
  refine s_callU [] (hA := hpl) (hr := ?_)
  repeat (first | refine wk ?_ | refine s_field (hr := ?_))
  exact fin
end Go.Proofs.Ytflgmalhpglklaa
