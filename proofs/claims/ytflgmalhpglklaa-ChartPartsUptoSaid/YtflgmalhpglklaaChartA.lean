/-
  Chart, the reference: Sum, Product, ways.
-/
import Derived.Test.YtflgmalhpglklaaChartP
import Derived.Test.YtflgmalhpglklaaSimMp
import Derived.Test.YtflgmalhpglklaaGramC
set_option linter.unusedVariables false
set_option linter.unusedSimpArgs false
set_option linter.unusedSectionVars false
namespace Go.Proofs.Ytflgmalhpglklaa
open Go.RowKit
set_option maxRecDepth 100000
-- SimX

theorem sumRef_sim {a b M : Nat} (hM : M ≤ 4611686018427387904) (ha : a ≤ M) (hb : b ≤ M) : ACalls Try.prog 50 [I a, I b, I M] [] (I (min M (a + b) : Nat)) [] := by
  by_cases h : M ≤ a ∨ M - a ≤ b
  · have e : min M (a + b) = M := by omega
    rw [e]
    refine ACalls.intro (n := 21) Try.func50 rfl rfl (by simp) (by rfl) ?_
    simp only [argFr]
    by_cases h1 : M ≤ a
    · (repeat (first | refine wk ?_ | refine s_field (hr := ?_)))
      (repeat (first | refine wkz ?_ | refine s_field (hr := ?_)))
      repeat (first | refine wk ?_ | refine s_field (hr := ?_))
      exact fin
    · have h2 : (M : Int) - a ≤ b := by omega
      have h3 : ¬ (M : Int) ≤ a := by omega
      repeat (first | refine wk ?_ | refine s_field (hr := ?_))
      exact fin
  · have e : min M (a + b) = a + b := by omega
    rw [e]
    have h1 : ¬ (M : Int) ≤ a := by omega
    have h2 : ¬ (M : Int) - a ≤ b := by omega
    refine ACalls.intro (n := 21) Try.func50 rfl rfl (by simp) (by rfl) ?_
    simp only [argFr]
    repeat (first | refine wk ?_ | refine s_field (hr := ?_))
    exact fin

theorem prodRef_sim {a b M : Nat} (hM : M ≤ 4611686018427387904) (hM1 : 1 ≤ M) (ha : a ≤ M) (hb : b ≤ M) : ACalls Try.prog 51 [I a, I b, I M] [] (I (min M (a * b) : Nat)) [] := by
  by_cases h0 : a = 0 ∨ b = 0
  · have e : min M (a * b) = 0 := by rcases h0 with h | h <;> subst h <;> simp
    rw [e]
    refine ACalls.intro (n := 33) Try.func51 rfl rfl (by simp) (by rfl) ?_
    simp only [argFr]
    by_cases h1 : a = 0
    · subst h1
      (repeat (first | refine wk ?_ | refine s_field (hr := ?_)))
      (repeat (first | refine wkz ?_ | refine s_field (hr := ?_)))
      repeat (first | refine wk ?_ | refine s_field (hr := ?_))
      exact fin
    · have h2 : b = 0 := by omega
      subst h2
      have h1' : ¬ (a : Int) = 0 := by omega
      repeat (first | refine wk ?_ | refine s_field (hr := ?_))
      exact fin
  · have ha0 : ¬ (a : Int) = 0 := by omega
    have hb0 : ¬ (b : Int) = 0 := by omega
    by_cases h1 : M ≤ a
    · have e : min M (a * b) = M := by
        have : a * 1 ≤ a * b := Nat.mul_le_mul_left _ (by omega)
        omega
      rw [e]
      have h1' : (M : Int) ≤ a := by omega
      refine ACalls.intro (n := 33) Try.func51 rfl rfl (by simp) (by rfl) ?_
      simp only [argFr]
      (repeat (first | refine wk ?_ | refine s_field (hr := ?_)))
      (repeat (first | refine wkz ?_ | refine s_field (hr := ?_)))
      repeat (first | refine wk ?_ | refine s_field (hr := ?_))
      exact fin
    · have h1' : ¬ (M : Int) ≤ a := by omega
      by_cases h2 : M ≤ b
      · have e : min M (a * b) = M := by
          have : 1 * b ≤ a * b := Nat.mul_le_mul_right _ (by omega)
          omega
        rw [e]
        have h2' : (M : Int) ≤ b := by omega
        refine ACalls.intro (n := 33) Try.func51 rfl rfl (by simp) (by rfl) ?_
        simp only [argFr]
        (repeat (first | refine wk ?_ | refine s_field (hr := ?_)))
        (repeat (first | refine wkz ?_ | refine s_field (hr := ?_)))
        repeat (first | refine wk ?_ | refine s_field (hr := ?_))
        exact fin
      · have h2' : ¬ (M : Int) ≤ b := by omega
        have hq : ((M : Int) - 1) / b = (((M - 1) / b : Nat) : Int) := by rw [Int.natCast_ediv]; congr 1; omega
        have hlt : (M - 1) / b < a ↔ M - 1 < a * b := Nat.div_lt_iff_lt_mul (by omega)
        by_cases h3 : M - 1 < a * b
        · have e : min M (a * b) = M := by omega
          rw [e]
          have h3' : ((M : Int) - 1) / b < a := by rw [hq]; have := hlt.2 h3; omega
          refine ACalls.intro (n := 33) Try.func51 rfl rfl (by simp) (by rfl) ?_
          simp only [argFr]
          repeat (first | refine wk ?_ | refine s_field (hr := ?_))
          exact fin
        · have e : ((min M (a * b) : Nat) : Int) = (a : Int) * b := by rw [Nat.min_eq_right (by omega)]; exact Int.natCast_mul a b
          rw [e]
          have hab : (a : Int) * b ≤ 4611686018427387904 := by rw [← e]; omega
          have hab0 : 0 ≤ (a : Int) * b := by rw [← e]; omega
          have h3' : ¬ ((M : Int) - 1) / b < a := by rw [hq]; have := mt hlt.1 h3; omega
          refine ACalls.intro (n := 33) Try.func51 rfl rfl (by simp) (by rfl) ?_
          simp only [argFr]
          repeat (first | refine wk ?_ | refine s_field (hr := ?_))
          exact fin
end Go.Proofs.Ytflgmalhpglklaa
