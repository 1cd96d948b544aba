/-
  Chart, the program: Plus, Times, within, empty.
-/
import Derived.Test.YtflgmalhpglklaaChartQ
import Derived.Test.YtflgmalhpglklaaSimRe
import Derived.Test.YtflgmalhpglklaaSimCu
import Derived.Test.YtflgmalhpglklaaSimCut
import Derived.Test.YtflgmalhpglklaaGramC
set_option linter.unusedVariables false
set_option linter.unusedSimpArgs false
set_option linter.unusedSectionVars false
namespace Go.Proofs.Ytflgmalhpglklaa
open Go.RowKit
set_option maxRecDepth 100000
-- SimX

abbrev manyC : Nat := 4611686018427387904
theorem plus_simC {a b : Nat} (ha : a ≤ manyC) (hb : b ≤ manyC) : ACalls Try.prog 48 [I a, I b] [] (I (min manyC (a + b) : Nat)) [] := by
  have e : minI ((a : Int) + minI b (4611686018427387904 - a)) 4611686018427387904 = ((min manyC (a + b) : Nat) : Int) := by
    unfold minI manyC
    unfold manyC at ha hb
    split <;> split <;> omega
  have h1 : (a : Int) + minI (b : Int) (4611686018427387904 - a) ≤ 4611686018427387904 := by
    unfold minI; unfold manyC at ha hb; split <;> omega
  have h2 : 0 ≤ minI (b : Int) (4611686018427387904 - a) := by
    unfold minI; unfold manyC at ha hb; split <;> omega
  unfold manyC at ha hb
  rw [← e]
  generalize hx : minI (b : Int) (4611686018427387904 - a) = x at *
  refine ACalls.intro (n := 12) Try.func48 rfl rfl (by simp) (by rfl) ?_
  simp only [argFr]
  repeat (first | refine wk ?_ | refine s_field (hr := ?_))
  rw [hx]
  repeat (first | refine wk ?_ | refine s_field (hr := ?_))
  exact fin
theorem times_simC {a b : Nat} (ha : a ≤ manyC) (hb : b ≤ manyC) : ACalls Try.prog 49 [I a, I b] [] (I (min manyC (a * b) : Nat)) [] := by
  by_cases h0 : a = 0 ∨ b = 0
  · have e : min manyC (a * b) = 0 := by rcases h0 with h | h <;> subst h <;> simp
    rw [e]
    refine ACalls.intro (n := 18) Try.func49 rfl rfl (by simp) (by rfl) ?_
    simp only [argFr]
    by_cases h1 : a = 0
    · subst h1
      (repeat (first | refine wk ?_ | refine s_field (hr := ?_)))
      (repeat (first | refine wkz ?_ | refine s_field (hr := ?_)))
      repeat (first | refine wk ?_ | refine s_field (hr := ?_))
      exact fin
    · have h2 : b = 0 := by omega
      subst h2
      have h1' : ¬ (a : Int) = 0 := by omega
      repeat (first | refine wk ?_ | refine s_field (hr := ?_))
      exact fin
  · have ha0 : ¬ (a : Int) = 0 := by omega
    have hb0 : ¬ (b : Int) = 0 := by omega
    have hq : (4611686018427387904 : Int) / b = ((manyC / b : Nat) : Int) := by rw [Int.natCast_ediv]; rfl
    have hlt : manyC / b < a ↔ manyC < a * b := Nat.div_lt_iff_lt_mul (by omega)
    by_cases h3 : manyC < a * b
    · have e : ((min manyC (a * b) : Nat) : Int) = 4611686018427387904 := by unfold manyC at *; omega
      rw [e]
      have h3' : (4611686018427387904 : Int) / b < a := by rw [hq]; have := hlt.2 h3; omega
      unfold manyC at ha hb
      refine ACalls.intro (n := 18) Try.func49 rfl rfl (by simp) (by rfl) ?_
      simp only [argFr]
      repeat (first | refine wk ?_ | refine s_field (hr := ?_))
      exact fin
    · have e : ((min manyC (a * b) : Nat) : Int) = (a : Int) * b := by rw [Nat.min_eq_right (by omega)]; exact Int.natCast_mul a b
      rw [e]
      have hab : (a : Int) * b ≤ 4611686018427387904 := by rw [← e]; unfold manyC; omega
      have hab0 : 0 ≤ (a : Int) * b := by rw [← e]; omega
      have h3' : ¬ (4611686018427387904 : Int) / b < a := by rw [hq]; have := mt hlt.1 h3; omega
      unfold manyC at ha hb
      refine ACalls.intro (n := 18) Try.func49 rfl rfl (by simp) (by rfl) ?_
      simp only [argFr]
      repeat (first | refine wk ?_ | refine s_field (hr := ?_))
      exact fin
/-- The program's Chart: what it remembers is right. -/
def goodM (N : Cube) (l : ML) : Prop := ∀ x ∈ l, x.2 = ((N x.1.1.toNat x.1.2.1.toNat x.1.2.2.toNat : Nat) : Int)
abbrev cxBx (g : Gram) (w : List Int) (nl : List Bool) (k : Nat) : Ob := .box 171 [.d (iD g.vars), .d (iD g.terms), .d (iD g.start), .d (rulesD false g.rules), .d (ints false w), .d (bools false nl), .mapv k]
abbrev cxH (g : Gram) (w : List Int) (nl : List Bool) (N : Cube) : Hp := [(1000, cxBx g w nl 1001), (1001, .mp (goodM N))]
def withinC (w : List Int) (i j : Int) : Bool := decide (0 ≤ i ∧ i ≤ j ∧ j ≤ w.length)
theorem within_simC {g : Gram} {w : List Int} {nl : List Bool} {N : Cube} (hw : w.length ≤ 100000) (i j : Int) : ACalls Try.prog 116 [.ptr 1000 0, I i, I j] (cxH g w nl N) (B (withinC w i j)) (cxH g w nl N) := by
  refine ACalls.intro (n := 23) Try.func116 rfl rfl (by simp) (by rfl) ?_
  simp only [argFr]
  by_cases h1 : 0 ≤ i
  · by_cases h2 : i ≤ j
    · by_cases h3 : j ≤ w.length
      · rw [show withinC w i j = true from decide_eq_true ⟨h1, h2, h3⟩]
        repeat (first | refine wk ?_ | refine s_field (hr := ?_))
        exact fin
      · rw [show withinC w i j = false from decide_eq_false (fun h => h3 h.2.2)]
        repeat (first | refine wk ?_ | refine s_field (hr := ?_))
        exact fin
    · rw [show withinC w i j = false from decide_eq_false (fun h => h2 h.2.1)]
      (repeat (first | refine wk ?_ | refine s_field (hr := ?_)))
      (repeat (first | refine wkz ?_ | refine s_field (hr := ?_)))
      repeat (first | refine wk ?_ | refine s_field (hr := ?_))
      exact fin
  · rw [show withinC w i j = false from decide_eq_false (fun h => h1 h.1)]
    (repeat (first | refine wk ?_ | refine s_field (hr := ?_)))
    (repeat (first | refine wkz ?_ | refine s_field (hr := ?_)))
    repeat (first | refine wk ?_ | refine s_field (hr := ?_))
    exact fin
theorem empty1_simC {g : Gram} {w : List Int} {nl : List Bool} {N : Cube} {s : Int} (hs : s < nl.length) : ACalls Try.prog 200 [I s, .ptr 1002 0] ((1002, .box 71 [.ptr 1000 0]) :: cxH g w nl N) (B (!has nl s)) ((1002, .box 71 [.ptr 1000 0]) :: cxH g w nl N) := by
  refine ACalls.intro (n := 16) Try.func200 rfl rfl (by simp) (by rfl) ?_
  simp only [argFr]
  by_cases h : s < 0
  · rw [show has nl s = false by unfold has; simp; intro; omega]
    (repeat (first | refine wk ?_ | refine s_field (hr := ?_)))
    (repeat (first | refine wkz ?_ | refine s_field (hr := ?_)))
    repeat (first | refine wk ?_ | refine s_field (hr := ?_))
    exact fin
  · obtain ⟨k, rfl⟩ : ∃ k : Nat, s = (k : Int) := ⟨s.toNat, by omega⟩
    have hk : k < nl.length := by omega
    rw [has_nat, List.getD_eq_getElem?_getD, List.getElem?_eq_getElem hk, Option.getD_some]
    repeat (first | refine wk ?_ | refine s_field (hr := ?_))
    exact fin
theorem empty_simC {g : Gram} {w : List Int} {nl : List Bool} {N : Cube} {t : Bool} {right : List Int} (hl : right.length ≤ 100000) (hs : ∀ s ∈ right, s < nl.length) : ACalls Try.prog 169 [.ptr 1000 0, .d (ints t right)] (cxH g w nl N) (B (inAll right nl)) (cxH g w nl N) := by
  have e : (!(right.any fun s => !has nl s)) = inAll right nl := by
    unfold inAll
    rw [List.not_any_eq_all_not]; simp
  have hcf := containsFunc_sim (t := t) (clos := 200) (caps := [.ptr 1002 0]) (H := (1002, .box 71 [.ptr 1000 0]) :: cxH g w nl N) (xs := right) (p := fun s => !has nl s) ⟨rfl, rfl, rfl, rfl, rfl, rfl, trivial⟩ (fun x hx => empty1_simC (hs x hx)) (by omega)
  rw [← e]
  generalize (right.any fun s => !has nl s) = b at *
  refine ACalls.intro (n := 9) Try.func169 rfl rfl (by simp) (by rfl) ?_
  simp only [argFr]
  repeat (first | refine wk ?_ | refine s_field (hr := ?_))
  --@
  refine s_call [(1002, 2)] (hA := hcf) (hr := ?_)
  repeat (first | refine wk ?_ | refine s_field (hr := ?_))
  exact fin
end Go.Proofs.Ytflgmalhpglklaa
