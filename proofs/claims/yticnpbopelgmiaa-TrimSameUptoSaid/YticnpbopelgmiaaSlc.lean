/-
  Sim: slices.Index, slices.Contains of whole numbers.
-/
import Derived.Test.YticnpbopelgmiaaG1
set_option linter.unusedVariables false
set_option linter.unusedSimpArgs false
set_option linter.unusedSectionVars false
namespace Go.Proofs.Yticnpbopelgmiaa
open Go.RowKit
set_option maxRecDepth 100000

theorem index_sim {t : Bool} {xs : List Int} {v : Int} (hl : xs.length ≤ 100000000 := by ((try simp only [List.length_map, List.length_append, List.length_cons, List.length_nil, List.length_replicate, List.length_set, List.length_take, List.length_drop]); first | omega | assumption)) :
    ACalls Try.prog 79 [.d (ints t xs), I v] [] (I (idxR (fun y => decide (v = y)) xs 0)) [] := by
  refine ACalls.intro (n := 19) Try.func79 rfl rfl (by simp) (by rfl) ?_
  simp only [argFr]
  repeat (first | refine wk ?_)
  refine t_loop (X := Nat) (fun k => k ≤ xs.length ∧ idxR (fun y => decide (v = y)) xs 0 = idxR (fun y => decide (v = y)) (xs.drop k) k) (fun k => [(8, I k), (7, I xs.length), (1, I v), (0, .d (ints t xs))]) (fun _ => []) (fun k => xs.length - k) 0 ⟨Nat.zero_le _, rfl⟩ ?_
  rintro k ⟨hk, hp⟩
  by_cases hlt : k < xs.length
  · have hs := idxR_step (p := fun y => decide (v = y)) hlt
    by_cases hv : v = xs[k]
    · rw [decide_eq_true hv, cond_true] at hs
      rw [hp, hs]
      repeat (first | refine wk ?_)
      exact fin
    · rw [decide_eq_false hv, cond_false] at hs
      repeat (first | refine wk ?_)
      exact t_next (k + 1) (a := ⟨by omega, hp.trans hs⟩)
  · rw [hp, idxR_end hlt]
    repeat (first | refine wk ?_)
    exact fin
theorem contains_sim {t : Bool} {xs : List Int} {v : Int} (hl : xs.length ≤ 100000000 := by ((try simp only [List.length_map, List.length_append, List.length_cons, List.length_nil, List.length_replicate, List.length_set, List.length_take, List.length_drop]); first | omega | assumption)) :
    ACalls Try.prog 78 [.d (ints t xs), I v] [] (B (xs.any (fun y => decide (v = y)))) [] := by
  refine ACalls.intro (n := 9) Try.func78 rfl rfl (by simp) (by rfl) ?_
  simp only [argFr]
  repeat (first | refine wk ?_)
  refine s_call [] (hA := index_sim) (hr := ?_)
  repeat (first | refine wk ?_)
  rw [← idxR_any (fun y => decide (v = y)) xs 0]
  exact fin
end Go.Proofs.Yticnpbopelgmiaa
