/-
  Sim: SameGram, Clone, OwnGram, bare, ownInts.
-/
import Derived.Test.YticnpbopelgmiaaG1
import Derived.Test.YticnpbopelgmiaaS5
set_option linter.unusedVariables false
set_option linter.unusedSimpArgs false
set_option linter.unusedSectionVars false
namespace Go.Proofs.Yticnpbopelgmiaa
open Go.RowKit
set_option maxRecDepth 100000

abbrev nilT : D := .raw (.slice none 0 0)
theorem rule_eq {r q : Rule} (h1 : r.left = q.left) (h2 : r.right = q.right) : r = q := by cases r; cases q; simp_all
theorem gram_eq {a b : Gram} (h1 : a.vars = b.vars) (h2 : a.terms = b.terms) (h3 : a.start = b.start) (h4 : a.rules = b.rules) : a = b := by cases a; cases b; simp_all
set_option maxHeartbeats 4000000 in
theorem sameGram_sim {t u : Bool} {a b : Gram} (ha : a.fit) (hb : b.fit) : ACalls Try.prog 19 [.d (gramD t a), .d (gramD u b)] [] (B (decide (a = b))) [] := by
  refine ACalls.intro (n := 70) Try.func19 rfl rfl (by simp) (by rfl) ?_
  simp only [argFr]
  have hla := ha.rules
  have hlb := hb.rules
  by_cases h1 : a.vars = b.vars
  rotate_left
  · rw [decide_eq_false (fun e => h1 (by rw [e]))]
    repeat (first | refine wk ?_ | refine s_field (hr := ?_))
    exact fin
  by_cases h2 : a.terms = b.terms
  rotate_left
  · rw [decide_eq_false (fun e => h2 (by rw [e]))]
    repeat (first | refine wk ?_ | refine s_field (hr := ?_))
    exact fin
  by_cases h3 : a.start = b.start
  rotate_left
  · rw [decide_eq_false (fun e => h3 (by rw [e]))]
    repeat (first | refine wk ?_ | refine s_field (hr := ?_))
    exact fin
  by_cases h4 : (a.rules.length : Int) = b.rules.length
  rotate_left
  · rw [decide_eq_false (fun e => h4 (by rw [e]))]
    repeat (first | refine wk ?_ | refine s_field (hr := ?_))
    exact fin
  repeat (first | refine wk ?_ | refine s_field (hr := ?_))
  refine t_loop (X := Nat) (fun k => k ≤ a.rules.length ∧ ∀ j, j < k → ∀ (hx : j < a.rules.length) (hy : j < b.rules.length), a.rules[j] = b.rules[j]) (fun k => [(5, I k), (3, .ptr 3 0), (2, .ptr 2 0)]) (fun _ => [(2, gramBox t a), (3, gramBox u b)]) (fun k => a.rules.length - k) 0
    ⟨Nat.zero_le _, by omega⟩ ?_
  rintro k ⟨hk, hp⟩
  by_cases hlt : k < a.rules.length
  · have hlt' : k < b.rules.length := by omega
    have hra := ha.right _ (List.getElem_mem hlt)
    have hrb := hb.right _ (List.getElem_mem hlt')
    by_cases h5 : a.rules[k].left = b.rules[k].left
    · repeat (first | refine wk ?_ | refine s_field (hr := ?_))
      refine s_call [] (hA := sameInts_sim) (hr := ?_)
      by_cases h6 : a.rules[k].right = b.rules[k].right
      · rw [decide_eq_true h6]
        repeat (first | refine wk ?_ | refine s_field (hr := ?_))
        exact t_next (k + 1) (a := ⟨by omega, upto_succ hp (fun _ _ => rule_eq h5 h6)⟩)
      · have e : decide (a = b) = false := decide_eq_false (fun e => h6 (by subst e; rfl))
        rw [decide_eq_false h6, e]
        repeat (first | refine wk ?_ | refine s_field (hr := ?_))
        exact fin
    · have e : decide (a = b) = false := decide_eq_false (fun e => h5 (by subst e; rfl))
      rw [e]
      repeat (first | refine wk ?_ | refine s_field (hr := ?_))
      exact fin
  · rw [decide_eq_true (gram_eq h1 h2 h3 (List.ext_getElem (by omega) (fun j g1 g2 => hp j (by omega) g1 g2)))]
    repeat (first | refine wk ?_ | refine s_field (hr := ?_))
    exact fin
theorem clone_sim {t : Bool} {xs : List Int} (hl : xs.length ≤ 100000000 := by ((try simp only [List.length_map, List.length_append, List.length_cons, List.length_nil, List.length_replicate, List.length_set, List.length_take, List.length_drop]); first | omega | assumption)) :
    ACalls Try.prog 57 [.d (ints t xs)] [] (.own 5 xs.length) [(5, .row 3 1 (xs.map iD))] := by
  refine ACalls.intro (n := 8) Try.func57 rfl rfl (by simp) (by rfl) ?_
  simp only [argFr]
  refine aw_seq ?_
  refine t_reg ?_
  refine s_assign (hr := ?_)
  refine dops_end ?_
  refine andThen_n ?_
  refine aw_seq ?_
  refine aw_seq ?_
  refine t_eqNil ?_ ?_ undInts
  · intro hx
    have hx' : xs = [] := by simpa using hx
    subst hx'
    repeat (first | refine wkr ?_ | refine s_field (hr := ?_))
    refine aw_nil 2 5 3 1 rfl rfl rfl ?_
    repeat (first | refine wk ?_ | refine s_field (hr := ?_))
    exact fin
  · repeat (first | refine wk ?_ | refine s_field (hr := ?_))
    exact finx
end Go.Proofs.Yticnpbopelgmiaa
