/-
  Sim: trees: Check, Own, words.
-/
import Derived.Test.YticnpbopelgmiaaTreeA
import Derived.Test.YticnpbopelgmiaaT1
import Derived.Test.YticnpbopelgmiaaS4
set_option linter.unusedVariables false
set_option linter.unusedSimpArgs false
set_option linter.unusedSectionVars false
namespace Go.Proofs.Yticnpbopelgmiaa
open Go.RowKit
set_option maxRecDepth 100000

theorem treeFault_sim {t u : Bool} {g : Gram} {x : Tree} {v : Int} (hl : g.rules.length ≤ 100000000) (hr : ∀ r ∈ g.rules, r.right.length ≤ 100000000) (hx : cnt x ≤ 100000000) :
    ACalls Try.prog 52 [.d (gramD t g), .d (treeA u x), I v] [] (.d (faultD (treeFault g x v))) [] := by
  refine ACalls.intro (n := 26) Try.func52 rfl rfl (by simp) (by rfl) ?_
  simp only [argFr]
  repeat (first | refine wk ?_)
  refine s_call [] (hA := gramFault_sim) (hr := ?_)
  by_cases h0 : (gramFault g).code = 0
  · rw [show treeFault g x v = if cnt x ≤ 400 then (if fits g x v = true then ⟨0, 0⟩ else ⟨13, -1⟩) else ⟨6, -1⟩ by rw [treeFault, if_pos h0]]
    repeat (first | refine wk ?_)
    refine s_call [] (hA := nodesOf1_sim (t := true) (x := x) (m := 400) hx (by omega)) (hr := ?_)
    by_cases h4 : cnt x ≤ 400
    · rw [if_pos h4, show capN 400 (cnt x) = cnt x by unfold capN; rw [if_pos h4]]
      repeat (first | refine wk ?_)
      refine s_call [] (hA := isTree_sim hl hr x hx (v := v)) (hr := ?_)
      cases hf : fits g x v with
      | true =>
        rw [if_pos rfl]
        repeat (first | refine wk ?_)
        exact fin
      | false =>
        rw [if_neg (by simp)]
        repeat (first | refine wk ?_)
        refine s_call [] (hA := f_sim) (hr := ?_)
        repeat (first | refine wk ?_)
        exact fin
    · rw [if_neg h4, show capN 400 (cnt x) = 401 by unfold capN; rw [if_neg h4]]
      repeat (first | refine wk ?_)
      refine s_call [] (hA := f_sim) (hr := ?_)
      repeat (first | refine wk ?_)
      exact fin
  · rw [show treeFault g x v = gramFault g by rw [treeFault, if_neg h0]]
    repeat (first | refine wk ?_)
    exact fin
/-! ### Words -/
theorem wordOf_sim {t u : Bool} {g : Gram} (hg : g.ok) : ∀ (x : Tree) (v : Int), fits g x v = true → cnt x ≤ 400 →
    ACalls Try.prog 53 [.d (gramD t g), .d (treeA u x)] [] (.own 900 (wordT g x).length) [(900, .row 3 1 ((wordT g x).map iD))] := by
  refine Tree.ind fun x ih v hf hx => ?_
  refine ACalls.intro (n := 47) Try.func53 rfl rfl (by simp) (by rfl) ?_
  simp only [argFr]
  obtain ⟨i, hi, e1, e2, e3, e4, e5⟩ := fits_parts hf
  have hk := kids_len hx
  have hlen := hg.rules
  have hrt := hg.right _ (List.getElem_mem hi)
  have hwl := wordT_le 10 hg.right x
  repeat (first | refine wk ?_)
  refine aw_nil 5 900 3 1 rfl rfl rfl ?_
  refine t_loop (X := Nat × Nat × List Int) (fun y => y.1 ≤ g.rules[i].right.length ∧ y.2.1 = (kids (g.rules[i].right.take y.1)).length ∧ wordT g x = y.2.2 ++ wordL g (g.rules[i].right.drop y.1) (x.kids.drop y.2.1))
    (fun y => [(8, I y.1), (7, .d (ints t g.rules[i].right)), (6, I y.2.1), (3, .ptr 3 0), (2, .ptr 2 0), (5, .own 900 y.2.2.length)])
    (fun y => [(2, gramBox t g), (3, .box 49 [.d (iD x.rule), .d (treesD u x.kids)]), (900, .row 3 1 (y.2.2.map iD))]) (fun y => g.rules[i].right.length - y.1) (0, 0, []) ⟨Nat.zero_le _, by simp [kids], by simpa using e5⟩ ?_
  rintro ⟨j, q, pre⟩ ⟨h1, h2, h3⟩
  dsimp only at h1 h2 h3 ⊢
  have hpl : (wordT g x).length = pre.length + (wordL g (g.rules[i].right.drop j) (x.kids.drop q)).length := by rw [h3, List.length_append]
  by_cases hlt : j < g.rules[i].right.length
  · have hlo := hg.lo _ (List.getElem_mem hi) _ (List.getElem_mem hlt)
    have hte := hg.terms
    by_cases hs : g.rules[i].right[j] < 0
    · rw [wordL_t hlt hs, List.length_cons] at hpl
      rw [wordL_t hlt hs] at h3
      have e := kids_snoc g.rules[i].right j hlt
      rw [kids_neg hs, List.append_nil] at e
      repeat (first | refine wk ?_)
      exact t_next (j + 1, q, pre ++ [-1 - g.rules[i].right[j]]) (a := ⟨by omega, by dsimp only; rw [e]; exact h2, by simpa using h3⟩) (b := by dsimp only; omega)
    · have hq : q < x.kids.length := by have := kids_take_le hlt hs; omega
      have hq2 : q < (kids g.rules[i].right).length := by omega
      have e := kids_snoc g.rules[i].right j hlt
      rw [kids_pos (by omega)] at e
      have hfk := fitss_at e4 hq hq2
      have hkl := kid_le hx hq
      rw [wordL_v hlt hs hq, List.length_append] at hpl
      rw [wordL_v hlt hs hq] at h3
      repeat (first | refine wk ?_)
      refine s_call [(900, 800)] (hA := ih x.kids[q] (List.getElem_mem hq) _ hfk hkl.1) (hr := ?_)
      repeat (first | refine wk ?_)
      exact t_next (j + 1, q + 1, pre ++ wordT g x.kids[q]) (a := ⟨by omega, by dsimp only; rw [e, List.length_append]; simp; omega, by simpa using h3⟩) (b := by dsimp only; omega)
  · rw [wordL_end hlt, List.append_nil] at h3
    repeat (first | refine wk ?_)
    rw [h3]
    exact fin
end Go.Proofs.Yticnpbopelgmiaa
