/-
  Sim: trees: counted, fitting, order.
-/
import Derived.Test.YtflgmalhpglklaaTreeP
set_option linter.unusedVariables false
set_option linter.unusedSimpArgs false
set_option linter.unusedSectionVars false
namespace Go.Proofs.Ytflgmalhpglklaa
open Go.RowKit
set_option maxRecDepth 100000

theorem kid_le {x : Tree} {N : Nat} (h : cnt x ≤ N) {i : Nat} (hi : i < x.kids.length) : cnt x.kids[i] ≤ N ∧ cnt x.kids[i] < cnt x := by
  have := cnts_mem (List.getElem_mem hi)
  rw [cnt_eq] at h
  have := cnt_eq x
  omega
theorem kids_len {x : Tree} {N : Nat} (h : cnt x ≤ N) : x.kids.length ≤ N := by
  have := cnts_len x.kids
  rw [cnt_eq] at h
  omega

/-! ### Counted -/
theorem size_sim {t : Bool} : ∀ (x : Tree), cnt x ≤ 100000000 → ∀ {m : Nat}, m ≤ 10000 → ACalls Try.prog 175 [.d (treeA t x), I m] [] (I (left_ m (cnt x))) [] := by
  refine Tree.ind fun x ih hN m hm => ?_
  refine ACalls.intro (n := 27) Try.func175 rfl rfl (by simp) (by rfl) ?_
  simp only [argFr]
  have hk := kids_len hN
  have hx := cnt_eq x
  repeat (first | refine wk ?_)
  refine t_loop (X := Nat) (fun i => i ≤ x.kids.length) (fun i => [(5, I i), (1, I (left_ m (1 + cnts (x.kids.take i)))), (2, .ptr 2 0)]) (fun _ => [(2, .box 84 [.d (iD x.rule), .d (treesD t x.kids)])]) (fun i => x.kids.length - i) 0 (Nat.zero_le _) ?_ (hf := ?_)
  rotate_left
  · refine ⟨.of rfl, int_eq rfl ?_, .of rfl, trivial⟩
    simp only [left_, List.take_zero, cnts]
    split <;> omega
  intro i hi
  by_cases hlt : i < x.kids.length
  · have hm1 := cnts_mem (List.getElem_mem hlt)
    have hm3 := cnts_take hlt
    have hm4 := cnts_drop hlt
    have hm5 : cnts x.kids = cnts (x.kids.take i) + cnts (x.kids.drop i) := by rw [← cnts_append, List.take_append_drop]
    by_cases hv : 1 + cnts (x.kids.take i) ≤ m
    · have e0 : left_ m (1 + cnts (x.kids.take i)) = ((m - (1 + cnts (x.kids.take i)) : Nat) : Int) := by unfold left_; rw [if_pos (by omega)]; omega
      rw [e0]
      repeat (first | refine wk ?_)
      refine s_call [] (hA := ih x.kids[i] (List.getElem_mem hlt) (by omega) (m := m - (1 + cnts (x.kids.take i))) (by omega)) (hr := ?_)
      have e : left_ ((m - (1 + cnts (x.kids.take i)) : Nat) : Int) (cnt x.kids[i]) = left_ m (1 + cnts (x.kids.take (i + 1))) := by
        unfold left_; rw [hm3]; split <;> split <;> omega
      rw [e]
      repeat (first | refine wk ?_)
      exact t_next (i + 1)
    · have e0 : left_ m (1 + cnts (x.kids.take i)) = -1 := by unfold left_; rw [if_neg (by omega)]
      have e1 : left_ m (cnt x) = -1 := by unfold left_; rw [if_neg (by omega)]
      rw [e0, e1]
      repeat (first | refine wk ?_)
      exact fin
  · rw [show x.kids.take i = x.kids from List.take_of_length_le (by omega), ← hx]
    repeat (first | refine wk ?_)
    exact fin

/-! ### Fitting -/
theorem fits_no {g : Gram} {x : Tree} {v : Int} (h : ¬ (0 ≤ x.rule ∧ x.rule < g.rules.length)) : fits g x v = false := by
  rw [fits_eq]
  by_cases h0 : 0 ≤ x.rule
  · rw [if_pos h0, List.getElem?_eq_none (by omega)]
  · rw [if_neg h0]
theorem fits_yes {g : Gram} {x : Tree} {v : Int} {i : Nat} (hi : i < g.rules.length) (e : x.rule = (i : Int)) : fits g x v = (decide (g.rules[i].left = v) && (decide ((kids g.rules[i].right).length = x.kids.length) && fitss g x.kids (kids g.rules[i].right))) := by
  rw [fits_eq, if_pos (by omega), e, Int.toNat_natCast, List.getElem?_eq_getElem hi]
set_option maxHeartbeats 4000000 in
theorem fits_sim {t u : Bool} {g : Gram} (hl : g.rules.length ≤ 100000000) (hr : ∀ r ∈ g.rules, r.right.length ≤ 100000000) : ∀ (x : Tree), cnt x ≤ 100000000 → ∀ {v : Int}, ACalls Try.prog 176 [.d (gramD t g), .d (treeA u x), I v] [] (B (fits g x v)) [] := by
  refine Tree.ind fun x ih hN v => ?_
  refine ACalls.intro (n := 62) Try.func176 rfl rfl (by simp) (by rfl) ?_
  simp only [argFr]
  have hk := kids_len hN
  by_cases h0 : x.rule < 0
  · rw [fits_no (by omega)]
    repeat (first | refine wk ?_)
    exact fin
  by_cases h1 : (g.rules.length : Int) ≤ x.rule
  · rw [fits_no (by omega)]
    repeat (first | refine wk ?_)
    exact fin
  obtain ⟨i, hi⟩ : ∃ i : Nat, x.rule = i := ⟨x.rule.toNat, by omega⟩
  have hlt : i < g.rules.length := by omega
  rw [fits_yes hlt hi]
  have hrk := hr _ (List.getElem_mem hlt)
  have hkl := kids_le g.rules[i].right
  by_cases h2 : g.rules[i].left = v
  rotate_left
  · rw [decide_eq_false h2, Bool.false_and]
    repeat (first | refine wk ?_)
    exact fin
  rw [decide_eq_true h2, Bool.true_and]
  repeat (first | refine wk ?_)
  refine s_call [(3, 900)] (hA := kids_sim) (hr := ?_)
  by_cases h3 : ((kids g.rules[i].right).length : Int) = x.kids.length
  · rw [decide_eq_true (by omega), Bool.true_and]
    repeat (first | refine wk ?_)
    refine t_loop (X := Nat) (fun j => j ≤ x.kids.length ∧ fitss g x.kids (kids g.rules[i].right) = fitss g (x.kids.drop j) ((kids g.rules[i].right).drop j)) (fun j => [(48, I j), (47, I x.kids.length), (46, .d (treesD u x.kids)), (7, .own 900 (kids g.rules[i].right).length), (4, .ptr 4 0), (3, .ptr 3 0)]) (fun _ => [(3, gramBox t g), (4, .box 84 [.d (iD x.rule), .d (treesD u x.kids)]), (900, .row 3 1 ((kids g.rules[i].right).map iD))]) (fun j => x.kids.length - j) 0 ⟨Nat.zero_le _, rfl⟩ ?_
    rintro j ⟨hj, hq⟩
    by_cases hjl : j < x.kids.length
    · have hjl' : j < (kids g.rules[i].right).length := by omega
      have hs := fitss_drop (g := g) (k := x.kids) (vs := kids g.rules[i].right) hjl hjl'
      have hkc := kid_le hN hjl
      repeat (first | refine wk ?_)
      refine s_call [] (hA := ih x.kids[j] (List.getElem_mem hjl) hkc.1 (v := (kids g.rules[i].right)[j])) (hr := ?_)
      cases hf : fits g x.kids[j] (kids g.rules[i].right)[j] with
      | true =>
        rw [hf, Bool.true_and] at hs
        repeat (first | refine wk ?_)
        exact t_next (j + 1) (a := ⟨by omega, hq.trans hs⟩)
      | false =>
        rw [hf, Bool.false_and] at hs
        rw [hq, hs]
        repeat (first | refine wk ?_)
        exact fin
    · rw [hq, fitss_end hjl]
      repeat (first | refine wk ?_)
      exact fin
  · rw [decide_eq_false (by omega), Bool.false_and]
    repeat (first | refine wk ?_)
    exact fin

/-! ### Order -/
theorem orderOf_sim {t u : Bool} : ∀ (x : Tree), cnt x ≤ 100000000 → ∀ (y : Tree), cnt y ≤ 100000000 → ACalls Try.prog 133 [.d (treeA t x), .d (treeA u y)] [] (I (ordT x y)) [] := by
  refine Tree.ind fun x ih hx y hy => ?_
  refine ACalls.intro (n := 59) Try.func133 rfl rfl (by simp) (by rfl) ?_
  simp only [argFr]
  rw [ordT_eq]
  have hk := kids_len hx
  have hl := kids_len hy
  by_cases h1 : x.rule < y.rule
  · rw [if_pos h1]
    repeat (first | refine wk ?_)
    exact fin
  by_cases h2 : y.rule < x.rule
  · rw [if_neg h1, if_pos h2]
    repeat (first | refine wk ?_)
    exact fin
  rw [if_neg h1, if_neg h2]
  repeat (first | refine wk ?_)
  refine t_loop (X := Nat) (fun i => i ≤ x.kids.length ∧ i ≤ y.kids.length ∧ ordL x.kids y.kids = ordL (x.kids.drop i) (y.kids.drop i)) (fun i => [(5, I i), (3, .ptr 3 0), (2, .ptr 2 0)]) (fun _ => [(2, .box 84 [.d (iD x.rule), .d (treesD t x.kids)]), (3, .box 84 [.d (iD y.rule), .d (treesD u y.kids)])]) (fun i => x.kids.length - i) 0 ⟨Nat.zero_le _, Nat.zero_le _, rfl⟩ ?_
  rintro i ⟨h1, h2, h3⟩
  by_cases hlt : i < x.kids.length
  · by_cases hlt' : i < y.kids.length
    · have hs := ordL_step hlt hlt'
      repeat (first | refine wk ?_)
      refine s_call [] (hA := ih x.kids[i] (List.getElem_mem hlt) (kid_le hx hlt).1 y.kids[i] (kid_le hy hlt').1) (hr := ?_)
      by_cases h0 : ordT x.kids[i] y.kids[i] = 0
      · rw [if_pos h0] at hs
        repeat (first | refine wk ?_)
        exact t_next (i + 1) (a := ⟨by omega, by omega, h3.trans hs⟩)
      · rw [if_neg h0] at hs
        rw [h3, hs]
        repeat (first | refine wk ?_)
        exact fin
    · rw [h3, ordL_gt hlt hlt']
      repeat (first | refine wk ?_)
      exact fin
  · by_cases hlt' : i < y.kids.length
    · rw [h3, ordL_lt hlt hlt']
      repeat (first | refine wk ?_)
      exact fin
    · rw [h3, ordL_end hlt hlt']
      repeat (first | refine wk ?_)
      exact fin
theorem sameTree_sim {t u : Bool} {x y : Tree} (hx : cnt x ≤ 100000000 := by ((try simp only [List.length_map, List.length_append, List.length_cons, List.length_nil, List.length_replicate, List.length_set, List.length_take, List.length_drop]); first | omega | assumption)) (hy : cnt y ≤ 100000000 := by ((try simp only [List.length_map, List.length_append, List.length_cons, List.length_nil, List.length_replicate, List.length_set, List.length_take, List.length_drop]); first | omega | assumption)) : ACalls Try.prog 69 [.d (treeA t x), .d (treeA u y)] [] (B (decide (ordT x y = 0))) [] := by
  refine ACalls.intro (n := 9) Try.func69 rfl rfl (by simp) (by rfl) ?_
  simp only [argFr]
  repeat (first | refine wk ?_)
  refine s_call [] (hA := orderOf_sim x hx y hy) (hr := ?_)
  repeat (first | refine wk ?_)
  exact fin
end Go.Proofs.Ytflgmalhpglklaa
