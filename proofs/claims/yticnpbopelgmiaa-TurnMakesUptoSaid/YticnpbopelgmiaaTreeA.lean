/-
  Sim: trees: counted, fitting, order.
-/
import Derived.Test.YticnpbopelgmiaaQGramC
set_option linter.unusedVariables false
set_option linter.unusedSimpArgs false
set_option linter.unusedSectionVars false
namespace Go.Proofs.Yticnpbopelgmiaa
open Go.RowKit
set_option maxRecDepth 100000

theorem kid_le {x : Tree} {N : Nat} (h : cnt x ≤ N) {i : Nat} (hi : i < x.kids.length) : cnt x.kids[i] ≤ N ∧ cnt x.kids[i] < cnt x := by
  have := cnts_mem (List.getElem_mem hi)
  rw [cnt_eq] at h
  have := cnt_eq x
  omega
theorem kids_len {x : Tree} {N : Nat} (h : cnt x ≤ N) : x.kids.length ≤ N := by
  have := cnts_len x.kids
  rw [cnt_eq] at h
  omega

/-! ### Counted -/
theorem nodesOf_gen : ∀ (n : Nat) {t : Bool} {l : List Tree} {m : Nat}, cnts l < n → cnts l ≤ 100000000 → m ≤ 10000 → ACalls Try.prog 108 [.d (treesD t l), I m] [] (I (capN m (cnts l))) [] := by
  intro n
  induction n with
  | zero => intro t l m h; omega
  | succ n ih =>
  intro t l m hn hN hm
  have hl := Nat.le_trans (cnts_len l) hN
  refine ACalls.intro (n := 34) Try.func108 rfl rfl (by simp) (by rfl) ?_
  simp only [argFr]
  repeat (first | refine wk ?_)
  refine t_loop (X := Nat × Nat) (fun x => x.1 ≤ l.length ∧ x.2 ≤ 2 * m + 2 ∧ (x.2 = cnts (l.take x.1) ∨ (m < x.2 ∧ m < cnts l))) (fun x => [(6, I x.1), (5, I x.2), (1, I m), (0, .d (treesD t l))]) (fun _ => []) (fun x => l.length - x.1) (0, 0) ⟨Nat.zero_le _, by simp, .inl (by simp [cnts])⟩ ?_
  rintro ⟨i, v⟩ ⟨h1, h2, h3⟩
  dsimp only at h1 h2 h3 ⊢
  by_cases hlt : i < l.length
  · have hm1 := cnts_mem (List.getElem_mem hlt)
    have hm2 := cnt_eq l[i]
    have hm3 := cnts_take hlt
    have hm4 := cnts_drop hlt
    have hm5 : cnts l = cnts (l.take i) + cnts (l.drop i) := by rw [← cnts_append, List.take_append_drop]
    by_cases hv : (v : Int) ≤ m
    · repeat (first | refine wk ?_)
      refine s_call [] (hA := ih (t := t) (l := l[i].kids) (m := m) (by omega) (by omega) hm) (hr := ?_)
      have hc : capN m (cnts l[i].kids) ≤ m + 1 := by unfold capN; split <;> omega
      repeat (first | refine wk ?_)
      refine t_next (i + 1, v + (1 + capN m (cnts l[i].kids))) (a := ⟨by omega, by dsimp only; omega, ?_⟩) (b := by dsimp only; omega)
      dsimp only
      unfold capN
      split <;> omega
    · have hgt : m < cnts l := by omega
      have e : ((capN m (cnts l) : Nat) : Int) = m + 1 := by unfold capN; rw [if_neg (by omega)]; omega
      repeat (first | refine wk ?_)
      rw [e]
      exact fin
  · have hz : l.take i = l := List.take_of_length_le (by omega)
    rw [hz] at h3
    by_cases hv : (v : Int) ≤ m
    · have e : ((capN m (cnts l) : Nat) : Int) = v := by unfold capN; rw [if_pos (by omega)]; omega
      repeat (first | refine wk ?_)
      rw [e]
      exact fin
    · have e : ((capN m (cnts l) : Nat) : Int) = m + 1 := by unfold capN; rw [if_neg (by omega)]; omega
      repeat (first | refine wk ?_)
      rw [e]
      exact fin
theorem nodesOf1_sim {t : Bool} {x : Tree} {m : Nat} (hN : cnt x ≤ 100000000) (hm : m ≤ 10000) : ACalls Try.prog 108 [.d (.sl t 2 [treeA t x]), I m] [] (I (capN m (cnt x))) [] := by
  have := nodesOf_gen _ (t := t) (l := [x]) (m := m) (Nat.lt_succ_self _) (by simpa [cnts] using hN) hm
  simpa [cnts, treesD, treeA_eq] using this
/-! ### Fitting -/
theorem fits_no {g : Gram} {x : Tree} {v : Int} (h : ¬ (0 ≤ x.rule ∧ x.rule < g.rules.length)) : fits g x v = false := by
  rw [fits_eq]
  by_cases h0 : 0 ≤ x.rule
  · rw [if_pos h0, List.getElem?_eq_none (by omega)]
  · rw [if_neg h0]
theorem fits_yes {g : Gram} {x : Tree} {v : Int} {i : Nat} (hi : i < g.rules.length) (e : x.rule = (i : Int)) : fits g x v = (decide (g.rules[i].left = v) && (decide ((kids g.rules[i].right).length = x.kids.length) && fitss g x.kids (kids g.rules[i].right))) := by
  rw [fits_eq, if_pos (by omega), e, Int.toNat_natCast, List.getElem?_eq_getElem hi]
set_option maxHeartbeats 4000000 in
theorem isTree_sim {t u : Bool} {g : Gram} (hl : g.rules.length ≤ 100000000) (hr : ∀ r ∈ g.rules, r.right.length ≤ 100000000) : ∀ (x : Tree), cnt x ≤ 100000000 → ∀ {v : Int}, ACalls Try.prog 109 [.d (gramD t g), .d (treeA u x), I v] [] (B (fits g x v)) [] := by
  refine Tree.ind fun x ih hN v => ?_
  refine ACalls.intro (n := 63) Try.func109 rfl rfl (by simp) (by rfl) ?_
  simp only [argFr]
  have hk := kids_len hN
  by_cases h0 : x.rule < 0
  · rw [fits_no (by omega)]
    repeat (first | refine wk ?_)
    exact fin
  by_cases h1 : (g.rules.length : Int) ≤ x.rule
  · rw [fits_no (by omega)]
    repeat (first | refine wk ?_)
    exact fin
  obtain ⟨i, hi⟩ : ∃ i : Nat, x.rule = i := ⟨x.rule.toNat, by omega⟩
  have hlt : i < g.rules.length := by omega
  rw [fits_yes hlt hi]
  have hrk := hr _ (List.getElem_mem hlt)
  have hkl := kids_le g.rules[i].right
  by_cases h2 : g.rules[i].left = v
  rotate_left
  · rw [decide_eq_false h2, Bool.false_and]
    repeat (first | refine wk ?_)
    exact fin
  rw [decide_eq_true h2, Bool.true_and]
  repeat (first | refine wk ?_)
  refine s_call [(3, 900)] (hA := kidsOf_sim) (hr := ?_)
  by_cases h3 : ((kids g.rules[i].right).length : Int) = x.kids.length
  · rw [decide_eq_true (by omega), Bool.true_and]
    repeat (first | refine wk ?_)
    refine t_loop (X := Nat) (fun j => j ≤ x.kids.length ∧ fitss g x.kids (kids g.rules[i].right) = fitss g (x.kids.drop j) ((kids g.rules[i].right).drop j)) (fun j => [(8, I j), (7, .own 900 (kids g.rules[i].right).length), (4, .ptr 4 0), (3, .ptr 3 0)]) (fun _ => [(3, gramBox t g), (4, .box 49 [.d (iD x.rule), .d (treesD u x.kids)]), (900, .row 3 1 ((kids g.rules[i].right).map iD))]) (fun j => x.kids.length - j) 0 ⟨Nat.zero_le _, rfl⟩ ?_
    rintro j ⟨hj, hq⟩
    by_cases hjl : j < x.kids.length
    · have hjl' : j < (kids g.rules[i].right).length := by omega
      have hs := fitss_drop (g := g) (k := x.kids) (vs := kids g.rules[i].right) hjl hjl'
      have hkc := kid_le hN hjl
      repeat (first | refine wk ?_)
      refine s_call [] (hA := ih x.kids[j] (List.getElem_mem hjl) hkc.1 (v := (kids g.rules[i].right)[j])) (hr := ?_)
      cases hf : fits g x.kids[j] (kids g.rules[i].right)[j] with
      | true =>
        rw [hf, Bool.true_and] at hs
        repeat (first | refine wk ?_)
        exact t_next (j + 1) (a := ⟨by omega, hq.trans hs⟩)
      | false =>
        rw [hf, Bool.false_and] at hs
        rw [hq, hs]
        repeat (first | refine wk ?_)
        exact fin
    · rw [hq, fitss_end hjl]
      repeat (first | refine wk ?_)
      exact fin
  · rw [decide_eq_false (by omega), Bool.false_and]
    repeat (first | refine wk ?_)
    exact fin
/-! ### Order -/
theorem orderOf_sim {t u : Bool} : ∀ (x : Tree), cnt x ≤ 100000000 → ∀ (y : Tree), cnt y ≤ 100000000 → ACalls Try.prog 135 [.d (treeA t x), .d (treeA u y)] [] (I (ordT x y)) [] := by
  refine Tree.ind fun x ih hx y hy => ?_
  refine ACalls.intro (n := 59) Try.func135 rfl rfl (by simp) (by rfl) ?_
  simp only [argFr]
  rw [ordT_eq]
  have hk := kids_len hx
  have hl := kids_len hy
  by_cases h1 : x.rule < y.rule
  · rw [if_pos h1]
    repeat (first | refine wk ?_)
    exact fin
  by_cases h2 : y.rule < x.rule
  · rw [if_neg h1, if_pos h2]
    repeat (first | refine wk ?_)
    exact fin
  rw [if_neg h1, if_neg h2]
  repeat (first | refine wk ?_)
  refine t_loop (X := Nat) (fun i => i ≤ x.kids.length ∧ i ≤ y.kids.length ∧ ordL x.kids y.kids = ordL (x.kids.drop i) (y.kids.drop i)) (fun i => [(5, I i), (3, .ptr 3 0), (2, .ptr 2 0)]) (fun _ => [(2, .box 49 [.d (iD x.rule), .d (treesD t x.kids)]), (3, .box 49 [.d (iD y.rule), .d (treesD u y.kids)])]) (fun i => x.kids.length - i) 0 ⟨Nat.zero_le _, Nat.zero_le _, rfl⟩ ?_
  rintro i ⟨h1, h2, h3⟩
  by_cases hlt : i < x.kids.length
  · by_cases hlt' : i < y.kids.length
    · have hs := ordL_step hlt hlt'
      repeat (first | refine wk ?_)
      refine s_call [] (hA := ih x.kids[i] (List.getElem_mem hlt) (kid_le hx hlt).1 y.kids[i] (kid_le hy hlt').1) (hr := ?_)
      by_cases h0 : ordT x.kids[i] y.kids[i] = 0
      · rw [if_pos h0] at hs
        repeat (first | refine wk ?_)
        exact t_next (i + 1) (a := ⟨by omega, by omega, h3.trans hs⟩)
      · rw [if_neg h0] at hs
        rw [h3, hs]
        repeat (first | refine wk ?_)
        exact fin
    · rw [h3, ordL_gt hlt hlt']
      repeat (first | refine wk ?_)
      exact fin
  · by_cases hlt' : i < y.kids.length
    · rw [h3, ordL_lt hlt hlt']
      repeat (first | refine wk ?_)
      exact fin
    · rw [h3, ordL_end hlt hlt']
      repeat (first | refine wk ?_)
      exact fin
theorem sameTree_sim {t u : Bool} {x y : Tree} (hx : cnt x ≤ 100000000 := by ((try simp only [List.length_map, List.length_append, List.length_cons, List.length_nil, List.length_replicate, List.length_set, List.length_take, List.length_drop]); first | omega | assumption)) (hy : cnt y ≤ 100000000 := by ((try simp only [List.length_map, List.length_append, List.length_cons, List.length_nil, List.length_replicate, List.length_set, List.length_take, List.length_drop]); first | omega | assumption)) : ACalls Try.prog 107 [.d (treeA t x), .d (treeA u y)] [] (B (decide (ordT x y = 0))) [] := by
  refine ACalls.intro (n := 9) Try.func107 rfl rfl (by simp) (by rfl) ?_
  simp only [argFr]
  repeat (first | refine wk ?_)
  refine s_call [] (hA := orderOf_sim x hx y hy) (hr := ?_)
  repeat (first | refine wk ?_)
  exact fin
end Go.Proofs.Yticnpbopelgmiaa
