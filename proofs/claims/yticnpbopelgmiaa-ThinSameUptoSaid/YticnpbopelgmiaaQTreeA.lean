/-
  Sim: trees: counted, fitting, order. Sim: trees: Check, Own, words. Sim: templates: counted, which kids they use, the same, Plain, Node. Sim: templates: which kids they use; Node; steps that are the same.
-/
import Derived.Test.YticnpbopelgmiaaQG1
import Derived.Test.YticnpbopelgmiaaT1
import Derived.Test.YticnpbopelgmiaaS4
import Derived.Test.YticnpbopelgmiaaP1
set_option linter.unusedVariables false
set_option linter.unusedSimpArgs false
set_option linter.unusedSectionVars false
namespace Go.Proofs.Yticnpbopelgmiaa
open Go.RowKit
set_option maxRecDepth 100000

theorem kid_le {x : Tree} {N : Nat} (h : cnt x ≤ N) {i : Nat} (hi : i < x.kids.length) : cnt x.kids[i] ≤ N ∧ cnt x.kids[i] < cnt x := by
  have := cnts_mem (List.getElem_mem hi)
  rw [cnt_eq] at h
  have := cnt_eq x
  omega
theorem kids_len {x : Tree} {N : Nat} (h : cnt x ≤ N) : x.kids.length ≤ N := by
  have := cnts_len x.kids
  rw [cnt_eq] at h
  omega

/-! ### Counted -/
theorem size_sim {t : Bool} : ∀ (x : Tree), cnt x ≤ 100000000 → ∀ {m : Nat}, m ≤ 10000 → ACalls Try.prog 166 [.d (treeA t x), I m] [] (I (left_ m (cnt x))) [] := by
  refine Tree.ind fun x ih hN m hm => ?_
  refine ACalls.intro (n := 27) Try.func166 rfl rfl (by simp) (by rfl) ?_
  simp only [argFr]
  have hk := kids_len hN
  have hx := cnt_eq x
  repeat (first | refine wk ?_)
  refine t_loop (X := Nat) (fun i => i ≤ x.kids.length) (fun i => [(5, I i), (1, I (left_ m (1 + cnts (x.kids.take i)))), (2, .ptr 2 0)]) (fun _ => [(2, .box 49 [.d (iD x.rule), .d (treesD t x.kids)])]) (fun i => x.kids.length - i) 0 (Nat.zero_le _) ?_ (hf := ?_)
  rotate_left
  · refine ⟨.of rfl, int_eq rfl ?_, .of rfl, trivial⟩
    simp only [left_, List.take_zero, cnts]
    split <;> omega
  intro i hi
  by_cases hlt : i < x.kids.length
  · have hm1 := cnts_mem (List.getElem_mem hlt)
    have hm3 := cnts_take hlt
    have hm4 := cnts_drop hlt
    have hm5 : cnts x.kids = cnts (x.kids.take i) + cnts (x.kids.drop i) := by rw [← cnts_append, List.take_append_drop]
    by_cases hv : 1 + cnts (x.kids.take i) ≤ m
    · have e0 : left_ m (1 + cnts (x.kids.take i)) = ((m - (1 + cnts (x.kids.take i)) : Nat) : Int) := by unfold left_; rw [if_pos (by omega)]; omega
      rw [e0]
      repeat (first | refine wk ?_)
      refine s_call [] (hA := ih x.kids[i] (List.getElem_mem hlt) (by omega) (m := m - (1 + cnts (x.kids.take i))) (by omega)) (hr := ?_)
      have e : left_ ((m - (1 + cnts (x.kids.take i)) : Nat) : Int) (cnt x.kids[i]) = left_ m (1 + cnts (x.kids.take (i + 1))) := by
        unfold left_; rw [hm3]; split <;> split <;> omega
      rw [e]
      repeat (first | refine wk ?_)
      exact t_next (i + 1)
    · have e0 : left_ m (1 + cnts (x.kids.take i)) = -1 := by unfold left_; rw [if_neg (by omega)]
      have e1 : left_ m (cnt x) = -1 := by unfold left_; rw [if_neg (by omega)]
      rw [e0, e1]
      repeat (first | refine wk ?_)
      exact fin
  · rw [show x.kids.take i = x.kids from List.take_of_length_le (by omega), ← hx]
    repeat (first | refine wk ?_)
    exact fin

/-! ### Fitting -/
theorem fits_no {g : Gram} {x : Tree} {v : Int} (h : ¬ (0 ≤ x.rule ∧ x.rule < g.rules.length)) : fits g x v = false := by
  rw [fits_eq]
  by_cases h0 : 0 ≤ x.rule
  · rw [if_pos h0, List.getElem?_eq_none (by omega)]
  · rw [if_neg h0]
theorem fits_yes {g : Gram} {x : Tree} {v : Int} {i : Nat} (hi : i < g.rules.length) (e : x.rule = (i : Int)) : fits g x v = (decide (g.rules[i].left = v) && (decide ((kids g.rules[i].right).length = x.kids.length) && fitss g x.kids (kids g.rules[i].right))) := by
  rw [fits_eq, if_pos (by omega), e, Int.toNat_natCast, List.getElem?_eq_getElem hi]
set_option maxHeartbeats 4000000 in
theorem fits_sim {t u : Bool} {g : Gram} (hl : g.rules.length ≤ 100000000) (hr : ∀ r ∈ g.rules, r.right.length ≤ 100000000) : ∀ (x : Tree), cnt x ≤ 100000000 → ∀ {v : Int}, ACalls Try.prog 167 [.d (gramD t g), .d (treeA u x), I v] [] (B (fits g x v)) [] := by
  refine Tree.ind fun x ih hN v => ?_
  refine ACalls.intro (n := 62) Try.func167 rfl rfl (by simp) (by rfl) ?_
  simp only [argFr]
  have hk := kids_len hN
  by_cases h0 : x.rule < 0
  · rw [fits_no (by omega)]
    repeat (first | refine wk ?_)
    exact fin
  by_cases h1 : (g.rules.length : Int) ≤ x.rule
  · rw [fits_no (by omega)]
    repeat (first | refine wk ?_)
    exact fin
  obtain ⟨i, hi⟩ : ∃ i : Nat, x.rule = i := ⟨x.rule.toNat, by omega⟩
  have hlt : i < g.rules.length := by omega
  rw [fits_yes hlt hi]
  have hrk := hr _ (List.getElem_mem hlt)
  have hkl := kids_le g.rules[i].right
  by_cases h2 : g.rules[i].left = v
  rotate_left
  · rw [decide_eq_false h2, Bool.false_and]
    repeat (first | refine wk ?_)
    exact fin
  rw [decide_eq_true h2, Bool.true_and]
  repeat (first | refine wk ?_)
  refine s_call [(3, 900)] (hA := kids_sim) (hr := ?_)
  by_cases h3 : ((kids g.rules[i].right).length : Int) = x.kids.length
  · rw [decide_eq_true (by omega), Bool.true_and]
    repeat (first | refine wk ?_)
    refine t_loop (X := Nat) (fun j => j ≤ x.kids.length ∧ fitss g x.kids (kids g.rules[i].right) = fitss g (x.kids.drop j) ((kids g.rules[i].right).drop j)) (fun j => [(48, I j), (47, I x.kids.length), (46, .d (treesD u x.kids)), (7, .own 900 (kids g.rules[i].right).length), (4, .ptr 4 0), (3, .ptr 3 0)]) (fun _ => [(3, gramBox t g), (4, .box 49 [.d (iD x.rule), .d (treesD u x.kids)]), (900, .row 3 1 ((kids g.rules[i].right).map iD))]) (fun j => x.kids.length - j) 0 ⟨Nat.zero_le _, rfl⟩ ?_
    rintro j ⟨hj, hq⟩
    by_cases hjl : j < x.kids.length
    · have hjl' : j < (kids g.rules[i].right).length := by omega
      have hs := fitss_drop (g := g) (k := x.kids) (vs := kids g.rules[i].right) hjl hjl'
      have hkc := kid_le hN hjl
      repeat (first | refine wk ?_)
      refine s_call [] (hA := ih x.kids[j] (List.getElem_mem hjl) hkc.1 (v := (kids g.rules[i].right)[j])) (hr := ?_)
      cases hf : fits g x.kids[j] (kids g.rules[i].right)[j] with
      | true =>
        rw [hf, Bool.true_and] at hs
        repeat (first | refine wk ?_)
        exact t_next (j + 1) (a := ⟨by omega, hq.trans hs⟩)
      | false =>
        rw [hf, Bool.false_and] at hs
        rw [hq, hs]
        repeat (first | refine wk ?_)
        exact fin
    · rw [hq, fitss_end hjl]
      repeat (first | refine wk ?_)
      exact fin
  · rw [decide_eq_false (by omega), Bool.false_and]
    repeat (first | refine wk ?_)
    exact fin

/-! ### Order -/
theorem orderOf_sim {t u : Bool} : ∀ (x : Tree), cnt x ≤ 100000000 → ∀ (y : Tree), cnt y ≤ 100000000 → ACalls Try.prog 135 [.d (treeA t x), .d (treeA u y)] [] (I (ordT x y)) [] := by
  refine Tree.ind fun x ih hx y hy => ?_
  refine ACalls.intro (n := 59) Try.func135 rfl rfl (by simp) (by rfl) ?_
  simp only [argFr]
  rw [ordT_eq]
  have hk := kids_len hx
  have hl := kids_len hy
  by_cases h1 : x.rule < y.rule
  · rw [if_pos h1]
    repeat (first | refine wk ?_)
    exact fin
  by_cases h2 : y.rule < x.rule
  · rw [if_neg h1, if_pos h2]
    repeat (first | refine wk ?_)
    exact fin
  rw [if_neg h1, if_neg h2]
  repeat (first | refine wk ?_)
  refine t_loop (X := Nat) (fun i => i ≤ x.kids.length ∧ i ≤ y.kids.length ∧ ordL x.kids y.kids = ordL (x.kids.drop i) (y.kids.drop i)) (fun i => [(5, I i), (3, .ptr 3 0), (2, .ptr 2 0)]) (fun _ => [(2, .box 49 [.d (iD x.rule), .d (treesD t x.kids)]), (3, .box 49 [.d (iD y.rule), .d (treesD u y.kids)])]) (fun i => x.kids.length - i) 0 ⟨Nat.zero_le _, Nat.zero_le _, rfl⟩ ?_
  rintro i ⟨h1, h2, h3⟩
  by_cases hlt : i < x.kids.length
  · by_cases hlt' : i < y.kids.length
    · have hs := ordL_step hlt hlt'
      repeat (first | refine wk ?_)
      refine s_call [] (hA := ih x.kids[i] (List.getElem_mem hlt) (kid_le hx hlt).1 y.kids[i] (kid_le hy hlt').1) (hr := ?_)
      by_cases h0 : ordT x.kids[i] y.kids[i] = 0
      · rw [if_pos h0] at hs
        repeat (first | refine wk ?_)
        exact t_next (i + 1) (a := ⟨by omega, by omega, h3.trans hs⟩)
      · rw [if_neg h0] at hs
        rw [h3, hs]
        repeat (first | refine wk ?_)
        exact fin
    · rw [h3, ordL_gt hlt hlt']
      repeat (first | refine wk ?_)
      exact fin
  · by_cases hlt' : i < y.kids.length
    · rw [h3, ordL_lt hlt hlt']
      repeat (first | refine wk ?_)
      exact fin
    · rw [h3, ordL_end hlt hlt']
      repeat (first | refine wk ?_)
      exact fin
theorem sameTree_sim {t u : Bool} {x y : Tree} (hx : cnt x ≤ 100000000 := by ((try simp only [List.length_map, List.length_append, List.length_cons, List.length_nil, List.length_replicate, List.length_set, List.length_take, List.length_drop]); first | omega | assumption)) (hy : cnt y ≤ 100000000 := by ((try simp only [List.length_map, List.length_append, List.length_cons, List.length_nil, List.length_replicate, List.length_set, List.length_take, List.length_drop]); first | omega | assumption)) : ACalls Try.prog 107 [.d (treeA t x), .d (treeA u y)] [] (B (decide (ordT x y = 0))) [] := by
  refine ACalls.intro (n := 9) Try.func107 rfl rfl (by simp) (by rfl) ?_
  simp only [argFr]
  repeat (first | refine wk ?_)
  refine s_call [] (hA := orderOf_sim x hx y hy) (hr := ?_)
  repeat (first | refine wk ?_)
  exact fin
end Go.Proofs.Yticnpbopelgmiaa
namespace Go.Proofs.Yticnpbopelgmiaa
open Go.RowKit
set_option maxRecDepth 100000

theorem treeCheck_sim {t u : Bool} {g : Gram} {x : Tree} {v : Int} (hl : g.rules.length ≤ 100000000) (hr : ∀ r ∈ g.rules, r.right.length ≤ 100000000) (hx : cnt x ≤ 100000000) :
    ACalls Try.prog 132 [.d (gramD t g), .d (treeA u x), I v] [] (.d (faultD (treeFault g x v))) [] := by
  refine ACalls.intro (n := 25) Try.func132 rfl rfl (by simp) (by rfl) ?_
  simp only [argFr]
  repeat (first | refine wk ?_)
  refine s_call [] (hA := gramCheck_sim) (hr := ?_)
  by_cases h0 : (gramFault g).code = 0
  · rw [show treeFault g x v = if cnt x ≤ 400 then (if fits g x v = true then ⟨0, 0⟩ else ⟨13, -1⟩) else ⟨6, -1⟩ by rw [treeFault, if_pos h0]]
    repeat (first | refine wk ?_)
    refine s_call [] (hA := size_sim x hx (m := 400) (by omega)) (hr := ?_)
    by_cases h4 : cnt x ≤ 400
    · rw [if_pos h4, show left_ ((400 : Nat) : Int) (cnt x) = ((400 - cnt x : Nat) : Int) by unfold left_; rw [if_pos (by omega)]; omega]
      repeat (first | refine wk ?_)
      refine s_call [] (hA := fits_sim hl hr x hx (v := v)) (hr := ?_)
      cases hf : fits g x v with
      | true =>
        rw [if_pos rfl]
        repeat (first | refine wk ?_)
        exact fin
      | false =>
        rw [if_neg (by simp)]
        repeat (first | refine wk ?_)
        exact fin
    · rw [if_neg h4, show left_ ((400 : Nat) : Int) (cnt x) = -1 by unfold left_; rw [if_neg (by omega)]]
      repeat (first | refine wk ?_)
      exact fin
  · rw [show treeFault g x v = gramFault g by rw [treeFault, if_neg h0]]
    repeat (first | refine wk ?_)
    exact fin
theorem treeOwn_sim {t : Bool} : ∀ (x : Tree), cnt x ≤ 100000000 → ACalls Try.prog 134 [.d (treeA t x)] [] (.d (treeA false x)) [] := by
  refine Tree.ind fun x ih hx => ?_
  refine ACalls.intro (n := 25) Try.func134 rfl rfl (by simp) (by rfl) ?_
  simp only [argFr]
  have hk := kids_len hx
  repeat (first | refine wk ?_)
  refine aw_nilCell 3 1 900 49 2 rfl rfl rfl rfl ?_
  refine t_loop (X := Nat) (fun i => i ≤ x.kids.length) (fun i => [(12, I i), (11, I x.kids.length), (10, .d (treesD t x.kids)), (3, .ptr 3 0), (2, .ptr 2 0), (1, .ptr 1 0)]) (fun i => [(1, .box 49 [.d (iD x.rule), .d (treesD t x.kids)]), (2, .box 49 [.d (iD 0), .d (.raw (.slice none 0 0))]), (3, .box 49 [.d (iD x.rule), .own 900 (x.kids.take i).length]), (900, .row 49 2 ((x.kids.take i).map (treeD false)))]) (fun i => x.kids.length - i) 0 (Nat.zero_le _) ?_
  intro i hi
  by_cases hlt : i < x.kids.length
  · have e : (x.kids.take (i + 1)).map (treeD false) = (x.kids.take i).map (treeD false) ++ [treeA false x.kids[i]] := by
      rw [List.take_succ_eq_append_getElem hlt, List.map_append]; simp [treeA_eq]
    repeat (first | refine wk ?_)
    refine s_call [] (hA := ih x.kids[i] (List.getElem_mem hlt) (kid_le hx hlt).1) (hr := ?_)
    repeat (first | refine wk ?_)
    exact t_next (i + 1)
  · rw [show x.kids.take i = x.kids from List.take_of_length_le (by omega)]
    refine aw_froz 900 rfl ?_
    repeat (first | refine wk ?_)
    exact fin

/-! ### Words -/
theorem word_sim {t u : Bool} {g : Gram} (hg : g.ok) : ∀ (x : Tree) (v : Int), fits g x v = true → cnt x ≤ 400 → ∀ out : List Int, out.length + 10 * cnt x ≤ 1000000 →
    ACalls Try.prog 174 [.d (gramD t g), .d (treeA u x), .own 1000 out.length] [(1000, .row 3 1 (out.map iD))] (.own 1000 (out ++ wordT g x).length) [(1000, .row 3 1 ((out ++ wordT g x).map iD))] := by
  refine Tree.ind fun x ih v hf hx out ho => ?_
  refine ACalls.intro (n := 41) Try.func174 rfl rfl (by simp) (by rfl) ?_
  simp only [argFr]
  obtain ⟨i, hi, e1, e2, e3, e4, e5⟩ := fits_parts hf
  have hk := kids_len hx
  have hlen := hg.rules
  have hrt := hg.right _ (List.getElem_mem hi)
  have hwl := wordT_le 10 hg.right x
  repeat (first | refine wk ?_)
  refine t_loop (X := Nat × Nat × List Int) (fun y => y.1 ≤ g.rules[i].right.length ∧ y.2.1 = (kids (g.rules[i].right.take y.1)).length ∧ wordT g x = y.2.2 ++ wordL g (g.rules[i].right.drop y.1) (x.kids.drop y.2.1) ∧ y.2.2.length ≤ y.1 + 10 * cnts (x.kids.take y.2.1))
    (fun y => [(18, I y.1), (17, I g.rules[i].right.length), (16, .d (ints t g.rules[i].right)), (7, I y.2.1), (4, .ptr 4 0), (3, .ptr 3 0), (2, .own 1000 (out ++ y.2.2).length)])
    (fun y => [(3, gramBox t g), (4, .box 49 [.d (iD x.rule), .d (treesD u x.kids)]), (1000, .row 3 1 ((out ++ y.2.2).map iD))]) (fun y => g.rules[i].right.length - y.1) (0, 0, []) ⟨Nat.zero_le _, by simp [kids], by simpa using e5, by simp⟩ ?_
  rintro ⟨j, q, pre⟩ ⟨h1, h2, h3, h4⟩
  dsimp only at h1 h2 h3 h4 ⊢
  have hpl : (wordT g x).length = pre.length + (wordL g (g.rules[i].right.drop j) (x.kids.drop q)).length := by rw [h3, List.length_append]
  have hol : (out ++ pre).length = out.length + pre.length := List.length_append
  by_cases hlt : j < g.rules[i].right.length
  · have hlo := hg.lo _ (List.getElem_mem hi) _ (List.getElem_mem hlt)
    have hte := hg.terms
    by_cases hs : g.rules[i].right[j] < 0
    · rw [wordL_t hlt hs, List.length_cons] at hpl
      rw [wordL_t hlt hs] at h3
      have e := kids_snoc g.rules[i].right j hlt
      rw [kids_neg hs, List.append_nil] at e
      repeat (first | refine wk ?_)
      exact t_next (j + 1, q, pre ++ [-1 - g.rules[i].right[j]]) (a := ⟨by omega, by dsimp only; rw [e]; exact h2, by simpa using h3, by simp; omega⟩) (b := by dsimp only; omega)
    · have hq : q < x.kids.length := by have := kids_take_le hlt hs; omega
      have hq2 : q < (kids g.rules[i].right).length := by omega
      have e := kids_snoc g.rules[i].right j hlt
      rw [kids_pos (by omega)] at e
      have hfk := fitss_at e4 hq hq2
      have hkl := kid_le hx hq
      rw [wordL_v hlt hs hq, List.length_append] at hpl
      rw [wordL_v hlt hs hq] at h3
      have hc1 := cnt_eq x
      have hc2 := cnts_take hq
      have hc3 := cnts_drop hq
      have hc4 : cnts x.kids = cnts (x.kids.take q) + cnts (x.kids.drop q) := by rw [← cnts_append, List.take_append_drop]
      have hc5 := wordT_le 10 hg.right x.kids[q]
      have hol2 : (out ++ pre).length + 10 * cnt x.kids[q] ≤ 1000000 := by omega
      repeat (first | refine wk ?_)
      refine s_call [] (hA := ih x.kids[q] (List.getElem_mem hq) _ hfk hkl.1 (out ++ pre) hol2) (hr := ?_)
      repeat (first | refine wk ?_)
      exact t_next (j + 1, q + 1, pre ++ wordT g x.kids[q]) (a := ⟨by omega, by dsimp only; rw [e, List.length_append]; simp; omega, by simpa using h3, by simp only [List.length_append]; omega⟩) (b := by dsimp only; omega)
  · rw [wordL_end hlt, List.append_nil] at h3
    repeat (first | refine wk ?_)
    rw [h3]
    exact fin
theorem word0_sim {t u : Bool} {g : Gram} {x : Tree} {v : Int} (hg : g.ok) (hf : fits g x v = true) (hx : cnt x ≤ 400) :
    ACalls Try.prog 174 [.d (gramD t g), .d (treeA u x), .d (.raw (.slice none 0 0))] [] (.own 900 (wordT g x).length) [(900, .row 3 1 ((wordT g x).map iD))] :=
  ACalls.nilArg (pre := [gramD t g, treeA u x]) (post := []) (word_sim hg x v hf hx [] (by simp; omega))
end Go.Proofs.Yticnpbopelgmiaa
namespace Go.Proofs.Yticnpbopelgmiaa
open Go.RowKit
set_option maxRecDepth 100000

/-! ### Counted -/
/-! ### The same -/
theorem sameTrees_sim {t u : Bool} {l : List Tree} (hN : cnts l ≤ 100000000) : ACalls Try.prog 49 [.d (treesD t l), .d (treesD u l)] [] (B true) [] := by
  have hl := Nat.le_trans (cnts_len l) hN
  refine ACalls.intro (n := 27) Try.func49 rfl rfl (by simp) (by rfl) ?_
  simp only [argFr]
  repeat (first | refine wk ?_)
  refine t_loop (X := Nat) (fun x => x ≤ l.length) (fun x => [(5, I x), (0, .d (treesD t l)), (1, .d (treesD u l))]) (fun _ => []) (fun x => l.length - x) 0 (Nat.zero_le _) ?_
  intro i h1
  by_cases hlt : i < l.length
  · have e3 := cnts_mem (List.getElem_mem hlt)
    have s1 := sameTree_sim (t := t) (u := u) (x := l[i]) (y := l[i]) (by omega) (by omega)
    rw [ordT_refl, decide_eq_true rfl] at s1
    repeat (first | refine wk ?_)
    refine s_call [] (hA := s1) (hr := ?_)
    repeat (first | refine wk ?_)
    exact t_next (i + 1)
  · repeat (first | refine wk ?_)
    exact fin

/-! ### The template of a rule that stays -/
theorem holes_snoc (k : Nat) : holes (k + 1) = holes k ++ [.mk 2 k []] := by simp [holes, List.range_succ]
theorem holes_dsnoc (t : Bool) (k : Nat) : (holes (k + 1)).map (fragD t) = (holes k).map (fragD t) ++ [.agg [iD 2, iD k, .sl t 3 []]] := by rw [holes_snoc]; simp [fragD, fragDs]
theorem nodeF_map (t : Bool) (r : Int) (k : Nat) : (nodeF r k).map (fragD t) = [.agg [iD 1, iD r, fragsD t (holes k)]] := by simp [nodeF, fragD, fragDs_map]
end Go.Proofs.Yticnpbopelgmiaa
namespace Go.Proofs.Yticnpbopelgmiaa
open Go.RowKit
set_option maxRecDepth 100000

theorem bump_row {u : List Int} {n : Int} (hn : n.toNat < u.length) : (u.map iD).set n.toNat (iD (u[n.toNat] + 1)) = (bump u n).map iD := by
  rw [bump, List.map_set, List.getD_eq_getElem?_getD, List.getElem?_eq_getElem hn]; rfl
end Go.Proofs.Yticnpbopelgmiaa
