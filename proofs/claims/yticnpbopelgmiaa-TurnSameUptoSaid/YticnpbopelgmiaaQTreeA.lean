/-
  Sim: trees: counted, fitting, order. Sim: templates: counted, which kids they use, the same, Plain, Node. Sim: templates: which kids they use; Node; steps that are the same. Sim: templates put into templates: moved, gaps, put, Own, Plug.
-/
import Derived.Test.YticnpbopelgmiaaQS5
import Derived.Test.YticnpbopelgmiaaQP1
set_option linter.unusedVariables false
set_option linter.unusedSimpArgs false
set_option linter.unusedSectionVars false
namespace Go.Proofs.Yticnpbopelgmiaa
open Go.RowKit
set_option maxRecDepth 100000

theorem kid_le {x : Tree} {N : Nat} (h : cnt x ≤ N) {i : Nat} (hi : i < x.kids.length) : cnt x.kids[i] ≤ N ∧ cnt x.kids[i] < cnt x := by
  have := cnts_mem (List.getElem_mem hi)
  rw [cnt_eq] at h
  have := cnt_eq x
  omega
theorem kids_len {x : Tree} {N : Nat} (h : cnt x ≤ N) : x.kids.length ≤ N := by
  have := cnts_len x.kids
  rw [cnt_eq] at h
  omega

/-! ### Counted -/
theorem size_sim {t : Bool} : ∀ (x : Tree), cnt x ≤ 100000000 → ∀ {m : Nat}, m ≤ 10000 → ACalls Try.prog 166 [.d (treeA t x), I m] [] (I (left_ m (cnt x))) [] := by
  refine Tree.ind fun x ih hN m hm => ?_
  refine ACalls.intro (n := 27) Try.func166 rfl rfl (by simp) (by rfl) ?_
  simp only [argFr]
  have hk := kids_len hN
  have hx := cnt_eq x
  repeat (first | refine wk ?_)
  refine t_loop (X := Nat) (fun i => i ≤ x.kids.length) (fun i => [(5, I i), (1, I (left_ m (1 + cnts (x.kids.take i)))), (2, .ptr 2 0)]) (fun _ => [(2, .box 49 [.d (iD x.rule), .d (treesD t x.kids)])]) (fun i => x.kids.length - i) 0 (Nat.zero_le _) ?_ (hf := ?_)
  rotate_left
  · refine ⟨.of rfl, int_eq rfl ?_, .of rfl, trivial⟩
    simp only [left_, List.take_zero, cnts]
    split <;> omega
  intro i hi
  by_cases hlt : i < x.kids.length
  · have hm1 := cnts_mem (List.getElem_mem hlt)
    have hm3 := cnts_take hlt
    have hm4 := cnts_drop hlt
    have hm5 : cnts x.kids = cnts (x.kids.take i) + cnts (x.kids.drop i) := by rw [← cnts_append, List.take_append_drop]
    by_cases hv : 1 + cnts (x.kids.take i) ≤ m
    · have e0 : left_ m (1 + cnts (x.kids.take i)) = ((m - (1 + cnts (x.kids.take i)) : Nat) : Int) := by unfold left_; rw [if_pos (by omega)]; omega
      rw [e0]
      repeat (first | refine wk ?_)
      refine s_call [] (hA := ih x.kids[i] (List.getElem_mem hlt) (by omega) (m := m - (1 + cnts (x.kids.take i))) (by omega)) (hr := ?_)
      have e : left_ ((m - (1 + cnts (x.kids.take i)) : Nat) : Int) (cnt x.kids[i]) = left_ m (1 + cnts (x.kids.take (i + 1))) := by
        unfold left_; rw [hm3]; split <;> split <;> omega
      rw [e]
      repeat (first | refine wk ?_)
      exact t_next (i + 1)
    · have e0 : left_ m (1 + cnts (x.kids.take i)) = -1 := by unfold left_; rw [if_neg (by omega)]
      have e1 : left_ m (cnt x) = -1 := by unfold left_; rw [if_neg (by omega)]
      rw [e0, e1]
      repeat (first | refine wk ?_)
      exact fin
  · rw [show x.kids.take i = x.kids from List.take_of_length_le (by omega), ← hx]
    repeat (first | refine wk ?_)
    exact fin

/-! ### Fitting -/
theorem fits_no {g : Gram} {x : Tree} {v : Int} (h : ¬ (0 ≤ x.rule ∧ x.rule < g.rules.length)) : fits g x v = false := by
  rw [fits_eq]
  by_cases h0 : 0 ≤ x.rule
  · rw [if_pos h0, List.getElem?_eq_none (by omega)]
  · rw [if_neg h0]
theorem fits_yes {g : Gram} {x : Tree} {v : Int} {i : Nat} (hi : i < g.rules.length) (e : x.rule = (i : Int)) : fits g x v = (decide (g.rules[i].left = v) && (decide ((kids g.rules[i].right).length = x.kids.length) && fitss g x.kids (kids g.rules[i].right))) := by
  rw [fits_eq, if_pos (by omega), e, Int.toNat_natCast, List.getElem?_eq_getElem hi]
set_option maxHeartbeats 4000000 in
theorem fits_sim {t u : Bool} {g : Gram} (hl : g.rules.length ≤ 100000000) (hr : ∀ r ∈ g.rules, r.right.length ≤ 100000000) : ∀ (x : Tree), cnt x ≤ 100000000 → ∀ {v : Int}, ACalls Try.prog 167 [.d (gramD t g), .d (treeA u x), I v] [] (B (fits g x v)) [] := by
  refine Tree.ind fun x ih hN v => ?_
  refine ACalls.intro (n := 62) Try.func167 rfl rfl (by simp) (by rfl) ?_
  simp only [argFr]
  have hk := kids_len hN
  by_cases h0 : x.rule < 0
  · rw [fits_no (by omega)]
    repeat (first | refine wk ?_)
    exact fin
  by_cases h1 : (g.rules.length : Int) ≤ x.rule
  · rw [fits_no (by omega)]
    repeat (first | refine wk ?_)
    exact fin
  obtain ⟨i, hi⟩ : ∃ i : Nat, x.rule = i := ⟨x.rule.toNat, by omega⟩
  have hlt : i < g.rules.length := by omega
  rw [fits_yes hlt hi]
  have hrk := hr _ (List.getElem_mem hlt)
  have hkl := kids_le g.rules[i].right
  by_cases h2 : g.rules[i].left = v
  rotate_left
  · rw [decide_eq_false h2, Bool.false_and]
    repeat (first | refine wk ?_)
    exact fin
  rw [decide_eq_true h2, Bool.true_and]
  repeat (first | refine wk ?_)
  refine s_call [(3, 900)] (hA := kids_sim) (hr := ?_)
  by_cases h3 : ((kids g.rules[i].right).length : Int) = x.kids.length
  · rw [decide_eq_true (by omega), Bool.true_and]
    repeat (first | refine wk ?_)
    refine t_loop (X := Nat) (fun j => j ≤ x.kids.length ∧ fitss g x.kids (kids g.rules[i].right) = fitss g (x.kids.drop j) ((kids g.rules[i].right).drop j)) (fun j => [(48, I j), (47, I x.kids.length), (46, .d (treesD u x.kids)), (7, .own 900 (kids g.rules[i].right).length), (4, .ptr 4 0), (3, .ptr 3 0)]) (fun _ => [(3, gramBox t g), (4, .box 49 [.d (iD x.rule), .d (treesD u x.kids)]), (900, .row 3 1 ((kids g.rules[i].right).map iD))]) (fun j => x.kids.length - j) 0 ⟨Nat.zero_le _, rfl⟩ ?_
    rintro j ⟨hj, hq⟩
    by_cases hjl : j < x.kids.length
    · have hjl' : j < (kids g.rules[i].right).length := by omega
      have hs := fitss_drop (g := g) (k := x.kids) (vs := kids g.rules[i].right) hjl hjl'
      have hkc := kid_le hN hjl
      repeat (first | refine wk ?_)
      refine s_call [] (hA := ih x.kids[j] (List.getElem_mem hjl) hkc.1 (v := (kids g.rules[i].right)[j])) (hr := ?_)
      cases hf : fits g x.kids[j] (kids g.rules[i].right)[j] with
      | true =>
        rw [hf, Bool.true_and] at hs
        repeat (first | refine wk ?_)
        exact t_next (j + 1) (a := ⟨by omega, hq.trans hs⟩)
      | false =>
        rw [hf, Bool.false_and] at hs
        rw [hq, hs]
        repeat (first | refine wk ?_)
        exact fin
    · rw [hq, fitss_end hjl]
      repeat (first | refine wk ?_)
      exact fin
  · rw [decide_eq_false (by omega), Bool.false_and]
    repeat (first | refine wk ?_)
    exact fin

/-! ### Order -/
theorem orderOf_sim {t u : Bool} : ∀ (x : Tree), cnt x ≤ 100000000 → ∀ (y : Tree), cnt y ≤ 100000000 → ACalls Try.prog 135 [.d (treeA t x), .d (treeA u y)] [] (I (ordT x y)) [] := by
  refine Tree.ind fun x ih hx y hy => ?_
  refine ACalls.intro (n := 59) Try.func135 rfl rfl (by simp) (by rfl) ?_
  simp only [argFr]
  rw [ordT_eq]
  have hk := kids_len hx
  have hl := kids_len hy
  by_cases h1 : x.rule < y.rule
  · rw [if_pos h1]
    repeat (first | refine wk ?_)
    exact fin
  by_cases h2 : y.rule < x.rule
  · rw [if_neg h1, if_pos h2]
    repeat (first | refine wk ?_)
    exact fin
  rw [if_neg h1, if_neg h2]
  repeat (first | refine wk ?_)
  refine t_loop (X := Nat) (fun i => i ≤ x.kids.length ∧ i ≤ y.kids.length ∧ ordL x.kids y.kids = ordL (x.kids.drop i) (y.kids.drop i)) (fun i => [(5, I i), (3, .ptr 3 0), (2, .ptr 2 0)]) (fun _ => [(2, .box 49 [.d (iD x.rule), .d (treesD t x.kids)]), (3, .box 49 [.d (iD y.rule), .d (treesD u y.kids)])]) (fun i => x.kids.length - i) 0 ⟨Nat.zero_le _, Nat.zero_le _, rfl⟩ ?_
  rintro i ⟨h1, h2, h3⟩
  by_cases hlt : i < x.kids.length
  · by_cases hlt' : i < y.kids.length
    · have hs := ordL_step hlt hlt'
      repeat (first | refine wk ?_)
      refine s_call [] (hA := ih x.kids[i] (List.getElem_mem hlt) (kid_le hx hlt).1 y.kids[i] (kid_le hy hlt').1) (hr := ?_)
      by_cases h0 : ordT x.kids[i] y.kids[i] = 0
      · rw [if_pos h0] at hs
        repeat (first | refine wk ?_)
        exact t_next (i + 1) (a := ⟨by omega, by omega, h3.trans hs⟩)
      · rw [if_neg h0] at hs
        rw [h3, hs]
        repeat (first | refine wk ?_)
        exact fin
    · rw [h3, ordL_gt hlt hlt']
      repeat (first | refine wk ?_)
      exact fin
  · by_cases hlt' : i < y.kids.length
    · rw [h3, ordL_lt hlt hlt']
      repeat (first | refine wk ?_)
      exact fin
    · rw [h3, ordL_end hlt hlt']
      repeat (first | refine wk ?_)
      exact fin
theorem sameTree_sim {t u : Bool} {x y : Tree} (hx : cnt x ≤ 100000000 := by ((try simp only [List.length_map, List.length_append, List.length_cons, List.length_nil, List.length_replicate, List.length_set, List.length_take, List.length_drop]); first | omega | assumption)) (hy : cnt y ≤ 100000000 := by ((try simp only [List.length_map, List.length_append, List.length_cons, List.length_nil, List.length_replicate, List.length_set, List.length_take, List.length_drop]); first | omega | assumption)) : ACalls Try.prog 107 [.d (treeA t x), .d (treeA u y)] [] (B (decide (ordT x y = 0))) [] := by
  refine ACalls.intro (n := 9) Try.func107 rfl rfl (by simp) (by rfl) ?_
  simp only [argFr]
  repeat (first | refine wk ?_)
  refine s_call [] (hA := orderOf_sim x hx y hy) (hr := ?_)
  repeat (first | refine wk ?_)
  exact fin
end Go.Proofs.Yticnpbopelgmiaa
namespace Go.Proofs.Yticnpbopelgmiaa
open Go.RowKit
set_option maxRecDepth 100000

/-! ### Counted -/
/-! ### The same -/
theorem sameTrees_sim {t u : Bool} {l : List Tree} (hN : cnts l ≤ 100000000) : ACalls Try.prog 49 [.d (treesD t l), .d (treesD u l)] [] (B true) [] := by
  have hl := Nat.le_trans (cnts_len l) hN
  refine ACalls.intro (n := 27) Try.func49 rfl rfl (by simp) (by rfl) ?_
  simp only [argFr]
  repeat (first | refine wk ?_)
  refine t_loop (X := Nat) (fun x => x ≤ l.length) (fun x => [(5, I x), (0, .d (treesD t l)), (1, .d (treesD u l))]) (fun _ => []) (fun x => l.length - x) 0 (Nat.zero_le _) ?_
  intro i h1
  by_cases hlt : i < l.length
  · have e3 := cnts_mem (List.getElem_mem hlt)
    have s1 := sameTree_sim (t := t) (u := u) (x := l[i]) (y := l[i]) (by omega) (by omega)
    rw [ordT_refl, decide_eq_true rfl] at s1
    repeat (first | refine wk ?_)
    refine s_call [] (hA := s1) (hr := ?_)
    repeat (first | refine wk ?_)
    exact t_next (i + 1)
  · repeat (first | refine wk ?_)
    exact fin

/-! ### The template of a rule that stays -/
theorem holes_snoc (k : Nat) : holes (k + 1) = holes k ++ [.mk 2 k []] := by simp [holes, List.range_succ]
theorem holes_dsnoc (t : Bool) (k : Nat) : (holes (k + 1)).map (fragD t) = (holes k).map (fragD t) ++ [.agg [iD 2, iD k, .sl t 3 []]] := by rw [holes_snoc]; simp [fragD, fragDs]
theorem nodeF_map (t : Bool) (r : Int) (k : Nat) : (nodeF r k).map (fragD t) = [.agg [iD 1, iD r, fragsD t (holes k)]] := by simp [nodeF, fragD, fragDs_map]
end Go.Proofs.Yticnpbopelgmiaa
namespace Go.Proofs.Yticnpbopelgmiaa
open Go.RowKit
set_option maxRecDepth 100000

theorem bump_row {u : List Int} {n : Int} (hn : n.toNat < u.length) : (u.map iD).set n.toNat (iD (u[n.toNat] + 1)) = (bump u n).map iD := by
  rw [bump, List.map_set, List.getD_eq_getElem?_getD, List.getElem?_eq_getElem hn]; rfl
end Go.Proofs.Yticnpbopelgmiaa
namespace Go.Proofs.Yticnpbopelgmiaa
open Go.RowKit
set_option maxRecDepth 100000
-- SimX

set_option maxHeartbeats 4000000 in
theorem moved_gen : ∀ (N : Nat) {t : Bool} {l : List Frag} {o b : Int}, fszs l < N → fszs l ≤ 100000000 → NbL 1000000000 l → -1000000000 ≤ b → b ≤ 1000000000 → ACalls Try.prog 115 [.d (fragsD t l), I o, I b] [] (.d (fragsD false (movL o b l))) [] := by
  intro N
  induction N with
  | zero => intro t l o b h; omega
  | succ N ih =>
  intro t l o b hn hN hB hb0 hb1
  have hl := Nat.le_trans (fszs_len l) hN
  refine ACalls.intro (n := 52) Try.func115 rfl rfl (by simp) (by rfl) ?_
  simp only [argFr]
  repeat (first | refine wk ?_ | refine s_field (hr := ?_))
  refine aw_nil 7 900 67 3 rfl rfl rfl ?_
  refine t_loop (X := Nat) (fun i => i ≤ l.length) (fun i => [(13, I i), (12, I l.length), (11, .d (fragsD t l)), (7, .own 900 (movL o b (l.take i)).length), (1, I o), (2, I b)]) (fun i => [(900, .row 67 3 ((movL o b (l.take i)).map (fragD false)))]) (fun i => l.length - i) 0 (Nat.zero_le _) ?_
  intro i h1
  by_cases hlt : i < l.length
  · have e1 := movL_take (o := o) (b := b) hlt
    have e2 := movF_eq o b l[i]
    have e3 := fszs_mem (List.getElem_mem hlt)
    have e4 := fsz_eq l[i]
    have hm := movL_len o b (l.take i)
    obtain ⟨⟨n0, n1⟩, hB2⟩ := NbF_eq (NbL_mem hB (List.getElem_mem hlt))
    have hih := ih (t := t) (l := l[i].l) (o := o) (b := b) (by omega) (by omega) hB2 hb0 hb1
    have e : (movL o b (l.take i)).map (fragD false) ++ [D.agg [iD l[i].op, iD (mvN l[i].op l[i].n o b), fragsD false (movL o b l[i].l)]] = (movL o b (l.take (i + 1))).map (fragD false) := by rw [e1, e2, List.map_append]; simp only [List.map_cons, List.map_nil, fragA_eq]; rfl
    have hlen : (movL o b (l.take i)).length ≤ 100000000 := by rw [hm, List.length_take]; omega
    by_cases hop : l[i].op = 2 ∨ l[i].op = 4
    · by_cases hov : o < l[i].n
      · rw [show mvN l[i].op l[i].n o b = l[i].n + b from if_pos ⟨hop, hov⟩] at e
        replace e : (movL o b (l.take i)).map (fragD false) ++ [D.agg [iD l[i].op, .raw (.int .i64 (l[i].n + b)), fragsD false (movL o b l[i].l)]] = (movL o b (l.take (i + 1))).map (fragD false) := e
        rcases hop with hop | hop
        · repeat (first | refine wk ?_ | refine s_field (hr := ?_))
          refine s_call [] (hA := hih) (hr := ?_)
          repeat (first | refine wk ?_ | refine s_field (hr := ?_))
          rw [e, List.length_map]
          exact t_next (i + 1)
        · repeat (first | refine wk ?_ | refine s_field (hr := ?_))
          refine s_call [] (hA := hih) (hr := ?_)
          repeat (first | refine wk ?_ | refine s_field (hr := ?_))
          rw [e, List.length_map]
          exact t_next (i + 1)
      · rw [show mvN l[i].op l[i].n o b = l[i].n from if_neg (fun h => hov h.2)] at e
        rcases hop with hop | hop
        · repeat (first | refine wk ?_ | refine s_field (hr := ?_))
          refine s_call [] (hA := hih) (hr := ?_)
          repeat (first | refine wk ?_ | refine s_field (hr := ?_))
          rw [e, List.length_map]
          exact t_next (i + 1)
        · repeat (first | refine wk ?_ | refine s_field (hr := ?_))
          refine s_call [] (hA := hih) (hr := ?_)
          repeat (first | refine wk ?_ | refine s_field (hr := ?_))
          rw [e, List.length_map]
          exact t_next (i + 1)
    · rw [show mvN l[i].op l[i].n o b = l[i].n from if_neg (fun h => hop h.1)] at e
      have h2 : ¬ l[i].op = 2 := fun h => hop (.inl h)
      have h4 : ¬ l[i].op = 4 := fun h => hop (.inr h)
      repeat (first | refine wk ?_ | refine s_field (hr := ?_))
      refine s_call [] (hA := hih) (hr := ?_)
      repeat (first | refine wk ?_ | refine s_field (hr := ?_))
      --@
      (repeat (first | refine wkz ?_ | refine s_field (hr := ?_)))
      repeat (first | refine wk ?_ | refine s_field (hr := ?_))
      rw [e, List.length_map]
      exact t_next (i + 1)
  · rw [show l.take i = l from List.take_of_length_le (by omega)]
    refine aw_froz 900 rfl ?_
    repeat (first | refine wk ?_ | refine s_field (hr := ?_))
    exact fin
set_option maxHeartbeats 4000000 in
theorem gaps_gen : ∀ (N : Nat) {t u : Bool} {l w : List Frag}, fszs l < N → fszs l * (1 + fszs w) ≤ 100000000 → ACalls Try.prog 172 [.d (fragsD false l), .d (fragsD false w)] [] (.d (fragsD false (gpL w l))) [] := by
  intro N
  induction N with
  | zero => intro t u l w h; omega
  | succ N ih =>
  intro t u l w hn hN
  have hcl : fszs l ≤ fszs l * (1 + fszs w) := Nat.le_mul_of_pos_right _ (by omega)
  have hl := Nat.le_trans (fszs_len l) (Nat.le_trans hcl hN)
  refine ACalls.intro (n := 34) Try.func172 rfl rfl (by simp) (by rfl) ?_
  simp only [argFr]
  repeat (first | refine wk ?_ | refine s_field (hr := ?_))
  refine aw_nil 5 900 67 3 rfl rfl rfl ?_
  refine t_loop (X := Nat) (fun i => i ≤ l.length) (fun i => [(10, I i), (9, I l.length), (8, .d (fragsD false l)), (5, .own 900 (gpL w (l.take i)).length), (1, .d (fragsD false w))]) (fun i => [(900, .row 67 3 ((gpL w (l.take i)).map (fragD false)))]) (fun i => l.length - i) 0 (Nat.zero_le _) ?_
  intro i h1
  by_cases hlt : i < l.length
  · have e1 := gpL_take (w := w) hlt
    have e2 := gpF_eq w l[i]
    have e3 := fszs_mem (List.getElem_mem hlt)
    have e4 := fsz_eq l[i]
    have e5 := Nat.le_trans (fszs_len _) (gpL_size w (l.take (i + 1)))
    have e6 : fszs (l.take (i + 1)) ≤ fszs l := by have := fszs_split l (i + 1); omega
    have e7 := Nat.le_trans e5 (Nat.mul_le_mul_right (1 + fszs w) e6)
    have e8 := congrArg List.length e1
    rw [List.length_append] at e8
    by_cases hr : l[i].op = 3
    · rw [if_pos hr] at e2
      rw [e2] at e1 e8
      have e := congrArg (List.map (fragD false)) e1
      rw [List.map_append] at e
      repeat (first | refine wk ?_ | refine s_field (hr := ?_))
      exact t_next (i + 1)
    · rw [if_neg hr] at e2
      rw [e2] at e1 e8
      have e : (gpL w (l.take i)).map (fragD false) ++ [D.agg [iD l[i].op, iD l[i].n, fragsD false (gpL w l[i].l)]] = (gpL w (l.take (i + 1))).map (fragD false) := by rw [e1, List.map_append]; simp only [List.map_cons, List.map_nil, fragA_eq]; rfl
      have hk := Nat.mul_le_mul_right (1 + fszs w) (show fszs l[i].l ≤ fszs l by omega)
      repeat (first | refine wk ?_ | refine s_field (hr := ?_))
      refine s_call [] (hA := ih (t := false) (u := false) (l := l[i].l) (w := w) (by omega) (by omega)) (hr := ?_)
      repeat (first | refine wk ?_ | refine s_field (hr := ?_))
      rw [e, List.length_map]
      exact t_next (i + 1)
  · rw [show l.take i = l from List.take_of_length_le (by omega)]
    refine aw_froz 900 rfl ?_
    repeat (first | refine wk ?_ | refine s_field (hr := ?_))
    exact fin
set_option maxHeartbeats 8000000 in
theorem put_gen : ∀ (N : Nat) {l inn : List Frag} {k b : Int}, fszs l < N → fszs l ≤ 100000000 → PtL k inn b l → NbL 1000000000 l → -1000000000 ≤ b → b ≤ 1000000000 → fszs inn ≤ 100000000 →
    ∀ t, ACalls Try.prog 157 [.d (fragsD t l), I k, .d (fragsD false inn), I b] [] (.d (fragsD false (ptL k inn b l))) [] := by
  intro N
  induction N with
  | zero => intro l inn k b h; omega
  | succ N ih =>
  intro l inn k b hn hN hP hB hb0 hb1 hi t
  have hl := Nat.le_trans (fszs_len l) hN
  have hil := Nat.le_trans (fszs_len inn) hi
  have hsz := PtL_size hP
  have hpl := Nat.le_trans (fszs_len _) hsz
  refine ACalls.intro (n := 87) Try.func157 rfl rfl (by simp) (by rfl) ?_
  simp only [argFr]
  repeat (first | refine wk ?_ | refine s_field (hr := ?_))
  refine aw_nil 9 900 67 3 rfl rfl rfl ?_
  refine t_loop (X := Nat) (fun i => i ≤ l.length) (fun i => [(16, I i), (15, I l.length), (14, .d (fragsD t l)), (9, .own 900 (ptL k inn b (l.take i)).length), (1, I k), (2, .d (fragsD false inn)), (3, I b)]) (fun i => [(900, .row 67 3 ((ptL k inn b (l.take i)).map (fragD false)))]) (fun i => l.length - i) 0 (Nat.zero_le _) ?_
  intro i h1
  by_cases hlt : i < l.length
  · have e1 := ptL_take (k := k) (inn := inn) (b := b) hlt
    have e2 := ptF_eq k inn b l[i]
    have e3 := fszs_mem (List.getElem_mem hlt)
    have e4 := fsz_eq l[i]
    obtain ⟨⟨n0, n1⟩, hB2⟩ := NbF_eq (NbL_mem hB (List.getElem_mem hlt))
    obtain ⟨p1, p2⟩ := PtF_eq (PtL_mem hP (List.getElem_mem hlt))
    have hih := ih (l := l[i].l) (inn := inn) (k := k) (b := b) (by omega) (by omega) p1 hB2 hb0 hb1 hi t
    have hlen : (ptL k inn b (l.take (i + 1))).length ≤ 100000000 := by
      have := congrArg List.length (ptL_append k inn b (l.take (i + 1)) (l.drop (i + 1)))
      rw [List.take_append_drop, List.length_append] at this
      omega
    have e8 := congrArg List.length e1
    rw [List.length_append] at e8
    by_cases h2 : l[i].op = 2
    · have h4 : ¬ l[i].op = 4 := by omega
      by_cases hk : l[i].n = k
      · rw [if_pos ⟨h2, hk⟩] at e2
        rw [e2] at e1 e8
        have e := congrArg (List.map (fragD false)) e1
        rw [List.map_append] at e
        repeat (first | refine wk ?_ | refine s_field (hr := ?_))
        refine s_call [] (hA := hih) (hr := ?_)
        repeat (first | refine wk ?_ | refine s_field (hr := ?_))
        exact t_next (i + 1)
      · rw [if_neg (fun h => hk h.2), if_neg (fun h => hk h.2)] at e2
        rw [e2] at e1 e8
        by_cases hov : k < l[i].n
        · have e : (ptL k inn b (l.take i)).map (fragD false) ++ [D.agg [iD l[i].op, .raw (.int .i64 (l[i].n + b)), fragsD false (ptL k inn b l[i].l)]] = (ptL k inn b (l.take (i + 1))).map (fragD false) := by
            rw [e1, List.map_append, show mvN l[i].op l[i].n k b = l[i].n + b from if_pos ⟨.inl h2, hov⟩]; simp only [List.map_cons, List.map_nil, fragA_eq]; rfl
          repeat (first | refine wk ?_ | refine s_field (hr := ?_))
          refine s_call [] (hA := hih) (hr := ?_)
          repeat (first | refine wk ?_ | refine s_field (hr := ?_))
          rw [e, List.length_map]
          exact t_next (i + 1)
        · have e : (ptL k inn b (l.take i)).map (fragD false) ++ [D.agg [iD l[i].op, iD l[i].n, fragsD false (ptL k inn b l[i].l)]] = (ptL k inn b (l.take (i + 1))).map (fragD false) := by
            rw [e1, List.map_append, show mvN l[i].op l[i].n k b = l[i].n from if_neg (fun h => hov h.2)]; simp only [List.map_cons, List.map_nil, fragA_eq]; rfl
          repeat (first | refine wk ?_ | refine s_field (hr := ?_))
          refine s_call [] (hA := hih) (hr := ?_)
          repeat (first | refine wk ?_ | refine s_field (hr := ?_))
          rw [e, List.length_map]
          exact t_next (i + 1)
    · by_cases h4 : l[i].op = 4
      · by_cases hk : l[i].n = k
        · rw [if_neg (fun h => h2 h.1), if_pos ⟨h4, hk⟩] at e2
          rw [e2] at e1 e8
          have e := congrArg (List.map (fragD false)) e1
          rw [List.map_append] at e
          have hg := gaps_gen _ (t := false) (u := false) (l := inn) (w := ptL k inn b l[i].l) (Nat.lt_succ_self _) (p2 ⟨h4, hk⟩)
          repeat (first | refine wk ?_ | refine s_field (hr := ?_))
          refine s_call [] (hA := hih) (hr := ?_)
          repeat (first | refine wk ?_ | refine s_field (hr := ?_))
          (repeat (first | refine wkz ?_ | refine s_field (hr := ?_)))
          repeat (first | refine wk ?_ | refine s_field (hr := ?_))
          refine s_call [] (hA := hg) (hr := ?_)
          repeat (first | refine wk ?_ | refine s_field (hr := ?_))
          exact t_next (i + 1)
        · rw [if_neg (fun h => h2 h.1), if_neg (fun h => hk h.2)] at e2
          rw [e2] at e1 e8
          by_cases hov : k < l[i].n
          · have e : (ptL k inn b (l.take i)).map (fragD false) ++ [D.agg [iD l[i].op, .raw (.int .i64 (l[i].n + b)), fragsD false (ptL k inn b l[i].l)]] = (ptL k inn b (l.take (i + 1))).map (fragD false) := by
              rw [e1, List.map_append, show mvN l[i].op l[i].n k b = l[i].n + b from if_pos ⟨.inr h4, hov⟩]; simp only [List.map_cons, List.map_nil, fragA_eq]; rfl
            repeat (first | refine wk ?_ | refine s_field (hr := ?_))
            refine s_call [] (hA := hih) (hr := ?_)
            repeat (first | refine wk ?_ | refine s_field (hr := ?_))
            (repeat (first | refine wkz ?_ | refine s_field (hr := ?_)))
            repeat (first | refine wk ?_ | refine s_field (hr := ?_))
            rw [e, List.length_map]
            exact t_next (i + 1)
          · have e : (ptL k inn b (l.take i)).map (fragD false) ++ [D.agg [iD l[i].op, iD l[i].n, fragsD false (ptL k inn b l[i].l)]] = (ptL k inn b (l.take (i + 1))).map (fragD false) := by
              rw [e1, List.map_append, show mvN l[i].op l[i].n k b = l[i].n from if_neg (fun h => hov h.2)]; simp only [List.map_cons, List.map_nil, fragA_eq]; rfl
            repeat (first | refine wk ?_ | refine s_field (hr := ?_))
            refine s_call [] (hA := hih) (hr := ?_)
            repeat (first | refine wk ?_ | refine s_field (hr := ?_))
            (repeat (first | refine wkz ?_ | refine s_field (hr := ?_)))
            repeat (first | refine wk ?_ | refine s_field (hr := ?_))
            rw [e, List.length_map]
            exact t_next (i + 1)
      · rw [if_neg (fun h => h2 h.1), if_neg (fun h => h4 h.1)] at e2
        rw [e2] at e1 e8
        have e : (ptL k inn b (l.take i)).map (fragD false) ++ [D.agg [iD l[i].op, iD l[i].n, fragsD false (ptL k inn b l[i].l)]] = (ptL k inn b (l.take (i + 1))).map (fragD false) := by
          rw [e1, List.map_append, show mvN l[i].op l[i].n k b = l[i].n from if_neg (fun h => by rcases h.1 with h | h; exact h2 h; exact h4 h)]; simp only [List.map_cons, List.map_nil, fragA_eq]; rfl
        repeat (first | refine wk ?_ | refine s_field (hr := ?_))
        refine s_call [] (hA := hih) (hr := ?_)
        repeat (first | refine wk ?_ | refine s_field (hr := ?_))
        (repeat (first | refine wkz ?_ | refine s_field (hr := ?_)))
        repeat (first | refine wk ?_ | refine s_field (hr := ?_))
        (repeat (first | refine wkz ?_ | refine s_field (hr := ?_)))
        repeat (first | refine wk ?_ | refine s_field (hr := ?_))
        rw [e, List.length_map]
        exact t_next (i + 1)
  · rw [show l.take i = l from List.take_of_length_le (by omega)]
    refine aw_froz 900 rfl ?_
    repeat (first | refine wk ?_ | refine s_field (hr := ?_))
    exact fin
theorem ownP_sim {t : Bool} {l : List Frag} (h1 : fszs l ≤ 100000000) (h2 : NbL 1000000000 l) : ACalls Try.prog 63 [.d (fragsD t l)] [] (.d (fragsD false l)) [] := by
  have hm := moved_gen _ (t := t) (l := l) (o := 0) (b := 0) (Nat.lt_succ_self _) h1 h2 (by decide) (by decide)
  rw [movL_zero] at hm
  refine ACalls.intro (n := 5) Try.func63 rfl rfl (by simp) (by rfl) ?_
  simp only [argFr]
  repeat (first | refine wk ?_ | refine s_field (hr := ?_))
  refine s_call [] (hA := hm) (hr := ?_)
  repeat (first | refine wk ?_ | refine s_field (hr := ?_))
  exact fin
theorem plug_sim {t u : Bool} {l inn : List Frag} {k n : Int} (h1 : fszs l ≤ 100000000) (h2 : fszs inn ≤ 100000000) (h3 : PtL k (movL (-1) k inn) (n - 1) l) (h4 : NbL 1000000000 l) (h5 : NbL 1000000000 inn) (h6 : NbL 1000000000 (plugL l k inn n)) (h7 : -1000000 ≤ k) (h8 : k ≤ 1000000) (h9 : -1000000 ≤ n) (h10 : n ≤ 1000000) :
    ACalls Try.prog 111 [.d (fragsD t l), I k, .d (fragsD u inn), I n] [] (.d (fragsD false (plugL l k inn n))) [] := by
  have m1 := moved_gen _ (t := u) (l := inn) (o := -1) (b := k) (Nat.lt_succ_self _) h2 h5 (by omega) (by omega)
  have m2 := put_gen _ (l := l) (inn := movL (-1) k inn) (k := k) (b := n - 1) (Nat.lt_succ_self _) h1 h3 h4 (by omega) (by omega) (by rw [movL_size]; exact h2) t
  have m3 := ownP_sim (t := false) (l := plugL l k inn n) (PtL_size h3) h6
  unfold plugL at m3 ⊢
  refine ACalls.intro (n := 18) Try.func111 rfl rfl (by simp) (by rfl) ?_
  simp only [argFr]
  repeat (first | refine wk ?_ | refine s_field (hr := ?_))
  refine s_call [] (hA := m1) (hr := ?_)
  repeat (first | refine wk ?_ | refine s_field (hr := ?_))
  refine s_call [] (hA := m2) (hr := ?_)
  repeat (first | refine wk ?_ | refine s_field (hr := ?_))
  refine s_call [] (hA := m3) (hr := ?_)
  repeat (first | refine wk ?_ | refine s_field (hr := ?_))
  exact fin
end Go.Proofs.Yticnpbopelgmiaa
