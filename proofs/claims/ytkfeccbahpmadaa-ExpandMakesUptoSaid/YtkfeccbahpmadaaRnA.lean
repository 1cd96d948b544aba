/-
  Sim: brackets, parts, open brackets (render and the reference). Sim: brackets that are open at once (render and the reference).
-/
import Derived.Test.YtkfeccbahpmadaaRendP
import Derived.Test.YtkfeccbahpmadaaSyN
import Derived.Test.YtkfeccbahpmadaaSimCut
set_option linter.unusedVariables false
set_option linter.unusedSimpArgs false
set_option linter.unusedSectionVars false
namespace Go.Proofs.Ytkfeccbahpmadaa
open Go.RowKit
set_option maxRecDepth 100000
-- SimX

theorem brkO_1 {p : Int} : brkO 3 p = (decide (p = 4) || decide (p = 3)) := by unfold brkO; simp
theorem brkO_2 {p : Int} : brkO 4 p = decide (p = 4) := by unfold brkO; simp
theorem brkO_3 {o p : Int} (h1 : o ≠ 3) (h2 : o ≠ 4) : brkO o p = false := by unfold brkO; simp [h1, h2]
theorem brk_sim {t u : Bool} {x y : Expr} : ACalls Try.prog 150 [.d (exprA t x), .d (exprA u y)] [] (B (brkO x.op y.op)) [] := by
  refine ACalls.intro (n := 28) Try.func150 rfl rfl (by simp) (by rfl) ?_
  simp only [argFr]
  by_cases h1 : x.op = 3
  · by_cases h2 : y.op = 4
    · rw [h1, brkO_1, decide_eq_true h2]
      have h3 : ¬ y.op = 3 := by omega
      (repeat (first | refine wkz ?_ | refine s_field (hr := ?_)))
      exact fin
    · by_cases h3 : y.op = 3
      · rw [h1, brkO_1, decide_eq_true h3, decide_eq_false h2]
        (repeat (first | refine wkz ?_ | refine s_field (hr := ?_)))
        exact fin
      · rw [h1, brkO_1, decide_eq_false h2, decide_eq_false h3]
        (repeat (first | refine wkz ?_ | refine s_field (hr := ?_)))
        exact fin
  · by_cases h2 : x.op = 4
    · rw [h2, brkO_2]
      by_cases h3 : y.op = 4
      · rw [decide_eq_true h3]
        (repeat (first | refine wkz ?_ | refine s_field (hr := ?_)))
        exact fin
      · rw [decide_eq_false h3]
        (repeat (first | refine wkz ?_ | refine s_field (hr := ?_)))
        exact fin
    · rw [brkO_3 h1 h2]
      (repeat (first | refine wkz ?_ | refine s_field (hr := ?_)))
      exact fin
theorem inBr_sim {t u : Bool} {x y : Expr} : ACalls Try.prog 157 [.d (exprA t x), .d (exprA u y)] [] (B (brkO x.op y.op)) [] := by
  refine ACalls.intro (n := 24) Try.func157 rfl rfl (by simp) (by rfl) ?_
  simp only [argFr]
  by_cases h1 : x.op = 3
  · by_cases h3 : y.op = 3
    · rw [show brkO x.op y.op = true by rw [h1, brkO_1, decide_eq_true h3, Bool.or_true]]
      (repeat (first | refine wkz ?_ | refine s_field (hr := ?_)))
      exact fin
    · rw [show brkO x.op y.op = decide (y.op = 4) by rw [h1, brkO_1, decide_eq_false h3, Bool.or_false]]
      (repeat (first | refine wkz ?_ | refine s_field (hr := ?_)))
      exact fin
  · by_cases h2 : x.op = 4
    · rw [h2, brkO_2]
      (repeat (first | refine wkz ?_ | refine s_field (hr := ?_)))
      exact fin
    · rw [brkO_3 h1 h2]
      (repeat (first | refine wkz ?_ | refine s_field (hr := ?_)))
      exact fin
theorem pgL_step {o : Int} {l : List Expr} {i : Nat} {k : Int} (h : i < l.length) (hk : 0 ≤ k) : pgL o (l.drop i) k = pgL o (l.drop (i + 1)) (pgE l[i] (k - (b1 (brkO o l[i].op) : Nat))) := by
  rw [List.drop_eq_getElem_cons h, pgL, if_neg (by omega)]
theorem pgL_stop {o : Int} {l : List Expr} {k : Int} (hk : k < 0) : pgL o l k = k := by
  cases l with
  | nil => rfl
  | cons y l => rw [pgL, if_pos hk]
abbrev exprBox (t : Bool) (x : Expr) : Ob := .box 85 [.d (iD x.op), .d (sD x.name), .d (exprsD t x.l)]
set_option maxHeartbeats 2000000 in
theorem parts_gen : ∀ (N : Nat) {t : Bool} {x : Expr} {k : Int}, esz x < N → esz x ≤ 100000000 → k ≤ 10000 → -1000000000 ≤ k → ACalls Try.prog 92 [.d (exprA t x), I k] [] (I (pgE x k)) [] := by
  intro N
  induction N with
  | zero => intro t x k h; omega
  | succ N ih =>
  intro t x k hn hN hk hk2
  refine ACalls.intro (n := 49) Try.func92 rfl rfl (by simp) (by rfl) ?_
  simp only [argFr]
  have hx := esz_eq x
  have hl := eszs_len x.l
  rw [pgE_eq]
  repeat (first | refine wk ?_ | refine s_field (hr := ?_))
  refine aw_cutB [(1, I (k - (ownP x.op x.l.length : Nat))), (2, .ptr 2 0)] [(2, exprBox t x)] rfl ?_ ?_
  · by_cases h3 : x.op = 3
    · have e : k - (ownP x.op x.l.length : Nat) = k := by unfold ownP; rw [if_pos h3]; omega
      rw [e]
      repeat (first | refine wk ?_ | refine s_field (hr := ?_))
      exact meet
    · by_cases h4 : x.op = 4
      · have e : k - (ownP x.op x.l.length : Nat) = k - maxI ((x.l.length : Int) - 1) 0 := by unfold ownP maxI; rw [if_neg h3, if_pos h4]; split <;> omega
        have hmx : 0 ≤ maxI ((x.l.length : Int) - 1) 0 ∧ maxI ((x.l.length : Int) - 1) 0 ≤ x.l.length := by unfold maxI; split <;> omega
        rw [e]
        repeat (first | refine wk ?_ | refine s_field (hr := ?_))
        exact meet
      · have e : k - (ownP x.op x.l.length : Nat) = k - 1 := by unfold ownP; rw [if_neg h3, if_neg h4]; omega
        rw [e]
        repeat (first | refine wk ?_ | refine s_field (hr := ?_))
        exact meet
  have hk0 : k - (ownP x.op x.l.length : Nat) ≤ 10000 ∧ -1100000001 ≤ k - (ownP x.op x.l.length : Nat) := by unfold ownP; split; omega; split <;> omega
  generalize k - (ownP x.op x.l.length : Nat) = k0 at *
  repeat (first | refine wk ?_ | refine s_field (hr := ?_))
  refine t_loop (X := Nat × Int) (fun s => s.1 ≤ x.l.length ∧ s.2 ≤ 10000 ∧ -2000000000 ≤ s.2 ∧ pgL x.op x.l k0 = pgL x.op (x.l.drop s.1) s.2) (fun s => [(5, I s.1), (1, I s.2), (2, .ptr 2 0)]) (fun _ => [(2, exprBox t x)]) (fun s => x.l.length - s.1) (0, k0) ⟨Nat.zero_le _, hk0.1, by dsimp only; omega, rfl⟩ ?_
  rintro ⟨i, q⟩ ⟨h1, h2, h3, h4⟩
  dsimp only at h1 h2 h3 h4 ⊢
  by_cases hlt : i < x.l.length
  · by_cases hq : 0 ≤ q
    · rw [pgL_step hlt hq] at h4
      have hm := eszs_mem (List.getElem_mem hlt)
      have hbr := brk_sim (t := t) (u := t) (x := x) (y := x.l[i])
      have hle := pgE_le x.l[i] (q - (b1 (brkO x.op x.l[i].op) : Nat))
      cases hb : brkO x.op x.l[i].op with
      | true =>
        have hih := ih (t := t) (x := x.l[i]) (k := q - 1) (by omega) (by omega) (by omega) (by omega)
        rw [hb] at hbr h4 hle
        have e : q - (b1 true : Nat) = q - 1 := rfl
        rw [e] at h4 hle
        repeat (first | refine wk ?_ | refine s_field (hr := ?_))
        refine s_call [] (hA := hbr) (hr := ?_)
        repeat (first | refine wk ?_ | refine s_field (hr := ?_))
        refine s_call [] (hA := hih) (hr := ?_)
        repeat (first | refine wk ?_ | refine s_field (hr := ?_))
        exact t_next (i + 1, pgE x.l[i] (q - 1)) (a := ⟨by omega, by dsimp only; omega, by dsimp only; omega, h4⟩) (b := by dsimp only; omega)
      | false =>
        have hih := ih (t := t) (x := x.l[i]) (k := q) (by omega) (by omega) (by omega) (by omega)
        rw [hb] at hbr h4 hle
        have e : q - (b1 false : Nat) = q := by simp [b1]
        rw [e] at h4 hle
        repeat (first | refine wk ?_ | refine s_field (hr := ?_))
        refine s_call [] (hA := hbr) (hr := ?_)
        repeat (first | refine wk ?_ | refine s_field (hr := ?_))
        refine s_call [] (hA := hih) (hr := ?_)
        repeat (first | refine wk ?_ | refine s_field (hr := ?_))
        exact t_next (i + 1, pgE x.l[i] q) (a := ⟨by omega, by dsimp only; omega, by dsimp only; omega, h4⟩) (b := by dsimp only; omega)
    · rw [h4, pgL_stop (by omega)]
      repeat (first | refine wk ?_ | refine s_field (hr := ?_))
      exact fin
  · rw [h4, List.drop_of_length_le (by omega), pgL]
    (repeat (first | refine wkz ?_ | refine s_field (hr := ?_)))
    exact fin
theorem prts_snoc (o : Int) : ∀ (l : List Expr) (y : Expr), prts o (l ++ [y]) = prts o l + (prt y + b1 (brkO o y.op))
  | [], y => by simp [prts]
  | x :: l, y => by rw [List.cons_append, prts, prts, prts_snoc o l y]; omega
theorem prts_take {o : Int} {l : List Expr} {i : Nat} (h : i < l.length) : prts o (l.take (i + 1)) = prts o (l.take i) + (prt l[i] + b1 (brkO o l[i].op)) := by
  rw [List.take_succ_eq_append_getElem h, prts_snoc]
mutual
theorem prt_le : ∀ (x : Expr), prt x ≤ 3 * esz x - 2
  | .mk o n l => by
    have h := prts_le o l
    have hl := eszs_len l
    rw [prt, esz]
    have h2 : ownP o l.length ≤ 1 ∨ ownP o l.length ≤ l.length := by unfold ownP; split; omega; split <;> omega
    omega
theorem prts_le (o : Int) : ∀ (l : List Expr), prts o l ≤ 3 * eszs l - l.length
  | [] => by simp [prts]
  | y :: l => by
    have hp := esz_pos y
    have hl := eszs_len l
    have h1 := prt_le y
    have h2 := prts_le o l
    have h3 : b1 (brkO o y.op) ≤ 1 := by cases brkO o y.op <;> simp [b1]
    rw [prts, eszs, List.length_cons]; omega
end
set_option maxHeartbeats 2000000 in
theorem partsOf_gen : ∀ (N : Nat) {t : Bool} {x : Expr}, esz x < N → esz x ≤ 100000000 → ACalls Try.prog 97 [.d (exprA t x)] [] (I (prt x)) [] := by
  intro N
  induction N with
  | zero => intro t x h; omega
  | succ N ih =>
  intro t x hn hN
  refine ACalls.intro (n := 44) Try.func97 rfl rfl (by simp) (by rfl) ?_
  simp only [argFr]
  have hx := esz_eq x
  have hl := eszs_len x.l
  rw [prt_eq]
  have hple := prts_le x.op x.l
  repeat (first | refine wk ?_ | refine s_field (hr := ?_))
  refine aw_cut1 [(3, I (ownP x.op x.l.length : Nat)), (1, .ptr 1 0)] [(1, exprBox t x)] rfl ?_ ?_
  · by_cases h4 : x.op = 4
    · by_cases h5 : 1 < x.l.length
      · have e : ((ownP x.op x.l.length : Nat) : Int) = (x.l.length : Int) - 1 := by unfold ownP; rw [if_neg (by omega), if_pos h4]; omega
        rw [e]
        repeat (first | refine wk ?_ | refine s_field (hr := ?_))
        exact meet
      · have e : ((ownP x.op x.l.length : Nat) : Int) = 0 := by unfold ownP; rw [if_neg (by omega), if_pos h4]; omega
        rw [e]
        repeat (first | refine wk ?_ | refine s_field (hr := ?_))
        exact meet
    · by_cases h3 : x.op = 3
      · have e : ((ownP x.op x.l.length : Nat) : Int) = 0 := by unfold ownP; rw [if_pos h3]; rfl
        rw [e]
        repeat (first | refine wk ?_ | refine s_field (hr := ?_))
        exact meet
      · have e : ((ownP x.op x.l.length : Nat) : Int) = 1 := by unfold ownP; rw [if_neg h3, if_neg h4]; rfl
        rw [e]
        repeat (first | refine wk ?_ | refine s_field (hr := ?_))
        exact meet
  have hk0 : ownP x.op x.l.length ≤ 100000001 := by unfold ownP; split; omega; split <;> omega
  generalize ownP x.op x.l.length = k0 at *
  repeat (first | refine wk ?_ | refine s_field (hr := ?_))
  refine t_loop (X := Nat) (fun i => i ≤ x.l.length) (fun i => [(4, I i), (3, I ((k0 + prts x.op (x.l.take i) : Nat) : Int)), (1, .ptr 1 0)]) (fun _ => [(1, exprBox t x)]) (fun i => x.l.length - i) 0 (Nat.zero_le _) ?_ (hf := ?_)
  rotate_left
  · exact ⟨.of rfl, int_eq rfl (by simp [prts]), .of rfl, trivial⟩
  intro i hi
  by_cases hlt : i < x.l.length
  · have hm := eszs_mem (List.getElem_mem hlt)
    have hbr := inBr_sim (t := t) (u := t) (x := x) (y := x.l[i])
    have hih := ih (t := t) (x := x.l[i]) (by omega) (by omega)
    have ht := prts_take (o := x.op) hlt
    have hle := prts_le x.op (x.l.take i)
    have hp1 := prt_le x.l[i]
    have hsz : eszs (x.l.take i) ≤ eszs x.l := by have := eszs_append (x.l.take i) (x.l.drop i); rw [List.take_append_drop] at this; omega
    cases hb : brkO x.op x.l[i].op with
    | true =>
      rw [hb] at hbr ht
      have e : b1 true = 1 := rfl
      rw [e] at ht
      repeat (first | refine wk ?_ | refine s_field (hr := ?_))
      refine s_call [] (hA := hih) (hr := ?_)
      repeat (first | refine wk ?_ | refine s_field (hr := ?_))
      refine s_call [] (hA := hbr) (hr := ?_)
      repeat (first | refine wk ?_ | refine s_field (hr := ?_))
      exact t_next (i + 1) (c := ⟨.of rfl, int_eq rfl (by rw [ht]; omega), .of rfl, trivial⟩)
    | false =>
      rw [hb] at hbr ht
      have e : b1 false = 0 := rfl
      rw [e] at ht
      repeat (first | refine wk ?_ | refine s_field (hr := ?_))
      refine s_call [] (hA := hih) (hr := ?_)
      repeat (first | refine wk ?_ | refine s_field (hr := ?_))
      refine s_call [] (hA := hbr) (hr := ?_)
      repeat (first | refine wk ?_ | refine s_field (hr := ?_))
      exact t_next (i + 1) (c := ⟨.of rfl, int_eq rfl (by rw [ht]; omega), .of rfl, trivial⟩)
  · rw [show x.l.take i = x.l from List.take_of_length_le (by omega)]
    repeat (first | refine wk ?_ | refine s_field (hr := ?_))
    exact fin
end Go.Proofs.Ytkfeccbahpmadaa
namespace Go.Proofs.Ytkfeccbahpmadaa
open Go.RowKit
set_option maxRecDepth 100000
-- SimX

theorem opB_1 {o p : Int} (h : 5 ≤ o) : opB o p = true := by unfold opB; rw [decide_eq_true h, Bool.true_or]
theorem opB_2 {o p : Int} (h : ¬ 5 ≤ o) : opB o p = brkO o p := by unfold opB; rw [decide_eq_false h, Bool.false_or]
theorem dpL_step {o k : Int} {l : List Expr} {i : Nat} {m : Int} (h : i < l.length) (hk : 0 ≤ k - (b1 (opB o l[i].op) : Nat)) : dpL o k (l.drop i) m = dpL o k (l.drop (i + 1)) (min m (dpE l[i] (k - (b1 (opB o l[i].op) : Nat)))) := by
  rw [List.drop_eq_getElem_cons h, dpL, if_neg (by omega)]
theorem dpL_stop {o k : Int} {l : List Expr} {i : Nat} {m : Int} (h : i < l.length) (hk : k - (b1 (opB o l[i].op) : Nat) < 0) : dpL o k (l.drop i) m = k - (b1 (opB o l[i].op) : Nat) := by
  rw [List.drop_eq_getElem_cons h, dpL, if_pos hk]
theorem min_minI (a c : Int) : min a c = minI a c := by unfold minI; split <;> omega
set_option maxHeartbeats 2000000 in
theorem deep_gen : ∀ (N : Nat) {t : Bool} {x : Expr} {k : Int}, esz x < N → esz x ≤ 100000000 → 0 ≤ k → k ≤ 10000 → ACalls Try.prog 93 [.d (exprA t x), I k] [] (I (dpE x k)) [] := by
  intro N
  induction N with
  | zero => intro t x k h; omega
  | succ N ih =>
  intro t x k hn hN hk hk2
  refine ACalls.intro (n := 38) Try.func93 rfl rfl (by simp) (by rfl) ?_
  simp only [argFr]
  have hx := esz_eq x
  have hl := eszs_len x.l
  rw [dpE_eq]
  repeat (first | refine wk ?_ | refine s_field (hr := ?_))
  refine t_loop (X := Nat × Int) (fun s => s.1 ≤ x.l.length ∧ s.2 ≤ k ∧ -1 ≤ s.2 ∧ dpL x.op k x.l k = dpL x.op k (x.l.drop s.1) s.2) (fun s => [(13, I s.1), (12, I x.l.length), (11, .d (exprsD t x.l)), (5, I s.2), (1, I k), (2, .ptr 2 0)]) (fun _ => [(2, exprBox t x)]) (fun s => x.l.length - s.1) (0, k) ⟨Nat.zero_le _, Int.le_refl _, by dsimp only; omega, rfl⟩ ?_
  rintro ⟨i, m⟩ ⟨h1, h2, h3, h4⟩
  dsimp only at h1 h2 h3 h4 ⊢
  by_cases hlt : i < x.l.length
  · have hm := eszs_mem (List.getElem_mem hlt)
    have hbr := brk_sim (t := t) (u := t) (x := x) (y := x.l[i])
    have hst := dpL_step (o := x.op) (k := k) (m := m) hlt
    have hsp := dpL_stop (o := x.op) (k := k) (m := m) hlt
    by_cases h5 : 5 ≤ x.op
    · rw [opB_1 h5] at hst hsp
      have e : k - (b1 true : Nat) = k - 1 := rfl
      rw [e] at hst hsp
      by_cases hz : k - 1 < 0
      · rw [h4, hsp hz]
        (repeat (first | refine wkz ?_ | refine s_field (hr := ?_)))
        exact fin
      · have hih := ih (t := t) (x := x.l[i]) (k := k - 1) (by omega) (by omega) (by omega) (by omega)
        have hle := dpE_le x.l[i] (k - 1) (by omega)
        rw [hst (by omega), min_minI] at h4
        have hmi : minI m (dpE x.l[i] (k - 1)) ≤ k ∧ -1 ≤ minI m (dpE x.l[i] (k - 1)) := by unfold minI; split <;> omega
        (repeat (first | refine wkz ?_ | refine s_field (hr := ?_)))
        refine s_call [] (hA := hih) (hr := ?_)
        (repeat (first | refine wkz ?_ | refine s_field (hr := ?_)))
        exact t_next (i + 1, minI m (dpE x.l[i] (k - 1))) (a := ⟨by omega, by dsimp only; omega, by dsimp only; omega, h4⟩) (b := by dsimp only; omega)
    · rw [opB_2 h5] at hst hsp
      cases hb : brkO x.op x.l[i].op with
      | true =>
        rw [hb] at hst hsp hbr
        have e : k - (b1 true : Nat) = k - 1 := rfl
        rw [e] at hst hsp
        by_cases hz : k - 1 < 0
        · rw [h4, hsp hz]
          (repeat (first | refine wkz ?_ | refine s_field (hr := ?_)))
          refine s_call [] (hA := hbr) (hr := ?_)
          (repeat (first | refine wkz ?_ | refine s_field (hr := ?_)))
          exact fin
        · have hih := ih (t := t) (x := x.l[i]) (k := k - 1) (by omega) (by omega) (by omega) (by omega)
          have hle := dpE_le x.l[i] (k - 1) (by omega)
          rw [hst (by omega), min_minI] at h4
          have hmi : minI m (dpE x.l[i] (k - 1)) ≤ k ∧ -1 ≤ minI m (dpE x.l[i] (k - 1)) := by unfold minI; split <;> omega
          (repeat (first | refine wkz ?_ | refine s_field (hr := ?_)))
          refine s_call [] (hA := hbr) (hr := ?_)
          (repeat (first | refine wkz ?_ | refine s_field (hr := ?_)))
          refine s_call [] (hA := hih) (hr := ?_)
          (repeat (first | refine wkz ?_ | refine s_field (hr := ?_)))
          exact t_next (i + 1, minI m (dpE x.l[i] (k - 1))) (a := ⟨by omega, by dsimp only; omega, by dsimp only; omega, h4⟩) (b := by dsimp only; omega)
      | false =>
        rw [hb] at hst hsp hbr
        have e : k - (b1 false : Nat) = k := by simp [b1]
        rw [e] at hst hsp
        have hih := ih (t := t) (x := x.l[i]) (k := k) (by omega) (by omega) (by omega) (by omega)
        have hle := dpE_le x.l[i] k (by omega)
        rw [hst (by omega), min_minI] at h4
        have hmi : minI m (dpE x.l[i] k) ≤ k ∧ -1 ≤ minI m (dpE x.l[i] k) := by unfold minI; split <;> omega
        (repeat (first | refine wkz ?_ | refine s_field (hr := ?_)))
        refine s_call [] (hA := hbr) (hr := ?_)
        (repeat (first | refine wkz ?_ | refine s_field (hr := ?_)))
        refine s_call [] (hA := hih) (hr := ?_)
        (repeat (first | refine wkz ?_ | refine s_field (hr := ?_)))
        exact t_next (i + 1, minI m (dpE x.l[i] k)) (a := ⟨by omega, by dsimp only; omega, by dsimp only; omega, h4⟩) (b := by dsimp only; omega)
  · rw [h4, List.drop_of_length_le (by omega), dpL]
    repeat (first | refine wk ?_ | refine s_field (hr := ?_))
    exact fin
set_option maxHeartbeats 2000000 in
theorem openIn_gen : ∀ (N : Nat) {t : Bool} {x : Expr}, esz x < N → esz x ≤ 100000000 → ACalls Try.prog 98 [.d (exprA t x)] [] (I (opn x)) [] := by
  intro N
  induction N with
  | zero => intro t x h; omega
  | succ N ih =>
  intro t x hn hN
  refine ACalls.intro (n := 38) Try.func98 rfl rfl (by simp) (by rfl) ?_
  simp only [argFr]
  have hx := esz_eq x
  have hl := eszs_len x.l
  rw [opn_eq]
  repeat (first | refine wk ?_ | refine s_field (hr := ?_))
  refine t_loop (X := Nat) (fun i => i ≤ x.l.length) (fun i => [(4, I i), (3, I ((opns x.op (x.l.take i) : Nat) : Int)), (1, .ptr 1 0)]) (fun _ => [(1, exprBox t x)]) (fun i => x.l.length - i) 0 (Nat.zero_le _) ?_ (hf := ?_)
  rotate_left
  · exact ⟨.of rfl, int_eq rfl (by simp [opns]), .of rfl, trivial⟩
  intro i hi
  by_cases hlt : i < x.l.length
  · have hm := eszs_mem (List.getElem_mem hlt)
    have hbr := inBr_sim (t := t) (u := t) (x := x) (y := x.l[i])
    have hih := ih (t := t) (x := x.l[i]) (by omega) (by omega)
    have ht := opns_take (o := x.op) hlt
    have hle := opn_lt x.l[i]
    repeat (first | refine wk ?_ | refine s_field (hr := ?_))
    refine s_call [] (hA := hih) (hr := ?_)
    by_cases h5 : 5 ≤ x.op
    · rw [opB_1 h5] at ht
      have e : b1 true = 1 := rfl
      rw [e] at ht
      by_cases hg : opns x.op (x.l.take i) < opn x.l[i] + 1
      · (repeat (first | refine wkz ?_ | refine s_field (hr := ?_)))
        exact t_next (i + 1) (c := ⟨.of rfl, int_eq rfl (by rw [ht]; omega), .of rfl, trivial⟩)
      · (repeat (first | refine wkz ?_ | refine s_field (hr := ?_)))
        exact t_next (i + 1) (c := ⟨.of rfl, int_eq rfl (by rw [ht]; omega), .of rfl, trivial⟩)
    · rw [opB_2 h5] at ht
      cases hb : brkO x.op x.l[i].op with
      | true =>
        rw [hb] at hbr ht
        have e : b1 true = 1 := rfl
        rw [e] at ht
        by_cases hg : opns x.op (x.l.take i) < opn x.l[i] + 1
        · (repeat (first | refine wkz ?_ | refine s_field (hr := ?_)))
          refine s_call [] (hA := hbr) (hr := ?_)
          (repeat (first | refine wkz ?_ | refine s_field (hr := ?_)))
          exact t_next (i + 1) (c := ⟨.of rfl, int_eq rfl (by rw [ht]; omega), .of rfl, trivial⟩)
        · (repeat (first | refine wkz ?_ | refine s_field (hr := ?_)))
          refine s_call [] (hA := hbr) (hr := ?_)
          (repeat (first | refine wkz ?_ | refine s_field (hr := ?_)))
          exact t_next (i + 1) (c := ⟨.of rfl, int_eq rfl (by rw [ht]; omega), .of rfl, trivial⟩)
      | false =>
        rw [hb] at hbr ht
        have e : b1 false = 0 := rfl
        rw [e] at ht
        by_cases hg : opns x.op (x.l.take i) < opn x.l[i]
        · (repeat (first | refine wkz ?_ | refine s_field (hr := ?_)))
          refine s_call [] (hA := hbr) (hr := ?_)
          (repeat (first | refine wkz ?_ | refine s_field (hr := ?_)))
          exact t_next (i + 1) (c := ⟨.of rfl, int_eq rfl (by rw [ht]; omega), .of rfl, trivial⟩)
        · (repeat (first | refine wkz ?_ | refine s_field (hr := ?_)))
          refine s_call [] (hA := hbr) (hr := ?_)
          (repeat (first | refine wkz ?_ | refine s_field (hr := ?_)))
          exact t_next (i + 1) (c := ⟨.of rfl, int_eq rfl (by rw [ht]; omega), .of rfl, trivial⟩)
  · rw [show x.l.take i = x.l from List.take_of_length_le (by omega)]
    repeat (first | refine wk ?_ | refine s_field (hr := ?_))
    exact fin
end Go.Proofs.Ytkfeccbahpmadaa
