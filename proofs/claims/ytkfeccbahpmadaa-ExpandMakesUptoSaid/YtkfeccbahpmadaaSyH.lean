/-
  Sim: expressions that are the same: the reference's sameExpr. Sim: texts that are the same: the reference's SameText.
-/
import Derived.Test.YtkfeccbahpmadaaSynG
set_option linter.unusedVariables false
set_option linter.unusedSimpArgs false
set_option linter.unusedSectionVars false
namespace Go.Proofs.Ytkfeccbahpmadaa
open Go.RowKit
set_option maxRecDepth 100000
-- SimX

mutual
def eqE : Expr → Expr → Bool
  | .mk o n l, .mk o' n' l' => decide (o = o') && (decide (n = n') && eqEs l l')
def eqEs : List Expr → List Expr → Bool
  | [], [] => true
  | x :: l, y :: l' => eqE x y && eqEs l l'
  | _, _ => false
end
theorem eqE_eq (x y : Expr) : eqE x y = (decide (x.op = y.op) && (decide (x.name = y.name) && eqEs x.l y.l)) := by cases x; cases y; rw [eqE]; rfl
theorem eqEs_len : ∀ {l l' : List Expr}, l.length ≠ l'.length → eqEs l l' = false
  | [], [], h => by simp at h
  | [], _ :: _, _ => by simp [eqEs]
  | _ :: _, [], _ => by simp [eqEs]
  | x :: l, y :: l', h => by rw [eqEs, eqEs_len (l := l) (l' := l') (by simpa using h), Bool.and_false]
theorem eqEs_step {l l' : List Expr} {i : Nat} (h1 : i < l.length) (h2 : i < l'.length) : eqEs (l.drop i) (l'.drop i) = (eqE l[i] l'[i] && eqEs (l.drop (i + 1)) (l'.drop (i + 1))) := by
  rw [List.drop_eq_getElem_cons h1, List.drop_eq_getElem_cons h2, eqEs]
theorem eqEs_end {l l' : List Expr} {i : Nat} (h1 : ¬ i < l.length) (h2 : ¬ i < l'.length) : eqEs (l.drop i) (l'.drop i) = true := by
  rw [List.drop_of_length_le (by omega), List.drop_of_length_le (by omega), eqEs]
set_option maxHeartbeats 4000000 in
theorem sameExprR_gen : ∀ (N : Nat) {t u : Bool} {x y : Expr}, esz x < N → esz x ≤ 100000000 → esz y ≤ 100000000 → ACalls Try.prog 89 [.d (exprA t x), .d (exprA u y)] [] (B (eqE x y)) [] := by
  intro N
  induction N with
  | zero => intro t u x y h; omega
  | succ N ih =>
  intro t u x y hn hx hy
  have ex := esz_eq x
  have ey := esz_eq y
  have hlx := eszs_len x.l
  have hly := eszs_len y.l
  refine ACalls.intro (n := 46) Try.func89 rfl rfl (by simp) (by rfl) ?_
  simp only [argFr]
  rw [eqE_eq]
  by_cases h1 : x.op = y.op
  rotate_left
  · rw [decide_eq_false h1, Bool.false_and]
    repeat (first | refine wk ?_ | refine s_field (hr := ?_))
    exact fin
  rw [decide_eq_true h1, Bool.true_and]
  by_cases h2 : x.name = y.name
  rotate_left
  · rw [decide_eq_false h2, Bool.false_and]
    repeat (first | refine wk ?_ | refine s_field (hr := ?_))
    exact fin
  rw [decide_eq_true h2, Bool.true_and]
  by_cases h3 : x.l.length = y.l.length
  rotate_left
  · rw [eqEs_len h3]
    repeat (first | refine wk ?_ | refine s_field (hr := ?_))
    exact fin
  repeat (first | refine wk ?_ | refine s_field (hr := ?_))
  --@
  refine t_loop (X := Nat) (fun i => i ≤ x.l.length ∧ eqEs x.l y.l = eqEs (x.l.drop i) (y.l.drop i)) (fun i => [(5, I i), (2, .ptr 2 0), (3, .ptr 3 0)]) (fun _ => [(2, .box 85 [.d (iD x.op), .d (sD x.name), .d (exprsD t x.l)]), (3, .box 85 [.d (iD y.op), .d (sD y.name), .d (exprsD u y.l)])]) (fun i => x.l.length - i) 0 ⟨Nat.zero_le _, rfl⟩ ?_
  rintro i ⟨hi, hp⟩
  by_cases hlt : i < x.l.length
  · have hlt2 : i < y.l.length := by omega
    have m1 := eszs_mem (List.getElem_mem hlt)
    have m2 := eszs_mem (List.getElem_mem hlt2)
    have hs := eqEs_step hlt hlt2
    have hih := ih (t := t) (u := u) (x := x.l[i]) (y := y.l[i]) (by omega) (by omega) (by omega)
    cases hc : eqE x.l[i] y.l[i] with
    | true =>
      rw [hc, Bool.true_and] at hs
      rw [hc] at hih
      repeat (first | refine wk ?_ | refine s_field (hr := ?_))
      refine s_call [] (hA := hih) (hr := ?_)
      repeat (first | refine wk ?_ | refine s_field (hr := ?_))
      exact t_next (i + 1) (a := ⟨by omega, hp.trans hs⟩)
    | false =>
      rw [hc, Bool.false_and] at hs
      rw [hc] at hih
      rw [hp, hs]
      repeat (first | refine wk ?_ | refine s_field (hr := ?_))
      refine s_call [] (hA := hih) (hr := ?_)
      repeat (first | refine wk ?_ | refine s_field (hr := ?_))
      exact fin
  · rw [hp, eqEs_end hlt (by omega)]
    repeat (first | refine wk ?_ | refine s_field (hr := ?_))
    exact fin
end Go.Proofs.Ytkfeccbahpmadaa
namespace Go.Proofs.Ytkfeccbahpmadaa
open Go.RowKit
set_option maxRecDepth 100000
-- SimX

def eqD (pl : Bool) (x y : Dfn) : Bool := decide (x.name = y.name) && ((!pl || decide (x.at_ = y.at_)) && eqE x.e y.e)
def sameT (pl : Bool) : List Dfn → List Dfn → Bool
  | [], [] => true
  | x :: a, y :: b => eqD pl x y && sameT pl a b
  | _, _ => false
theorem sameT_len {pl : Bool} : ∀ {l l' : List Dfn}, l.length ≠ l'.length → sameT pl l l' = false
  | [], [], h => by simp at h
  | [], _ :: _, _ => by simp [sameT]
  | _ :: _, [], _ => by simp [sameT]
  | x :: l, y :: l', h => by rw [sameT, sameT_len (l := l) (l' := l') (by simpa using h), Bool.and_false]
theorem sameT_step {pl : Bool} {l l' : List Dfn} {i : Nat} (h1 : i < l.length) (h2 : i < l'.length) : sameT pl (l.drop i) (l'.drop i) = (eqD pl l[i] l'[i] && sameT pl (l.drop (i + 1)) (l'.drop (i + 1))) := by
  rw [List.drop_eq_getElem_cons h1, List.drop_eq_getElem_cons h2, sameT]
theorem sameT_end {pl : Bool} {l l' : List Dfn} {i : Nat} (h1 : ¬ i < l.length) (h2 : ¬ i < l'.length) : sameT pl (l.drop i) (l'.drop i) = true := by
  rw [List.drop_of_length_le (by omega), List.drop_of_length_le (by omega), sameT]
structure TextFit (a : List Dfn) : Prop where
  len : a.length ≤ 100000000
  ex : ∀ d ∈ a, esz d.e ≤ 100000000
set_option maxHeartbeats 4000000 in
theorem sameText_sim {t u pl : Bool} {a b : List Dfn} (ha : TextFit a) (hb : TextFit b) : ACalls Try.prog 36 [.d (textD t a), .d (textD u b), B pl] [] (B (sameT pl a b)) [] := by
  refine ACalls.intro (n := 57) Try.func36 rfl rfl (by simp) (by rfl) ?_
  simp only [argFr]
  have hl := ha.len
  have hl2 := hb.len
  by_cases h3 : a.length = b.length
  rotate_left
  · rw [sameT_len h3]
    repeat (first | refine wk ?_ | refine s_field (hr := ?_))
    exact fin
  repeat (first | refine wk ?_ | refine s_field (hr := ?_))
  refine t_loop (X := Nat) (fun i => i ≤ a.length ∧ sameT pl a b = sameT pl (a.drop i) (b.drop i)) (fun i => [(7, I i), (3, .ptr 3 0), (4, .ptr 4 0), (2, B pl)]) (fun _ => [(3, .box 44 [.d (dfnsD t a)]), (4, .box 44 [.d (dfnsD u b)])]) (fun i => a.length - i) 0 ⟨Nat.zero_le _, rfl⟩ ?_
  rintro i ⟨hi, hp⟩
  by_cases hlt : i < a.length
  · have hlt2 : i < b.length := by omega
    have m1 := ha.ex _ (List.getElem_mem hlt)
    have m2 := hb.ex _ (List.getElem_mem hlt2)
    have hs := sameT_step (pl := pl) hlt hlt2
    have hih := sameExprR_gen _ (t := t) (u := u) (x := a[i].e) (y := b[i].e) (Nat.lt_succ_self _) m1 m2
    by_cases h1 : a[i].name = b[i].name
    rotate_left
    · rw [show eqD pl a[i] b[i] = false by unfold eqD; rw [decide_eq_false h1, Bool.false_and], Bool.false_and] at hs
      rw [hp, hs]
      cases pl with
      | true =>
        (repeat (first | refine wkz ?_ | refine s_field (hr := ?_)))
        exact fin
      | false =>
        (repeat (first | refine wkz ?_ | refine s_field (hr := ?_)))
        exact fin
    · cases pl with
      | false =>
        cases hc : eqE a[i].e b[i].e with
        | true =>
          rw [show eqD false a[i] b[i] = true by unfold eqD; rw [decide_eq_true h1, hc]; rfl, Bool.true_and] at hs
          rw [hc] at hih
          (repeat (first | refine wkz ?_ | refine s_field (hr := ?_)))
          refine s_call [] (hA := hih) (hr := ?_)
          (repeat (first | refine wkz ?_ | refine s_field (hr := ?_)))
          exact t_next (i + 1) (a := ⟨by omega, hp.trans hs⟩)
        | false =>
          rw [show eqD false a[i] b[i] = false by unfold eqD; rw [decide_eq_true h1, hc]; rfl, Bool.false_and] at hs
          rw [hc] at hih
          rw [hp, hs]
          (repeat (first | refine wkz ?_ | refine s_field (hr := ?_)))
          refine s_call [] (hA := hih) (hr := ?_)
          (repeat (first | refine wkz ?_ | refine s_field (hr := ?_)))
          exact fin
      | true =>
        by_cases h2 : a[i].at_ = b[i].at_
        rotate_left
        · rw [show eqD true a[i] b[i] = false by unfold eqD; rw [decide_eq_true h1, decide_eq_false h2]; rfl, Bool.false_and] at hs
          rw [hp, hs]
          (repeat (first | refine wkz ?_ | refine s_field (hr := ?_)))
          exact fin
        cases hc : eqE a[i].e b[i].e with
        | true =>
          rw [show eqD true a[i] b[i] = true by unfold eqD; rw [decide_eq_true h1, decide_eq_true h2, hc]; rfl, Bool.true_and] at hs
          rw [hc] at hih
          (repeat (first | refine wkz ?_ | refine s_field (hr := ?_)))
          refine s_call [] (hA := hih) (hr := ?_)
          (repeat (first | refine wkz ?_ | refine s_field (hr := ?_)))
          exact t_next (i + 1) (a := ⟨by omega, hp.trans hs⟩)
        | false =>
          rw [show eqD true a[i] b[i] = false by unfold eqD; rw [decide_eq_true h1, decide_eq_true h2, hc]; rfl, Bool.false_and] at hs
          rw [hc] at hih
          rw [hp, hs]
          (repeat (first | refine wkz ?_ | refine s_field (hr := ?_)))
          refine s_call [] (hA := hih) (hr := ?_)
          (repeat (first | refine wkz ?_ | refine s_field (hr := ?_)))
          exact fin
  · rw [hp, sameT_end hlt (by omega)]
    repeat (first | refine wk ?_ | refine s_field (hr := ?_))
    exact fin
end Go.Proofs.Ytkfeccbahpmadaa
