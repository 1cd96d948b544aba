/-
  Sim: syntax.sameExpr, by slices.EqualFunc. Sim: syntax.sameExpr. Sim: syntax.Same.
-/
import Derived.Test.YtkfeccbahpmadaaSyH
set_option linter.unusedVariables false
set_option linter.unusedSimpArgs false
set_option linter.unusedSectionVars false
namespace Go.Proofs.Ytkfeccbahpmadaa
open Go.RowKit
set_option maxRecDepth 100000
-- SimX

set_option maxHeartbeats 2000000 in
theorem eqFuncE_sim {t u : Bool} {l l' : List Expr} {f : FuncId} (hl : l.length ≤ 100000000) (hl' : l'.length ≤ 100000000) (hc : ∀ i (h : i < l.length) (h' : i < l'.length), ACalls Try.prog f [.d (exprA t l[i]), .d (exprA u l'[i])] [] (B (eqE l[i] l'[i])) []) :
    ACalls Try.prog 164 [.d (exprsD t l), .d (exprsD u l'), .fn (.func f) [] []] [] (B (eqEs l l')) [] := by
  refine ACalls.intro (n := 32) Try.func164 rfl rfl (by simp) (by rfl) ?_
  simp only [argFr]
  by_cases h3 : l.length = l'.length
  rotate_left
  · rw [eqEs_len h3]
    repeat (first | refine wk ?_ | refine s_field (hr := ?_))
    exact fin
  repeat (first | refine wk ?_ | refine s_field (hr := ?_))
  refine t_loop (X := Nat) (fun i => i ≤ l.length ∧ eqEs l l' = eqEs (l.drop i) (l'.drop i)) (fun i => [(17, I i), (16, I l.length), (15, .d (exprsD t l)), (1, .d (exprsD u l')), (2, .fn (.func f) [] [])]) (fun _ => []) (fun i => l.length - i) 0 ⟨Nat.zero_le _, rfl⟩ ?_
  rintro i ⟨hi, hp⟩
  by_cases hlt : i < l.length
  · have hlt2 : i < l'.length := by omega
    have hs := eqEs_step hlt hlt2
    have hci := hc i hlt hlt2
    cases hq : eqE l[i] l'[i] with
    | true =>
      rw [hq, Bool.true_and] at hs
      rw [hq] at hci
      repeat (first | refine wk ?_ | refine s_field (hr := ?_))
      --@
      refine s_call [] (hA := hci) (hr := ?_)
      repeat (first | refine wk ?_ | refine s_field (hr := ?_))
      exact t_next (i + 1) (a := ⟨by omega, hp.trans hs⟩)
    | false =>
      rw [hq, Bool.false_and] at hs
      rw [hq] at hci
      rw [hp, hs]
      repeat (first | refine wk ?_ | refine s_field (hr := ?_))
      refine s_call [] (hA := hci) (hr := ?_)
      repeat (first | refine wk ?_ | refine s_field (hr := ?_))
      exact fin
  · rw [hp, eqEs_end hlt (by omega)]
    repeat (first | refine wk ?_ | refine s_field (hr := ?_))
    exact fin
end Go.Proofs.Ytkfeccbahpmadaa
namespace Go.Proofs.Ytkfeccbahpmadaa
open Go.RowKit
set_option maxRecDepth 100000
-- SimX

set_option maxHeartbeats 2000000 in
theorem sameExprS_gen : ∀ (N : Nat) {t u : Bool} {x y : Expr}, esz x < N → esz x ≤ 100000000 → esz y ≤ 100000000 → ACalls Try.prog 107 [.d (exprA t x), .d (exprA u y)] [] (B (eqE x y)) [] := by
  intro N
  induction N with
  | zero => intro t u x y h; omega
  | succ N ih =>
  intro t u x y hn hx hy
  have ex := esz_eq x
  have ey := esz_eq y
  have hlx := eszs_len x.l
  have hly := eszs_len y.l
  have hq := eqFuncE_sim (t := t) (u := u) (l := x.l) (l' := y.l) (f := 107) (by omega) (by omega) (fun i h h' => ih (by have := eszs_mem (List.getElem_mem h); omega) (by have := eszs_mem (List.getElem_mem h); omega) (by have := eszs_mem (List.getElem_mem h'); omega))
  refine ACalls.intro (n := 24) Try.func107 rfl rfl (by simp) (by rfl) ?_
  simp only [argFr]
  rw [eqE_eq]
  by_cases h1 : x.op = y.op
  rotate_left
  · rw [decide_eq_false h1, Bool.false_and]
    (repeat (first | refine wkz ?_ | refine s_field (hr := ?_)))
    exact fin
  by_cases h2 : x.name = y.name
  rotate_left
  · rw [decide_eq_true h1, Bool.true_and, decide_eq_false h2, Bool.false_and]
    (repeat (first | refine wkz ?_ | refine s_field (hr := ?_)))
    exact fin
  rw [decide_eq_true h1, Bool.true_and, decide_eq_true h2, Bool.true_and]
  repeat (first | refine wk ?_ | refine s_field (hr := ?_))
  --@
  refine s_call [] (hA := hq) (hr := ?_)
  repeat (first | refine wk ?_ | refine s_field (hr := ?_))
  exact fin
end Go.Proofs.Ytkfeccbahpmadaa
namespace Go.Proofs.Ytkfeccbahpmadaa
open Go.RowKit
set_option maxRecDepth 100000
-- SimX

abbrev dfnA (t : Bool) (d : Dfn) : D := .agg [sD d.name, iD d.at_, iD d.e.op, sD d.e.name, exprsD t d.e.l]
theorem same1_sim {t u : Bool} {x y : Dfn} (hx : esz x.e ≤ 100000000) (hy : esz y.e ≤ 100000000) : ACalls Try.prog 106 [.d (dfnA t x), .d (dfnA u y)] [] (B (eqD false x y)) [] := by
  have hs := sameExprS_gen _ (t := t) (u := u) (x := x.e) (y := y.e) (Nat.lt_succ_self _) hx hy
  refine ACalls.intro (n := 17) Try.func106 rfl rfl (by simp) (by rfl) ?_
  simp only [argFr]
  by_cases h1 : x.name = y.name
  · rw [show eqD false x y = eqE x.e y.e by unfold eqD; rw [decide_eq_true h1]; rfl]
    repeat (first | refine wk ?_ | refine s_field (hr := ?_))
    refine s_call [] (hA := hs) (hr := ?_)
    repeat (first | refine wk ?_ | refine s_field (hr := ?_))
    exact fin
  · rw [show eqD false x y = false by unfold eqD; rw [decide_eq_false h1]; rfl]
    (repeat (first | refine wkz ?_ | refine s_field (hr := ?_)))
    exact fin
set_option maxHeartbeats 2000000 in
theorem eqFuncD_sim {t u : Bool} {l l' : List Dfn} {f : FuncId} (hl : l.length ≤ 100000000) (hl' : l'.length ≤ 100000000) (hc : ∀ i (h : i < l.length) (h' : i < l'.length), ACalls Try.prog f [.d (dfnA t l[i]), .d (dfnA u l'[i])] [] (B (eqD false l[i] l'[i])) []) :
    ACalls Try.prog 105 [.d (dfnsD t l), .d (dfnsD u l'), .fn (.func f) [] []] [] (B (sameT false l l')) [] := by
  refine ACalls.intro (n := 32) Try.func105 rfl rfl (by simp) (by rfl) ?_
  simp only [argFr]
  by_cases h3 : l.length = l'.length
  rotate_left
  · rw [sameT_len h3]
    repeat (first | refine wk ?_ | refine s_field (hr := ?_))
    exact fin
  repeat (first | refine wk ?_ | refine s_field (hr := ?_))
  refine t_loop (X := Nat) (fun i => i ≤ l.length ∧ sameT false l l' = sameT false (l.drop i) (l'.drop i)) (fun i => [(17, I i), (16, I l.length), (15, .d (dfnsD t l)), (1, .d (dfnsD u l')), (2, .fn (.func f) [] [])]) (fun _ => []) (fun i => l.length - i) 0 ⟨Nat.zero_le _, rfl⟩ ?_
  rintro i ⟨hi, hp⟩
  by_cases hlt : i < l.length
  · have hlt2 : i < l'.length := by omega
    have hs := sameT_step (pl := false) hlt hlt2
    have hci := hc i hlt hlt2
    cases hq : eqD false l[i] l'[i] with
    | true =>
      rw [hq, Bool.true_and] at hs
      rw [hq] at hci
      repeat (first | refine wk ?_ | refine s_field (hr := ?_))
      refine s_call [] (hA := hci) (hr := ?_)
      repeat (first | refine wk ?_ | refine s_field (hr := ?_))
      exact t_next (i + 1) (a := ⟨by omega, hp.trans hs⟩)
    | false =>
      rw [hq, Bool.false_and] at hs
      rw [hq] at hci
      rw [hp, hs]
      repeat (first | refine wk ?_ | refine s_field (hr := ?_))
      refine s_call [] (hA := hci) (hr := ?_)
      repeat (first | refine wk ?_ | refine s_field (hr := ?_))
      exact fin
  · rw [hp, sameT_end hlt (by omega)]
    repeat (first | refine wk ?_ | refine s_field (hr := ?_))
    exact fin
theorem same_sim {t u : Bool} {a b : List Dfn} (ha : TextFit a) (hb : TextFit b) : ACalls Try.prog 44 [.d (textD t a), .d (textD u b)] [] (B (sameT false a b)) [] := by
  have hq := eqFuncD_sim (t := t) (u := u) (l := a) (l' := b) (f := 106) ha.len hb.len (fun i h h' => same1_sim (ha.ex _ (List.getElem_mem h)) (hb.ex _ (List.getElem_mem h')))
  refine ACalls.intro (n := 10) Try.func44 rfl rfl (by simp) (by rfl) ?_
  simp only [argFr]
  repeat (first | refine wk ?_ | refine s_field (hr := ?_))
  refine s_call [] (hA := hq) (hr := ?_)
  repeat (first | refine wk ?_ | refine s_field (hr := ?_))
  exact fin
end Go.Proofs.Ytkfeccbahpmadaa
