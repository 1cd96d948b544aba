/-
  Sim: SyntaxSames returns true, of texts that are not too great for the model.
-/
import Derived.Test.YtgcagjamjdnglaaSyN
set_option linter.unusedVariables false
set_option linter.unusedSimpArgs false
set_option linter.unusedSectionVars false
namespace Go.Proofs.Ytgcagjamjdnglaa
open Go.RowKit
set_option maxRecDepth 100000
-- SimX

mutual
theorem eqE_comm : ∀ (x y : Expr), eqE x y = eqE y x
  | .mk o n l, .mk o' n' l' => by
    rw [eqE, eqE, eqEs_comm l l', decide_eq_decide.2 (eq_comm (a := o) (b := o')), decide_eq_decide.2 (eq_comm (a := n) (b := n'))]
theorem eqEs_comm : ∀ (x y : List Expr), eqEs x y = eqEs y x
  | [], [] => rfl
  | [], _ :: _ => by simp [eqEs]
  | _ :: _, [] => by simp [eqEs]
  | x :: l, y :: l' => by rw [eqEs, eqEs, eqE_comm x y, eqEs_comm l l']
end
mutual
theorem eqE_refl : ∀ (x : Expr), eqE x x = true
  | .mk o n l => by rw [eqE, eqEs_refl l]; simp
theorem eqEs_refl : ∀ (x : List Expr), eqEs x x = true
  | [] => by simp [eqEs]
  | x :: l => by rw [eqEs, eqE_refl x, eqEs_refl l]; rfl
end
theorem eqD_comm (pl : Bool) (x y : Dfn) : eqD pl x y = eqD pl y x := by
  unfold eqD
  rw [eqE_comm x.e y.e, decide_eq_decide.2 (eq_comm (a := x.name) (b := y.name)), decide_eq_decide.2 (eq_comm (a := x.at_) (b := y.at_))]
theorem sameT_comm (pl : Bool) : ∀ (x y : List Dfn), sameT pl x y = sameT pl y x
  | [], [] => rfl
  | [], _ :: _ => by simp [sameT]
  | _ :: _, [] => by simp [sameT]
  | x :: l, y :: l' => by rw [sameT, sameT, eqD_comm pl x y, sameT_comm pl l l']
theorem sameT_refl (pl : Bool) : ∀ (x : List Dfn), sameT pl x x = true
  | [] => rfl
  | x :: l => by rw [sameT, sameT_refl pl l, eqD, eqE_refl]; simp
set_option maxHeartbeats 2000000 in
theorem syntaxSames_sim {t u : Bool} {a b : List Dfn} (ha : TextFit a) (hb : TextFit b) : ACalls Try.prog 8 [.d (textD t a), .d (textD u b)] [] (B true) [] := by
  have g1 := greatText_sim (t := t) ha
  have g2 := greatText_sim (t := u) hb
  have s1 := same_sim (t := t) (u := u) ha hb
  have s2 := sameText_sim (t := t) (u := u) (pl := false) ha hb
  have s3 := same_sim (t := u) (u := t) hb ha
  have s4 := same_sim (t := t) (u := t) ha ha
  rw [sameT_comm false b a] at s3
  rw [sameT_refl] at s4
  refine ACalls.intro (n := 34) Try.func8 rfl rfl (by simp) (by rfl) ?_
  simp only [argFr]
  generalize sameT false a b = q at *
  cases hga : greatT a with
  | true =>
    rw [hga] at g1
    repeat (first | refine wk ?_ | refine s_field (hr := ?_))
    refine s_call [] (hA := syntaxBegun_sim) (hr := ?_)
    repeat (first | refine wk ?_ | refine s_field (hr := ?_))
    refine s_call [] (hA := g1) (hr := ?_)
    repeat (first | refine wk ?_ | refine s_field (hr := ?_))
    exact fin
  | false =>
    rw [hga] at g1
    cases hgb : greatT b with
    | true =>
      rw [hgb] at g2
      repeat (first | refine wk ?_ | refine s_field (hr := ?_))
      refine s_call [] (hA := syntaxBegun_sim) (hr := ?_)
      repeat (first | refine wk ?_ | refine s_field (hr := ?_))
      refine s_call [] (hA := g1) (hr := ?_)
      repeat (first | refine wk ?_ | refine s_field (hr := ?_))
      refine s_call [] (hA := g2) (hr := ?_)
      repeat (first | refine wk ?_ | refine s_field (hr := ?_))
      exact fin
    | false =>
      rw [hgb] at g2
      have e : decide (q = q) = true := decide_eq_true rfl
      cases q with
      | true =>
        repeat (first | refine wk ?_ | refine s_field (hr := ?_))
        refine s_call [] (hA := syntaxBegun_sim) (hr := ?_)
        repeat (first | refine wk ?_ | refine s_field (hr := ?_))
        refine s_call [] (hA := g1) (hr := ?_)
        repeat (first | refine wk ?_ | refine s_field (hr := ?_))
        refine s_call [] (hA := g2) (hr := ?_)
        repeat (first | refine wk ?_ | refine s_field (hr := ?_))
        refine s_call [] (hA := s1) (hr := ?_)
        repeat (first | refine wk ?_ | refine s_field (hr := ?_))
        refine s_call [] (hA := s2) (hr := ?_)
        repeat (first | refine wk ?_ | refine s_field (hr := ?_))
        refine s_call [] (hA := s3) (hr := ?_)
        repeat (first | refine wk ?_ | refine s_field (hr := ?_))
        refine s_call [] (hA := s1) (hr := ?_)
        repeat (first | refine wk ?_ | refine s_field (hr := ?_))
        refine s_call [] (hA := s4) (hr := ?_)
        repeat (first | refine wk ?_ | refine s_field (hr := ?_))
        exact fin
      | false =>
        repeat (first | refine wk ?_ | refine s_field (hr := ?_))
        refine s_call [] (hA := syntaxBegun_sim) (hr := ?_)
        repeat (first | refine wk ?_ | refine s_field (hr := ?_))
        refine s_call [] (hA := g1) (hr := ?_)
        repeat (first | refine wk ?_ | refine s_field (hr := ?_))
        refine s_call [] (hA := g2) (hr := ?_)
        repeat (first | refine wk ?_ | refine s_field (hr := ?_))
        refine s_call [] (hA := s1) (hr := ?_)
        repeat (first | refine wk ?_ | refine s_field (hr := ?_))
        refine s_call [] (hA := s2) (hr := ?_)
        repeat (first | refine wk ?_ | refine s_field (hr := ?_))
        refine s_call [] (hA := s3) (hr := ?_)
        repeat (first | refine wk ?_ | refine s_field (hr := ?_))
        refine s_call [] (hA := s1) (hr := ?_)
        repeat (first | refine wk ?_ | refine s_field (hr := ?_))
        refine s_call [] (hA := s4) (hr := ?_)
        repeat (first | refine wk ?_ | refine s_field (hr := ?_))
        exact fin
end Go.Proofs.Ytgcagjamjdnglaa
