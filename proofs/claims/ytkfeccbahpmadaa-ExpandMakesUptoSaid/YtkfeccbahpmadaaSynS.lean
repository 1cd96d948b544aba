/-
  Sim: SyntaxSames returns true, of texts that are not too great for the model.
-/
import Derived.Test.YtkfeccbahpmadaaSyN
set_option linter.unusedVariables false
set_option linter.unusedSimpArgs false
set_option linter.unusedSectionVars false
namespace Go.Proofs.Ytkfeccbahpmadaa
open Go.RowKit
set_option maxRecDepth 100000
-- SimX

mutual
theorem eqE_comm : ∀ (x y : Expr), eqE x y = eqE y x
  | .mk o n l, .mk o' n' l' => by
    rw [eqE, eqE, eqEs_comm l l', decide_eq_decide.2 (eq_comm (a := o) (b := o')), decide_eq_decide.2 (eq_comm (a := n) (b := n'))]
theorem eqEs_comm : ∀ (x y : List Expr), eqEs x y = eqEs y x
  | [], [] => rfl
  | [], _ :: _ => by simp [eqEs]
  | _ :: _, [] => by simp [eqEs]
  | x :: l, y :: l' => by rw [eqEs, eqEs, eqE_comm x y, eqEs_comm l l']
end
mutual
theorem eqE_refl : ∀ (x : Expr), eqE x x = true
  | .mk o n l => by rw [eqE, eqEs_refl l]; simp
theorem eqEs_refl : ∀ (x : List Expr), eqEs x x = true
  | [] => by simp [eqEs]
  | x :: l => by rw [eqEs, eqE_refl x, eqEs_refl l]; rfl
end
theorem eqD_comm (pl : Bool) (x y : Dfn) : eqD pl x y = eqD pl y x := by
  unfold eqD
  rw [eqE_comm x.e y.e, decide_eq_decide.2 (eq_comm (a := x.name) (b := y.name)), decide_eq_decide.2 (eq_comm (a := x.at_) (b := y.at_))]
theorem sameT_comm (pl : Bool) : ∀ (x y : List Dfn), sameT pl x y = sameT pl y x
  | [], [] => rfl
  | [], _ :: _ => by simp [sameT]
  | _ :: _, [] => by simp [sameT]
  | x :: l, y :: l' => by rw [sameT, sameT, eqD_comm pl x y, sameT_comm pl l l']
theorem sameT_refl (pl : Bool) : ∀ (x : List Dfn), sameT pl x x = true
  | [] => rfl
  | x :: l => by rw [sameT, sameT_refl pl l, eqD, eqE_refl]; simp
end Go.Proofs.Ytkfeccbahpmadaa
