/-
  Sim: ways that come together again: the rest is walked once.
-/
import Derived.Test.YtflgmalhpglklaaS5
set_option linter.unusedVariables false
set_option linter.unusedSimpArgs false
set_option linter.unusedSectionVars false
namespace Go.Proofs.Ytflgmalhpglklaa
open Go.RowKit

section
variable {P : Program} {n : Nat} {Q : Exit → Fr → Hp → Prop} {fr : Fr} {h : Hp}
def Meet (F0 : Fr) (H0 : Hp) : Fr → Hp → Prop := fun fr h => FLe fr F0 ∧ HLe h H0
/-- Where x's ways end as usual, they all have what F0, H0 say; what follows is walked from there. -/
theorem aw_cut {x y : Code} (F0 : Fr) (H0 : Hp) (hi : (frIn H0 F0 && hpIn H0 H0) = true) (h1 : aw P n x (andThen (Meet F0 H0) Q) fr h) (h2 : aw P n y Q F0 H0) : aw P n (.seq x y) Q fr h :=
  aw_seq (aw_mono h1 (fun e fr h q => by
    cases e with
    | normal => exact aw_weak F0 H0 q.1 q.2 hi h2
    | _ => exact q))
theorem aw_cut1 {x y : Code} (F0 : Fr) (H0 : Hp) (hi : (frIn H0 F0 && hpIn H0 H0) = true) (h1 : aw P n x (andThen (Meet F0 H0) Q) fr h) (h2 : aw P n y Q F0 H0) : aw P n x (andThen (aw P n y Q) Q) fr h :=
  aw_mono h1 (fun e fr h q => by
    cases e with
    | normal => exact aw_weak F0 H0 q.1 q.2 hi h2
    | _ => exact q)
theorem aw_cutB {x y : Code} {id : Nat} (F0 : Fr) (H0 : Hp) (hi : (frIn H0 F0 && hpIn H0 H0) = true) (h1 : aw P n x (inBlock id (andThen (Meet F0 H0) Q)) fr h) (h2 : aw P n y Q F0 H0) : aw P n x (inBlock id (andThen (aw P n y Q) Q)) fr h :=
  aw_mono h1 (fun e fr h q => by
    have key : ∀ e fr h, andThen (Meet F0 H0) Q e fr h → andThen (aw P n y Q) Q e fr h := fun e fr h q => by
      cases e with
      | normal => exact aw_weak F0 H0 q.1 q.2 hi h2
      | _ => exact q
    cases e with
    | exit id' =>
      simp only [inBlock] at q ⊢
      cases hb : Nat.beq id' id with
      | true => rw [hb] at q; exact key .normal _ _ q
      | false => rw [hb] at q; exact key (.exit id') _ _ q
    | normal => exact key .normal _ _ q
    | ret => exact key .ret _ _ q
    | goto _ => exact key (.goto _) _ _ q
    | panic _ => exact key (.panic _) _ _ q
    | outgrown => exact key .outgrown _ _ q)
theorem meet {F0 : Fr} {H0 : Hp} (hf : FLe fr F0 := by repeat' (first | exact trivial | exact VLe.refl _ | (refine And.intro ?_ ?_))) (hh : HLe h H0 := by repeat' (first | exact trivial | exact HElt.of rfl | (refine And.intro ?_ ?_))) : Meet F0 H0 fr h := ⟨hf, hh⟩
end
end Go.Proofs.Ytflgmalhpglklaa
