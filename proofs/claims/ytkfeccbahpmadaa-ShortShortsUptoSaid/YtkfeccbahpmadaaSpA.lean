/-
  Sim: the splitter. Sim: the splitter: lift, split. Sim: the splitter: split.
-/
import Derived.Test.YtkfeccbahpmadaaFrC
import Derived.Test.YtkfeccbahpmadaaP1
import Derived.Test.YtkfeccbahpmadaaS5
set_option linter.unusedVariables false
set_option linter.unusedSimpArgs false
set_option linter.unusedSectionVars false
namespace Go.Proofs.Ytkfeccbahpmadaa
open Go.RowKit
set_option maxRecDepth 100000

theorem fresh_many (s : SP) : s.fresh.many = (s.many || decide (s.vars = 64)) := by
  have h : s.fresh.vars = s.vars + 1 := rfl
  have h2 : s.fresh.rules = s.rules := rfl
  rw [Bool.eq_iff_iff]; simp only [SP.many, h, h2, Bool.or_eq_true, decide_eq_true_eq]
  constructor <;> (intro h3; omega)
theorem rule_many (s : SP) (v : Int) (right : List Int) (l : List Frag) : (s.rule v right l).many = (s.many || decide ((s.rules.length : Int) = 160)) := by
  have h : (s.rule v right l).vars = s.vars := rfl
  have h2 : (s.rule v right l).rules.length = s.rules.length + 1 := by simp [SP.rule]
  rw [Bool.eq_iff_iff]; simp only [SP.many, h, h2, Bool.or_eq_true, decide_eq_true_eq]
  constructor <;> (intro h3; omega)
end Go.Proofs.Ytkfeccbahpmadaa
namespace Go.Proofs.Ytkfeccbahpmadaa
open Go.RowKit
set_option maxRecDepth 100000

theorem SP.lift_new {s : SP} {x : Int} {k : Nat} (hk : -1 - x = (k : Int)) (hl : k < s.term.length) (h1 : s.term[k] < 0) :
    s.lift x = SP.rule ⟨s.vars + 1, s.rules, s.frags, s.term.set k s.vars⟩ s.vars [x] [] ∧ s.lifted x = s.vars := by
  have e : (-1 - x).toNat = k := by omega
  have e2 : s.lift x = SP.rule ⟨s.vars + 1, s.rules, s.frags, s.term.set k s.vars⟩ s.vars [x] [] := by
    rw [SP.lift, if_neg (by omega), e, List.getD_eq_getElem?_getD, List.getElem?_eq_getElem hl, Option.getD_some, if_pos h1]; rfl
  refine ⟨e2, ?_⟩
  rw [SP.lifted, if_neg (by omega), e2, e]
  simp [SP.rule, List.getD_eq_getElem?_getD, hl]
theorem SP.lift_old {s : SP} {x : Int} {k : Nat} (hk : -1 - x = (k : Int)) (hl : k < s.term.length) (h1 : ¬ s.term[k] < 0) :
    s.lift x = s ∧ s.lifted x = s.term[k] := by
  have e : (-1 - x).toNat = k := by omega
  have e2 : s.lift x = s := by
    rw [SP.lift, if_neg (by omega), e, List.getD_eq_getElem?_getD, List.getElem?_eq_getElem hl, Option.getD_some, if_neg h1]
  refine ⟨e2, ?_⟩
  rw [SP.lifted, if_neg (by omega), e2, e, List.getD_eq_getElem?_getD, List.getElem?_eq_getElem hl]; rfl
end Go.Proofs.Ytkfeccbahpmadaa
namespace Go.Proofs.Ytkfeccbahpmadaa
open Go.RowKit
set_option maxRecDepth 100000

theorem SP.lift_small (s : SP) (x : Int) : s.vars ≤ (s.lift x).vars ∧ (s.lift x).vars ≤ s.vars + 1 ∧ (s.lift x).rules.length ≤ s.rules.length + 1 ∧ (s.lift x).frags.length ≤ s.frags.length + 1 := by
  unfold SP.lift
  split
  · omega
  · split
    · simp; omega
    · omega
theorem SP.lifts_small : ∀ (l : List Int) (s : SP), s.vars ≤ (s.lifts l).vars ∧ (s.lifts l).vars ≤ s.vars + l.length ∧ (s.lifts l).rules.length ≤ s.rules.length + l.length ∧ (s.lifts l).frags.length ≤ s.frags.length + l.length
  | [], s => by simp [SP.lifts]
  | x :: l, s => by
    have h1 := s.lift_small x
    have h2 := SP.lifts_small l (s.lift x)
    simp only [SP.lifts, List.length_cons]
    omega
theorem SP.lifts_term : ∀ (l : List Int) (s : SP), (s.lifts l).term.length = s.term.length
  | [], s => rfl
  | x :: l, s => by rw [SP.lifts, SP.lifts_term l, SP.lift_term]
theorem SP.lifteds_snoc (s : SP) (l : List Int) (x : Int) : s.lifteds (l ++ [x]) = s.lifteds l ++ [(s.lifts l).lifted x] := by rw [SP.lifteds_append]; rfl
theorem SP.lifts_snoc (s : SP) (l : List Int) (x : Int) : s.lifts (l ++ [x]) = (s.lifts l).lift x := by rw [SP.lifts_append]; rfl
/-- So many more nonterminals. -/
def SP.more (s : SP) (n : Nat) : SP := ⟨s.vars + n, s.rules, s.frags, s.term⟩
theorem SP.more_fresh (s : SP) (n : Nat) : (s.more n).fresh = s.more (n + 1) := by simp [SP.more, SP.fresh]; omega
def SP.pairs (s : SP) (v r : Int) (l rs : List Int) (k : Nat) : SP := ⟨s.vars, s.rules ++ pairR v l rs k, s.frags ++ pairF r k, s.term⟩
theorem SP.pairs_rule (s : SP) (v r : Int) (l rs : List Int) (k : Nat) : (s.pairs v r l rs k).rule (if k = 0 then v else rs.getD (k - 1) 0) [l.getD k 0, rs.getD k 0] (if k = 0 then [.mk 1 r holes2] else holes2) = s.pairs v r l rs (k + 1) := by
  simp [SP.pairs, SP.rule, pairR, pairF]
theorem holes2_d : fragsD false holes2 = .sl false 3 [.agg [iD 2, iD 0, fragsD false []], .agg [iD 2, iD 1, fragsD false []]] := by simp [holes2, fragsD, fragD, fragDs]
abbrev holeD (k : Int) : D := .agg [iD 2, iD k, nilT]
theorem holeD_le (k : Int) : DLe (holeD k) (.agg [iD 2, iD k, fragsD false []]) := .agg (.cons (.refl _) (.cons (.refl _) (.cons (.nil _ _) .nil)))
end Go.Proofs.Ytkfeccbahpmadaa
