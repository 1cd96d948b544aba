/-
  The program's data as Lean's, and as data in memory.
-/
import Derived.Test.YticnpbopelgmiaaTab
import Derived.KernelRfl
set_option linter.unusedVariables false
set_option linter.unusedSimpArgs false
set_option linter.unusedSectionVars false
namespace Go.Proofs.Yticnpbopelgmiaa
open Go.RowKit

structure Rule where
  left : Int
  right : List Int
deriving DecidableEq, Inhabited
structure Gram where
  vars : Int
  terms : Int
  start : Int
  rules : List Rule
deriving DecidableEq, Inhabited
inductive Frag where
  | mk (op n : Int) (l : List Frag)
inductive Tree where
  | mk (rule : Int) (kids : List Tree)
structure Step where
  g : Gram
  frags : List (List Frag)
  empty : List Tree
structure Fault where
  code : Int
  at_ : Int
deriving DecidableEq, Inhabited
instance : Inhabited Frag := ⟨.mk 0 0 []⟩
instance : Inhabited Tree := ⟨.mk 0 []⟩
def Frag.op : Frag → Int | .mk o _ _ => o
def Frag.n : Frag → Int | .mk _ n _ => n
def Frag.l : Frag → List Frag | .mk _ _ l => l
def Tree.rule : Tree → Int | .mk r _ => r
def Tree.kids : Tree → List Tree | .mk _ k => k

def ruleD (t : Bool) (r : Rule) : D := .agg [iD r.left, ints t r.right]
abbrev rulesD (t : Bool) (rs : List Rule) : D := .sl t 2 (rs.map (ruleD t))
def gramD (t : Bool) (g : Gram) : D := .agg [iD g.vars, iD g.terms, iD g.start, rulesD t g.rules]
mutual
def fragD (t : Bool) : Frag → D
  | .mk o n l => .agg [iD o, iD n, .sl t 3 (fragDs t l)]
def fragDs (t : Bool) : List Frag → List D
  | [] => []
  | f :: l => fragD t f :: fragDs t l
end
abbrev fragsD (t : Bool) (l : List Frag) : D := .sl t 3 (l.map (fragD t))
mutual
def treeD (t : Bool) : Tree → D
  | .mk r k => .agg [iD r, .sl t 2 (treeDs t k)]
def treeDs (t : Bool) : List Tree → List D
  | [] => []
  | x :: l => treeD t x :: treeDs t l
end
abbrev treesD (t : Bool) (l : List Tree) : D := .sl t 2 (l.map (treeD t))
theorem fragDs_map (t : Bool) : ∀ l : List Frag, fragDs t l = l.map (fragD t)
  | [] => rfl
  | f :: l => by simp [fragDs, fragDs_map t l]
theorem treeDs_map (t : Bool) : ∀ l : List Tree, treeDs t l = l.map (treeD t)
  | [] => rfl
  | f :: l => by simp [treeDs, treeDs_map t l]
theorem fragD_eq (t : Bool) (f : Frag) : fragD t f = .agg [iD f.op, iD f.n, fragsD t f.l] := by
  cases f; simp [fragD, fragDs_map, Frag.op, Frag.n, Frag.l]
theorem treeD_eq (t : Bool) (x : Tree) : treeD t x = .agg [iD x.rule, treesD t x.kids] := by
  cases x; simp [treeD, treeDs_map, Tree.rule, Tree.kids]
def stepD (t : Bool) (s : Step) : D := .agg [iD s.g.vars, iD s.g.terms, iD s.g.start, rulesD t s.g.rules, .sl t 1 (s.frags.map (fragsD t)), treesD t s.empty]
def faultD (f : Fault) : D := .agg [iD f.code, iD f.at_]

/-! ### Handed on for a while; clean -/
theorem rule_view (t : Bool) (r : Rule) : (ruleD t r).view = ruleD true r := by simp [ruleD, D.view, D.views, views_ints, iD]
theorem rules_view (t : Bool) (rs : List Rule) : D.views (rs.map (ruleD t)) = rs.map (ruleD true) := views_map (rule_view t) rs
mutual
theorem frag_view (t : Bool) : ∀ f : Frag, (fragD t f).view = fragD true f
  | .mk o n l => by simp [fragD, D.view, D.views, frags_view t l, iD]
theorem frags_view (t : Bool) : ∀ l : List Frag, D.views (fragDs t l) = fragDs true l
  | [] => rfl
  | f :: l => by simp [fragDs, D.views, frag_view t f, frags_view t l]
end
mutual
theorem tree_view (t : Bool) : ∀ f : Tree, (treeD t f).view = treeD true f
  | .mk o l => by simp [treeD, D.view, D.views, trees_view t l, iD]
theorem trees_view (t : Bool) : ∀ l : List Tree, D.views (treeDs t l) = treeDs true l
  | [] => rfl
  | f :: l => by simp [treeDs, D.views, tree_view t f, trees_view t l]
end
theorem ints_clean (xs : List Int) : D.cleans (xs.map iD) := cleans_map iD_clean xs
theorem rule_clean (r : Rule) : (ruleD false r).clean := ⟨trivial, ⟨rfl, ints_clean _⟩, trivial⟩
theorem rules_clean (rs : List Rule) : D.cleans (rs.map (ruleD false)) := cleans_map rule_clean rs
mutual
theorem frag_clean : ∀ f : Frag, (fragD false f).clean
  | .mk o n l => ⟨trivial, trivial, ⟨rfl, frags_clean l⟩, trivial⟩
theorem frags_clean : ∀ l : List Frag, D.cleans (fragDs false l)
  | [] => trivial
  | f :: l => ⟨frag_clean f, frags_clean l⟩
end
mutual
theorem tree_clean : ∀ f : Tree, (treeD false f).clean
  | .mk o l => ⟨trivial, ⟨rfl, trees_clean l⟩, trivial⟩
theorem trees_clean : ∀ l : List Tree, D.cleans (treeDs false l)
  | [] => trivial
  | f :: l => ⟨tree_clean f, trees_clean l⟩
end
abbrev treeA (t : Bool) (x : Tree) : D := .agg [iD x.rule, treesD t x.kids]
theorem treeA_eq (t : Bool) (x : Tree) : treeD t x = treeA t x := treeD_eq t x
abbrev fragA (t : Bool) (x : Frag) : D := .agg [iD x.op, iD x.n, fragsD t x.l]
theorem fragA_eq (t : Bool) (x : Frag) : fragD t x = fragA t x := fragD_eq t x
/-- Rows of rules and the like, looked at for a while. -/
inductive ViewMore : List D → List D → Prop
  | rules (t : Bool) (rs : List Rule) : ViewMore (rs.map (ruleD t)) (rs.map (ruleD true))
  | trees (t : Bool) (rs : List Tree) : ViewMore (rs.map (treeD t)) (rs.map (treeD true))
  | frags (t : Bool) (rs : List Frag) : ViewMore (rs.map (fragD t)) (rs.map (fragD true))
  | tree1 (t : Bool) (x : Tree) : ViewMore [treeA t x] [treeA true x]
  | frag1 (t : Bool) (x : Frag) : ViewMore [fragA t x] [fragA true x]
theorem views_more {xs ys : List D} (h : ViewMore xs ys) : D.views xs = ys := by
  cases h with
  | rules t rs => exact rules_view t rs
  | trees t rs => exact views_map (tree_view t) rs
  | frags t rs => exact views_map (frag_view t) rs
  | tree1 t x => rw [← treeA_eq, ← treeA_eq, D.views, D.views, tree_view]
  | frag1 t x => rw [← fragA_eq, ← fragA_eq, D.views, D.views, frag_view]
theorem trees_clean_map (l : List Tree) : D.cleans (l.map (treeD false)) := by rw [← treeDs_map]; exact trees_clean l
theorem frags_clean_map (l : List Frag) : D.cleans (l.map (fragD false)) := by rw [← fragDs_map]; exact frags_clean l
end Go.Proofs.Yticnpbopelgmiaa
