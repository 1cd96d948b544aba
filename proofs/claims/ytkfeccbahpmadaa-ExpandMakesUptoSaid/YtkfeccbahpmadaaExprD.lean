/-
  Texts' expressions, definitions, tokens as Lean's data, and in memory.
-/
import Derived.Test.YtkfeccbahpmadaaData
import Derived.Test.YtkfeccbahpmadaaTokBr
set_option linter.unusedVariables false
set_option linter.unusedSimpArgs false
set_option linter.unusedSectionVars false
namespace Go.Proofs.Ytkfeccbahpmadaa
open Go.RowKit

inductive Expr where
  | mk (op : Int) (name : ByteArray) (l : List Expr)
instance : Inhabited Expr := ⟨.mk 0 ⟨#[]⟩ []⟩
def Expr.op : Expr → Int | .mk o _ _ => o
def Expr.name : Expr → ByteArray | .mk _ n _ => n
def Expr.l : Expr → List Expr | .mk _ _ l => l
structure Dfn where
  name : ByteArray
  at_ : Int
  e : Expr
mutual
def exprD (t : Bool) : Expr → D
  | .mk o n l => .agg [iD o, sD n, .sl t 3 (exprDs t l)]
def exprDs (t : Bool) : List Expr → List D
  | [] => []
  | f :: l => exprD t f :: exprDs t l
end
abbrev exprsD (t : Bool) (l : List Expr) : D := .sl t 3 (l.map (exprD t))
theorem exprDs_map (t : Bool) : ∀ l : List Expr, exprDs t l = l.map (exprD t)
  | [] => rfl
  | f :: l => by simp [exprDs, exprDs_map t l]
theorem exprD_eq (t : Bool) (f : Expr) : exprD t f = .agg [iD f.op, sD f.name, exprsD t f.l] := by
  cases f; simp [exprD, exprDs_map, Expr.op, Expr.name, Expr.l]
abbrev exprA (t : Bool) (x : Expr) : D := .agg [iD x.op, sD x.name, exprsD t x.l]
theorem exprA_eq (t : Bool) (x : Expr) : exprD t x = exprA t x := exprD_eq t x
def dfnD (t : Bool) (d : Dfn) : D := .agg [sD d.name, iD d.at_, iD d.e.op, sD d.e.name, exprsD t d.e.l]
abbrev dfnsD (t : Bool) (l : List Dfn) : D := .sl t 5 (l.map (dfnD t))
def textD (t : Bool) (l : List Dfn) : D := .agg [dfnsD t l]

mutual
theorem expr_view (t : Bool) : ∀ f : Expr, (exprD t f).view = exprD true f
  | .mk o n l => by simp [exprD, D.view, D.views, exprs_view t l, iD, sD]
theorem exprs_view (t : Bool) : ∀ l : List Expr, D.views (exprDs t l) = exprDs true l
  | [] => rfl
  | f :: l => by simp [exprDs, D.views, expr_view t f, exprs_view t l]
end
theorem views_exprs (t : Bool) (l : List Expr) : D.views (l.map (exprD t)) = l.map (exprD true) := views_map (expr_view t) l
theorem views_expr1 (t : Bool) (x : Expr) : D.views [exprA t x] = [exprA true x] := by rw [← exprA_eq, ← exprA_eq, D.views, D.views, expr_view]
theorem dfn_view (t : Bool) (d : Dfn) : (dfnD t d).view = dfnD true d := by simp [dfnD, D.view, D.views, views_exprs, iD, sD]
theorem views_defs (t : Bool) (l : List Dfn) : D.views (l.map (dfnD t)) = l.map (dfnD true) := views_map (dfn_view t) l
theorem tk_view (k : Tk) : (tkD k).view = tkD k := by simp [tkD, D.view, D.views, iD, sD]
theorem views_toks (l : List Tk) : D.views (l.map tkD) = l.map tkD := views_map tk_view l
mutual
theorem expr_clean : ∀ f : Expr, (exprD false f).clean
  | .mk o n l => ⟨trivial, trivial, ⟨rfl, exprs_clean l⟩, trivial⟩
theorem exprs_clean : ∀ l : List Expr, D.cleans (exprDs false l)
  | [] => trivial
  | f :: l => ⟨expr_clean f, exprs_clean l⟩
end
theorem IsElt.exprE {h : Hp} {t u : Bool} {sz i off : Nat} {xs : List Expr} (hi : i < xs.length) : IsElt h (.eptr t sz (xs.map (exprD u)) i off) (exprA u xs[i]) off [] := by
  have := IsElt.mapE (h := h) (t := t) (sz := sz) (off := off) (f := exprD u) hi
  rwa [exprA_eq] at this
theorem IsElt.exprO {h : Hp} {u : Bool} {k m sz i off : Nat} {e : TypeId} {xs : List Expr} (hk : hget h k = some (.row e sz (xs.map (exprD u)))) (hm : (xs.map (exprD u)).length = m) (hi : i < xs.length) : IsElt h (.optr k m i off) (exprA u xs[i]) off [(k, some (.row e sz (xs.map (exprD u))))] := by
  have := IsElt.mapO (f := exprD u) (off := off) hk hm hi
  rwa [exprA_eq] at this
/-! ### Sizes -/
mutual
def esz : Expr → Nat
  | .mk _ _ l => 1 + eszs l
def eszs : List Expr → Nat
  | [] => 0
  | x :: r => esz x + eszs r
end
theorem esz_eq (x : Expr) : esz x = 1 + eszs x.l := by cases x; rfl
theorem esz_pos (x : Expr) : 1 ≤ esz x := by rw [esz_eq]; omega
theorem eszs_append : ∀ (a b : List Expr), eszs (a ++ b) = eszs a + eszs b
  | [], b => by simp [eszs]
  | x :: a, b => by simp only [List.cons_append, eszs, eszs_append a b]; omega
theorem eszs_mem {x : Expr} : ∀ {l : List Expr}, x ∈ l → esz x ≤ eszs l
  | y :: l, h => by
    simp only [eszs]
    rcases List.mem_cons.1 h with rfl | h
    · omega
    · have := eszs_mem h; omega
theorem eszs_len : ∀ (l : List Expr), l.length ≤ eszs l
  | [] => by simp
  | x :: l => by have := eszs_len l; have := esz_pos x; simp only [List.length_cons, eszs]; omega
theorem eszs_take {l : List Expr} {i : Nat} (h : i < l.length) : eszs (l.take (i + 1)) = eszs (l.take i) + esz l[i] := by
  rw [List.take_succ_eq_append_getElem h, eszs_append]; simp [eszs]
end Go.Proofs.Ytkfeccbahpmadaa
