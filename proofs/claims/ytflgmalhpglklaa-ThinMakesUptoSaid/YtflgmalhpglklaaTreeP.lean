/-
  Trees, plain: counted, fitting, their words, their order.
-/
import Derived.Test.YtflgmalhpglklaaG1
set_option linter.unusedVariables false
set_option linter.unusedSimpArgs false
set_option linter.unusedSectionVars false
namespace Go.Proofs.Ytflgmalhpglklaa
open Go.RowKit

theorem Tree.eta (x : Tree) : x = .mk x.rule x.kids := by cases x; rfl
theorem Tree.lt {x y : Tree} (h : y ∈ x.kids) : SizeOf.sizeOf y < SizeOf.sizeOf x := by
  cases x with
  | mk r k =>
    simp only [Tree.kids] at h
    have := List.sizeOf_lt_of_mem h
    simp; omega
theorem Tree.ind {P : Tree → Prop} (h : ∀ x, (∀ y ∈ x.kids, P y) → P x) : ∀ x, P x := by
  have key : ∀ (n : Nat) (x : Tree), SizeOf.sizeOf x < n → P x := by
    intro n
    induction n with
    | zero => intro x hx; omega
    | succ n ih => exact fun x hx => h x (fun y hy => ih y (by have := Tree.lt hy; omega))
  exact fun x => key _ x (Nat.lt_succ_self _)

/-! ### Counted -/
mutual
def cnt : Tree → Nat
  | .mk _ k => 1 + cnts k
def cnts : List Tree → Nat
  | [] => 0
  | x :: r => cnt x + cnts r
end
theorem cnt_eq (x : Tree) : cnt x = 1 + cnts x.kids := by cases x; rfl
theorem cnt_pos (x : Tree) : 1 ≤ cnt x := by rw [cnt_eq]; omega
theorem cnts_append : ∀ (a b : List Tree), cnts (a ++ b) = cnts a + cnts b
  | [], b => by simp [cnts]
  | x :: a, b => by simp only [List.cons_append, cnts, cnts_append a b]; omega
theorem cnts_mem {x : Tree} : ∀ {l : List Tree}, x ∈ l → cnt x ≤ cnts l
  | y :: l, h => by
    simp only [cnts]
    rcases List.mem_cons.1 h with rfl | h
    · omega
    · have := cnts_mem h; omega
theorem cnts_len : ∀ (l : List Tree), l.length ≤ cnts l
  | [] => by simp
  | x :: l => by have := cnts_len l; have := cnt_pos x; simp only [List.length_cons, cnts]; omega
theorem cnts_drop {l : List Tree} {i : Nat} (h : i < l.length) : cnts (l.drop i) = cnt l[i] + cnts (l.drop (i + 1)) := by
  rw [List.drop_eq_getElem_cons h, cnts]
theorem cnts_take {l : List Tree} {i : Nat} (h : i < l.length) : cnts (l.take (i + 1)) = cnts (l.take i) + cnt l[i] := by
  rw [List.take_succ_eq_append_getElem h, cnts_append]; simp [cnts]
/-- As far as so many. -/
def capN (m n : Nat) : Nat := if n ≤ m then n else m + 1
/-! ### Fitting -/
mutual
def fits (g : Gram) : Tree → Int → Bool
  | .mk r k, v => match (if 0 ≤ r then g.rules[r.toNat]? else none) with
    | none => false
    | some ru => decide (ru.left = v) && (decide ((kids ru.right).length = k.length) && fitss g k (kids ru.right))
def fitss (g : Gram) : List Tree → List Int → Bool
  | x :: k, v :: vs => fits g x v && fitss g k vs
  | _, _ => true
end
theorem fits_eq (g : Gram) (x : Tree) (v : Int) : fits g x v = match (if 0 ≤ x.rule then g.rules[x.rule.toNat]? else none) with
    | none => false
    | some ru => decide (ru.left = v) && (decide ((kids ru.right).length = x.kids.length) && fitss g x.kids (kids ru.right)) := by cases x; rw [fits]; rfl
theorem fitss_drop {g : Gram} {k : List Tree} {vs : List Int} {i : Nat} (h1 : i < k.length) (h2 : i < vs.length) : fitss g (k.drop i) (vs.drop i) = (fits g k[i] vs[i] && fitss g (k.drop (i + 1)) (vs.drop (i + 1))) := by
  rw [List.drop_eq_getElem_cons h1, List.drop_eq_getElem_cons h2, fitss]
theorem fitss_end {g : Gram} {k : List Tree} {vs : List Int} {i : Nat} (h1 : ¬ i < k.length) : fitss g (k.drop i) (vs.drop i) = true := by
  rw [List.drop_of_length_le (by omega)]; simp [fitss]

/-! ### Words -/
mutual
def wordT (g : Gram) : Tree → List Int
  | .mk r k => wordL g ((g.rules[r.toNat]?).getD ⟨0, []⟩).right k
  termination_by x => (cnt x, 0)
  decreasing_by simp [cnt, Prod.lex_def]
def wordL (g : Gram) : List Int → List Tree → List Int
  | [], _ => []
  | s :: ss, k => if s < 0 then (-1 - s) :: wordL g ss k else match k with
    | x :: k => wordT g x ++ wordL g ss k
    | [] => wordL g ss []
  termination_by ss k => (cnts k, ss.length + 1)
  decreasing_by all_goals (simp [cnts, Prod.lex_def]; try omega)
end

/-! ### Order -/
mutual
def ordT : Tree → Tree → Int
  | .mk r k, .mk s l => if r < s then -1 else if s < r then 1 else ordL k l
def ordL : List Tree → List Tree → Int
  | [], [] => 0
  | [], _ :: _ => -1
  | _ :: _, [] => 1
  | a :: k, b :: l => if ordT a b = 0 then ordL k l else ordT a b
end
theorem ordT_eq (a b : Tree) : ordT a b = if a.rule < b.rule then -1 else if b.rule < a.rule then 1 else ordL a.kids b.kids := by cases a; cases b; rw [ordT]; rfl
theorem ordL_step {k l : List Tree} {i : Nat} (h1 : i < k.length) (h2 : i < l.length) : ordL (k.drop i) (l.drop i) = if ordT k[i] l[i] = 0 then ordL (k.drop (i + 1)) (l.drop (i + 1)) else ordT k[i] l[i] := by
  rw [List.drop_eq_getElem_cons h1, List.drop_eq_getElem_cons h2, ordL]
theorem ordL_lt {k l : List Tree} {i : Nat} (h1 : ¬ i < k.length) (h2 : i < l.length) : ordL (k.drop i) (l.drop i) = -1 := by
  rw [List.drop_of_length_le (by omega), List.drop_eq_getElem_cons h2, ordL]
theorem ordL_gt {k l : List Tree} {i : Nat} (h1 : i < k.length) (h2 : ¬ i < l.length) : ordL (k.drop i) (l.drop i) = 1 := by
  rw [List.drop_eq_getElem_cons h1, List.drop_of_length_le (show l.length ≤ i by omega), ordL]
theorem ordL_end {k l : List Tree} {i : Nat} (h1 : ¬ i < k.length) (h2 : ¬ i < l.length) : ordL (k.drop i) (l.drop i) = 0 := by
  rw [List.drop_of_length_le (by omega), List.drop_of_length_le (by omega), ordL]
mutual
theorem ordT_refl : ∀ (a : Tree), ordT a a = 0
  | .mk r k => by rw [ordT, if_neg (by omega), if_neg (by omega)]; exact ordL_refl k
theorem ordL_refl : ∀ (a : List Tree), ordL a a = 0
  | [] => by simp [ordL]
  | a :: k => by rw [ordL, ordT_refl a, if_pos rfl]; exact ordL_refl k
end
/-! ### As data -/
theorem IsElt.treeE {h : Hp} {t u : Bool} {sz i off : Nat} {xs : List Tree} (hi : i < xs.length) : IsElt h (.eptr t sz (xs.map (treeD u)) i off) (treeA u xs[i]) off [] := by
  have := IsElt.mapE (h := h) (t := t) (sz := sz) (off := off) (f := treeD u) hi
  rwa [treeA_eq] at this
theorem IsElt.treeO {h : Hp} {u : Bool} {k m sz i off : Nat} {e : TypeId} {xs : List Tree} (hk : hget h k = some (.row e sz (xs.map (treeD u)))) (hm : (xs.map (treeD u)).length = m) (hi : i < xs.length) : IsElt h (.optr k m i off) (treeA u xs[i]) off [(k, some (.row e sz (xs.map (treeD u))))] := by
  have := IsElt.mapO (f := treeD u) (off := off) hk hm hi
  rwa [treeA_eq] at this
end Go.Proofs.Ytflgmalhpglklaa
