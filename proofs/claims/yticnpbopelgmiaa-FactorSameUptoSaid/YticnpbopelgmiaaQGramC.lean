/-
  Sim: SameGram, Clone, OwnGram, bare, ownInts. Trees, plain: counted, fitting, their words, their order.
-/
import Derived.Test.YticnpbopelgmiaaG1
import Derived.Test.YticnpbopelgmiaaS5
set_option linter.unusedVariables false
set_option linter.unusedSimpArgs false
set_option linter.unusedSectionVars false
namespace Go.Proofs.Yticnpbopelgmiaa
open Go.RowKit
set_option maxRecDepth 100000

abbrev nilT : D := .raw (.slice none 0 0)
theorem clone_sim {t : Bool} {xs : List Int} (hl : xs.length ≤ 100000000 := by ((try simp only [List.length_map, List.length_append, List.length_cons, List.length_nil, List.length_replicate, List.length_set, List.length_take, List.length_drop]); first | omega | assumption)) :
    ACalls Try.prog 57 [.d (ints t xs)] [] (.own 5 xs.length) [(5, .row 3 1 (xs.map iD))] := by
  refine ACalls.intro (n := 8) Try.func57 rfl rfl (by simp) (by rfl) ?_
  simp only [argFr]
  refine aw_seq ?_
  refine t_reg ?_
  refine s_assign (hr := ?_)
  refine dops_end ?_
  refine andThen_n ?_
  refine aw_seq ?_
  refine aw_seq ?_
  refine t_eqNil ?_ ?_ undInts
  · intro hx
    have hx' : xs = [] := by simpa using hx
    subst hx'
    repeat (first | refine wkr ?_ | refine s_field (hr := ?_))
    refine aw_nil 2 5 3 1 rfl rfl rfl ?_
    repeat (first | refine wk ?_ | refine s_field (hr := ?_))
    exact fin
  · repeat (first | refine wk ?_ | refine s_field (hr := ?_))
    exact finx
end Go.Proofs.Yticnpbopelgmiaa
namespace Go.Proofs.Yticnpbopelgmiaa
open Go.RowKit

theorem Tree.eta (x : Tree) : x = .mk x.rule x.kids := by cases x; rfl
theorem Tree.lt {x y : Tree} (h : y ∈ x.kids) : SizeOf.sizeOf y < SizeOf.sizeOf x := by
  cases x with
  | mk r k =>
    simp only [Tree.kids] at h
    have := List.sizeOf_lt_of_mem h
    simp; omega
theorem Tree.ind {P : Tree → Prop} (h : ∀ x, (∀ y ∈ x.kids, P y) → P x) : ∀ x, P x := by
  have key : ∀ (n : Nat) (x : Tree), SizeOf.sizeOf x < n → P x := by
    intro n
    induction n with
    | zero => intro x hx; omega
    | succ n ih => exact fun x hx => h x (fun y hy => ih y (by have := Tree.lt hy; omega))
  exact fun x => key _ x (Nat.lt_succ_self _)

/-! ### Counted -/
mutual
def cnt : Tree → Nat
  | .mk _ k => 1 + cnts k
def cnts : List Tree → Nat
  | [] => 0
  | x :: r => cnt x + cnts r
end
theorem cnt_eq (x : Tree) : cnt x = 1 + cnts x.kids := by cases x; rfl
theorem cnt_pos (x : Tree) : 1 ≤ cnt x := by rw [cnt_eq]; omega
theorem cnts_append : ∀ (a b : List Tree), cnts (a ++ b) = cnts a + cnts b
  | [], b => by simp [cnts]
  | x :: a, b => by simp only [List.cons_append, cnts, cnts_append a b]; omega
theorem cnts_mem {x : Tree} : ∀ {l : List Tree}, x ∈ l → cnt x ≤ cnts l
  | y :: l, h => by
    simp only [cnts]
    rcases List.mem_cons.1 h with rfl | h
    · omega
    · have := cnts_mem h; omega
theorem cnts_len : ∀ (l : List Tree), l.length ≤ cnts l
  | [] => by simp
  | x :: l => by have := cnts_len l; have := cnt_pos x; simp only [List.length_cons, cnts]; omega
theorem cnts_drop {l : List Tree} {i : Nat} (h : i < l.length) : cnts (l.drop i) = cnt l[i] + cnts (l.drop (i + 1)) := by
  rw [List.drop_eq_getElem_cons h, cnts]
theorem cnts_take {l : List Tree} {i : Nat} (h : i < l.length) : cnts (l.take (i + 1)) = cnts (l.take i) + cnt l[i] := by
  rw [List.take_succ_eq_append_getElem h, cnts_append]; simp [cnts]
/-- How many may still come. -/
def left_ (l : Int) (n : Nat) : Int := if (n : Int) ≤ l then l - n else -1

/-! ### Fitting -/
mutual
def fits (g : Gram) : Tree → Int → Bool
  | .mk r k, v => match (if 0 ≤ r then g.rules[r.toNat]? else none) with
    | none => false
    | some ru => decide (ru.left = v) && (decide ((kids ru.right).length = k.length) && fitss g k (kids ru.right))
def fitss (g : Gram) : List Tree → List Int → Bool
  | x :: k, v :: vs => fits g x v && fitss g k vs
  | _, _ => true
end
theorem fits_eq (g : Gram) (x : Tree) (v : Int) : fits g x v = match (if 0 ≤ x.rule then g.rules[x.rule.toNat]? else none) with
    | none => false
    | some ru => decide (ru.left = v) && (decide ((kids ru.right).length = x.kids.length) && fitss g x.kids (kids ru.right)) := by cases x; rw [fits]; rfl
theorem fitss_drop {g : Gram} {k : List Tree} {vs : List Int} {i : Nat} (h1 : i < k.length) (h2 : i < vs.length) : fitss g (k.drop i) (vs.drop i) = (fits g k[i] vs[i] && fitss g (k.drop (i + 1)) (vs.drop (i + 1))) := by
  rw [List.drop_eq_getElem_cons h1, List.drop_eq_getElem_cons h2, fitss]
theorem fitss_end {g : Gram} {k : List Tree} {vs : List Int} {i : Nat} (h1 : ¬ i < k.length) : fitss g (k.drop i) (vs.drop i) = true := by
  rw [List.drop_of_length_le (by omega)]; simp [fitss]

/-! ### Words -/
mutual
def wordT (g : Gram) : Tree → List Int
  | .mk r k => wordL g ((g.rules[r.toNat]?).getD ⟨0, []⟩).right k
  termination_by x => (cnt x, 0)
  decreasing_by simp [cnt, Prod.lex_def]
def wordL (g : Gram) : List Int → List Tree → List Int
  | [], _ => []
  | s :: ss, k => if s < 0 then (-1 - s) :: wordL g ss k else match k with
    | x :: k => wordT g x ++ wordL g ss k
    | [] => wordL g ss []
  termination_by ss k => (cnts k, ss.length + 1)
  decreasing_by all_goals (simp [cnts, Prod.lex_def]; try omega)
end

/-! ### Order -/
mutual
def ordT : Tree → Tree → Int
  | .mk r k, .mk s l => if r < s then -1 else if s < r then 1 else ordL k l
def ordL : List Tree → List Tree → Int
  | [], [] => 0
  | [], _ :: _ => -1
  | _ :: _, [] => 1
  | a :: k, b :: l => if ordT a b = 0 then ordL k l else ordT a b
end
theorem ordT_eq (a b : Tree) : ordT a b = if a.rule < b.rule then -1 else if b.rule < a.rule then 1 else ordL a.kids b.kids := by cases a; cases b; rw [ordT]; rfl
theorem ordL_step {k l : List Tree} {i : Nat} (h1 : i < k.length) (h2 : i < l.length) : ordL (k.drop i) (l.drop i) = if ordT k[i] l[i] = 0 then ordL (k.drop (i + 1)) (l.drop (i + 1)) else ordT k[i] l[i] := by
  rw [List.drop_eq_getElem_cons h1, List.drop_eq_getElem_cons h2, ordL]
theorem ordL_lt {k l : List Tree} {i : Nat} (h1 : ¬ i < k.length) (h2 : i < l.length) : ordL (k.drop i) (l.drop i) = -1 := by
  rw [List.drop_of_length_le (by omega), List.drop_eq_getElem_cons h2, ordL]
theorem ordL_gt {k l : List Tree} {i : Nat} (h1 : i < k.length) (h2 : ¬ i < l.length) : ordL (k.drop i) (l.drop i) = 1 := by
  rw [List.drop_eq_getElem_cons h1, List.drop_of_length_le (show l.length ≤ i by omega), ordL]
theorem ordL_end {k l : List Tree} {i : Nat} (h1 : ¬ i < k.length) (h2 : ¬ i < l.length) : ordL (k.drop i) (l.drop i) = 0 := by
  rw [List.drop_of_length_le (by omega), List.drop_of_length_le (by omega), ordL]
mutual
theorem ordT_neg : ∀ (a b : Tree), ordT b a = -ordT a b
  | .mk r k, .mk s l => by
    have := ordL_neg k l
    rw [ordT, ordT]
    by_cases h1 : r < s
    · have h2 : ¬ s < r := by omega
      simp [h1, h2]
    · by_cases h2 : s < r
      · simp [h1, h2]
      · simp [h1, h2, this]
theorem ordL_neg : ∀ (a b : List Tree), ordL b a = -ordL a b
  | [], [] => by simp [ordL]
  | [], _ :: _ => by simp [ordL]
  | _ :: _, [] => by simp [ordL]
  | a :: k, b :: l => by
    have h1 := ordT_neg a b
    have h2 := ordL_neg k l
    rw [ordL, ordL, h1, h2]
    by_cases h : ordT a b = 0
    · rw [if_pos h, if_pos (by omega)]
    · rw [if_neg h, if_neg (by omega)]
end
mutual
theorem ordT_refl : ∀ (a : Tree), ordT a a = 0
  | .mk r k => by rw [ordT, if_neg (by omega), if_neg (by omega)]; exact ordL_refl k
theorem ordL_refl : ∀ (a : List Tree), ordL a a = 0
  | [] => by simp [ordL]
  | a :: k => by rw [ordL, ordT_refl a, if_pos rfl]; exact ordL_refl k
end
mutual
theorem ordT_zero : ∀ (a b : Tree), ordT a b = 0 → a = b
  | .mk r k, .mk s l, h => by
    rw [ordT] at h
    by_cases h1 : r < s
    · rw [if_pos h1] at h; cases h
    · by_cases h2 : s < r
      · rw [if_neg h1, if_pos h2] at h; cases h
      · rw [if_neg h1, if_neg h2] at h
        obtain rfl : r = s := by omega
        rw [ordL_zero k l h]
theorem ordL_zero : ∀ (a b : List Tree), ordL a b = 0 → a = b
  | [], [], _ => rfl
  | [], _ :: _, h => by simp [ordL] at h
  | _ :: _, [], h => by simp [ordL] at h
  | a :: k, b :: l, h => by
    rw [ordL] at h
    by_cases h1 : ordT a b = 0
    · rw [if_pos h1] at h; rw [ordT_zero a b h1, ordL_zero k l h]
    · rw [if_neg h1] at h; exact absurd h h1
end
mutual
theorem ordT_trans : ∀ (a b c : Tree), ordT a b ≤ 0 → ordT b c ≤ 0 → ordT a c ≤ 0
  | .mk r k, .mk s l, .mk q m, h1, h2 => by
    rw [ordT] at h1 h2 ⊢
    by_cases a1 : r < s
    · by_cases b1 : s < q
      · rw [if_pos (by omega)]; decide
      · by_cases b2 : q < s
        · rw [if_neg b1, if_pos b2] at h2; omega
        · rw [if_pos (by omega)]; decide
    · by_cases a2 : s < r
      · rw [if_neg a1, if_pos a2] at h1; omega
      · rw [if_neg a1, if_neg a2] at h1
        by_cases b1 : s < q
        · rw [if_pos (by omega)]; decide
        · by_cases b2 : q < s
          · rw [if_neg b1, if_pos b2] at h2; omega
          · rw [if_neg b1, if_neg b2] at h2
            rw [if_neg (by omega), if_neg (by omega)]
            exact ordL_trans k l m h1 h2
theorem ordL_trans : ∀ (a b c : List Tree), ordL a b ≤ 0 → ordL b c ≤ 0 → ordL a c ≤ 0
  | [], _, [], _, _ => by simp [ordL]
  | [], _, _ :: _, _, _ => by simp [ordL]
  | _ :: _, [], _, h1, _ => by simp [ordL] at h1
  | _ :: _, _ :: _, [], _, h2 => by simp [ordL] at h2
  | a :: k, b :: l, c :: m, h1, h2 => by
    rw [ordL] at h1 h2 ⊢
    by_cases a0 : ordT a b = 0
    · obtain rfl := ordT_zero a b a0
      rw [if_pos a0] at h1
      by_cases b0 : ordT a c = 0
      · rw [if_pos b0] at h2 ⊢; exact ordL_trans k l m h1 h2
      · rw [if_neg b0] at h2 ⊢; exact h2
    · rw [if_neg a0] at h1
      by_cases b0 : ordT b c = 0
      · obtain rfl := ordT_zero b c b0
        rw [if_neg a0]; exact h1
      · rw [if_neg b0] at h2
        have h3 := ordT_trans a b c h1 h2
        by_cases c0 : ordT a c = 0
        · exfalso
          obtain rfl := ordT_zero a c c0
          have := ordT_neg a b
          omega
        · rw [if_neg c0]; exact h3
end
/-! ### As data -/
theorem IsElt.treeE {h : Hp} {t u : Bool} {sz i off : Nat} {xs : List Tree} (hi : i < xs.length) : IsElt h (.eptr t sz (xs.map (treeD u)) i off) (treeA u xs[i]) off [] := by
  have := IsElt.mapE (h := h) (t := t) (sz := sz) (off := off) (f := treeD u) hi
  rwa [treeA_eq] at this
theorem IsElt.treeO {h : Hp} {u : Bool} {k m sz i off : Nat} {e : TypeId} {xs : List Tree} (hk : hget h k = some (.row e sz (xs.map (treeD u)))) (hm : (xs.map (treeD u)).length = m) (hi : i < xs.length) : IsElt h (.optr k m i off) (treeA u xs[i]) off [(k, some (.row e sz (xs.map (treeD u))))] := by
  have := IsElt.mapO (f := treeD u) (off := off) hk hm hi
  rwa [treeA_eq] at this
end Go.Proofs.Yticnpbopelgmiaa
