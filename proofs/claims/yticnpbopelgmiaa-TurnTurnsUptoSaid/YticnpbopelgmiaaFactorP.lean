/-
  Factors, plain: what factor.Make makes, and that it is a step.
-/
import Derived.Test.YticnpbopelgmiaaP1
set_option linter.unusedVariables false
set_option linter.unusedSimpArgs false
set_option linter.unusedSectionVars false
namespace Go.Proofs.Yticnpbopelgmiaa
open Go.RowKit

structure Work where
  right : List Int
  l : List Frag
instance : Inhabited Work := ⟨⟨[], []⟩⟩
/-- Do they begin with the same symbol? -/
def alikeH (a b : List Int) : Bool := match a, b with
  | x :: _, y :: _ => decide (x = y)
  | _, _ => false
/-- With how many symbols two begin alike. -/
def alikeN : List Int → List Int → Nat
  | x :: a, y :: b => if x = y then alikeN a b + 1 else 0
  | _, _ => 0
theorem alikeN_pos : ∀ (a b : List Int), decide (0 < alikeN a b) = alikeH a b
  | x :: a, y :: b => by rw [alikeN, alikeH]; split <;> simp [*]
  | [], b => by simp [alikeN, alikeH]
  | x :: a, [] => by simp [alikeN, alikeH]
/-- With how many all begin alike. -/
def commonN (a : List Int) : List Work → Nat
  | [] => a.length
  | x :: r => min (alikeN a x.right) (commonN a r)
theorem commonN_le (a : List Int) : ∀ (l : List Work), commonN a l ≤ a.length
  | [] => Nat.le_refl _
  | x :: r => Nat.le_trans (Nat.min_le_right _ _) (commonN_le a r)
theorem commonN_mem {a : List Int} : ∀ {l : List Work} {x : Work}, x ∈ l → commonN a l ≤ alikeN a x.right
  | y :: r, x, h => by
    rw [commonN]
    rcases List.mem_cons.1 h with rfl | h
    · exact Nat.min_le_left _ _
    · exact Nat.le_trans (Nat.min_le_right _ _) (commonN_mem h)
theorem commonN_ge {a : List Int} {n : Nat} (hn : n ≤ a.length) : ∀ {l : List Work}, (∀ x ∈ l, n ≤ alikeN a x.right) → n ≤ commonN a l
  | [], _ => hn
  | y :: r, h => by
    rw [commonN]
    exact Nat.le_min.2 ⟨h y (by simp), commonN_ge hn (fun x hx => h x (by simp [hx]))⟩

/-! ### Groups -/
/-- Which of them, from this number on, begin as this one does. -/
def mates (a : List Int) : List Work → Nat → List Int
  | [], _ => []
  | y :: r, k => if alikeH a y.right = true then (k : Int) :: mates a r (k + 1) else mates a r (k + 1)
def groupW : List Work → Nat → List Int
  | [], _ => []
  | x :: r, i => if mates x.right r (i + 1) = [] then groupW r (i + 1) else (i : Int) :: mates x.right r (i + 1)
theorem mates_mem {a : List Int} : ∀ {l : List Work} {k : Nat} {z : Int}, z ∈ mates a l k → ∃ j : Nat, z = (j : Int) ∧ k ≤ j ∧ ∃ h : j - k < l.length, alikeH a l[j - k].right = true
  | [], k, z, h => by simp [mates] at h
  | y :: l, k, z, h => by
    rw [mates] at h
    have ih := fun h => mates_mem (a := a) (l := l) (k := k + 1) (z := z) h
    have next : z ∈ mates a l (k + 1) → ∃ j : Nat, z = (j : Int) ∧ k ≤ j ∧ ∃ h : j - k < (y :: l).length, alikeH a (y :: l)[j - k].right = true := fun h => by
      obtain ⟨j, h1, h2, h3, h4⟩ := ih h
      refine ⟨j, h1, by omega, by simp; omega, ?_⟩
      have e : j - k = (j - (k + 1)) + 1 := by omega
      simp only [e, List.getElem_cons_succ]; exact h4
    split at h
    · rcases List.mem_cons.1 h with rfl | h
      · exact ⟨k, rfl, Nat.le_refl _, by simp, by simpa⟩
      · exact next h
    · exact next h
theorem mem_mates {a : List Int} : ∀ {l : List Work} {k j : Nat} (hj : j < l.length), alikeH a l[j].right = true → ((k + j : Nat) : Int) ∈ mates a l k
  | y :: l, k, 0, _, h => by rw [mates, if_pos (by simpa using h)]; simp
  | y :: l, k, j + 1, hj, h => by
    have := mem_mates (a := a) (l := l) (k := k + 1) (j := j) (by simpa using hj) (by simpa using h)
    rw [mates, show k + (j + 1) = k + 1 + j by omega]
    split
    · exact List.mem_cons_of_mem _ this
    · exact this

/-! ### What becomes of a group -/
def gapL (gap : Bool) : List Frag := bif gap then [.mk 3 0 []] else []
/-- The template of a rule, n kids of which stand elsewhere. -/
def tailF (r : Int) (n : Nat) : List Frag := [.mk 1 r (.mk 3 0 [] :: holes n)]
def headF (n : Nat) (gap : Bool) : List Frag := [.mk 4 n (gapL gap ++ holes n)]
/-- A rule that was not divided yet. -/
def plainF (r : Int) (k : Nat) (gap : Bool) : List Frag := [.mk 1 r (gapL gap ++ holes k)]
def inL (at_ : List Int) (i : Nat) : Bool := at_.any fun y => decide ((i : Int) = y)
/-- Those of the group. -/
def samesW (at_ : List Int) : List Work → Nat → List Work
  | [], _ => []
  | x :: r, i => if inL at_ i = true then x :: samesW at_ r (i + 1) else samesW at_ r (i + 1)
def leftsW (at_ : List Int) (hd : Work) : List Work → Nat → List Work
  | [], _ => []
  | x :: r, i => if ((i : Int) = at_.getD 0 0) then hd :: leftsW at_ hd r (i + 1) else if inL at_ i = true then leftsW at_ hd r (i + 1) else x :: leftsW at_ hd r (i + 1)
def firstR (l : List Work) (at_ : List Int) : List Int := (l.getD (at_.getD 0 0).toNat default).right
def comW (l : List Work) (at_ : List Int) : Nat := commonN (firstR l at_) (samesW at_ l 0)
def headW (V : Nat) (N : Nat) (v : Nat) (l : List Work) (at_ : List Int) : Work := ⟨(firstR l at_).take (comW l at_) ++ [(N : Int)], headF (kids ((firstR l at_).take (comW l at_))).length (decide (V ≤ v))⟩
def restW (n k : Nat) (x : Work) : Work := ⟨x.right.drop n, tailF (x.l.getD 0 default).n ((kids x.right).length - k)⟩
def oneW (V : Nat) (all : List (List Work)) (v : Nat) (at_ : List Int) : List (List Work) :=
  all.set v (leftsW at_ (headW V all.length v (all.getD v []) at_) (all.getD v []) 0) ++
    [(samesW at_ (all.getD v []) 0).map (restW (comW (all.getD v []) at_) (kids ((firstR (all.getD v []) at_).take (comW (all.getD v []) at_))).length)]

/-! ### The whole way -/
theorem oneW_length (V : Nat) (all : List (List Work)) (v : Nat) (at_ : List Int) : (oneW V all v at_).length = all.length + 1 := by simp [oneW]
/-- What a group is. -/
theorem groupW_spec : ∀ {l : List Work} {i : Nat}, groupW l i ≠ [] → ∃ (k : Nat) (h : k < l.length), groupW l i = ((i + k : Nat) : Int) :: mates l[k].right (l.drop (k + 1)) (i + k + 1) ∧ mates l[k].right (l.drop (k + 1)) (i + k + 1) ≠ [] ∧
    ∀ (j : Nat) (hj : j < k), mates (l[j]'(by omega)).right (l.drop (j + 1)) (i + j + 1) = []
  | [], i, h => by simp [groupW] at h
  | x :: r, i, h => by
    rw [groupW] at h ⊢
    by_cases hm : mates x.right r (i + 1) = []
    · rw [if_pos hm] at h ⊢
      obtain ⟨k, h1, h2, h3, h4⟩ := groupW_spec h
      refine ⟨k + 1, by simp; omega, ?_, ?_, ?_⟩
      · rw [h2]; simp only [List.getElem_cons_succ, List.drop_succ_cons]
        rw [show i + 1 + k = i + (k + 1) by omega]
      · simp only [List.getElem_cons_succ, List.drop_succ_cons]
        rw [show i + (k + 1) + 1 = i + 1 + k + 1 by omega]; exact h3
      · intro j hj
        cases j with
        | zero => simpa using hm
        | succ j =>
          have := h4 j (by omega)
          simp only [List.getElem_cons_succ, List.drop_succ_cons]
          rw [show i + (j + 1) + 1 = i + 1 + j + 1 by omega]; exact this
    · rw [if_neg hm]
      exact ⟨0, by simp, by simp, by simpa using hm, fun j hj => by omega⟩
theorem alikeH_symm (a b : List Int) : alikeH a b = alikeH b a := by
  unfold alikeH
  cases a <;> cases b <;> simp [eq_comm]
theorem alikeH_trans {a b c : List Int} (h1 : alikeH a b = true) (h2 : alikeH b c = true) : alikeH a c = true := by
  unfold alikeH at *
  cases a <;> cases b <;> cases c <;> simp_all
theorem mates_nil {a : List Int} {l : List Work} {k j : Nat} (h : mates a l k = []) (hj : j < l.length) : alikeH a l[j].right = false := by
  cases hc : alikeH a l[j].right with
  | false => rfl
  | true => have := mem_mates (k := k) hj hc; rw [h] at this; cases this
/-- The group, of a whole list. -/
structure Grp (l : List Work) (at_ : List Int) : Prop where
  first : ∃ (k : Nat) (h : k < l.length), at_.getD 0 0 = (k : Int) ∧ (∀ j (hj : j < l.length), inL at_ j = alikeH l[k].right l[j].right) ∧ alikeH l[k].right l[k].right = true
  two : 2 ≤ at_.length
  pair : ∀ j, j < l.length → inL at_ j = true → ∃ j', ∃ h : j' < l.length, ∃ h2 : j < l.length, j' ≠ j ∧ alikeH l[j].right l[j'].right = true
theorem group_grp {l : List Work} (h : groupW l 0 ≠ []) : Grp l (groupW l 0) := by
  obtain ⟨k, h1, h2, h3, h4⟩ := groupW_spec h
  simp only [Nat.zero_add] at h2 h3 h4
  obtain ⟨z, hz⟩ := List.exists_mem_of_ne_nil _ h3
  obtain ⟨j1, e1, e2, e3, e4⟩ := mates_mem hz
  have hj1 : j1 < l.length := by simp only [List.length_drop] at e3; omega
  have e5 : (l.drop (k + 1))[j1 - (k + 1)] = l[j1] := by rw [List.getElem_drop]; congr 1; omega
  rw [e5] at e4
  have hkk : alikeH l[k].right l[k].right = true := alikeH_trans e4 (by rw [alikeH_symm]; exact e4)
  have hin : ∀ j (hj : j < l.length), inL (groupW l 0) j = alikeH l[k].right l[j].right := by
    intro j hj
    rw [h2, inL, List.any_cons]
    rw [Bool.eq_iff_iff]
    simp only [Bool.or_eq_true, decide_eq_true_eq, List.any_eq_true]
    constructor
    · rintro (h | ⟨x, hx, e⟩)
      · obtain rfl : j = k := by omega
        exact hkk
      · obtain ⟨j2, d1, d2, d3, d4⟩ := mates_mem hx
        obtain rfl : j = j2 := by omega
        have d5 : (l.drop (k + 1))[j - (k + 1)] = l[j] := by rw [List.getElem_drop]; congr 1; omega
        rwa [d5] at d4
    · intro ha
      rcases Nat.lt_trichotomy j k with hlt | rfl | hgt
      · exfalso
        have := mates_nil (h4 j hlt) (j := k - (j + 1)) (by simp; omega)
        have d5 : (l.drop (j + 1))[k - (j + 1)]'(by simp; omega) = l[k] := by rw [List.getElem_drop]; congr 1; omega
        rw [d5, alikeH_symm, ha] at this; cases this
      · exact .inl rfl
      · refine .inr ⟨(j : Int), ?_, rfl⟩
        have d5 : (l.drop (k + 1))[j - (k + 1)]'(by simp; omega) = l[j] := by rw [List.getElem_drop]; congr 1; omega
        have := mem_mates (a := l[k].right) (l := l.drop (k + 1)) (k := k + 1) (j := j - (k + 1)) (by simp; omega) (by rw [d5]; exact ha)
        rwa [show k + 1 + (j - (k + 1)) = j by omega] at this
  refine ⟨⟨k, h1, by rw [h2]; rfl, hin, hkk⟩, ?_, fun j hj hi => ?_⟩
  · rw [h2]
    cases hm : mates l[k].right (l.drop (k + 1)) (k + 1) with
    | nil => exact absurd hm h3
    | cons _ _ => simp
  · rw [hin j hj] at hi
    by_cases hjk : j = k
    · subst hjk
      exact ⟨j1, hj1, hj, by omega, e4⟩
    · exact ⟨k, h1, hj, fun e => hjk e.symm, by rw [alikeH_symm]; exact hi⟩
end Go.Proofs.Yticnpbopelgmiaa
