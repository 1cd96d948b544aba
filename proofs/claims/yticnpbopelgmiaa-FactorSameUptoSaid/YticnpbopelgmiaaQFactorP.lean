/-
  Factors, plain: what factor.Make makes, and that it is a step. Factors, plain: what holds on the way; the way ends; what comes of it is a step.
-/
import Derived.Test.YticnpbopelgmiaaP1
set_option linter.unusedVariables false
set_option linter.unusedSimpArgs false
set_option linter.unusedSectionVars false
namespace Go.Proofs.Yticnpbopelgmiaa
open Go.RowKit

structure Work where
  right : List Int
  l : List Frag
instance : Inhabited Work := ⟨⟨[], []⟩⟩
/-- Do they begin with the same symbol? -/
def alikeH (a b : List Int) : Bool := match a, b with
  | x :: _, y :: _ => decide (x = y)
  | _, _ => false
/-- With how many symbols two begin alike. -/
def alikeN : List Int → List Int → Nat
  | x :: a, y :: b => if x = y then alikeN a b + 1 else 0
  | _, _ => 0
theorem alikeN_pos : ∀ (a b : List Int), decide (0 < alikeN a b) = alikeH a b
  | x :: a, y :: b => by rw [alikeN, alikeH]; split <;> simp [*]
  | [], b => by simp [alikeN, alikeH]
  | x :: a, [] => by simp [alikeN, alikeH]
theorem alikeN_le : ∀ (a b : List Int), alikeN a b ≤ a.length ∧ alikeN a b ≤ b.length
  | x :: a, y :: b => by
    rw [alikeN]; have := alikeN_le a b
    split <;> simp <;> omega
  | [], b => by simp [alikeN]
  | x :: a, [] => by simp [alikeN]
theorem alikeN_get : ∀ (a b : List Int) (n : Nat), n < alikeN a b → ∃ h1 : n < a.length, ∃ h2 : n < b.length, a[n] = b[n]
  | x :: a, y :: b, n, h => by
    rw [alikeN] at h
    split at h
    · rename_i e
      cases n with
      | zero => exact ⟨by simp, by simp, e⟩
      | succ n =>
        obtain ⟨h1, h2, h3⟩ := alikeN_get a b n (by omega)
        exact ⟨by simp; omega, by simp; omega, by simpa using h3⟩
    · omega
  | [], b, n, h => by simp [alikeN] at h
  | x :: a, [], n, h => by simp [alikeN] at h
theorem alikeN_stop : ∀ (a b : List Int), alikeN a b = a.length ∨ alikeN a b = b.length ∨ ∃ h1 : alikeN a b < a.length, ∃ h2 : alikeN a b < b.length, a[alikeN a b] ≠ b[alikeN a b]
  | x :: a, y :: b => by
    rw [alikeN]
    split
    · rcases alikeN_stop a b with h | h | ⟨h1, h2, h3⟩
      · exact .inl (by simp [h])
      · exact .inr (.inl (by simp [h]))
      · exact .inr (.inr ⟨by simp; omega, by simp; omega, by simpa using h3⟩)
    · rename_i e
      exact .inr (.inr ⟨by simp, by simp, by simpa using e⟩)
  | [], b => .inl rfl
  | x :: a, [] => .inr (.inl rfl)
/-- With how many all begin alike. -/
def commonN (a : List Int) : List Work → Nat
  | [] => a.length
  | x :: r => min (alikeN a x.right) (commonN a r)
theorem commonN_le (a : List Int) : ∀ (l : List Work), commonN a l ≤ a.length
  | [] => Nat.le_refl _
  | x :: r => Nat.le_trans (Nat.min_le_right _ _) (commonN_le a r)
theorem commonN_mem {a : List Int} : ∀ {l : List Work} {x : Work}, x ∈ l → commonN a l ≤ alikeN a x.right
  | y :: r, x, h => by
    rw [commonN]
    rcases List.mem_cons.1 h with rfl | h
    · exact Nat.min_le_left _ _
    · exact Nat.le_trans (Nat.min_le_right _ _) (commonN_mem h)
theorem commonN_ge {a : List Int} {n : Nat} (hn : n ≤ a.length) : ∀ {l : List Work}, (∀ x ∈ l, n ≤ alikeN a x.right) → n ≤ commonN a l
  | [], _ => hn
  | y :: r, h => by
    rw [commonN]
    exact Nat.le_min.2 ⟨h y (by simp), commonN_ge hn (fun x hx => h x (by simp [hx]))⟩

/-! ### Groups -/
/-- Which of them, from this number on, begin as this one does. -/
def mates (a : List Int) : List Work → Nat → List Int
  | [], _ => []
  | y :: r, k => if alikeH a y.right = true then (k : Int) :: mates a r (k + 1) else mates a r (k + 1)
def groupW : List Work → Nat → List Int
  | [], _ => []
  | x :: r, i => if mates x.right r (i + 1) = [] then groupW r (i + 1) else (i : Int) :: mates x.right r (i + 1)
theorem mates_append (a : List Int) : ∀ (b c : List Work) (k : Nat), mates a (b ++ c) k = mates a b k ++ mates a c (k + b.length)
  | [], c, k => by simp [mates]
  | y :: b, c, k => by
    simp only [List.cons_append, mates, mates_append a b c (k + 1), List.length_cons]
    rw [show k + 1 + b.length = k + (b.length + 1) by omega]
    split <;> rfl
theorem mates_snoc {a : List Int} {l : List Work} {j i : Nat} (h : j < l.length) (hi : i ≤ j) : mates a ((l.drop i).take (j + 1 - i)) i = mates a ((l.drop i).take (j - i)) i ++ (if alikeH a l[j].right = true then [(j : Int)] else []) := by
  have e : (l.drop i).take (j + 1 - i) = (l.drop i).take (j - i) ++ [l[j]] := by
    rw [show j + 1 - i = (j - i) + 1 by omega, List.take_succ_eq_append_getElem (by simp; omega)]
    congr 2
    rw [List.getElem_drop]; congr 1; omega
  rw [e, mates_append]
  simp only [mates, List.length_take, List.length_drop]
  rw [Nat.min_eq_left (by omega), show i + (j - i) = j by omega]
theorem mates_le (a : List Int) : ∀ (l : List Work) (k : Nat), (mates a l k).length ≤ l.length
  | [], k => by simp [mates]
  | y :: l, k => by
    have := mates_le a l (k + 1)
    rw [mates]; split <;> simp <;> omega
theorem groupW_step {l : List Work} {i : Nat} (h : i < l.length) : groupW (l.drop i) i = if mates l[i].right (l.drop (i + 1)) (i + 1) = [] then groupW (l.drop (i + 1)) (i + 1) else (i : Int) :: mates l[i].right (l.drop (i + 1)) (i + 1) := by
  rw [List.drop_eq_getElem_cons h, groupW]
theorem groupW_end {l : List Work} {i : Nat} (h : ¬ i < l.length) : groupW (l.drop i) i = [] := by
  rw [List.drop_of_length_le (by omega), groupW]
theorem mates_mem {a : List Int} : ∀ {l : List Work} {k : Nat} {z : Int}, z ∈ mates a l k → ∃ j : Nat, z = (j : Int) ∧ k ≤ j ∧ ∃ h : j - k < l.length, alikeH a l[j - k].right = true
  | [], k, z, h => by simp [mates] at h
  | y :: l, k, z, h => by
    rw [mates] at h
    have ih := fun h => mates_mem (a := a) (l := l) (k := k + 1) (z := z) h
    have next : z ∈ mates a l (k + 1) → ∃ j : Nat, z = (j : Int) ∧ k ≤ j ∧ ∃ h : j - k < (y :: l).length, alikeH a (y :: l)[j - k].right = true := fun h => by
      obtain ⟨j, h1, h2, h3, h4⟩ := ih h
      refine ⟨j, h1, by omega, by simp; omega, ?_⟩
      have e : j - k = (j - (k + 1)) + 1 := by omega
      simp only [e, List.getElem_cons_succ]; exact h4
    split at h
    · rcases List.mem_cons.1 h with rfl | h
      · exact ⟨k, rfl, Nat.le_refl _, by simp, by simpa⟩
      · exact next h
    · exact next h
theorem mem_mates {a : List Int} : ∀ {l : List Work} {k j : Nat} (hj : j < l.length), alikeH a l[j].right = true → ((k + j : Nat) : Int) ∈ mates a l k
  | y :: l, k, 0, _, h => by rw [mates, if_pos (by simpa using h)]; simp
  | y :: l, k, j + 1, hj, h => by
    have := mem_mates (a := a) (l := l) (k := k + 1) (j := j) (by simpa using hj) (by simpa using h)
    rw [mates, show k + (j + 1) = k + 1 + j by omega]
    split
    · exact List.mem_cons_of_mem _ this
    · exact this

/-! ### What becomes of a group -/
def gapL (gap : Bool) : List Frag := bif gap then [.mk 3 0 []] else []
/-- The template of a rule, n kids of which stand elsewhere. -/
def tailF (r : Int) (n : Nat) : List Frag := [.mk 1 r (.mk 3 0 [] :: holes n)]
def headF (n : Nat) (gap : Bool) : List Frag := [.mk 4 n (gapL gap ++ holes n)]
/-- A rule that was not divided yet. -/
def plainF (r : Int) (k : Nat) (gap : Bool) : List Frag := [.mk 1 r (gapL gap ++ holes k)]
def inL (at_ : List Int) (i : Nat) : Bool := at_.any fun y => decide ((i : Int) = y)
/-- Those of the group. -/
def samesW (at_ : List Int) : List Work → Nat → List Work
  | [], _ => []
  | x :: r, i => if inL at_ i = true then x :: samesW at_ r (i + 1) else samesW at_ r (i + 1)
def leftsW (at_ : List Int) (hd : Work) : List Work → Nat → List Work
  | [], _ => []
  | x :: r, i => if ((i : Int) = at_.getD 0 0) then hd :: leftsW at_ hd r (i + 1) else if inL at_ i = true then leftsW at_ hd r (i + 1) else x :: leftsW at_ hd r (i + 1)
theorem samesW_append (at_ : List Int) : ∀ (b c : List Work) (k : Nat), samesW at_ (b ++ c) k = samesW at_ b k ++ samesW at_ c (k + b.length)
  | [], c, k => by simp [samesW]
  | y :: b, c, k => by
    simp only [List.cons_append, samesW, samesW_append at_ b c (k + 1), List.length_cons]
    rw [show k + 1 + b.length = k + (b.length + 1) by omega]
    split <;> rfl
theorem samesW_snoc {at_ : List Int} {l : List Work} {i : Nat} (h : i < l.length) : samesW at_ (l.take (i + 1)) 0 = samesW at_ (l.take i) 0 ++ (if inL at_ i = true then [l[i]] else []) := by
  rw [List.take_succ_eq_append_getElem h, samesW_append]
  simp only [samesW, List.length_take, Nat.zero_add]
  rw [Nat.min_eq_left (by omega)]
theorem leftsW_append (at_ : List Int) (hd : Work) : ∀ (b c : List Work) (k : Nat), leftsW at_ hd (b ++ c) k = leftsW at_ hd b k ++ leftsW at_ hd c (k + b.length)
  | [], c, k => by simp [leftsW]
  | y :: b, c, k => by
    simp only [List.cons_append, leftsW, leftsW_append at_ hd b c (k + 1), List.length_cons]
    rw [show k + 1 + b.length = k + (b.length + 1) by omega]
    split
    · rfl
    · split <;> rfl
theorem leftsW_snoc {at_ : List Int} {hd : Work} {l : List Work} {i : Nat} (h : i < l.length) : leftsW at_ hd (l.take (i + 1)) 0 = leftsW at_ hd (l.take i) 0 ++ (if (i : Int) = at_.getD 0 0 then [hd] else if inL at_ i = true then [] else [l[i]]) := by
  rw [List.take_succ_eq_append_getElem h, leftsW_append]
  simp only [leftsW, List.length_take, Nat.zero_add]
  rw [Nat.min_eq_left (by omega)]
def firstR (l : List Work) (at_ : List Int) : List Int := (l.getD (at_.getD 0 0).toNat default).right
def comW (l : List Work) (at_ : List Int) : Nat := commonN (firstR l at_) (samesW at_ l 0)
def headW (V : Nat) (N : Nat) (v : Nat) (l : List Work) (at_ : List Int) : Work := ⟨(firstR l at_).take (comW l at_) ++ [(N : Int)], headF (kids ((firstR l at_).take (comW l at_))).length (decide (V ≤ v))⟩
def restW (n k : Nat) (x : Work) : Work := ⟨x.right.drop n, tailF (x.l.getD 0 default).n ((kids x.right).length - k)⟩
def oneW (V : Nat) (all : List (List Work)) (v : Nat) (at_ : List Int) : List (List Work) :=
  all.set v (leftsW at_ (headW V all.length v (all.getD v []) at_) (all.getD v []) 0) ++
    [(samesW at_ (all.getD v []) 0).map (restW (comW (all.getD v []) at_) (kids ((firstR (all.getD v []) at_).take (comW (all.getD v []) at_))).length)]

/-! ### The whole way -/
/-- From such rules, at such a nonterminal: what comes of it (a fault: at which nonterminal there were too many). -/
inductive Fac (V : Nat) : List (List Work) → Nat → Except Nat (List (List Work)) → Prop
  | done {all : List (List Work)} {v : Nat} (h : ¬ v < all.length) : Fac V all v (.ok all)
  | next {all : List (List Work)} {v : Nat} {r : Except Nat (List (List Work))} (h : v < all.length) (hg : groupW (all.getD v []) 0 = []) (hr : Fac V all (v + 1) r) : Fac V all v r
  | many {all : List (List Work)} {v : Nat} (h : v < all.length) (hg : groupW (all.getD v []) 0 ≠ []) (hm : 64 < (oneW V all v (groupW (all.getD v []) 0)).length) : Fac V all v (.error v)
  | one {all : List (List Work)} {v : Nat} {r : Except Nat (List (List Work))} (h : v < all.length) (hg : groupW (all.getD v []) 0 ≠ []) (hm : ¬ 64 < (oneW V all v (groupW (all.getD v []) 0)).length)
    (hr : Fac V (oneW V all v (groupW (all.getD v []) 0)) v r) : Fac V all v r
theorem oneW_length (V : Nat) (all : List (List Work)) (v : Nat) (at_ : List Int) : (oneW V all v at_).length = all.length + 1 := by simp [oneW]
/-- What a group is. -/
theorem groupW_spec : ∀ {l : List Work} {i : Nat}, groupW l i ≠ [] → ∃ (k : Nat) (h : k < l.length), groupW l i = ((i + k : Nat) : Int) :: mates l[k].right (l.drop (k + 1)) (i + k + 1) ∧ mates l[k].right (l.drop (k + 1)) (i + k + 1) ≠ [] ∧
    ∀ (j : Nat) (hj : j < k), mates (l[j]'(by omega)).right (l.drop (j + 1)) (i + j + 1) = []
  | [], i, h => by simp [groupW] at h
  | x :: r, i, h => by
    rw [groupW] at h ⊢
    by_cases hm : mates x.right r (i + 1) = []
    · rw [if_pos hm] at h ⊢
      obtain ⟨k, h1, h2, h3, h4⟩ := groupW_spec h
      refine ⟨k + 1, by simp; omega, ?_, ?_, ?_⟩
      · rw [h2]; simp only [List.getElem_cons_succ, List.drop_succ_cons]
        rw [show i + 1 + k = i + (k + 1) by omega]
      · simp only [List.getElem_cons_succ, List.drop_succ_cons]
        rw [show i + (k + 1) + 1 = i + 1 + k + 1 by omega]; exact h3
      · intro j hj
        cases j with
        | zero => simpa using hm
        | succ j =>
          have := h4 j (by omega)
          simp only [List.getElem_cons_succ, List.drop_succ_cons]
          rw [show i + (j + 1) + 1 = i + 1 + j + 1 by omega]; exact this
    · rw [if_neg hm]
      exact ⟨0, by simp, by simp, by simpa using hm, fun j hj => by omega⟩
theorem alikeH_symm (a b : List Int) : alikeH a b = alikeH b a := by
  unfold alikeH
  cases a <;> cases b <;> simp [eq_comm]
theorem alikeH_trans {a b c : List Int} (h1 : alikeH a b = true) (h2 : alikeH b c = true) : alikeH a c = true := by
  unfold alikeH at *
  cases a <;> cases b <;> cases c <;> simp_all
theorem mates_nil {a : List Int} {l : List Work} {k j : Nat} (h : mates a l k = []) (hj : j < l.length) : alikeH a l[j].right = false := by
  cases hc : alikeH a l[j].right with
  | false => rfl
  | true => have := mem_mates (k := k) hj hc; rw [h] at this; cases this
/-- The group, of a whole list. -/
structure Grp (l : List Work) (at_ : List Int) : Prop where
  first : ∃ (k : Nat) (h : k < l.length), at_.getD 0 0 = (k : Int) ∧ (∀ j (hj : j < l.length), inL at_ j = alikeH l[k].right l[j].right) ∧ alikeH l[k].right l[k].right = true
  two : 2 ≤ at_.length
  pair : ∀ j, j < l.length → inL at_ j = true → ∃ j', ∃ h : j' < l.length, ∃ h2 : j < l.length, j' ≠ j ∧ alikeH l[j].right l[j'].right = true
theorem group_grp {l : List Work} (h : groupW l 0 ≠ []) : Grp l (groupW l 0) := by
  obtain ⟨k, h1, h2, h3, h4⟩ := groupW_spec h
  simp only [Nat.zero_add] at h2 h3 h4
  obtain ⟨z, hz⟩ := List.exists_mem_of_ne_nil _ h3
  obtain ⟨j1, e1, e2, e3, e4⟩ := mates_mem hz
  have hj1 : j1 < l.length := by simp only [List.length_drop] at e3; omega
  have e5 : (l.drop (k + 1))[j1 - (k + 1)] = l[j1] := by rw [List.getElem_drop]; congr 1; omega
  rw [e5] at e4
  have hkk : alikeH l[k].right l[k].right = true := alikeH_trans e4 (by rw [alikeH_symm]; exact e4)
  have hin : ∀ j (hj : j < l.length), inL (groupW l 0) j = alikeH l[k].right l[j].right := by
    intro j hj
    rw [h2, inL, List.any_cons]
    rw [Bool.eq_iff_iff]
    simp only [Bool.or_eq_true, decide_eq_true_eq, List.any_eq_true]
    constructor
    · rintro (h | ⟨x, hx, e⟩)
      · obtain rfl : j = k := by omega
        exact hkk
      · obtain ⟨j2, d1, d2, d3, d4⟩ := mates_mem hx
        obtain rfl : j = j2 := by omega
        have d5 : (l.drop (k + 1))[j - (k + 1)] = l[j] := by rw [List.getElem_drop]; congr 1; omega
        rwa [d5] at d4
    · intro ha
      rcases Nat.lt_trichotomy j k with hlt | rfl | hgt
      · exfalso
        have := mates_nil (h4 j hlt) (j := k - (j + 1)) (by simp; omega)
        have d5 : (l.drop (j + 1))[k - (j + 1)]'(by simp; omega) = l[k] := by rw [List.getElem_drop]; congr 1; omega
        rw [d5, alikeH_symm, ha] at this; cases this
      · exact .inl rfl
      · refine .inr ⟨(j : Int), ?_, rfl⟩
        have d5 : (l.drop (k + 1))[j - (k + 1)]'(by simp; omega) = l[j] := by rw [List.getElem_drop]; congr 1; omega
        have := mem_mates (a := l[k].right) (l := l.drop (k + 1)) (k := k + 1) (j := j - (k + 1)) (by simp; omega) (by rw [d5]; exact ha)
        rwa [show k + 1 + (j - (k + 1)) = j by omega] at this
  refine ⟨⟨k, h1, by rw [h2]; rfl, hin, hkk⟩, ?_, fun j hj hi => ?_⟩
  · rw [h2]
    cases hm : mates l[k].right (l.drop (k + 1)) (k + 1) with
    | nil => exact absurd hm h3
    | cons _ _ => simp
  · rw [hin j hj] at hi
    by_cases hjk : j = k
    · subst hjk
      exact ⟨j1, hj1, hj, by omega, e4⟩
    · exact ⟨k, h1, hj, fun e => hjk e.symm, by rw [alikeH_symm]; exact hi⟩
end Go.Proofs.Yticnpbopelgmiaa
namespace Go.Proofs.Yticnpbopelgmiaa
open Go.RowKit

theorem usL_append (m : Int) : ∀ (a b : List Frag) (u : List Int), usL m (a ++ b) u = bif (usL m a u).1 then usL m b (usL m a u).2 else (false, (usL m a u).2)
  | [], b, u => by simp [usL]
  | x :: a, b, u => by
    simp only [List.cons_append, usL, usL_append m a b]
    cases (usF m x u).1 with
    | true => simp
    | false => simp
theorem usL_holesT (m : Int) (t : List Int) : ∀ (n i : Nat), usL m ((List.range' i n).map fun (j : Nat) => Frag.mk 2 (j : Int) []) (List.replicate i 1 ++ (List.replicate n 0 ++ t)) = (true, List.replicate (i + n) 1 ++ t)
  | 0, i => by simp [usL]
  | n + 1, i => by
    rw [List.range'_succ, List.map_cons, usL]
    have e : usF m (.mk 2 (i : Int) []) (List.replicate i 1 ++ (List.replicate (n + 1) 0 ++ t)) = (true, List.replicate (i + 1) 1 ++ (List.replicate n 0 ++ t)) := by
      rw [usF, if_neg (by decide), if_pos rfl, if_neg (by simp; omega)]
      congr 1
      rw [bump]
      simp only [Int.toNat_natCast]
      rw [List.replicate_succ, List.getD_eq_getElem?_getD, List.getElem?_append_right (by simp), List.set_append_right _ _ (by simp)]
      simp [List.replicate_succ']
    rw [e]
    simp only [cond_true]
    rw [usL_holesT m t n (i + 1)]
    congr 2
    congr 1
    omega
theorem usL_holeT (m : Int) (k : Nat) (t : List Int) : usL m (holes k) (List.replicate k 0 ++ t) = (true, List.replicate k 1 ++ t) := by
  have := usL_holesT m t k 0
  rw [holes, List.range_eq_range']
  simpa using this
theorem usL_gap (m : Int) (b : Bool) (u : List Int) : usL m (gapL b) u = (true, u) := by
  cases b <;> simp [gapL, usL, usF]
theorem cpL_gap (b : Bool) : cpL (gapL b) ≤ 1 := by cases b <;> simp [gapL, cpL, cpF]
theorem fszs_gap (b : Bool) : fszs (gapL b) ≤ 1 := by cases b <;> simp [gapL, fszs, fsz]
theorem fszs_holesQ : ∀ (k : Nat), fszs (holes k) = k
  | 0 => rfl
  | k + 1 => by rw [show holes (k + 1) = holes k ++ [.mk 2 k []] by simp [holes, List.range_succ], fszs_append, fszs_holesQ k]; simp [fszs, fsz]
theorem kids_append (a b : List Int) : kids (a ++ b) = kids a ++ kids b := by simp [kids]
theorem okUse_of {old : Gram} {l : List Frag} {right : List Int} (h : usL old.rules.length l (List.replicate (kids right).length 0) = (true, List.replicate (kids right).length 1)) (hc : cpL l ≤ 60) : partFault old l right = 0 := by
  rw [partFault, if_neg (by omega), if_pos]
  rw [okUse, h]; simp
theorem part_plain {old : Gram} {r : Nat} {right : List Int} {gap : Bool} (hr : r < old.rules.length) (hk : right.length ≤ 11) : partFault old (plainF r (kids right).length gap) right = 0 := by
  have hkl := kids_le right
  have hg := cpL_gap gap
  refine okUse_of ?_ ?_
  · rw [plainF, usL, usF, if_pos rfl, if_neg (by omega), usL_append, usL_gap]
    simp only [cond_true]
    rw [usL_hole]; simp [usL]
  · simp only [plainF, cpL, cpF, if_pos (Or.inl rfl), cpL_append, cpL_holes, true_or, if_true]; omega
theorem fszs_plain {r : Nat} {right : List Int} {gap : Bool} (hk : right.length ≤ 11) : fszs (plainF r (kids right).length gap) ≤ 100 := by
  have hkl := kids_le right
  have hg := fszs_gap gap
  simp only [plainF, fszs, fsz, fszs_append, fszs_holesQ]; omega
theorem part_head {old : Gram} {p : List Int} {N : Nat} {gap : Bool} (hk : p.length ≤ 11) : partFault old (headF (kids p).length gap) (p ++ [(N : Int)]) = 0 := by
  have hkl := kids_le p
  have hg := cpL_gap gap
  have hkk : (kids (p ++ [(N : Int)])).length = (kids p).length + 1 := by
    rw [kids_append, kids_pos (Int.natCast_nonneg N)]; simp
  refine okUse_of ?_ ?_
  · rw [hkk, headF, usL, usF, if_neg (by decide), if_neg (by decide), if_pos rfl, if_neg (by simp; omega)]
    have e : bump (List.replicate ((kids p).length + 1) 0) (kids p).length = List.replicate (kids p).length 0 ++ [1] := by
      rw [bump, List.replicate_succ', List.getD_eq_getElem?_getD]
      simp
    rw [e, usL_append, usL_gap]
    simp only [cond_true]
    rw [usL_holeT, List.replicate_succ']
    simp [usL]
  · simp only [headF, cpL, cpF, cpL_append, cpL_holes, or_true, if_true]; omega
theorem fszs_head {p : List Int} {gap : Bool} (hk : p.length ≤ 11) : fszs (headF (kids p).length gap) ≤ 100 := by
  have hkl := kids_le p
  have hg := fszs_gap gap
  simp only [headF, fszs, fsz, fszs_append, fszs_holesQ]; omega

/-! ### What holds on the way -/
structure WOk (g : Gram) (N : Nat) (w : Work) : Prop where
  sym : ∀ s ∈ w.right, -g.terms ≤ s ∧ s < (N : Int)
  len : w.right.length ≤ 11
  part : partFault g w.l w.right = 0
  slim : fszs w.l ≤ 100
def Plain (g : Gram) (gap : Bool) (w : Work) : Prop := ∃ r : Nat, r < g.rules.length ∧ w.l = plainF r (kids w.right).length gap ∧ w.right.length ≤ 10
def PairQ (g : Gram) (gap : Bool) (a b : Work) : Prop := (Plain g gap a ∧ Plain g gap b) ∨ alikeH a.right b.right = false
theorem PairQ.symm {g : Gram} {gap : Bool} {a b : Work} (h : PairQ g gap a b) : PairQ g gap b a := by
  rcases h with ⟨h1, h2⟩ | h
  · exact .inl ⟨h2, h1⟩
  · exact .inr (by rw [alikeH_symm]; exact h)
def gapAt (g : Gram) (u : Nat) : Bool := decide (g.vars.toNat ≤ u)
structure FInv (g : Gram) (all : List (List Work)) (v : Nat) : Prop where
  len : all.length ≤ 64
  vars : g.vars.toNat ≤ all.length
  ok : ∀ l ∈ all, ∀ w ∈ l, WOk g all.length w
  form : ∀ u, v ≤ u → (all.getD u []).Pairwise (PairQ g (gapAt g u))
  none : ∀ u, u < v → groupW (all.getD u []) 0 = []
theorem getD_memW {all : List (List Work)} {v : Nat} {w : Work} (h : w ∈ all.getD v []) : all.getD v [] ∈ all := by
  rw [List.getD_eq_getElem?_getD] at h ⊢
  by_cases hv : v < all.length
  · rw [List.getElem?_eq_getElem hv]; exact List.getElem_mem hv
  · rw [List.getElem?_eq_none (by omega)] at h; simp at h
theorem samesW_mem {at_ : List Int} : ∀ {l : List Work} {i : Nat} {w : Work}, w ∈ samesW at_ l i → ∃ j, ∃ h : j < l.length, w = l[j] ∧ inL at_ (i + j) = true
  | [], i, w, h => by simp [samesW] at h
  | x :: r, i, w, h => by
    rw [samesW] at h
    have next : w ∈ samesW at_ r (i + 1) → ∃ j, ∃ h : j < (x :: r).length, w = (x :: r)[j] ∧ inL at_ (i + j) = true := fun h => by
      obtain ⟨j, h1, h2, h3⟩ := samesW_mem h
      exact ⟨j + 1, by simp; omega, by simpa using h2, by rw [show i + (j + 1) = i + 1 + j by omega]; exact h3⟩
    split at h
    · rename_i hi
      rcases List.mem_cons.1 h with rfl | h
      · exact ⟨0, by simp, rfl, hi⟩
      · exact next h
    · exact next h
theorem leftsW_mem {at_ : List Int} {hd : Work} {k : Nat} (hk : at_.getD 0 0 = (k : Int)) : ∀ {l : List Work} {i : Nat} {w : Work}, w ∈ leftsW at_ hd l i → (w = hd ∧ i ≤ k) ∨ ∃ j, ∃ h : j < l.length, w = l[j] ∧ inL at_ (i + j) = false ∧ i + j ≠ k
  | [], i, w, h => by simp [leftsW] at h
  | x :: r, i, w, h => by
    rw [leftsW, hk] at h
    have next : w ∈ leftsW at_ hd r (i + 1) → (w = hd ∧ i ≤ k) ∨ ∃ j, ∃ h : j < (x :: r).length, w = (x :: r)[j] ∧ inL at_ (i + j) = false ∧ i + j ≠ k := fun h => by
      rcases leftsW_mem hk h with ⟨h1, h2⟩ | ⟨j, h1, h2, h3, h4⟩
      · exact .inl ⟨h1, by omega⟩
      · exact .inr ⟨j + 1, by simp; omega, by simpa using h2, by rw [show i + (j + 1) = i + 1 + j by omega]; exact h3, by omega⟩
    split at h
    · rename_i e
      rcases List.mem_cons.1 h with rfl | h
      · exact .inl ⟨rfl, by omega⟩
      · exact next h
    · rename_i e
      split at h
      · exact next h
      · rename_i hi
        rcases List.mem_cons.1 h with rfl | h
        · exact .inr ⟨0, by simp, rfl, by simpa using hi, fun hh => e (by rw [← hh]; rfl)⟩
        · exact next h
theorem leftsW_pair {at_ : List Int} {hd : Work} {k : Nat} {g : Gram} {gap : Bool} (hk : at_.getD 0 0 = (k : Int)) : ∀ {l : List Work} {i : Nat}, l.Pairwise (PairQ g gap) → (∀ j (h : j < l.length), inL at_ (i + j) = false → i + j ≠ k → alikeH hd.right l[j].right = false) → (leftsW at_ hd l i).Pairwise (PairQ g gap)
  | [], i, _, _ => by simp [leftsW]
  | x :: r, i, hp, hn => by
    rw [List.pairwise_cons] at hp
    have hn' : ∀ j (h : j < r.length), inL at_ (i + 1 + j) = false → i + 1 + j ≠ k → alikeH hd.right r[j].right = false := fun j h h1 h2 => by
      have := hn (j + 1) (by simp; omega) (by rw [show i + (j + 1) = i + 1 + j by omega]; exact h1) (by omega)
      simpa using this
    have ih := leftsW_pair hk (i := i + 1) hp.2 hn'
    rw [leftsW, hk]
    split
    · rename_i e
      refine List.pairwise_cons.2 ⟨fun w hw => ?_, ih⟩
      rcases leftsW_mem hk hw with ⟨_, h2⟩ | ⟨j, h1, rfl, h3, h4⟩
      · omega
      · exact .inr (hn' j h1 h3 h4)
    · rename_i e
      split
      · exact ih
      · rename_i hi
        refine List.pairwise_cons.2 ⟨fun w hw => ?_, ih⟩
        rcases leftsW_mem hk hw with ⟨rfl, _⟩ | ⟨j, h1, rfl, h3, h4⟩
        · have := hn 0 (by simp) (by simpa using hi) (fun hh => e (by rw [← hh]; rfl))
          exact (PairQ.symm (.inr this))
        · exact hp.1 _ (List.getElem_mem h1)
theorem leftsW_le {at_ : List Int} {hd : Work} : ∀ (l : List Work) (i : Nat), (leftsW at_ hd l i).length ≤ l.length
  | [], i => by simp [leftsW]
  | x :: r, i => by
    have ih := leftsW_le (at_ := at_) (hd := hd) r (i + 1)
    rw [leftsW]
    split
    · simp only [List.length_cons]; omega
    · split <;> simp only [List.length_cons] <;> omega
theorem leftsW_lt {at_ : List Int} {hd : Work} {k : Nat} (hk : at_.getD 0 0 = (k : Int)) : ∀ {l : List Work} {i : Nat} (j : Nat), j < l.length → i + j ≠ k → inL at_ (i + j) = true → (leftsW at_ hd l i).length < l.length
  | x :: r, i, 0, _, h1, h2 => by
    have ih := leftsW_le (at_ := at_) (hd := hd) r (i + 1)
    rw [leftsW, hk, if_neg (by omega), if_pos (by simpa using h2)]
    simp only [List.length_cons]; omega
  | x :: r, i, j + 1, h, h1, h2 => by
    have ih := leftsW_lt (hd := hd) hk (l := r) (i := i + 1) j (by simpa using h) (by omega) (by rw [show i + 1 + j = i + (j + 1) by omega]; exact h2)
    rw [leftsW]
    split
    · simp only [List.length_cons]; omega
    · split <;> simp only [List.length_cons] <;> omega
theorem alikeH_head {a b : List Int} {n : Nat} (hn : 1 ≤ n) (c : List Int) (ha : alikeH a a = true) : alikeH (a.take n ++ c) b = alikeH a b := by
  cases a with
  | nil => simp [alikeH] at ha
  | cons x a =>
    obtain ⟨m, rfl⟩ : ∃ m, n = m + 1 := ⟨n - 1, by omega⟩
    cases b <;> simp [alikeH]
theorem take_alike : ∀ (a b : List Int) (n : Nat), n ≤ alikeN a b → b.take n = a.take n
  | _, _, 0, _ => by simp
  | x :: a, y :: b, n + 1, h => by
    rw [alikeN] at h
    split at h
    · rename_i e; subst e
      simp only [List.take_succ_cons]
      rw [take_alike a b n (by omega)]
    · omega
  | [], b, n + 1, h => by simp [alikeN] at h
  | x :: a, [], n + 1, h => by simp [alikeN] at h
/-- What is known of a group on the way. -/
structure GrpK (g : Gram) (gap : Bool) (l : List Work) (at_ : List Int) (k n : Nat) : Prop where
  hk : k < l.length
  at0 : at_.getD 0 0 = (k : Int)
  inn : ∀ j (hj : j < l.length), inL at_ j = alikeH l[k].right l[j].right
  self : alikeH l[k].right l[k].right = true
  first : firstR l at_ = l[k].right
  n1 : 1 ≤ n
  nl : n ≤ l[k].right.length
  plain : ∀ j (hj : j < l.length), inL at_ j = true → Plain g gap l[j] ∧ l[j].right.take n = l[k].right.take n
  other : ∃ j, ∃ _ : j < l.length, j ≠ k ∧ inL at_ j = true
theorem groupK {g : Gram} {gap : Bool} {l : List Work} (hp : l.Pairwise (PairQ g gap)) (h : groupW l 0 ≠ []) : ∃ k, GrpK g gap l (groupW l 0) k (comW l (groupW l 0)) := by
  have G := group_grp h
  obtain ⟨k, h1, h2, h3, h4⟩ := G.first
  have hf : firstR l (groupW l 0) = l[k].right := by
    rw [firstR, h2]
    simp only [Int.toNat_natCast]
    rw [List.getD_eq_getElem?_getD, List.getElem?_eq_getElem h1]; rfl
  have hne : 1 ≤ l[k].right.length := by
    cases hc : l[k].right with
    | nil => rw [hc] at h4; simp [alikeH] at h4
    | cons x r => simp
  have hplain : ∀ j (hj : j < l.length), inL (groupW l 0) j = true → Plain g gap l[j] := fun j hj hi => by
    obtain ⟨j', e1, e2, e3, e4⟩ := G.pair j hj hi
    have hQ : PairQ g gap l[j] l[j'] := by
      rw [List.pairwise_iff_getElem] at hp
      rcases Nat.lt_or_ge j j' with hlt | hge
      · exact hp j j' hj e1 hlt
      · exact (hp j' j e1 hj (by omega)).symm
    rcases hQ with ⟨q, _⟩ | q
    · exact q
    · rw [e4] at q; cases q
  have hkin : inL (groupW l 0) k = true := by rw [h3 k h1]; exact h4
  obtain ⟨j', e1, e2, e3, e4⟩ := G.pair k h1 hkin
  refine ⟨k, h1, h2, h3, h4, hf, ?_, ?_, fun j hj hi => ⟨hplain j hj hi, ?_⟩, ⟨j', e1, e3, by rw [h3 j' e1]; exact e4⟩⟩
  · rw [comW, hf]
    refine commonN_ge hne fun x hx => ?_
    obtain ⟨j, d1, rfl, d3⟩ := samesW_mem hx
    rw [Nat.zero_add, h3 j d1, ← alikeN_pos] at d3
    have := of_decide_eq_true d3
    omega
  · rw [comW, hf]; exact commonN_le _ _
  · refine take_alike _ _ _ ?_
    rw [comW, hf]
    refine commonN_mem ?_
    have : ∀ (l : List Work) (i : Nat) (hj : j < l.length), inL (groupW l 0) j = true → True := fun _ _ _ _ => trivial
    clear this
    have hm : ∀ (at_ : List Int) (l : List Work) (i j : Nat) (hj : j < l.length), inL at_ (i + j) = true → l[j] ∈ samesW at_ l i := by
      intro at_ l
      induction l with
      | nil => intro i j hj; simp at hj
      | cons x r ih =>
        intro i j hj hi
        rw [samesW]
        cases j with
        | zero => rw [if_pos (by simpa using hi)]; simp
        | succ j =>
          have := ih (i + 1) j (by simpa using hj) (by rw [show i + 1 + j = i + (j + 1) by omega]; exact hi)
          split
          · exact List.mem_cons_of_mem _ this
          · exact this
    exact hm _ _ 0 j hj (by rwa [Nat.zero_add])

theorem kids_split (a : List Int) (n : Nat) : (kids a).length = (kids (a.take n)).length + (kids (a.drop n)).length := by
  rw [← List.length_append, ← kids_append, List.take_append_drop]
theorem getD_set_self {all : List (List Work)} {v : Nat} (h : v < all.length) (x : List Work) (r : List (List Work)) : (all.set v x ++ r).getD v [] = x := by
  rw [List.getD_eq_getElem?_getD, List.getElem?_append_left (by simpa using h), List.getElem?_set_self h]; rfl
theorem getD_set_other {all : List (List Work)} {v u : Nat} (h : u < all.length) (hne : u ≠ v) (x : List Work) (r : List (List Work)) : (all.set v x ++ r).getD u [] = all.getD u [] := by
  rw [List.getD_eq_getElem?_getD, List.getElem?_append_left (by simpa using h), List.getElem?_set_ne (fun e => hne e.symm), ← List.getD_eq_getElem?_getD]
theorem getD_set_last {all : List (List Work)} {v : Nat} (x y : List Work) : (all.set v x ++ [y]).getD all.length [] = y := by
  rw [List.getD_eq_getElem?_getD, List.getElem?_append_right (by simp)]; simp
theorem getD_set_out {all : List (List Work)} {v u : Nat} (h : all.length < u) (x y : List Work) : (all.set v x ++ [y]).getD u [] = [] := by
  rw [List.getD_eq_getElem?_getD, List.getElem?_eq_none (by simp; omega)]; rfl
theorem WOk.mono {g : Gram} {N M : Nat} {w : Work} (h : WOk g N w) (hN : N ≤ M) : WOk g M w := ⟨fun s hs => by have := h.sym s hs; omega, h.len, h.part, h.slim⟩
theorem WOk.plain {g : Gram} {N : Nat} {w : Work} {gap : Bool} (hs : ∀ s ∈ w.right, -g.terms ≤ s ∧ s < (N : Int)) (hp : Plain g gap w) : WOk g N w := by
  obtain ⟨r, h1, h2, h3⟩ := hp
  refine ⟨hs, by omega, ?_, ?_⟩
  · rw [h2]; exact part_plain h1 (by omega)
  · rw [h2]; exact fszs_plain (by omega)
section
variable {g : Gram} {all : List (List Work)} {v : Nat}
theorem FInv.grp (h : FInv g all v) (hne : groupW (all.getD v []) 0 ≠ []) : ∃ k, GrpK g (gapAt g v) (all.getD v []) (groupW (all.getD v []) 0) k (comW (all.getD v []) (groupW (all.getD v []) 0)) := groupK (h.form v (Nat.le_refl _)) hne
theorem FInv.mem (h : FInv g all v) {w : Work} (hw : w ∈ all.getD v []) : WOk g all.length w := h.ok _ (getD_memW hw) w hw
theorem rest_plain (hg : g.ok) (h : FInv g all v) {k n : Nat} {at_ : List Int} (G : GrpK g (gapAt g v) (all.getD v []) at_ k n) {x : Work} (hx : x ∈ samesW at_ (all.getD v []) 0) :
    Plain g true (restW n (kids (((all.getD v [])[k]'G.hk).right.take n)).length x) ∧ ∀ s ∈ x.right.drop n, -g.terms ≤ s ∧ s < (all.length : Int) := by
  obtain ⟨j, h1, rfl, h3⟩ := samesW_mem hx
  rw [Nat.zero_add] at h3
  obtain ⟨⟨r, p1, p2, p3⟩, p4⟩ := G.plain j h1 h3
  refine ⟨⟨r, p1, ?_, ?_⟩, fun s hs => (h.mem (List.getElem_mem h1)).sym s (List.mem_of_mem_drop hs)⟩
  · have e := kids_split ((all.getD v [])[j]).right n
    rw [p4] at e
    simp only [restW]
    rw [p2]
    simp only [plainF, tailF, gapL, cond_true, List.getD_cons_zero, Frag.n, List.singleton_append]
    rw [show (kids ((all.getD v [])[j]).right).length - (kids (((all.getD v [])[k]'G.hk).right.take n)).length = (kids (((all.getD v [])[j]).right.drop n)).length by omega]
  · simp only [restW, List.length_drop]; omega
theorem FInv.one (hg : g.ok) (h : FInv g all v) (hv : v < all.length) (hne : groupW (all.getD v []) 0 ≠ []) (hm : ¬ 64 < (oneW g.vars.toNat all v (groupW (all.getD v []) 0)).length) :
    FInv g (oneW g.vars.toNat all v (groupW (all.getD v []) 0)) v ∧ ((oneW g.vars.toNat all v (groupW (all.getD v []) 0)).getD v []).length < (all.getD v []).length := by
  obtain ⟨k, G⟩ := h.grp hne
  generalize hat : groupW (all.getD v []) 0 = at_ at *
  have hN := oneW_length g.vars.toNat all v at_
  have hvars := h.vars
  have hf := G.first
  generalize hn : comW (all.getD v []) at_ = n at *
  have hhd : headW g.vars.toNat all.length v (all.getD v []) at_ = ⟨((all.getD v [])[k]'G.hk).right.take n ++ [(all.length : Int)], headF (kids (((all.getD v [])[k]'G.hk).right.take n)).length (gapAt g v)⟩ := by
    rw [headW, hf, hn]; rfl
  have hone : oneW g.vars.toNat all v at_ = all.set v (leftsW at_ ⟨((all.getD v [])[k]'G.hk).right.take n ++ [(all.length : Int)], headF (kids (((all.getD v [])[k]'G.hk).right.take n)).length (gapAt g v)⟩ (all.getD v []) 0) ++
      [(samesW at_ (all.getD v []) 0).map (restW n (kids (((all.getD v [])[k]'G.hk).right.take n)).length)] := by
    rw [oneW, hhd, hf, hn]
  have hkp := G.plain k G.hk (by rw [G.inn k G.hk]; exact G.self)
  obtain ⟨⟨rk', pk1, pk2, pk3⟩, _⟩ := hkp
  have hkok := h.mem (List.getElem_mem G.hk)
  have hnl := G.nl
  have htl : (((all.getD v [])[k]'G.hk).right.take n).length ≤ 10 := by simp; omega
  have hdok : WOk g (all.length + 1) ⟨((all.getD v [])[k]'G.hk).right.take n ++ [(all.length : Int)], headF (kids (((all.getD v [])[k]'G.hk).right.take n)).length (gapAt g v)⟩ := by
    have hterms := hg.terms0
    refine ⟨fun s hs => ?_, by simp; omega, part_head (by omega), fszs_head (by omega)⟩
    rcases List.mem_append.1 hs with hs | hs
    · have := hkok.sym s (List.mem_of_mem_take hs); omega
    · rw [List.mem_singleton.1 hs]; omega
  have hself := G.self
  have hnew : ∀ j (hj : j < (all.getD v []).length), inL at_ (0 + j) = false → 0 + j ≠ k → alikeH (((all.getD v [])[k]'G.hk).right.take n ++ [(all.length : Int)]) ((all.getD v [])[j]).right = false := fun j hj hi _ => by
    rw [alikeH_head G.n1 _ hself, ← G.inn j hj]
    rwa [Nat.zero_add] at hi
  have hlen : (oneW g.vars.toNat all v at_).length ≤ 64 := by omega
  constructor
  · refine ⟨hlen, by omega, ?_, ?_, ?_⟩
    · rw [hN]
      intro l hl w hw
      rw [hone] at hl
      rcases List.mem_append.1 hl with hl | hl
      · rcases List.mem_or_eq_of_mem_set hl with hl | rfl
        · exact (h.ok l hl w hw).mono (by omega)
        · rcases leftsW_mem G.at0 hw with ⟨rfl, _⟩ | ⟨j, j1, rfl, _, _⟩
          · exact hdok
          · exact (h.mem (List.getElem_mem j1)).mono (by omega)
      · rw [List.mem_singleton.1 hl] at hw
        obtain ⟨x, hx, rfl⟩ := List.mem_map.1 hw
        obtain ⟨q1, q2⟩ := rest_plain hg h G hx
        exact (WOk.plain (N := all.length) (fun s hs => q2 s hs) q1).mono (by omega)
    · intro u hu
      rw [hone]
      rcases Nat.lt_trichotomy u all.length with h1 | rfl | h1
      · by_cases huv : u = v
        · subst huv
          rw [getD_set_self h1]
          exact leftsW_pair G.at0 (h.form u hu) hnew
        · rw [getD_set_other h1 huv]; exact h.form u hu
      · rw [getD_set_last]
        have hgt : gapAt g all.length = true := decide_eq_true hvars
        rw [hgt, List.pairwise_map]
        refine List.Pairwise.imp_of_mem (R := fun _ _ => True) (fun ha hb _ => .inl ⟨(rest_plain hg h G ha).1, (rest_plain hg h G hb).1⟩) ?_
        exact List.pairwise_of_forall (fun _ _ => trivial)
      · rw [getD_set_out h1]; exact List.Pairwise.nil
    · intro u hu
      rw [hone, getD_set_other (by omega) (by omega)]
      exact h.none u hu
  · rw [hone, getD_set_self hv]
    obtain ⟨j, j1, j2, j3⟩ := G.other
    exact leftsW_lt G.at0 j j1 (by omega) (by rwa [Nat.zero_add])
theorem FInv.next (h : FInv g all v) (hne : groupW (all.getD v []) 0 = []) : FInv g all (v + 1) :=
  ⟨h.len, h.vars, h.ok, fun u hu => h.form u (by omega), fun u hu => by
    by_cases e : u = v
    · subst e; exact hne
    · exact h.none u (by omega)⟩
/-- The way ends; and what it ends with. -/
theorem fac_ends (hg : g.ok) : ∀ (a b : Nat) {all : List (List Work)} {v : Nat}, 65 - v ≤ a → (all.getD v []).length ≤ b → FInv g all v → ∃ r, Fac g.vars.toNat all v r ∧ ∀ z, r = .ok z → FInv g z z.length
  | 0, _, all, v, ha, _, h => by
    have := h.len
    refine ⟨.ok all, .done (by omega), fun z e => ?_⟩
    cases e
    exact ⟨h.len, h.vars, h.ok, fun u hu => by
      rw [List.getD_eq_getElem?_getD, List.getElem?_eq_none (by omega)]; exact List.Pairwise.nil, fun u hu => h.none u (by omega)⟩
  | a + 1, b, all, v, ha, hb, h => by
    by_cases hv : v < all.length
    · by_cases hne : groupW (all.getD v []) 0 = []
      · obtain ⟨r, h1, h2⟩ := fac_ends hg a ((all.getD (v + 1) []).length) (by omega) (Nat.le_refl _) (h.next hne)
        exact ⟨r, .next hv hne h1, h2⟩
      · by_cases hm : 64 < (oneW g.vars.toNat all v (groupW (all.getD v []) 0)).length
        · exact ⟨.error v, .many hv hne hm, fun z e => by cases e⟩
        · obtain ⟨h1, h2⟩ := h.one hg hv hne hm
          match b with
          | 0 => omega
          | b + 1 =>
            obtain ⟨r, h3, h4⟩ := fac_ends hg (a + 1) b (by omega) (by omega) h1
            exact ⟨r, .one hv hne hm h3, h4⟩
    · refine ⟨.ok all, .done hv, fun z e => ?_⟩
      cases e
      exact ⟨h.len, h.vars, h.ok, fun u hu => by
        rw [List.getD_eq_getElem?_getD, List.getElem?_eq_none (by omega)]; exact List.Pairwise.nil, fun u hu => h.none u (by omega)⟩
termination_by a b => (a, b)
end
end Go.Proofs.Yticnpbopelgmiaa
