/-
  Templates put into templates, plain.
-/
import Derived.Test.YtkfeccbahpmadaaP1
set_option linter.unusedVariables false
set_option linter.unusedSimpArgs false
set_option linter.unusedSectionVars false
namespace Go.Proofs.Ytkfeccbahpmadaa
open Go.RowKit

/-- The number of a hole that is moved. -/
def mvN (o n over by_ : Int) : Int := if (o = 2 ∨ o = 4) ∧ over < n then n + by_ else n
mutual
def movF (over by_ : Int) : Frag → Frag
  | .mk o n l => .mk o (mvN o n over by_) (movL over by_ l)
def movL (over by_ : Int) : List Frag → List Frag
  | [] => []
  | x :: r => movF over by_ x :: movL over by_ r
end
mutual
def gpF (w : List Frag) : Frag → List Frag
  | .mk o n l => if o = 3 then w else [.mk o n (gpL w l)]
def gpL (w : List Frag) : List Frag → List Frag
  | [] => []
  | x :: r => gpF w x ++ gpL w r
end
mutual
def ptF (k : Int) (inn : List Frag) (by_ : Int) : Frag → List Frag
  | .mk o n l => if o = 2 ∧ n = k then inn else if o = 4 ∧ n = k then gpL (ptL k inn by_ l) inn else [.mk o (mvN o n k by_) (ptL k inn by_ l)]
def ptL (k : Int) (inn : List Frag) (by_ : Int) : List Frag → List Frag
  | [] => []
  | x :: r => ptF k inn by_ x ++ ptL k inn by_ r
end
def plugL (l : List Frag) (k : Int) (inn : List Frag) (n : Int) : List Frag := ptL k (movL (-1) k inn) (n - 1) l
theorem movF_eq (o b : Int) (x : Frag) : movF o b x = .mk x.op (mvN x.op x.n o b) (movL o b x.l) := by cases x; rw [movF]; rfl
theorem gpF_eq (w : List Frag) (x : Frag) : gpF w x = if x.op = 3 then w else [.mk x.op x.n (gpL w x.l)] := by cases x; rw [gpF]; rfl
theorem ptF_eq (k : Int) (inn : List Frag) (b : Int) (x : Frag) : ptF k inn b x = if x.op = 2 ∧ x.n = k then inn else if x.op = 4 ∧ x.n = k then gpL (ptL k inn b x.l) inn else [.mk x.op (mvN x.op x.n k b) (ptL k inn b x.l)] := by cases x; rw [ptF]; rfl
theorem movL_append (o b : Int) : ∀ (x y : List Frag), movL o b (x ++ y) = movL o b x ++ movL o b y
  | [], y => rfl
  | a :: x, y => by simp only [List.cons_append, movL, movL_append o b x y]
theorem gpL_append (w : List Frag) : ∀ (x y : List Frag), gpL w (x ++ y) = gpL w x ++ gpL w y
  | [], y => rfl
  | a :: x, y => by simp only [List.cons_append, gpL, gpL_append w x y, List.append_assoc]
theorem ptL_append (k : Int) (inn : List Frag) (b : Int) : ∀ (x y : List Frag), ptL k inn b (x ++ y) = ptL k inn b x ++ ptL k inn b y
  | [], y => rfl
  | a :: x, y => by simp only [List.cons_append, ptL, ptL_append k inn b x y, List.append_assoc]
theorem movL_take {o b : Int} {l : List Frag} {i : Nat} (h : i < l.length) : movL o b (l.take (i + 1)) = movL o b (l.take i) ++ [movF o b l[i]] := by
  rw [List.take_succ_eq_append_getElem h, movL_append]; simp [movL]
theorem gpL_take {w : List Frag} {l : List Frag} {i : Nat} (h : i < l.length) : gpL w (l.take (i + 1)) = gpL w (l.take i) ++ gpF w l[i] := by
  rw [List.take_succ_eq_append_getElem h, gpL_append]; simp [gpL]
theorem ptL_take {k : Int} {inn : List Frag} {b : Int} {l : List Frag} {i : Nat} (h : i < l.length) : ptL k inn b (l.take (i + 1)) = ptL k inn b (l.take i) ++ ptF k inn b l[i] := by
  rw [List.take_succ_eq_append_getElem h, ptL_append]; simp [ptL]
theorem movL_len (o b : Int) : ∀ l : List Frag, (movL o b l).length = l.length
  | [] => rfl
  | x :: l => by simp [movL, movL_len o b l]
mutual
theorem movF_size (o b : Int) : ∀ x : Frag, fsz (movF o b x) = fsz x
  | .mk _ _ l => by rw [movF, fsz, fsz, movL_size o b l]
theorem movL_size (o b : Int) : ∀ l : List Frag, fszs (movL o b l) = fszs l
  | [] => rfl
  | x :: l => by rw [movL, fszs, fszs, movF_size o b x, movL_size o b l]
end
mutual
theorem movF_zero (o : Int) : ∀ x : Frag, movF o 0 x = x
  | .mk a n l => by
    rw [movF, movL_zero o l, mvN]
    split <;> simp
theorem movL_zero (o : Int) : ∀ l : List Frag, movL o 0 l = l
  | [] => rfl
  | x :: l => by rw [movL, movF_zero o x, movL_zero o l]
end
mutual
theorem gpF_size (w : List Frag) : ∀ x : Frag, fszs (gpF w x) ≤ fsz x * (1 + fszs w)
  | .mk o n l => by
    have h := gpL_size w l
    rw [gpF, fsz, Nat.add_mul]
    split
    · omega
    · simp only [fszs, fsz]; omega
theorem gpL_size (w : List Frag) : ∀ l : List Frag, fszs (gpL w l) ≤ fszs l * (1 + fszs w)
  | [] => by simp [gpL, fszs]
  | x :: l => by
    have h1 := gpF_size w x
    have h2 := gpL_size w l
    rw [gpL, fszs_append, fszs, Nat.add_mul]; omega
end
/-! ### Numbers that are not too great -/
mutual
def NbF (B : Int) : Frag → Prop
  | .mk _ n l => (-B ≤ n ∧ n ≤ B) ∧ NbL B l
def NbL (B : Int) : List Frag → Prop
  | [] => True
  | x :: r => NbF B x ∧ NbL B r
end
theorem NbF_eq {B : Int} {x : Frag} (h : NbF B x) : (-B ≤ x.n ∧ x.n ≤ B) ∧ NbL B x.l := by cases x; exact h
theorem NbL_mem {B : Int} {x : Frag} : ∀ {l : List Frag}, NbL B l → x ∈ l → NbF B x
  | y :: l, h, hm => by
    rcases List.mem_cons.1 hm with rfl | hm
    · exact h.1
    · exact NbL_mem h.2 hm
/-! ### All that comes in between is not too great -/
mutual
def PtF (k : Int) (inn : List Frag) (b : Int) : Frag → Prop
  | .mk o n l => PtL k inn b l ∧ (o = 4 ∧ n = k → fszs inn * (1 + fszs (ptL k inn b l)) ≤ 100000000)
def PtL (k : Int) (inn : List Frag) (b : Int) : List Frag → Prop
  | [] => True
  | x :: r => PtF k inn b x ∧ PtL k inn b r ∧ fszs (ptL k inn b (x :: r)) ≤ 100000000
end
theorem PtF_eq {k : Int} {inn : List Frag} {b : Int} {x : Frag} (h : PtF k inn b x) : PtL k inn b x.l ∧ (x.op = 4 ∧ x.n = k → fszs inn * (1 + fszs (ptL k inn b x.l)) ≤ 100000000) := by
  cases x; rw [PtF] at h; exact h
theorem PtL_mem {k : Int} {inn : List Frag} {b : Int} {x : Frag} : ∀ {l : List Frag}, PtL k inn b l → x ∈ l → PtF k inn b x
  | y :: l, h, hm => by
    rw [PtL] at h
    rcases List.mem_cons.1 hm with rfl | hm
    · exact h.1
    · exact PtL_mem h.2.1 hm
theorem PtL_size {k : Int} {inn : List Frag} {b : Int} : ∀ {l : List Frag}, PtL k inn b l → fszs (ptL k inn b l) ≤ 100000000
  | [], _ => by simp [ptL, fszs]
  | x :: l, h => by rw [PtL] at h; exact h.2.2
end Go.Proofs.Ytkfeccbahpmadaa
