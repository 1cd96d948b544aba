/-
  Factors, plain: what factor.Make makes, and that it is a step. Factors, plain: what holds on the way; the way ends; what comes of it is a step. Factors, plain: what comes of it is a step, no two rules of a nonterminal begin alike, and made once more it is the same. Templates put into templates, plain. Turn, plain: rules that begin with an earlier nonterminal, or with their own.
-/
import Derived.Test.YticnpbopelgmiaaP1
set_option linter.unusedVariables false
set_option linter.unusedSimpArgs false
set_option linter.unusedSectionVars false
namespace Go.Proofs.Yticnpbopelgmiaa
open Go.RowKit

structure Work where
  right : List Int
  l : List Frag
instance : Inhabited Work := ⟨⟨[], []⟩⟩
/-! ### Groups -/
/-! ### What becomes of a group -/
/-! ### The whole way -/
end Go.Proofs.Yticnpbopelgmiaa
namespace Go.Proofs.Yticnpbopelgmiaa
open Go.RowKit

theorem fszs_holesQ : ∀ (k : Nat), fszs (holes k) = k
  | 0 => rfl
  | k + 1 => by rw [show holes (k + 1) = holes k ++ [.mk 2 k []] by simp [holes, List.range_succ], fszs_append, fszs_holesQ k]; simp [fszs, fsz]
/-! ### What holds on the way -/
structure WOk (g : Gram) (N : Nat) (w : Work) : Prop where
  sym : ∀ s ∈ w.right, -g.terms ≤ s ∧ s < (N : Int)
  len : w.right.length ≤ 11
  part : partFault g w.l w.right = 0
  slim : fszs w.l ≤ 100
section
variable {g : Gram} {all : List (List Work)} {v : Nat}
end
end Go.Proofs.Yticnpbopelgmiaa
namespace Go.Proofs.Yticnpbopelgmiaa
open Go.RowKit

def ruleAt (g : Gram) (r : Int) : Rule := g.rules.getD r.toNat ⟨0, []⟩
def worksAt (g : Gram) (v : Nat) : List Work := (by_ g v).map fun r => ⟨(ruleAt g r).right, nodeF r (kids (ruleAt g r).right).length⟩
def startW (g : Gram) : List (List Work) := (List.range g.vars.toNat).map (worksAt g)
theorem byR_at {v x : Int} : ∀ {rs : List Rule} {i : Nat}, x ∈ byR rs v i → ∃ j, ∃ h : j < rs.length, x = ((i + j : Nat) : Int) ∧ rs[j].left = v
  | [], i, h => by simp [byR] at h
  | r :: rs, i, h => by
    rw [byR] at h
    have next : x ∈ byR rs v (i + 1) → ∃ j, ∃ h : j < (r :: rs).length, x = ((i + j : Nat) : Int) ∧ (r :: rs)[j].left = v := fun h => by
      obtain ⟨j, h1, h2, h3⟩ := byR_at h
      exact ⟨j + 1, by simp; omega, by rw [h2]; congr 1; omega, by simpa using h3⟩
    split at h
    · rename_i e
      rcases List.mem_cons.1 h with rfl | h
      · exact ⟨0, by simp, by simp, e⟩
      · exact next h
    · exact next h
theorem by_atR {g : Gram} {v : Nat} {r : Int} (h : r ∈ by_ g v) : ∃ j, ∃ hj : j < g.rules.length, r = (j : Int) ∧ g.rules[j].left = (v : Int) ∧ ruleAt g r = g.rules[j] := by
  obtain ⟨j, h1, h2, h3⟩ := byR_at h
  rw [Nat.zero_add] at h2
  refine ⟨j, h1, h2, h3, ?_⟩
  rw [ruleAt, h2]
  simp only [Int.toNat_natCast]
  rw [List.getD_eq_getElem?_getD, List.getElem?_eq_getElem h1]; rfl
theorem startW_length (g : Gram) : (startW g).length = g.vars.toNat := by simp [startW]
theorem startW_get {g : Gram} {v : Nat} (h : v < g.vars.toNat) : (startW g).getD v [] = worksAt g v := by
  rw [List.getD_eq_getElem?_getD, startW, List.getElem?_map, List.getElem?_range h]; rfl
theorem startW_out {g : Gram} {v : Nat} (h : ¬ v < g.vars.toNat) : (startW g).getD v [] = [] := by
  rw [List.getD_eq_getElem?_getD, List.getElem?_eq_none (by rw [startW_length]; omega)]; rfl
/-! ### The rules of it -/
def finL (v : Nat) : List Work → List Rule → List (List Frag) → Option (List Rule × List (List Frag))
  | [], R, F => some (R, F)
  | w :: r, R, F => if R.length = 160 ∨ 10 < w.right.length then none else finL v r (R ++ [⟨(v : Int), w.right⟩]) (F ++ [w.l])
def finW : List (List Work) → Nat → List Rule → List (List Frag) → Except Nat (List Rule × List (List Frag))
  | [], _, R, F => .ok (R, F)
  | l :: r, v, R, F => match finL v l R F with
    | none => .error v
    | some x => finW r (v + 1) x.1 x.2
def rulesF : List (List Work) → Nat → List Rule
  | [], _ => []
  | l :: r, v => l.map (fun w => (⟨(v : Int), w.right⟩ : Rule)) ++ rulesF r (v + 1)
def fragsF : List (List Work) → List (List Frag)
  | [] => []
  | l :: r => l.map (·.l) ++ fragsF r
theorem finL_of {v : Nat} : ∀ {l : List Work} {R : List Rule} {F : List (List Frag)}, R.length + l.length ≤ 160 → (∀ w ∈ l, w.right.length ≤ 10) → finL v l R F = some (R ++ l.map (fun w => (⟨(v : Int), w.right⟩ : Rule)), F ++ l.map (·.l))
  | [], R, F, _, _ => by simp [finL]
  | w :: r, R, F, h1, h2 => by
    have hw := h2 w (by simp)
    simp only [List.length_cons] at h1
    rw [finL, if_neg (by omega), finL_of (by simp; omega) (fun y hy => h2 y (by simp [hy]))]
    simp
theorem finW_of : ∀ {all : List (List Work)} {v : Nat} {R : List Rule} {F : List (List Frag)}, R.length + (rulesF all v).length ≤ 160 → (∀ l ∈ all, ∀ w ∈ l, w.right.length ≤ 10) → finW all v R F = .ok (R ++ rulesF all v, F ++ fragsF all)
  | [], v, R, F, _, _ => by simp [finW, rulesF, fragsF]
  | l :: r, v, R, F, h1, h2 => by
    simp only [rulesF, List.length_append, List.length_map] at h1
    rw [finW, finL_of (by omega) (h2 l (by simp))]
    dsimp only
    rw [finW_of (by simp; omega) (fun y hy => h2 y (by simp [hy]))]
    simp [rulesF, fragsF]
def factorEnd (g : Gram) (r : Except Nat (List (List Work))) : Step × Fault := match r with
  | .error v => (zeroStep, ⟨6, (v : Nat)⟩)
  | .ok z => match finW z 0 [] [] with
    | .error v => (zeroStep, ⟨6, (v : Nat)⟩)
    | .ok x => (⟨⟨(z.length : Nat), g.terms, g.start, x.1⟩, x.2, []⟩, ⟨0, 0⟩)
/-! ### Rights alone matter -/
theorem rulesF_left : ∀ {all : List (List Work)} {v : Nat} {r : Rule}, r ∈ rulesF all v → (v : Int) ≤ r.left ∧ r.left < ((v + all.length : Nat) : Int) ∧ ∃ w ∈ all.getD (r.left.toNat - v) [], r.right = w.right
  | [], v, r, h => by simp [rulesF] at h
  | l :: a, v, r, h => by
    rw [rulesF] at h
    rcases List.mem_append.1 h with h | h
    · obtain ⟨w, hw, rfl⟩ := List.mem_map.1 h
      dsimp only
      refine ⟨Int.le_refl _, by simp; omega, w, ?_, rfl⟩
      simpa using hw
    · obtain ⟨h1, h2, w, h3, h4⟩ := rulesF_left h
      refine ⟨by omega, by simp only [List.length_cons]; omega, w, ?_, h4⟩
      rw [show r.left.toNat - v = (r.left.toNat - (v + 1)) + 1 by omega]
      simpa using h3
/-! ### It is a step -/
section
variable {g : Gram} {z : List (List Work)} {x : List Rule × List (List Frag)}
theorem parts_of : ∀ {all : List (List Work)} {v : Nat}, (∀ l ∈ all, ∀ w ∈ l, partFault g w.l w.right = 0) → PartsOk g (fragsF all) (rulesF all v)
  | [], v, _ => .nil
  | l :: a, v, h => by
    rw [fragsF, rulesF]
    refine All2.append ?_ (parts_of (fun y hy => h y (by simp [hy])))
    have hl := h l (by simp)
    clear h
    induction l with
    | nil => exact .nil
    | cons w r ih => exact .cons (hl w (by simp)) (ih (fun y hy => hl y (by simp [hy])))
end
end Go.Proofs.Yticnpbopelgmiaa
namespace Go.Proofs.Yticnpbopelgmiaa
open Go.RowKit

/-- The number of a hole that is moved. -/
def mvN (o n over by_ : Int) : Int := if (o = 2 ∨ o = 4) ∧ over < n then n + by_ else n
mutual
def movF (over by_ : Int) : Frag → Frag
  | .mk o n l => .mk o (mvN o n over by_) (movL over by_ l)
def movL (over by_ : Int) : List Frag → List Frag
  | [] => []
  | x :: r => movF over by_ x :: movL over by_ r
end
mutual
def gpF (w : List Frag) : Frag → List Frag
  | .mk o n l => if o = 3 then w else [.mk o n (gpL w l)]
def gpL (w : List Frag) : List Frag → List Frag
  | [] => []
  | x :: r => gpF w x ++ gpL w r
end
mutual
def ptF (k : Int) (inn : List Frag) (by_ : Int) : Frag → List Frag
  | .mk o n l => if o = 2 ∧ n = k then inn else if o = 4 ∧ n = k then gpL (ptL k inn by_ l) inn else [.mk o (mvN o n k by_) (ptL k inn by_ l)]
def ptL (k : Int) (inn : List Frag) (by_ : Int) : List Frag → List Frag
  | [] => []
  | x :: r => ptF k inn by_ x ++ ptL k inn by_ r
end
def plugL (l : List Frag) (k : Int) (inn : List Frag) (n : Int) : List Frag := ptL k (movL (-1) k inn) (n - 1) l
theorem movF_eq (o b : Int) (x : Frag) : movF o b x = .mk x.op (mvN x.op x.n o b) (movL o b x.l) := by cases x; rw [movF]; rfl
theorem gpF_eq (w : List Frag) (x : Frag) : gpF w x = if x.op = 3 then w else [.mk x.op x.n (gpL w x.l)] := by cases x; rw [gpF]; rfl
theorem ptF_eq (k : Int) (inn : List Frag) (b : Int) (x : Frag) : ptF k inn b x = if x.op = 2 ∧ x.n = k then inn else if x.op = 4 ∧ x.n = k then gpL (ptL k inn b x.l) inn else [.mk x.op (mvN x.op x.n k b) (ptL k inn b x.l)] := by cases x; rw [ptF]; rfl
theorem movL_append (o b : Int) : ∀ (x y : List Frag), movL o b (x ++ y) = movL o b x ++ movL o b y
  | [], y => rfl
  | a :: x, y => by simp only [List.cons_append, movL, movL_append o b x y]
theorem gpL_append (w : List Frag) : ∀ (x y : List Frag), gpL w (x ++ y) = gpL w x ++ gpL w y
  | [], y => rfl
  | a :: x, y => by simp only [List.cons_append, gpL, gpL_append w x y, List.append_assoc]
theorem ptL_append (k : Int) (inn : List Frag) (b : Int) : ∀ (x y : List Frag), ptL k inn b (x ++ y) = ptL k inn b x ++ ptL k inn b y
  | [], y => rfl
  | a :: x, y => by simp only [List.cons_append, ptL, ptL_append k inn b x y, List.append_assoc]
theorem movL_take {o b : Int} {l : List Frag} {i : Nat} (h : i < l.length) : movL o b (l.take (i + 1)) = movL o b (l.take i) ++ [movF o b l[i]] := by
  rw [List.take_succ_eq_append_getElem h, movL_append]; simp [movL]
theorem gpL_take {w : List Frag} {l : List Frag} {i : Nat} (h : i < l.length) : gpL w (l.take (i + 1)) = gpL w (l.take i) ++ gpF w l[i] := by
  rw [List.take_succ_eq_append_getElem h, gpL_append]; simp [gpL]
theorem ptL_take {k : Int} {inn : List Frag} {b : Int} {l : List Frag} {i : Nat} (h : i < l.length) : ptL k inn b (l.take (i + 1)) = ptL k inn b (l.take i) ++ ptF k inn b l[i] := by
  rw [List.take_succ_eq_append_getElem h, ptL_append]; simp [ptL]
theorem movL_len (o b : Int) : ∀ l : List Frag, (movL o b l).length = l.length
  | [] => rfl
  | x :: l => by simp [movL, movL_len o b l]
mutual
theorem movF_size (o b : Int) : ∀ x : Frag, fsz (movF o b x) = fsz x
  | .mk _ _ l => by rw [movF, fsz, fsz, movL_size o b l]
theorem movL_size (o b : Int) : ∀ l : List Frag, fszs (movL o b l) = fszs l
  | [] => rfl
  | x :: l => by rw [movL, fszs, fszs, movF_size o b x, movL_size o b l]
end
mutual
theorem movF_zero (o : Int) : ∀ x : Frag, movF o 0 x = x
  | .mk a n l => by
    rw [movF, movL_zero o l, mvN]
    split <;> simp
theorem movL_zero (o : Int) : ∀ l : List Frag, movL o 0 l = l
  | [] => rfl
  | x :: l => by rw [movL, movF_zero o x, movL_zero o l]
end
mutual
theorem gpF_size (w : List Frag) : ∀ x : Frag, fszs (gpF w x) ≤ fsz x * (1 + fszs w)
  | .mk o n l => by
    have h := gpL_size w l
    rw [gpF, fsz, Nat.add_mul]
    split
    · omega
    · simp only [fszs, fsz]; omega
theorem gpL_size (w : List Frag) : ∀ l : List Frag, fszs (gpL w l) ≤ fszs l * (1 + fszs w)
  | [] => by simp [gpL, fszs]
  | x :: l => by
    have h1 := gpF_size w x
    have h2 := gpL_size w l
    rw [gpL, fszs_append, fszs, Nat.add_mul]; omega
end
/-! ### Numbers that are not too great -/
mutual
def NbF (B : Int) : Frag → Prop
  | .mk _ n l => (-B ≤ n ∧ n ≤ B) ∧ NbL B l
def NbL (B : Int) : List Frag → Prop
  | [] => True
  | x :: r => NbF B x ∧ NbL B r
end
theorem NbF_eq {B : Int} {x : Frag} (h : NbF B x) : (-B ≤ x.n ∧ x.n ≤ B) ∧ NbL B x.l := by cases x; exact h
theorem NbL_mem {B : Int} {x : Frag} : ∀ {l : List Frag}, NbL B l → x ∈ l → NbF B x
  | y :: l, h, hm => by
    rcases List.mem_cons.1 hm with rfl | hm
    · exact h.1
    · exact NbL_mem h.2 hm
/-! ### All that comes in between is not too great -/
mutual
def PtF (k : Int) (inn : List Frag) (b : Int) : Frag → Prop
  | .mk o n l => PtL k inn b l ∧ (o = 4 ∧ n = k → fszs inn * (1 + fszs (ptL k inn b l)) ≤ 100000000)
def PtL (k : Int) (inn : List Frag) (b : Int) : List Frag → Prop
  | [] => True
  | x :: r => PtF k inn b x ∧ PtL k inn b r ∧ fszs (ptL k inn b (x :: r)) ≤ 100000000
end
theorem PtF_eq {k : Int} {inn : List Frag} {b : Int} {x : Frag} (h : PtF k inn b x) : PtL k inn b x.l ∧ (x.op = 4 ∧ x.n = k → fszs inn * (1 + fszs (ptL k inn b x.l)) ≤ 100000000) := by
  cases x; rw [PtF] at h; exact h
theorem PtL_mem {k : Int} {inn : List Frag} {b : Int} {x : Frag} : ∀ {l : List Frag}, PtL k inn b l → x ∈ l → PtF k inn b x
  | y :: l, h, hm => by
    rw [PtL] at h
    rcases List.mem_cons.1 hm with rfl | hm
    · exact h.1
    · exact PtL_mem h.2.1 hm
theorem PtL_size {k : Int} {inn : List Frag} {b : Int} : ∀ {l : List Frag}, PtL k inn b l → fszs (ptL k inn b l) ≤ 100000000
  | [], _ => by simp [ptL, fszs]
  | x :: l, h => by rw [PtL] at h; exact h.2.2
end Go.Proofs.Yticnpbopelgmiaa
namespace Go.Proofs.Yticnpbopelgmiaa
open Go.RowKit

def hdI (l : List Int) : Int := l.headD 0
def mixW (x y : Work) : Work := ⟨y.right ++ x.right.tail, plugL x.l 0 y.l (kids y.right).length⟩
/-- A rule that begins with u: what u may be, in its place. None: there is too much. -/
def aheadIn (x : Work) : List Work → List Work → Option (List Work)
  | [], out => some out
  | y :: ys, out => if 10 < (mixW x y).right.length ∨ 160 < (out ++ [mixW x y]).length then none else aheadIn x ys (out ++ [mixW x y])
def aheadW (A : List Work) (u : Int) : List Work → List Work → Option (List Work)
  | [], out => if 160 < out.length then none else some out
  | x :: xs, out => if hdI x.right ≠ u then aheadW A u xs (out ++ [x]) else
      match aheadIn x A out with
      | none => none
      | some out' => aheadW A u xs out'
/-- One nonterminal, all earlier ones ahead of it. -/
def aheads (all : List (List Work)) : Nat → Nat → List Work → Option (List Work)
  | _, 0, l => some l
  | u, n + 1, l => match aheadW (all.getD u []) u l [] with
    | none => none
    | some l' => aheads all (u + 1) n l'
def gapF : Frag := .mk 3 0 []
def thenW (v : Int) (x : Work) : List Work := [x, ⟨x.right ++ [v], [.mk 4 (kids x.right).length x.l]⟩]
def ownW (v : Int) (l : List Work) : List Work := (l.filter fun x => decide (hdI x.right = v)).map fun x => ⟨x.right.tail, plugL x.l 0 [gapF] 0⟩
def otherW (v : Int) (l : List Work) : List Work := l.filter fun x => !decide (hdI x.right = v)
/-- A nonterminal's own beginnings made ends of a new one. -/
def itselfW (all : List (List Work)) (l : List Work) (v : Nat) : List (List Work) :=
  if (ownW v l).length = 0 then all.set v l
  else (all ++ [(ownW v l).flatMap (thenW all.length)]).set v ((otherW v l).flatMap (thenW all.length))
def fitsT (all : List (List Work)) : Bool := all.all (fun l => l.all fun x => decide (x.right.length ≤ 10) && decide (fszs x.l ≤ 60)) && decide ((all.map List.length).sum ≤ 160) && decide (all.length ≤ 64)
/-- From the nonterminal v on, so many. An error: the nonterminal at which there was too much. -/
def turnAll : Nat → Nat → List (List Work) → Except Nat (List (List Work))
  | _, 0, all => .ok all
  | v, n + 1, all => match aheads all 0 v (all.getD v []) with
    | none => .error v
    | some l => if fitsT (itselfW all l v) = true then turnAll (v + 1) n (itselfW all l v) else .error v
end Go.Proofs.Yticnpbopelgmiaa
