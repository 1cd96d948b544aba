/-
  Templates, plain: counted, which kids they use; steps. Splits, plain: what split.Make makes, and that it is a step. Factors, plain: what factor.Make makes, and that it is a step. Factors, plain: what holds on the way; the way ends; what comes of it is a step. Factors, plain: what comes of it is a step, no two rules of a nonterminal begin alike, and made once more it is the same. Templates put into templates, plain. Turn, plain: rules that begin with an earlier nonterminal, or with their own.
-/
import Derived.Test.YticnpbopelgmiaaQS5
import Derived.Test.YticnpbopelgmiaaT1
set_option linter.unusedVariables false
set_option linter.unusedSimpArgs false
set_option linter.unusedSectionVars false
namespace Go.Proofs.Yticnpbopelgmiaa
open Go.RowKit

mutual
def fsz : Frag → Nat
  | .mk _ _ l => 1 + fszs l
def fszs : List Frag → Nat
  | [] => 0
  | x :: r => fsz x + fszs r
end
theorem fsz_eq (x : Frag) : fsz x = 1 + fszs x.l := by cases x; rfl
theorem fsz_pos (x : Frag) : 1 ≤ fsz x := by rw [fsz_eq]; omega
theorem fszs_append : ∀ (a b : List Frag), fszs (a ++ b) = fszs a + fszs b
  | [], b => by simp [fszs]
  | x :: a, b => by simp only [List.cons_append, fszs, fszs_append a b]; omega
theorem fszs_mem {x : Frag} : ∀ {l : List Frag}, x ∈ l → fsz x ≤ fszs l
  | y :: l, h => by
    simp only [fszs]
    rcases List.mem_cons.1 h with rfl | h
    · omega
    · have := fszs_mem h; omega
theorem fszs_len : ∀ (l : List Frag), l.length ≤ fszs l
  | [] => by simp
  | x :: l => by have := fszs_len l; have := fsz_pos x; simp only [List.length_cons, fszs]; omega
theorem fszs_take {l : List Frag} {i : Nat} (h : i < l.length) : fszs (l.take (i + 1)) = fszs (l.take i) + fsz l[i] := by
  rw [List.take_succ_eq_append_getElem h, fszs_append]; simp [fszs]
theorem fszs_split (l : List Frag) (i : Nat) : fszs l = fszs (l.take i) + fszs (l.drop i) := by rw [← fszs_append, List.take_append_drop]
theorem fszs_drop {l : List Frag} {i : Nat} (h : i < l.length) : fszs (l.drop i) = fsz l[i] + fszs (l.drop (i + 1)) := by
  rw [List.drop_eq_getElem_cons h, fszs]

/-! ### Parts that count -/
mutual
def cpF : Frag → Nat
  | .mk o _ l => 1 + (if o = 1 ∨ o = 4 then cpL l else 0)
def cpL : List Frag → Nat
  | [] => 0
  | x :: r => cpF x + cpL r
end
theorem cpF_eq (x : Frag) : cpF x = 1 + (if x.op = 1 ∨ x.op = 4 then cpL x.l else 0) := by cases x; rw [cpF]; rfl
theorem cpL_append : ∀ (a b : List Frag), cpL (a ++ b) = cpL a + cpL b
  | [], b => by simp [cpL]
  | x :: a, b => by simp only [List.cons_append, cpL, cpL_append a b]; omega
theorem cpL_take {l : List Frag} {i : Nat} (h : i < l.length) : cpL (l.take (i + 1)) = cpL (l.take i) + cpF l[i] := by
  rw [List.take_succ_eq_append_getElem h, cpL_append]; simp [cpL]
mutual
theorem cpF_le : ∀ (x : Frag), cpF x ≤ fsz x
  | .mk o n l => by have := cpL_le l; rw [cpF, fsz]; split <;> omega
theorem cpL_le : ∀ (l : List Frag), cpL l ≤ fszs l
  | [] => Nat.le_refl _
  | x :: r => by have := cpF_le x; have := cpL_le r; simp only [cpL, fszs]; omega
end

/-! ### Kids used -/
def bump (u : List Int) (n : Int) : List Int := u.set n.toNat (u.getD n.toNat 0 + 1)
mutual
def usF (m : Int) : Frag → List Int → Bool × List Int
  | .mk o n l, u => if o = 1 then (if n < 0 ∨ m ≤ n then (false, u) else usL m l u)
    else if o = 2 then (if n < 0 ∨ (u.length : Int) ≤ n then (false, u) else (true, bump u n))
    else if o = 4 then (if n < 0 ∨ (u.length : Int) ≤ n then (false, u) else usL m l (bump u n))
    else if o = 3 then (true, u) else (false, u)
def usL (m : Int) : List Frag → List Int → Bool × List Int
  | [], u => (true, u)
  | x :: r, u => bif (usF m x u).1 then usL m r (usF m x u).2 else (false, (usF m x u).2)
end
theorem usF_eq (m : Int) (x : Frag) (u : List Int) : usF m x u = if x.op = 1 then (if x.n < 0 ∨ m ≤ x.n then (false, u) else usL m x.l u)
    else if x.op = 2 then (if x.n < 0 ∨ (u.length : Int) ≤ x.n then (false, u) else (true, bump u x.n))
    else if x.op = 4 then (if x.n < 0 ∨ (u.length : Int) ≤ x.n then (false, u) else usL m x.l (bump u x.n))
    else if x.op = 3 then (true, u) else (false, u) := by cases x; rw [usF]; rfl
theorem usL_step {m : Int} {l : List Frag} {i : Nat} {u : List Int} (h : i < l.length) : usL m (l.drop i) u = bif (usF m l[i] u).1 then usL m (l.drop (i + 1)) (usF m l[i] u).2 else (false, (usF m l[i] u).2) := by
  rw [List.drop_eq_getElem_cons h, usL]
theorem bump_length (u : List Int) (n : Int) : (bump u n).length = u.length := by simp [bump]
def Upto (B : Nat) (u : List Int) : Prop := ∀ x ∈ u, 0 ≤ x ∧ x ≤ B
theorem Upto.mono {B C : Nat} {u : List Int} (h : Upto B u) (hb : B ≤ C) : Upto C u := fun x hx => ⟨(h x hx).1, by have := (h x hx).2; omega⟩
theorem bump_upto {u : List Int} {n : Int} {B : Nat} (h : Upto B u) : Upto (B + 1) (bump u n) := fun x hx => by
  rcases List.mem_or_eq_of_mem_set hx with hx | rfl
  · have := h x hx; omega
  · rw [List.getD_eq_getElem?_getD]
    by_cases hn : n.toNat < u.length
    · rw [List.getElem?_eq_getElem hn]
      have := h _ (List.getElem_mem hn)
      simp; omega
    · rw [List.getElem?_eq_none (by omega)]; simp; omega
mutual
theorem usF_len (m : Int) : ∀ (x : Frag) (u : List Int), (usF m x u).2.length = u.length
  | .mk o n l, u => by
    have h1 := usL_len m l u
    have h2 := usL_len m l (bump u n)
    rw [usF]
    rw [bump_length] at h2
    repeat' split
    all_goals first | rfl | assumption | exact bump_length u n
theorem usL_len (m : Int) : ∀ (l : List Frag) (u : List Int), (usL m l u).2.length = u.length
  | [], u => rfl
  | x :: r, u => by
    have h1 := usF_len m x u
    have h2 := usL_len m r (usF m x u).2
    rw [usL]
    cases (usF m x u).1 with
    | true => simpa using h2.trans h1
    | false => simpa using h1
end
/-! ### Steps -/
def badEmpty (old : Gram) (x : Tree) : Bool := !decide ((treeFault old x old.start).code = 0) || decide (0 < (wordT old x).length)
def okUse (old : Gram) (l : List Frag) (right : List Int) : Bool := (usL old.rules.length l (List.replicate (kids right).length 0)).1 && (usL old.rules.length l (List.replicate (kids right).length 0)).2.all (fun x => decide (x = 1))
def partFault (old : Gram) (l : List Frag) (right : List Int) : Int := if 60 < cpL l then 6 else if okUse old l right = true then 0 else 14
def sfirst (old : Gram) : List (List Frag) → List Rule → Nat → Fault
  | l :: ls, r :: rs, i => if partFault old l r.right = 0 then sfirst old ls rs (i + 1) else ⟨partFault old l r.right, i⟩
  | _, _, _ => ⟨0, 0⟩
def stepFault (old : Gram) (s : Step) : Fault :=
  if (gramFault old).code = 0 then
    if (gramFault s.g).code = 0 then
      if s.empty.length ≤ 200 then
        if s.empty.any (badEmpty old) = true then ⟨13, -1⟩
        else if s.frags.length = s.g.rules.length then sfirst old s.frags s.g.rules 0 else ⟨14, -1⟩
      else ⟨6, -1⟩
    else gramFault s.g
  else gramFault old
theorem sfirst_step {old : Gram} {ls : List (List Frag)} {rs : List Rule} {i : Nat} (h1 : i < ls.length) (h2 : i < rs.length) : sfirst old (ls.drop i) (rs.drop i) i = if partFault old ls[i] rs[i].right = 0 then sfirst old (ls.drop (i + 1)) (rs.drop (i + 1)) (i + 1) else ⟨partFault old ls[i] rs[i].right, i⟩ := by
  rw [List.drop_eq_getElem_cons h1, List.drop_eq_getElem_cons h2, sfirst]
theorem sfirst_end {old : Gram} {ls : List (List Frag)} {rs : List Rule} {i : Nat} (h1 : ¬ i < ls.length) : sfirst old (ls.drop i) (rs.drop i) i = ⟨0, 0⟩ := by
  rw [List.drop_of_length_le (by omega), sfirst]; simp
structure Step.fit (s : Step) : Prop where
  g : s.g.fit
  frags : s.frags.length ≤ 100000000
  frag : ∀ l ∈ s.frags, fszs l ≤ 100000000
  tree : cnts s.empty ≤ 100000000

theorem Step.fit.empty {s : Step} (h : s.fit) : s.empty.length ≤ 100000000 := Nat.le_trans (cnts_len _) h.tree
theorem Step.fit.trees {s : Step} (h : s.fit) : ∀ x ∈ s.empty, cnt x ≤ 100000000 := fun x hx => Nat.le_trans (cnts_mem hx) h.tree

/-! ### The template of a rule that stays -/
def holes (k : Nat) : List Frag := (List.range k).map fun (i : Nat) => Frag.mk 2 (i : Int) []
def nodeF (r : Int) (k : Nat) : List Frag := [.mk 1 r (holes k)]

/-! ### As data -/
theorem IsElt.fragE {h : Hp} {t u : Bool} {sz i off : Nat} {xs : List Frag} (hi : i < xs.length) : IsElt h (.eptr t sz (xs.map (fragD u)) i off) (fragA u xs[i]) off [] := by
  have := IsElt.mapE (h := h) (t := t) (sz := sz) (off := off) (f := fragD u) hi
  rwa [fragA_eq] at this
theorem IsElt.fragO {h : Hp} {u : Bool} {k m sz i off : Nat} {e : TypeId} {xs : List Frag} (hk : hget h k = some (.row e sz (xs.map (fragD u)))) (hm : (xs.map (fragD u)).length = m) (hi : i < xs.length) : IsElt h (.optr k m i off) (fragA u xs[i]) off [(k, some (.row e sz (xs.map (fragD u))))] := by
  have := IsElt.mapO (f := fragD u) (off := off) hk hm hi
  rwa [fragA_eq] at this
end Go.Proofs.Yticnpbopelgmiaa
namespace Go.Proofs.Yticnpbopelgmiaa
open Go.RowKit

def zeroStep : Step := ⟨⟨0, 0, 0, []⟩, [], []⟩
/-! ### Steps -/
inductive All2 {α β : Type} (P : α → β → Prop) : List α → List β → Prop
  | nil : All2 P [] []
  | cons {a : α} {b : β} {xs : List α} {ys : List β} (h : P a b) (r : All2 P xs ys) : All2 P (a :: xs) (b :: ys)
theorem All2.append {α β : Type} {P : α → β → Prop} {a c : List α} {b d : List β} (h : All2 P a b) (k : All2 P c d) : All2 P (a ++ c) (b ++ d) := by
  induction h with
  | nil => exact k
  | cons h r ih => exact .cons h ih
theorem All2.len {α β : Type} {P : α → β → Prop} {a : List α} {b : List β} (h : All2 P a b) : a.length = b.length := by
  induction h with
  | nil => rfl
  | cons h r ih => simp [ih]
abbrev PartsOk (old : Gram) (ls : List (List Frag)) (rs : List Rule) : Prop := All2 (fun l r => partFault old l r.right = 0) ls rs
theorem sfirst_ok {old : Gram} {ls : List (List Frag)} {rs : List Rule} (h : PartsOk old ls rs) : ∀ i, sfirst old ls rs i = ⟨0, 0⟩ := by
  induction h with
  | nil => intro i; rw [sfirst]; simp
  | cons h r ih => intro i; rw [sfirst, if_pos h]; exact ih _
theorem step_ok {old : Gram} {s : Step} (ho : old.ok) (hs : s.g.ok) (he : s.empty = []) (h : PartsOk old s.frags s.g.rules) : stepFault old s = ⟨0, 0⟩ := by
  rw [stepFault, if_pos (by rw [ho.fault]), if_pos (by rw [hs.fault]), he]
  simp only [List.length_nil, Nat.zero_le, if_true, List.any_nil, if_false, Bool.false_eq_true]
  rw [if_pos h.len, sfirst_ok h]
/-! ### What is so of a splitter on its way -/
/-! ### Made once more -/
/-! ### The terminals that were met, as a list -/
end Go.Proofs.Yticnpbopelgmiaa
namespace Go.Proofs.Yticnpbopelgmiaa
open Go.RowKit

structure Work where
  right : List Int
  l : List Frag
instance : Inhabited Work := ⟨⟨[], []⟩⟩
/-! ### Groups -/
/-! ### What becomes of a group -/
def gapL (gap : Bool) : List Frag := bif gap then [.mk 3 0 []] else []
def headF (n : Nat) (gap : Bool) : List Frag := [.mk 4 n (gapL gap ++ holes n)]
/-- A rule that was not divided yet. -/
def plainF (r : Int) (k : Nat) (gap : Bool) : List Frag := [.mk 1 r (gapL gap ++ holes k)]
/-! ### The whole way -/
end Go.Proofs.Yticnpbopelgmiaa
namespace Go.Proofs.Yticnpbopelgmiaa
open Go.RowKit

theorem fszs_holesQ : ∀ (k : Nat), fszs (holes k) = k
  | 0 => rfl
  | k + 1 => by rw [show holes (k + 1) = holes k ++ [.mk 2 k []] by simp [holes, List.range_succ], fszs_append, fszs_holesQ k]; simp [fszs, fsz]
/-! ### What holds on the way -/
def gapAt (g : Gram) (u : Nat) : Bool := decide (g.vars.toNat ≤ u)
section
variable {g : Gram} {all : List (List Work)} {v : Nat}
end
end Go.Proofs.Yticnpbopelgmiaa
namespace Go.Proofs.Yticnpbopelgmiaa
open Go.RowKit

def ruleAt (g : Gram) (r : Int) : Rule := g.rules.getD r.toNat ⟨0, []⟩
def worksAt (g : Gram) (v : Nat) : List Work := (by_ g v).map fun r => ⟨(ruleAt g r).right, nodeF r (kids (ruleAt g r).right).length⟩
def startW (g : Gram) : List (List Work) := (List.range g.vars.toNat).map (worksAt g)
theorem byR_at {v x : Int} : ∀ {rs : List Rule} {i : Nat}, x ∈ byR rs v i → ∃ j, ∃ h : j < rs.length, x = ((i + j : Nat) : Int) ∧ rs[j].left = v
  | [], i, h => by simp [byR] at h
  | r :: rs, i, h => by
    rw [byR] at h
    have next : x ∈ byR rs v (i + 1) → ∃ j, ∃ h : j < (r :: rs).length, x = ((i + j : Nat) : Int) ∧ (r :: rs)[j].left = v := fun h => by
      obtain ⟨j, h1, h2, h3⟩ := byR_at h
      exact ⟨j + 1, by simp; omega, by rw [h2]; congr 1; omega, by simpa using h3⟩
    split at h
    · rename_i e
      rcases List.mem_cons.1 h with rfl | h
      · exact ⟨0, by simp, by simp, e⟩
      · exact next h
    · exact next h
theorem by_atR {g : Gram} {v : Nat} {r : Int} (h : r ∈ by_ g v) : ∃ j, ∃ hj : j < g.rules.length, r = (j : Int) ∧ g.rules[j].left = (v : Int) ∧ ruleAt g r = g.rules[j] := by
  obtain ⟨j, h1, h2, h3⟩ := byR_at h
  rw [Nat.zero_add] at h2
  refine ⟨j, h1, h2, h3, ?_⟩
  rw [ruleAt, h2]
  simp only [Int.toNat_natCast]
  rw [List.getD_eq_getElem?_getD, List.getElem?_eq_getElem h1]; rfl
theorem startW_length (g : Gram) : (startW g).length = g.vars.toNat := by simp [startW]
theorem startW_get {g : Gram} {v : Nat} (h : v < g.vars.toNat) : (startW g).getD v [] = worksAt g v := by
  rw [List.getD_eq_getElem?_getD, startW, List.getElem?_map, List.getElem?_range h]; rfl
theorem startW_out {g : Gram} {v : Nat} (h : ¬ v < g.vars.toNat) : (startW g).getD v [] = [] := by
  rw [List.getD_eq_getElem?_getD, List.getElem?_eq_none (by rw [startW_length]; omega)]; rfl
/-! ### The rules of it -/
def rulesF : List (List Work) → Nat → List Rule
  | [], _ => []
  | l :: r, v => l.map (fun w => (⟨(v : Int), w.right⟩ : Rule)) ++ rulesF r (v + 1)
def fragsF : List (List Work) → List (List Frag)
  | [] => []
  | l :: r => l.map (·.l) ++ fragsF r
/-! ### Rights alone matter -/
theorem rulesF_left : ∀ {all : List (List Work)} {v : Nat} {r : Rule}, r ∈ rulesF all v → (v : Int) ≤ r.left ∧ r.left < ((v + all.length : Nat) : Int) ∧ ∃ w ∈ all.getD (r.left.toNat - v) [], r.right = w.right
  | [], v, r, h => by simp [rulesF] at h
  | l :: a, v, r, h => by
    rw [rulesF] at h
    rcases List.mem_append.1 h with h | h
    · obtain ⟨w, hw, rfl⟩ := List.mem_map.1 h
      dsimp only
      refine ⟨Int.le_refl _, by simp; omega, w, ?_, rfl⟩
      simpa using hw
    · obtain ⟨h1, h2, w, h3, h4⟩ := rulesF_left h
      refine ⟨by omega, by simp only [List.length_cons]; omega, w, ?_, h4⟩
      rw [show r.left.toNat - v = (r.left.toNat - (v + 1)) + 1 by omega]
      simpa using h3
/-! ### It is a step -/
section
variable {g : Gram} {z : List (List Work)} {x : List Rule × List (List Frag)}
theorem parts_of : ∀ {all : List (List Work)} {v : Nat}, (∀ l ∈ all, ∀ w ∈ l, partFault g w.l w.right = 0) → PartsOk g (fragsF all) (rulesF all v)
  | [], v, _ => .nil
  | l :: a, v, h => by
    rw [fragsF, rulesF]
    refine All2.append ?_ (parts_of (fun y hy => h y (by simp [hy])))
    have hl := h l (by simp)
    clear h
    induction l with
    | nil => exact .nil
    | cons w r ih => exact .cons (hl w (by simp)) (ih (fun y hy => hl y (by simp [hy])))
end
end Go.Proofs.Yticnpbopelgmiaa
namespace Go.Proofs.Yticnpbopelgmiaa
open Go.RowKit

/-- The number of a hole that is moved. -/
def mvN (o n over by_ : Int) : Int := if (o = 2 ∨ o = 4) ∧ over < n then n + by_ else n
mutual
def movF (over by_ : Int) : Frag → Frag
  | .mk o n l => .mk o (mvN o n over by_) (movL over by_ l)
def movL (over by_ : Int) : List Frag → List Frag
  | [] => []
  | x :: r => movF over by_ x :: movL over by_ r
end
mutual
def gpF (w : List Frag) : Frag → List Frag
  | .mk o n l => if o = 3 then w else [.mk o n (gpL w l)]
def gpL (w : List Frag) : List Frag → List Frag
  | [] => []
  | x :: r => gpF w x ++ gpL w r
end
mutual
def ptF (k : Int) (inn : List Frag) (by_ : Int) : Frag → List Frag
  | .mk o n l => if o = 2 ∧ n = k then inn else if o = 4 ∧ n = k then gpL (ptL k inn by_ l) inn else [.mk o (mvN o n k by_) (ptL k inn by_ l)]
def ptL (k : Int) (inn : List Frag) (by_ : Int) : List Frag → List Frag
  | [] => []
  | x :: r => ptF k inn by_ x ++ ptL k inn by_ r
end
def plugL (l : List Frag) (k : Int) (inn : List Frag) (n : Int) : List Frag := ptL k (movL (-1) k inn) (n - 1) l
theorem movF_eq (o b : Int) (x : Frag) : movF o b x = .mk x.op (mvN x.op x.n o b) (movL o b x.l) := by cases x; rw [movF]; rfl
theorem gpF_eq (w : List Frag) (x : Frag) : gpF w x = if x.op = 3 then w else [.mk x.op x.n (gpL w x.l)] := by cases x; rw [gpF]; rfl
theorem ptF_eq (k : Int) (inn : List Frag) (b : Int) (x : Frag) : ptF k inn b x = if x.op = 2 ∧ x.n = k then inn else if x.op = 4 ∧ x.n = k then gpL (ptL k inn b x.l) inn else [.mk x.op (mvN x.op x.n k b) (ptL k inn b x.l)] := by cases x; rw [ptF]; rfl
theorem movL_append (o b : Int) : ∀ (x y : List Frag), movL o b (x ++ y) = movL o b x ++ movL o b y
  | [], y => rfl
  | a :: x, y => by simp only [List.cons_append, movL, movL_append o b x y]
theorem gpL_append (w : List Frag) : ∀ (x y : List Frag), gpL w (x ++ y) = gpL w x ++ gpL w y
  | [], y => rfl
  | a :: x, y => by simp only [List.cons_append, gpL, gpL_append w x y, List.append_assoc]
theorem ptL_append (k : Int) (inn : List Frag) (b : Int) : ∀ (x y : List Frag), ptL k inn b (x ++ y) = ptL k inn b x ++ ptL k inn b y
  | [], y => rfl
  | a :: x, y => by simp only [List.cons_append, ptL, ptL_append k inn b x y, List.append_assoc]
theorem movL_take {o b : Int} {l : List Frag} {i : Nat} (h : i < l.length) : movL o b (l.take (i + 1)) = movL o b (l.take i) ++ [movF o b l[i]] := by
  rw [List.take_succ_eq_append_getElem h, movL_append]; simp [movL]
theorem gpL_take {w : List Frag} {l : List Frag} {i : Nat} (h : i < l.length) : gpL w (l.take (i + 1)) = gpL w (l.take i) ++ gpF w l[i] := by
  rw [List.take_succ_eq_append_getElem h, gpL_append]; simp [gpL]
theorem ptL_take {k : Int} {inn : List Frag} {b : Int} {l : List Frag} {i : Nat} (h : i < l.length) : ptL k inn b (l.take (i + 1)) = ptL k inn b (l.take i) ++ ptF k inn b l[i] := by
  rw [List.take_succ_eq_append_getElem h, ptL_append]; simp [ptL]
theorem movL_len (o b : Int) : ∀ l : List Frag, (movL o b l).length = l.length
  | [] => rfl
  | x :: l => by simp [movL, movL_len o b l]
mutual
theorem movF_size (o b : Int) : ∀ x : Frag, fsz (movF o b x) = fsz x
  | .mk _ _ l => by rw [movF, fsz, fsz, movL_size o b l]
theorem movL_size (o b : Int) : ∀ l : List Frag, fszs (movL o b l) = fszs l
  | [] => rfl
  | x :: l => by rw [movL, fszs, fszs, movF_size o b x, movL_size o b l]
end
mutual
theorem movF_zero (o : Int) : ∀ x : Frag, movF o 0 x = x
  | .mk a n l => by
    rw [movF, movL_zero o l, mvN]
    split <;> simp
theorem movL_zero (o : Int) : ∀ l : List Frag, movL o 0 l = l
  | [] => rfl
  | x :: l => by rw [movL, movF_zero o x, movL_zero o l]
end
mutual
theorem gpF_size (w : List Frag) : ∀ x : Frag, fszs (gpF w x) ≤ fsz x * (1 + fszs w)
  | .mk o n l => by
    have h := gpL_size w l
    rw [gpF, fsz, Nat.add_mul]
    split
    · omega
    · simp only [fszs, fsz]; omega
theorem gpL_size (w : List Frag) : ∀ l : List Frag, fszs (gpL w l) ≤ fszs l * (1 + fszs w)
  | [] => by simp [gpL, fszs]
  | x :: l => by
    have h1 := gpF_size w x
    have h2 := gpL_size w l
    rw [gpL, fszs_append, fszs, Nat.add_mul]; omega
end
/-! ### Numbers that are not too great -/
mutual
def NbF (B : Int) : Frag → Prop
  | .mk _ n l => (-B ≤ n ∧ n ≤ B) ∧ NbL B l
def NbL (B : Int) : List Frag → Prop
  | [] => True
  | x :: r => NbF B x ∧ NbL B r
end
theorem NbF_eq {B : Int} {x : Frag} (h : NbF B x) : (-B ≤ x.n ∧ x.n ≤ B) ∧ NbL B x.l := by cases x; exact h
theorem NbL_mem {B : Int} {x : Frag} : ∀ {l : List Frag}, NbL B l → x ∈ l → NbF B x
  | y :: l, h, hm => by
    rcases List.mem_cons.1 hm with rfl | hm
    · exact h.1
    · exact NbL_mem h.2 hm
/-! ### All that comes in between is not too great -/
mutual
def PtF (k : Int) (inn : List Frag) (b : Int) : Frag → Prop
  | .mk o n l => PtL k inn b l ∧ (o = 4 ∧ n = k → fszs inn * (1 + fszs (ptL k inn b l)) ≤ 100000000)
def PtL (k : Int) (inn : List Frag) (b : Int) : List Frag → Prop
  | [] => True
  | x :: r => PtF k inn b x ∧ PtL k inn b r ∧ fszs (ptL k inn b (x :: r)) ≤ 100000000
end
theorem PtF_eq {k : Int} {inn : List Frag} {b : Int} {x : Frag} (h : PtF k inn b x) : PtL k inn b x.l ∧ (x.op = 4 ∧ x.n = k → fszs inn * (1 + fszs (ptL k inn b x.l)) ≤ 100000000) := by
  cases x; rw [PtF] at h; exact h
theorem PtL_mem {k : Int} {inn : List Frag} {b : Int} {x : Frag} : ∀ {l : List Frag}, PtL k inn b l → x ∈ l → PtF k inn b x
  | y :: l, h, hm => by
    rw [PtL] at h
    rcases List.mem_cons.1 hm with rfl | hm
    · exact h.1
    · exact PtL_mem h.2.1 hm
theorem PtL_size {k : Int} {inn : List Frag} {b : Int} : ∀ {l : List Frag}, PtL k inn b l → fszs (ptL k inn b l) ≤ 100000000
  | [], _ => by simp [ptL, fszs]
  | x :: l, h => by rw [PtL] at h; exact h.2.2
end Go.Proofs.Yticnpbopelgmiaa
namespace Go.Proofs.Yticnpbopelgmiaa
open Go.RowKit

def hdI (l : List Int) : Int := l.headD 0
def mixW (x y : Work) : Work := ⟨y.right ++ x.right.tail, plugL x.l 0 y.l (kids y.right).length⟩
/-- A rule that begins with u: what u may be, in its place. None: there is too much. -/
def aheadIn (x : Work) : List Work → List Work → Option (List Work)
  | [], out => some out
  | y :: ys, out => if 10 < (mixW x y).right.length ∨ 160 < (out ++ [mixW x y]).length then none else aheadIn x ys (out ++ [mixW x y])
def aheadW (A : List Work) (u : Int) : List Work → List Work → Option (List Work)
  | [], out => if 160 < out.length then none else some out
  | x :: xs, out => if hdI x.right ≠ u then aheadW A u xs (out ++ [x]) else
      match aheadIn x A out with
      | none => none
      | some out' => aheadW A u xs out'
/-- One nonterminal, all earlier ones ahead of it. -/
def aheads (all : List (List Work)) : Nat → Nat → List Work → Option (List Work)
  | _, 0, l => some l
  | u, n + 1, l => match aheadW (all.getD u []) u l [] with
    | none => none
    | some l' => aheads all (u + 1) n l'
def gapF : Frag := .mk 3 0 []
def thenW (v : Int) (x : Work) : List Work := [x, ⟨x.right ++ [v], [.mk 4 (kids x.right).length x.l]⟩]
def ownW (v : Int) (l : List Work) : List Work := (l.filter fun x => decide (hdI x.right = v)).map fun x => ⟨x.right.tail, plugL x.l 0 [gapF] 0⟩
def otherW (v : Int) (l : List Work) : List Work := l.filter fun x => !decide (hdI x.right = v)
/-- A nonterminal's own beginnings made ends of a new one. -/
def itselfW (all : List (List Work)) (l : List Work) (v : Nat) : List (List Work) :=
  if (ownW v l).length = 0 then all.set v l
  else (all ++ [(ownW v l).flatMap (thenW all.length)]).set v ((otherW v l).flatMap (thenW all.length))
def fitsT (all : List (List Work)) : Bool := all.all (fun l => l.all fun x => decide (x.right.length ≤ 10) && decide (fszs x.l ≤ 60)) && decide ((all.map List.length).sum ≤ 160) && decide (all.length ≤ 64)
/-- From the nonterminal v on, so many. An error: the nonterminal at which there was too much. -/
def turnAll : Nat → Nat → List (List Work) → Except Nat (List (List Work))
  | _, 0, all => .ok all
  | v, n + 1, all => match aheads all 0 v (all.getD v []) with
    | none => .error v
    | some l => if fitsT (itselfW all l v) = true then turnAll (v + 1) n (itselfW all l v) else .error v
end Go.Proofs.Yticnpbopelgmiaa
