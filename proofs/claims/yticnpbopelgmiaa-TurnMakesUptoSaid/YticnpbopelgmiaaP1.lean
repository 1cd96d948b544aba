/-
  Templates, plain: counted, which kids they use; steps. Splits, plain: what split.Make makes, and that it is a step.
-/
import Derived.Test.YticnpbopelgmiaaQGramC
import Derived.Test.YticnpbopelgmiaaT1
set_option linter.unusedVariables false
set_option linter.unusedSimpArgs false
set_option linter.unusedSectionVars false
namespace Go.Proofs.Yticnpbopelgmiaa
open Go.RowKit

mutual
def fsz : Frag → Nat
  | .mk _ _ l => 1 + fszs l
def fszs : List Frag → Nat
  | [] => 0
  | x :: r => fsz x + fszs r
end
theorem fsz_eq (x : Frag) : fsz x = 1 + fszs x.l := by cases x; rfl
theorem fsz_pos (x : Frag) : 1 ≤ fsz x := by rw [fsz_eq]; omega
theorem fszs_append : ∀ (a b : List Frag), fszs (a ++ b) = fszs a + fszs b
  | [], b => by simp [fszs]
  | x :: a, b => by simp only [List.cons_append, fszs, fszs_append a b]; omega
theorem fszs_mem {x : Frag} : ∀ {l : List Frag}, x ∈ l → fsz x ≤ fszs l
  | y :: l, h => by
    simp only [fszs]
    rcases List.mem_cons.1 h with rfl | h
    · omega
    · have := fszs_mem h; omega
theorem fszs_len : ∀ (l : List Frag), l.length ≤ fszs l
  | [] => by simp
  | x :: l => by have := fszs_len l; have := fsz_pos x; simp only [List.length_cons, fszs]; omega
theorem fszs_take {l : List Frag} {i : Nat} (h : i < l.length) : fszs (l.take (i + 1)) = fszs (l.take i) + fsz l[i] := by
  rw [List.take_succ_eq_append_getElem h, fszs_append]; simp [fszs]
theorem fszs_split (l : List Frag) (i : Nat) : fszs l = fszs (l.take i) + fszs (l.drop i) := by rw [← fszs_append, List.take_append_drop]
theorem fszs_drop {l : List Frag} {i : Nat} (h : i < l.length) : fszs (l.drop i) = fsz l[i] + fszs (l.drop (i + 1)) := by
  rw [List.drop_eq_getElem_cons h, fszs]

/-! ### Parts that count -/
mutual
def cpF : Frag → Nat
  | .mk o _ l => 1 + (if o = 1 ∨ o = 4 then cpL l else 0)
def cpL : List Frag → Nat
  | [] => 0
  | x :: r => cpF x + cpL r
end
theorem cpF_eq (x : Frag) : cpF x = 1 + (if x.op = 1 ∨ x.op = 4 then cpL x.l else 0) := by cases x; rw [cpF]; rfl
theorem cpL_append : ∀ (a b : List Frag), cpL (a ++ b) = cpL a + cpL b
  | [], b => by simp [cpL]
  | x :: a, b => by simp only [List.cons_append, cpL, cpL_append a b]; omega
theorem cpL_take {l : List Frag} {i : Nat} (h : i < l.length) : cpL (l.take (i + 1)) = cpL (l.take i) + cpF l[i] := by
  rw [List.take_succ_eq_append_getElem h, cpL_append]; simp [cpL]
mutual
theorem cpF_le : ∀ (x : Frag), cpF x ≤ fsz x
  | .mk o n l => by have := cpL_le l; rw [cpF, fsz]; split <;> omega
theorem cpL_le : ∀ (l : List Frag), cpL l ≤ fszs l
  | [] => Nat.le_refl _
  | x :: r => by have := cpF_le x; have := cpL_le r; simp only [cpL, fszs]; omega
end

/-! ### Kids used -/
def bump (u : List Int) (n : Int) : List Int := u.set n.toNat (u.getD n.toNat 0 + 1)
mutual
def usF (m : Int) : Frag → List Int → Bool × List Int
  | .mk o n l, u => if o = 1 then (if n < 0 ∨ m ≤ n then (false, u) else usL m l u)
    else if o = 2 then (if n < 0 ∨ (u.length : Int) ≤ n then (false, u) else (true, bump u n))
    else if o = 4 then (if n < 0 ∨ (u.length : Int) ≤ n then (false, u) else usL m l (bump u n))
    else if o = 3 then (true, u) else (false, u)
def usL (m : Int) : List Frag → List Int → Bool × List Int
  | [], u => (true, u)
  | x :: r, u => bif (usF m x u).1 then usL m r (usF m x u).2 else (false, (usF m x u).2)
end
theorem usF_eq (m : Int) (x : Frag) (u : List Int) : usF m x u = if x.op = 1 then (if x.n < 0 ∨ m ≤ x.n then (false, u) else usL m x.l u)
    else if x.op = 2 then (if x.n < 0 ∨ (u.length : Int) ≤ x.n then (false, u) else (true, bump u x.n))
    else if x.op = 4 then (if x.n < 0 ∨ (u.length : Int) ≤ x.n then (false, u) else usL m x.l (bump u x.n))
    else if x.op = 3 then (true, u) else (false, u) := by cases x; rw [usF]; rfl
theorem usL_step {m : Int} {l : List Frag} {i : Nat} {u : List Int} (h : i < l.length) : usL m (l.drop i) u = bif (usF m l[i] u).1 then usL m (l.drop (i + 1)) (usF m l[i] u).2 else (false, (usF m l[i] u).2) := by
  rw [List.drop_eq_getElem_cons h, usL]
theorem usL_end {m : Int} {l : List Frag} {i : Nat} {u : List Int} (h : ¬ i < l.length) : usL m (l.drop i) u = (true, u) := by
  rw [List.drop_of_length_le (by omega), usL]
theorem bump_length (u : List Int) (n : Int) : (bump u n).length = u.length := by simp [bump]
def Upto (B : Nat) (u : List Int) : Prop := ∀ x ∈ u, 0 ≤ x ∧ x ≤ B
theorem Upto.mono {B C : Nat} {u : List Int} (h : Upto B u) (hb : B ≤ C) : Upto C u := fun x hx => ⟨(h x hx).1, by have := (h x hx).2; omega⟩
theorem bump_upto {u : List Int} {n : Int} {B : Nat} (h : Upto B u) : Upto (B + 1) (bump u n) := fun x hx => by
  rcases List.mem_or_eq_of_mem_set hx with hx | rfl
  · have := h x hx; omega
  · rw [List.getD_eq_getElem?_getD]
    by_cases hn : n.toNat < u.length
    · rw [List.getElem?_eq_getElem hn]
      have := h _ (List.getElem_mem hn)
      simp; omega
    · rw [List.getElem?_eq_none (by omega)]; simp; omega
mutual
theorem usF_len (m : Int) : ∀ (x : Frag) (u : List Int), (usF m x u).2.length = u.length
  | .mk o n l, u => by
    have h1 := usL_len m l u
    have h2 := usL_len m l (bump u n)
    rw [usF]
    rw [bump_length] at h2
    repeat' split
    all_goals first | rfl | assumption | exact bump_length u n
theorem usL_len (m : Int) : ∀ (l : List Frag) (u : List Int), (usL m l u).2.length = u.length
  | [], u => rfl
  | x :: r, u => by
    have h1 := usF_len m x u
    have h2 := usL_len m r (usF m x u).2
    rw [usL]
    cases (usF m x u).1 with
    | true => simpa using h2.trans h1
    | false => simpa using h1
end
mutual
theorem usF_upto (m : Int) : ∀ (x : Frag) (u : List Int) (B : Nat), Upto B u → Upto (B + fsz x) (usF m x u).2
  | .mk o n l, u, B, h => by
    have h1 := usL_upto m l u B h
    have h2 := usL_upto m l (bump u n) (B + 1) (bump_upto h)
    have h3 := bump_upto (n := n) h
    rw [usF, fsz]
    repeat' split
    all_goals first | exact h.mono (by omega) | exact h1.mono (by omega) | exact h2.mono (by omega) | exact h3.mono (by omega)
theorem usL_upto (m : Int) : ∀ (l : List Frag) (u : List Int) (B : Nat), Upto B u → Upto (B + fszs l) (usL m l u).2
  | [], u, B, h => h
  | x :: r, u, B, h => by
    have h1 := usF_upto m x u B h
    have h2 := usL_upto m r (usF m x u).2 (B + fsz x) h1
    rw [usL, fszs]
    cases (usF m x u).1 with
    | true => simpa using h2.mono (by omega)
    | false => simpa using h1.mono (by omega)
end

/-! ### Steps -/
def badEmpty (old : Gram) (x : Tree) : Bool := !decide ((treeFault old x old.start).code = 0) || decide (0 < (wordT old x).length)
def okUse (old : Gram) (l : List Frag) (right : List Int) : Bool := (usL old.rules.length l (List.replicate (kids right).length 0)).1 && (usL old.rules.length l (List.replicate (kids right).length 0)).2.all (fun x => decide (x = 1))
def partFault (old : Gram) (l : List Frag) (right : List Int) : Int := if 60 < cpL l then 6 else if okUse old l right = true then 0 else 14
def sfirst (old : Gram) : List (List Frag) → List Rule → Nat → Fault
  | l :: ls, r :: rs, i => if partFault old l r.right = 0 then sfirst old ls rs (i + 1) else ⟨partFault old l r.right, i⟩
  | _, _, _ => ⟨0, 0⟩
def stepFault (old : Gram) (s : Step) : Fault :=
  if (gramFault old).code = 0 then
    if (gramFault s.g).code = 0 then
      if s.empty.length ≤ 200 then
        if s.empty.any (badEmpty old) = true then ⟨13, -1⟩
        else if s.frags.length = s.g.rules.length then sfirst old s.frags s.g.rules 0 else ⟨14, -1⟩
      else ⟨6, -1⟩
    else gramFault s.g
  else gramFault old
theorem sfirst_step {old : Gram} {ls : List (List Frag)} {rs : List Rule} {i : Nat} (h1 : i < ls.length) (h2 : i < rs.length) : sfirst old (ls.drop i) (rs.drop i) i = if partFault old ls[i] rs[i].right = 0 then sfirst old (ls.drop (i + 1)) (rs.drop (i + 1)) (i + 1) else ⟨partFault old ls[i] rs[i].right, i⟩ := by
  rw [List.drop_eq_getElem_cons h1, List.drop_eq_getElem_cons h2, sfirst]
theorem sfirst_end {old : Gram} {ls : List (List Frag)} {rs : List Rule} {i : Nat} (h1 : ¬ i < ls.length) : sfirst old (ls.drop i) (rs.drop i) i = ⟨0, 0⟩ := by
  rw [List.drop_of_length_le (by omega), sfirst]; simp
structure Step.fit (s : Step) : Prop where
  g : s.g.fit
  frags : s.frags.length ≤ 100000000
  frag : ∀ l ∈ s.frags, fszs l ≤ 100000000
  tree : cnts s.empty ≤ 100000000

theorem Step.fit.empty {s : Step} (h : s.fit) : s.empty.length ≤ 100000000 := Nat.le_trans (cnts_len _) h.tree
theorem Step.fit.trees {s : Step} (h : s.fit) : ∀ x ∈ s.empty, cnt x ≤ 100000000 := fun x hx => Nat.le_trans (cnts_mem hx) h.tree

/-! ### The template of a rule that stays -/
def holes (k : Nat) : List Frag := (List.range k).map fun (i : Nat) => Frag.mk 2 (i : Int) []
def nodeF (r : Int) (k : Nat) : List Frag := [.mk 1 r (holes k)]

/-! ### As data -/
theorem IsElt.fragE {h : Hp} {t u : Bool} {sz i off : Nat} {xs : List Frag} (hi : i < xs.length) : IsElt h (.eptr t sz (xs.map (fragD u)) i off) (fragA u xs[i]) off [] := by
  have := IsElt.mapE (h := h) (t := t) (sz := sz) (off := off) (f := fragD u) hi
  rwa [fragA_eq] at this
theorem IsElt.fragO {h : Hp} {u : Bool} {k m sz i off : Nat} {e : TypeId} {xs : List Frag} (hk : hget h k = some (.row e sz (xs.map (fragD u)))) (hm : (xs.map (fragD u)).length = m) (hi : i < xs.length) : IsElt h (.optr k m i off) (fragA u xs[i]) off [(k, some (.row e sz (xs.map (fragD u))))] := by
  have := IsElt.mapO (f := fragD u) (off := off) hk hm hi
  rwa [fragA_eq] at this
end Go.Proofs.Yticnpbopelgmiaa
namespace Go.Proofs.Yticnpbopelgmiaa
open Go.RowKit

def zeroStep : Step := ⟨⟨0, 0, 0, []⟩, [], []⟩
/-! ### Steps -/
inductive All2 {α β : Type} (P : α → β → Prop) : List α → List β → Prop
  | nil : All2 P [] []
  | cons {a : α} {b : β} {xs : List α} {ys : List β} (h : P a b) (r : All2 P xs ys) : All2 P (a :: xs) (b :: ys)
theorem All2.append {α β : Type} {P : α → β → Prop} {a c : List α} {b d : List β} (h : All2 P a b) (k : All2 P c d) : All2 P (a ++ c) (b ++ d) := by
  induction h with
  | nil => exact k
  | cons h r ih => exact .cons h ih
theorem All2.len {α β : Type} {P : α → β → Prop} {a : List α} {b : List β} (h : All2 P a b) : a.length = b.length := by
  induction h with
  | nil => rfl
  | cons h r ih => simp [ih]
abbrev PartsOk (old : Gram) (ls : List (List Frag)) (rs : List Rule) : Prop := All2 (fun l r => partFault old l r.right = 0) ls rs
theorem sfirst_ok {old : Gram} {ls : List (List Frag)} {rs : List Rule} (h : PartsOk old ls rs) : ∀ i, sfirst old ls rs i = ⟨0, 0⟩ := by
  induction h with
  | nil => intro i; rw [sfirst]; simp
  | cons h r ih => intro i; rw [sfirst, if_pos h]; exact ih _
theorem step_ok {old : Gram} {s : Step} (ho : old.ok) (hs : s.g.ok) (he : s.empty = []) (h : PartsOk old s.frags s.g.rules) : stepFault old s = ⟨0, 0⟩ := by
  rw [stepFault, if_pos (by rw [ho.fault]), if_pos (by rw [hs.fault]), he]
  simp only [List.length_nil, Nat.zero_le, if_true, List.any_nil, if_false, Bool.false_eq_true]
  rw [if_pos h.len, sfirst_ok h]
/-! ### What is so of a splitter on its way -/
/-! ### Made once more -/
/-! ### The terminals that were met, as a list -/
end Go.Proofs.Yticnpbopelgmiaa
