/-
  Templates, plain: the counter of frag.Check counts as the document says. Templates, plain: what a tree of a new grammar makes. Sim: tree.Word, the grammar 'again', treeBegun; TreeOrders, TreeDoes return true.
-/
import Derived.Test.YticnpbopelgmiaaQP1
import Derived.Test.YticnpbopelgmiaaQTreeB
import Derived.Test.YticnpbopelgmiaaQS5
set_option linter.unusedVariables false
set_option linter.unusedSimpArgs false
set_option linter.unusedSectionVars false
namespace Go.Proofs.Yticnpbopelgmiaa
open Go.RowKit

structure CS where
  p : Nat
  bad : Bool
  u : List Int
def CS.use (s : CS) (n : Int) : CS := if (s.bad || (decide (n < 0) || decide ((s.u.length : Int) ≤ n))) = true then ⟨s.p, true, s.u⟩ else ⟨s.p, false, bump s.u n⟩
mutual
def clF (m : Int) : Frag → CS → CS
  | .mk o n l, s => if o = 1 then clL m l ⟨s.p, s.bad || (decide (n < 0) || decide (m ≤ n)), s.u⟩
    else if o = 2 then s.use n
    else if o = 4 then clL m l (s.use n)
    else if o = 3 then s else ⟨s.p, true, s.u⟩
def clL (m : Int) : List Frag → CS → CS
  | [], s => s
  | x :: r, s => if 60 < s.p + 1 then ⟨s.p + 1, s.bad, s.u⟩ else clL m r (clF m x ⟨s.p + 1, s.bad, s.u⟩)
end
theorem clF_eq (m : Int) (x : Frag) (s : CS) : clF m x s = if x.op = 1 then clL m x.l ⟨s.p, s.bad || (decide (x.n < 0) || decide (m ≤ x.n)), s.u⟩
    else if x.op = 2 then s.use x.n
    else if x.op = 4 then clL m x.l (s.use x.n)
    else if x.op = 3 then s else ⟨s.p, true, s.u⟩ := by cases x; rw [clF]; rfl
theorem clL_step {m : Int} {l : List Frag} {i : Nat} {s : CS} (h : i < l.length) : clL m (l.drop i) s = if 60 < s.p + 1 then ⟨s.p + 1, s.bad, s.u⟩ else clL m (l.drop (i + 1)) (clF m l[i] ⟨s.p + 1, s.bad, s.u⟩) := by
  rw [List.drop_eq_getElem_cons h, clL]
theorem clL_end {m : Int} {l : List Frag} {i : Nat} {s : CS} (h : ¬ i < l.length) : clL m (l.drop i) s = s := by
  rw [List.drop_of_length_le (by omega), clL]
theorem CS.use_p (s : CS) (n : Int) : (s.use n).p = s.p := by unfold CS.use; split <;> rfl
theorem CS.use_len (s : CS) (n : Int) : (s.use n).u.length = s.u.length := by unfold CS.use; split <;> simp [bump]
theorem CS.use_upto {s : CS} {n : Int} {B : Nat} (h : Upto B s.u) : Upto (B + 1) (s.use n).u := by
  unfold CS.use; split
  · exact h.mono (by omega)
  · exact bump_upto h
mutual
theorem clF_len (m : Int) : ∀ (x : Frag) (s : CS), (clF m x s).u.length = s.u.length
  | .mk o n l, s => by
    have h1 := clL_len m l ⟨s.p, s.bad || (decide (n < 0) || decide (m ≤ n)), s.u⟩
    have h2 := clL_len m l (s.use n)
    rw [CS.use_len] at h2
    rw [clF]
    repeat' split
    all_goals first | exact h1 | exact h2 | exact s.use_len n | rfl
theorem clL_len (m : Int) : ∀ (l : List Frag) (s : CS), (clL m l s).u.length = s.u.length
  | [], s => rfl
  | x :: r, s => by
    have h1 := clF_len m x ⟨s.p + 1, s.bad, s.u⟩
    have h2 := clL_len m r (clF m x ⟨s.p + 1, s.bad, s.u⟩)
    rw [clL]; split
    · rfl
    · exact h2.trans h1
end
mutual
theorem clF_p (m : Int) : ∀ (x : Frag) (s : CS), s.p ≤ (clF m x s).p ∧ (clF m x s).p + 1 ≤ s.p + fsz x
  | .mk o n l, s => by
    have h1 := clL_p m l ⟨s.p, s.bad || (decide (n < 0) || decide (m ≤ n)), s.u⟩
    have h2 := clL_p m l (s.use n)
    rw [CS.use_p] at h2
    have h3 := s.use_p n
    rw [clF, fsz]
    repeat' split
    all_goals first | (dsimp only at h1 ⊢; omega)
theorem clL_p (m : Int) : ∀ (l : List Frag) (s : CS), s.p ≤ (clL m l s).p ∧ (clL m l s).p ≤ s.p + fszs l
  | [], s => by simp [clL]
  | x :: r, s => by
    have h1 := clF_p m x ⟨s.p + 1, s.bad, s.u⟩
    have h2 := clL_p m r (clF m x ⟨s.p + 1, s.bad, s.u⟩)
    have h3 := fsz_pos x
    rw [clL, fszs]
    split
    · dsimp only; omega
    · dsimp only at h1; omega
end
mutual
theorem clF_upto (m : Int) : ∀ (x : Frag) (s : CS) (B : Nat), Upto B s.u → Upto (B + fsz x) (clF m x s).u
  | .mk o n l, s, B, h => by
    have h1 := clL_upto m l ⟨s.p, s.bad || (decide (n < 0) || decide (m ≤ n)), s.u⟩ B h
    have h2 := clL_upto m l (s.use n) (B + 1) (CS.use_upto h)
    have h3 := CS.use_upto (n := n) h
    rw [clF, fsz]
    repeat' split
    all_goals first | exact h1.mono (by omega) | exact h2.mono (by omega) | exact h3.mono (by omega) | exact h.mono (by omega)
theorem clL_upto (m : Int) : ∀ (l : List Frag) (s : CS) (B : Nat), Upto B s.u → Upto (B + fszs l) (clL m l s).u
  | [], s, B, h => h
  | x :: r, s, B, h => by
    have h1 := clF_upto m x ⟨s.p + 1, s.bad, s.u⟩ B h
    have h2 := clL_upto m r (clF m x ⟨s.p + 1, s.bad, s.u⟩) (B + fsz x) h1
    rw [clL, fszs]
    split
    · exact h.mono (by omega)
    · exact h2.mono (by omega)
end
/-- What the counter tells, of so many parts at most. -/
structure Tells (s s' : CS) (n : Nat) (r : Bool × List Int) : Prop where
  p : s'.p = s.p + n
  bad : s.bad = true → s'.bad = true
  ok : s.bad = false → r.1 = true → s'.bad = false ∧ s'.u = r.2
  no : s.bad = false → r.1 = false → s'.bad = true
theorem use_tells (s : CS) (n : Int) : Tells s (s.use n) 0 (if n < 0 ∨ (s.u.length : Int) ≤ n then (false, s.u) else (true, bump s.u n)) := by
  unfold CS.use
  by_cases h : n < 0 ∨ (s.u.length : Int) ≤ n
  · have h' : (decide (n < 0) || decide ((s.u.length : Int) ≤ n)) = true := by simpa using h
    rw [if_pos h, if_pos (by rw [h']; simp)]
    exact ⟨rfl, fun _ => rfl, fun _ h => by simp at h, fun _ _ => rfl⟩
  · have h' : (decide (n < 0) || decide ((s.u.length : Int) ≤ n)) = false := by simpa using h
    rw [if_neg h]
    cases hb : s.bad with
    | true =>
      rw [h', if_pos (by simp)]
      exact ⟨rfl, fun _ => rfl, fun h => (by rw [hb] at h; cases h), fun h => (by rw [hb] at h; cases h)⟩
    | false =>
      rw [h', if_neg (by simp)]
      exact ⟨rfl, fun h => (by rw [hb] at h; cases h), fun _ _ => ⟨rfl, rfl⟩, fun _ h => (by cases h)⟩
theorem Tells.then {s s1 s2 : CS} {n1 n2 : Nat} {r1 r2 : Bool × List Int} (h1 : Tells s s1 n1 r1) (h2 : s1.bad = false → s1.u = r1.2 → Tells s1 s2 n2 r2) (h3 : s1.bad = true → s2.p = s1.p + n2 ∧ s2.bad = true) :
    Tells s s2 (n1 + n2) (bif r1.1 then r2 else (false, r1.2)) := by
  refine ⟨?_, fun hb => (h3 (h1.bad hb)).2, fun hb hr => ?_, fun hb hr => ?_⟩
  · cases hb1 : s1.bad with
    | true => have := (h3 hb1).1; have := h1.p; omega
    | false =>
      have e : s1.u = r1.2 := by
        cases hs : s.bad with
        | true => have := h1.bad hs; rw [hb1] at this; cases this
        | false =>
          cases hr : r1.1 with
          | true => exact (h1.ok hs hr).2
          | false => have := h1.no hs hr; rw [hb1] at this; cases this
      have := (h2 hb1 e).p; have := h1.p; omega
  · cases hr1 : r1.1 with
    | true =>
      rw [hr1] at hr
      obtain ⟨e1, e2⟩ := h1.ok hb hr1
      exact (h2 e1 e2).ok e1 hr
    | false => rw [hr1] at hr; cases hr
  · cases hr1 : r1.1 with
    | true =>
      rw [hr1] at hr
      obtain ⟨e1, e2⟩ := h1.ok hb hr1
      exact (h2 e1 e2).no e1 hr
    | false => exact (h3 (h1.no hb hr1)).2
mutual
theorem clF_tells (m : Int) : ∀ (x : Frag) (s : CS), s.p + cpF x ≤ 61 → Tells s (clF m x s) (cpF x - 1) (usF m x s.u)
  | .mk o n l, s, h => by
    rw [cpF] at h ⊢
    rw [clF, usF]
    by_cases h1 : o = 1
    · rw [if_pos h1, if_pos h1]
      rw [if_pos (Or.inl h1)] at h ⊢
      have k := clL_tells m l ⟨s.p, s.bad || (decide (n < 0) || decide (m ≤ n)), s.u⟩ (by dsimp only; omega)
      have e : 1 + cpL l - 1 = cpL l := by omega
      rw [e]
      by_cases hn : n < 0 ∨ m ≤ n
      · have hd : (decide (n < 0) || decide (m ≤ n)) = true := by simpa using hn
        rw [hd, Bool.or_true] at k ⊢
        rw [if_pos hn]
        exact ⟨k.p, fun _ => k.bad rfl, fun _ h => (by cases h), fun _ _ => k.bad rfl⟩
      · have hd : (decide (n < 0) || decide (m ≤ n)) = false := by simpa using hn
        rw [hd, Bool.or_false] at k ⊢
        rw [if_neg hn]
        exact ⟨k.p, k.bad, k.ok, k.no⟩
    · rw [if_neg h1, if_neg h1]
      by_cases h2 : o = 2
      · rw [if_pos h2, if_pos h2, if_neg (show ¬ (o = 1 ∨ o = 4) by omega)]
        exact use_tells s n
      · rw [if_neg h2, if_neg h2]
        by_cases h4 : o = 4
        · rw [if_pos h4, if_pos h4]
          rw [if_pos (Or.inr h4)] at h ⊢
          have k := clL_tells m l (s.use n) (by rw [CS.use_p]; omega)
          have e : 1 + cpL l - 1 = 0 + cpL l := by omega
          rw [e]
          have u := use_tells s n
          have t := u.then (r2 := usL m l (bump s.u n)) (s2 := clL m l (s.use n)) (n2 := cpL l) (fun hb hu => ?_) (fun hb => ⟨k.p, k.bad hb⟩)
          · by_cases hn : n < 0 ∨ (s.u.length : Int) ≤ n
            · rw [if_pos hn] at t ⊢; exact t
            · rw [if_neg hn] at t ⊢; exact t
          · by_cases hn : n < 0 ∨ (s.u.length : Int) ≤ n
            · exfalso
              have hd : (decide (n < 0) || decide ((s.u.length : Int) ≤ n)) = true := by simpa using hn
              unfold CS.use at hb
              rw [hd, Bool.or_true, if_pos rfl] at hb
              cases hb
            · rw [if_neg hn] at hu
              rw [hu] at k; exact k
        · rw [if_neg h4, if_neg h4, if_neg (show ¬ (o = 1 ∨ o = 4) by omega)]
          by_cases h3 : o = 3
          · rw [if_pos h3, if_pos h3]; exact ⟨rfl, fun h => h, fun h _ => ⟨h, rfl⟩, fun _ h => (by cases h)⟩
          · rw [if_neg h3, if_neg h3]; exact ⟨rfl, fun _ => rfl, fun _ h => (by cases h), fun _ _ => rfl⟩
theorem clL_tells (m : Int) : ∀ (l : List Frag) (s : CS), s.p + cpL l ≤ 60 → Tells s (clL m l s) (cpL l) (usL m l s.u)
  | [], s, _ => ⟨rfl, fun h => h, fun h _ => ⟨h, rfl⟩, fun _ h => (by cases h)⟩
  | x :: r, s, h => by
    rw [cpL] at h
    have hx : 1 ≤ cpF x := by rw [cpF_eq]; omega
    rw [clL, if_neg (by omega), usL]
    have k1 := clF_tells m x ⟨s.p + 1, s.bad, s.u⟩ (by dsimp only; omega)
    have kp := k1.p
    dsimp only at kp
    have k2 := clL_tells m r (clF m x ⟨s.p + 1, s.bad, s.u⟩) (by omega)
    have t := k1.then (r2 := usL m r (usF m x s.u).2) (fun hb hu => by rw [hu] at k2; exact k2) (fun hb => ⟨k2.p, k2.bad hb⟩)
    refine ⟨?_, t.bad, t.ok, t.no⟩
    have := t.p
    dsimp only at this
    rw [cpL]; omega
end
mutual
theorem clF_many (m : Int) : ∀ (x : Frag) (s : CS), s.p ≤ 60 → 61 < s.p + cpF x → 60 < (clF m x s).p
  | .mk o n l, s, h0, h => by
    rw [cpF] at h
    rw [clF]
    by_cases h1 : o = 1
    · rw [if_pos h1]
      rw [if_pos (Or.inl h1)] at h
      exact clL_many m l _ h0 (by dsimp only; omega)
    · rw [if_neg h1]
      by_cases h2 : o = 2
      · exfalso; rw [if_neg (by omega)] at h; omega
      · rw [if_neg h2]
        by_cases h4 : o = 4
        · rw [if_pos h4]
          rw [if_pos (Or.inr h4)] at h
          exact clL_many m l _ (by rw [CS.use_p]; exact h0) (by rw [CS.use_p]; omega)
        · exfalso; rw [if_neg (by omega)] at h; omega
theorem clL_many (m : Int) : ∀ (l : List Frag) (s : CS), s.p ≤ 60 → 60 < s.p + cpL l → 60 < (clL m l s).p
  | [], s, h0, h => by simp only [cpL] at h; omega
  | x :: r, s, h0, h => by
    rw [cpL] at h
    rw [clL]
    split
    · assumption
    · rename_i h60
      by_cases hx : 61 < s.p + 1 + cpF x
      · have := clF_many m x ⟨s.p + 1, s.bad, s.u⟩ (by dsimp only; omega) hx
        have k := (clL_p m r (clF m x ⟨s.p + 1, s.bad, s.u⟩)).1
        omega
      · have k1 := (clF_tells m x ⟨s.p + 1, s.bad, s.u⟩ (by dsimp only; omega)).p
        dsimp only at k1
        have hx1 : 1 ≤ cpF x := by rw [cpF_eq]; omega
        exact clL_many m r _ (by omega) (by omega)
end
/-- So counted, a template is right just if it is. -/
theorem cl_part (old : Gram) (l : List Frag) (right : List Int) (s : CS) (hs : s = clL old.rules.length l ⟨0, false, List.replicate (kids right).length 0⟩) :
    partFault old l right = if 60 < s.p then 6 else if (s.bad || s.u.any (fun n => !decide (n = 1))) = true then 14 else 0 := by
  rw [partFault]
  by_cases h : 60 < cpL l
  · have := clL_many old.rules.length l ⟨0, false, List.replicate (kids right).length 0⟩ (Nat.zero_le _) (by dsimp only; omega)
    rw [if_pos h, hs, if_pos this]
  · have k := clL_tells old.rules.length l ⟨0, false, List.replicate (kids right).length 0⟩ (by dsimp only; omega)
    rw [← hs] at k
    have kp := k.p
    dsimp only at kp
    rw [if_neg h, if_neg (show ¬ 60 < s.p by omega)]
    unfold okUse
    cases hr : (usL old.rules.length l (List.replicate (kids right).length 0)).1 with
    | true =>
      obtain ⟨e1, e2⟩ := k.ok rfl hr
      rw [e1, e2, Bool.true_and, Bool.false_or]
      generalize (usL old.rules.length l (List.replicate (kids right).length 0)).2 = u
      have e : (u.any fun n => !decide (n = 1)) = !(u.all fun n => decide (n = 1)) := by
        rw [List.all_eq_not_any_not]; simp
      rw [e]
      cases u.all (fun n => decide (n = 1)) <;> rfl
    | false => rw [k.no rfl hr]; rfl
end Go.Proofs.Yticnpbopelgmiaa
namespace Go.Proofs.Yticnpbopelgmiaa
open Go.RowKit

mutual
def fillT (w : List Tree) : Tree → List Tree
  | .mk r ks => if r = -1 then w else [.mk r (fillL w ks)]
def fillL (w : List Tree) : List Tree → List Tree
  | [] => []
  | x :: r => fillT w x ++ fillL w r
end
theorem fillT_eq (w : List Tree) (x : Tree) : fillT w x = if x.rule = -1 then w else [.mk x.rule (fillL w x.kids)] := by cases x; rw [fillT]; rfl
theorem fillL_append (w : List Tree) : ∀ (a b : List Tree), fillL w (a ++ b) = fillL w a ++ fillL w b
  | [], b => rfl
  | x :: a, b => by simp [fillL, fillL_append w a b]
theorem fillL_take {w l : List Tree} {i : Nat} (h : i < l.length) : fillL w (l.take (i + 1)) = fillL w (l.take i) ++ fillT w l[i] := by
  rw [List.take_succ_eq_append_getElem h, fillL_append]; simp [fillL]
mutual
theorem fillT_cnt (w : List Tree) : ∀ (x : Tree), cnts (fillT w x) ≤ cnt x * (1 + cnts w)
  | .mk r ks => by
    have h := fillL_cnt w ks
    rw [fillT, cnt]
    split
    · rw [Nat.add_mul]; omega
    · simp only [cnts, cnt]
      rw [Nat.add_mul]; omega
theorem fillL_cnt (w : List Tree) : ∀ (l : List Tree), cnts (fillL w l) ≤ cnts l * (1 + cnts w)
  | [] => by simp [fillL, cnts]
  | x :: r => by
    have h1 := fillT_cnt w x
    have h2 := fillL_cnt w r
    rw [fillL, cnts_append, cnts, Nat.add_mul]; omega
end
def fits4 (l : List Tree) : Option (List Tree) := if cnts l ≤ 400 then some l else none
mutual
def mkF (kids : List (List Tree)) : Frag → Option (List Tree)
  | .mk o n l => if o = 1 then ((mkA kids l).bind fits4).map (fun a => [.mk n a])
    else if o = 2 then some (kids.getD n.toNat [])
    else if o = 3 then some [.mk (-1) []]
    else if o = 4 then ((mkA kids l).bind fits4).bind (fun a => fits4 (fillL a (kids.getD n.toNat [])))
    else some []
def mkA (kids : List (List Tree)) : List Frag → Option (List Tree)
  | [] => some []
  | x :: r => (mkF kids x).bind fun a => (mkA kids r).map (a ++ ·)
end
def mkL (kids : List (List Tree)) (l : List Frag) : Option (List Tree) := (mkA kids l).bind fits4
theorem mkF_eq (kids : List (List Tree)) (x : Frag) : mkF kids x = if x.op = 1 then (mkL kids x.l).map (fun a => [.mk x.n a])
    else if x.op = 2 then some (kids.getD x.n.toNat [])
    else if x.op = 3 then some [.mk (-1) []]
    else if x.op = 4 then (mkL kids x.l).bind (fun a => fits4 (fillL a (kids.getD x.n.toNat [])))
    else some [] := by cases x; rw [mkF]; rfl
theorem fits4_some {l a : List Tree} (h : fits4 l = some a) : a = l ∧ cnts l ≤ 400 := by
  unfold fits4 at h; split at h
  · cases h; exact ⟨rfl, by assumption⟩
  · cases h
theorem mkL_some {kids : List (List Tree)} {l : List Frag} {a : List Tree} (h : mkL kids l = some a) : mkA kids l = some a ∧ cnts a ≤ 400 := by
  unfold mkL at h
  cases hc : mkA kids l with
  | none => rw [hc] at h; cases h
  | some b => rw [hc] at h; obtain ⟨rfl, h2⟩ := fits4_some h; exact ⟨rfl, h2⟩
theorem getD_cnts {kids : List (List Tree)} (hk : ∀ k ∈ kids, cnts k ≤ 400) (n : Nat) : cnts (kids.getD n []) ≤ 400 := by
  rw [List.getD_eq_getElem?_getD]
  by_cases h : n < kids.length
  · rw [List.getElem?_eq_getElem h]; exact hk _ (List.getElem_mem h)
  · rw [List.getElem?_eq_none (by omega)]; simp [cnts]
theorem mkF_cnt {kids : List (List Tree)} (hk : ∀ k ∈ kids, cnts k ≤ 400) {x : Frag} {a : List Tree} (h : mkF kids x = some a) : cnts a ≤ 401 := by
  rw [mkF_eq] at h
  split at h
  · cases hc : mkL kids x.l with
    | none => rw [hc] at h; cases h
    | some b =>
      rw [hc] at h; cases h
      have := (mkL_some hc).2
      simp only [cnts, cnt]; omega
  · split at h
    · cases h; have := getD_cnts hk x.n.toNat; omega
    · split at h
      · cases h; simp [cnts, cnt]
      · split at h
        · cases hc : mkL kids x.l with
          | none => rw [hc] at h; cases h
          | some b => rw [hc] at h; obtain ⟨rfl, h2⟩ := fits4_some h; omega
        · cases h; simp [cnts]
theorem mkA_cnt {kids : List (List Tree)} (hk : ∀ k ∈ kids, cnts k ≤ 400) : ∀ {l : List Frag} {a : List Tree}, mkA kids l = some a → cnts a ≤ 401 * l.length
  | [], a, h => by rw [mkA] at h; cases h; simp [cnts]
  | x :: r, a, h => by
    rw [mkA] at h
    cases hc : mkF kids x with
    | none => rw [hc] at h; cases h
    | some b =>
      cases hd : mkA kids r with
      | none => rw [hc, hd] at h; cases h
      | some c =>
        rw [hc, hd] at h
        cases h
        have h1 := mkF_cnt hk hc
        have h2 := mkA_cnt hk hd
        rw [cnts_append, List.length_cons, Nat.mul_add]; omega
theorem mkA_snoc (kids : List (List Tree)) : ∀ (l : List Frag) (x : Frag), mkA kids (l ++ [x]) = (mkA kids l).bind fun a => (mkF kids x).map (a ++ ·)
  | [], x => by
    simp only [List.nil_append, mkA]
    cases mkF kids x <;> simp
  | y :: l, x => by
    simp only [List.cons_append, mkA, mkA_snoc kids l x]
    cases mkF kids y with
    | none => rfl
    | some a =>
      cases mkA kids l with
      | none => rfl
      | some b =>
        cases mkF kids x with
        | none => rfl
        | some c => simp
theorem mkA_take {kids : List (List Tree)} {l : List Frag} {i : Nat} (h : i < l.length) : mkA kids (l.take (i + 1)) = (mkA kids (l.take i)).bind fun a => (mkF kids l[i]).map (a ++ ·) := by
  rw [List.take_succ_eq_append_getElem h, mkA_snoc]
theorem mkA_none {kids : List (List Tree)} {l : List Frag} {i : Nat} (h : mkA kids (l.take i) = none) : mkA kids l = none := by
  rw [← List.take_append_drop i l]
  generalize l.drop i = r
  induction r generalizing i l with
  | nil => simpa using h
  | cons x r ih =>
    have h2 : mkA kids (l.take i ++ [x]) = none := by rw [mkA_snoc, h]; rfl
    have := ih (l := l.take i ++ [x]) (i := (l.take i ++ [x]).length) (by rw [List.take_length]; exact h2)
    rw [List.take_length] at this
    simpa using this

/-! ### Trees -/
mutual
def valT (s : Step) : Tree → Option (List Tree)
  | .mk r ks => (valL s ks).bind fun kids => mkL kids (s.frags.getD r.toNat [])
def valL (s : Step) : List Tree → Option (List (List Tree))
  | [] => some []
  | x :: l => (valT s x).bind fun a => (valL s l).map (a :: ·)
end
theorem valT_eq (s : Step) (x : Tree) : valT s x = (valL s x.kids).bind fun kids => mkL kids (s.frags.getD x.rule.toNat []) := by cases x; rw [valT]; rfl
theorem valT_cnt {s : Step} {x : Tree} {a : List Tree} (h : valT s x = some a) : cnts a ≤ 400 := by
  rw [valT_eq] at h
  cases hc : valL s x.kids with
  | none => rw [hc] at h; cases h
  | some ks => rw [hc] at h; exact (mkL_some h).2
theorem valL_len {s : Step} : ∀ {l : List Tree} {ks : List (List Tree)}, valL s l = some ks → ks.length = l.length ∧ ∀ k ∈ ks, cnts k ≤ 400
  | [], ks, h => by rw [valL] at h; cases h; simp
  | x :: l, ks, h => by
    rw [valL] at h
    cases hc : valT s x with
    | none => rw [hc] at h; cases h
    | some a =>
      cases hd : valL s l with
      | none => rw [hc, hd] at h; cases h
      | some b =>
        rw [hc, hd] at h
        cases h
        obtain ⟨h1, h2⟩ := valL_len hd
        refine ⟨by simp [h1], fun k hk => ?_⟩
        rcases List.mem_cons.1 hk with rfl | hk
        · exact valT_cnt hc
        · exact h2 k hk
theorem valL_snoc (s : Step) : ∀ (l : List Tree) (x : Tree), valL s (l ++ [x]) = (valL s l).bind fun a => (valT s x).map (fun b => a ++ [b])
  | [], x => by
    simp only [List.nil_append, valL]
    cases valT s x <;> simp
  | y :: l, x => by
    simp only [List.cons_append, valL, valL_snoc s l x]
    cases valT s y with
    | none => rfl
    | some a =>
      cases valL s l with
      | none => rfl
      | some b =>
        cases valT s x with
        | none => rfl
        | some c => simp
theorem valL_take {s : Step} {l : List Tree} {i : Nat} (h : i < l.length) : valL s (l.take (i + 1)) = (valL s (l.take i)).bind fun a => (valT s l[i]).map (fun b => a ++ [b]) := by
  rw [List.take_succ_eq_append_getElem h, valL_snoc]
/-- Led back: the old grammar's tree, and the fault. -/
def zeroTree : Tree := .mk 0 []
def backS (old : Gram) (s : Step) (x : Tree) : Tree × Fault :=
  if (stepFault old s).code = 0 then
    if (treeFault s.g x s.g.start).code = 0 then
      match valT s x with
      | none => (zeroTree, ⟨6, -1⟩)
      | some [y] => if (treeFault old y old.start).code = 0 then (y, ⟨0, 0⟩) else (zeroTree, ⟨18, -1⟩)
      | some _ => (zeroTree, ⟨18, -1⟩)
    else (zeroTree, treeFault s.g x s.g.start)
  else (zeroTree, stepFault old s)
end Go.Proofs.Yticnpbopelgmiaa
namespace Go.Proofs.Yticnpbopelgmiaa
open Go.RowKit
set_option maxRecDepth 100000

theorem word_top_sim {t u : Bool} {g : Gram} {x : Tree} (hl : g.rules.length ≤ 100000000) (hr : ∀ r ∈ g.rules, r.right.length ≤ 100000000) (hx : cnt x ≤ 100000000) :
    ACalls Try.prog 163 [.d (gramD t g), .d (treeA u x)] [] (.tup [.d (ints false (wordR g x)), .d (faultD (treeFault g x g.start))]) [] := by
  refine ACalls.intro (n := 20) Try.func163 rfl rfl (by simp) (by rfl) ?_
  simp only [argFr]
  repeat (first | refine wk ?_ | refine s_field (hr := ?_))
  refine s_call [] (hA := treeCheck_sim hl hr hx) (hr := ?_)
  by_cases h0 : (treeFault g x g.start).code = 0
  · obtain ⟨hg, h1, h2, h3⟩ := treeFault_zero h0
    repeat (first | refine wk ?_ | refine s_field (hr := ?_))
    refine s_call [] (hA := word0_sim hg h2 h1) (hr := ?_)
    rw [wordR, if_pos h0, h3]
    repeat (first | refine wkr ?_ | refine s_field (hr := ?_))
    refine aw_froz 900 rfl ?_
    repeat (first | refine wk ?_ | refine s_field (hr := ?_))
    exact fin
  · rw [wordR, if_neg h0]
    repeat (first | refine wk ?_ | refine s_field (hr := ?_))
    exact fin
def againG : Gram := ⟨1, 2, 0, [⟨0, [0, -1]⟩, ⟨0, [-2]⟩]⟩
theorem again_sim : ACalls Try.prog 55 [] [] (.d (gramD false againG)) [] := by
  refine ACalls.intro (n := 7) Try.func55 rfl rfl (by simp) (by rfl) ?_
  simp only [argFr]
  repeat (first | refine wkr ?_ | refine s_field (hr := ?_))
  refine aw_froz 5 rfl ?_
  repeat (first | refine wk ?_ | refine s_field (hr := ?_))
  exact fin
end Go.Proofs.Yticnpbopelgmiaa
