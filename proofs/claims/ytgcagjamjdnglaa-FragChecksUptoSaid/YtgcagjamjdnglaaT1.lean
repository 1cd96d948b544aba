/-
  Trees, plain: counted, fitting, their words, their order. Trees, plain: what a grammar without fault is; words.
-/
import Derived.Test.YtgcagjamjdnglaaG1
set_option linter.unusedVariables false
set_option linter.unusedSimpArgs false
set_option linter.unusedSectionVars false
namespace Go.Proofs.Ytgcagjamjdnglaa
open Go.RowKit

theorem Tree.eta (x : Tree) : x = .mk x.rule x.kids := by cases x; rfl
theorem Tree.lt {x y : Tree} (h : y ∈ x.kids) : SizeOf.sizeOf y < SizeOf.sizeOf x := by
  cases x with
  | mk r k =>
    simp only [Tree.kids] at h
    have := List.sizeOf_lt_of_mem h
    simp; omega
theorem Tree.ind {P : Tree → Prop} (h : ∀ x, (∀ y ∈ x.kids, P y) → P x) : ∀ x, P x := by
  have key : ∀ (n : Nat) (x : Tree), SizeOf.sizeOf x < n → P x := by
    intro n
    induction n with
    | zero => intro x hx; omega
    | succ n ih => exact fun x hx => h x (fun y hy => ih y (by have := Tree.lt hy; omega))
  exact fun x => key _ x (Nat.lt_succ_self _)

/-! ### Counted -/
mutual
def cnt : Tree → Nat
  | .mk _ k => 1 + cnts k
def cnts : List Tree → Nat
  | [] => 0
  | x :: r => cnt x + cnts r
end
theorem cnt_eq (x : Tree) : cnt x = 1 + cnts x.kids := by cases x; rfl
theorem cnt_pos (x : Tree) : 1 ≤ cnt x := by rw [cnt_eq]; omega
theorem cnts_append : ∀ (a b : List Tree), cnts (a ++ b) = cnts a + cnts b
  | [], b => by simp [cnts]
  | x :: a, b => by simp only [List.cons_append, cnts, cnts_append a b]; omega
theorem cnts_mem {x : Tree} : ∀ {l : List Tree}, x ∈ l → cnt x ≤ cnts l
  | y :: l, h => by
    simp only [cnts]
    rcases List.mem_cons.1 h with rfl | h
    · omega
    · have := cnts_mem h; omega
theorem cnts_len : ∀ (l : List Tree), l.length ≤ cnts l
  | [] => by simp
  | x :: l => by have := cnts_len l; have := cnt_pos x; simp only [List.length_cons, cnts]; omega
theorem cnts_drop {l : List Tree} {i : Nat} (h : i < l.length) : cnts (l.drop i) = cnt l[i] + cnts (l.drop (i + 1)) := by
  rw [List.drop_eq_getElem_cons h, cnts]
theorem cnts_take {l : List Tree} {i : Nat} (h : i < l.length) : cnts (l.take (i + 1)) = cnts (l.take i) + cnt l[i] := by
  rw [List.take_succ_eq_append_getElem h, cnts_append]; simp [cnts]
/-- As far as so many. -/
def capN (m n : Nat) : Nat := if n ≤ m then n else m + 1
def great3 (x : Tree) : Bool := decide (3000 < cnt x)
/-- How many may still come. -/
def left_ (l : Int) (n : Nat) : Int := if (n : Int) ≤ l then l - n else -1

/-! ### Fitting -/
mutual
def fits (g : Gram) : Tree → Int → Bool
  | .mk r k, v => match (if 0 ≤ r then g.rules[r.toNat]? else none) with
    | none => false
    | some ru => decide (ru.left = v) && (decide ((kids ru.right).length = k.length) && fitss g k (kids ru.right))
def fitss (g : Gram) : List Tree → List Int → Bool
  | x :: k, v :: vs => fits g x v && fitss g k vs
  | _, _ => true
end
theorem fits_eq (g : Gram) (x : Tree) (v : Int) : fits g x v = match (if 0 ≤ x.rule then g.rules[x.rule.toNat]? else none) with
    | none => false
    | some ru => decide (ru.left = v) && (decide ((kids ru.right).length = x.kids.length) && fitss g x.kids (kids ru.right)) := by cases x; rw [fits]; rfl
theorem fitss_drop {g : Gram} {k : List Tree} {vs : List Int} {i : Nat} (h1 : i < k.length) (h2 : i < vs.length) : fitss g (k.drop i) (vs.drop i) = (fits g k[i] vs[i] && fitss g (k.drop (i + 1)) (vs.drop (i + 1))) := by
  rw [List.drop_eq_getElem_cons h1, List.drop_eq_getElem_cons h2, fitss]
theorem fitss_end {g : Gram} {k : List Tree} {vs : List Int} {i : Nat} (h1 : ¬ i < k.length) : fitss g (k.drop i) (vs.drop i) = true := by
  rw [List.drop_of_length_le (by omega)]; simp [fitss]

/-! ### Words -/
mutual
def wordT (g : Gram) : Tree → List Int
  | .mk r k => wordL g ((g.rules[r.toNat]?).getD ⟨0, []⟩).right k
  termination_by x => (cnt x, 0)
  decreasing_by simp [cnt, Prod.lex_def]
def wordL (g : Gram) : List Int → List Tree → List Int
  | [], _ => []
  | s :: ss, k => if s < 0 then (-1 - s) :: wordL g ss k else match k with
    | x :: k => wordT g x ++ wordL g ss k
    | [] => wordL g ss []
  termination_by ss k => (cnts k, ss.length + 1)
  decreasing_by all_goals (simp [cnts, Prod.lex_def]; try omega)
end

/-! ### Order -/
mutual
def ordT : Tree → Tree → Int
  | .mk r k, .mk s l => if r < s then -1 else if s < r then 1 else ordL k l
def ordL : List Tree → List Tree → Int
  | [], [] => 0
  | [], _ :: _ => -1
  | _ :: _, [] => 1
  | a :: k, b :: l => if ordT a b = 0 then ordL k l else ordT a b
end
theorem ordT_eq (a b : Tree) : ordT a b = if a.rule < b.rule then -1 else if b.rule < a.rule then 1 else ordL a.kids b.kids := by cases a; cases b; rw [ordT]; rfl
theorem ordL_step {k l : List Tree} {i : Nat} (h1 : i < k.length) (h2 : i < l.length) : ordL (k.drop i) (l.drop i) = if ordT k[i] l[i] = 0 then ordL (k.drop (i + 1)) (l.drop (i + 1)) else ordT k[i] l[i] := by
  rw [List.drop_eq_getElem_cons h1, List.drop_eq_getElem_cons h2, ordL]
theorem ordL_lt {k l : List Tree} {i : Nat} (h1 : ¬ i < k.length) (h2 : i < l.length) : ordL (k.drop i) (l.drop i) = -1 := by
  rw [List.drop_of_length_le (by omega), List.drop_eq_getElem_cons h2, ordL]
theorem ordL_gt {k l : List Tree} {i : Nat} (h1 : i < k.length) (h2 : ¬ i < l.length) : ordL (k.drop i) (l.drop i) = 1 := by
  rw [List.drop_eq_getElem_cons h1, List.drop_of_length_le (show l.length ≤ i by omega), ordL]
theorem ordL_end {k l : List Tree} {i : Nat} (h1 : ¬ i < k.length) (h2 : ¬ i < l.length) : ordL (k.drop i) (l.drop i) = 0 := by
  rw [List.drop_of_length_le (by omega), List.drop_of_length_le (by omega), ordL]
mutual
theorem ordT_vals : ∀ (a b : Tree), ordT a b = -1 ∨ ordT a b = 0 ∨ ordT a b = 1
  | .mk r k, .mk s l => by
    rw [ordT]
    have := ordL_vals k l
    split
    · exact .inl rfl
    · split
      · exact .inr (.inr rfl)
      · exact this
theorem ordL_vals : ∀ (a b : List Tree), ordL a b = -1 ∨ ordL a b = 0 ∨ ordL a b = 1
  | [], [] => by simp [ordL]
  | [], _ :: _ => by simp [ordL]
  | _ :: _, [] => by simp [ordL]
  | a :: k, b :: l => by
    rw [ordL]
    have h1 := ordT_vals a b
    have h2 := ordL_vals k l
    split
    · exact h2
    · exact h1
end
mutual
theorem ordT_neg : ∀ (a b : Tree), ordT b a = -ordT a b
  | .mk r k, .mk s l => by
    have := ordL_neg k l
    rw [ordT, ordT]
    by_cases h1 : r < s
    · have h2 : ¬ s < r := by omega
      simp [h1, h2]
    · by_cases h2 : s < r
      · simp [h1, h2]
      · simp [h1, h2, this]
theorem ordL_neg : ∀ (a b : List Tree), ordL b a = -ordL a b
  | [], [] => by simp [ordL]
  | [], _ :: _ => by simp [ordL]
  | _ :: _, [] => by simp [ordL]
  | a :: k, b :: l => by
    have h1 := ordT_neg a b
    have h2 := ordL_neg k l
    rw [ordL, ordL, h1, h2]
    by_cases h : ordT a b = 0
    · rw [if_pos h, if_pos (by omega)]
    · rw [if_neg h, if_neg (by omega)]
end
mutual
theorem ordT_refl : ∀ (a : Tree), ordT a a = 0
  | .mk r k => by rw [ordT, if_neg (by omega), if_neg (by omega)]; exact ordL_refl k
theorem ordL_refl : ∀ (a : List Tree), ordL a a = 0
  | [] => by simp [ordL]
  | a :: k => by rw [ordL, ordT_refl a, if_pos rfl]; exact ordL_refl k
end
mutual
theorem ordT_zero : ∀ (a b : Tree), ordT a b = 0 → a = b
  | .mk r k, .mk s l, h => by
    rw [ordT] at h
    by_cases h1 : r < s
    · rw [if_pos h1] at h; cases h
    · by_cases h2 : s < r
      · rw [if_neg h1, if_pos h2] at h; cases h
      · rw [if_neg h1, if_neg h2] at h
        obtain rfl : r = s := by omega
        rw [ordL_zero k l h]
theorem ordL_zero : ∀ (a b : List Tree), ordL a b = 0 → a = b
  | [], [], _ => rfl
  | [], _ :: _, h => by simp [ordL] at h
  | _ :: _, [], h => by simp [ordL] at h
  | a :: k, b :: l, h => by
    rw [ordL] at h
    by_cases h1 : ordT a b = 0
    · rw [if_pos h1] at h; rw [ordT_zero a b h1, ordL_zero k l h]
    · rw [if_neg h1] at h; exact absurd h h1
end
mutual
theorem ordT_trans : ∀ (a b c : Tree), ordT a b ≤ 0 → ordT b c ≤ 0 → ordT a c ≤ 0
  | .mk r k, .mk s l, .mk q m, h1, h2 => by
    rw [ordT] at h1 h2 ⊢
    by_cases a1 : r < s
    · by_cases b1 : s < q
      · rw [if_pos (by omega)]; decide
      · by_cases b2 : q < s
        · rw [if_neg b1, if_pos b2] at h2; omega
        · rw [if_pos (by omega)]; decide
    · by_cases a2 : s < r
      · rw [if_neg a1, if_pos a2] at h1; omega
      · rw [if_neg a1, if_neg a2] at h1
        by_cases b1 : s < q
        · rw [if_pos (by omega)]; decide
        · by_cases b2 : q < s
          · rw [if_neg b1, if_pos b2] at h2; omega
          · rw [if_neg b1, if_neg b2] at h2
            rw [if_neg (by omega), if_neg (by omega)]
            exact ordL_trans k l m h1 h2
theorem ordL_trans : ∀ (a b c : List Tree), ordL a b ≤ 0 → ordL b c ≤ 0 → ordL a c ≤ 0
  | [], _, [], _, _ => by simp [ordL]
  | [], _, _ :: _, _, _ => by simp [ordL]
  | _ :: _, [], _, h1, _ => by simp [ordL] at h1
  | _ :: _, _ :: _, [], _, h2 => by simp [ordL] at h2
  | a :: k, b :: l, c :: m, h1, h2 => by
    rw [ordL] at h1 h2 ⊢
    by_cases a0 : ordT a b = 0
    · obtain rfl := ordT_zero a b a0
      rw [if_pos a0] at h1
      by_cases b0 : ordT a c = 0
      · rw [if_pos b0] at h2 ⊢; exact ordL_trans k l m h1 h2
      · rw [if_neg b0] at h2 ⊢; exact h2
    · rw [if_neg a0] at h1
      by_cases b0 : ordT b c = 0
      · obtain rfl := ordT_zero b c b0
        rw [if_neg a0]; exact h1
      · rw [if_neg b0] at h2
        have h3 := ordT_trans a b c h1 h2
        by_cases c0 : ordT a c = 0
        · exfalso
          obtain rfl := ordT_zero a c c0
          have := ordT_neg a b
          omega
        · rw [if_neg c0]; exact h3
end
/-! ### As data -/
theorem IsElt.treeE {h : Hp} {t u : Bool} {sz i off : Nat} {xs : List Tree} (hi : i < xs.length) : IsElt h (.eptr t sz (xs.map (treeD u)) i off) (treeA u xs[i]) off [] := by
  have := IsElt.mapE (h := h) (t := t) (sz := sz) (off := off) (f := treeD u) hi
  rwa [treeA_eq] at this
theorem IsElt.treeO {h : Hp} {u : Bool} {k m sz i off : Nat} {e : TypeId} {xs : List Tree} (hk : hget h k = some (.row e sz (xs.map (treeD u)))) (hm : (xs.map (treeD u)).length = m) (hi : i < xs.length) : IsElt h (.optr k m i off) (treeA u xs[i]) off [(k, some (.row e sz (xs.map (treeD u))))] := by
  have := IsElt.mapO (f := treeD u) (off := off) hk hm hi
  rwa [treeA_eq] at this
end Go.Proofs.Ytgcagjamjdnglaa
namespace Go.Proofs.Ytgcagjamjdnglaa
open Go.RowKit

/-! ### A grammar without fault -/
structure Gram.ok (g : Gram) : Prop where
  vars1 : 1 ≤ g.vars
  vars : g.vars ≤ 64
  terms0 : 0 ≤ g.terms
  terms : g.terms ≤ 16
  start0 : 0 ≤ g.start
  start : g.start < g.vars
  rules : g.rules.length ≤ 160
  right : ∀ r ∈ g.rules, r.right.length ≤ 10
  left0 : ∀ r ∈ g.rules, 0 ≤ r.left
  left : ∀ r ∈ g.rules, r.left < g.vars
  lo : ∀ r ∈ g.rules, ∀ s ∈ r.right, -g.terms ≤ s
  hi : ∀ r ∈ g.rules, ∀ s ∈ r.right, s < g.vars
theorem ruleFault_zero {g : Gram} {r : Rule} (h : ruleFault g r = 0) : r.right.length ≤ 10 ∧ 0 ≤ r.left ∧ r.left < g.vars ∧ ∀ s ∈ r.right, -g.terms ≤ s ∧ s < g.vars := by
  unfold ruleFault at h
  split at h
  · cases h
  · split at h
    · cases h
    · rename_i h1 h2
      simp only [not_or] at h2
      refine ⟨by omega, by omega, by omega, fun s hs => ?_⟩
      have h3 := h2.2.2
      simp only [Bool.not_eq_true, List.any_eq_false] at h3
      have := h3 s hs
      simp [badSym] at this
      omega
theorem ffirst_zero {g : Gram} : ∀ {rs : List Rule} {i : Nat}, (ffirst g rs i).code = 0 → ∀ r ∈ rs, ruleFault g r = 0
  | [], _, _, r, hr => by cases hr
  | q :: rs, i, h, r, hr => by
    rw [ffirst] at h
    split at h
    · rename_i h0
      rcases List.mem_cons.1 hr with rfl | hr
      · exact h0
      · exact ffirst_zero h r hr
    · rename_i h0; exact absurd h h0
theorem ffirst_ok {g : Gram} : ∀ {rs : List Rule} {i : Nat}, (∀ r ∈ rs, ruleFault g r = 0) → ffirst g rs i = ⟨0, 0⟩
  | [], _, _ => rfl
  | q :: rs, i, h => by
    rw [ffirst, if_pos (h q (by simp))]
    exact ffirst_ok (fun r hr => h r (by simp [hr]))
theorem gram_ok {g : Gram} (h : (gramFault g).code = 0) : g.ok := by
  unfold gramFault at h
  split at h
  · rename_i hh
    split at h
    · cases h
    · have hz := ffirst_zero h
      obtain ⟨a1, a2, a3, a4, a5, a6⟩ := hh
      exact ⟨a1, a2, a3, a4, a5, a6, by omega, fun r hr => (ruleFault_zero (hz r hr)).1, fun r hr => (ruleFault_zero (hz r hr)).2.1, fun r hr => (ruleFault_zero (hz r hr)).2.2.1,
        fun r hr s hs => ((ruleFault_zero (hz r hr)).2.2.2 s hs).1, fun r hr s hs => ((ruleFault_zero (hz r hr)).2.2.2 s hs).2⟩
  · cases h
theorem Gram.ok.fault {g : Gram} (h : g.ok) : gramFault g = ⟨0, 0⟩ := by
  unfold gramFault
  rw [if_pos ⟨h.vars1, h.vars, h.terms0, h.terms, h.start0, h.start⟩, if_neg (by have := h.rules; omega)]
  refine ffirst_ok (fun r hr => ?_)
  unfold ruleFault
  rw [if_neg (by have := h.right r hr; omega), if_neg]
  simp only [not_or]
  refine ⟨by have := h.left0 r hr; omega, by have := h.left r hr; omega, ?_⟩
  simp only [Bool.not_eq_true, List.any_eq_false]
  intro s hs
  have := h.lo r hr s hs
  have := h.hi r hr s hs
  simp [badSym]; omega
theorem fault_zero {g : Gram} (h : (gramFault g).code = 0) : gramFault g = ⟨0, 0⟩ := (gram_ok h).fault
theorem Gram.ok.fit {g : Gram} (h : g.ok) : g.fit := ⟨by have := h.rules; omega, fun r hr => by have := h.right r hr; omega⟩

/-! ### Words -/
theorem wordT_eq (g : Gram) (x : Tree) : wordT g x = wordL g ((g.rules[x.rule.toNat]?).getD ⟨0, []⟩).right x.kids := by cases x; rw [wordT]; rfl
theorem wordL_nil (g : Gram) (k : List Tree) : wordL g [] k = [] := by rw [wordL.eq_def]
theorem wordL_neg {g : Gram} {s : Int} (h : s < 0) (ss : List Int) (k : List Tree) : wordL g (s :: ss) k = (-1 - s) :: wordL g ss k := by rw [wordL.eq_def]; simp [h]
theorem wordL_pos {g : Gram} {s : Int} (h : ¬ s < 0) (ss : List Int) (x : Tree) (k : List Tree) : wordL g (s :: ss) (x :: k) = wordT g x ++ wordL g ss k := by rw [wordL.eq_def]; simp [h]
theorem wordL_out {g : Gram} {s : Int} (h : ¬ s < 0) (ss : List Int) : wordL g (s :: ss) [] = wordL g ss [] := by rw [wordL.eq_def]; simp [h]
theorem wordL_t {g : Gram} {l : List Int} {k : List Tree} {j : Nat} (h : j < l.length) (hs : l[j] < 0) : wordL g (l.drop j) k = (-1 - l[j]) :: wordL g (l.drop (j + 1)) k := by
  rw [List.drop_eq_getElem_cons h, wordL_neg hs]
theorem wordL_v {g : Gram} {l : List Int} {k : List Tree} {j q : Nat} (h : j < l.length) (hs : ¬ l[j] < 0) (hq : q < k.length) : wordL g (l.drop j) (k.drop q) = wordT g k[q] ++ wordL g (l.drop (j + 1)) (k.drop (q + 1)) := by
  rw [List.drop_eq_getElem_cons h, List.drop_eq_getElem_cons hq, wordL_pos hs]
theorem wordL_end {g : Gram} {l : List Int} {k : List Tree} {j : Nat} (h : ¬ j < l.length) : wordL g (l.drop j) k = [] := by
  rw [List.drop_of_length_le (by omega), wordL_nil]
theorem fitss_at {g : Gram} : ∀ {k : List Tree} {vs : List Int}, fitss g k vs = true → ∀ {q : Nat} (h1 : q < k.length) (h2 : q < vs.length), fits g k[q] vs[q] = true
  | [], _, _, q, h1, _ => by simp at h1
  | _ :: _, [], _, q, _, h2 => by simp at h2
  | x :: k, v :: vs, h, q, h1, h2 => by
    simp only [fitss, Bool.and_eq_true] at h
    match q with
    | 0 => exact h.1
    | q + 1 => exact fitss_at h.2 (by simpa using h1) (by simpa using h2)
/-- What fits, taken apart. -/
theorem fits_parts {g : Gram} {x : Tree} {v : Int} (h : fits g x v = true) : ∃ i : Nat, ∃ hi : i < g.rules.length, x.rule = (i : Int) ∧ g.rules[i].left = v ∧ (kids g.rules[i].right).length = x.kids.length ∧ fitss g x.kids (kids g.rules[i].right) = true ∧ wordT g x = wordL g g.rules[i].right x.kids := by
  have h' := h
  rw [fits_eq] at h
  by_cases h0 : 0 ≤ x.rule
  · rw [if_pos h0] at h
    cases hg : g.rules[x.rule.toNat]? with
    | none => rw [hg] at h; cases h
    | some ru =>
      rw [hg] at h
      obtain ⟨hi, rfl⟩ := List.getElem?_eq_some_iff.1 hg
      simp only [Bool.and_eq_true, decide_eq_true_eq] at h
      refine ⟨x.rule.toNat, hi, by omega, h.1, h.2.1, h.2.2, ?_⟩
      rw [wordT_eq, hg]; rfl
  · rw [if_neg h0] at h; cases h
mutual
theorem wordT_le {g : Gram} (R : Nat) (hR : ∀ r ∈ g.rules, r.right.length ≤ R) : ∀ (x : Tree), (wordT g x).length ≤ R * cnt x
  | .mk r k => by
    rw [wordT]
    have h := wordL_le R hR ((g.rules[r.toNat]?).getD ⟨0, []⟩).right k
    have h2 : ((g.rules[r.toNat]?).getD ⟨0, []⟩).right.length ≤ R := by
      cases hg : g.rules[r.toNat]? with
      | none => simp
      | some ru => obtain ⟨hi, rfl⟩ := List.getElem?_eq_some_iff.1 hg; exact hR _ (List.getElem_mem hi)
    simp only [cnt]
    rw [Nat.mul_add]; omega
  termination_by x => (cnt x, 0)
  decreasing_by simp [cnt, Prod.lex_def]
theorem wordL_le {g : Gram} (R : Nat) (hR : ∀ r ∈ g.rules, r.right.length ≤ R) : ∀ (ss : List Int) (k : List Tree), (wordL g ss k).length ≤ ss.length + R * cnts k
  | [], k => by simp [wordL_nil]
  | s :: ss, k => by
    by_cases hs : s < 0
    · have := wordL_le R hR ss k
      rw [wordL_neg hs]
      simp only [List.length_cons]; omega
    · match k with
      | x :: k =>
        have h1 := wordT_le R hR x
        have h2 := wordL_le R hR ss k
        rw [wordL_pos hs]
        simp only [List.length_append, List.length_cons, cnts, Nat.mul_add]; omega
      | [] =>
        have h2 := wordL_le R hR ss []
        rw [wordL_out hs]
        simp only [List.length_cons]; omega
  termination_by ss k => (cnts k, ss.length + 1)
  decreasing_by all_goals (simp [cnts, Prod.lex_def]; try omega)
end
def treeFault (g : Gram) (x : Tree) (v : Int) : Fault := if (gramFault g).code = 0 then (if cnt x ≤ 400 then (if fits g x v = true then ⟨0, 0⟩ else ⟨13, -1⟩) else ⟨6, -1⟩) else gramFault g
theorem kids_take_le {xs : List Int} {j : Nat} (h : j < xs.length) (hs : ¬ xs[j] < 0) : (kids (xs.take j)).length < (kids xs).length := by
  have e : xs = xs.take j ++ xs.drop j := by simp
  have e2 : kids xs = kids (xs.take j) ++ kids (xs.drop j) := (congrArg kids e).trans (by simp only [kids, List.filter_append])
  rw [e2, List.length_append, List.drop_eq_getElem_cons h]
  have : kids (xs[j] :: xs.drop (j + 1)) = xs[j] :: kids (xs.drop (j + 1)) := by simp only [kids]; rw [List.filter_cons_of_pos (by simp; omega)]
  rw [this]; simp
def wordR (g : Gram) (x : Tree) : List Int := if (treeFault g x g.start).code = 0 then wordT g x else []
theorem treeFault_zero {g : Gram} {x : Tree} {v : Int} (h : (treeFault g x v).code = 0) : g.ok ∧ cnt x ≤ 400 ∧ fits g x v = true ∧ treeFault g x v = ⟨0, 0⟩ := by
  unfold treeFault at h ⊢
  split at h
  · rename_i h0
    rw [if_pos h0]
    split at h
    · rename_i h1
      rw [if_pos h1]
      split at h
      · rename_i h2; rw [if_pos h2]; exact ⟨gram_ok h0, h1, h2, rfl⟩
      · cases h
    · cases h
  · rename_i h0; exact absurd h h0
end Go.Proofs.Ytgcagjamjdnglaa
