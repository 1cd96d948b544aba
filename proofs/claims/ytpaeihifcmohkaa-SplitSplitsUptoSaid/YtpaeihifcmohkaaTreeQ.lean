/-
  Trees, plain: what a grammar without fault is; words.
-/
import Derived.Test.YtpaeihifcmohkaaTreeP
set_option linter.unusedVariables false
set_option linter.unusedSimpArgs false
namespace Go.Proofs.Ytpaeihifcmohkaa
open Go.RowKit

/-! ### A grammar without fault -/
structure Gram.ok (g : Gram) : Prop where
  vars1 : 1 ≤ g.vars
  vars : g.vars ≤ 64
  terms0 : 0 ≤ g.terms
  terms : g.terms ≤ 16
  start0 : 0 ≤ g.start
  start : g.start < g.vars
  rules : g.rules.length ≤ 160
  right : ∀ r ∈ g.rules, r.right.length ≤ 10
  left0 : ∀ r ∈ g.rules, 0 ≤ r.left
  left : ∀ r ∈ g.rules, r.left < g.vars
  lo : ∀ r ∈ g.rules, ∀ s ∈ r.right, -g.terms ≤ s
  hi : ∀ r ∈ g.rules, ∀ s ∈ r.right, s < g.vars
theorem ruleFault_zero {g : Gram} {r : Rule} (h : ruleFault g r = 0) : r.right.length ≤ 10 ∧ 0 ≤ r.left ∧ r.left < g.vars ∧ ∀ s ∈ r.right, -g.terms ≤ s ∧ s < g.vars := by
  unfold ruleFault at h
  split at h
  · cases h
  · split at h
    · cases h
    · rename_i h1 h2
      simp only [not_or] at h2
      refine ⟨by omega, by omega, by omega, fun s hs => ?_⟩
      have h3 := h2.2.2
      simp only [Bool.not_eq_true, List.any_eq_false] at h3
      have := h3 s hs
      simp [badSym] at this
      omega
theorem ffirst_zero {g : Gram} : ∀ {rs : List Rule} {i : Nat}, (ffirst g rs i).code = 0 → ∀ r ∈ rs, ruleFault g r = 0
  | [], _, _, r, hr => by cases hr
  | q :: rs, i, h, r, hr => by
    rw [ffirst] at h
    split at h
    · rename_i h0
      rcases List.mem_cons.1 hr with rfl | hr
      · exact h0
      · exact ffirst_zero h r hr
    · rename_i h0; exact absurd h h0
theorem ffirst_ok {g : Gram} : ∀ {rs : List Rule} {i : Nat}, (∀ r ∈ rs, ruleFault g r = 0) → ffirst g rs i = ⟨0, 0⟩
  | [], _, _ => rfl
  | q :: rs, i, h => by
    rw [ffirst, if_pos (h q (by simp))]
    exact ffirst_ok (fun r hr => h r (by simp [hr]))
theorem gram_ok {g : Gram} (h : (gramFault g).code = 0) : g.ok := by
  unfold gramFault at h
  split at h
  · rename_i hh
    split at h
    · cases h
    · have hz := ffirst_zero h
      obtain ⟨a1, a2, a3, a4, a5, a6⟩ := hh
      exact ⟨a1, a2, a3, a4, a5, a6, by omega, fun r hr => (ruleFault_zero (hz r hr)).1, fun r hr => (ruleFault_zero (hz r hr)).2.1, fun r hr => (ruleFault_zero (hz r hr)).2.2.1,
        fun r hr s hs => ((ruleFault_zero (hz r hr)).2.2.2 s hs).1, fun r hr s hs => ((ruleFault_zero (hz r hr)).2.2.2 s hs).2⟩
  · cases h
theorem Gram.ok.fault {g : Gram} (h : g.ok) : gramFault g = ⟨0, 0⟩ := by
  unfold gramFault
  rw [if_pos ⟨h.vars1, h.vars, h.terms0, h.terms, h.start0, h.start⟩, if_neg (by have := h.rules; omega)]
  refine ffirst_ok (fun r hr => ?_)
  unfold ruleFault
  rw [if_neg (by have := h.right r hr; omega), if_neg]
  simp only [not_or]
  refine ⟨by have := h.left0 r hr; omega, by have := h.left r hr; omega, ?_⟩
  simp only [Bool.not_eq_true, List.any_eq_false]
  intro s hs
  have := h.lo r hr s hs
  have := h.hi r hr s hs
  simp [badSym]; omega
theorem fault_zero {g : Gram} (h : (gramFault g).code = 0) : gramFault g = ⟨0, 0⟩ := (gram_ok h).fault
theorem Gram.ok.fit {g : Gram} (h : g.ok) : g.fit := ⟨by have := h.rules; omega, fun r hr => by have := h.right r hr; omega⟩

/-! ### Words -/
theorem wordT_eq (g : Gram) (x : Tree) : wordT g x = wordL g ((g.rules[x.rule.toNat]?).getD ⟨0, []⟩).right x.kids := by cases x; rw [wordT]; rfl
theorem wordL_nil (g : Gram) (k : List Tree) : wordL g [] k = [] := by rw [wordL.eq_def]
theorem wordL_neg {g : Gram} {s : Int} (h : s < 0) (ss : List Int) (k : List Tree) : wordL g (s :: ss) k = (-1 - s) :: wordL g ss k := by rw [wordL.eq_def]; simp [h]
theorem wordL_pos {g : Gram} {s : Int} (h : ¬ s < 0) (ss : List Int) (x : Tree) (k : List Tree) : wordL g (s :: ss) (x :: k) = wordT g x ++ wordL g ss k := by rw [wordL.eq_def]; simp [h]
theorem wordL_out {g : Gram} {s : Int} (h : ¬ s < 0) (ss : List Int) : wordL g (s :: ss) [] = wordL g ss [] := by rw [wordL.eq_def]; simp [h]
theorem wordL_t {g : Gram} {l : List Int} {k : List Tree} {j : Nat} (h : j < l.length) (hs : l[j] < 0) : wordL g (l.drop j) k = (-1 - l[j]) :: wordL g (l.drop (j + 1)) k := by
  rw [List.drop_eq_getElem_cons h, wordL_neg hs]
theorem wordL_v {g : Gram} {l : List Int} {k : List Tree} {j q : Nat} (h : j < l.length) (hs : ¬ l[j] < 0) (hq : q < k.length) : wordL g (l.drop j) (k.drop q) = wordT g k[q] ++ wordL g (l.drop (j + 1)) (k.drop (q + 1)) := by
  rw [List.drop_eq_getElem_cons h, List.drop_eq_getElem_cons hq, wordL_pos hs]
theorem wordL_end {g : Gram} {l : List Int} {k : List Tree} {j : Nat} (h : ¬ j < l.length) : wordL g (l.drop j) k = [] := by
  rw [List.drop_of_length_le (by omega), wordL_nil]
theorem fitss_at {g : Gram} : ∀ {k : List Tree} {vs : List Int}, fitss g k vs = true → ∀ {q : Nat} (h1 : q < k.length) (h2 : q < vs.length), fits g k[q] vs[q] = true
  | [], _, _, q, h1, _ => by simp at h1
  | _ :: _, [], _, q, _, h2 => by simp at h2
  | x :: k, v :: vs, h, q, h1, h2 => by
    simp only [fitss, Bool.and_eq_true] at h
    match q with
    | 0 => exact h.1
    | q + 1 => exact fitss_at h.2 (by simpa using h1) (by simpa using h2)
/-- What fits, taken apart. -/
theorem fits_parts {g : Gram} {x : Tree} {v : Int} (h : fits g x v = true) : ∃ i : Nat, ∃ hi : i < g.rules.length, x.rule = (i : Int) ∧ g.rules[i].left = v ∧ (kids g.rules[i].right).length = x.kids.length ∧ fitss g x.kids (kids g.rules[i].right) = true ∧ wordT g x = wordL g g.rules[i].right x.kids := by
  have h' := h
  rw [fits_eq] at h
  by_cases h0 : 0 ≤ x.rule
  · rw [if_pos h0] at h
    cases hg : g.rules[x.rule.toNat]? with
    | none => rw [hg] at h; cases h
    | some ru =>
      rw [hg] at h
      obtain ⟨hi, rfl⟩ := List.getElem?_eq_some_iff.1 hg
      simp only [Bool.and_eq_true, decide_eq_true_eq] at h
      refine ⟨x.rule.toNat, hi, by omega, h.1, h.2.1, h.2.2, ?_⟩
      rw [wordT_eq, hg]; rfl
  · rw [if_neg h0] at h; cases h
mutual
theorem wordT_le {g : Gram} (R : Nat) (hR : ∀ r ∈ g.rules, r.right.length ≤ R) : ∀ (x : Tree), (wordT g x).length ≤ R * cnt x
  | .mk r k => by
    rw [wordT]
    have h := wordL_le R hR ((g.rules[r.toNat]?).getD ⟨0, []⟩).right k
    have h2 : ((g.rules[r.toNat]?).getD ⟨0, []⟩).right.length ≤ R := by
      cases hg : g.rules[r.toNat]? with
      | none => simp
      | some ru => obtain ⟨hi, rfl⟩ := List.getElem?_eq_some_iff.1 hg; exact hR _ (List.getElem_mem hi)
    simp only [cnt]
    rw [Nat.mul_add]; omega
  termination_by x => (cnt x, 0)
  decreasing_by simp [cnt, Prod.lex_def]
theorem wordL_le {g : Gram} (R : Nat) (hR : ∀ r ∈ g.rules, r.right.length ≤ R) : ∀ (ss : List Int) (k : List Tree), (wordL g ss k).length ≤ ss.length + R * cnts k
  | [], k => by simp [wordL_nil]
  | s :: ss, k => by
    by_cases hs : s < 0
    · have := wordL_le R hR ss k
      rw [wordL_neg hs]
      simp only [List.length_cons]; omega
    · match k with
      | x :: k =>
        have h1 := wordT_le R hR x
        have h2 := wordL_le R hR ss k
        rw [wordL_pos hs]
        simp only [List.length_append, List.length_cons, cnts, Nat.mul_add]; omega
      | [] =>
        have h2 := wordL_le R hR ss []
        rw [wordL_out hs]
        simp only [List.length_cons]; omega
  termination_by ss k => (cnts k, ss.length + 1)
  decreasing_by all_goals (simp [cnts, Prod.lex_def]; try omega)
end
def treeFault (g : Gram) (x : Tree) (v : Int) : Fault := if (gramFault g).code = 0 then (if cnt x ≤ 400 then (if fits g x v = true then ⟨0, 0⟩ else ⟨13, -1⟩) else ⟨6, -1⟩) else gramFault g
theorem kids_take_le {xs : List Int} {j : Nat} (h : j < xs.length) (hs : ¬ xs[j] < 0) : (kids (xs.take j)).length < (kids xs).length := by
  have e : xs = xs.take j ++ xs.drop j := by simp
  have e2 : kids xs = kids (xs.take j) ++ kids (xs.drop j) := (congrArg kids e).trans (by simp only [kids, List.filter_append])
  rw [e2, List.length_append, List.drop_eq_getElem_cons h]
  have : kids (xs[j] :: xs.drop (j + 1)) = xs[j] :: kids (xs.drop (j + 1)) := by simp only [kids]; rw [List.filter_cons_of_pos (by simp; omega)]
  rw [this]; simp
def wordR (g : Gram) (x : Tree) : List Int := if (treeFault g x g.start).code = 0 then wordT g x else []
theorem treeFault_zero {g : Gram} {x : Tree} {v : Int} (h : (treeFault g x v).code = 0) : g.ok ∧ cnt x ≤ 400 ∧ fits g x v = true ∧ treeFault g x v = ⟨0, 0⟩ := by
  unfold treeFault at h ⊢
  split at h
  · rename_i h0
    rw [if_pos h0]
    split at h
    · rename_i h1
      rw [if_pos h1]
      split at h
      · rename_i h2; rw [if_pos h2]; exact ⟨gram_ok h0, h1, h2, rfl⟩
      · cases h
    · cases h
  · rename_i h0; exact absurd h h0
end Go.Proofs.Ytpaeihifcmohkaa
