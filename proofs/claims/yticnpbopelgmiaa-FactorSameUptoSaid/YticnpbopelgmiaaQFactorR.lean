/-
  Factors, plain: what comes of it is a step, no two rules of a nonterminal begin alike, and made once more it is the same. Sim: trees: counted, fitting, order. Sim: templates: counted, which kids they use, the same, Plain, Node. Sim: templates: which kids they use; Node; steps that are the same. Sim: trees: Check, Own, words. Sim: steps that are the same; Node; StepFault. Sim: StepFault. Sim: factor's kids, group, common, head, tail.
-/
import Derived.Test.YticnpbopelgmiaaQFactorP
import Derived.Test.YticnpbopelgmiaaQGramC
import Derived.Test.YticnpbopelgmiaaP1
import Derived.Test.YticnpbopelgmiaaT1
import Derived.Test.YticnpbopelgmiaaS4
import Derived.Test.YticnpbopelgmiaaS5
set_option linter.unusedVariables false
set_option linter.unusedSimpArgs false
set_option linter.unusedSectionVars false
namespace Go.Proofs.Yticnpbopelgmiaa
open Go.RowKit

def ruleAt (g : Gram) (r : Int) : Rule := g.rules.getD r.toNat ⟨0, []⟩
def worksAt (g : Gram) (v : Nat) : List Work := (by_ g v).map fun r => ⟨(ruleAt g r).right, nodeF r (kids (ruleAt g r).right).length⟩
def startW (g : Gram) : List (List Work) := (List.range g.vars.toNat).map (worksAt g)
theorem byR_at {v x : Int} : ∀ {rs : List Rule} {i : Nat}, x ∈ byR rs v i → ∃ j, ∃ h : j < rs.length, x = ((i + j : Nat) : Int) ∧ rs[j].left = v
  | [], i, h => by simp [byR] at h
  | r :: rs, i, h => by
    rw [byR] at h
    have next : x ∈ byR rs v (i + 1) → ∃ j, ∃ h : j < (r :: rs).length, x = ((i + j : Nat) : Int) ∧ (r :: rs)[j].left = v := fun h => by
      obtain ⟨j, h1, h2, h3⟩ := byR_at h
      exact ⟨j + 1, by simp; omega, by rw [h2]; congr 1; omega, by simpa using h3⟩
    split at h
    · rename_i e
      rcases List.mem_cons.1 h with rfl | h
      · exact ⟨0, by simp, by simp, e⟩
      · exact next h
    · exact next h
theorem by_atR {g : Gram} {v : Nat} {r : Int} (h : r ∈ by_ g v) : ∃ j, ∃ hj : j < g.rules.length, r = (j : Int) ∧ g.rules[j].left = (v : Int) ∧ ruleAt g r = g.rules[j] := by
  obtain ⟨j, h1, h2, h3⟩ := byR_at h
  rw [Nat.zero_add] at h2
  refine ⟨j, h1, h2, h3, ?_⟩
  rw [ruleAt, h2]
  simp only [Int.toNat_natCast]
  rw [List.getD_eq_getElem?_getD, List.getElem?_eq_getElem h1]; rfl
theorem startW_length (g : Gram) : (startW g).length = g.vars.toNat := by simp [startW]
theorem startW_get {g : Gram} {v : Nat} (h : v < g.vars.toNat) : (startW g).getD v [] = worksAt g v := by
  rw [List.getD_eq_getElem?_getD, startW, List.getElem?_map, List.getElem?_range h]; rfl
theorem startW_out {g : Gram} {v : Nat} (h : ¬ v < g.vars.toNat) : (startW g).getD v [] = [] := by
  rw [List.getD_eq_getElem?_getD, List.getElem?_eq_none (by rw [startW_length]; omega)]; rfl
theorem start_inv {g : Gram} (hg : g.ok) : FInv g (startW g) 0 := by
  have h1 := hg.vars1
  have h2 := hg.vars
  have hplain : ∀ v, v < g.vars.toNat → ∀ w ∈ worksAt g v, Plain g (gapAt g v) w ∧ ∀ s ∈ w.right, -g.terms ≤ s ∧ s < ((startW g).length : Int) := by
    intro v hv w hw
    obtain ⟨r, hr, rfl⟩ := List.mem_map.1 hw
    obtain ⟨j, hj, rfl, _, e⟩ := by_atR hr
    have hgap : gapAt g v = false := decide_eq_false (by omega)
    rw [hgap]
    dsimp only
    rw [e, startW_length]
    have hmem := List.getElem_mem hj
    exact ⟨⟨j, hj, rfl, hg.right _ hmem⟩, fun s hs => ⟨hg.lo _ hmem s hs, by have := hg.hi _ hmem s hs; omega⟩⟩
  refine ⟨by rw [startW_length]; omega, by rw [startW_length]; omega, ?_, ?_, fun u hu => by omega⟩
  · intro l hl w hw
    obtain ⟨v, hv, rfl⟩ := List.mem_map.1 hl
    obtain ⟨p, q⟩ := hplain v (List.mem_range.1 hv) w hw
    exact WOk.plain q p
  · intro u _
    by_cases hu : u < g.vars.toNat
    · rw [startW_get hu]
      refine List.Pairwise.imp_of_mem (R := fun _ _ => True) (fun ha hb _ => .inl ⟨(hplain u hu _ ha).1, (hplain u hu _ hb).1⟩) ?_
      exact List.pairwise_of_forall (fun _ _ => trivial)
    · rw [startW_out hu]; exact List.Pairwise.nil

/-! ### The rules of it -/
def finL (v : Nat) : List Work → List Rule → List (List Frag) → Option (List Rule × List (List Frag))
  | [], R, F => some (R, F)
  | w :: r, R, F => if R.length = 160 ∨ 10 < w.right.length then none else finL v r (R ++ [⟨(v : Int), w.right⟩]) (F ++ [w.l])
def finW : List (List Work) → Nat → List Rule → List (List Frag) → Except Nat (List Rule × List (List Frag))
  | [], _, R, F => .ok (R, F)
  | l :: r, v, R, F => match finL v l R F with
    | none => .error v
    | some x => finW r (v + 1) x.1 x.2
def rulesF : List (List Work) → Nat → List Rule
  | [], _ => []
  | l :: r, v => l.map (fun w => (⟨(v : Int), w.right⟩ : Rule)) ++ rulesF r (v + 1)
def fragsF : List (List Work) → List (List Frag)
  | [] => []
  | l :: r => l.map (·.l) ++ fragsF r
theorem finL_some {v : Nat} : ∀ {l : List Work} {R : List Rule} {F : List (List Frag)} {x : List Rule × List (List Frag)}, finL v l R F = some x → R.length ≤ 160 →
    x.1 = R ++ l.map (fun w => (⟨(v : Int), w.right⟩ : Rule)) ∧ x.2 = F ++ l.map (·.l) ∧ x.1.length ≤ 160 ∧ ∀ w ∈ l, w.right.length ≤ 10
  | [], R, F, x, h, hR => by
    rw [finL] at h; cases h
    exact ⟨by simp, by simp, hR, by simp⟩
  | w :: r, R, F, x, h, hR => by
    rw [finL] at h
    split at h
    · cases h
    · rename_i hn
      obtain ⟨h1, h2, h3, h4⟩ := finL_some h (by simp; omega)
      refine ⟨by rw [h1]; simp, by rw [h2]; simp, h3, fun y hy => ?_⟩
      rcases List.mem_cons.1 hy with rfl | hy
      · omega
      · exact h4 y hy
theorem finW_ok : ∀ {all : List (List Work)} {v : Nat} {R : List Rule} {F : List (List Frag)} {x : List Rule × List (List Frag)}, finW all v R F = .ok x → R.length ≤ 160 →
    x.1 = R ++ rulesF all v ∧ x.2 = F ++ fragsF all ∧ x.1.length ≤ 160 ∧ ∀ l ∈ all, ∀ w ∈ l, w.right.length ≤ 10
  | [], v, R, F, x, h, hR => by
    rw [finW] at h; cases h
    exact ⟨by simp [rulesF], by simp [fragsF], hR, by simp⟩
  | l :: r, v, R, F, x, h, hR => by
    rw [finW] at h
    cases hc : finL v l R F with
    | none => rw [hc] at h; cases h
    | some y =>
      rw [hc] at h
      obtain ⟨h1, h2, h3, h4⟩ := finL_some hc hR
      obtain ⟨k1, k2, k3, k4⟩ := finW_ok h h3
      refine ⟨by rw [k1, h1, rulesF]; simp, by rw [k2, h2, fragsF]; simp, k3, fun y hy => ?_⟩
      rcases List.mem_cons.1 hy with rfl | hy
      · exact h4
      · exact k4 y hy
def factorEnd (g : Gram) (r : Except Nat (List (List Work))) : Step × Fault := match r with
  | .error v => (zeroStep, ⟨6, (v : Nat)⟩)
  | .ok z => match finW z 0 [] [] with
    | .error v => (zeroStep, ⟨6, (v : Nat)⟩)
    | .ok x => (⟨⟨(z.length : Nat), g.terms, g.start, x.1⟩, x.2, []⟩, ⟨0, 0⟩)
def factorS (g : Gram) (r : Except Nat (List (List Work))) : Step × Fault := if (gramFault g).code = 0 then factorEnd g r else (zeroStep, gramFault g)

/-! ### Rights alone matter -/
theorem rulesF_left : ∀ {all : List (List Work)} {v : Nat} {r : Rule}, r ∈ rulesF all v → (v : Int) ≤ r.left ∧ r.left < ((v + all.length : Nat) : Int) ∧ ∃ w ∈ all.getD (r.left.toNat - v) [], r.right = w.right
  | [], v, r, h => by simp [rulesF] at h
  | l :: a, v, r, h => by
    rw [rulesF] at h
    rcases List.mem_append.1 h with h | h
    · obtain ⟨w, hw, rfl⟩ := List.mem_map.1 h
      dsimp only
      refine ⟨Int.le_refl _, by simp; omega, w, ?_, rfl⟩
      simpa using hw
    · obtain ⟨h1, h2, w, h3, h4⟩ := rulesF_left h
      refine ⟨by omega, by simp only [List.length_cons]; omega, w, ?_, h4⟩
      rw [show r.left.toNat - v = (r.left.toNat - (v + 1)) + 1 by omega]
      simpa using h3
/-! ### It is a step -/
section
variable {g : Gram} {z : List (List Work)} {x : List Rule × List (List Frag)}
def outG (g : Gram) (z : List (List Work)) (x : List Rule × List (List Frag)) : Gram := ⟨(z.length : Nat), g.terms, g.start, x.1⟩
theorem parts_of : ∀ {all : List (List Work)} {v : Nat}, (∀ l ∈ all, ∀ w ∈ l, partFault g w.l w.right = 0) → PartsOk g (fragsF all) (rulesF all v)
  | [], v, _ => .nil
  | l :: a, v, h => by
    rw [fragsF, rulesF]
    refine All2.append ?_ (parts_of (fun y hy => h y (by simp [hy])))
    have hl := h l (by simp)
    clear h
    induction l with
    | nil => exact .nil
    | cons w r ih => exact .cons (hl w (by simp)) (ih (fun y hy => hl y (by simp [hy])))
theorem out_ok (hg : g.ok) (h : FInv g z z.length) (hx : finW z 0 [] [] = .ok x) : (outG g z x).ok := by
  obtain ⟨h1, h2, h3, h4⟩ := finW_ok hx (by simp)
  rw [List.nil_append] at h1 h2
  have a1 := h.len
  have a2 := h.vars
  have a3 := hg.vars1
  have a4 := hg.start
  have hm : ∀ r ∈ x.1, 0 ≤ r.left ∧ r.left < (z.length : Int) ∧ r.right.length ≤ 10 ∧ ∀ s ∈ r.right, -g.terms ≤ s ∧ s < (z.length : Int) := fun r hr => by
    rw [h1] at hr
    obtain ⟨b1, b2, w, b3, b4⟩ := rulesF_left hr
    have hl := getD_memW b3
    rw [b4]
    refine ⟨by omega, by omega, h4 _ hl w b3, (h.ok _ hl w b3).sym⟩
  exact ⟨by show (1 : Int) ≤ (z.length : Int); omega, by show (z.length : Int) ≤ 64; omega, hg.terms0, hg.terms, hg.start0, by show g.start < (z.length : Int); omega, h3, fun r hr => (hm r hr).2.2.1, fun r hr => (hm r hr).1, fun r hr => (hm r hr).2.1, fun r hr s hs => ((hm r hr).2.2.2 s hs).1, fun r hr s hs => ((hm r hr).2.2.2 s hs).2⟩
theorem out_step (hg : g.ok) (h : FInv g z z.length) (hx : finW z 0 [] [] = .ok x) : stepFault g ⟨outG g z x, x.2, []⟩ = ⟨0, 0⟩ := by
  obtain ⟨h1, h2, h3, h4⟩ := finW_ok hx (by simp)
  rw [List.nil_append] at h1 h2
  refine step_ok hg (out_ok hg h hx) rfl ?_
  show PartsOk g x.2 x.1
  rw [h1, h2]
  exact parts_of (fun l hl w hw => (h.ok l hl w hw).part)
theorem out_slim (h : FInv g z z.length) (hx : finW z 0 [] [] = .ok x) : x.2.length ≤ 160 ∧ ∀ l ∈ x.2, fszs l ≤ 100 := by
  obtain ⟨h1, h2, h3, h4⟩ := finW_ok hx (by simp)
  rw [List.nil_append] at h1 h2
  have hl : ∀ (all : List (List Work)) (v : Nat), (fragsF all).length = (rulesF all v).length := by
    intro all
    induction all with
    | nil => intro v; rfl
    | cons l a ih => intro v; simp [fragsF, rulesF, ih (v + 1)]
  refine ⟨by rw [h2, hl z 0, ← h1]; exact h3, fun f hf => ?_⟩
  rw [h2] at hf
  have : ∀ (all : List (List Work)), f ∈ fragsF all → ∃ l ∈ all, ∃ w ∈ l, f = w.l := by
    intro all
    induction all with
    | nil => intro h; simp [fragsF] at h
    | cons l a ih =>
      intro h
      rcases List.mem_append.1 h with h | h
      · obtain ⟨w, hw, rfl⟩ := List.mem_map.1 h
        exact ⟨l, by simp, w, hw, rfl⟩
      · obtain ⟨l', h1, w, h2, h3⟩ := ih h
        exact ⟨l', by simp [h1], w, h2, h3⟩
  obtain ⟨l, hl, w, hw, rfl⟩ := this z hf
  exact (h.ok l hl w hw).slim
end
end Go.Proofs.Yticnpbopelgmiaa
namespace Go.Proofs.Yticnpbopelgmiaa
open Go.RowKit
set_option maxRecDepth 100000

theorem kid_le {x : Tree} {N : Nat} (h : cnt x ≤ N) {i : Nat} (hi : i < x.kids.length) : cnt x.kids[i] ≤ N ∧ cnt x.kids[i] < cnt x := by
  have := cnts_mem (List.getElem_mem hi)
  rw [cnt_eq] at h
  have := cnt_eq x
  omega
theorem kids_len {x : Tree} {N : Nat} (h : cnt x ≤ N) : x.kids.length ≤ N := by
  have := cnts_len x.kids
  rw [cnt_eq] at h
  omega

/-! ### Counted -/
theorem size_sim {t : Bool} : ∀ (x : Tree), cnt x ≤ 100000000 → ∀ {m : Nat}, m ≤ 10000 → ACalls Try.prog 166 [.d (treeA t x), I m] [] (I (left_ m (cnt x))) [] := by
  refine Tree.ind fun x ih hN m hm => ?_
  refine ACalls.intro (n := 27) Try.func166 rfl rfl (by simp) (by rfl) ?_
  simp only [argFr]
  have hk := kids_len hN
  have hx := cnt_eq x
  repeat (first | refine wk ?_)
  refine t_loop (X := Nat) (fun i => i ≤ x.kids.length) (fun i => [(5, I i), (1, I (left_ m (1 + cnts (x.kids.take i)))), (2, .ptr 2 0)]) (fun _ => [(2, .box 49 [.d (iD x.rule), .d (treesD t x.kids)])]) (fun i => x.kids.length - i) 0 (Nat.zero_le _) ?_ (hf := ?_)
  rotate_left
  · refine ⟨.of rfl, int_eq rfl ?_, .of rfl, trivial⟩
    simp only [left_, List.take_zero, cnts]
    split <;> omega
  intro i hi
  by_cases hlt : i < x.kids.length
  · have hm1 := cnts_mem (List.getElem_mem hlt)
    have hm3 := cnts_take hlt
    have hm4 := cnts_drop hlt
    have hm5 : cnts x.kids = cnts (x.kids.take i) + cnts (x.kids.drop i) := by rw [← cnts_append, List.take_append_drop]
    by_cases hv : 1 + cnts (x.kids.take i) ≤ m
    · have e0 : left_ m (1 + cnts (x.kids.take i)) = ((m - (1 + cnts (x.kids.take i)) : Nat) : Int) := by unfold left_; rw [if_pos (by omega)]; omega
      rw [e0]
      repeat (first | refine wk ?_)
      refine s_call [] (hA := ih x.kids[i] (List.getElem_mem hlt) (by omega) (m := m - (1 + cnts (x.kids.take i))) (by omega)) (hr := ?_)
      have e : left_ ((m - (1 + cnts (x.kids.take i)) : Nat) : Int) (cnt x.kids[i]) = left_ m (1 + cnts (x.kids.take (i + 1))) := by
        unfold left_; rw [hm3]; split <;> split <;> omega
      rw [e]
      repeat (first | refine wk ?_)
      exact t_next (i + 1)
    · have e0 : left_ m (1 + cnts (x.kids.take i)) = -1 := by unfold left_; rw [if_neg (by omega)]
      have e1 : left_ m (cnt x) = -1 := by unfold left_; rw [if_neg (by omega)]
      rw [e0, e1]
      repeat (first | refine wk ?_)
      exact fin
  · rw [show x.kids.take i = x.kids from List.take_of_length_le (by omega), ← hx]
    repeat (first | refine wk ?_)
    exact fin

/-! ### Fitting -/
theorem fits_no {g : Gram} {x : Tree} {v : Int} (h : ¬ (0 ≤ x.rule ∧ x.rule < g.rules.length)) : fits g x v = false := by
  rw [fits_eq]
  by_cases h0 : 0 ≤ x.rule
  · rw [if_pos h0, List.getElem?_eq_none (by omega)]
  · rw [if_neg h0]
theorem fits_yes {g : Gram} {x : Tree} {v : Int} {i : Nat} (hi : i < g.rules.length) (e : x.rule = (i : Int)) : fits g x v = (decide (g.rules[i].left = v) && (decide ((kids g.rules[i].right).length = x.kids.length) && fitss g x.kids (kids g.rules[i].right))) := by
  rw [fits_eq, if_pos (by omega), e, Int.toNat_natCast, List.getElem?_eq_getElem hi]
set_option maxHeartbeats 4000000 in
theorem fits_sim {t u : Bool} {g : Gram} (hl : g.rules.length ≤ 100000000) (hr : ∀ r ∈ g.rules, r.right.length ≤ 100000000) : ∀ (x : Tree), cnt x ≤ 100000000 → ∀ {v : Int}, ACalls Try.prog 167 [.d (gramD t g), .d (treeA u x), I v] [] (B (fits g x v)) [] := by
  refine Tree.ind fun x ih hN v => ?_
  refine ACalls.intro (n := 62) Try.func167 rfl rfl (by simp) (by rfl) ?_
  simp only [argFr]
  have hk := kids_len hN
  by_cases h0 : x.rule < 0
  · rw [fits_no (by omega)]
    repeat (first | refine wk ?_)
    exact fin
  by_cases h1 : (g.rules.length : Int) ≤ x.rule
  · rw [fits_no (by omega)]
    repeat (first | refine wk ?_)
    exact fin
  obtain ⟨i, hi⟩ : ∃ i : Nat, x.rule = i := ⟨x.rule.toNat, by omega⟩
  have hlt : i < g.rules.length := by omega
  rw [fits_yes hlt hi]
  have hrk := hr _ (List.getElem_mem hlt)
  have hkl := kids_le g.rules[i].right
  by_cases h2 : g.rules[i].left = v
  rotate_left
  · rw [decide_eq_false h2, Bool.false_and]
    repeat (first | refine wk ?_)
    exact fin
  rw [decide_eq_true h2, Bool.true_and]
  repeat (first | refine wk ?_)
  refine s_call [(3, 900)] (hA := kids_sim) (hr := ?_)
  by_cases h3 : ((kids g.rules[i].right).length : Int) = x.kids.length
  · rw [decide_eq_true (by omega), Bool.true_and]
    repeat (first | refine wk ?_)
    refine t_loop (X := Nat) (fun j => j ≤ x.kids.length ∧ fitss g x.kids (kids g.rules[i].right) = fitss g (x.kids.drop j) ((kids g.rules[i].right).drop j)) (fun j => [(48, I j), (47, I x.kids.length), (46, .d (treesD u x.kids)), (7, .own 900 (kids g.rules[i].right).length), (4, .ptr 4 0), (3, .ptr 3 0)]) (fun _ => [(3, gramBox t g), (4, .box 49 [.d (iD x.rule), .d (treesD u x.kids)]), (900, .row 3 1 ((kids g.rules[i].right).map iD))]) (fun j => x.kids.length - j) 0 ⟨Nat.zero_le _, rfl⟩ ?_
    rintro j ⟨hj, hq⟩
    by_cases hjl : j < x.kids.length
    · have hjl' : j < (kids g.rules[i].right).length := by omega
      have hs := fitss_drop (g := g) (k := x.kids) (vs := kids g.rules[i].right) hjl hjl'
      have hkc := kid_le hN hjl
      repeat (first | refine wk ?_)
      refine s_call [] (hA := ih x.kids[j] (List.getElem_mem hjl) hkc.1 (v := (kids g.rules[i].right)[j])) (hr := ?_)
      cases hf : fits g x.kids[j] (kids g.rules[i].right)[j] with
      | true =>
        rw [hf, Bool.true_and] at hs
        repeat (first | refine wk ?_)
        exact t_next (j + 1) (a := ⟨by omega, hq.trans hs⟩)
      | false =>
        rw [hf, Bool.false_and] at hs
        rw [hq, hs]
        repeat (first | refine wk ?_)
        exact fin
    · rw [hq, fitss_end hjl]
      repeat (first | refine wk ?_)
      exact fin
  · rw [decide_eq_false (by omega), Bool.false_and]
    repeat (first | refine wk ?_)
    exact fin

/-! ### Order -/
theorem orderOf_sim {t u : Bool} : ∀ (x : Tree), cnt x ≤ 100000000 → ∀ (y : Tree), cnt y ≤ 100000000 → ACalls Try.prog 135 [.d (treeA t x), .d (treeA u y)] [] (I (ordT x y)) [] := by
  refine Tree.ind fun x ih hx y hy => ?_
  refine ACalls.intro (n := 59) Try.func135 rfl rfl (by simp) (by rfl) ?_
  simp only [argFr]
  rw [ordT_eq]
  have hk := kids_len hx
  have hl := kids_len hy
  by_cases h1 : x.rule < y.rule
  · rw [if_pos h1]
    repeat (first | refine wk ?_)
    exact fin
  by_cases h2 : y.rule < x.rule
  · rw [if_neg h1, if_pos h2]
    repeat (first | refine wk ?_)
    exact fin
  rw [if_neg h1, if_neg h2]
  repeat (first | refine wk ?_)
  refine t_loop (X := Nat) (fun i => i ≤ x.kids.length ∧ i ≤ y.kids.length ∧ ordL x.kids y.kids = ordL (x.kids.drop i) (y.kids.drop i)) (fun i => [(5, I i), (3, .ptr 3 0), (2, .ptr 2 0)]) (fun _ => [(2, .box 49 [.d (iD x.rule), .d (treesD t x.kids)]), (3, .box 49 [.d (iD y.rule), .d (treesD u y.kids)])]) (fun i => x.kids.length - i) 0 ⟨Nat.zero_le _, Nat.zero_le _, rfl⟩ ?_
  rintro i ⟨h1, h2, h3⟩
  by_cases hlt : i < x.kids.length
  · by_cases hlt' : i < y.kids.length
    · have hs := ordL_step hlt hlt'
      repeat (first | refine wk ?_)
      refine s_call [] (hA := ih x.kids[i] (List.getElem_mem hlt) (kid_le hx hlt).1 y.kids[i] (kid_le hy hlt').1) (hr := ?_)
      by_cases h0 : ordT x.kids[i] y.kids[i] = 0
      · rw [if_pos h0] at hs
        repeat (first | refine wk ?_)
        exact t_next (i + 1) (a := ⟨by omega, by omega, h3.trans hs⟩)
      · rw [if_neg h0] at hs
        rw [h3, hs]
        repeat (first | refine wk ?_)
        exact fin
    · rw [h3, ordL_gt hlt hlt']
      repeat (first | refine wk ?_)
      exact fin
  · by_cases hlt' : i < y.kids.length
    · rw [h3, ordL_lt hlt hlt']
      repeat (first | refine wk ?_)
      exact fin
    · rw [h3, ordL_end hlt hlt']
      repeat (first | refine wk ?_)
      exact fin
theorem sameTree_sim {t u : Bool} {x y : Tree} (hx : cnt x ≤ 100000000 := by ((try simp only [List.length_map, List.length_append, List.length_cons, List.length_nil, List.length_replicate, List.length_set, List.length_take, List.length_drop]); first | omega | assumption)) (hy : cnt y ≤ 100000000 := by ((try simp only [List.length_map, List.length_append, List.length_cons, List.length_nil, List.length_replicate, List.length_set, List.length_take, List.length_drop]); first | omega | assumption)) : ACalls Try.prog 107 [.d (treeA t x), .d (treeA u y)] [] (B (decide (ordT x y = 0))) [] := by
  refine ACalls.intro (n := 9) Try.func107 rfl rfl (by simp) (by rfl) ?_
  simp only [argFr]
  repeat (first | refine wk ?_)
  refine s_call [] (hA := orderOf_sim x hx y hy) (hr := ?_)
  repeat (first | refine wk ?_)
  exact fin
end Go.Proofs.Yticnpbopelgmiaa
namespace Go.Proofs.Yticnpbopelgmiaa
open Go.RowKit
set_option maxRecDepth 100000

/-! ### Counted -/
/-! ### The same -/
theorem sameTrees_sim {t u : Bool} {l : List Tree} (hN : cnts l ≤ 100000000) : ACalls Try.prog 49 [.d (treesD t l), .d (treesD u l)] [] (B true) [] := by
  have hl := Nat.le_trans (cnts_len l) hN
  refine ACalls.intro (n := 27) Try.func49 rfl rfl (by simp) (by rfl) ?_
  simp only [argFr]
  repeat (first | refine wk ?_)
  refine t_loop (X := Nat) (fun x => x ≤ l.length) (fun x => [(5, I x), (0, .d (treesD t l)), (1, .d (treesD u l))]) (fun _ => []) (fun x => l.length - x) 0 (Nat.zero_le _) ?_
  intro i h1
  by_cases hlt : i < l.length
  · have e3 := cnts_mem (List.getElem_mem hlt)
    have s1 := sameTree_sim (t := t) (u := u) (x := l[i]) (y := l[i]) (by omega) (by omega)
    rw [ordT_refl, decide_eq_true rfl] at s1
    repeat (first | refine wk ?_)
    refine s_call [] (hA := s1) (hr := ?_)
    repeat (first | refine wk ?_)
    exact t_next (i + 1)
  · repeat (first | refine wk ?_)
    exact fin

/-! ### The template of a rule that stays -/
theorem holes_snoc (k : Nat) : holes (k + 1) = holes k ++ [.mk 2 k []] := by simp [holes, List.range_succ]
theorem holes_dsnoc (t : Bool) (k : Nat) : (holes (k + 1)).map (fragD t) = (holes k).map (fragD t) ++ [.agg [iD 2, iD k, .sl t 3 []]] := by rw [holes_snoc]; simp [fragD, fragDs]
theorem nodeF_map (t : Bool) (r : Int) (k : Nat) : (nodeF r k).map (fragD t) = [.agg [iD 1, iD r, fragsD t (holes k)]] := by simp [nodeF, fragD, fragDs_map]
end Go.Proofs.Yticnpbopelgmiaa
namespace Go.Proofs.Yticnpbopelgmiaa
open Go.RowKit
set_option maxRecDepth 100000

theorem bump_row {u : List Int} {n : Int} (hn : n.toNat < u.length) : (u.map iD).set n.toNat (iD (u[n.toNat] + 1)) = (bump u n).map iD := by
  rw [bump, List.map_set, List.getD_eq_getElem?_getD, List.getElem?_eq_getElem hn]; rfl
end Go.Proofs.Yticnpbopelgmiaa
namespace Go.Proofs.Yticnpbopelgmiaa
open Go.RowKit
set_option maxRecDepth 100000

theorem treeCheck_sim {t u : Bool} {g : Gram} {x : Tree} {v : Int} (hl : g.rules.length ≤ 100000000) (hr : ∀ r ∈ g.rules, r.right.length ≤ 100000000) (hx : cnt x ≤ 100000000) :
    ACalls Try.prog 132 [.d (gramD t g), .d (treeA u x), I v] [] (.d (faultD (treeFault g x v))) [] := by
  refine ACalls.intro (n := 25) Try.func132 rfl rfl (by simp) (by rfl) ?_
  simp only [argFr]
  repeat (first | refine wk ?_)
  refine s_call [] (hA := gramCheck_sim) (hr := ?_)
  by_cases h0 : (gramFault g).code = 0
  · rw [show treeFault g x v = if cnt x ≤ 400 then (if fits g x v = true then ⟨0, 0⟩ else ⟨13, -1⟩) else ⟨6, -1⟩ by rw [treeFault, if_pos h0]]
    repeat (first | refine wk ?_)
    refine s_call [] (hA := size_sim x hx (m := 400) (by omega)) (hr := ?_)
    by_cases h4 : cnt x ≤ 400
    · rw [if_pos h4, show left_ ((400 : Nat) : Int) (cnt x) = ((400 - cnt x : Nat) : Int) by unfold left_; rw [if_pos (by omega)]; omega]
      repeat (first | refine wk ?_)
      refine s_call [] (hA := fits_sim hl hr x hx (v := v)) (hr := ?_)
      cases hf : fits g x v with
      | true =>
        rw [if_pos rfl]
        repeat (first | refine wk ?_)
        exact fin
      | false =>
        rw [if_neg (by simp)]
        repeat (first | refine wk ?_)
        exact fin
    · rw [if_neg h4, show left_ ((400 : Nat) : Int) (cnt x) = -1 by unfold left_; rw [if_neg (by omega)]]
      repeat (first | refine wk ?_)
      exact fin
  · rw [show treeFault g x v = gramFault g by rw [treeFault, if_neg h0]]
    repeat (first | refine wk ?_)
    exact fin
theorem treeOwn_sim {t : Bool} : ∀ (x : Tree), cnt x ≤ 100000000 → ACalls Try.prog 134 [.d (treeA t x)] [] (.d (treeA false x)) [] := by
  refine Tree.ind fun x ih hx => ?_
  refine ACalls.intro (n := 25) Try.func134 rfl rfl (by simp) (by rfl) ?_
  simp only [argFr]
  have hk := kids_len hx
  repeat (first | refine wk ?_)
  refine aw_nilCell 3 1 900 49 2 rfl rfl rfl rfl ?_
  refine t_loop (X := Nat) (fun i => i ≤ x.kids.length) (fun i => [(12, I i), (11, I x.kids.length), (10, .d (treesD t x.kids)), (3, .ptr 3 0), (2, .ptr 2 0), (1, .ptr 1 0)]) (fun i => [(1, .box 49 [.d (iD x.rule), .d (treesD t x.kids)]), (2, .box 49 [.d (iD 0), .d (.raw (.slice none 0 0))]), (3, .box 49 [.d (iD x.rule), .own 900 (x.kids.take i).length]), (900, .row 49 2 ((x.kids.take i).map (treeD false)))]) (fun i => x.kids.length - i) 0 (Nat.zero_le _) ?_
  intro i hi
  by_cases hlt : i < x.kids.length
  · have e : (x.kids.take (i + 1)).map (treeD false) = (x.kids.take i).map (treeD false) ++ [treeA false x.kids[i]] := by
      rw [List.take_succ_eq_append_getElem hlt, List.map_append]; simp [treeA_eq]
    repeat (first | refine wk ?_)
    refine s_call [] (hA := ih x.kids[i] (List.getElem_mem hlt) (kid_le hx hlt).1) (hr := ?_)
    repeat (first | refine wk ?_)
    exact t_next (i + 1)
  · rw [show x.kids.take i = x.kids from List.take_of_length_le (by omega)]
    refine aw_froz 900 rfl ?_
    repeat (first | refine wk ?_)
    exact fin

/-! ### Words -/
theorem word_sim {t u : Bool} {g : Gram} (hg : g.ok) : ∀ (x : Tree) (v : Int), fits g x v = true → cnt x ≤ 400 → ∀ out : List Int, out.length + 10 * cnt x ≤ 1000000 →
    ACalls Try.prog 174 [.d (gramD t g), .d (treeA u x), .own 1000 out.length] [(1000, .row 3 1 (out.map iD))] (.own 1000 (out ++ wordT g x).length) [(1000, .row 3 1 ((out ++ wordT g x).map iD))] := by
  refine Tree.ind fun x ih v hf hx out ho => ?_
  refine ACalls.intro (n := 41) Try.func174 rfl rfl (by simp) (by rfl) ?_
  simp only [argFr]
  obtain ⟨i, hi, e1, e2, e3, e4, e5⟩ := fits_parts hf
  have hk := kids_len hx
  have hlen := hg.rules
  have hrt := hg.right _ (List.getElem_mem hi)
  have hwl := wordT_le 10 hg.right x
  repeat (first | refine wk ?_)
  refine t_loop (X := Nat × Nat × List Int) (fun y => y.1 ≤ g.rules[i].right.length ∧ y.2.1 = (kids (g.rules[i].right.take y.1)).length ∧ wordT g x = y.2.2 ++ wordL g (g.rules[i].right.drop y.1) (x.kids.drop y.2.1) ∧ y.2.2.length ≤ y.1 + 10 * cnts (x.kids.take y.2.1))
    (fun y => [(18, I y.1), (17, I g.rules[i].right.length), (16, .d (ints t g.rules[i].right)), (7, I y.2.1), (4, .ptr 4 0), (3, .ptr 3 0), (2, .own 1000 (out ++ y.2.2).length)])
    (fun y => [(3, gramBox t g), (4, .box 49 [.d (iD x.rule), .d (treesD u x.kids)]), (1000, .row 3 1 ((out ++ y.2.2).map iD))]) (fun y => g.rules[i].right.length - y.1) (0, 0, []) ⟨Nat.zero_le _, by simp [kids], by simpa using e5, by simp⟩ ?_
  rintro ⟨j, q, pre⟩ ⟨h1, h2, h3, h4⟩
  dsimp only at h1 h2 h3 h4 ⊢
  have hpl : (wordT g x).length = pre.length + (wordL g (g.rules[i].right.drop j) (x.kids.drop q)).length := by rw [h3, List.length_append]
  have hol : (out ++ pre).length = out.length + pre.length := List.length_append
  by_cases hlt : j < g.rules[i].right.length
  · have hlo := hg.lo _ (List.getElem_mem hi) _ (List.getElem_mem hlt)
    have hte := hg.terms
    by_cases hs : g.rules[i].right[j] < 0
    · rw [wordL_t hlt hs, List.length_cons] at hpl
      rw [wordL_t hlt hs] at h3
      have e := kids_snoc g.rules[i].right j hlt
      rw [kids_neg hs, List.append_nil] at e
      repeat (first | refine wk ?_)
      exact t_next (j + 1, q, pre ++ [-1 - g.rules[i].right[j]]) (a := ⟨by omega, by dsimp only; rw [e]; exact h2, by simpa using h3, by simp; omega⟩) (b := by dsimp only; omega)
    · have hq : q < x.kids.length := by have := kids_take_le hlt hs; omega
      have hq2 : q < (kids g.rules[i].right).length := by omega
      have e := kids_snoc g.rules[i].right j hlt
      rw [kids_pos (by omega)] at e
      have hfk := fitss_at e4 hq hq2
      have hkl := kid_le hx hq
      rw [wordL_v hlt hs hq, List.length_append] at hpl
      rw [wordL_v hlt hs hq] at h3
      have hc1 := cnt_eq x
      have hc2 := cnts_take hq
      have hc3 := cnts_drop hq
      have hc4 : cnts x.kids = cnts (x.kids.take q) + cnts (x.kids.drop q) := by rw [← cnts_append, List.take_append_drop]
      have hc5 := wordT_le 10 hg.right x.kids[q]
      have hol2 : (out ++ pre).length + 10 * cnt x.kids[q] ≤ 1000000 := by omega
      repeat (first | refine wk ?_)
      refine s_call [] (hA := ih x.kids[q] (List.getElem_mem hq) _ hfk hkl.1 (out ++ pre) hol2) (hr := ?_)
      repeat (first | refine wk ?_)
      exact t_next (j + 1, q + 1, pre ++ wordT g x.kids[q]) (a := ⟨by omega, by dsimp only; rw [e, List.length_append]; simp; omega, by simpa using h3, by simp only [List.length_append]; omega⟩) (b := by dsimp only; omega)
  · rw [wordL_end hlt, List.append_nil] at h3
    repeat (first | refine wk ?_)
    rw [h3]
    exact fin
theorem word0_sim {t u : Bool} {g : Gram} {x : Tree} {v : Int} (hg : g.ok) (hf : fits g x v = true) (hx : cnt x ≤ 400) :
    ACalls Try.prog 174 [.d (gramD t g), .d (treeA u x), .d (.raw (.slice none 0 0))] [] (.own 900 (wordT g x).length) [(900, .row 3 1 ((wordT g x).map iD))] :=
  ACalls.nilArg (pre := [gramD t g, treeA u x]) (post := []) (word_sim hg x v hf hx [] (by simp; omega))
end Go.Proofs.Yticnpbopelgmiaa
namespace Go.Proofs.Yticnpbopelgmiaa
open Go.RowKit
set_option maxRecDepth 100000

theorem node_sim {r : Int} {k : Nat} (hk : k ≤ 100000000 := by ((try simp only [List.length_map, List.length_append, List.length_cons, List.length_nil, List.length_replicate, List.length_set, List.length_take, List.length_drop]); first | omega | assumption)) : ACalls Try.prog 58 [I r, I k] [] (.own 20 1) [(20, .row 67 3 ((nodeF r k).map (fragD false)))] := by
  refine ACalls.intro (n := 21) Try.func58 rfl rfl (by simp) (by rfl) ?_
  simp only [argFr]
  repeat (first | refine wk ?_)
  refine aw_nil 5 900 67 3 rfl rfl rfl ?_
  refine t_loop (X := Nat) (fun x => x ≤ k) (fun x => [(8, I x), (7, I k), (0, I r), (5, .own 900 (holes x).length)]) (fun x => [(900, .row 67 3 ((holes x).map (fragD false)))]) (fun x => k - x) 0 (Nat.zero_le _) ?_
  intro i h1
  have hh : (holes i).length = i := by simp [holes]
  by_cases hlt : i < k
  · have e := holes_dsnoc false i
    have e' : (holes (i + 1)).length = (holes i).length + 1 := by rw [holes_snoc]; simp
    repeat (first | refine wk ?_)
    exact t_next (i + 1)
  · obtain rfl : i = k := by omega
    rw [nodeF_map]
    repeat (first | refine wk ?_)
    exact fin
abbrev stepBox (t : Bool) (s : Step) : Ob := .box 31 [.d (iD s.g.vars), .d (iD s.g.terms), .d (iD s.g.start), .d (rulesD t s.g.rules), .d (.sl t 1 (s.frags.map (fragsD t))), .d (treesD t s.empty)]
end Go.Proofs.Yticnpbopelgmiaa
namespace Go.Proofs.Yticnpbopelgmiaa
open Go.RowKit
set_option maxRecDepth 100000

end Go.Proofs.Yticnpbopelgmiaa
namespace Go.Proofs.Yticnpbopelgmiaa
open Go.RowKit
set_option maxRecDepth 100000
-- SimX

def workD (t : Bool) (w : Work) : D := .agg [ints t w.right, fragsD t w.l]
abbrev worksD (t : Bool) (l : List Work) : D := .sl t 2 (l.map (workD t))
abbrev workBox (t : Bool) (w : Work) : Ob := .box 135 [.d (ints t w.right), .d (fragsD t w.l)]
theorem fkids_sim {t : Bool} {xs : List Int} (hl : xs.length ≤ 100000000 := by ((try simp only [List.length_map, List.length_append, List.length_cons, List.length_nil, List.length_replicate, List.length_set, List.length_take, List.length_drop]); first | omega | assumption)) :
    ACalls Try.prog 92 [.d (ints t xs)] [] (I (kids xs).length) [] := by
  refine ACalls.intro (n := 7) Try.func92 rfl rfl (by simp) (by rfl) ?_
  simp only [argFr]
  repeat (first | refine wk ?_ | refine s_field (hr := ?_))
  refine s_call [] (hA := kids_sim) (hr := ?_)
  repeat (first | refine wk ?_ | refine s_field (hr := ?_))
  exact fin
theorem alikeH_iff {a b : List Int} (ha : 0 < a.length) : alikeH a b = true ↔ ∃ h : 0 < b.length, a[0] = b[0] := by
  cases a with
  | nil => simp at ha
  | cons x a => cases b <;> simp [alikeH]
theorem mates_empty : ∀ (l : List Work) (k : Nat), mates [] l k = []
  | [], _ => rfl
  | y :: l, k => by rw [mates, if_neg (by simp [alikeH]), mates_empty l (k + 1)]
set_option maxHeartbeats 4000000 in
theorem group_sim {t : Bool} {l : List Work} (hl : l.length ≤ 100000) (hr : ∀ w ∈ l, w.right.length ≤ 100000) :
    ACalls Try.prog 141 [.d (worksD t l)] [] (.d (ints false (groupW l 0))) [] := by
  refine ACalls.intro (n := 58) Try.func141 rfl rfl (by simp) (by rfl) ?_
  simp only [argFr]
  repeat (first | refine wk ?_ | refine s_field (hr := ?_))
  refine t_loop (X := Nat) (fun i => i ≤ l.length ∧ groupW l 0 = groupW (l.drop i) i) (fun i => [(9, I i), (8, I l.length), (7, .d (worksD t l)), (0, .d (worksD t l))]) (fun _ => []) (fun i => l.length - i) 0 ⟨Nat.zero_le _, rfl⟩ ?_
  rintro i ⟨hi, hp⟩
  by_cases hlt : i < l.length
  · have hs := groupW_step hlt
    have hri := hr _ (List.getElem_mem hlt)
    by_cases h0 : l[i].right.length = 0
    · have e : l[i].right = [] := List.eq_nil_of_length_eq_zero h0
      rw [e, mates_empty, if_pos rfl] at hs
      repeat (first | refine wk ?_ | refine s_field (hr := ?_))
      exact t_next (i + 1) (a := ⟨by omega, hp.trans hs⟩)
    · repeat (first | refine wk ?_ | refine s_field (hr := ?_))
      obtain ⟨gl, hgl⟩ : ∃ gl : Nat → List Int, ∀ k, gl k = (i : Int) :: mates l[i].right ((l.drop (i + 1)).take (k - (i + 1))) (i + 1) := ⟨_, fun _ => rfl⟩
      have e : gl (i + 1) = [(i : Int)] := by rw [hgl]; simp [mates]
      refine t_loop (X := Nat) (fun k => i + 1 ≤ k ∧ k ≤ l.length) (fun k => [(6, I k), (5, .own 19 (gl k).length), (4, .ptr 4 0), (3, I i), (9, I i), (8, I l.length), (7, .d (worksD t l)), (0, .d (worksD t l))])
        (fun k => [(19, .row 3 1 ((gl k).map iD)), (4, workBox t l[i])]) (fun k => l.length - k) (i + 1) (by omega) ?_
      clear e
      rintro k ⟨hk1, hk2⟩
      have hml : (gl k).length ≤ l.length := by
        rw [hgl, List.length_cons]
        have := mates_le l[i].right ((l.drop (i + 1)).take (k - (i + 1))) (i + 1)
        simp only [List.length_take, List.length_drop] at this
        omega
      by_cases hlk : k < l.length
      · have hsn : gl (k + 1) = gl k ++ (if alikeH l[i].right l[k].right = true then [(k : Int)] else []) := by rw [hgl, hgl, mates_snoc hlk hk1]; rfl
        have hrk := hr _ (List.getElem_mem hlk)
        have hal := alikeH_iff (a := l[i].right) (b := l[k].right) (by omega)
        by_cases h1 : 0 < l[k].right.length
        · by_cases h2 : l[k].right[0] = l[i].right[0]
          · rw [if_pos (hal.2 ⟨h1, h2.symm⟩)] at hsn
            have h2b : decide (l[k].right[0] = l[i].right[0]) = true := decide_eq_true h2
            have e := hsn
            repeat (first | refine wk ?_ | refine s_field (hr := ?_))
            exact t_next (k + 1)
          · rw [if_neg (fun h => h2 (hal.1 h).2.symm), List.append_nil] at hsn
            have h2b : decide (l[k].right[0] = l[i].right[0]) = false := decide_eq_false h2
            have e := hsn
            repeat (first | refine wk ?_ | refine s_field (hr := ?_))
            exact t_next (k + 1)
        · rw [if_neg (fun h => h1 (hal.1 h).1), List.append_nil] at hsn
          have e := hsn
          repeat (first | refine wk ?_ | refine s_field (hr := ?_))
          exact t_next (k + 1)
      · obtain rfl : k = l.length := by omega
        have he : gl l.length = (i : Int) :: mates l[i].right (l.drop (i + 1)) (i + 1) := by rw [hgl, List.take_of_length_le (by simp)]
        by_cases hm : mates l[i].right (l.drop (i + 1)) (i + 1) = []
        · rw [if_pos hm] at hs
          have hlen : (gl l.length).length = 1 := by rw [he, hm]; rfl
          repeat (first | refine wk ?_ | refine s_field (hr := ?_))
          exact t_next (i + 1) (a := ⟨by omega, hp.trans hs⟩)
        · rw [if_neg hm, ← he] at hs
          have hlen : 1 < (gl l.length).length := by
            rw [he, List.length_cons]
            cases hc : mates l[i].right (l.drop (i + 1)) (i + 1) with
            | nil => exact absurd hc hm
            | cons _ _ => simp
          rw [hp, hs]
          refine aw_froz 19 rfl ?_
          repeat (first | refine wk ?_ | refine s_field (hr := ?_))
          exact fin
  · rw [hp, groupW_end hlt]
    repeat (first | refine wk ?_ | refine s_field (hr := ?_))
    exact fin
end Go.Proofs.Yticnpbopelgmiaa
