/-
  Sim: SameGram, Clone, OwnGram, bare, ownInts. Trees, plain: counted, fitting, their words, their order.
-/
import Derived.Test.YticnpbopelgmiaaG1
import Derived.Test.YticnpbopelgmiaaS5
set_option linter.unusedVariables false
set_option linter.unusedSimpArgs false
set_option linter.unusedSectionVars false
namespace Go.Proofs.Yticnpbopelgmiaa
open Go.RowKit
set_option maxRecDepth 100000

abbrev nilT : D := .raw (.slice none 0 0)
theorem rule_eq {r q : Rule} (h1 : r.left = q.left) (h2 : r.right = q.right) : r = q := by cases r; cases q; simp_all
theorem gram_eq {a b : Gram} (h1 : a.vars = b.vars) (h2 : a.terms = b.terms) (h3 : a.start = b.start) (h4 : a.rules = b.rules) : a = b := by cases a; cases b; simp_all
set_option maxHeartbeats 4000000 in
theorem sameGram_sim {t u : Bool} {a b : Gram} (ha : a.fit) (hb : b.fit) : ACalls Try.prog 19 [.d (gramD t a), .d (gramD u b)] [] (B (decide (a = b))) [] := by
  refine ACalls.intro (n := 70) Try.func19 rfl rfl (by simp) (by rfl) ?_
  simp only [argFr]
  have hla := ha.rules
  have hlb := hb.rules
  by_cases h1 : a.vars = b.vars
  rotate_left
  · rw [decide_eq_false (fun e => h1 (by rw [e]))]
    repeat (first | refine wk ?_ | refine s_field (hr := ?_))
    exact fin
  by_cases h2 : a.terms = b.terms
  rotate_left
  · rw [decide_eq_false (fun e => h2 (by rw [e]))]
    repeat (first | refine wk ?_ | refine s_field (hr := ?_))
    exact fin
  by_cases h3 : a.start = b.start
  rotate_left
  · rw [decide_eq_false (fun e => h3 (by rw [e]))]
    repeat (first | refine wk ?_ | refine s_field (hr := ?_))
    exact fin
  by_cases h4 : (a.rules.length : Int) = b.rules.length
  rotate_left
  · rw [decide_eq_false (fun e => h4 (by rw [e]))]
    repeat (first | refine wk ?_ | refine s_field (hr := ?_))
    exact fin
  repeat (first | refine wk ?_ | refine s_field (hr := ?_))
  refine t_loop (X := Nat) (fun k => k ≤ a.rules.length ∧ ∀ j, j < k → ∀ (hx : j < a.rules.length) (hy : j < b.rules.length), a.rules[j] = b.rules[j]) (fun k => [(5, I k), (3, .ptr 3 0), (2, .ptr 2 0)]) (fun _ => [(2, gramBox t a), (3, gramBox u b)]) (fun k => a.rules.length - k) 0
    ⟨Nat.zero_le _, by omega⟩ ?_
  rintro k ⟨hk, hp⟩
  by_cases hlt : k < a.rules.length
  · have hlt' : k < b.rules.length := by omega
    have hra := ha.right _ (List.getElem_mem hlt)
    have hrb := hb.right _ (List.getElem_mem hlt')
    by_cases h5 : a.rules[k].left = b.rules[k].left
    · repeat (first | refine wk ?_ | refine s_field (hr := ?_))
      refine s_call [] (hA := sameInts_sim) (hr := ?_)
      by_cases h6 : a.rules[k].right = b.rules[k].right
      · rw [decide_eq_true h6]
        repeat (first | refine wk ?_ | refine s_field (hr := ?_))
        exact t_next (k + 1) (a := ⟨by omega, upto_succ hp (fun _ _ => rule_eq h5 h6)⟩)
      · have e : decide (a = b) = false := decide_eq_false (fun e => h6 (by subst e; rfl))
        rw [decide_eq_false h6, e]
        repeat (first | refine wk ?_ | refine s_field (hr := ?_))
        exact fin
    · have e : decide (a = b) = false := decide_eq_false (fun e => h5 (by subst e; rfl))
      rw [e]
      repeat (first | refine wk ?_ | refine s_field (hr := ?_))
      exact fin
  · rw [decide_eq_true (gram_eq h1 h2 h3 (List.ext_getElem (by omega) (fun j g1 g2 => hp j (by omega) g1 g2)))]
    repeat (first | refine wk ?_ | refine s_field (hr := ?_))
    exact fin
theorem clone_sim {t : Bool} {xs : List Int} (hl : xs.length ≤ 100000000 := by ((try simp only [List.length_map, List.length_append, List.length_cons, List.length_nil, List.length_replicate, List.length_set, List.length_take, List.length_drop]); first | omega | assumption)) :
    ACalls Try.prog 57 [.d (ints t xs)] [] (.own 5 xs.length) [(5, .row 3 1 (xs.map iD))] := by
  refine ACalls.intro (n := 8) Try.func57 rfl rfl (by simp) (by rfl) ?_
  simp only [argFr]
  refine aw_seq ?_
  refine t_reg ?_
  refine s_assign (hr := ?_)
  refine dops_end ?_
  refine andThen_n ?_
  refine aw_seq ?_
  refine aw_seq ?_
  refine t_eqNil ?_ ?_ undInts
  · intro hx
    have hx' : xs = [] := by simpa using hx
    subst hx'
    repeat (first | refine wkr ?_ | refine s_field (hr := ?_))
    refine aw_nil 2 5 3 1 rfl rfl rfl ?_
    repeat (first | refine wk ?_ | refine s_field (hr := ?_))
    exact fin
  · repeat (first | refine wk ?_ | refine s_field (hr := ?_))
    exact finx
theorem ownInts_sim {t : Bool} {xs : List Int} (hl : xs.length ≤ 100000000 := by ((try simp only [List.length_map, List.length_append, List.length_cons, List.length_nil, List.length_replicate, List.length_set, List.length_take, List.length_drop]); first | omega | assumption)) :
    ACalls Try.prog 65 [.d (ints t xs)] [] (.own 6 xs.length) [(6, .row 3 1 (xs.map iD))] := by
  refine ACalls.intro (n := 7) Try.func65 rfl rfl (by simp) (by rfl) ?_
  simp only [argFr]
  repeat (first | refine wk ?_ | refine s_field (hr := ?_))
  exact finx
theorem bare_sim {t : Bool} {g : Gram} : ACalls Try.prog 45 [.d (gramD t g)] [] (.d (.agg [iD g.vars, iD g.terms, iD g.start, nilT])) [] := by
  refine ACalls.intro (n := 10) Try.func45 rfl rfl (by simp) (by rfl) ?_
  simp only [argFr]
  repeat (first | refine wk ?_ | refine s_field (hr := ?_))
  exact fin
theorem ownGram_sim {t : Bool} {g : Gram} (hg : g.fit) : ACalls Try.prog 15 [.d (gramD t g)] [] (.agg [.d (iD g.vars), .d (iD g.terms), .d (iD g.start), .own 900 g.rules.length]) [(900, .row 41 2 (g.rules.map (ruleD false)))] := by
  refine ACalls.intro (n := 41) Try.func15 rfl rfl (by simp) (by rfl) ?_
  simp only [argFr]
  have hl := hg.rules
  repeat (first | refine wk ?_ | refine s_field (hr := ?_))
  refine aw_nilCell 3 3 900 41 2 rfl rfl rfl rfl ?_
  refine t_loop (X := Nat) (fun k => k ≤ g.rules.length) (fun k => [(4, I k), (3, .ptr 3 0), (2, .ptr 2 0), (1, .ptr 1 0)]) (fun k => [(1, gramBox t g), (2, .box 24 [.d (iD 0), .d (iD 0), .d (iD 0), .d nilT]), (3, .box 24 [.d (iD g.vars), .d (iD g.terms), .d (iD g.start), .own 900 (g.rules.take k).length]), (900, .row 41 2 ((g.rules.take k).map (ruleD false)))]) (fun k => g.rules.length - k) 0 (Nat.zero_le _) ?_
  intro k hk
  by_cases hlt : k < g.rules.length
  · have hrk := hg.right _ (List.getElem_mem hlt)
    have e : (g.rules.take (k + 1)).map (ruleD false) = (g.rules.take k).map (ruleD false) ++ [ruleD false g.rules[k]] := by
      rw [List.take_succ_eq_append_getElem hlt, List.map_append]; rfl
    repeat (first | refine wk ?_ | refine s_field (hr := ?_))
    exact t_next (k + 1)
  · rw [show g.rules.take k = g.rules from List.take_of_length_le (by omega)]
    repeat (first | refine wk ?_ | refine s_field (hr := ?_))
    exact fin
end Go.Proofs.Yticnpbopelgmiaa
namespace Go.Proofs.Yticnpbopelgmiaa
open Go.RowKit

theorem Tree.lt {x y : Tree} (h : y ∈ x.kids) : SizeOf.sizeOf y < SizeOf.sizeOf x := by
  cases x with
  | mk r k =>
    simp only [Tree.kids] at h
    have := List.sizeOf_lt_of_mem h
    simp; omega
theorem Tree.ind {P : Tree → Prop} (h : ∀ x, (∀ y ∈ x.kids, P y) → P x) : ∀ x, P x := by
  have key : ∀ (n : Nat) (x : Tree), SizeOf.sizeOf x < n → P x := by
    intro n
    induction n with
    | zero => intro x hx; omega
    | succ n ih => exact fun x hx => h x (fun y hy => ih y (by have := Tree.lt hy; omega))
  exact fun x => key _ x (Nat.lt_succ_self _)

/-! ### Counted -/
mutual
def cnt : Tree → Nat
  | .mk _ k => 1 + cnts k
def cnts : List Tree → Nat
  | [] => 0
  | x :: r => cnt x + cnts r
end
theorem cnt_eq (x : Tree) : cnt x = 1 + cnts x.kids := by cases x; rfl
theorem cnt_pos (x : Tree) : 1 ≤ cnt x := by rw [cnt_eq]; omega
theorem cnts_append : ∀ (a b : List Tree), cnts (a ++ b) = cnts a + cnts b
  | [], b => by simp [cnts]
  | x :: a, b => by simp only [List.cons_append, cnts, cnts_append a b]; omega
theorem cnts_mem {x : Tree} : ∀ {l : List Tree}, x ∈ l → cnt x ≤ cnts l
  | y :: l, h => by
    simp only [cnts]
    rcases List.mem_cons.1 h with rfl | h
    · omega
    · have := cnts_mem h; omega
theorem cnts_len : ∀ (l : List Tree), l.length ≤ cnts l
  | [] => by simp
  | x :: l => by have := cnts_len l; have := cnt_pos x; simp only [List.length_cons, cnts]; omega
theorem cnts_drop {l : List Tree} {i : Nat} (h : i < l.length) : cnts (l.drop i) = cnt l[i] + cnts (l.drop (i + 1)) := by
  rw [List.drop_eq_getElem_cons h, cnts]
theorem cnts_take {l : List Tree} {i : Nat} (h : i < l.length) : cnts (l.take (i + 1)) = cnts (l.take i) + cnt l[i] := by
  rw [List.take_succ_eq_append_getElem h, cnts_append]; simp [cnts]
/-- As far as so many. -/
def capN (m n : Nat) : Nat := if n ≤ m then n else m + 1
/-! ### Fitting -/
mutual
def fits (g : Gram) : Tree → Int → Bool
  | .mk r k, v => match (if 0 ≤ r then g.rules[r.toNat]? else none) with
    | none => false
    | some ru => decide (ru.left = v) && (decide ((kids ru.right).length = k.length) && fitss g k (kids ru.right))
def fitss (g : Gram) : List Tree → List Int → Bool
  | x :: k, v :: vs => fits g x v && fitss g k vs
  | _, _ => true
end
theorem fits_eq (g : Gram) (x : Tree) (v : Int) : fits g x v = match (if 0 ≤ x.rule then g.rules[x.rule.toNat]? else none) with
    | none => false
    | some ru => decide (ru.left = v) && (decide ((kids ru.right).length = x.kids.length) && fitss g x.kids (kids ru.right)) := by cases x; rw [fits]; rfl
theorem fitss_drop {g : Gram} {k : List Tree} {vs : List Int} {i : Nat} (h1 : i < k.length) (h2 : i < vs.length) : fitss g (k.drop i) (vs.drop i) = (fits g k[i] vs[i] && fitss g (k.drop (i + 1)) (vs.drop (i + 1))) := by
  rw [List.drop_eq_getElem_cons h1, List.drop_eq_getElem_cons h2, fitss]
theorem fitss_end {g : Gram} {k : List Tree} {vs : List Int} {i : Nat} (h1 : ¬ i < k.length) : fitss g (k.drop i) (vs.drop i) = true := by
  rw [List.drop_of_length_le (by omega)]; simp [fitss]

/-! ### Words -/
mutual
def wordT (g : Gram) : Tree → List Int
  | .mk r k => wordL g ((g.rules[r.toNat]?).getD ⟨0, []⟩).right k
  termination_by x => (cnt x, 0)
  decreasing_by simp [cnt, Prod.lex_def]
def wordL (g : Gram) : List Int → List Tree → List Int
  | [], _ => []
  | s :: ss, k => if s < 0 then (-1 - s) :: wordL g ss k else match k with
    | x :: k => wordT g x ++ wordL g ss k
    | [] => wordL g ss []
  termination_by ss k => (cnts k, ss.length + 1)
  decreasing_by all_goals (simp [cnts, Prod.lex_def]; try omega)
end

/-! ### Order -/
mutual
def ordT : Tree → Tree → Int
  | .mk r k, .mk s l => if r < s then -1 else if s < r then 1 else ordL k l
def ordL : List Tree → List Tree → Int
  | [], [] => 0
  | [], _ :: _ => -1
  | _ :: _, [] => 1
  | a :: k, b :: l => if ordT a b = 0 then ordL k l else ordT a b
end
theorem ordT_eq (a b : Tree) : ordT a b = if a.rule < b.rule then -1 else if b.rule < a.rule then 1 else ordL a.kids b.kids := by cases a; cases b; rw [ordT]; rfl
theorem ordL_step {k l : List Tree} {i : Nat} (h1 : i < k.length) (h2 : i < l.length) : ordL (k.drop i) (l.drop i) = if ordT k[i] l[i] = 0 then ordL (k.drop (i + 1)) (l.drop (i + 1)) else ordT k[i] l[i] := by
  rw [List.drop_eq_getElem_cons h1, List.drop_eq_getElem_cons h2, ordL]
theorem ordL_lt {k l : List Tree} {i : Nat} (h1 : ¬ i < k.length) (h2 : i < l.length) : ordL (k.drop i) (l.drop i) = -1 := by
  rw [List.drop_of_length_le (by omega), List.drop_eq_getElem_cons h2, ordL]
theorem ordL_gt {k l : List Tree} {i : Nat} (h1 : i < k.length) (h2 : ¬ i < l.length) : ordL (k.drop i) (l.drop i) = 1 := by
  rw [List.drop_eq_getElem_cons h1, List.drop_of_length_le (show l.length ≤ i by omega), ordL]
theorem ordL_end {k l : List Tree} {i : Nat} (h1 : ¬ i < k.length) (h2 : ¬ i < l.length) : ordL (k.drop i) (l.drop i) = 0 := by
  rw [List.drop_of_length_le (by omega), List.drop_of_length_le (by omega), ordL]
mutual
theorem ordT_refl : ∀ (a : Tree), ordT a a = 0
  | .mk r k => by rw [ordT, if_neg (by omega), if_neg (by omega)]; exact ordL_refl k
theorem ordL_refl : ∀ (a : List Tree), ordL a a = 0
  | [] => by simp [ordL]
  | a :: k => by rw [ordL, ordT_refl a, if_pos rfl]; exact ordL_refl k
end
/-! ### As data -/
theorem IsElt.treeE {h : Hp} {t u : Bool} {sz i off : Nat} {xs : List Tree} (hi : i < xs.length) : IsElt h (.eptr t sz (xs.map (treeD u)) i off) (treeA u xs[i]) off [] := by
  have := IsElt.mapE (h := h) (t := t) (sz := sz) (off := off) (f := treeD u) hi
  rwa [treeA_eq] at this
theorem IsElt.treeO {h : Hp} {u : Bool} {k m sz i off : Nat} {e : TypeId} {xs : List Tree} (hk : hget h k = some (.row e sz (xs.map (treeD u)))) (hm : (xs.map (treeD u)).length = m) (hi : i < xs.length) : IsElt h (.optr k m i off) (treeA u xs[i]) off [(k, some (.row e sz (xs.map (treeD u))))] := by
  have := IsElt.mapO (f := treeD u) (off := off) hk hm hi
  rwa [treeA_eq] at this
end Go.Proofs.Yticnpbopelgmiaa
