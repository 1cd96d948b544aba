/-
  Sim: SameInts, slices.Equal, Kids, KidsOf, By, RulesOf, F, GreatGram.
-/
import Derived.Test.YtpaeihifcmohkaaSimW
set_option linter.unusedVariables false
set_option linter.unusedSimpArgs false
namespace Go.Proofs.Ytpaeihifcmohkaa
open Go.RowKit
set_option maxRecDepth 100000

/-! ### Plain -/
structure Gram.fit (g : Gram) : Prop where
  rules : g.rules.length ≤ 100000000
  right : ∀ r ∈ g.rules, r.right.length ≤ 100000000
def kids (xs : List Int) : List Int := xs.filter (fun x => decide (0 ≤ x))
theorem kids_snoc (xs : List Int) (k : Nat) (h : k < xs.length) : kids (xs.take (k + 1)) = kids (xs.take k) ++ kids [xs[k]] := by
  rw [List.take_succ_eq_append_getElem h]; simp only [kids, List.filter_append]
theorem kids_pos {x : Int} (h : 0 ≤ x) : kids [x] = [x] := by simp [kids, h]
theorem kids_neg {x : Int} (h : x < 0) : kids [x] = [] := by simp [kids]; omega
theorem kids_le (xs : List Int) : (kids xs).length ≤ xs.length := List.length_filter_le _ _
def byR : List Rule → Int → Nat → List Int
  | [], _, _ => []
  | r :: rs, v, i => if r.left = v then (i : Int) :: byR rs v (i + 1) else byR rs v (i + 1)
def by_ (g : Gram) (v : Int) : List Int := byR g.rules v 0
theorem byR_append (v : Int) : ∀ (a b : List Rule) (i : Nat), byR (a ++ b) v i = byR a v i ++ byR b v (i + a.length)
  | [], b, i => by simp [byR]
  | r :: a, b, i => by
    simp only [List.cons_append, byR, byR_append v a b (i + 1), List.length_cons]
    have : i + 1 + a.length = i + (a.length + 1) := by omega
    rw [this]; split <;> rfl
theorem byR_snoc (rs : List Rule) (v : Int) (k : Nat) (h : k < rs.length) : byR (rs.take (k + 1)) v 0 = byR (rs.take k) v 0 ++ (if rs[k].left = v then [(k : Int)] else []) := by
  rw [List.take_succ_eq_append_getElem h, byR_append]
  simp only [byR, List.length_take, Nat.zero_add]
  rw [Nat.min_eq_left (by omega)]
theorem byR_le (v : Int) : ∀ (rs : List Rule) (i : Nat), (byR rs v i).length ≤ rs.length
  | [], i => by simp [byR]
  | r :: rs, i => by
    have := byR_le v rs (i + 1)
    simp only [byR]; split <;> simp <;> omega
def greatG (g : Gram) : Bool := decide (400 < g.rules.length) || g.rules.any (fun r => decide (100 < r.right.length))
theorem any_at {α : Type} {p : α → Bool} {xs : List α} {k : Nat} (h : k < xs.length) (hp : p xs[k] = true) : xs.any p = true := List.any_eq_true.2 ⟨_, List.getElem_mem h, hp⟩
theorem any_none {α : Type} {p : α → Bool} {xs : List α} (h : ∀ j (hj : j < xs.length), p xs[j] = false) : xs.any p = false := by
  rw [List.any_eq_false]; intro x hx
  obtain ⟨j, hj, rfl⟩ := List.getElem_of_mem hx
  simp [h j hj]
theorem upto_succ {P : Nat → Prop} {k : Nat} (h : ∀ j, j < k → P j) (hk : P k) : ∀ j, j < k + 1 → P j := fun j hj => by
  by_cases e : j = k
  · subst e; exact hk
  · exact h j (by omega)

/-! ### SameInts, slices.Equal -/
theorem eq_of_all {xs ys : List Int} (hl : xs.length = ys.length) (h : ∀ j (hx : j < xs.length) (hy : j < ys.length), xs[j] = ys[j]) : xs = ys := List.ext_getElem hl h
theorem sameInts_sim {t u : Bool} {xs ys : List Int} (hb1 : xs.length ≤ 100000000 := by ((try simp only [List.length_map, List.length_append, List.length_cons, List.length_nil, List.length_replicate, List.length_set, List.length_take, List.length_drop]); first | omega | assumption)) (hb2 : ys.length ≤ 100000000 := by ((try simp only [List.length_map, List.length_append, List.length_cons, List.length_nil, List.length_replicate, List.length_set, List.length_take, List.length_drop]); first | omega | assumption)) :
    ACalls Try.prog 31 [.d (ints t xs), .d (ints u ys)] [] (B (decide (xs = ys))) [] := by
  refine ACalls.intro (n := 26) Try.func31 rfl rfl (by simp) (by rfl) ?_
  simp only [argFr]
  by_cases hl : (xs.length : Int) = ys.length
  · repeat (first | refine wk ?_)
    refine t_loop (X := Nat) (fun k => k ≤ xs.length ∧ ∀ j (hx : j < xs.length) (hy : j < ys.length), j < k → xs[j] = ys[j]) (fun k => [(5, I k), (0, V.d (ints t xs)), (1, V.d (ints u ys))]) (fun _ => []) (fun k => xs.length - k) 0
      ⟨Nat.zero_le _, by omega⟩ ?_
    rintro k ⟨hk, hp⟩
    by_cases hlt : k < xs.length
    · have hlt' : k < ys.length := by omega
      by_cases hx : xs[k] = ys[k]
      · repeat (first | refine wk ?_)
        exact t_next (k + 1) (a := ⟨by omega, fun j h1 h2 h3 => by
          by_cases e : j < k
          · exact hp j h1 h2 e
          · obtain rfl : j = k := by omega
            exact hx⟩)
      · repeat (first | refine wk ?_)
        have e : decide (xs = ys) = false := by rw [decide_eq_false_iff_not]; rintro rfl; exact hx rfl
        rw [e]
        exact fin
    · repeat (first | refine wk ?_)
      have e : decide (xs = ys) = true := by rw [decide_eq_true_eq]; exact eq_of_all (by omega) (fun j h1 h2 => hp j h1 h2 (by omega))
      rw [e]
      exact fin
  · repeat (first | refine wk ?_)
    have e : decide (xs = ys) = false := by rw [decide_eq_false_iff_not]; rintro rfl; exact hl rfl
    rw [e]
    exact fin
theorem equal_sim {t u : Bool} {xs ys : List Int} (hb1 : xs.length ≤ 100000000 := by ((try simp only [List.length_map, List.length_append, List.length_cons, List.length_nil, List.length_replicate, List.length_set, List.length_take, List.length_drop]); first | omega | assumption)) (hb2 : ys.length ≤ 100000000 := by ((try simp only [List.length_map, List.length_append, List.length_cons, List.length_nil, List.length_replicate, List.length_set, List.length_take, List.length_drop]); first | omega | assumption)) :
    ACalls Try.prog 84 [.d (ints t xs), .d (ints u ys)] [] (B (decide (xs = ys))) [] := by
  refine ACalls.intro (n := 26) Try.func84 rfl rfl (by simp) (by rfl) ?_
  simp only [argFr]
  by_cases hl : (xs.length : Int) = ys.length
  · repeat (first | refine wk ?_)
    refine t_loop (X := Nat) (fun k => k ≤ xs.length ∧ ∀ j (hx : j < xs.length) (hy : j < ys.length), j < k → xs[j] = ys[j]) (fun k => [(13, I k), (12, I xs.length), (0, V.d (ints t xs)), (1, V.d (ints u ys))]) (fun _ => []) (fun k => xs.length - k) 0
      ⟨Nat.zero_le _, by omega⟩ ?_
    rintro k ⟨hk, hp⟩
    by_cases hlt : k < xs.length
    · have hlt' : k < ys.length := by omega
      by_cases hx : xs[k] = ys[k]
      · repeat (first | refine wk ?_)
        exact t_next (k + 1) (a := ⟨by omega, fun j h1 h2 h3 => by
          by_cases e : j < k
          · exact hp j h1 h2 e
          · obtain rfl : j = k := by omega
            exact hx⟩)
      · repeat (first | refine wk ?_)
        have e : decide (xs = ys) = false := by rw [decide_eq_false_iff_not]; rintro rfl; exact hx rfl
        rw [e]
        exact fin
    · repeat (first | refine wk ?_)
      have e : decide (xs = ys) = true := by rw [decide_eq_true_eq]; exact eq_of_all (by omega) (fun j h1 h2 => hp j h1 h2 (by omega))
      rw [e]
      exact fin
  · repeat (first | refine wk ?_)
    have e : decide (xs = ys) = false := by rw [decide_eq_false_iff_not]; rintro rfl; exact hl rfl
    rw [e]
    exact fin

/-! ### Kids, By -/
theorem kids_sim {t : Bool} {l : Int} {xs : List Int} (hl : xs.length ≤ 100000000 := by ((try simp only [List.length_map, List.length_append, List.length_cons, List.length_nil, List.length_replicate, List.length_set, List.length_take, List.length_drop]); first | omega | assumption)) :
    ACalls Try.prog 34 [.d (.agg [iD l, ints t xs])] [] (.own 3 (kids xs).length) [(3, .row 3 1 ((kids xs).map iD))] := by
  refine ACalls.intro (n := 21) Try.func34 rfl rfl (by simp) (by rfl) ?_
  simp only [argFr]
  repeat (first | refine wk ?_)
  refine aw_nil 3 3 3 1 rfl rfl rfl ?_
  refine t_loop (fun k => k ≤ xs.length) (fun k => [(9, I k), (8, I xs.length), (7, V.d (ints t xs)), (3, .own 3 (kids (xs.take k)).length)]) (fun k => [(3, .row 3 1 ((kids (xs.take k)).map iD))]) (fun k => xs.length - k) 0
    (Nat.zero_le _) ?_
  intro k hk
  have hkl : (kids (xs.take k)).length ≤ k := by have := kids_le (xs.take k); rw [List.length_take] at this; omega
  by_cases hlt : k < xs.length
  · by_cases hx : 0 ≤ xs[k]
    · repeat (first | refine wk ?_)
      have e := (kids_snoc xs k hlt).trans (by rw [kids_pos hx])
      exact t_next (k + 1)
    · repeat (first | refine wk ?_)
      have e := (kids_snoc xs k hlt).trans (by rw [kids_neg (by omega), List.append_nil])
      exact t_next (k + 1)
  · repeat (first | refine wk ?_)
    rw [show xs.take k = xs by rw [show k = xs.length by omega, List.take_length]]
    exact fin
theorem kidsOf_sim {t : Bool} {xs : List Int} (hl : xs.length ≤ 100000000 := by ((try simp only [List.length_map, List.length_append, List.length_cons, List.length_nil, List.length_replicate, List.length_set, List.length_take, List.length_drop]); first | omega | assumption)) :
    ACalls Try.prog 35 [.d (ints t xs)] [] (.own 3 (kids xs).length) [(3, .row 3 1 ((kids xs).map iD))] := by
  refine ACalls.intro (n := 24) Try.func35 rfl rfl (by simp) (by rfl) ?_
  simp only [argFr]
  repeat (first | refine wk ?_)
  refine aw_nil 3 3 3 1 rfl rfl rfl ?_
  refine t_loop (fun k => k ≤ xs.length) (fun k => [(4, I k), (0, V.d (ints t xs)), (3, .own 3 (kids (xs.take k)).length)]) (fun k => [(3, .row 3 1 ((kids (xs.take k)).map iD))]) (fun k => xs.length - k) 0
    (Nat.zero_le _) ?_
  intro k hk
  have hkl : (kids (xs.take k)).length ≤ k := by have := kids_le (xs.take k); rw [List.length_take] at this; omega
  by_cases hlt : k < xs.length
  · by_cases hx : 0 ≤ xs[k]
    · repeat (first | refine wk ?_)
      have e := (kids_snoc xs k hlt).trans (by rw [kids_pos hx])
      exact t_next (k + 1)
    · repeat (first | refine wk ?_)
      have e := (kids_snoc xs k hlt).trans (by rw [kids_neg (by omega), List.append_nil])
      exact t_next (k + 1)
  · repeat (first | refine wk ?_)
    rw [show xs.take k = xs by rw [show k = xs.length by omega, List.take_length]]
    exact fin
theorem by_sim {t : Bool} {g : Gram} {v : Int} (hl : g.rules.length ≤ 100000000 := by ((try simp only [List.length_map, List.length_append, List.length_cons, List.length_nil, List.length_replicate, List.length_set, List.length_take, List.length_drop]); first | omega | assumption)) :
    ACalls Try.prog 32 [.d (gramD t g), I v] [] (.own 5 (by_ g v).length) [(5, .row 3 1 ((by_ g v).map iD))] := by
  refine ACalls.intro (n := 26) Try.func32 rfl rfl (by simp) (by rfl) ?_
  simp only [argFr]
  repeat (first | refine wk ?_)
  refine aw_nil 5 5 3 1 rfl rfl rfl ?_
  refine t_loop (fun k => k ≤ g.rules.length) (fun k => [(11, I k), (10, I g.rules.length), (9, V.d (rulesD t g.rules)), (1, I v), (5, .own 5 (byR (g.rules.take k) v 0).length)]) (fun k => [(5, .row 3 1 ((byR (g.rules.take k) v 0).map iD))]) (fun k => g.rules.length - k) 0
    (Nat.zero_le _) ?_
  intro k hk
  have hkl : (byR (g.rules.take k) v 0).length ≤ k := by have := byR_le v (g.rules.take k) 0; rw [List.length_take] at this; omega
  by_cases hlt : k < g.rules.length
  · have e := byR_snoc g.rules v k hlt
    by_cases hx : g.rules[k].left = v
    · repeat (first | refine wk ?_)
      rw [if_pos hx] at e
      exact t_next (k + 1)
    · repeat (first | refine wk ?_)
      rw [if_neg hx, List.append_nil] at e
      exact t_next (k + 1)
  · repeat (first | refine wk ?_)
    rw [show g.rules.take k = g.rules by rw [show k = g.rules.length by omega, List.take_length]]
    exact fin
theorem rulesOf_sim {t : Bool} {g : Gram} {v : Int} (hl : g.rules.length ≤ 100000000 := by ((try simp only [List.length_map, List.length_append, List.length_cons, List.length_nil, List.length_replicate, List.length_set, List.length_take, List.length_drop]); first | omega | assumption)) :
    ACalls Try.prog 33 [.d (gramD t g), I v] [] (.own 5 (by_ g v).length) [(5, .row 3 1 ((by_ g v).map iD))] := by
  refine ACalls.intro (n := 27) Try.func33 rfl rfl (by simp) (by rfl) ?_
  simp only [argFr]
  repeat (first | refine wk ?_)
  refine aw_nil 5 5 3 1 rfl rfl rfl ?_
  refine t_loop (fun k => k ≤ g.rules.length) (fun k => [(6, I k), (2, .ptr 2 0), (1, I v), (5, .own 5 (byR (g.rules.take k) v 0).length)]) (fun k => [(2, .box 34 [.d (iD g.vars), .d (iD g.terms), .d (iD g.start), .d (rulesD t g.rules)]), (5, .row 3 1 ((byR (g.rules.take k) v 0).map iD))]) (fun k => g.rules.length - k) 0
    (Nat.zero_le _) ?_
  intro k hk
  have hkl : (byR (g.rules.take k) v 0).length ≤ k := by have := byR_le v (g.rules.take k) 0; rw [List.length_take] at this; omega
  by_cases hlt : k < g.rules.length
  · have e := byR_snoc g.rules v k hlt
    by_cases hx : g.rules[k].left = v
    · repeat (first | refine wk ?_)
      rw [if_pos hx] at e
      exact t_next (k + 1)
    · repeat (first | refine wk ?_)
      rw [if_neg hx, List.append_nil] at e
      exact t_next (k + 1)
  · repeat (first | refine wk ?_)
    rw [show g.rules.take k = g.rules by rw [show k = g.rules.length by omega, List.take_length]]
    exact fin
end Go.Proofs.Ytpaeihifcmohkaa
