/-
  Facts, plain: where nothing leads to itself alone, what a nonterminal leads to is less than it.
-/
import Derived.Test.YticnpbopelgmiaaF2
set_option linter.unusedVariables false
set_option linter.unusedSimpArgs false
set_option linter.unusedSectionVars false
namespace Go.Proofs.Yticnpbopelgmiaa
open Go.RowKit

theorem count_le_of : ∀ {a b : List Bool}, a.length = b.length → (∀ k : Nat, a.getD k false = true → b.getD k false = true) → a.count true ≤ b.count true
  | [], [], _, _ => Nat.le_refl _
  | [], _ :: _, h, _ => by simp at h
  | _ :: _, [], h, _ => by simp at h
  | x :: a, y :: b, h, hs => by
    have ih := count_le_of (a := a) (b := b) (by simpa using h) (fun k hk => by have := hs (k + 1); simpa using this (by simpa using hk))
    have h0 := hs 0
    simp only [List.getD_cons_zero] at h0
    cases x <;> cases y <;> simp_all <;> omega
theorem count_lt_of : ∀ {a b : List Bool} (j : Nat), a.length = b.length → (∀ k : Nat, a.getD k false = true → b.getD k false = true) → b.getD j false = true → a.getD j false = false → a.count true < b.count true
  | [], [], _, _, _, hb, _ => by simp at hb
  | [], _ :: _, _, h, _, _, _ => by simp at h
  | _ :: _, [], _, h, _, _, _ => by simp at h
  | x :: a, y :: b, 0, h, hs, hb, ha => by
    have ih := count_le_of (a := a) (b := b) (by simpa using h) (fun k hk => by have := hs (k + 1); simpa using this (by simpa using hk))
    simp only [List.getD_cons_zero] at hb ha
    subst hb; subst ha
    simp only [List.count_cons_self, List.count_cons_of_ne (show false ≠ true by decide)]
    have : List.count true (false :: a) = a.count true := by simp
    omega
  | x :: a, y :: b, j + 1, h, hs, hb, ha => by
    have ih := count_lt_of (a := a) (b := b) j (by simpa using h) (fun k hk => by have := hs (k + 1); simpa using this (by simpa using hk)) (by simpa using hb) (by simpa using ha)
    have h0 := hs 0
    simp only [List.getD_cons_zero] at h0
    cases x <;> cases y <;> simp_all <;> omega
/-- To how many a nonterminal leads alone. -/
def rnk (g : Gram) (v : Int) : Nat := (rowM (ledM false g) v).count true
abbrev stepA (g : Gram) (v : Int) : List Int := stepsOf false g (leftsOf false g) v
theorem rnk_le {g : Gram} (hg : g.ok) {v : Int} (h0 : 0 ≤ v) (h1 : v < g.vars) : rnk g v ≤ 64 := by
  have h := (ledM_sq (c := false) hg).at h0 (by omega)
  have := List.count_le_length (a := true) (l := rowM (ledM false g) v)
  have := hg.vars
  unfold rnk; omega
theorem no_self {g : Gram} (hg : g.ok) (hc : cycL g = []) {v : Int} (h0 : 0 ≤ v) (h1 : v < g.vars) : has (rowM (ledM false g) v) v = false := by
  unfold cycL at hc
  rw [if_pos (by rw [hg.fault])] at hc
  cases h : has (rowM (ledM false g) v) v with
  | false => rfl
  | true =>
    have : v ∈ selfN (ledM false g) g.vars.toNat := by
      unfold selfN
      refine List.mem_map.2 ⟨v.toNat, List.mem_filter.2 ⟨List.mem_range.2 (by omega), ?_⟩, by omega⟩
      rw [show ((v.toNat : Nat) : Int) = v by omega]; exact h
    rw [hc] at this; cases this
theorem step_in {g : Gram} (hg : g.ok) {v u : Int} (h0 : 0 ≤ v) (h1 : v < g.vars) (hs : u ∈ stepA g v) : 0 ≤ u ∧ u < g.vars := by
  have h := (led_whole (c := false) hg h0 h1).from_ u hs
  have := has_lt h
  have := (ledM_sq (c := false) hg).at h0 (by omega)
  omega
theorem rnk_lt {g : Gram} (hg : g.ok) (hc : cycL g = []) {v u : Int} (h0 : 0 ≤ v) (h1 : v < g.vars) (hs : u ∈ stepA g v) : rnk g u < rnk g v := by
  have hv := led_whole (c := false) hg h0 h1
  have hu1 := hv.from_ u hs
  obtain ⟨u0, u1⟩ := step_in hg h0 h1 hs
  have hu := led_whole (c := false) hg u0 u1
  have l1 := (ledM_sq (c := false) hg).at h0 (by omega)
  have l2 := (ledM_sq (c := false) hg).at u0 (by omega)
  have hsub := (hu.least (rowM (ledM false g) v) (by omega) (fun w hw => hv.goes u hu1 w hw) (fun x hx w hw => hv.goes x hx w hw)).sub
  have hno := no_self hg hc u0 u1
  unfold rnk
  refine count_lt_of u.toNat (by omega) (fun k hk => ?_) ?_ ?_
  · have := hsub (k : Int) (by rw [has_nat]; exact hk)
    rwa [has_nat] at this
  · rw [← has_nat, show ((u.toNat : Nat) : Int) = u by omega]; exact hu1
  · rw [← has_nat, show ((u.toNat : Nat) : Int) = u by omega]; exact hno
end Go.Proofs.Yticnpbopelgmiaa
