/-
  Nonterminals, plain: one rule more takes nothing away.
-/
import Derived.Test.YtpaeihifcmohkaaFactsI
set_option linter.unusedVariables false
set_option linter.unusedSimpArgs false
namespace Go.Proofs.Ytpaeihifcmohkaa
open Go.RowKit

theorem listB_mem {is : List Bool} {x : Int} : x ∈ listB is ↔ has is x = true := by
  unfold listB
  rw [List.mem_map]
  constructor
  · rintro ⟨k, hk, rfl⟩
    rw [List.mem_filter] at hk
    rw [has_nat]; exact hk.2
  · intro h
    obtain ⟨h0, h1⟩ := has_lt h
    obtain ⟨k, rfl⟩ : ∃ k : Nat, x = (k : Int) := ⟨x.toNat, by omega⟩
    rw [has_nat] at h
    exact ⟨k, List.mem_filter.2 ⟨List.mem_range.2 (by omega), h⟩, rfl⟩
theorem selfN_mem {M : Mat} {n : Nat} {x : Int} : x ∈ selfN M n ↔ ∃ k : Nat, k < n ∧ x = (k : Int) ∧ has (rowM M k) k = true := by
  unfold selfN
  rw [List.mem_map]
  constructor
  · rintro ⟨k, hk, rfl⟩
    rw [List.mem_filter] at hk
    exact ⟨k, List.mem_range.1 hk.1, rfl, hk.2⟩
  · rintro ⟨k, hk, rfl, h⟩
    exact ⟨k, List.mem_filter.2 ⟨List.mem_range.2 hk, h⟩, rfl⟩
def more (g : Gram) (r : Rule) : Gram := ⟨g.vars, g.terms, g.start, g.rules ++ [r]⟩
section
variable {g : Gram} {r : Rule} (hg : g.ok) (hh : (more g r).ok)
include hh
theorem lefts_more (t : Bool) : Sub (leftsOf t g) (leftsOf t (more g r)) :=
  leftsOf_least (by rw [leftsOf_len hh]; rfl) (fun q hq => leftsOf_holds hh q (by show q ∈ g.rules ++ [r]; simp [hq]))
theorem reach_more : Sub (reachOf g) (reachOf (more g r)) :=
  reachOf_least (by rw [reachOf_len]; rfl) (reachOf_start hh) (fun q hq => reachOf_goes hh q (by show q ∈ g.rules ++ [r]; simp [hq]))
theorem steps_more {c : Bool} {u w : Int} (h : w ∈ stepsOf c g (leftsOf false g) u) : w ∈ stepsOf c (more g r) (leftsOf false (more g r)) u := by
  rw [stepsOf, overBy_mem] at h ⊢
  obtain ⟨q, hq, hl, hw⟩ := h
  refine ⟨q, by show q ∈ g.rules ++ [r]; simp [hq], hl, ?_⟩
  obtain ⟨j, h1, h2, h3⟩ := picks_mem.1 hw
  refine picks_mem.2 ⟨j, h1, ?_, h3⟩
  have hs := lefts_more hh false
  simp only [pickAt, Bool.and_eq_true, Bool.or_eq_true] at h2 ⊢
  exact ⟨h2.1, inAll_sub hs h2.2.1, h2.2.2.imp id (inAll_sub hs)⟩
include hg
theorem led_more {c : Bool} {v : Int} (h0 : 0 ≤ v) (h1 : v < g.vars) : Sub (rowM (ledM c g) v) (rowM (ledM c (more g r)) v) := by
  have hW := led_whole (c := c) hg h0 h1
  have hW2 := led_whole (c := c) hh h0 (v := v) h1
  refine hW.least _ ?_ (fun w hw => hW2.from_ w (steps_more hh hw)) (fun u hu w hw => hW2.goes u hu w (steps_more hh hw))
  rw [(ledM_sq hg).at h0 (by omega), (ledM_sq hh).at h0 (by show v < ((more g r).vars.toNat : Int); show v < (g.vars.toNat : Int); omega)]
  rfl
end
theorem listB_sub {a b : List Bool} (h : Sub a b) : ∀ x ∈ listB a, x ∈ listB b := fun x hx => listB_mem.2 (h.sub x (listB_mem.1 hx))
end Go.Proofs.Ytpaeihifcmohkaa
