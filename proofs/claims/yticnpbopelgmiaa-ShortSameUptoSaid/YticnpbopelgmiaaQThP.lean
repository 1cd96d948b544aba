/-
  Thin, plain: rules without what may be nothing; one by one, and number by number. Thin, plain: number after number. Thin, plain: what is made is a step. A grammar whose nonterminals have a rank that falls is not cyclic. Thin, plain: what is made is a step; made once more it is the same. Thin, plain: made once more it is the same.
-/
import Derived.Test.YticnpbopelgmiaaSaP
import Derived.Test.YticnpbopelgmiaaP1
import Derived.Test.YticnpbopelgmiaaQRank
import Derived.Test.YticnpbopelgmiaaFoP
set_option linter.unusedVariables false
set_option linter.unusedSimpArgs false
set_option linter.unusedSectionVars false
namespace Go.Proofs.Yticnpbopelgmiaa
open Go.RowKit

structure TS where
  rules : List Rule
  frags : List (List Frag)
def TS.put (S : TS) (left : Int) (r : Nat) (right : List Int) (l : List Frag) : Except TS TS :=
  if right.length = 0 then .ok S else if S.rules.length = 160 ∨ 60 < fszs l + 1 then .error S else .ok ⟨S.rules ++ [⟨left, right⟩], S.frags ++ [[.mk 1 r l]]⟩
/-- The trees of the empty word, nonterminal by nonterminal. -/
abbrev stG (g : Gram) (v : Nat) : Gram := ⟨g.vars, g.terms, v, g.rules⟩
def nlA (g : Gram) : Nat → Nat → List (List Tree) → Option (List (List Tree))
  | 0, _, acc => some acc
  | n + 1, v, acc => if (fListF (stG g v) []).2.code = 0 then nlA g n (v + 1) (acc ++ [(fListF (stG g v) []).1]) else none
def nlF (g : Gram) : Option (List (List Tree)) := nlA g g.vars.toNat 0 []
end Go.Proofs.Yticnpbopelgmiaa
namespace Go.Proofs.Yticnpbopelgmiaa
open Go.RowKit

end Go.Proofs.Yticnpbopelgmiaa
namespace Go.Proofs.Yticnpbopelgmiaa
open Go.RowKit

/-- What is so of the rules made so far. -/
structure TS.Fine (g : Gram) (S : TS) : Prop where
  rules : S.rules.length ≤ 160
  parts : PartsOk g S.frags S.rules
  small : ∀ l ∈ S.frags, fszs l ≤ 60
  each : ∀ q ∈ S.rules, (0 ≤ q.left ∧ q.left < g.vars) ∧ (q.right ≠ [] ∧ q.right.length ≤ 10) ∧ ∀ s ∈ q.right, -g.terms ≤ s ∧ s < g.vars
end Go.Proofs.Yticnpbopelgmiaa
namespace Go.Proofs.Yticnpbopelgmiaa
open Go.RowKit

def lowB (n : Nat) (P : Int → Bool) : List Bool := (List.range n).map fun (k : Nat) => P (k : Int)
theorem lowB_has {n : Nat} {P : Int → Bool} {u : Int} : has (lowB n P) u = true ↔ 0 ≤ u ∧ u < n ∧ P u = true := by
  unfold has lowB
  by_cases h : 0 ≤ u
  · rw [decide_eq_true h, Bool.true_and, List.getD_eq_getElem?_getD]
    by_cases h2 : u.toNat < n
    · rw [List.getElem?_map, List.getElem?_range h2]
      simp only [Option.map_some, Option.getD_some]
      rw [show ((u.toNat : Nat) : Int) = u by omega]
      exact ⟨fun q => ⟨h, by omega, q⟩, fun q => q.2.2⟩
    · rw [List.getElem?_eq_none (by simpa using h2)]
      simp only [Option.getD_none]
      exact ⟨fun q => (by cases q), fun q => by omega⟩
  · rw [decide_eq_false h, Bool.false_and]
    exact ⟨fun q => (by cases q), fun q => absurd q.1 h⟩
theorem acyclic {h : Gram} (hh : h.ok) (rk : Int → Nat) (hrk : ∀ v u, 0 ≤ v → v < h.vars → u ∈ stepA h v → rk u < rk v) : cycL h = [] := by
  rw [show cycL h = selfN (ledM false h) h.vars.toNat by unfold cycL; rw [if_pos (by rw [hh.fault])]]
  refine List.eq_nil_iff_forall_not_mem.2 fun v hv => ?_
  unfold selfN at hv
  obtain ⟨k, hk, rfl⟩ := List.mem_map.1 hv
  obtain ⟨h1, h2⟩ := List.mem_filter.1 hk
  have h1 := List.mem_range.1 h1
  have hw := led_whole (c := false) hh (v := (k : Int)) (by omega) (by omega)
  have hlen := (ledM_sq (c := false) hh).at (u := (k : Int)) (by omega) (by omega)
  have hs := hw.least (lowB h.vars.toNat fun u => decide (rk u < rk k)) (by simp [lowB, hlen]) (fun u hu => by
    obtain ⟨s1, s2⟩ := step_in hh (v := (k : Int)) (by omega) (by omega) hu
    exact lowB_has.2 ⟨s1, by omega, decide_eq_true (hrk _ _ (by omega) (by omega) hu)⟩) (fun u hu x hx => by
    obtain ⟨t1, t2, t3⟩ := lowB_has.1 hu
    obtain ⟨s1, s2⟩ := step_in hh t1 (by omega) hx
    have := of_decide_eq_true t3
    have := hrk u x t1 (by omega) hx
    exact lowB_has.2 ⟨s1, by omega, decide_eq_true (by omega)⟩)
  have := lowB_has.1 (hs.sub _ h2)
  have := of_decide_eq_true this.2.2
  omega
end Go.Proofs.Yticnpbopelgmiaa
namespace Go.Proofs.Yticnpbopelgmiaa
open Go.RowKit

section
variable {g : Gram} (hg : g.ok) (hc : cycL g = []) {nl : List (List Tree)} (hnl : nlF g = some nl)
include hg hc hnl
end
theorem TS.Fine.ok {g : Gram} (hg : g.ok) {S : TS} (h : S.Fine g) : (⟨g.vars, g.terms, g.start, S.rules⟩ : Gram).ok :=
  ⟨hg.vars1, hg.vars, hg.terms0, hg.terms, hg.start0, hg.start, h.rules, fun r hr => (h.each r hr).2.1.2, fun r hr => (h.each r hr).1.1, fun r hr => (h.each r hr).1.2, fun r hr s hs => ((h.each r hr).2.2 s hs).1, fun r hr s hs => ((h.each r hr).2.2 s hs).2⟩
end Go.Proofs.Yticnpbopelgmiaa
namespace Go.Proofs.Yticnpbopelgmiaa
open Go.RowKit

/-! ### What was left out may be nothing -/
section
variable {nl : List (List Tree)} {B : List Bool} (hB : ∀ s : Nat, nl.getD s [] ≠ [] → has B (s : Int) = true)
include hB
end
/-! ### Once more -/
end Go.Proofs.Yticnpbopelgmiaa
