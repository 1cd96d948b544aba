/-
  Templates, plain: the counter of frag.Check counts as the document says. Templates, plain: what a tree of a new grammar makes. Sim: tree.Word, the grammar 'again', treeBegun; TreeOrders, TreeDoes return true. Sim: the counter of frag.Check. Sim: frag.Check. Sim: templates applied: nodes, fits, fill, apply, value. Sim: templates applied: value, Back. Sim: frag.Back. Thin, plain: rules without what may be nothing; one by one, and number by number. Thin, plain: number after number. Thin, plain: what is made is a step. A grammar whose nonterminals have a rank that falls is not cyclic. Thin, plain: what is made is a step; made once more it is the same. Thin, plain: made once more it is the same. Trees led back, plain: what a tree of a new grammar makes, whatever its size; a step whose rows are as told leads the trees back one for one. Trees led back, plain: the laws '..Same' of a step that leads back. Trees led back, plain: steps each of whose rows is one tree; what may be nothing; a grammar that goes where another goes is no more cyclic.
-/
import Derived.Test.YticnpbopelgmiaaP1
import Derived.Test.YticnpbopelgmiaaQTreeB
import Derived.Test.YticnpbopelgmiaaS5
import Derived.Test.YticnpbopelgmiaaQGramC
import Derived.Test.YticnpbopelgmiaaSaP
import Derived.Test.YticnpbopelgmiaaQChartP
import Derived.Test.YticnpbopelgmiaaFoP
import Derived.Test.YticnpbopelgmiaaQSmN
set_option linter.unusedVariables false
set_option linter.unusedSimpArgs false
set_option linter.unusedSectionVars false
namespace Go.Proofs.Yticnpbopelgmiaa
open Go.RowKit

structure CS where
  p : Nat
  bad : Bool
  u : List Int
/-- What the counter tells, of so many parts at most. -/
structure Tells (s s' : CS) (n : Nat) (r : Bool × List Int) : Prop where
  p : s'.p = s.p + n
  bad : s.bad = true → s'.bad = true
  ok : s.bad = false → r.1 = true → s'.bad = false ∧ s'.u = r.2
  no : s.bad = false → r.1 = false → s'.bad = true
theorem Tells.then {s s1 s2 : CS} {n1 n2 : Nat} {r1 r2 : Bool × List Int} (h1 : Tells s s1 n1 r1) (h2 : s1.bad = false → s1.u = r1.2 → Tells s1 s2 n2 r2) (h3 : s1.bad = true → s2.p = s1.p + n2 ∧ s2.bad = true) :
    Tells s s2 (n1 + n2) (bif r1.1 then r2 else (false, r1.2)) := by
  refine ⟨?_, fun hb => (h3 (h1.bad hb)).2, fun hb hr => ?_, fun hb hr => ?_⟩
  · cases hb1 : s1.bad with
    | true => have := (h3 hb1).1; have := h1.p; omega
    | false =>
      have e : s1.u = r1.2 := by
        cases hs : s.bad with
        | true => have := h1.bad hs; rw [hb1] at this; cases this
        | false =>
          cases hr : r1.1 with
          | true => exact (h1.ok hs hr).2
          | false => have := h1.no hs hr; rw [hb1] at this; cases this
      have := (h2 hb1 e).p; have := h1.p; omega
  · cases hr1 : r1.1 with
    | true =>
      rw [hr1] at hr
      obtain ⟨e1, e2⟩ := h1.ok hb hr1
      exact (h2 e1 e2).ok e1 hr
    | false => rw [hr1] at hr; cases hr
  · cases hr1 : r1.1 with
    | true =>
      rw [hr1] at hr
      obtain ⟨e1, e2⟩ := h1.ok hb hr1
      exact (h2 e1 e2).no e1 hr
    | false => exact (h3 (h1.no hb hr1)).2
end Go.Proofs.Yticnpbopelgmiaa
namespace Go.Proofs.Yticnpbopelgmiaa
open Go.RowKit

/-! ### Trees -/
end Go.Proofs.Yticnpbopelgmiaa
namespace Go.Proofs.Yticnpbopelgmiaa
open Go.RowKit
set_option maxRecDepth 100000

def againG : Gram := ⟨1, 2, 0, [⟨0, [0, -1]⟩, ⟨0, [-2]⟩]⟩
theorem again_sim : ACalls Try.prog 55 [] [] (.d (gramD false againG)) [] := by
  refine ACalls.intro (n := 7) Try.func55 rfl rfl (by simp) (by rfl) ?_
  simp only [argFr]
  repeat (first | refine wkr ?_ | refine s_field (hr := ?_))
  refine aw_froz 5 rfl ?_
  repeat (first | refine wk ?_ | refine s_field (hr := ?_))
  exact fin
end Go.Proofs.Yticnpbopelgmiaa
namespace Go.Proofs.Yticnpbopelgmiaa
open Go.RowKit
set_option maxRecDepth 100000
-- SimX

end Go.Proofs.Yticnpbopelgmiaa
namespace Go.Proofs.Yticnpbopelgmiaa
open Go.RowKit
set_option maxRecDepth 100000
-- SimX

end Go.Proofs.Yticnpbopelgmiaa
namespace Go.Proofs.Yticnpbopelgmiaa
open Go.RowKit
set_option maxRecDepth 100000
-- SimX

end Go.Proofs.Yticnpbopelgmiaa
namespace Go.Proofs.Yticnpbopelgmiaa
open Go.RowKit
set_option maxRecDepth 100000
-- SimX

end Go.Proofs.Yticnpbopelgmiaa
namespace Go.Proofs.Yticnpbopelgmiaa
open Go.RowKit
set_option maxRecDepth 100000
-- SimX

end Go.Proofs.Yticnpbopelgmiaa
namespace Go.Proofs.Yticnpbopelgmiaa
open Go.RowKit

structure TS where
  rules : List Rule
  frags : List (List Frag)
def TS.put (S : TS) (left : Int) (r : Nat) (right : List Int) (l : List Frag) : Except TS TS :=
  if right.length = 0 then .ok S else if S.rules.length = 160 ∨ 60 < fszs l + 1 then .error S else .ok ⟨S.rules ++ [⟨left, right⟩], S.frags ++ [[.mk 1 r l]]⟩
/-- The trees of the empty word, nonterminal by nonterminal. -/
abbrev stG (g : Gram) (v : Nat) : Gram := ⟨g.vars, g.terms, v, g.rules⟩
def nlA (g : Gram) : Nat → Nat → List (List Tree) → Option (List (List Tree))
  | 0, _, acc => some acc
  | n + 1, v, acc => if (fListF (stG g v) []).2.code = 0 then nlA g n (v + 1) (acc ++ [(fListF (stG g v) []).1]) else none
def nlF (g : Gram) : Option (List (List Tree)) := nlA g g.vars.toNat 0 []
end Go.Proofs.Yticnpbopelgmiaa
namespace Go.Proofs.Yticnpbopelgmiaa
open Go.RowKit

end Go.Proofs.Yticnpbopelgmiaa
namespace Go.Proofs.Yticnpbopelgmiaa
open Go.RowKit

/-- What is so of the rules made so far. -/
structure TS.Fine (g : Gram) (S : TS) : Prop where
  rules : S.rules.length ≤ 160
  parts : PartsOk g S.frags S.rules
  small : ∀ l ∈ S.frags, fszs l ≤ 60
  each : ∀ q ∈ S.rules, (0 ≤ q.left ∧ q.left < g.vars) ∧ (q.right ≠ [] ∧ q.right.length ≤ 10) ∧ ∀ s ∈ q.right, -g.terms ≤ s ∧ s < g.vars
end Go.Proofs.Yticnpbopelgmiaa
namespace Go.Proofs.Yticnpbopelgmiaa
open Go.RowKit

def lowB (n : Nat) (P : Int → Bool) : List Bool := (List.range n).map fun (k : Nat) => P (k : Int)
theorem lowB_has {n : Nat} {P : Int → Bool} {u : Int} : has (lowB n P) u = true ↔ 0 ≤ u ∧ u < n ∧ P u = true := by
  unfold has lowB
  by_cases h : 0 ≤ u
  · rw [decide_eq_true h, Bool.true_and, List.getD_eq_getElem?_getD]
    by_cases h2 : u.toNat < n
    · rw [List.getElem?_map, List.getElem?_range h2]
      simp only [Option.map_some, Option.getD_some]
      rw [show ((u.toNat : Nat) : Int) = u by omega]
      exact ⟨fun q => ⟨h, by omega, q⟩, fun q => q.2.2⟩
    · rw [List.getElem?_eq_none (by simpa using h2)]
      simp only [Option.getD_none]
      exact ⟨fun q => (by cases q), fun q => by omega⟩
  · rw [decide_eq_false h, Bool.false_and]
    exact ⟨fun q => (by cases q), fun q => absurd q.1 h⟩
end Go.Proofs.Yticnpbopelgmiaa
namespace Go.Proofs.Yticnpbopelgmiaa
open Go.RowKit

section
variable {g : Gram} (hg : g.ok) (hc : cycL g = []) {nl : List (List Tree)} (hnl : nlF g = some nl)
include hg hc hnl
end
theorem TS.Fine.ok {g : Gram} (hg : g.ok) {S : TS} (h : S.Fine g) : (⟨g.vars, g.terms, g.start, S.rules⟩ : Gram).ok :=
  ⟨hg.vars1, hg.vars, hg.terms0, hg.terms, hg.start0, hg.start, h.rules, fun r hr => (h.each r hr).2.1.2, fun r hr => (h.each r hr).1.1, fun r hr => (h.each r hr).1.2, fun r hr s hs => ((h.each r hr).2.2 s hs).1, fun r hr s hs => ((h.each r hr).2.2 s hs).2⟩
end Go.Proofs.Yticnpbopelgmiaa
namespace Go.Proofs.Yticnpbopelgmiaa
open Go.RowKit

/-! ### What was left out may be nothing -/
section
variable {nl : List (List Tree)} {B : List Bool} (hB : ∀ s : Nat, nl.getD s [] ≠ [] → has B (s : Int) = true)
include hB
end
/-! ### Once more -/
end Go.Proofs.Yticnpbopelgmiaa
namespace Go.Proofs.Yticnpbopelgmiaa
open Go.RowKit

/-! ### Every row on the way is small enough -/
/-! ### Rows -/
section
variable (D : Int → List Tree → Prop) (W : Int → List Tree → List Int)
end
section
variable {h : Gram} {s : Step} {D : Int → List Tree → Prop} {W : Int → List Tree → List Int} {μ : Int → List Tree → Nat}
end
end Go.Proofs.Yticnpbopelgmiaa
namespace Go.Proofs.Yticnpbopelgmiaa
open Go.RowKit

/-! ### Templates without gaps -/
/-! ### The trees are the same -/
section
variable {g : Gram} {s : Step} {w : List Int} {D : Int → List Tree → Prop} {W : Int → List Tree → List Int} {μ : Int → List Tree → Nat}
end

/-! ### What sameTrees asks -/
theorem wBad_ok {t : Int} : ∀ {w : List Int} {i : Nat}, (∀ x ∈ w, 0 ≤ x ∧ x < t) → wBad t w i = none
  | [], _, _ => rfl
  | y :: r, i, h => by
    rw [wBad, if_neg (by have := h y (by simp); omega)]
    exact wBad_ok fun x hx => h x (by simp [hx])
theorem ChOk.fault {g : Gram} {w : List Int} (h : ChOk g w) : chF g w = ⟨0, 0⟩ := by
  unfold chF
  rw [h.ok.fault, if_pos rfl, if_neg (by have := h.len; omega), wBad_ok h.syms]
  simp [h.cyc]
end Go.Proofs.Yticnpbopelgmiaa
namespace Go.Proofs.Yticnpbopelgmiaa
open Go.RowKit

/-! ### Nothing, and what leads to what -/
theorem null_ind {h : Gram} (hh : h.ok) (P : Int → Prop) (hP : ∀ q ∈ h.rules, (∀ s ∈ q.right, 0 ≤ s ∧ P s) → P q.left) : ∀ v, has (nulB h) v = true → P v := by
  classical
  intro v hv
  have hs := leftsOf_least (t := false) (g := h) (S := lowB h.vars.toNat fun u => decide (P u)) (by simp [lowB]) (fun q hq hin => by
    simp only [asks, cond_false, inAll, List.all_eq_true] at hin
    refine lowB_has.2 ⟨hh.left0 q hq, by have := hh.left q hq; have := hh.left0 q hq; omega, decide_eq_true (hP q hq fun s hs => ?_)⟩
    obtain ⟨a, b, c⟩ := lowB_has.1 (hin s hs)
    exact ⟨a, of_decide_eq_true c⟩)
  exact of_decide_eq_true (lowB_has.1 (hs.sub v hv)).2.2
theorem stepA_iff {h : Gram} {v u : Int} : u ∈ stepA h v ↔ ∃ q ∈ h.rules, q.left = v ∧ ∃ pre post, q.right = pre ++ u :: post ∧ 0 ≤ u ∧ inAll pre (nulB h) = true ∧ inAll post (nulB h) = true := by
  constructor
  · intro hu
    obtain ⟨q, hq, e1, e2⟩ := overBy_mem.1 hu
    obtain ⟨k, hk, e3, e4⟩ := picks_mem.1 e2
    unfold pickAt at e3
    simp only [Bool.and_eq_true, Bool.false_or, decide_eq_true_eq] at e3
    obtain ⟨g0, g1, g2⟩ := e3
    rw [← e4] at g0
    refine ⟨q, hq, e1, q.right.take k, q.right.drop (k + 1), ?_, g0, g1, g2⟩
    have : q.right.getD k 0 = q.right[k] := by rw [List.getD_eq_getElem?_getD, List.getElem?_eq_getElem hk]; rfl
    rw [e4, this, List.getElem_cons_drop, List.take_append_drop]
  · rintro ⟨q, hq, e1, pre, post, e2, h0, h1, h2⟩
    refine overBy_mem.2 ⟨q, hq, e1, picks_mem.2 ⟨pre.length, by rw [e2]; simp, ?_, by rw [e2]; simp⟩⟩
    have q1 : q.right.getD pre.length 0 = u := by rw [e2]; simp
    have q2 : q.right.take pre.length = pre := by rw [e2]; simp
    have q3 : q.right.drop (pre.length + 1) = post := by rw [e2]; simp
    unfold pickAt
    rw [q1, q2, q3, h1, h2]
    simp [h0]
/-! ### Rows of one tree -/
/-! ### The template of a rule that stays -/
end Go.Proofs.Yticnpbopelgmiaa
