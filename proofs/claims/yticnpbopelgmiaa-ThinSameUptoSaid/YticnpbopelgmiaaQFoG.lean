/-
  Forest, the reference: the rules of a nonterminal, one behind the other (plain). Forest, the reference: building.tree, given building.row. Forest, the reference: building.row, given building.tree; both whole. Forest, the reference: AtOf, TreesOf. Forest, the reference: TreesOf. Thin, the reference: ThinOf. Thin, plain: what is made is a step. A grammar whose nonterminals have a rank that falls is not cyclic. Thin, plain: what is made is a step; made once more it is the same. Thin, plain: made once more it is the same.
-/
import Derived.Test.YticnpbopelgmiaaFoD
import Derived.Test.YticnpbopelgmiaaThinD
import Derived.Test.YticnpbopelgmiaaQChartJ
import Derived.Test.YticnpbopelgmiaaQThP
import Derived.Test.YticnpbopelgmiaaP1
import Derived.Test.YticnpbopelgmiaaQRank
set_option linter.unusedVariables false
set_option linter.unusedSimpArgs false
set_option linter.unusedSectionVars false
namespace Go.Proofs.Yticnpbopelgmiaa
open Go.RowKit
set_option maxRecDepth 100000

end Go.Proofs.Yticnpbopelgmiaa
namespace Go.Proofs.Yticnpbopelgmiaa
open Go.RowKit
set_option maxRecDepth 100000
-- SimX

section
variable {t u : Bool} {g : Gram} {w : List Int}
end
end Go.Proofs.Yticnpbopelgmiaa
namespace Go.Proofs.Yticnpbopelgmiaa
open Go.RowKit
set_option maxRecDepth 100000
-- SimX

section
variable {t u : Bool} {g : Gram} {w : List Int}
end
end Go.Proofs.Yticnpbopelgmiaa
namespace Go.Proofs.Yticnpbopelgmiaa
open Go.RowKit
set_option maxRecDepth 100000
-- SimX

section
variable {t u : Bool} {g : Gram} {w : List Int}
end
end Go.Proofs.Yticnpbopelgmiaa
namespace Go.Proofs.Yticnpbopelgmiaa
open Go.RowKit
set_option maxRecDepth 100000
-- SimX

section
variable {t u : Bool} {g : Gram} {w : List Int}
end
end Go.Proofs.Yticnpbopelgmiaa
namespace Go.Proofs.Yticnpbopelgmiaa
open Go.RowKit
set_option maxRecDepth 100000
-- SimX

end Go.Proofs.Yticnpbopelgmiaa
namespace Go.Proofs.Yticnpbopelgmiaa
open Go.RowKit

theorem thL_inv {α : Type} {P : TS → Prop} {f : α → TS → Except TS TS} : ∀ {ts : List α} {S S' : TS}, (∀ x ∈ ts, ∀ S S', f x S = .ok S' → P S → P S') → thL f ts S = .ok S' → P S → P S'
  | [], S, S', _, h, g => by cases h; exact g
  | t :: ts, S, S', hf, h, g => by
    rw [thL] at h
    cases hc : f t S with
    | error e => rw [hc] at h; cases h
    | ok S1 => rw [hc] at h; exact thL_inv (fun x hx => hf x (by simp [hx])) h (hf t (by simp) S S1 hc g)
theorem usF_asF {g : Gram} {u : List Int} : ∀ (x : Tree) (v : Int), fits g x v = true → usF g.rules.length (asF x) u = (true, u) := by
  refine Tree.ind fun x ih v hf => ?_
  obtain ⟨i, hi, e1, e2, e3, e4, e5⟩ := fits_parts hf
  have key : ∀ (l : List Tree) (vs : List Int), (∀ y ∈ l, ∀ v, fits g y v = true → usF g.rules.length (asF y) u = (true, u)) → l.length = vs.length → fitss g l vs = true → usL g.rules.length (asFs l) u = (true, u) := by
    intro l
    induction l with
    | nil => intro vs _ _ _; rw [asFs, usL]
    | cons y l ihl =>
      intro vs h1 h2 h3
      cases vs with
      | nil => simp at h2
      | cons v vs =>
        rw [fitss, Bool.and_eq_true] at h3
        rw [asFs, usL, h1 y (by simp) v h3.1]
        simp only [cond_true]
        exact ihl vs (fun z hz => h1 z (by simp [hz])) (by simpa using h2) h3.2
  rw [Tree.eta x, asF, usF, if_pos rfl, e1, if_neg (by omega)]
  exact key x.kids _ ih e3.symm e4
theorem thM_sub (nl : List (List Tree)) : ∀ (ss : List Int) (p : List Nat) (h : Nat), (∀ s ∈ (thM nl ss p h).1, s ∈ ss) ∧ (thM nl ss p h).1.length ≤ ss.length
  | [], p, h => by simp [thM]
  | s :: ss, p, h => by
    by_cases hs : s < 0
    · simp only [thM, hs, if_true]
      obtain ⟨h1, h2⟩ := thM_sub nl ss p h
      exact ⟨fun x hx => by rcases List.mem_cons.1 hx with rfl | hx; exact List.mem_cons_self; exact List.mem_cons_of_mem _ (h1 x hx), by simp; omega⟩
    · cases p with
      | nil => simp [thM, hs]
      | cons a p =>
        cases a with
        | zero =>
          simp only [thM, hs, if_false]
          obtain ⟨h1, h2⟩ := thM_sub nl ss p (h + 1)
          exact ⟨fun x hx => by rcases List.mem_cons.1 hx with rfl | hx; exact List.mem_cons_self; exact List.mem_cons_of_mem _ (h1 x hx), by simp; omega⟩
        | succ a =>
          simp only [thM, hs, if_false]
          obtain ⟨h1, h2⟩ := thM_sub nl ss p h
          exact ⟨fun x hx => List.mem_cons_of_mem _ (h1 x hx), by simp; omega⟩
/-- Each kid once. -/
theorem thM_use {g : Gram} {nl : List (List Tree)} (hn : ∀ v, ∀ x ∈ nl.getD v [], fits g x (v : Int) = true) : ∀ (ss : List Int) (p : List Nat) (h : Nat), p.length = (kids ss).length → (∀ k, ∀ q : k < (optsN nl ss).length, p.getD k 0 < (optsN nl ss)[k]) →
    usL g.rules.length (thM nl ss p h).2 (List.replicate h 1 ++ List.replicate (kids (thM nl ss p h).1).length 0) = (true, List.replicate (h + (kids (thM nl ss p h).1).length) 1)
  | [], p, h, _, _ => by simp [thM, usL, kids]
  | s :: ss, p, h, hl, hp => by
    by_cases hs : s < 0
    · simp only [thM, hs, if_true]
      have e : optsN nl (s :: ss) = optsN nl ss := by unfold optsN; rw [kidsN hs]
      rw [kidsN hs]
      rw [kidsN hs] at hl
      exact thM_use hn ss p h hl (fun k q => by have := hp k (by rw [e]; exact q); simpa only [e] using this)
    · have e : optsN nl (s :: ss) = ((nl.getD s.toNat []).length + 1) :: optsN nl ss := by unfold optsN; rw [kidsP hs]; rfl
      rw [kidsP hs] at hl
      cases p with
      | nil => simp at hl
      | cons a p =>
        have hp' : ∀ k, ∀ q : k < (optsN nl ss).length, p.getD k 0 < (optsN nl ss)[k] := fun k q => by
          have := hp (k + 1) (by rw [e]; simpa using q)
          simpa only [e, List.getD_cons_succ, List.getElem_cons_succ] using this
        have h0 := hp 0 (by rw [e]; simp)
        simp only [e, List.getD_cons_zero, List.getElem_cons_zero] at h0
        cases a with
        | zero =>
          simp only [thM, hs, if_false]
          have ih := thM_use hn ss p (h + 1) (by simpa using hl) hp'
          rw [kidsP hs, List.length_cons]
          generalize (kids (thM nl ss p (h + 1)).1).length = n at *
          rw [usL]
          have e2 : usF g.rules.length (holeF (h : Int)) (List.replicate h 1 ++ List.replicate (n + 1) 0) = (true, List.replicate (h + 1) 1 ++ List.replicate n 0) := by
            rw [usF, if_neg (by decide), if_pos rfl, if_neg (by simp; omega)]
            congr 1
            rw [bump]
            simp only [Int.toNat_natCast]
            rw [List.replicate_succ, List.getD_eq_getElem?_getD, List.getElem?_append_right (by simp), List.set_append_right _ _ (by simp)]
            simp [List.replicate_succ']
          rw [e2]
          simp only [cond_true]
          rw [ih]
          congr 2
          omega
        | succ a =>
          simp only [thM, hs, if_false]
          have ih := thM_use hn ss p h (by simpa using hl) hp'
          have ha : a < (nl.getD s.toNat []).length := by omega
          have hx : (nl.getD s.toNat []).getD a (.mk 0 []) ∈ nl.getD s.toNat [] := by
            have : (nl.getD s.toNat []).getD a (.mk 0 []) = (nl.getD s.toNat [])[a] := by rw [List.getD_eq_getElem?_getD, List.getElem?_eq_getElem ha]; rfl
            rw [this]; exact List.getElem_mem ha
          rw [usL, usF_asF _ _ (hn _ _ hx)]
          simp only [cond_true]
          exact ih
/-- What is so of the rules made so far. -/
structure TS.Fine (g : Gram) (S : TS) : Prop where
  rules : S.rules.length ≤ 160
  parts : PartsOk g S.frags S.rules
  small : ∀ l ∈ S.frags, fszs l ≤ 60
  each : ∀ q ∈ S.rules, (0 ≤ q.left ∧ q.left < g.vars) ∧ (q.right ≠ [] ∧ q.right.length ≤ 10) ∧ ∀ s ∈ q.right, -g.terms ≤ s ∧ s < g.vars
theorem put_fine {g : Gram} (hg : g.ok) {nl : List (List Tree)} (hn : ∀ v, ∀ x ∈ nl.getD v [], fits g x (v : Int) = true) {r : Nat} (hr : r < g.rules.length) {p : List Nat} (hp : p ∈ tups (optsN nl g.rules[r].right)) {S S' : TS} (h : S.put g.rules[r].left r (thM nl g.rules[r].right p 0).1 (thM nl g.rules[r].right p 0).2 = .ok S') (hS : S.Fine g) : S'.Fine g := by
  obtain ⟨h1, h2⟩ := tups_mem _ _ hp
  have hko : (optsN nl g.rules[r].right).length = (kids g.rules[r].right).length := by simp [optsN]
  have hu := thM_use hn g.rules[r].right p 0 (by omega) h2
  obtain ⟨s1, s2⟩ := thM_sub nl g.rules[r].right p 0
  have hcp := thM_cp nl g.rules[r].right p 0
  have hm := List.getElem_mem hr
  unfold TS.put at h
  generalize thM nl g.rules[r].right p 0 = M at *
  obtain ⟨ML, MF⟩ := M
  dsimp only at *
  split at h
  · cases h; exact hS
  split at h
  · cases h
  rename_i q1 q2
  cases h
  refine ⟨by have := hS.rules; simp only [List.length_append, List.length_singleton]; omega, hS.parts.snoc ?_, fun l hl => ?_, fun q hq => ?_⟩
  · show partFault g [.mk 1 r MF] ML = 0
    have h3 : cpL [Frag.mk 1 (r : Int) MF] = 1 + fszs MF := by simp [cpL, cpF, hcp]
    rw [partFault, if_neg (by omega), if_pos]
    rw [okUse, usL, usF, if_pos rfl, if_neg (by omega)]
    simp only [List.replicate_zero, List.nil_append, Nat.zero_add] at hu
    rw [hu]
    simp [usL]
  · rcases List.mem_append.1 hl with hl | hl
    · exact hS.small l hl
    · rw [List.mem_singleton.1 hl]; simp only [fszs, fsz]; omega
  · rcases List.mem_append.1 hq with hq | hq
    · exact hS.each q hq
    · rw [List.mem_singleton.1 hq]
      refine ⟨⟨hg.left0 g.rules[r] hm, hg.left g.rules[r] hm⟩, ⟨fun e => q1 (by show ML.length = 0; rw [show ML = [] from e]; rfl), by have := hg.right _ hm; show ML.length ≤ 10; omega⟩, fun s hs => ⟨hg.lo _ hm s (s1 s hs), hg.hi _ hm s (s1 s hs)⟩⟩
theorem thA_fine {g : Gram} (hg : g.ok) {nl : List (List Tree)} (hn : ∀ v, ∀ x ∈ nl.getD v [], fits g x (v : Int) = true) : ∀ (rs : List Rule) (i : Nat) (S S' : TS), g.rules.drop i = rs → thA nl i rs S = .ok S' → S.Fine g → S'.Fine g
  | [], i, S, S', _, h, hS => by rw [thA] at h; cases h; exact hS
  | q :: rs, i, S, S', hd, h, hS => by
    have hi : i < g.rules.length := Classical.byContradiction fun hn => by
      rw [List.drop_of_length_le (by omega)] at hd; cases hd
    rw [List.drop_eq_getElem_cons hi] at hd
    obtain ⟨d1, d2⟩ := List.cons.inj hd
    rw [thA] at h
    cases hc : thR nl q.left i q.right 0 [] [] S with
    | error e => rw [hc] at h; cases h
    | ok S1 =>
      rw [hc] at h
      refine thA_fine hg hn rs (i + 1) S1 S' d2 h ?_
      rw [thR_tups, ← d1] at hc
      simp only [List.nil_append] at hc
      exact thL_inv (P := fun S => S.Fine g) (fun p hp S S' h hS => put_fine hg hn hi hp h hS) hc hS
end Go.Proofs.Yticnpbopelgmiaa
namespace Go.Proofs.Yticnpbopelgmiaa
open Go.RowKit

def lowB (n : Nat) (P : Int → Bool) : List Bool := (List.range n).map fun (k : Nat) => P (k : Int)
theorem lowB_has {n : Nat} {P : Int → Bool} {u : Int} : has (lowB n P) u = true ↔ 0 ≤ u ∧ u < n ∧ P u = true := by
  unfold has lowB
  by_cases h : 0 ≤ u
  · rw [decide_eq_true h, Bool.true_and, List.getD_eq_getElem?_getD]
    by_cases h2 : u.toNat < n
    · rw [List.getElem?_map, List.getElem?_range h2]
      simp only [Option.map_some, Option.getD_some]
      rw [show ((u.toNat : Nat) : Int) = u by omega]
      exact ⟨fun q => ⟨h, by omega, q⟩, fun q => q.2.2⟩
    · rw [List.getElem?_eq_none (by simpa using h2)]
      simp only [Option.getD_none]
      exact ⟨fun q => (by cases q), fun q => by omega⟩
  · rw [decide_eq_false h, Bool.false_and]
    exact ⟨fun q => (by cases q), fun q => absurd q.1 h⟩
theorem acyclic {h : Gram} (hh : h.ok) (rk : Int → Nat) (hrk : ∀ v u, 0 ≤ v → v < h.vars → u ∈ stepA h v → rk u < rk v) : cycL h = [] := by
  rw [show cycL h = selfN (ledM false h) h.vars.toNat by unfold cycL; rw [if_pos (by rw [hh.fault])]]
  refine List.eq_nil_iff_forall_not_mem.2 fun v hv => ?_
  unfold selfN at hv
  obtain ⟨k, hk, rfl⟩ := List.mem_map.1 hv
  obtain ⟨h1, h2⟩ := List.mem_filter.1 hk
  have h1 := List.mem_range.1 h1
  have hw := led_whole (c := false) hh (v := (k : Int)) (by omega) (by omega)
  have hlen := (ledM_sq (c := false) hh).at (u := (k : Int)) (by omega) (by omega)
  have hs := hw.least (lowB h.vars.toNat fun u => decide (rk u < rk k)) (by simp [lowB, hlen]) (fun u hu => by
    obtain ⟨s1, s2⟩ := step_in hh (v := (k : Int)) (by omega) (by omega) hu
    exact lowB_has.2 ⟨s1, by omega, decide_eq_true (hrk _ _ (by omega) (by omega) hu)⟩) (fun u hu x hx => by
    obtain ⟨t1, t2, t3⟩ := lowB_has.1 hu
    obtain ⟨s1, s2⟩ := step_in hh t1 (by omega) hx
    have := of_decide_eq_true t3
    have := hrk u x t1 (by omega) hx
    exact lowB_has.2 ⟨s1, by omega, decide_eq_true (by omega)⟩)
  have := lowB_has.1 (hs.sub _ h2)
  have := of_decide_eq_true this.2.2
  omega
end Go.Proofs.Yticnpbopelgmiaa
namespace Go.Proofs.Yticnpbopelgmiaa
open Go.RowKit

theorem fits_rules {g h : Gram} (e : g.rules = h.rules) : ∀ (x : Tree) (v : Int), fits g x v = fits h x v := by
  refine Tree.ind fun x ih v => ?_
  have key : ∀ (l : List Tree) (vs : List Int), (∀ y ∈ l, ∀ v, fits g y v = fits h y v) → fitss g l vs = fitss h l vs := by
    intro l
    induction l with
    | nil => intro vs _; rw [fitss.eq_def, fitss.eq_def]
    | cons y l ihl =>
      intro vs h1
      cases vs with
      | nil => rw [fitss.eq_def, fitss.eq_def]
      | cons v vs => rw [fitss, fitss, h1 y (by simp), ihl vs (fun z hz => h1 z (by simp [hz]))]
  rw [fits_eq, fits_eq, e]
  split
  · rfl
  · rw [key _ _ ih]
theorem wordT_rules {g h : Gram} (e : g.rules = h.rules) : ∀ x : Tree, wordT g x = wordT h x := by
  refine Tree.ind fun x ih => ?_
  have key : ∀ (ss : List Int) (l : List Tree), (∀ y ∈ l, wordT g y = wordT h y) → wordL g ss l = wordL h ss l := by
    intro ss
    induction ss with
    | nil => intro l _; rw [wordL_nil, wordL_nil]
    | cons s ss ihs =>
      intro l hl
      by_cases hs : s < 0
      · rw [wordL_neg hs, wordL_neg hs, ihs l hl]
      · cases l with
        | nil => rw [wordL_out hs, wordL_out hs, ihs [] hl]
        | cons y l => rw [wordL_pos hs, wordL_pos hs, hl y (by simp), ihs l (fun z hz => hl z (by simp [hz]))]
  rw [wordT_eq, wordT_eq, e, key _ _ ih]
theorem stG_start {g : Gram} (hg : g.ok) : stG g (stN g) = g := by
  have := hg.stN
  cases g with
  | mk a b c d => simp only [stG, this]
section
variable {g : Gram} (hg : g.ok) (hc : cycL g = []) {nl : List (List Tree)} (hnl : nlF g = some nl)
include hg hc hnl
theorem nl_fits : ∀ v, ∀ x ∈ nl.getD v [], fits g x (v : Int) = true := fun v x hx => by
  obtain ⟨h1, h2⟩ := nlF_at hnl
  by_cases hv : v < g.vars.toNat
  · obtain ⟨q1, q2⟩ := h2 v hv
    rw [q2] at hx
    have := ((fList_ok q1).mem hx).1.1
    exact (fits_rules (g := g) (h := stG g v) rfl x v).trans this
  · rw [List.getD_eq_getElem?_getD, List.getElem?_eq_none (by omega)] at hx
    cases hx
theorem nl_start {x : Tree} (hx : x ∈ nl.getD (stN g) []) : badEmpty g x = false := by
  obtain ⟨h1, h2⟩ := nlF_at hnl
  have hst := hg.start
  have hsn := hg.stN
  obtain ⟨q1, q2⟩ := h2 (stN g) (by omega)
  rw [q2] at hx
  obtain ⟨⟨w1, w2⟩, w3⟩ := (fList_ok q1).mem hx
  rw [stG_start hg] at w1 w2
  have e : treeFault g x g.start = ⟨0, 0⟩ := by unfold treeFault; rw [hg.fault, if_pos rfl, if_pos w3, if_pos w1]
  unfold badEmpty
  rw [e, w2]; rfl
theorem thin_good {S : TS} (h : thA nl 0 g.rules ⟨[], []⟩ = .ok S) : S.Fine g := thA_fine hg (nl_fits hg hc hnl) g.rules 0 _ S rfl h ⟨Nat.zero_le _, .nil, fun l hl => by simp at hl, fun q hq => by simp at hq⟩
end
theorem TS.Fine.ok {g : Gram} (hg : g.ok) {S : TS} (h : S.Fine g) : (⟨g.vars, g.terms, g.start, S.rules⟩ : Gram).ok :=
  ⟨hg.vars1, hg.vars, hg.terms0, hg.terms, hg.start0, hg.start, h.rules, fun r hr => (h.each r hr).2.1.2, fun r hr => (h.each r hr).1.1, fun r hr => (h.each r hr).1.2, fun r hr s hs => ((h.each r hr).2.2 s hs).1, fun r hr s hs => ((h.each r hr).2.2 s hs).2⟩
theorem thinF_cases (g : Gram) : (¬ (thinF g).2.code = 0 ∧ (thinF g).1 = zeroStep) ∨ ∃ nl S, g.ok ∧ cycL g = [] ∧ nlF g = some nl ∧ thA nl 0 g.rules ⟨[], []⟩ = .ok S ∧ thinF g = (⟨⟨g.vars, g.terms, g.start, S.rules⟩, S.frags, nl.getD (stN g) []⟩, ⟨0, 0⟩) := by
  unfold thinF
  by_cases h : (gramFault g).code = 0
  · rw [if_pos h]
    by_cases hc : cycL g = []
    · rw [if_pos hc]
      cases hn : nlF g with
      | none => exact .inl ⟨by simp, rfl⟩
      | some nl =>
        dsimp only
        cases hA : thA nl 0 g.rules ⟨[], []⟩ with
        | error i => exact .inl ⟨by simp, rfl⟩
        | ok S => exact .inr ⟨nl, S, gram_ok h, hc, rfl, hA, rfl⟩
    · rw [if_neg hc]; exact .inl ⟨by simp, rfl⟩
  · rw [if_neg h]; exact .inl ⟨h, rfl⟩
theorem thin_step {g : Gram} (h : (thinF g).2.code = 0) : stepFault g (thinF g).1 = ⟨0, 0⟩ := by
  rcases thinF_cases g with ⟨h1, _⟩ | ⟨nl, S, hg, hc, hn, hA, e⟩
  · exact absurd h h1
  · rw [e]
    have hS := thin_good hg hc hn hA
    have hlen : (nl.getD (stN g) []).length ≤ 200 := by
      obtain ⟨h1, h2⟩ := nlF_at hn
      have hst := hg.start
      have hsn := hg.stN
      obtain ⟨q1, q2⟩ := h2 (stN g) (by omega)
      rw [q2, (fList_ok q1).len]
      exact (fList_ok q1).few
    have hbad : (nl.getD (stN g) []).any (badEmpty g) = false := by
      rw [List.any_eq_false]
      intro x hx
      rw [nl_start hg hc hn hx]; simp
    rw [stepFault, if_pos (by rw [hg.fault]), if_pos (by rw [(hS.ok hg).fault])]
    dsimp only
    rw [if_pos hlen, hbad, if_neg (by simp), if_pos hS.parts.len, sfirst_ok hS.parts]
end Go.Proofs.Yticnpbopelgmiaa
namespace Go.Proofs.Yticnpbopelgmiaa
open Go.RowKit

/-- Where each rule comes from. -/
def TS.From (g : Gram) (nl : List (List Tree)) (S : TS) : Prop := ∀ q ∈ S.rules, ∃ r, ∃ hr : r < g.rules.length, q.left = g.rules[r].left ∧ ∃ p ∈ tups (optsN nl g.rules[r].right), q.right = (thM nl g.rules[r].right p 0).1
theorem put_from {g : Gram} {nl : List (List Tree)} {r : Nat} (hr : r < g.rules.length) {p : List Nat} (hp : p ∈ tups (optsN nl g.rules[r].right)) {S S' : TS} (h : S.put g.rules[r].left r (thM nl g.rules[r].right p 0).1 (thM nl g.rules[r].right p 0).2 = .ok S') (hS : S.From g nl) : S'.From g nl := by
  unfold TS.put at h
  split at h
  · cases h; exact hS
  split at h
  · cases h
  cases h
  intro q hq
  rcases List.mem_append.1 hq with hq | hq
  · exact hS q hq
  · rw [List.mem_singleton.1 hq]
    exact ⟨r, hr, rfl, p, hp, rfl⟩
theorem thA_from {g : Gram} {nl : List (List Tree)} : ∀ (rs : List Rule) (i : Nat) (S S' : TS), g.rules.drop i = rs → thA nl i rs S = .ok S' → S.From g nl → S'.From g nl
  | [], i, S, S', _, h, hS => by rw [thA] at h; cases h; exact hS
  | q :: rs, i, S, S', hd, h, hS => by
    have hi : i < g.rules.length := Classical.byContradiction fun hn => by
      rw [List.drop_of_length_le (by omega)] at hd; cases hd
    rw [List.drop_eq_getElem_cons hi] at hd
    obtain ⟨d1, d2⟩ := List.cons.inj hd
    rw [thA] at h
    cases hc : thR nl q.left i q.right 0 [] [] S with
    | error e => rw [hc] at h; cases h
    | ok S1 =>
      rw [hc] at h
      refine thA_from rs (i + 1) S1 S' d2 h ?_
      rw [thR_tups, ← d1] at hc
      simp only [List.nil_append] at hc
      exact thL_inv (P := fun S => S.From g nl) (fun p hp S S' h hS => put_from hi hp h hS) hc hS

/-! ### What was left out may be nothing -/
section
variable {nl : List (List Tree)} {B : List Bool} (hB : ∀ s : Nat, nl.getD s [] ≠ [] → has B (s : Int) = true)
include hB
theorem thM_nil : ∀ (ss : List Int) (p : List Nat) (h : Nat), p.length = (kids ss).length → (∀ k, ∀ q : k < (optsN nl ss).length, p.getD k 0 < (optsN nl ss)[k]) → (thM nl ss p h).1 = [] → inAll ss B = true
  | [], p, h, _, _, _ => rfl
  | s :: ss, p, h, hl, hp, he => by
    by_cases hs : s < 0
    · simp only [thM, hs, if_true] at he
      cases he
    · have e : optsN nl (s :: ss) = ((nl.getD s.toNat []).length + 1) :: optsN nl ss := by unfold optsN; rw [kidsP hs]; rfl
      rw [kidsP hs] at hl
      cases p with
      | nil => simp at hl
      | cons a p =>
        have hp' : ∀ k, ∀ q : k < (optsN nl ss).length, p.getD k 0 < (optsN nl ss)[k] := fun k q => by
          have := hp (k + 1) (by rw [e]; simpa using q)
          simpa only [e, List.getD_cons_succ, List.getElem_cons_succ] using this
        have h0 := hp 0 (by rw [e]; simp)
        simp only [e, List.getD_cons_zero, List.getElem_cons_zero] at h0
        cases a with
        | zero =>
          simp only [thM, hs, if_false] at he
          cases he
        | succ a =>
          simp only [thM, hs, if_false] at he
          have ih := thM_nil ss p h (by simpa using hl) hp' he
          have h1 := hB s.toNat (fun q => by rw [q] at h0; simp at h0)
          rw [show ((s.toNat : Nat) : Int) = s by omega] at h1
          simp only [inAll, List.all_cons, h1, Bool.true_and]
          exact ih
theorem thM_one {u : Int} (hu : 0 ≤ u) : ∀ (ss : List Int) (p : List Nat) (h : Nat), p.length = (kids ss).length → (∀ k, ∀ q : k < (optsN nl ss).length, p.getD k 0 < (optsN nl ss)[k]) → (thM nl ss p h).1 = [u] → ∃ pre post, ss = pre ++ u :: post ∧ inAll pre B = true ∧ inAll post B = true
  | [], p, h, _, _, he => by simp [thM] at he
  | s :: ss, p, h, hl, hp, he => by
    by_cases hs : s < 0
    · simp only [thM, hs, if_true] at he
      have := (List.cons.inj he).1
      omega
    · have e : optsN nl (s :: ss) = ((nl.getD s.toNat []).length + 1) :: optsN nl ss := by unfold optsN; rw [kidsP hs]; rfl
      rw [kidsP hs] at hl
      cases p with
      | nil => simp at hl
      | cons a p =>
        have hp' : ∀ k, ∀ q : k < (optsN nl ss).length, p.getD k 0 < (optsN nl ss)[k] := fun k q => by
          have := hp (k + 1) (by rw [e]; simpa using q)
          simpa only [e, List.getD_cons_succ, List.getElem_cons_succ] using this
        have h0 := hp 0 (by rw [e]; simp)
        simp only [e, List.getD_cons_zero, List.getElem_cons_zero] at h0
        cases a with
        | zero =>
          simp only [thM, hs, if_false] at he
          obtain ⟨h1, h2⟩ := List.cons.inj he
          subst h1
          exact ⟨[], ss, rfl, rfl, thM_nil hB ss p (h + 1) (by simpa using hl) hp' h2⟩
        | succ a =>
          simp only [thM, hs, if_false] at he
          obtain ⟨pre, post, e1, e2, e3⟩ := thM_one hu ss p h (by simpa using hl) hp' he
          have h1 := hB s.toNat (fun q => by rw [q] at h0; simp at h0)
          rw [show ((s.toNat : Nat) : Int) = s by omega] at h1
          refine ⟨s :: pre, post, by rw [e1]; rfl, ?_, e3⟩
          simp only [inAll, List.all_cons, h1, Bool.true_and]
          exact e2
end
theorem nl_null {g : Gram} (hg : g.ok) {nl : List (List Tree)} (hnl : nlF g = some nl) : ∀ s : Nat, nl.getD s [] ≠ [] → has (nulB g) (s : Int) = true := fun s hs => by
  obtain ⟨h1, h2⟩ := nlF_at hnl
  by_cases hv : s < g.vars.toNat
  · obtain ⟨q1, q2⟩ := h2 s hv
    have hok := stG_ok hg hv
    cases hl : nl.getD s [] with
    | nil => exact absurd hl hs
    | cons x l =>
      rw [q2] at hl
      have hx := ((fList_ok q1).mem (x := x) (by rw [hl]; simp)).1
      have hle := words_le hok (l := [x]) (List.pairwise_singleton _ _) (fun y hy => by rw [List.mem_singleton.1 hy]; exact hx)
      have hmC : manyC = 4611686018427387904 := rfl
      simp only [List.length_singleton] at hle
      have hne : wcns (stG g s) [] manyC s 0 0 ≠ 0 := by
        have : cntF (stG g s) [] = wcns (stG g s) [] manyC s 0 0 := rfl
        omega
      exact wcns_null hok hne
  · rw [List.getD_eq_getElem?_getD, List.getElem?_eq_none (by omega)] at hs
    exact absurd rfl hs
/-- Where no rule is empty nothing may be nothing. -/
theorem nul_none {h : Gram} (hr : ∀ q ∈ h.rules, q.right ≠ []) (v : Int) : has (nulB h) v = false := by
  cases hv : has (nulB h) v with
  | false => rfl
  | true =>
    have := (leftsOf_least (t := false) (g := h) (S := none_ h) (none_length h) (fun q hq hin => by
      cases hc : q.right with
      | nil => exact absurd hc (hr q hq)
      | cons x l =>
        simp only [asks, cond_false, hc, inAll, List.all_cons, none_has, Bool.false_and] at hin
        cases hin)).sub v hv
    rw [none_has] at this; cases this
theorem inAll_none {h : Gram} (hr : ∀ q ∈ h.rules, q.right ≠ []) {l : List Int} (hl : inAll l (nulB h) = true) : l = [] := by
  cases l with
  | nil => rfl
  | cons x l => simp only [inAll, List.all_cons, nul_none hr, Bool.false_and] at hl; cases hl
abbrev thG (g : Gram) (S : TS) : Gram := ⟨g.vars, g.terms, g.start, S.rules⟩
theorem thin_cyc {g : Gram} (hg : g.ok) (hc : cycL g = []) {nl : List (List Tree)} (hnl : nlF g = some nl) {S : TS} (hA : thA nl 0 g.rules ⟨[], []⟩ = .ok S) : cycL (thG g S) = [] := by
  have hS := thin_good hg hc hnl hA
  have hfr := thA_from g.rules 0 _ S rfl hA (fun q hq => by simp at hq)
  have hne : ∀ q ∈ (thG g S).rules, q.right ≠ [] := fun q hq => (hS.each q hq).2.1.1
  refine acyclic (hS.ok hg) (rnk g) fun v u hv0 hv1 hu => ?_
  obtain ⟨q, hq, e1, e2⟩ := overBy_mem.1 hu
  obtain ⟨k, hk, e3, e4⟩ := picks_mem.1 e2
  unfold pickAt at e3
  simp only [Bool.and_eq_true, Bool.false_or, decide_eq_true_eq] at e3
  obtain ⟨g0, g1, g2⟩ := e3
  have h1 := inAll_none hne g1
  have h2 := inAll_none hne g2
  have hone : q.right = [u] := by
    have hk0 : k = 0 := by
      have := congrArg List.length h1
      rw [List.length_take] at this
      simp only [List.length_nil] at this; omega
    subst hk0
    cases hr : q.right with
    | nil => rw [hr] at hk; simp at hk
    | cons x l =>
      rw [hr] at h2 e4
      simp only [Nat.zero_add, List.drop_succ_cons, List.drop_zero] at h2
      simp only [List.getD_cons_zero] at e4
      rw [h2, e4]
  have hu0 : 0 ≤ u := by rw [e4]; exact g0
  obtain ⟨r, hr, f1, p, hp, f2⟩ := hfr q hq
  obtain ⟨p1, p2⟩ := tups_mem _ _ hp
  have hko : (optsN nl g.rules[r].right).length = (kids g.rules[r].right).length := by simp [optsN]
  obtain ⟨pre, post, e5, e6, e7⟩ := thM_one (nl_null hg hnl) hu0 g.rules[r].right p 0 (by omega) p2 (by rw [← f2, hone])
  have hst : u ∈ stepA g v := by
    refine overBy_mem.2 ⟨g.rules[r], List.getElem_mem hr, by rw [← f1, e1], picks_mem.2 ⟨pre.length, by rw [e5]; simp, ?_, by rw [e5]; simp⟩⟩
    have q1 : g.rules[r].right.getD pre.length 0 = u := by rw [e5]; simp
    have q2 : g.rules[r].right.take pre.length = pre := by rw [e5]; simp
    have q3 : g.rules[r].right.drop (pre.length + 1) = post := by rw [e5]; simp
    unfold pickAt
    rw [q1, q2, q3, e6, e7]
    simp [hu0]
  exact rnk_lt hg hc hv0 hv1 hst

/-! ### Once more -/
theorem empty_list {h : Gram} (hh : h.ok) (hc : cycL h = []) (hr : ∀ q ∈ h.rules, q.right ≠ []) {v : Nat} (hv : v < h.vars.toNat) : fListF (stG h v) [] = ([], ⟨0, 0⟩) := by
  have h0 : cntF (stG h v) [] = 0 := Classical.byContradiction fun hn => by
    have h1 : wcns (stG h v) [] manyC v 0 0 ≠ 0 := hn
    have h2 := wcns_null (stG_ok hh hv) h1
    have h3 := nul_none (h := stG h v) hr (v : Int)
    rw [h2] at h3; cases h3
  have ho : opF (stG h v) [] = ⟨0, 0⟩ := by
    unfold opF
    rw [h0, if_neg (show ¬ 0 = manyC by decide), chF_of (stG_ok hh hv) (by rw [stG_cyc hh hv, hc])]
    rfl
  have e : fListF (stG h v) [] = if (opF (stG h v) []).code = 0 then (if 200 < cntF (stG h v) [] then ([], ⟨6, -1⟩) else listF (stG h v) [] (cntF (stG h v) []) 0 []) else ([], opF (stG h v) []) := rfl
  rw [e, ho, h0, if_pos rfl, if_neg (by omega), listF]
end Go.Proofs.Yticnpbopelgmiaa
