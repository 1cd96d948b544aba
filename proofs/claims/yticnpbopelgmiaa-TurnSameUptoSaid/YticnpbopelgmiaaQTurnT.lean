/-
  Turn, plain: nothing begins with itself. Sim: Corners. Sim: the reference's alike, grouped, OwnFrag, worksOf, stepOf. Sim: the reference's worksOf, stepOf. Sim: the reference's FactorOf. Sim: factorBegun, FactorMakes return true. Sim: turnBegun, TurnTurns returns true. Steps whose new nonterminals stand for rows of old symbols, plain: they lead the trees back. Steps whose new nonterminals stand for what rules have in common behind their beginnings, plain: they lead the trees back.
-/
import Derived.Test.YticnpbopelgmiaaTurnR
import Derived.Test.YticnpbopelgmiaaQThF
import Derived.Test.YticnpbopelgmiaaQChartP
import Derived.Test.YticnpbopelgmiaaF2
import Derived.Test.YticnpbopelgmiaaQTurnC
import Derived.Test.YticnpbopelgmiaaQTreeB
import Derived.Test.YticnpbopelgmiaaQS5
import Derived.Test.YticnpbopelgmiaaTurnD
import Derived.Test.YticnpbopelgmiaaQFrQ
import Derived.Test.YticnpbopelgmiaaQP1
set_option linter.unusedVariables false
set_option linter.unusedSimpArgs false
set_option linter.unusedSectionVars false
namespace Go.Proofs.Yticnpbopelgmiaa
open Go.RowKit

theorem aheadIn_all {Q : Work → Prop} {x : Work} : ∀ {ys out out' : List Work}, (∀ y ∈ ys, Q (mixW x y)) → (∀ w ∈ out, Q w) → aheadIn x ys out = some out' → ∀ w ∈ out', Q w
  | [], out, out', _, ho, h => by rw [aheadIn] at h; cases h; exact ho
  | y :: ys, out, out', hy, ho, h => by
    rw [aheadIn] at h
    split at h
    · cases h
    · exact aheadIn_all (fun z hz => hy z (by simp [hz])) (fun w hw => by
        rcases List.mem_append.1 hw with hw | hw
        · exact ho w hw
        · rw [List.mem_singleton.1 hw]; exact hy y (by simp)) h
theorem aheadW_all {P Q : Work → Prop} {A : List Work} {u : Int} (h1 : ∀ x, P x → hdI x.right ≠ u → Q x) (h2 : ∀ x, P x → hdI x.right = u → ∀ y ∈ A, Q (mixW x y)) : ∀ {l out l' : List Work}, (∀ w ∈ l, P w) → (∀ w ∈ out, Q w) → aheadW A u l out = some l' → ∀ w ∈ l', Q w
  | [], out, l', _, ho, h => by
    rw [aheadW] at h
    split at h
    · cases h
    · cases h; exact ho
  | x :: l, out, l', hl, ho, h => by
    have hx := hl x (by simp)
    rw [aheadW] at h
    split at h
    · rename_i hu
      exact aheadW_all h1 h2 (fun w hw => hl w (by simp [hw])) (fun w hw => by
        rcases List.mem_append.1 hw with hw | hw
        · exact ho w hw
        · rw [List.mem_singleton.1 hw]; exact h1 x hx hu) h
    · rename_i hu
      have hu : hdI x.right = u := Classical.byContradiction fun q => hu q
      cases hc : aheadIn x A out with
      | none => rw [hc] at h; cases h
      | some out1 =>
        rw [hc] at h
        exact aheadW_all h1 h2 (fun w hw => hl w (by simp [hw])) (aheadIn_all (h2 x hx hu) ho hc) h

/-- A rule of the old nonterminal v: with what it may begin. -/
structure HOk (g : Gram) (v u : Nat) (w : Work) : Prop where
  ne : w.right ≠ []
  old : hdI w.right < g.vars
  from_ : hdI w.right < 0 ∨ (u : Int) ≤ hdI w.right
  unit : ∀ s, w.right = [s] → 0 ≤ s → rnk g s < rnk g (v : Int)
structure Hd (g : Gram) (all : List (List Work)) (k : Nat) : Prop where
  old : ∀ v, v < g.vars.toNat → ∀ w ∈ all.getD v [], HOk g v (if v < k then v + 1 else 0) w
  new : ∀ u, g.vars.toNat ≤ u → ∀ w ∈ all.getD u [], w.right ≠ [] ∧ hdI w.right < (u : Int)
theorem hdI_app {a b : List Int} (h : a ≠ []) : hdI (a ++ b) = hdI a := by
  cases a with
  | nil => exact absurd rfl h
  | cons x a => rfl
theorem mix_hok {g : Gram} {v u : Nat} {x y : Work} (hx : HOk g v u x) (hu : hdI x.right = (u : Int)) (hy : HOk g u (u + 1) y) : HOk g v (u + 1) (mixW x y) := by
  have e : (mixW x y).right = y.right ++ x.right.tail := rfl
  refine ⟨?_, ?_, ?_, fun s hs h0 => ?_⟩
  · rw [e]; intro q; exact hy.ne (List.append_eq_nil_iff.1 q).1
  · rw [e, hdI_app hy.ne]; exact hy.old
  · rw [e, hdI_app hy.ne]; exact hy.from_
  · rw [e] at hs
    have hl := congrArg List.length hs
    rw [List.length_append, List.length_singleton] at hl
    have h1 : 0 < y.right.length := List.length_pos_iff.2 hy.ne
    have ht : x.right.tail = [] := List.length_eq_zero_iff.1 (by omega)
    rw [ht, List.append_nil] at hs
    have hc := hd_cons hx.ne hu
    rw [ht] at hc
    have q1 := hx.unit _ hc (by omega)
    have q2 := hy.unit s hs h0
    omega
theorem aheads_hok {g : Gram} {all : List (List Work)} {k v : Nat} (hH : Hd g all k) (hk : k ≤ g.vars.toNat) : ∀ (n u : Nat) {l l' : List Work}, u + n ≤ k → (∀ w ∈ l, HOk g v u w) → aheads all u n l = some l' → ∀ w ∈ l', HOk g v (u + n) w
  | 0, u, l, l', _, hl, h => by rw [aheads] at h; cases h; exact hl
  | n + 1, u, l, l', hn, hl, h => by
    rw [aheads] at h
    cases hc : aheadW (all.getD u []) u l [] with
    | none => rw [hc] at h; cases h
    | some l1 =>
      rw [hc] at h
      have h1 := aheadW_all (P := HOk g v u) (Q := HOk g v (u + 1)) (fun x hx hne => ⟨hx.ne, hx.old, by have := hx.from_; omega, hx.unit⟩) (fun x hx hu y hy => by
        have := hH.old u (by omega) y hy
        rw [if_pos (by omega)] at this
        exact mix_hok hx hu this) hl (fun w hw => by cases hw) hc
      have := aheads_hok hH hk n (u + 1) (by omega) h1 h
      rw [show u + 1 + n = u + (n + 1) by omega] at this
      exact this
theorem itself_hd {g : Gram} {all : List (List Work)} {v B : Nat} (hI : TInv g all) (hH : Hd g all v) (hv : v < g.vars.toNat) {l : List Work} (hl : ∀ w ∈ l, HOk g v v w) (ht : ∀ w ∈ l, TOk g B 10 all.length true w) : Hd g (itselfW all l v) (v + 1) := by
  have hva : v < all.length := Nat.lt_of_lt_of_le hv hI.vars
  have hup : ∀ x ∈ otherW v l, HOk g v (v + 1) x := fun x hx => by
    obtain ⟨h1, h2⟩ := List.mem_filter.1 hx
    have h := hl x h1
    have h3 : ¬ hdI x.right = v := by simpa using h2
    exact ⟨h.ne, h.old, by have := h.from_; omega, h.unit⟩
  have hsame : ∀ u, u < g.vars.toNat → u ≠ v → ∀ w ∈ all.getD u [], HOk g u (if u < v + 1 then u + 1 else 0) w := fun u hu hne w hw => by
    have := hH.old u hu w hw
    by_cases q : u < v
    · rw [if_pos q] at this; rw [if_pos (by omega)]; exact this
    · rw [if_neg q] at this; rw [if_neg (by omega)]; exact this
  unfold itselfW
  split
  · rename_i h0
    have hno : ∀ w ∈ l, w ∈ otherW v l := fun w hw => List.mem_filter.2 ⟨hw, by
      simp only [Bool.not_eq_true', decide_eq_false_iff_not]
      intro q
      have : w ∈ l.filter fun x => decide (hdI x.right = v) := List.mem_filter.2 ⟨hw, decide_eq_true q⟩
      have h1 : (l.filter fun x => decide (hdI x.right = v)).length = 0 := by rw [← h0, ownW, List.length_map]
      rw [List.length_eq_zero_iff.1 h1] at this
      cases this⟩
    refine ⟨fun u hu w hw => ?_, fun u hu w hw => ?_⟩
    · by_cases huv : u = v
      · subst huv
        rw [List.getD_eq_getElem?_getD, List.getElem?_set_self hva, Option.getD_some] at hw
        rw [if_pos (by omega)]
        exact hup w (hno w hw)
      · rw [List.getD_eq_getElem?_getD, List.getElem?_set_ne (fun e => huv e.symm), ← List.getD_eq_getElem?_getD] at hw
        exact hsame u hu huv w hw
    · rw [List.getD_eq_getElem?_getD, List.getElem?_set_ne (by omega), ← List.getD_eq_getElem?_getD] at hw
      exact hH.new u hu w hw
  · refine ⟨fun u hu w hw => ?_, fun u hu w hw => ?_⟩
    · by_cases huv : u = v
      · subst huv
        rw [List.getD_eq_getElem?_getD, List.getElem?_set_self (by simp; omega), Option.getD_some] at hw
        rw [if_pos (by omega)]
        obtain ⟨x, hx, hw⟩ := List.mem_flatMap.1 hw
        have h := hup x hx
        simp only [thenW, List.mem_cons, List.not_mem_nil, or_false] at hw
        rcases hw with rfl | rfl
        · exact h
        · refine ⟨by simp, ?_, ?_, fun s hs _ => ?_⟩
          · show hdI (x.right ++ _) < _
            rw [hdI_app h.ne]; exact h.old
          · show hdI (x.right ++ _) < 0 ∨ _ ≤ hdI (x.right ++ _)
            rw [hdI_app h.ne]; exact h.from_
          · have hl := congrArg List.length (show x.right ++ [(all.length : Int)] = [s] from hs)
            rw [List.length_append, List.length_singleton, List.length_singleton] at hl
            exact absurd (List.length_eq_zero_iff.1 (by omega)) h.ne
      · rw [List.getD_eq_getElem?_getD, List.getElem?_set_ne (fun e => huv e.symm), ← List.getD_eq_getElem?_getD] at hw
        rw [List.getD_eq_getElem?_getD, List.getElem?_append_left (by have := hI.vars; omega), ← List.getD_eq_getElem?_getD] at hw
        exact hsame u hu huv w hw
    · rw [List.getD_eq_getElem?_getD, List.getElem?_set_ne (by omega), ← List.getD_eq_getElem?_getD] at hw
      by_cases hua : u < all.length
      · rw [List.getD_eq_getElem?_getD, List.getElem?_append_left hua, ← List.getD_eq_getElem?_getD] at hw
        exact hH.new u hu w hw
      · by_cases hue : u = all.length
        · subst hue
          rw [List.getD_eq_getElem?_getD, List.getElem?_append_right (Nat.le_refl _), Nat.sub_self] at hw
          have hw : w ∈ (ownW v l).flatMap (thenW all.length) := hw
          obtain ⟨x, hx, hw⟩ := List.mem_flatMap.1 hw
          obtain ⟨y, hy, rfl⟩ := List.mem_map.1 hx
          obtain ⟨hy1, hy2⟩ := List.mem_filter.1 hy
          have hy2 := of_decide_eq_true hy2
          have h := hl y hy1
          have hc := hd_cons h.ne hy2
          have hne : y.right.tail ≠ [] := fun q => by
            rw [q] at hc
            have := h.unit _ hc (by omega)
            omega
          have hlt : hdI y.right.tail < (all.length : Int) := by
            have hm : hdI y.right.tail ∈ y.right.tail := by
              cases hq : y.right.tail with
              | nil => exact absurd hq hne
              | cons a r => simp [hdI]
            exact ((ht y hy1).sym _ (List.mem_of_mem_tail hm)).2
          simp only [thenW, List.mem_cons, List.not_mem_nil, or_false] at hw
          rcases hw with rfl | rfl
          · exact ⟨hne, hlt⟩
          · refine ⟨by simp, ?_⟩
            show hdI (y.right.tail ++ _) < _
            rw [hdI_app hne]; exact hlt
        · rw [List.getD_eq_getElem?_getD, List.getElem?_eq_none (by simp; omega)] at hw
          cases hw
theorem turnAll_hd {g : Gram} (hg : g.ok) : ∀ (n v : Nat) {all z : List (List Work)}, v + n = g.vars.toNat → TInv g all → Hd g all v → turnAll v n all = .ok z → Hd g z g.vars.toNat
  | 0, v, all, z, hv, hI, hH, h => by rw [turnAll] at h; cases h; rw [← hv]; exact hH
  | n + 1, v, all, z, hv, hI, hH, h => by
    rw [turnAll] at h
    cases hc : aheads all 0 v (all.getD v []) with
    | none => rw [hc] at h; cases h
    | some l =>
      rw [hc] at h
      dsimp only at h
      split at h
      · rename_i hf
        have h1 := round_ok hg hI (by omega) hc hf
        have h0 : ∀ w ∈ all.getD v [], TOk g 60 10 all.length true w := fun w hw => by
          have := hI.ok v w hw
          rw [decide_eq_true (by omega)] at this; exact this
        have h160 : (all.getD v []).length ≤ 160 := by
          by_cases q : v < all.length
          · refine hI.wide _ ?_
            rw [List.getD_eq_getElem?_getD, List.getElem?_eq_getElem q]; exact List.getElem_mem q
          · rw [List.getD_eq_getElem?_getD, List.getElem?_eq_none (by omega)]; simp
        obtain ⟨k1, k2⟩ := aheads_ok hI v 0 (by omega) h0 h160 hc
        have k3 := aheads_hok (v := v) hH (by omega) v 0 (by omega) (fun w hw => by
          have := hH.old v (by omega) w hw
          rw [if_neg (by omega)] at this; exact this) hc
        rw [Nat.zero_add] at k3
        exact turnAll_hd hg n (v + 1) (by omega) h1 (itself_hd hI hH (by omega) k3 k1) h
      · cases h
theorem unit_step {g : Gram} {r : Rule} {s : Int} (hr : r ∈ g.rules) (h : r.right = [s]) (h0 : 0 ≤ s) : s ∈ stepA g r.left :=
  stepA_iff.2 ⟨r, hr, rfl, [], [], h, h0, rfl, rfl⟩
theorem start_hd {g : Gram} (hg : g.ok) (he : ∀ r ∈ g.rules, r.right ≠ []) (hc : cycL g = []) : Hd g (startW g) 0 := by
  refine ⟨fun v hv w hw => ?_, fun u hu w hw => ?_⟩
  · rw [startW_get hv] at hw
    obtain ⟨i, hi, rfl⟩ := List.mem_map.1 hw
    obtain ⟨j, hj, rfl, hl, e⟩ := by_atR hi
    rw [e]
    have hm := List.getElem_mem hj
    have hne := he _ hm
    refine ⟨hne, ?_, ?_, fun s hs h0 => ?_⟩
    · show hdI g.rules[j].right < _
      cases hq : g.rules[j].right with
      | nil => exact absurd hq hne
      | cons a r =>
        have := hg.hi _ hm a (by rw [hq]; simp)
        exact this
    · rw [if_neg (by omega)]
      show hdI g.rules[j].right < 0 ∨ ((0 : Nat) : Int) ≤ hdI g.rules[j].right
      omega
    · have h1 := unit_step hm hs h0
      have h2 := rnk_lt hg hc (hg.left0 _ hm) (hg.left _ hm) h1
      rw [hl] at h2; exact h2
  · rw [startW_out (by omega)] at hw; cases hw
theorem no_null {h : Gram} (hh : h.ok) (he : ∀ r ∈ h.rules, r.right ≠ []) (s : Int) : has (leftsOf false h) s = false := by
  cases hc : has (leftsOf false h) s with
  | false => rfl
  | true =>
    exact (null_ind hh (fun _ => False) (fun q hq hin => by
      cases hr : q.right with
      | nil => exact he q hq hr
      | cons a r => exact (hin a (by rw [hr]; simp)).2) s hc).elim
end Go.Proofs.Yticnpbopelgmiaa
namespace Go.Proofs.Yticnpbopelgmiaa
open Go.RowKit
set_option maxRecDepth 100000

end Go.Proofs.Yticnpbopelgmiaa
namespace Go.Proofs.Yticnpbopelgmiaa
open Go.RowKit
set_option maxRecDepth 100000
-- SimX

end Go.Proofs.Yticnpbopelgmiaa
namespace Go.Proofs.Yticnpbopelgmiaa
open Go.RowKit
set_option maxRecDepth 100000
-- SimX

end Go.Proofs.Yticnpbopelgmiaa
namespace Go.Proofs.Yticnpbopelgmiaa
open Go.RowKit
set_option maxRecDepth 100000
-- SimX

end Go.Proofs.Yticnpbopelgmiaa
namespace Go.Proofs.Yticnpbopelgmiaa
open Go.RowKit
set_option maxRecDepth 100000
-- SimX

end Go.Proofs.Yticnpbopelgmiaa
namespace Go.Proofs.Yticnpbopelgmiaa
open Go.RowKit
set_option maxRecDepth 100000
-- SimX

theorem agG_fit : againG.fit := ⟨by decide, fun r hr => by simp [againG] at hr; rcases hr with rfl | rfl <;> decide⟩
theorem ag_eq : turnS againG = (⟨⟨2, 2, 0, [⟨0, [-2]⟩, ⟨0, [-2, 1]⟩, ⟨1, [-1]⟩, ⟨1, [-1, 1]⟩]⟩, (turnS againG).1.frags, []⟩, ⟨0, 0⟩) := by kernel_rfl
set_option maxHeartbeats 4000000 in
theorem turnBegun_sim : ACalls Try.prog 21 [] [] (B true) [] := by
  refine ACalls.intro (n := 34) Try.func21 rfl rfl (by simp) (by rfl) ?_
  simp only [argFr]
  have h := turnMake_sim agG_fit
  rw [ag_eq] at h
  generalize (turnS againG).1.frags = F at *
  have hs := sameInts_sim (t := false) (u := false) (xs := [-2, 1]) (ys := [-2, 1]) (by decide) (by decide)
  rw [decide_eq_true rfl] at hs
  repeat (first | refine wk ?_ | refine s_field (hr := ?_))
  --@
  refine s_call [] (hA := again_sim) (hr := ?_)
  repeat (first | refine wk ?_ | refine s_field (hr := ?_))
  --@
  refine s_call [] (hA := h) (hr := ?_)
  repeat (first | refine wk ?_ | refine s_field (hr := ?_))
  --@
  refine s_callf [] (hA := hs) (hr := ?_)
  repeat (first | refine wk ?_ | refine s_field (hr := ?_))
  exact fin
end Go.Proofs.Yticnpbopelgmiaa
namespace Go.Proofs.Yticnpbopelgmiaa
open Go.RowKit

/-! ### Rows -/
section
variable {g : Gram}
end

/-! ### Nonterminals that stand for rows -/
section
variable {g : Gram} (σ : Int → List Int)
variable {σ} {h : Gram} {F : List (List Frag)} {T : List Int}
/-! ### It is no more cyclic -/
end
end Go.Proofs.Yticnpbopelgmiaa
namespace Go.Proofs.Yticnpbopelgmiaa
open Go.RowKit

/-! ### Gaps -/
theorem fill_fits {g : Gram} (w : List Tree) : ∀ (x : Tree) (v : Int), fits g x v = true → fillT w x = [x] := by
  refine Tree.ind fun x ih v hf => ?_
  obtain ⟨r, hr, e1, e2, e3, e4, _⟩ := fits_parts hf
  have key : ∀ (l : List Tree) (vs : List Int), (∀ y ∈ l, ∀ v, fits g y v = true → fillT w y = [y]) → l.length = vs.length → fitss g l vs = true → fillL w l = l := by
    intro l
    induction l with
    | nil => intro _ _ _ _; rfl
    | cons y l ihl =>
      intro vs h1 h2 h3
      cases vs with
      | nil => simp at h2
      | cons v vs =>
        rw [fitss, Bool.and_eq_true] at h3
        rw [fillL, h1 y (by simp) v h3.1, ihl vs (fun z hz => h1 z (by simp [hz])) (by simpa using h2) h3.2]; rfl
  rw [fillT_eq, if_neg (by omega), key x.kids _ ih e3.symm e4, ← Tree.eta]
/-! ### Who stands above whom -/
section
variable {par : Nat → Nat} {V H : Nat} (hp : ∀ u, V ≤ u → u < H → par u < u)
include hp
end
/-! ### What each stands for -/
def FacOk (g h : Gram) (γ : Nat → List Int) (par loc : Nat → Nat) (t : Int) (q : Rule) (F : List Frag) : Prop :=
  (∃ (r : Nat) (hr : r < g.rules.length), t = -1 - (r : Int) ∧ q.left = (loc r : Int) ∧ g.rules[r].right = γ (loc r) ++ q.right ∧ F = plainF r (kids q.right).length (gapAt g (loc r))) ∨
  (∃ (N : Nat) (p : List Int), t = (N : Int) ∧ g.vars ≤ (N : Int) ∧ (N : Int) < h.vars ∧ q.left = (par N : Int) ∧ q.right = p ++ [(N : Int)] ∧ γ N = γ (par N) ++ p ∧ (∀ s ∈ p, s < g.vars) ∧ F = headF (kids p).length (gapAt g (par N)))
structure Facd (g h : Gram) (F : List (List Frag)) (γ : Nat → List Int) (par loc b : Nat → Nat) (T : List Int) : Prop where
  vars : g.vars ≤ h.vars
  len : T.length = h.rules.length
  nodup : T.Nodup
  all : ∀ r : Nat, r < g.rules.length → (-1 - (r : Int)) ∈ T
  locv : ∀ r : Nat, r < g.rules.length → (loc r : Int) < h.vars
  new : ∀ N : Nat, g.vars ≤ (N : Int) → (N : Int) < h.vars → (N : Int) ∈ T
  up : ∀ N : Nat, g.vars.toNat ≤ N → N < h.vars.toNat → par N < N
  ok : ∀ (j : Nat) (hj : j < h.rules.length) (hT : j < T.length), FacOk g h γ par loc T[j] h.rules[j] (F.getD j [])
  old : ∀ v : Nat, (v : Int) < g.vars → γ v = [] ∧ b v = v
  base : ∀ N : Nat, g.vars ≤ (N : Int) → (N : Int) < h.vars → b N = b (par N)
  left : ∀ (r : Nat) (hr : r < g.rules.length), g.rules[r].left = (b (loc r) : Int)
  pre : ∀ N : Nat, g.vars ≤ (N : Int) → (N : Int) < h.vars → ∃ p, γ N = γ (par N) ++ p
section
variable {g h : Gram} {F : List (List Frag)} {γ : Nat → List Int} {par loc b : Nat → Nat} {T : List Int}
variable (R : Facd g h F γ par loc b T) (hg : g.ok)
include R hg
omit R hg in
omit R hg in
end
end Go.Proofs.Yticnpbopelgmiaa
