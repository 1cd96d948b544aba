/-
  Short, plain: what the rules of a nonterminal give, one behind the other.
-/
import Derived.Test.YtkfeccbahpmadaaShortA
set_option linter.unusedVariables false
set_option linter.unusedSimpArgs false
set_option linter.unusedSectionVars false
namespace Go.Proofs.Ytkfeccbahpmadaa
open Go.RowKit

structure SS where
  gv : List Int
  R : List Rule
  F : List (List Frag)
def rulL (f : Int → SS → Bool × SS) : List Int → SS → Bool × SS
  | [], s => (true, s)
  | x :: l, s => if (f x s).1 = true then rulL f l (f x s).2 else (false, (f x s).2)
def rulM (g : Gram) (v : Int) : Nat → List Int → Int → SS → Bool × SS
  | 0, _, _, s => (true, s)
  | n + 1, p, i, s => if unitOf (rightAt g i) < 0 then (decide (fszs (wrapF p (nodeF i (kN g i))) ≤ 60), ⟨s.gv, s.R ++ [⟨v, rightAt g i⟩], s.F ++ [wrapF p (nodeF i (kN g i))]⟩)
    else if cw g (unitOf (rightAt g i)) = 0 then (true, ⟨cntM g 65 (unitOf (rightAt g i)).toNat s.gv, s.R, s.F⟩)
    else rulL (fun k s => rulM g v n (p ++ [i]) k s) (by_ g (unitOf (rightAt g i))) ⟨cntM g 65 (unitOf (rightAt g i)).toNat s.gv, s.R, s.F⟩
/-- What came of rules from E on: all of them, or one is too great. -/
structure Gives (g : Gram) (v : Int) (p : List Int) (E : List (List Int)) (s : SS) (r : Bool × SS) : Prop where
  gv : GOk g s.gv → GOk g r.2.gv
  len : s.F.length = s.R.length → r.2.F.length = r.2.R.length
  le : r.2.R.length ≤ s.R.length + E.length
  all : r.1 = true → r.2.R = s.R ++ E.map (ruleW g v) ∧ r.2.F = s.F ++ E.map (fun w => wrapF p (wayF g w)) ∧ ∀ w ∈ E, fszs (wrapF p (wayF g w)) ≤ 60
  one : r.1 = false → ∃ w ∈ E, 60 < fszs (wrapF p (wayF g w))
theorem rulL_gives {g : Gram} {v : Int} {p : List Int} {f : Int → SS → Bool × SS} : ∀ (l : List Int) (s : SS), (∀ k ∈ l, ∀ s, Gives g v p (wayOf g k) s (f k s)) → Gives g v p (l.flatMap (wayOf g)) s (rulL f l s)
  | [], s, _ => ⟨id, id, by simp [rulL], fun _ => by simp [rulL], fun h => by cases h⟩
  | x :: l, s, h => by
    have h1 := h x (by simp) s
    have h2 := rulL_gives l (f x s).2 (fun k hk => h k (by simp [hk]))
    rw [rulL, List.flatMap_cons]
    cases hb : (f x s).1 with
    | true =>
      rw [if_pos rfl]
      obtain ⟨a1, a2, a3⟩ := h1.all hb
      refine ⟨fun q => h2.gv (h1.gv q), fun q => h2.len (h1.len q), ?_, fun hr => ?_, fun hr => ?_⟩
      · have := h2.le
        rw [a1, List.length_append, List.length_map] at this
        rw [List.length_append]; omega
      · obtain ⟨b1, b2, b3⟩ := h2.all hr
        rw [b1, b2, a1, a2, List.map_append, List.map_append]
        refine ⟨by simp, by simp, fun w hw => ?_⟩
        rcases List.mem_append.1 hw with hw | hw
        · exact a3 w hw
        · exact b3 w hw
      · obtain ⟨w, hw, hs⟩ := h2.one hr
        exact ⟨w, List.mem_append.2 (.inr hw), hs⟩
    | false =>
      rw [if_neg (by decide)]
      obtain ⟨w, hw, hs⟩ := h1.one hb
      refine ⟨h1.gv, h1.len, ?_, fun h => (by cases h), fun _ => ⟨w, List.mem_append.2 (.inl hw), hs⟩⟩
      have := h1.le
      rw [List.length_append]; dsimp only; omega
section
variable {g : Gram} (hg : g.ok) (hc : cycL g = [])
include hg hc
theorem rulM_gives (v : Int) : ∀ (n : Nat) (v0 : Int) (p : List Int) (i : Int) (s : SS), 0 ≤ v0 → v0 < g.vars → i ∈ by_ g v0 → rnk g v0 < n → Gives g v p (wayOf g i) s (rulM g v n p i s) := by
  intro n
  induction n with
  | zero => intro v0 p i s _ _ _ h; omega
  | succ n ih =>
  intro v0 p i s h0 h1 hi hn
  rw [rulM]
  by_cases hu : unitOf (rightAt g i) < 0
  · rw [if_pos hu]
    have hE : wayOf g i = [[i]] := by unfold wayOf; rw [if_pos hu]
    have hw : wayF g [i] = nodeF i (kN g i) := by rw [wayF]
    rw [hE]
    refine ⟨id, fun h => by simp [h], by simp, fun hr => ?_, fun hr => ?_⟩
    · refine ⟨by simp [ruleW, lastW], by simp [hw], fun w hm => ?_⟩
      rw [List.mem_singleton] at hm; subst hm; rw [hw]; exact of_decide_eq_true hr
    · refine ⟨[i], by simp, ?_⟩
      rw [hw]
      have := of_decide_eq_false hr
      omega
  · rw [if_neg hu]
    have hs := unit_step hi (by omega)
    obtain ⟨u0, u1⟩ := step_in hg h0 h1 hs
    have hr := rnk_lt hg hc h0 h1 hs
    have hwe := ways_eq hg hc u0 u1
    have hE : wayOf g i = (ways g (unitOf (rightAt g i))).map (i :: ·) := by unfold wayOf; rw [if_neg hu]
    generalize unitOf (rightAt g i) = u at *
    by_cases h0c : cw g u = 0
    · rw [if_pos h0c]
      have hz : ways g u = [] := List.length_eq_zero_iff.1 (by unfold cw at h0c; omega)
      rw [hE, hz]
      exact ⟨fun h => cntM_ok _ _ _ h, id, by simp, fun _ => by simp, fun h => by cases h⟩
    · rw [if_neg h0c]
      have hL := rulL_gives (g := g) (v := v) (p := p ++ [i]) (f := fun k s => rulM g v n (p ++ [i]) k s) (by_ g u) ⟨cntM g 65 u.toNat s.gv, s.R, s.F⟩ (fun k hk s => ih u (p ++ [i]) k s u0 u1 hk (by omega))
      rw [← hwe] at hL
      have hne : ∀ w ∈ ways g u, w ≠ [] := fun w hw => by
        rw [hwe] at hw
        obtain ⟨k, _, hk⟩ := List.mem_flatMap.1 hw
        exact wayOf_ne hk
      have hF : ∀ w ∈ ways g u, wrapF (p ++ [i]) (wayF g w) = wrapF p (wayF g (i :: w)) := fun w hw => by rw [wrapF_snoc, wayF_cons g i (hne w hw)]
      have hR : ∀ w ∈ ways g u, ruleW g v w = ruleW g v (i :: w) := fun w hw => by unfold ruleW; rw [lastW_cons i (hne w hw)]
      rw [hE]
      refine ⟨fun h => hL.gv (cntM_ok _ _ _ h), hL.len, by have := hL.le; simpa using this, fun hr => ?_, fun hr => ?_⟩
      · obtain ⟨a1, a2, a3⟩ := hL.all hr
        refine ⟨?_, ?_, fun w hw => ?_⟩
        · rw [a1, List.map_map]
          congr 1
          exact List.map_congr_left hR
        · rw [a2, List.map_map]
          congr 1
          exact List.map_congr_left hF
        · obtain ⟨x, hx, rfl⟩ := List.mem_map.1 hw
          rw [← hF x hx]; exact a3 x hx
      · obtain ⟨w, hw, hs⟩ := hL.one hr
        exact ⟨i :: w, List.mem_map.2 ⟨w, hw, rfl⟩, by rw [← hF w hw]; exact hs⟩
end
end Go.Proofs.Ytkfeccbahpmadaa
