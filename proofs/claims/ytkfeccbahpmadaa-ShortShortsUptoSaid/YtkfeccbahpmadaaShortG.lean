/-
  Sim: shortBegun, ShortMakes, ShortShorts return true.
-/
import Derived.Test.YtkfeccbahpmadaaShortF
import Derived.Test.YtkfeccbahpmadaaFrC
import Derived.Test.YtkfeccbahpmadaaS5
set_option linter.unusedVariables false
set_option linter.unusedSimpArgs false
set_option linter.unusedSectionVars false
namespace Go.Proofs.Ytkfeccbahpmadaa
open Go.RowKit
set_option maxRecDepth 100000
-- SimX

def shG : Gram := ⟨2, 1, 0, [⟨0, [1]⟩, ⟨1, [-1]⟩]⟩
theorem shG_fit : shG.fit := ⟨by decide, fun r hr => by simp [shG] at hr; rcases hr with rfl | rfl <;> decide⟩
theorem sh_eq : shortS shG = (⟨⟨2, 1, 0, [⟨0, [-1]⟩, ⟨1, [-1]⟩]⟩, [[.mk 1 0 [.mk 1 1 []]], [.mk 1 1 []]], []⟩, ⟨0, 0⟩) := by kernel_rfl
theorem sh_make : ACalls Try.prog 21 [.d (.agg [iD 2, iD 1, iD 0, .sl false 2 [.agg [iD 0, ints false [1]], .agg [iD 1, ints false [-1]]]])] [] (.tup [.d (stepD false (shortS shG).1), .d (faultD (shortS shG).2)]) [] :=
  shortMake_sim shG_fit
theorem shortBegun_sim : ACalls Try.prog 18 [] [] (B true) [] := by
  refine ACalls.intro (n := 44) Try.func18 rfl rfl (by simp) (by rfl) ?_
  simp only [argFr]
  have h := sh_make
  rw [sh_eq] at h
  have hs := sameInts_sim (t := false) (u := false) (xs := [-1]) (ys := [-1]) (by decide) (by decide)
  rw [decide_eq_true rfl] at hs
  repeat (first | refine wk ?_ | refine s_field (hr := ?_))
  refine s_callf [] (hA := h) (hr := ?_)
  repeat (first | refine wk ?_ | refine s_field (hr := ?_))
  refine s_callf [] (hA := hs) (hr := ?_)
  repeat (first | refine wk ?_ | refine s_field (hr := ?_))
  exact fin
set_option maxHeartbeats 4000000 in
theorem shortMakes_sim {g : Gram} (hl : g.rules.length ≤ 100000000) (hr : ∀ r ∈ g.rules, r.right.length ≤ 100000000) :
    ACalls Try.prog 3 [.d (gramD false g)] [] (B true) [] := by
  refine ACalls.intro (n := 49) Try.func3 rfl rfl (by simp) (by rfl) ?_
  simp only [argFr]
  have hf : g.fit := ⟨hl, hr⟩
  have hsf := shortS_fit g
  have hst := @shortS_step g
  have hm := shortMake_sim hf
  have ho := shortOf_sim hf
  generalize shortS g = s at *
  have s0 := sameGram_sim (t := false) (u := false) hf hf
  rw [decide_eq_true rfl] at s0
  have q2 : decide (s.2 = s.2) = true := by simp
  repeat (first | refine wk ?_ | refine s_field (hr := ?_))
  refine s_call [] (hA := shortBegun_sim) (hr := ?_)
  repeat (first | refine wk ?_ | refine s_field (hr := ?_))
  refine s_call [] (hA := greatGram_sim hl hr) (hr := ?_)
  cases h1 : greatG g with
  | true => repeat (first | refine wk ?_ | refine s_field (hr := ?_)); exact fin
  | false =>
  repeat (first | refine wk ?_ | refine s_field (hr := ?_))
  refine s_call [] (hA := ownGram_sim hf) (hr := ?_)
  repeat (first | refine wk ?_ | refine s_field (hr := ?_))
  refine s_callf [] (hA := hm) (hr := ?_)
  repeat (first | refine wk ?_ | refine s_field (hr := ?_))
  refine s_callf [] (hA := ho) (hr := ?_)
  by_cases h0 : s.2.code = 0
  · have hsf2 := stepFault_sim (t := false) (u := false) hf hsf
    rw [hst h0] at hsf2
    repeat (first | refine wk ?_ | refine s_field (hr := ?_))
    refine s_call [] (hA := sameStep_sim (t := false) (u := false) hsf) (hr := ?_)
    repeat (first | refine wk ?_ | refine s_field (hr := ?_))
    refine s_callf [] (hA := s0) (hr := ?_)
    repeat (first | refine wk ?_ | refine s_field (hr := ?_))
    refine s_call [] (hA := hsf2) (hr := ?_)
    repeat (first | refine wk ?_ | refine s_field (hr := ?_))
    exact fin
  · repeat (first | refine wk ?_ | refine s_field (hr := ?_))
    refine s_call [] (hA := sameStep_sim (t := false) (u := false) hsf) (hr := ?_)
    repeat (first | refine wk ?_ | refine s_field (hr := ?_))
    refine s_callf [] (hA := s0) (hr := ?_)
    repeat (first | refine wk ?_ | refine s_field (hr := ?_))
    exact fin
set_option maxHeartbeats 4000000 in
theorem shortShorts_sim {g : Gram} (hl : g.rules.length ≤ 100000000) (hr : ∀ r ∈ g.rules, r.right.length ≤ 100000000) :
    ACalls Try.prog 4 [.d (gramD false g)] [] (B true) [] := by
  refine ACalls.intro (n := 88) Try.func4 rfl rfl (by simp) (by rfl) ?_
  simp only [argFr]
  have hf : g.fit := ⟨hl, hr⟩
  have hm := shortMake_sim hf
  repeat (first | refine wk ?_ | refine s_field (hr := ?_))
  refine s_call [] (hA := shortBegun_sim) (hr := ?_)
  repeat (first | refine wk ?_ | refine s_field (hr := ?_))
  refine s_call [] (hA := greatGram_sim hl hr) (hr := ?_)
  cases h1 : greatG g with
  | true => repeat (first | refine wk ?_ | refine s_field (hr := ?_)); exact fin
  | false =>
  repeat (first | refine wk ?_ | refine s_field (hr := ?_))
  refine s_callf [] (hA := hm) (hr := ?_)
  repeat (first | refine wk ?_ | refine s_field (hr := ?_))
  rcases shortS_cases g with ⟨h0, h⟩ | h | ⟨v, h⟩ | ⟨hg, hc, ha, h⟩
  · rw [h]
    repeat (first | refine wk ?_ | refine s_field (hr := ?_))
    exact fin
  · rw [h]
    repeat (first | refine wk ?_ | refine s_field (hr := ?_))
    exact fin
  · rw [h]
    repeat (first | refine wk ?_ | refine s_field (hr := ?_))
    exact fin
  have k1 := short_ok hg hc ha
  have k2 := short_again hg hc ha
  have k3 : ∀ r ∈ (shortOut g).g.rules, unitOf r.right < 0 := fun r hr => (srules_mem hg hc g.vars.toNat (Nat.le_refl _) r hr).2.2
  have hm2 := shortMake_sim k1.fit
  rw [h]
  have hsl := k1.rules
  have k4 : ∀ w, shortS (shortOut g).g = w → w = (zeroStep, ⟨10, -1⟩) ∨ ∃ z, w = (z, ⟨0, 0⟩) ∧ z.g.vars = (shortOut g).g.vars ∧ z.g.rules.length = (shortOut g).g.rules.length := fun w e => by
    rcases k2 with k | ⟨k, k'⟩
    · exact .inl (e.symm.trans k)
    · exact .inr ⟨_, e.symm.trans k, rfl, k'⟩
  generalize hW : shortS (shortOut g).g = W at *
  generalize shortOut g = z at *
  repeat (first | refine wk ?_ | refine s_field (hr := ?_))
  refine t_loop (X := Nat) (fun i => i ≤ z.g.rules.length) (fun i => [(5, I i), (3, .ptr 3 0)]) (fun _ => [(3, stepBox false z)]) (fun i => z.g.rules.length - i) 0 (Nat.zero_le _) ?_
  intro i hi
  by_cases hlt : i < z.g.rules.length
  · have hk := unit_neg.1 (k3 _ (List.getElem_mem hlt))
    by_cases h2 : z.g.rules[i].right.length = 1
    · have hk0 : z.g.rules[i].right[0] < 0 := by
        rcases hk with hk | hk
        · exact absurd h2 hk
        · rwa [List.getD_eq_getElem?_getD, List.getElem?_eq_getElem (by omega)] at hk
      repeat (first | refine wk ?_ | refine s_field (hr := ?_))
      exact t_next (i + 1)
    · (repeat (first | refine wkz ?_ | refine s_field (hr := ?_)))
      exact t_next (i + 1)
  · rcases k4 W rfl with rfl | ⟨z2, rfl, e1, e2⟩
    · repeat (first | refine wk ?_ | refine s_field (hr := ?_))
      refine s_callf [] (hA := hm2) (hr := ?_)
      (repeat (first | refine wkz ?_ | refine s_field (hr := ?_)))
      exact fin
    · repeat (first | refine wk ?_ | refine s_field (hr := ?_))
      refine s_callf [] (hA := hm2) (hr := ?_)
      repeat (first | refine wk ?_ | refine s_field (hr := ?_))
      exact fin
end Go.Proofs.Ytkfeccbahpmadaa
