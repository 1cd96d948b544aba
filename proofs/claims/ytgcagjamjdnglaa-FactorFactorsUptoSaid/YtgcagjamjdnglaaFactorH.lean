/-
  Sim: factorBegun, FactorMakes return true.
-/
import Derived.Test.YtgcagjamjdnglaaFactorG
import Derived.Test.YtgcagjamjdnglaaFrC
import Derived.Test.YtgcagjamjdnglaaS5
set_option linter.unusedVariables false
set_option linter.unusedSimpArgs false
set_option linter.unusedSectionVars false
namespace Go.Proofs.Ytgcagjamjdnglaa
open Go.RowKit
set_option maxRecDepth 100000
-- SimX

theorem factor_way (g : Gram) : ∃ r, ((gramFault g).code = 0 → Fac g.vars.toNat (startW g) 0 r) ∧ ((gramFault g).code = 0 → ∀ z, r = .ok z → FInv g z z.length) := by
  by_cases h : (gramFault g).code = 0
  · have hg := gram_ok h
    obtain ⟨r, h1, h2⟩ := fac_ends hg 65 _ (by omega) (Nat.le_refl _) (start_inv hg)
    exact ⟨r, fun _ => h1, fun _ => h2⟩
  · exact ⟨.error 0, fun hh => absurd hh h, fun hh => absurd hh h⟩
theorem zeroStep_fitF : zeroStep.fit := ⟨⟨by decide, fun r hr => by simp [zeroStep] at hr⟩, by decide, fun l hl => by simp [zeroStep] at hl, by decide⟩
theorem factorS_cases {g : Gram} {r : Except Nat (List (List Work))} (hz : (gramFault g).code = 0 → ∀ z, r = .ok z → FInv g z z.length) :
    ((gramFault g).code ≠ 0 ∧ factorS g r = (zeroStep, gramFault g)) ∨ (∃ i : Nat, factorS g r = (zeroStep, ⟨6, (i : Int)⟩)) ∨
    ∃ z x, g.ok ∧ FInv g z z.length ∧ finW z 0 [] [] = .ok x ∧ factorS g r = (⟨outG g z x, x.2, []⟩, ⟨0, 0⟩) := by
  by_cases h : (gramFault g).code = 0
  · rw [factorS, if_pos h]
    cases r with
    | error v => exact .inr (.inl ⟨v, rfl⟩)
    | ok z =>
      cases hc : finW z 0 [] [] with
      | error v => exact .inr (.inl ⟨v, by rw [factorEnd]; simp only [hc]⟩)
      | ok x => exact .inr (.inr ⟨z, x, gram_ok h, hz h z rfl, hc, by rw [factorEnd]; simp only [hc]; rfl⟩)
  · rw [factorS, if_neg h]; exact .inl ⟨h, rfl⟩
theorem factorS_fit {g : Gram} {r : Except Nat (List (List Work))} (hz : (gramFault g).code = 0 → ∀ z, r = .ok z → FInv g z z.length) : (factorS g r).1.fit := by
  rcases factorS_cases hz with ⟨_, h⟩ | ⟨i, h⟩ | ⟨z, x, hg, hI, hx, h⟩
  · rw [h]; exact zeroStep_fitF
  · rw [h]; exact zeroStep_fitF
  · rw [h]
    have h1 := out_ok hg hI hx
    obtain ⟨h2, h3⟩ := out_slim hI hx
    exact ⟨h1.fit, (by show x.2.length ≤ _; omega), fun l hl => Nat.le_trans (h3 l hl) (by decide), by simp [cnts]⟩
theorem factorS_step {g : Gram} {r : Except Nat (List (List Work))} (hz : (gramFault g).code = 0 → ∀ z, r = .ok z → FInv g z z.length) (h0 : (factorS g r).2.code = 0) : stepFault g (factorS g r).1 = ⟨0, 0⟩ := by
  rcases factorS_cases hz with ⟨h1, h⟩ | ⟨i, h⟩ | ⟨z, x, hg, hI, hx, h⟩
  · rw [h] at h0; exact absurd h0 h1
  · rw [h] at h0; cases h0
  · rw [h]; exact out_step hg hI hx
def faG : Gram := ⟨1, 2, 0, [⟨0, [-1, -1]⟩, ⟨0, [-1, -2]⟩]⟩
def faW : List (List Work) := oneW 1 (startW faG) 0 (groupW ((startW faG).getD 0 []) 0)
theorem faG_fit : faG.fit := ⟨by decide, fun r hr => by simp [faG] at hr; rcases hr with rfl | rfl <;> decide⟩
theorem fa_way : Fac faG.vars.toNat (startW faG) 0 (.ok faW) :=
  .one (by decide) (by decide) (by decide) (.next (by decide) (by decide) (.next (by decide) (by decide) (.done (by decide))))
theorem fa_eq : factorS faG (.ok faW) = (⟨⟨2, 2, 0, [⟨0, [-1, 1]⟩, ⟨1, [-1]⟩, ⟨1, [-2]⟩]⟩, [headF 0 false, tailF 0 0, tailF 1 0], []⟩, ⟨0, 0⟩) := by kernel_rfl
theorem factorBegun_sim : ACalls Try.prog 18 [] [] (B true) [] := by
  refine ACalls.intro (n := 39) Try.func18 rfl rfl (by simp) (by rfl) ?_
  simp only [argFr]
  have h : ACalls Try.prog 21 [.d (.agg [iD 1, iD 2, iD 0, .sl false 2 [.agg [iD 0, ints false [-1, -1]], .agg [iD 0, ints false [-1, -2]]]])] [] (.tup [.d (stepD false (factorS faG (.ok faW)).1), .d (faultD (factorS faG (.ok faW)).2)]) [] :=
    factorMake_sim faG_fit (fun _ => fa_way)
  rw [fa_eq] at h
  have hs := sameInts_sim (t := false) (u := false) (xs := [-1, 1]) (ys := [-1, 1]) (by decide) (by decide)
  rw [decide_eq_true rfl] at hs
  repeat (first | refine wk ?_ | refine s_field (hr := ?_))
  refine s_callf [] (hA := h) (hr := ?_)
  repeat (first | refine wk ?_ | refine s_field (hr := ?_))
  refine s_callf [] (hA := hs) (hr := ?_)
  repeat (first | refine wk ?_ | refine s_field (hr := ?_))
  exact fin
set_option maxHeartbeats 4000000 in
theorem factorMakes_sim {g : Gram} (hl : g.rules.length ≤ 100000000) (hr : ∀ r ∈ g.rules, r.right.length ≤ 100000000) :
    ACalls Try.prog 3 [.d (gramD false g)] [] (B true) [] := by
  refine ACalls.intro (n := 49) Try.func3 rfl rfl (by simp) (by rfl) ?_
  simp only [argFr]
  have hf : g.fit := ⟨hl, hr⟩
  obtain ⟨r, hw, hz⟩ := factor_way g
  have hsf := factorS_fit (r := r) hz
  have hst := factorS_step (r := r) hz
  have hm := factorMake_sim hf hw
  have ho := factorOf_sim (t := false) hf hw
  generalize factorS g r = s at *
  have s0 := sameGram_sim (t := false) (u := false) hf hf
  rw [decide_eq_true rfl] at s0
  have q2 : decide (s.2 = s.2) = true := by simp
  repeat (first | refine wk ?_ | refine s_field (hr := ?_))
  refine s_call [] (hA := factorBegun_sim) (hr := ?_)
  repeat (first | refine wk ?_ | refine s_field (hr := ?_))
  refine s_call [] (hA := greatGram_sim hl hr) (hr := ?_)
  cases h1 : greatG g with
  | true => repeat (first | refine wk ?_ | refine s_field (hr := ?_)); exact fin
  | false =>
  repeat (first | refine wk ?_ | refine s_field (hr := ?_))
  refine s_call [] (hA := ownGram_sim hf) (hr := ?_)
  repeat (first | refine wk ?_ | refine s_field (hr := ?_))
  refine s_callf [] (hA := hm) (hr := ?_)
  repeat (first | refine wk ?_ | refine s_field (hr := ?_))
  refine s_callf [] (hA := ho) (hr := ?_)
  by_cases h0 : s.2.code = 0
  · have hsf2 := stepFault_sim (t := false) (u := false) hf hsf
    rw [hst h0] at hsf2
    repeat (first | refine wk ?_ | refine s_field (hr := ?_))
    refine s_call [] (hA := sameStep_sim (t := false) (u := false) hsf) (hr := ?_)
    repeat (first | refine wk ?_ | refine s_field (hr := ?_))
    refine s_callf [] (hA := s0) (hr := ?_)
    repeat (first | refine wk ?_ | refine s_field (hr := ?_))
    refine s_call [] (hA := hsf2) (hr := ?_)
    repeat (first | refine wk ?_ | refine s_field (hr := ?_))
    exact fin
  · repeat (first | refine wk ?_ | refine s_field (hr := ?_))
    refine s_call [] (hA := sameStep_sim (t := false) (u := false) hsf) (hr := ?_)
    repeat (first | refine wk ?_ | refine s_field (hr := ?_))
    refine s_callf [] (hA := s0) (hr := ?_)
    repeat (first | refine wk ?_ | refine s_field (hr := ?_))
    exact fin
theorem alike_head {a b : List Int} (h : alikeH a b = false) (ha : 0 < a.length) (hb : 0 < b.length) : a[0] ≠ b[0] := by
  cases a with
  | nil => simp at ha
  | cons x a =>
    cases b with
    | nil => simp at hb
    | cons y b => simpa [alikeH] using h
set_option maxHeartbeats 4000000 in
theorem factorFactors_sim {g : Gram} (hl : g.rules.length ≤ 100000000) (hr : ∀ r ∈ g.rules, r.right.length ≤ 100000000) :
    ACalls Try.prog 4 [.d (gramD false g)] [] (B true) [] := by
  refine ACalls.intro (n := 110) Try.func4 rfl rfl (by simp) (by rfl) ?_
  simp only [argFr]
  have hf : g.fit := ⟨hl, hr⟩
  obtain ⟨r, hw, hz⟩ := factor_way g
  have hm := factorMake_sim hf hw
  have hcs := factorS_cases (r := r) hz
  generalize factorS g r = s at *
  repeat (first | refine wk ?_ | refine s_field (hr := ?_))
  refine s_call [] (hA := factorBegun_sim) (hr := ?_)
  repeat (first | refine wk ?_ | refine s_field (hr := ?_))
  refine s_call [] (hA := greatGram_sim hl hr) (hr := ?_)
  cases h1 : greatG g with
  | true => repeat (first | refine wk ?_ | refine s_field (hr := ?_)); exact fin
  | false =>
  repeat (first | refine wk ?_ | refine s_field (hr := ?_))
  refine s_callf [] (hA := hm) (hr := ?_)
  repeat (first | refine wk ?_ | refine s_field (hr := ?_))
  rcases hcs with ⟨h0, h⟩ | ⟨i, h⟩ | ⟨z, x, hg, hI, hx, h⟩
  · rw [h]
    repeat (first | refine wk ?_ | refine s_field (hr := ?_))
    exact fin
  · rw [h]
    repeat (first | refine wk ?_ | refine s_field (hr := ?_))
    exact fin
  have k1 := out_ok hg hI hx
  have k2 := out_apart hI hx
  obtain ⟨k3, F, k4⟩ := out_again hg hI hx
  have hm2 := factorMake_sim k1.fit (fun _ => k3)
  rw [k4] at hm2
  rw [h]
  have k2 : (outG g z x).rules.Pairwise (fun a b => a.left = b.left → alikeH a.right b.right = false) := k2
  generalize outG g z x = G at *
  generalize x.2 = fs at *
  have hsl := k1.rules
  have hgr := k1.right
  rw [List.pairwise_iff_getElem] at k2
  repeat (first | refine wk ?_ | refine s_field (hr := ?_))
  refine t_loop (X := Nat) (fun i => i ≤ G.rules.length) (fun i => [(5, I i), (3, .ptr 3 0)]) (fun _ => [(3, stepBox false ⟨G, fs, []⟩)]) (fun i => G.rules.length - i) 0 (Nat.zero_le _) ?_
  intro i hi
  by_cases hlt : i < G.rules.length
  · repeat (first | refine wk ?_ | refine s_field (hr := ?_))
    refine t_loop (X := Nat) (fun k => k ≤ i) (fun k => [(6, I k), (5, I i), (3, .ptr 3 0)]) (fun _ => [(3, stepBox false ⟨G, fs, []⟩)]) (fun k => i - k) 0 (Nat.zero_le _) ?_
    intro k hk
    by_cases hki : k < i
    · have hkl : k < G.rules.length := by omega
      have q := k2 k i hkl hlt hki
      have r1 := hgr _ (List.getElem_mem hlt)
      have r2 := hgr _ (List.getElem_mem hkl)
      by_cases e1 : G.rules[i].left = G.rules[k].left
      · by_cases e2 : 0 < G.rules[i].right.length
        · by_cases e3 : 0 < G.rules[k].right.length
          · have e4 : decide (G.rules[i].right[0] = G.rules[k].right[0]) = false := decide_eq_false (fun e => alike_head (q e1.symm) e3 e2 e.symm)
            (repeat (first | refine wkz ?_ | refine s_field (hr := ?_)))
            exact t_next (k + 1)
          · (repeat (first | refine wkz ?_ | refine s_field (hr := ?_)))
            exact t_next (k + 1)
        · (repeat (first | refine wkz ?_ | refine s_field (hr := ?_)))
          exact t_next (k + 1)
      · (repeat (first | refine wkz ?_ | refine s_field (hr := ?_)))
        exact t_next (k + 1)
    · obtain rfl : k = i := by omega
      repeat (first | refine wk ?_ | refine s_field (hr := ?_))
      exact t_next (k + 1)
  · repeat (first | refine wk ?_ | refine s_field (hr := ?_))
    refine s_callf [] (hA := hm2) (hr := ?_)
    repeat (first | refine wk ?_ | refine s_field (hr := ?_))
    exact fin
end Go.Proofs.Ytgcagjamjdnglaa
