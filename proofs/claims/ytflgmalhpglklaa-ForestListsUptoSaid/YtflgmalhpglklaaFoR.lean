/-
  Forest: Rank, RankOf, Ahead. Forest, the reference: Ahead.
-/
import Derived.Test.YtflgmalhpglklaaFoL
import Derived.Test.YtflgmalhpglklaaFoI
import Derived.Test.YtflgmalhpglklaaSaP
set_option linter.unusedVariables false
set_option linter.unusedSimpArgs false
set_option linter.unusedSectionVars false
namespace Go.Proofs.Ytflgmalhpglklaa
open Go.RowKit
set_option maxRecDepth 100000
-- SimX

section
variable {t u : Bool} {g : Gram} {w : List Int}
set_option maxHeartbeats 4000000 in
theorem rankTop_sim {x : Tree} (hf : g.fit) (hx : cnt x ≤ 100000000) : ACalls Try.prog 59 [.d (gramD t g), .d (treeA u x)] [] (.tup [I (rankF g x).1, .d (faultD (rankF g x).2)]) [] := by
  have hw := word_top_sim (t := t) (u := u) (g := g) (x := x) hf.rules hf.right hx
  by_cases h0 : (treeFault g x g.start).code = 0
  · obtain ⟨hg, hc, hfit, hz⟩ := treeFault_zero h0
    have hwr : wordR g x = wordT g x := by unfold wordR; rw [if_pos h0]
    rw [hz, hwr] at hw
    have hwl := wordT_le 10 hg.right x
    by_cases h1 : (opF g (wordT g x)).code = 0
    · have ho := fopen_some (t := t) (u := false) h1
      obtain ⟨hC, hz1, hlt⟩ := opF_ok h1
      have hst := hg.stN
      have hra := rank_gen (t := t) (u := u) (L := 0) hC x (stN g) 0 (wordT g x).length (by rw [hst]; exact hg.start) (Nat.zero_le _) (Nat.le_refl _) ((isW_isT hg).1 ⟨hfit, rfl⟩) hc hlt
      rw [show rankF g x = (((rkT g (wcns g (wordT g x) manyC) (wordT g x) x 0 (wordT g x).length : Nat) : Int), ⟨0, 0⟩) by unfold rankF; rw [if_pos h0, if_pos h1]]
      simp only [frH0, frHN] at ho hra
      generalize rkT g (wcns g (wordT g x) manyC) (wordT g x) x 0 (wordT g x).length = res at *
      generalize wcns g (wordT g x) manyC = N at *
      generalize wordT g x = w at *
      generalize nulB g = NB at *
      refine ACalls.intro (n := 35) Try.func59 rfl rfl (by simp) (by rfl) ?_
      simp only [argFr]
      repeat (first | refine wk ?_ | refine s_field (hr := ?_))
      refine s_call [] (hA := hw) (hr := ?_)
      repeat (first | refine wk ?_ | refine s_field (hr := ?_))
      --@
      refine s_call [(25, 925), (962, 962), (960, 960)] (hA := ho) (hr := ?_)
      repeat (first | refine wk ?_ | refine s_field (hr := ?_))
      --@
      refine s_call [(1000, 925), (1001, 962), (1002, 960)] (hA := hra) (hr := ?_)
      repeat (first | refine wk ?_ | refine s_field (hr := ?_))
      --@
      exact fin
    · have ho := fopen_none (t := t) (u := false) hf (show (wordT g x).length ≤ 100000000 by omega) h1
      rw [show rankF g x = (0, opF g (wordT g x)) by unfold rankF; rw [if_pos h0, if_neg h1]]
      generalize opF g (wordT g x) = F at *
      obtain ⟨cc, ca⟩ := F
      dsimp only at h1
      generalize wordT g x = w at *
      refine ACalls.intro (n := 35) Try.func59 rfl rfl (by simp) (by rfl) ?_
      simp only [argFr]
      repeat (first | refine wk ?_ | refine s_field (hr := ?_))
      refine s_call [] (hA := hw) (hr := ?_)
      repeat (first | refine wk ?_ | refine s_field (hr := ?_))
      refine s_call [] (hA := ho) (hr := ?_)
      repeat (first | refine wk ?_ | refine s_field (hr := ?_))
      --@
      exact fin
  · rw [show rankF g x = (0, treeFault g x g.start) by unfold rankF; rw [if_neg h0]]
    generalize treeFault g x g.start = F at *
    obtain ⟨cc, ca⟩ := F
    dsimp only at h0
    generalize wordR g x = w at *
    refine ACalls.intro (n := 35) Try.func59 rfl rfl (by simp) (by rfl) ?_
    simp only [argFr]
    repeat (first | refine wk ?_ | refine s_field (hr := ?_))
    refine s_call [] (hA := hw) (hr := ?_)
    repeat (first | refine wk ?_ | refine s_field (hr := ?_))
    --@
    exact fin
end
end Go.Proofs.Ytflgmalhpglklaa
namespace Go.Proofs.Ytflgmalhpglklaa
open Go.RowKit
set_option maxRecDepth 100000
-- SimX

section
variable {t u v' : Bool} {g : Gram} {w : List Int}
end
end Go.Proofs.Ytflgmalhpglklaa
