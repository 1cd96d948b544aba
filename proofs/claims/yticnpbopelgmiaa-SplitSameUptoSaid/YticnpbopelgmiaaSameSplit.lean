/-
  SplitSame returns true.
-/
import Derived.Test.YticnpbopelgmiaaSplitG
import Derived.Test.YticnpbopelgmiaaSpR
import Derived.Test.YticnpbopelgmiaaSmA
import Derived.Test.YticnpbopelgmiaaQChartM
set_option linter.unusedVariables false
set_option linter.unusedSimpArgs false
set_option linter.unusedSectionVars false
namespace Go.Proofs.Yticnpbopelgmiaa
open Go.RowKit
set_option maxRecDepth 100000
-- SimX

set_option maxHeartbeats 4000000 in
theorem splitSame_sim {g : Gram} {w : List Int} (hl : g.rules.length ≤ 100000000) (hr : ∀ r ∈ g.rules, r.right.length ≤ 100000000) (hw : w.length ≤ 100000000) :
    ACalls Try.prog 8 [.d (gramD false g), .d (ints false w)] [] (B true) [] := by
  have hf : g.fit := ⟨hl, hr⟩
  have hsf := splitS_fit g
  have hm := splitMake_sim (t := false) hf
  have hsame : (splitS g).2.code = 0 → SameOk g (splitS g).1 w false := fun h => by
    rcases splitS_cases g with ⟨h1, e⟩ | ⟨i, e⟩ | ⟨s, hg, hc, e⟩
    · rw [e] at h; exact absurd h h1
    · rw [e] at h; cases h
    · rw [e]; exact split_same hg hc w
  have hhv := heavy_sim (t := false) (u := false) hf hw
  generalize splitS g = S at *
  obtain ⟨s, ⟨fc, fa⟩⟩ := S
  dsimp only at *
  have hh2 := heavy_sim (t := false) (u := false) hsf.g hw
  refine ACalls.intro (n := 30) Try.func8 rfl rfl (by simp) (by rfl) ?_
  simp only [argFr]
  cases hb : heavyB g w with
  | true =>
    rw [hb] at hhv
    repeat (first | refine wk ?_ | refine s_field (hr := ?_))
    refine s_call [] (hA := splitBegun_sim) (hr := ?_)
    repeat (first | refine wk ?_ | refine s_field (hr := ?_))
    refine s_call [] (hA := hhv) (hr := ?_)
    repeat (first | refine wk ?_ | refine s_field (hr := ?_))
    exact fin
  | false =>
  rw [hb] at hhv
  by_cases h0 : fc = 0
  · have hsm := same_sim (but := false) hf hsf hw (hsame h0)
    cases hb2 : heavyB s.g w with
    | true =>
      rw [hb2] at hh2
      repeat (first | refine wk ?_ | refine s_field (hr := ?_))
      refine s_call [] (hA := splitBegun_sim) (hr := ?_)
      repeat (first | refine wk ?_ | refine s_field (hr := ?_))
      refine s_call [] (hA := hhv) (hr := ?_)
      repeat (first | refine wk ?_ | refine s_field (hr := ?_))
      refine s_callf [] (hA := hm) (hr := ?_)
      repeat (first | refine wk ?_ | refine s_field (hr := ?_))
      refine s_call [] (hA := hh2) (hr := ?_)
      (repeat (first | refine wk ?_ | refine s_field (hr := ?_)))
      (repeat (first | refine wkz ?_ | refine s_field (hr := ?_)))
      --@
      exact fin
    | false =>
      rw [hb2] at hh2
      repeat (first | refine wk ?_ | refine s_field (hr := ?_))
      refine s_call [] (hA := splitBegun_sim) (hr := ?_)
      repeat (first | refine wk ?_ | refine s_field (hr := ?_))
      refine s_call [] (hA := hhv) (hr := ?_)
      repeat (first | refine wk ?_ | refine s_field (hr := ?_))
      refine s_callf [] (hA := hm) (hr := ?_)
      repeat (first | refine wk ?_ | refine s_field (hr := ?_))
      refine s_call [] (hA := hh2) (hr := ?_)
      repeat (first | refine wk ?_ | refine s_field (hr := ?_))
      --@
      refine s_call [] (hA := hsm) (hr := ?_)
      repeat (first | refine wk ?_ | refine s_field (hr := ?_))
      --@
      exact fin
  · repeat (first | refine wk ?_ | refine s_field (hr := ?_))
    refine s_call [] (hA := splitBegun_sim) (hr := ?_)
    repeat (first | refine wk ?_ | refine s_field (hr := ?_))
    refine s_call [] (hA := hhv) (hr := ?_)
    repeat (first | refine wk ?_ | refine s_field (hr := ?_))
    refine s_callf [] (hA := hm) (hr := ?_)
    repeat (first | refine wk ?_ | refine s_field (hr := ?_))
    --@
    exact fin
end Go.Proofs.Yticnpbopelgmiaa
