/-
  TrimSame returns true.
-/
import Derived.Test.YticnpbopelgmiaaQTrimE
import Derived.Test.YticnpbopelgmiaaSmA
import Derived.Test.YticnpbopelgmiaaQChartM
set_option linter.unusedVariables false
set_option linter.unusedSimpArgs false
set_option linter.unusedSectionVars false
namespace Go.Proofs.Yticnpbopelgmiaa
open Go.RowKit
set_option maxRecDepth 100000
-- SimX

set_option maxHeartbeats 4000000 in
theorem trimSame_sim {g : Gram} {w : List Int} (hl : g.rules.length ≤ 100000000) (hr : ∀ r ∈ g.rules, r.right.length ≤ 100000000) (hw : w.length ≤ 100000000) :
    ACalls Try.prog 7 [.d (gramD false g), .d (ints false w)] [] (B true) [] := by
  have hf : g.fit := ⟨hl, hr⟩
  have hsf := trimS_fit g
  have hm := trimMake_sim hf
  have hsame : (trimS g).2.code = 0 → SameOk g (trimS g).1 w false := fun h => by
    by_cases h0 : (gramFault g).code = 0
    · have e : trimS g = (trimOut g, ⟨0, 0⟩) := by rw [trimS, if_pos h0]
      rw [e]; exact trim_same (gram_ok h0) w
    · rw [trimS, if_neg h0] at h; exact absurd h h0
  have hhv := heavy_sim (t := false) (u := false) hf hw
  generalize trimS g = S at *
  obtain ⟨s, ⟨fc, fa⟩⟩ := S
  dsimp only at *
  have hh2 := heavy_sim (t := false) (u := false) hsf.g hw
  refine ACalls.intro (n := 30) Try.func7 rfl rfl (by simp) (by rfl) ?_
  simp only [argFr]
  cases hb : heavyB g w with
  | true =>
    rw [hb] at hhv
    repeat (first | refine wk ?_ | refine s_field (hr := ?_))
    refine s_call [] (hA := trimBegun_sim) (hr := ?_)
    repeat (first | refine wk ?_ | refine s_field (hr := ?_))
    refine s_call [] (hA := hhv) (hr := ?_)
    repeat (first | refine wk ?_ | refine s_field (hr := ?_))
    exact fin
  | false =>
  rw [hb] at hhv
  by_cases h0 : fc = 0
  · have hsm := same_sim (but := false) hf hsf hw (hsame h0)
    cases hb2 : heavyB s.g w with
    | true =>
      rw [hb2] at hh2
      repeat (first | refine wk ?_ | refine s_field (hr := ?_))
      refine s_call [] (hA := trimBegun_sim) (hr := ?_)
      repeat (first | refine wk ?_ | refine s_field (hr := ?_))
      refine s_call [] (hA := hhv) (hr := ?_)
      repeat (first | refine wk ?_ | refine s_field (hr := ?_))
      refine s_callf [] (hA := hm) (hr := ?_)
      repeat (first | refine wk ?_ | refine s_field (hr := ?_))
      refine s_call [] (hA := hh2) (hr := ?_)
      (repeat (first | refine wk ?_ | refine s_field (hr := ?_)))
      (repeat (first | refine wkz ?_ | refine s_field (hr := ?_)))
      --@
      exact fin
    | false =>
      rw [hb2] at hh2
      repeat (first | refine wk ?_ | refine s_field (hr := ?_))
      refine s_call [] (hA := trimBegun_sim) (hr := ?_)
      repeat (first | refine wk ?_ | refine s_field (hr := ?_))
      refine s_call [] (hA := hhv) (hr := ?_)
      repeat (first | refine wk ?_ | refine s_field (hr := ?_))
      refine s_callf [] (hA := hm) (hr := ?_)
      repeat (first | refine wk ?_ | refine s_field (hr := ?_))
      refine s_call [] (hA := hh2) (hr := ?_)
      repeat (first | refine wk ?_ | refine s_field (hr := ?_))
      --@
      refine s_call [] (hA := hsm) (hr := ?_)
      repeat (first | refine wk ?_ | refine s_field (hr := ?_))
      --@
      exact fin
  · repeat (first | refine wk ?_ | refine s_field (hr := ?_))
    refine s_call [] (hA := trimBegun_sim) (hr := ?_)
    repeat (first | refine wk ?_ | refine s_field (hr := ?_))
    refine s_call [] (hA := hhv) (hr := ?_)
    repeat (first | refine wk ?_ | refine s_field (hr := ?_))
    refine s_callf [] (hA := hm) (hr := ?_)
    repeat (first | refine wk ?_ | refine s_field (hr := ?_))
    --@
    exact fin
end Go.Proofs.Yticnpbopelgmiaa
