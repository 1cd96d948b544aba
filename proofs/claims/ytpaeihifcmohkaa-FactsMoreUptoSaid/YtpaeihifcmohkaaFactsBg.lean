/-
  Sim: factsBegun.
-/
import Derived.Test.YtpaeihifcmohkaaFactsL
set_option linter.unusedVariables false
set_option linter.unusedSimpArgs false
namespace Go.Proofs.Ytpaeihifcmohkaa
open Go.RowKit
set_option maxRecDepth 100000

def fbG : Gram := ⟨2, 0, 0, [⟨0, [0, 1]⟩, ⟨1, []⟩]⟩
theorem fbG_fit : fbG.fit := ⟨by decide, by decide⟩
theorem fb_cyc : ACalls Try.prog 64 [.d (.agg [iD 2, iD 0, iD 0, .sl false 2 [.agg [iD 0, ints false [0, 1]], .agg [iD 1, nilT]]])] [] (.tup [.d (ints false [0]), .d (faultD ⟨0, 0⟩)]) [] := by
  have h := cyclic_sim (t := false) fbG_fit
  rw [show cycL fbG = [0] by decide +kernel, show gramFault fbG = ⟨0, 0⟩ by decide +kernel] at h
  exact h.le ⟨.agg (.cons (.refl _) (.cons (.refl _) (.cons (.refl _) (.cons (.sl (.cons (.refl _) (.cons (.agg (.cons (.refl _) (.cons (.nil _ _) .nil))) .nil))) .nil)))), trivial⟩
theorem fb_null : ACalls Try.prog 61 [.d (.agg [iD 2, iD 0, iD 0, .sl false 2 [.agg [iD 0, ints false [0, 1]], .agg [iD 1, nilT]]])] [] (.tup [.d (ints false [1]), .d (faultD ⟨0, 0⟩)]) [] := by
  have h := nullable_sim (t := false) fbG_fit
  rw [show nullL fbG = [1] by decide +kernel, show gramFault fbG = ⟨0, 0⟩ by decide +kernel] at h
  exact h.le ⟨.agg (.cons (.refl _) (.cons (.refl _) (.cons (.refl _) (.cons (.sl (.cons (.refl _) (.cons (.agg (.cons (.refl _) (.cons (.nil _ _) .nil))) .nil))) .nil)))), trivial⟩
set_option maxHeartbeats 600000 in
theorem factsBegun_sim : ACalls Try.prog 41 [] [] (B true) [] := by
  refine ACalls.intro (n := 39) Try.func41 rfl rfl (by simp) (by rfl) ?_
  simp only [argFr]
  have hs0 := sameInts_sim (t := false) (u := false) (xs := [0]) (ys := [0]) (by decide) (by decide)
  have hs1 := sameInts_sim (t := false) (u := false) (xs := [1]) (ys := [1]) (by decide) (by decide)
  rw [decide_eq_true rfl] at hs0 hs1
  repeat (first | refine wk ?_)
  refine s_callf [] (hA := fb_cyc) (hr := ?_)
  repeat (first | refine wk ?_)
  refine s_callf [] (hA := fb_null) (hr := ?_)
  repeat (first | refine wk ?_)
  refine s_callf [] (hA := hs0) (hr := ?_)
  repeat (first | refine wk ?_)
  refine s_callf [] (hA := hs1) (hr := ?_)
  repeat (first | refine wk ?_)
  exact fin
end Go.Proofs.Ytpaeihifcmohkaa
