/-
  Sim: TreeDoes returns true.
-/
import Derived.Test.YtpaeihifcmohkaaTreeC
import Derived.Test.YtpaeihifcmohkaaSimX
import Derived.Test.YtpaeihifcmohkaaEqs
namespace Go.Proofs.Ytpaeihifcmohkaa
open Go.RowKit
set_option maxRecDepth 100000

set_option maxHeartbeats 8000000 in
theorem treeDoes_sim {g : Gram} {a b : Tree} {v : Int} (hl : g.rules.length ≤ 100000000) (hr : ∀ r ∈ g.rules, r.right.length ≤ 100000000) (ha : cnt a ≤ 100000000) (hb : cnt b ≤ 100000000) :
    ACalls Try.prog 10 [.d (gramD false g), .d (treeA false a), .d (treeA false b), I v] [] (B true) [] := by
  refine ACalls.intro (n := 93) Try.func10 rfl rfl (by simp) (by rfl) ?_
  simp only [argFr]
  repeat (first | refine wk ?_ | refine s_field (hr := ?_))
  refine s_call [] (hA := treeBegun_sim) (hr := ?_)
  repeat (first | refine wk ?_ | refine s_field (hr := ?_))
  refine s_call [] (hA := greatGram_sim hl hr) (hr := ?_)
  cases h1 : greatG g with
  | true => repeat (first | refine wk ?_ | refine s_field (hr := ?_)); exact fin
  | false =>
  repeat (first | refine wk ?_ | refine s_field (hr := ?_))
  refine s_call [] (hA := greatTree_sim ha) (hr := ?_)
  cases h2 : great3 a with
  | true => repeat (first | refine wk ?_ | refine s_field (hr := ?_)); exact fin
  | false =>
  repeat (first | refine wk ?_ | refine s_field (hr := ?_))
  refine s_call [] (hA := greatTree_sim hb) (hr := ?_)
  cases h3 : great3 b with
  | true => repeat (first | refine wk ?_ | refine s_field (hr := ?_)); exact fin
  | false =>
  have v1 := ordT_vals a b
  have s1 := sameTree_sim (t := false) (u := false) ha ha
  rw [ordT_refl, decide_eq_true rfl] at s1
  have q0 : decide (treeFault g a v = treeFault g a v) = true := by simp
  have q1 : decide (ordT a b = ordT a b) = true := by simp
  have q2 : (!decide (treeFault g a g.start = treeFault g a g.start)) = false := by simp
  repeat (first | refine wk ?_ | refine s_field (hr := ?_))
  refine s_call [] (hA := ownTree_sim a ha) (hr := ?_)
  repeat (first | refine wk ?_ | refine s_field (hr := ?_))
  refine s_call [] (hA := treeFault_sim hl hr ha) (hr := ?_)
  repeat (first | refine wk ?_ | refine s_field (hr := ?_))
  refine s_call [] (hA := word_top_sim hl hr ha) (hr := ?_)
  by_cases h0 : (treeFault g a g.start).code = 0
  · obtain ⟨hg, k1, k2, k3⟩ := treeFault_zero h0
    have hwl := wordT_le 10 hg.right a
    have e : wordR g a = wordT g a := by rw [wordR, if_pos h0]
    rw [e]
    have s2 := sameInts_sim (t := false) (u := true) (xs := wordT g a) (ys := wordT g a) (by omega) (by omega)
    rw [decide_eq_true rfl] at s2
    repeat (first | refine wk ?_ | refine s_field (hr := ?_))
    refine s_call [] (hA := wordOf_sim hg a _ k2 k1) (hr := ?_)
    repeat (first | refine wk ?_ | refine s_field (hr := ?_))
    refine s_call [] (hA := s2) (hr := ?_)
    repeat (first | refine wk ?_ | refine s_field (hr := ?_))
    refine s_call [] (hA := treeCheck_sim hl hr ha) (hr := ?_)
    repeat (first | refine wk ?_ | refine s_field (hr := ?_))
    refine s_call [] (hA := treeFault_sim hl hr ha) (hr := ?_)
    repeat (first | refine wk ?_ | refine s_field (hr := ?_))
    refine s_call [] (hA := order_sim a ha b hb) (hr := ?_)
    repeat (first | refine wk ?_ | refine s_field (hr := ?_))
    refine s_call [] (hA := orderOf_sim a ha b hb) (hr := ?_)
    repeat (first | refine wk ?_ | refine s_field (hr := ?_))
    refine s_call [] (hA := treeOwn_sim a ha) (hr := ?_)
    repeat (first | refine wk ?_ | refine s_field (hr := ?_))
    refine s_call [] (hA := s1) (hr := ?_)
    repeat (first | refine wk ?_ | refine s_field (hr := ?_))
    refine s_call [] (hA := s1) (hr := ?_)
    repeat (first | refine wk ?_ | refine s_field (hr := ?_))
    exact fin
  · have e : wordR g a = [] := by rw [wordR, if_neg h0]
    rw [e]
    repeat (first | refine wk ?_ | refine s_field (hr := ?_))
    refine s_call [] (hA := treeCheck_sim hl hr ha) (hr := ?_)
    repeat (first | refine wk ?_ | refine s_field (hr := ?_))
    refine s_call [] (hA := treeFault_sim hl hr ha) (hr := ?_)
    repeat (first | refine wk ?_ | refine s_field (hr := ?_))
    refine s_call [] (hA := order_sim a ha b hb) (hr := ?_)
    repeat (first | refine wk ?_ | refine s_field (hr := ?_))
    refine s_call [] (hA := orderOf_sim a ha b hb) (hr := ?_)
    repeat (first | refine wk ?_ | refine s_field (hr := ?_))
    refine s_call [] (hA := treeOwn_sim a ha) (hr := ?_)
    repeat (first | refine wk ?_ | refine s_field (hr := ?_))
    refine s_call [] (hA := s1) (hr := ?_)
    repeat (first | refine wk ?_ | refine s_field (hr := ?_))
    refine s_call [] (hA := s1) (hr := ?_)
    repeat (first | refine wk ?_ | refine s_field (hr := ?_))
    exact fin
end Go.Proofs.Ytpaeihifcmohkaa
