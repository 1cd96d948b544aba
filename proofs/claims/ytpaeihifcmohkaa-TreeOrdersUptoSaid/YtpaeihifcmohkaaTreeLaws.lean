/-
  Sim: TreeOrders and TreeDoes return true.
-/
import Derived.Test.YtpaeihifcmohkaaTreeC
import Derived.Test.YtpaeihifcmohkaaSimX
namespace Go.Proofs.Ytpaeihifcmohkaa
open Go.RowKit
set_option maxRecDepth 100000

set_option maxHeartbeats 4000000 in
theorem treeOrders_sim {a b c : Tree} (ha : cnt a ≤ 100000000) (hb : cnt b ≤ 100000000) (hc : cnt c ≤ 100000000) :
    ACalls Try.prog 9 [.d (treeA false a), .d (treeA false b), .d (treeA false c)] [] (B true) [] := by
  refine ACalls.intro (n := 63) Try.func9 rfl rfl (by simp) (by rfl) ?_
  simp only [argFr]
  repeat (first | refine wk ?_ | refine s_field (hr := ?_))
  refine s_call [] (hA := treeBegun_sim) (hr := ?_)
  repeat (first | refine wk ?_ | refine s_field (hr := ?_))
  refine s_call [] (hA := greatTree_sim ha) (hr := ?_)
  cases h1 : great3 a with
  | true => repeat (first | refine wk ?_ | refine s_field (hr := ?_)); exact fin
  | false =>
  repeat (first | refine wk ?_ | refine s_field (hr := ?_))
  refine s_call [] (hA := greatTree_sim hb) (hr := ?_)
  cases h2 : great3 b with
  | true => repeat (first | refine wk ?_ | refine s_field (hr := ?_)); exact fin
  | false =>
  repeat (first | refine wk ?_ | refine s_field (hr := ?_))
  refine s_call [] (hA := greatTree_sim hc) (hr := ?_)
  cases h3 : great3 c with
  | true => repeat (first | refine wk ?_ | refine s_field (hr := ?_)); exact fin
  | false =>
  have v1 := ordT_vals a b
  have v2 := ordT_vals b c
  have v3 := ordT_vals a c
  have n1 := ordT_neg a b
  have n0 := ordT_refl a
  have tr := ordT_trans a b c
  generalize hx : ordT a b = x at *
  generalize hy : ordT b c = y at *
  generalize hz : ordT a c = z at *
  have o1 := order_sim (t := false) (u := false) a ha b hb
  have o2 := order_sim (t := false) (u := false) b hb c hc
  have o3 := order_sim (t := false) (u := false) a ha c hc
  have o4 := order_sim (t := false) (u := false) b hb a ha
  have o5 := order_sim (t := false) (u := false) a ha a ha
  have o6 := sameTree_sim (t := false) (u := false) ha hb
  rw [hx] at o1 o6
  rw [hy] at o2
  rw [hz] at o3
  rw [n1] at o4
  rw [n0] at o5
  have hd : decide (-x = -x) = true := by simp
  repeat (first | refine wk ?_ | refine s_field (hr := ?_))
  refine s_call [] (hA := o1) (hr := ?_)
  repeat (first | refine wk ?_ | refine s_field (hr := ?_))
  refine s_call [] (hA := o2) (hr := ?_)
  repeat (first | refine wk ?_ | refine s_field (hr := ?_))
  refine s_call [] (hA := o3) (hr := ?_)
  repeat (first | refine wk ?_ | refine s_field (hr := ?_))
  refine s_call [] (hA := o4) (hr := ?_)
  repeat (first | refine wk ?_ | refine s_field (hr := ?_))
  refine s_call [] (hA := o5) (hr := ?_)
  by_cases hx0 : 0 < x
  · repeat (first | refine wk ?_ | refine s_field (hr := ?_))
    refine s_call [] (hA := o6) (hr := ?_)
    repeat (first | refine wk ?_ | refine s_field (hr := ?_))
    exact fin
  · by_cases hy0 : 0 < y
    · repeat (first | refine wk ?_ | refine s_field (hr := ?_))
      refine s_call [] (hA := o6) (hr := ?_)
      repeat (first | refine wk ?_ | refine s_field (hr := ?_))
      exact fin
    · have hz0 := tr (by omega) (by omega)
      repeat (first | refine wk ?_ | refine s_field (hr := ?_))
      refine s_call [] (hA := o6) (hr := ?_)
      repeat (first | refine wk ?_ | refine s_field (hr := ?_))
      exact fin
end Go.Proofs.Ytpaeihifcmohkaa
