/-
  Sim: FactsDoes returns true.
-/
import Derived.Test.YtpaeihifcmohkaaFactsBg
import Derived.Test.YtpaeihifcmohkaaFactsJ
import Derived.Test.YtpaeihifcmohkaaEqs
set_option linter.unusedVariables false
set_option linter.unusedSimpArgs false
namespace Go.Proofs.Ytpaeihifcmohkaa
open Go.RowKit
set_option maxRecDepth 100000

set_option maxHeartbeats 8000000 in
theorem factsDoes_sim {g : Gram} (hl : g.rules.length ≤ 100000000) (hr : ∀ r ∈ g.rules, r.right.length ≤ 100000000) :
    ACalls Try.prog 13 [.d (gramD false g)] [] (B true) [] := by
  refine ACalls.intro (n := 145) Try.func13 rfl rfl (by simp) (by rfl) ?_
  simp only [argFr]
  have hf : g.fit := ⟨hl, hr⟩
  have q2 : (!decide (gramFault g = gramFault g)) = false := by simp
  have s0 := sameGram_sim (t := false) (u := false) hf hf
  rw [decide_eq_true rfl] at s0
  have c1 := nullable_sim (t := false) hf
  have c2 := productive_sim (t := false) hf
  have c3 := reachable_sim (t := false) hf
  have c4 := cyclic_sim (t := false) hf
  have c5 := corners_sim (t := false) hf
  repeat (first | refine wk ?_)
  refine s_call [] (hA := factsBegun_sim) (hr := ?_)
  repeat (first | refine wk ?_)
  refine s_call [] (hA := greatGram_sim hl hr) (hr := ?_)
  cases h1 : greatG g with
  | true => repeat (first | refine wk ?_); exact fin
  | false =>
  by_cases h0 : (gramFault g).code = 0
  · have hg := gram_ok h0
    have hv := hg.vars
    have hl1 := leftsOf_len (t := false) hg
    have hl2 := leftsOf_len (t := true) hg
    have hl3 := reachOf_len g
    have hb1 := listB_le (leftsOf false g)
    have hb2 := listB_le (leftsOf true g)
    have hb3 := listB_le (reachOf g)
    have hb4 := selfN_le (ledM false g) g.vars.toNat
    have hlq := ledM_sq (c := true) hg
    have hlql := hlq.len
    have n1 := nullOf_sim (t := false) hg
    have n2 := goodOf_sim (t := false) hg
    have n3 := reachedOf_sim (t := false) hg
    rw [show nullL g = listB (leftsOf false g) by rw [nullL, if_pos h0]] at c1
    rw [show goodL g = listB (leftsOf true g) by rw [goodL, if_pos h0]] at c2
    rw [show reachL g = listB (reachOf g) by rw [reachL, if_pos h0]] at c3
    rw [show cycL g = selfN (ledM false g) g.vars.toNat by rw [cycL, if_pos h0]] at c4
    rw [show cornL g = (ledM true g).map listB by rw [cornL, if_pos h0]] at c5
    have k1 := sameInts_sim (t := false) (u := true) (xs := listB (leftsOf false g)) (ys := listB (leftsOf false g)) (by omega) (by omega)
    have k2 := sameInts_sim (t := false) (u := true) (xs := listB (leftsOf true g)) (ys := listB (leftsOf true g)) (by omega) (by omega)
    have k3 := sameInts_sim (t := false) (u := true) (xs := listB (reachOf g)) (ys := listB (reachOf g)) (by omega) (by omega)
    have k4 := sameInts_sim (t := false) (u := false) (xs := selfN (ledM false g) g.vars.toNat) (ys := selfN (ledM false g) g.vars.toNat) (by omega) (by omega)
    rw [decide_eq_true rfl] at k1 k2 k3 k4
    have hrow : ∀ l ∈ (ledM true g).map listB, l.length ≤ 64 := fun l hm => by
      obtain ⟨q, hq, rfl⟩ := List.mem_map.1 hm
      have := hlq.row q hq
      have := listB_le q
      omega
    have hLl : ((ledM true g).map listB).length ≤ 64 := by rw [List.length_map]; omega
    generalize hL : (ledM true g).map listB = L at c5 hrow hLl
    have n4 := cornersOf_sim (t := false) hg
    rw [hL] at n4
    repeat (first | refine wk ?_)
    refine s_call [] (hA := ownGram_sim hf) (hr := ?_)
    repeat (first | refine wk ?_)
    refine s_callf [] (hA := c1) (hr := ?_)
    repeat (first | refine wk ?_)
    refine s_callf [] (hA := c2) (hr := ?_)
    repeat (first | refine wk ?_)
    refine s_callf [] (hA := c3) (hr := ?_)
    repeat (first | refine wk ?_)
    refine s_callf [] (hA := c4) (hr := ?_)
    repeat (first | refine wk ?_)
    refine s_callf [] (hA := c5) (hr := ?_)
    repeat (first | refine wk ?_)
    refine s_call [] (hA := gramFault_sim) (hr := ?_)
    repeat (first | refine wk ?_)
    refine s_callf [] (hA := s0) (hr := ?_)
    repeat (first | refine wk ?_)
    refine s_call [] (hA := n4) (hr := ?_)
    repeat (first | refine wk ?_)
    refine t_loop (X := Nat) (fun i => i ≤ L.length) (fun i => [(16, I i), (12, .d (.sl false 1 (L.map (ints false)))), (15, .d (.sl false 1 (L.map (ints false)))), (4, .d (ints false (listB (leftsOf false g)))), (6, .d (ints false (listB (leftsOf true g)))), (8, .d (ints false (listB (reachOf g)))), (10, .d (ints false (selfN (ledM false g) g.vars.toNat))), (1, .ptr 1 0)]) (fun _ => [(1, gramBox false g)]) (fun i => L.length - i) 0 (Nat.zero_le _) ?_
    intro i hi
    by_cases hlt : i < L.length
    · have hri := hrow _ (List.getElem_mem hlt)
      have k5 := sameInts_sim (t := false) (u := false) (xs := L[i]) (ys := L[i]) (by omega) (by omega)
      rw [decide_eq_true rfl] at k5
      repeat (first | refine wk ?_)
      refine s_call [] (hA := k5) (hr := ?_)
      repeat (first | refine wk ?_)
      exact t_next (i + 1)
    · repeat (first | refine wk ?_)
      refine s_call [(8, 901)] (hA := n1) (hr := ?_)
      repeat (first | refine wk ?_)
      refine s_call [(900, 902)] (hA := listOf_sim (t := true) (is := leftsOf false g)) (hr := ?_)
      repeat (first | refine wk ?_)
      refine s_call [] (hA := k1) (hr := ?_)
      repeat (first | refine wk ?_)
      refine s_call [(8, 903)] (hA := n2) (hr := ?_)
      repeat (first | refine wk ?_)
      refine s_call [(900, 904)] (hA := listOf_sim (t := true) (is := leftsOf true g)) (hr := ?_)
      repeat (first | refine wk ?_)
      refine s_call [] (hA := k2) (hr := ?_)
      repeat (first | refine wk ?_)
      refine s_call [(10, 905)] (hA := n3) (hr := ?_)
      repeat (first | refine wk ?_)
      refine s_call [(900, 906)] (hA := listOf_sim (t := true) (is := reachOf g)) (hr := ?_)
      repeat (first | refine wk ?_)
      refine s_call [] (hA := k3) (hr := ?_)
      repeat (first | refine wk ?_)
      refine s_call [] (hA := cyclicOf_sim hg) (hr := ?_)
      repeat (first | refine wk ?_)
      refine s_call [] (hA := k4) (hr := ?_)
      repeat (first | refine wk ?_)
      exact fin
  · rw [show nullL g = [] by rw [nullL, if_neg h0]] at c1
    rw [show goodL g = [] by rw [goodL, if_neg h0]] at c2
    rw [show reachL g = [] by rw [reachL, if_neg h0]] at c3
    rw [show cycL g = [] by rw [cycL, if_neg h0]] at c4
    rw [show cornL g = [] by rw [cornL, if_neg h0]] at c5
    repeat (first | refine wk ?_)
    refine s_call [] (hA := ownGram_sim hf) (hr := ?_)
    repeat (first | refine wk ?_)
    refine s_callf [] (hA := c1) (hr := ?_)
    repeat (first | refine wk ?_)
    refine s_callf [] (hA := c2) (hr := ?_)
    repeat (first | refine wk ?_)
    refine s_callf [] (hA := c3) (hr := ?_)
    repeat (first | refine wk ?_)
    refine s_callf [] (hA := c4) (hr := ?_)
    repeat (first | refine wk ?_)
    refine s_callf [] (hA := c5) (hr := ?_)
    repeat (first | refine wk ?_)
    refine s_call [] (hA := gramFault_sim) (hr := ?_)
    repeat (first | refine wk ?_)
    refine s_callf [] (hA := s0) (hr := ?_)
    repeat (first | refine wk ?_)
    exact fin
end Go.Proofs.Ytpaeihifcmohkaa
