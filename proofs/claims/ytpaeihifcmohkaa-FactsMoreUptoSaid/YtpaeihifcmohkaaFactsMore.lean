/-
  Sim: FactsMore returns true.
-/
import Derived.Test.YtpaeihifcmohkaaFactsBg
import Derived.Test.YtpaeihifcmohkaaFactsJ
import Derived.Test.YtpaeihifcmohkaaFactsR
set_option linter.unusedVariables false
set_option linter.unusedSimpArgs false
namespace Go.Proofs.Ytpaeihifcmohkaa
open Go.RowKit
set_option maxRecDepth 100000

theorem in_sim {t : Bool} {xs : List Int} {x : Int} (hl : xs.length ≤ 100000000 := by ((try simp only [List.length_map, List.length_append, List.length_cons, List.length_nil, List.length_replicate, List.length_set, List.length_take, List.length_drop]); first | omega | assumption)) : ACalls Try.prog 118 [.d (ints t xs), I x] [] (B (decide (x ∈ xs))) [] := by
  refine ACalls.intro (n := 18) Try.func118 rfl rfl (by simp) (by rfl) ?_
  simp only [argFr]
  repeat (first | refine wk ?_)
  refine t_loop (X := Nat) (fun k => k ≤ xs.length ∧ ∀ j, j < k → ∀ (hj : j < xs.length), xs[j] ≠ x) (fun k => [(5, I k), (0, .d (ints t xs)), (1, I x)]) (fun _ => []) (fun k => xs.length - k) 0 ⟨Nat.zero_le _, by omega⟩ ?_
  rintro k ⟨hk, hp⟩
  by_cases hlt : k < xs.length
  · by_cases hx : xs[k] = x
    · rw [decide_eq_true (show x ∈ xs from hx ▸ List.getElem_mem hlt)]
      repeat (first | refine wk ?_)
      exact fin
    · repeat (first | refine wk ?_)
      exact t_next (k + 1) (a := ⟨by omega, upto_succ hp (fun _ => hx)⟩)
  · rw [decide_eq_false (show ¬ x ∈ xs from fun hm => by
      obtain ⟨j, hj, e⟩ := List.getElem_of_mem hm
      exact hp j (by omega) hj e)]
    repeat (first | refine wk ?_)
    exact fin
theorem within_sim {t u : Bool} {xs ys : List Int} (h : ∀ x ∈ xs, x ∈ ys) (hl : xs.length ≤ 100000000 := by ((try simp only [List.length_map, List.length_append, List.length_cons, List.length_nil, List.length_replicate, List.length_set, List.length_take, List.length_drop]); first | omega | assumption)) (hl2 : ys.length ≤ 100000000 := by ((try simp only [List.length_map, List.length_append, List.length_cons, List.length_nil, List.length_replicate, List.length_set, List.length_take, List.length_drop]); first | omega | assumption)) :
    ACalls Try.prog 70 [.d (ints t xs), .d (ints u ys)] [] (B true) [] := by
  refine ACalls.intro (n := 19) Try.func70 rfl rfl (by simp) (by rfl) ?_
  simp only [argFr]
  repeat (first | refine wk ?_)
  refine t_loop (X := Nat) (fun k => k ≤ xs.length) (fun k => [(5, I k), (0, .d (ints t xs)), (1, .d (ints u ys))]) (fun _ => []) (fun k => xs.length - k) 0 (Nat.zero_le _) ?_
  intro k hk
  by_cases hlt : k < xs.length
  · have hi := in_sim (t := u) (xs := ys) (x := xs[k]) hl2
    rw [decide_eq_true (h _ (List.getElem_mem hlt))] at hi
    repeat (first | refine wk ?_)
    refine s_call [] (hA := hi) (hr := ?_)
    repeat (first | refine wk ?_)
    exact t_next (k + 1)
  · repeat (first | refine wk ?_)
    exact fin
set_option maxHeartbeats 8000000 in
theorem factsMore_sim {g : Gram} {r : Rule} (hl : g.rules.length ≤ 10000000) (hr : ∀ r ∈ g.rules, r.right.length ≤ 100000000) (hrr : r.right.length ≤ 10000000) :
    ACalls Try.prog 14 [.d (gramD false g), .d (ruleD false r)] [] (B true) [] := by
  refine ACalls.intro (n := 150) Try.func14 rfl rfl (by simp) (by rfl) ?_
  simp only [argFr]
  have hf : g.fit := ⟨by omega, hr⟩
  have hlm : (more g r).rules.length ≤ 100000000 := by simp [more]; omega
  have hrm : ∀ q ∈ (more g r).rules, q.right.length ≤ 100000000 := fun q hq => by
    rcases List.mem_append.1 hq with hq | hq
    · exact hr q hq
    · rw [List.mem_singleton.1 hq]; omega
  have hfm : (more g r).fit := ⟨hlm, hrm⟩
  have e : g.rules.map (ruleD false) ++ [.agg [iD r.left, ints false r.right]] = (more g r).rules.map (ruleD false) := by simp [more, ruleD]
  repeat (first | refine wk ?_)
  refine s_call [] (hA := factsBegun_sim) (hr := ?_)
  repeat (first | refine wk ?_)
  refine s_call [] (hA := greatGram_sim (by omega) hr) (hr := ?_)
  cases h1 : greatG g with
  | true => repeat (first | refine wkz ?_ | refine s_field (hr := ?_)); exact fin
  | false =>
  by_cases h2 : (r.right.length : Int) > 100
  · repeat (first | refine wkz ?_ | refine s_field (hr := ?_))
    exact fin
  repeat (first | refine wkz ?_ | refine s_field (hr := ?_))
  refine s_call [] (hA := ownGram_sim hf) (hr := ?_)
  repeat (first | refine wkz ?_ | refine s_field (hr := ?_))
  refine s_call [] (hA := gramCheck_sim) (hr := ?_)
  by_cases c1 : (gramFault g).code = 0
  rotate_left
  · repeat (first | refine wkz ?_ | refine s_field (hr := ?_))
    exact fin
  repeat (first | refine wkz ?_ | refine s_field (hr := ?_))
  rw [e]
  refine s_callf [] (hA := gramCheck_sim (t := false) (g := more g r) hlm hrm) (hr := ?_)
  by_cases c2 : (gramFault (more g r)).code = 0
  rotate_left
  · repeat (first | refine wkz ?_ | refine s_field (hr := ?_))
    exact fin
  have hg := gram_ok c1
  have hh := gram_ok c2
  have hN : (more g r).vars = g.vars := rfl
  have a1 := nullable_sim (t := false) hf
  have a2 := productive_sim (t := false) hf
  have a3 := reachable_sim (t := false) hf
  have a4 := cyclic_sim (t := false) hf
  have a5 := corners_sim (t := false) hf
  have d1 := nullable_sim (t := false) hfm
  have d2 := productive_sim (t := false) hfm
  have d3 := reachable_sim (t := false) hfm
  have d4 := cyclic_sim (t := false) hfm
  have d5 := corners_sim (t := false) hfm
  rw [nullL, if_pos c1] at a1
  rw [goodL, if_pos c1] at a2
  rw [reachL, if_pos c1] at a3
  rw [cycL, if_pos c1] at a4
  rw [cornL, if_pos c1] at a5
  rw [nullL, if_pos c2] at d1
  rw [goodL, if_pos c2] at d2
  rw [reachL, if_pos c2] at d3
  rw [cycL, if_pos c2, hN] at d4
  rw [cornL, if_pos c2] at d5
  have hv := hg.vars
  have g1 := listB_le (leftsOf false g)
  have g2 := listB_le (leftsOf true g)
  have g3 := listB_le (reachOf g)
  have g4 := selfN_le (ledM false g) g.vars.toNat
  have l1 := leftsOf_len (t := false) hg
  have l2 := leftsOf_len (t := true) hg
  have l3 := reachOf_len g
  have lq := ledM_sq (c := true) hg
  have k1 := listB_le (leftsOf false (more g r))
  have k2 := listB_le (leftsOf true (more g r))
  have k3 := listB_le (reachOf (more g r))
  have k4 := selfN_le (ledM false (more g r)) g.vars.toNat
  have m1 := leftsOf_len (t := false) hh
  have m2 := leftsOf_len (t := true) hh
  have m3 := reachOf_len (more g r)
  have mq := ledM_sq (c := true) hh
  rw [hN] at m1 m2 m3 mq
  have w1 := within_sim (t := false) (u := false) (listB_sub (lefts_more hh false)) (by omega) (by omega)
  have w2 := within_sim (t := false) (u := false) (listB_sub (lefts_more hh true)) (by omega) (by omega)
  have w3 := within_sim (t := false) (u := false) (listB_sub (reach_more hh)) (by omega) (by omega)
  have w4 := within_sim (t := false) (u := false) (xs := selfN (ledM false g) g.vars.toNat) (ys := selfN (ledM false (more g r)) g.vars.toNat) (fun x hx => by
    obtain ⟨k, hk, rfl, hs⟩ := selfN_mem.1 hx
    exact selfN_mem.2 ⟨k, hk, rfl, (led_more hg hh (c := false) (v := (k : Int)) (by omega) (by omega)).sub _ hs⟩) (by omega) (by omega)
  have w5 : ∀ k (h1 : k < ((ledM true g).map listB).length) (h2 : k < ((ledM true (more g r)).map listB).length), ACalls Try.prog 70 [.d (ints false ((ledM true g).map listB)[k]), .d (ints false ((ledM true (more g r)).map listB)[k])] [] (B true) [] := fun k h1 h2 => by
    rw [List.length_map] at h1 h2
    have b1 := lq.row _ (List.getElem_mem h1)
    have b2 := mq.row _ (List.getElem_mem h2)
    have b3 := listB_le (ledM true g)[k]
    have b4 := listB_le (ledM true (more g r))[k]
    have hs := led_more hg hh (c := true) (v := (k : Int)) (by omega) (by have := lq.len; omega)
    rw [rowM_at h1, rowM_at h2] at hs
    rw [List.getElem_map, List.getElem_map]
    exact within_sim (listB_sub hs) (by omega) (by omega)
  have q1 : ((ledM true g).map listB).length = g.vars.toNat := by rw [List.length_map]; exact lq.len
  have q2 : ((ledM true (more g r)).map listB).length = g.vars.toNat := by rw [List.length_map]; exact mq.len
  generalize (ledM true g).map listB = L1 at a5 w5 q1
  generalize (ledM true (more g r)).map listB = L2 at d5 w5 q2
  have q3 : (L1.length : Int) = L2.length := by omega
  repeat (first | refine wkz ?_ | refine s_field (hr := ?_))
  refine s_call [] (hA := a1) (hr := ?_)
  repeat (first | refine wkz ?_ | refine s_field (hr := ?_))
  refine s_callf [] (hA := d1) (hr := ?_)
  repeat (first | refine wkz ?_ | refine s_field (hr := ?_))
  refine s_call [] (hA := a2) (hr := ?_)
  repeat (first | refine wkz ?_ | refine s_field (hr := ?_))
  refine s_callf [] (hA := d2) (hr := ?_)
  repeat (first | refine wkz ?_ | refine s_field (hr := ?_))
  refine s_call [] (hA := a3) (hr := ?_)
  repeat (first | refine wkz ?_ | refine s_field (hr := ?_))
  refine s_callf [] (hA := d3) (hr := ?_)
  repeat (first | refine wkz ?_ | refine s_field (hr := ?_))
  refine s_call [] (hA := a4) (hr := ?_)
  repeat (first | refine wkz ?_ | refine s_field (hr := ?_))
  refine s_callf [] (hA := d4) (hr := ?_)
  repeat (first | refine wkz ?_ | refine s_field (hr := ?_))
  refine s_call [] (hA := a5) (hr := ?_)
  repeat (first | refine wkz ?_ | refine s_field (hr := ?_))
  refine s_callf [] (hA := d5) (hr := ?_)
  repeat (first | refine wkz ?_ | refine s_field (hr := ?_))
  refine s_call [] (hA := w1) (hr := ?_)
  repeat (first | refine wkz ?_ | refine s_field (hr := ?_))
  refine s_call [] (hA := w2) (hr := ?_)
  repeat (first | refine wkz ?_ | refine s_field (hr := ?_))
  refine s_call [] (hA := w3) (hr := ?_)
  repeat (first | refine wkz ?_ | refine s_field (hr := ?_))
  refine s_call [] (hA := w4) (hr := ?_)
  repeat (first | refine wkz ?_ | refine s_field (hr := ?_))
  have e5 : decide ((L1.length : Int) = L2.length) = true := decide_eq_true q3
  rw [e5]
  refine t_loop (X := Nat) (fun k => k ≤ L1.length) (fun k => [(27, I k), (26, B true), (22, .d (.sl false 1 (L1.map (ints false)))), (24, .d (.sl false 1 (L2.map (ints false)))), (4, B false)]) (fun _ => []) (fun k => L1.length - k) 0 (Nat.zero_le _) ?_
  intro k hk
  by_cases hlt : k < L1.length
  · have hlt2 : k < L2.length := by omega
    repeat (first | refine wkz ?_ | refine s_field (hr := ?_))
    refine s_call [] (hA := w5 k hlt hlt2) (hr := ?_)
    repeat (first | refine wkz ?_ | refine s_field (hr := ?_))
    exact t_next (k + 1)
  · repeat (first | refine wkz ?_ | refine s_field (hr := ?_))
    exact fin
end Go.Proofs.Ytpaeihifcmohkaa
