/-
  Sim: trimBegun, TrimMakes, TrimTrims return true.
-/
import Derived.Test.YtpaeihifcmohkaaTrimD
set_option linter.unusedVariables false
set_option linter.unusedSimpArgs false
set_option linter.unusedSectionVars false
namespace Go.Proofs.Ytpaeihifcmohkaa
open Go.RowKit
set_option maxRecDepth 100000
-- SimX
theorem tFrags_small (g : Gram) : ∀ (rs : List Rule) (i : Nat), (∀ r ∈ rs, r.right.length ≤ 10) → ∀ l ∈ tFrags g rs i, fszs l ≤ 11
  | [], _, _, l, h => by simp [tFrags] at h
  | r :: rs, i, hr, l, h => by
    rw [tFrags] at h
    have hk := kids_le r.right
    have h10 := hr r (by simp)
    split at h
    · rcases List.mem_cons.1 h with rfl | h
      · rw [fszs_node]; omega
      · exact tFrags_small g rs (i + 1) (fun r h => hr r (by simp [h])) l h
    · exact tFrags_small g rs (i + 1) (fun r h => hr r (by simp [h])) l h
theorem trimS_fit (g : Gram) : (trimS g).1.fit := by
  by_cases h : (gramFault g).code = 0
  · rw [trimS, if_pos h]
    have hg := gram_ok h
    have hk := trimOut_ok hg
    have hl : (tFrags g g.rules 0).length ≤ 160 := by rw [tLen]; exact hk.rules
    exact ⟨hk.fit, (by show (tFrags g g.rules 0).length ≤ _; omega), fun l hm => Nat.le_trans (tFrags_small g g.rules 0 hg.right l hm) (by decide), by simp [trimOut, cnts]⟩
  · rw [trimS, if_neg h]; exact zeroStep_fit
theorem trimS_step {g : Gram} (h : (trimS g).2.code = 0) : stepFault g (trimS g).1 = ⟨0, 0⟩ := by
  by_cases h0 : (gramFault g).code = 0
  · rw [trimS, if_pos h0]; exact trim_step (gram_ok h0)
  · rw [trimS, if_neg h0] at h; exact absurd h h0
def tbG : Gram := ⟨3, 0, 2, [⟨2, [0]⟩, ⟨0, []⟩, ⟨1, []⟩]⟩
theorem tbG_fit : tbG.fit := ⟨by decide, fun r hr => by simp [tbG] at hr; rcases hr with rfl | rfl | rfl <;> decide⟩
theorem tb_eq : trimS tbG = (⟨⟨2, 0, 1, [⟨1, [0]⟩, ⟨0, []⟩]⟩, [[.mk 1 0 [.mk 2 0 []]], [.mk 1 1 []]], []⟩, ⟨0, 0⟩) := by kernel_rfl
theorem tb_make : ACalls Try.prog 57 [.d (.agg [iD 3, iD 0, iD 2, .sl false 2 [.agg [iD 2, ints false [0]], .agg [iD 0, nilT], .agg [iD 1, nilT]]])] [] (.tup [.d (stepD false (trimS tbG).1), .d (faultD (trimS tbG).2)]) [] :=
  (trimMake_sim tbG_fit).le ⟨.agg (.cons (.refl _) (.cons (.refl _) (.cons (.refl _) (.cons (.sl (.cons (.refl _) (.cons (.agg (.cons (.refl _) (.cons (.nil _ _) .nil))) (.cons (.agg (.cons (.refl _) (.cons (.nil _ _) .nil))) .nil)))) .nil)))), trivial⟩
theorem trimBegun_sim : ACalls Try.prog 56 [] [] (B true) [] := by
  refine ACalls.intro (n := 44) Try.func56 rfl rfl (by simp) (by rfl) ?_
  simp only [argFr]
  have h := tb_make
  rw [tb_eq] at h
  repeat (first | refine wk ?_ | refine s_field (hr := ?_))
  refine s_callf [] (hA := h) (hr := ?_)
  repeat (first | refine wk ?_ | refine s_field (hr := ?_))
  exact fin
set_option maxHeartbeats 4000000 in
theorem trimMakes_sim {g : Gram} (hl : g.rules.length ≤ 100000000) (hr : ∀ r ∈ g.rules, r.right.length ≤ 100000000) :
    ACalls Try.prog 11 [.d (gramD false g)] [] (B true) [] := by
  refine ACalls.intro (n := 49) Try.func11 rfl rfl (by simp) (by rfl) ?_
  simp only [argFr]
  have hf : g.fit := ⟨hl, hr⟩
  have hsf := trimS_fit g
  have hst := @trimS_step g
  have hm := trimMake_sim hf
  have ho := trimOf_sim hf
  generalize trimS g = s at *
  have s0 := sameGram_sim (t := false) (u := false) hf hf
  rw [decide_eq_true rfl] at s0
  have q2 : decide (s.2 = s.2) = true := by simp
  repeat (first | refine wk ?_ | refine s_field (hr := ?_))
  refine s_call [] (hA := trimBegun_sim) (hr := ?_)
  repeat (first | refine wk ?_ | refine s_field (hr := ?_))
  refine s_call [] (hA := greatGram_sim hl hr) (hr := ?_)
  cases h1 : greatG g with
  | true => repeat (first | refine wk ?_ | refine s_field (hr := ?_)); exact fin
  | false =>
  repeat (first | refine wk ?_ | refine s_field (hr := ?_))
  refine s_call [] (hA := ownGram_sim hf) (hr := ?_)
  repeat (first | refine wk ?_ | refine s_field (hr := ?_))
  refine s_callf [] (hA := hm) (hr := ?_)
  repeat (first | refine wk ?_ | refine s_field (hr := ?_))
  refine s_callf [] (hA := ho) (hr := ?_)
  by_cases h0 : s.2.code = 0
  · have hsf2 := stepFault_sim (t := false) (u := false) hf hsf
    rw [hst h0] at hsf2
    repeat (first | refine wk ?_ | refine s_field (hr := ?_))
    refine s_call [] (hA := sameStep_sim (t := false) (u := false) hsf) (hr := ?_)
    repeat (first | refine wk ?_ | refine s_field (hr := ?_))
    refine s_callf [] (hA := s0) (hr := ?_)
    repeat (first | refine wk ?_ | refine s_field (hr := ?_))
    refine s_call [] (hA := hsf2) (hr := ?_)
    repeat (first | refine wk ?_ | refine s_field (hr := ?_))
    exact fin
  · repeat (first | refine wk ?_ | refine s_field (hr := ?_))
    refine s_call [] (hA := sameStep_sim (t := false) (u := false) hsf) (hr := ?_)
    repeat (first | refine wk ?_ | refine s_field (hr := ?_))
    refine s_callf [] (hA := s0) (hr := ?_)
    repeat (first | refine wk ?_ | refine s_field (hr := ?_))
    exact fin
set_option maxHeartbeats 4000000 in
theorem trimTrims_sim {g : Gram} (hl : g.rules.length ≤ 100000000) (hr : ∀ r ∈ g.rules, r.right.length ≤ 100000000) :
    ACalls Try.prog 12 [.d (gramD false g)] [] (B true) [] := by
  refine ACalls.intro (n := 93) Try.func12 rfl rfl (by simp) (by rfl) ?_
  simp only [argFr]
  have hf : g.fit := ⟨hl, hr⟩
  have hm := trimMake_sim hf
  repeat (first | refine wk ?_ | refine s_field (hr := ?_))
  refine s_call [] (hA := trimBegun_sim) (hr := ?_)
  repeat (first | refine wk ?_ | refine s_field (hr := ?_))
  refine s_call [] (hA := greatGram_sim hl hr) (hr := ?_)
  cases h1 : greatG g with
  | true => repeat (first | refine wk ?_ | refine s_field (hr := ?_)); exact fin
  | false =>
  by_cases hc : (gramFault g).code = 0
  rotate_left
  · rw [show trimS g = (zeroStep, gramFault g) by rw [trimS, if_neg hc]] at hm
    repeat (first | refine wk ?_ | refine s_field (hr := ?_))
    refine s_callf [] (hA := hm) (hr := ?_)
    repeat (first | refine wk ?_ | refine s_field (hr := ?_))
    exact fin
  have hg := gram_ok hc
  rw [show trimS g = (trimOut g, ⟨0, 0⟩) by rw [trimS, if_pos hc]] at hm
  have hk := trimOut_ok hg
  obtain ⟨k1, k2⟩ := trim_trims hg
  have k3 := trim_vars_le g hg
  have k4 := trim_rules_le g
  have hm2 := trimMake_sim hk.fit
  rw [show trimS (trimOut g).g = (trimOut (trimOut g).g, ⟨0, 0⟩) by rw [trimS, if_pos hk.code]] at hm2
  have hr160 := hg.rules
  have hgo := goodOf_sim (t := false) hk
  have hre := reachedOf_sim (t := false) hk
  have hG : (goodB (trimOut g).g).length = (trimOut g).g.vars.toNat := leftsOf_len (t := true) hk
  have hR : (reachOf (trimOut g).g).length = (trimOut g).g.vars.toNat := reachOf_len _
  rw [show leftsOf true (trimOut g).g = goodB (trimOut g).g from rfl] at hgo
  have hvv := hk.vars1
  have hvv2 := hk.vars
  have s0 := sameGram_sim (t := false) (u := false) hk.fit hk.fit
  rw [decide_eq_true rfl] at s0
  generalize trimOut (trimOut g).g = z2 at *
  generalize goodB (trimOut g).g = G at *
  generalize reachOf (trimOut g).g = R at *
  generalize trimOut g = z at *
  obtain ⟨zg, zf, ze⟩ := z2
  dsimp only at k2
  subst k2
  obtain ⟨N, hN⟩ : ∃ N : Nat, z.g.vars = (N : Int) := ⟨z.g.vars.toNat, by omega⟩
  have hNt : z.g.vars.toNat = N := by omega
  rw [hNt] at hgo hre hG hR
  repeat (first | refine wk ?_ | refine s_field (hr := ?_))
  refine s_callf [] (hA := hm) (hr := ?_)
  repeat (first | refine wk ?_ | refine s_field (hr := ?_))
  refine s_callf [] (hA := hm2) (hr := ?_)
  repeat (first | refine wk ?_ | refine s_field (hr := ?_))
  refine s_callf [(8, 907)] (hA := hgo) (hr := ?_)
  repeat (first | refine wk ?_ | refine s_field (hr := ?_))
  refine s_callf [(10, 908)] (hA := hre) (hr := ?_)
  repeat (first | refine wk ?_ | refine s_field (hr := ?_))
  refine t_loop (X := Nat) (fun i => i ≤ N) (fun i => [(9, I i), (7, .own 907 N), (8, .own 908 N), (1, .ptr 1 0), (3, .ptr 3 0), (5, .ptr 5 0), (6, .ptr 6 0)]) (fun _ => [(1, gramBox false g), (3, stepBox false z), (5, stepBox false ⟨z.g, zf, ze⟩), (6, .box 25 [.d (iD 0), .d (iD 0)]), (907, .row 4 1 (G.map bD)), (908, .row 4 1 (R.map bD))]) (fun i => N - i) 0 (Nat.zero_le _) ?_
  intro i hi
  by_cases hlt : i < N
  · have hk1 := k1 (i : Nat) (by omega) (by omega)
    have hgi : i < G.length := by omega
    have hri : i < R.length := by omega
    have e1 := has_get (is := G) (rfl : ((i : Nat) : Int) = (i : Int)) hgi
    have e2 := has_get (is := R) (rfl : ((i : Nat) : Int) = (i : Int)) hri
    have e3 : R[i] = true := by rw [← e2]; exact hk1.2
    by_cases hs : (i : Int) = z.g.start
    · (repeat (first | refine wkz ?_ | refine s_field (hr := ?_)))
      exact t_next (i + 1)
    · have e4 : G[i] = true := by rw [← e1]; exact hk1.1 hs
      (repeat (first | refine wkz ?_ | refine s_field (hr := ?_)))
      exact t_next (i + 1)
  · obtain rfl : N = i := by omega
    repeat (first | refine wk ?_ | refine s_field (hr := ?_))
    refine s_callf [] (hA := s0) (hr := ?_)
    repeat (first | refine wk ?_ | refine s_field (hr := ?_))
    exact fin
end Go.Proofs.Ytpaeihifcmohkaa
