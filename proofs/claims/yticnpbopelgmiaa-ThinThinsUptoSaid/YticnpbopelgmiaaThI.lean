/-
  Thin: begun; ThinMakes. ThinThins returns true.
-/
import Derived.Test.YticnpbopelgmiaaThinE
import Derived.Test.YticnpbopelgmiaaThF
import Derived.Test.YticnpbopelgmiaaChartM
import Derived.Test.YticnpbopelgmiaaFrC
set_option linter.unusedVariables false
set_option linter.unusedSimpArgs false
set_option linter.unusedSectionVars false
namespace Go.Proofs.Yticnpbopelgmiaa
open Go.RowKit
set_option maxRecDepth 100000
-- SimX

def tnG : Gram := ⟨1, 1, 0, [⟨0, [-1, 0]⟩, ⟨0, []⟩]⟩
theorem tnG_ok : tnG.ok := gram_ok (by kernel_rfl)
theorem tn_cyc : cycL tnG = [] := by kernel_rfl
def tnN : Cube := fun v i j => if v = 0 ∧ i = 0 ∧ j = 0 then 1 else 0
theorem tnN_is : wcns tnG [] manyC = tnN := by
  have h1 : wcns tnG [] manyC = rnds tnG [] manyC 2 := wcns_at (by kernel_rfl)
  rw [h1]
  funext v i j
  by_cases h : (v : Int) < tnG.vars ∧ i ≤ j ∧ j ≤ ([] : List Int).length
  · obtain ⟨q1, q2, q3⟩ := h
    have q1 : v < 1 := by have : tnG.vars = 1 := rfl; omega
    simp at q3
    obtain rfl : v = 0 := by omega
    obtain rfl : j = 0 := by omega
    obtain rfl : i = 0 := by omega
    decide +kernel
  · rw [rnds_out h]
    unfold tnN
    rw [if_neg (fun q => h ⟨by rw [q.1]; decide, by omega, by simp [q.2.2]⟩)]
theorem tn_cnt : cntF tnG [] = 1 := by unfold cntF; rw [tnN_is]; rfl
theorem tn_t (d L : Nat) : treeF tnG tnN [] (d + 2) 0 0 0 0 (L + 2) = some (.mk 1 [], L + 1) := by kernel_rfl
theorem tn_u {d L v n : Nat} (hd : 2 ≤ d) (hL : 2 ≤ L) (hv : v = 0) (hn : n = 0) : treeF tnG tnN [] d v 0 n 0 L = some (.mk 1 [], L - 2 + 1) := by
  obtain ⟨e, rfl⟩ : ∃ e, d = e + 2 := ⟨d - 2, by omega⟩
  obtain ⟨M, rfl⟩ : ∃ M, L = M + 2 := ⟨L - 2, by omega⟩
  subst hv hn
  rw [tn_t, Nat.add_sub_cancel]
theorem atF_isT {g : Gram} {w : List Int} {k L : Nat} {x : Tree} {N : Cube} (hN : wcns g w manyC = N) (h : treeF g N w 400 g.start.toNat 0 w.length k 400 = some (x, L)) : atF g w k = (x, ⟨0, 0⟩, L) := by
  subst hN
  unfold atF; rw [h]
theorem tn_at : atF tnG [] 0 = (.mk 1 [], ⟨0, 0⟩, 399) := atF_isT tnN_is (tn_u (by omega) (by omega) rfl rfl)
theorem tn_op : opF tnG [] = ⟨0, 0⟩ := by
  unfold opF
  rw [tn_cnt, if_neg (show ¬ 1 = manyC by decide), chF_of tnG_ok tn_cyc]
  rfl
theorem tn_list : fListF tnG [] = ([.mk 1 []], ⟨0, 0⟩) := by
  unfold fListF
  rw [tn_op, tn_cnt, if_pos rfl, if_neg (by omega), listF, tn_at, if_pos rfl, listF]
  rfl
theorem tn_nl : nlF tnG = some [[.mk 1 []]] := by
  have e : stG tnG 0 = tnG := rfl
  show nlA tnG 1 0 [] = _
  rw [nlA, e, tn_list, if_pos rfl, nlA]
  rfl
def tnW : TS := ⟨[⟨0, [-1, 0]⟩, ⟨0, [-1]⟩], [[.mk 1 0 [holeF 0]], [.mk 1 0 [.mk 1 1 []]]]⟩
theorem tn_A : thA [[.mk 1 []]] 0 tnG.rules ⟨[], []⟩ = .ok tnW := by kernel_rfl
theorem tn_thin : thinF tnG = (⟨⟨1, 1, 0, tnW.rules⟩, tnW.frags, [.mk 1 []]⟩, ⟨0, 0⟩) := by
  unfold thinF
  rw [tnG_ok.fault, if_pos rfl, if_pos tn_cyc, tn_nl]
  dsimp only
  rw [tn_A]
  rfl
theorem tn_make : ACalls Try.prog 16 [.d (.agg [iD 1, iD 1, iD 0, .sl false 2 [.agg [iD 0, ints false [-1, 0]], .agg [iD 0, nilT]]])] [] (.tup [.d (stepD false (thinF tnG).1), .d (faultD (thinF tnG).2)]) [] :=
  (thinMake_sim (t := false) tnG_ok.fit).le ⟨.agg (.cons (.refl _) (.cons (.refl _) (.cons (.refl _) (.cons (.sl (.cons (.refl _) (.cons (.agg (.cons (.refl _) (.cons (.nil _ _) .nil))) .nil))) .nil)))), trivial⟩
theorem thinBegun_sim : ACalls Try.prog 13 [] [] (B true) [] := by
  refine ACalls.intro (n := 36) Try.func13 rfl rfl (by simp) (by rfl) ?_
  simp only [argFr]
  have h := tn_make
  rw [tn_thin] at h
  repeat (first | refine wk ?_ | refine s_field (hr := ?_))
  --@
  refine s_callf [] (hA := h) (hr := ?_)
  repeat (first | refine wk ?_ | refine s_field (hr := ?_))
  --@
  exact fin
end Go.Proofs.Yticnpbopelgmiaa
namespace Go.Proofs.Yticnpbopelgmiaa
open Go.RowKit
set_option maxRecDepth 100000
-- SimX

set_option maxHeartbeats 4000000 in
theorem thinThins_sim {g : Gram} (hl : g.rules.length ≤ 100000000) (hr : ∀ r ∈ g.rules, r.right.length ≤ 100000000) :
    ACalls Try.prog 4 [.d (gramD false g)] [] (B true) [] := by
  refine ACalls.intro (n := 71) Try.func4 rfl rfl (by simp) (by rfl) ?_
  simp only [argFr]
  have hf : g.fit := ⟨hl, hr⟩
  have hm := thinMake_sim (t := false) hf
  repeat (first | refine wk ?_ | refine s_field (hr := ?_))
  refine s_call [] (hA := thinBegun_sim) (hr := ?_)
  repeat (first | refine wk ?_ | refine s_field (hr := ?_))
  refine s_call [] (hA := greatGram_sim hl hr) (hr := ?_)
  cases h1 : greatG g with
  | true => repeat (first | refine wk ?_ | refine s_field (hr := ?_)); exact fin
  | false =>
  rcases thinF_cases g with ⟨hz, he⟩ | ⟨nl, S, hg, hc, hn, hA, e⟩
  · generalize thinF g = s at *
    obtain ⟨s1, ⟨fc, fa⟩⟩ := s
    dsimp only at hz he
    subst he
    repeat (first | refine wk ?_ | refine s_field (hr := ?_))
    refine s_callf [] (hA := hm) (hr := ?_)
    repeat (first | refine wk ?_ | refine s_field (hr := ?_))
    --@
    exact fin
  have hS := thin_good hg hc hn hA
  have hh := hS.ok hg
  have hm2 := thinMake_sim (t := false) hh.fit
  obtain ⟨F, hF⟩ := thin_again hg hc hn hA
  rw [show (⟨g.vars, g.terms, g.start, S.rules⟩ : Gram) = thG g S from rfl, hF] at hm2
  rw [e] at hm
  have hne : ∀ i, ∀ h : i < S.rules.length, 0 < S.rules[i].right.length := fun i h => List.length_pos_iff.2 (hS.each _ (List.getElem_mem h)).2.1.1
  have hr160 := hS.rules
  have s0 := sameGram_sim (t := false) (u := false) hh.fit hh.fit
  rw [decide_eq_true rfl] at s0
  generalize nl.getD (stN g) [] = em at *
  simp only [thG] at hm2
  repeat (first | refine wk ?_ | refine s_field (hr := ?_))
  refine s_callf [] (hA := hm) (hr := ?_)
  repeat (first | refine wk ?_ | refine s_field (hr := ?_))
  --@
  refine t_loop (X := Nat) (fun i => i ≤ S.rules.length) (fun i => [(5, I i), (2, B false), (3, .ptr 3 0), (4, .ptr 4 0), (1, .ptr 1 0)]) (fun _ => [(1, gramBox false g), (3, stepBox false ⟨⟨g.vars, g.terms, g.start, S.rules⟩, S.frags, em⟩), (4, .box 33 [.d (iD 0), .d (iD 0)])]) (fun i => S.rules.length - i) 0 (Nat.zero_le _) ?_
  intro i hi
  by_cases hlt : i < S.rules.length
  · have hp := hne i hlt
    have hp' : ¬ ((S.rules[i].right.length : Nat) : Int) = 0 := by omega
    repeat (first | refine wk ?_ | refine s_field (hr := ?_))
    --@
    exact t_next (i + 1)
  · obtain rfl : i = S.rules.length := by omega
    repeat (first | refine wk ?_ | refine s_field (hr := ?_))
    --@
    refine s_callf [] (hA := hm2) (hr := ?_)
    repeat (first | refine wk ?_ | refine s_field (hr := ?_))
    --@
    refine s_callf [] (hA := s0) (hr := ?_)
    repeat (first | refine wk ?_ | refine s_field (hr := ?_))
    --@
    exact fin
end Go.Proofs.Yticnpbopelgmiaa
