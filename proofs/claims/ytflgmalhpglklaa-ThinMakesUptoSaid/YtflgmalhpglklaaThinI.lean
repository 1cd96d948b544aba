/-
  Thin: begun; ThinMakes.
-/
import Derived.Test.YtflgmalhpglklaaThinE
import Derived.Test.YtflgmalhpglklaaThF
import Derived.Test.YtflgmalhpglklaaChartM
import Derived.Test.YtflgmalhpglklaaFrC
set_option linter.unusedVariables false
set_option linter.unusedSimpArgs false
set_option linter.unusedSectionVars false
namespace Go.Proofs.Ytflgmalhpglklaa
open Go.RowKit
set_option maxRecDepth 100000
-- SimX

def tnG : Gram := ⟨1, 1, 0, [⟨0, [-1, 0]⟩, ⟨0, []⟩]⟩
theorem tnG_ok : tnG.ok := gram_ok (by kernel_rfl)
theorem tn_cyc : cycL tnG = [] := by kernel_rfl
def tnN : Cube := fun v i j => if v = 0 ∧ i = 0 ∧ j = 0 then 1 else 0
theorem tnN_is : wcns tnG [] manyC = tnN := by
  have h1 : wcns tnG [] manyC = rnds tnG [] manyC 2 := wcns_at (by kernel_rfl)
  rw [h1]
  funext v i j
  by_cases h : (v : Int) < tnG.vars ∧ i ≤ j ∧ j ≤ ([] : List Int).length
  · obtain ⟨q1, q2, q3⟩ := h
    have q1 : v < 1 := by have : tnG.vars = 1 := rfl; omega
    simp at q3
    obtain rfl : v = 0 := by omega
    obtain rfl : j = 0 := by omega
    obtain rfl : i = 0 := by omega
    decide +kernel
  · rw [rnds_out h]
    unfold tnN
    rw [if_neg (fun q => h ⟨by rw [q.1]; decide, by omega, by simp [q.2.2]⟩)]
theorem tn_cnt : cntF tnG [] = 1 := by unfold cntF; rw [tnN_is]; rfl
theorem tn_t (d L : Nat) : treeF tnG tnN [] (d + 2) 0 0 0 0 (L + 2) = some (.mk 1 [], L + 1) := by kernel_rfl
theorem tn_u {d L v n : Nat} (hd : 2 ≤ d) (hL : 2 ≤ L) (hv : v = 0) (hn : n = 0) : treeF tnG tnN [] d v 0 n 0 L = some (.mk 1 [], L - 2 + 1) := by
  obtain ⟨e, rfl⟩ : ∃ e, d = e + 2 := ⟨d - 2, by omega⟩
  obtain ⟨M, rfl⟩ : ∃ M, L = M + 2 := ⟨L - 2, by omega⟩
  subst hv hn
  rw [tn_t, Nat.add_sub_cancel]
theorem atF_isT {g : Gram} {w : List Int} {k L : Nat} {x : Tree} {N : Cube} (hN : wcns g w manyC = N) (h : treeF g N w 400 g.start.toNat 0 w.length k 400 = some (x, L)) : atF g w k = (x, ⟨0, 0⟩, L) := by
  subst hN
  unfold atF; rw [h]
theorem tn_at : atF tnG [] 0 = (.mk 1 [], ⟨0, 0⟩, 399) := atF_isT tnN_is (tn_u (by omega) (by omega) rfl rfl)
theorem tn_op : opF tnG [] = ⟨0, 0⟩ := by
  unfold opF
  rw [tn_cnt, if_neg (show ¬ 1 = manyC by decide), chF_of tnG_ok tn_cyc]
  rfl
theorem tn_list : fListF tnG [] = ([.mk 1 []], ⟨0, 0⟩) := by
  unfold fListF
  rw [tn_op, tn_cnt, if_pos rfl, if_neg (by omega), listF, tn_at, if_pos rfl, listF]
  rfl
theorem tn_nl : nlF tnG = some [[.mk 1 []]] := by
  have e : stG tnG 0 = tnG := rfl
  show nlA tnG 1 0 [] = _
  rw [nlA, e, tn_list, if_pos rfl, nlA]
  rfl
def tnW : TS := ⟨[⟨0, [-1, 0]⟩, ⟨0, [-1]⟩], [[.mk 1 0 [holeF 0]], [.mk 1 0 [.mk 1 1 []]]]⟩
theorem tn_A : thA [[.mk 1 []]] 0 tnG.rules ⟨[], []⟩ = .ok tnW := by kernel_rfl
theorem tn_thin : thinF tnG = (⟨⟨1, 1, 0, tnW.rules⟩, tnW.frags, [.mk 1 []]⟩, ⟨0, 0⟩) := by
  unfold thinF
  rw [tnG_ok.fault, if_pos rfl, if_pos tn_cyc, tn_nl]
  dsimp only
  rw [tn_A]
  rfl
theorem tn_make : ACalls Try.prog 53 [.d (.agg [iD 1, iD 1, iD 0, .sl false 2 [.agg [iD 0, ints false [-1, 0]], .agg [iD 0, nilT]]])] [] (.tup [.d (stepD false (thinF tnG).1), .d (faultD (thinF tnG).2)]) [] :=
  (thinMake_sim (t := false) tnG_ok.fit).le ⟨.agg (.cons (.refl _) (.cons (.refl _) (.cons (.refl _) (.cons (.sl (.cons (.refl _) (.cons (.agg (.cons (.refl _) (.cons (.nil _ _) .nil))) .nil))) .nil)))), trivial⟩
theorem thinBegun_sim : ACalls Try.prog 52 [] [] (B true) [] := by
  refine ACalls.intro (n := 36) Try.func52 rfl rfl (by simp) (by rfl) ?_
  simp only [argFr]
  have h := tn_make
  rw [tn_thin] at h
  repeat (first | refine wk ?_ | refine s_field (hr := ?_))
  --@
  refine s_callf [] (hA := h) (hr := ?_)
  repeat (first | refine wk ?_ | refine s_field (hr := ?_))
  --@
  exact fin
theorem thin_fit {g : Gram} : (thinF g).1.fit := by
  rcases thinF_cases g with ⟨_, h⟩ | ⟨nl, S, hg, hc, hn, hA, e⟩
  · rw [h]; exact ⟨⟨by decide, fun r hr => by simp [zeroStep] at hr⟩, by decide, fun l hl => by simp [zeroStep] at hl, by simp [zeroStep, cnts]⟩
  · rw [e]
    have hS := thin_good hg hc hn hA
    obtain ⟨h1, h2⟩ := nlF_at hn
    have hst := hg.start
    have hsn := hg.stN
    obtain ⟨q1, q2⟩ := h2 (stN g) (by omega)
    refine ⟨(hS.ok hg).fit, ?_, fun l hl => Nat.le_trans (hS.small l hl) (by decide), ?_⟩
    · have := hS.parts.len
      have := hS.rules
      show S.frags.length ≤ _
      omega
    · show cnts (nl.getD (stN g) []) ≤ _
      rw [q2]
      have k1 : ∀ (l : List Tree), (∀ x ∈ l, cnt x ≤ 400) → cnts l ≤ 400 * l.length := by
        intro l
        induction l with
        | nil => intro _; simp [cnts]
        | cons x l ih =>
          intro h
          have a1 := h x (by simp)
          have a2 := ih (fun y hy => h y (by simp [hy]))
          simp only [cnts, List.length_cons, Nat.mul_add]; omega
      have k2 := k1 _ (fun x hx => ((fList_ok q1).mem hx).2)
      have k3 := (fList_ok q1).len
      have k4 := (fList_ok q1).few
      have k5 : 400 * (fListF (stG g (stN g)) []).1.length ≤ 400 * 200 := Nat.mul_le_mul_left _ (by omega)
      omega
set_option maxHeartbeats 4000000 in
theorem thinMakes_sim {g : Gram} (hl : g.rules.length ≤ 100000000) (hr : ∀ r ∈ g.rules, r.right.length ≤ 100000000) :
    ACalls Try.prog 11 [.d (gramD false g)] [] (B true) [] := by
  refine ACalls.intro (n := 49) Try.func11 rfl rfl (by simp) (by rfl) ?_
  simp only [argFr]
  have hf : g.fit := ⟨hl, hr⟩
  have hsf := @thin_fit g
  have hst := @thin_step g
  have hm := thinMake_sim (t := false) hf
  have ho := thinOf_sim (t := false) hf
  generalize thinF g = s at *
  have s0 := sameGram_sim (t := false) (u := false) hf hf
  rw [decide_eq_true rfl] at s0
  have q2 : decide (s.2 = s.2) = true := by simp
  repeat (first | refine wk ?_ | refine s_field (hr := ?_))
  refine s_call [] (hA := thinBegun_sim) (hr := ?_)
  repeat (first | refine wk ?_ | refine s_field (hr := ?_))
  refine s_call [] (hA := greatGram_sim hl hr) (hr := ?_)
  cases h1 : greatG g with
  | true => repeat (first | refine wk ?_ | refine s_field (hr := ?_)); exact fin
  | false =>
  repeat (first | refine wk ?_ | refine s_field (hr := ?_))
  refine s_call [] (hA := ownGram_sim hf) (hr := ?_)
  repeat (first | refine wk ?_ | refine s_field (hr := ?_))
  refine s_callf [] (hA := hm) (hr := ?_)
  repeat (first | refine wk ?_ | refine s_field (hr := ?_))
  refine s_callf [] (hA := ho) (hr := ?_)
  by_cases h0 : s.2.code = 0
  · have hsf2 := stepFault_sim (t := false) (u := false) hf hsf
    rw [hst h0] at hsf2
    repeat (first | refine wk ?_ | refine s_field (hr := ?_))
    refine s_call [] (hA := sameStep_sim (t := false) (u := false) hsf) (hr := ?_)
    repeat (first | refine wk ?_ | refine s_field (hr := ?_))
    refine s_callf [] (hA := s0) (hr := ?_)
    repeat (first | refine wk ?_ | refine s_field (hr := ?_))
    refine s_call [] (hA := hsf2) (hr := ?_)
    repeat (first | refine wk ?_ | refine s_field (hr := ?_))
    exact fin
  · repeat (first | refine wk ?_ | refine s_field (hr := ?_))
    refine s_call [] (hA := sameStep_sim (t := false) (u := false) hsf) (hr := ?_)
    repeat (first | refine wk ?_ | refine s_field (hr := ?_))
    refine s_callf [] (hA := s0) (hr := ?_)
    repeat (first | refine wk ?_ | refine s_field (hr := ?_))
    exact fin
end Go.Proofs.Ytflgmalhpglklaa
