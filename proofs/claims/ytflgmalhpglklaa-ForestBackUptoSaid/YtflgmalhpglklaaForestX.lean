/-
  ForestBack returns true.
-/
import Derived.Test.YtflgmalhpglklaaFoT
set_option linter.unusedVariables false
set_option linter.unusedSimpArgs false
set_option linter.unusedSectionVars false

namespace Go.Proofs.Ytflgmalhpglklaa
open Go.RowKit
set_option maxRecDepth 100000
-- SimX

theorem wrapU_pos (i : Int) : 0 ≤ IntKind.u64.wrap i ∧ IntKind.u64.wrap i < 18446744073709551616 := by
  have e : IntKind.u64.wrap i = i % 18446744073709551616 := rfl
  rw [e]; omega
section
variable {g : Gram} {w : List Int}
theorem fAtF_in (hop : (opF g w).code = 0) {k : Nat} (hk : k < cntF g w) : fAtF g w (k : Int) = ((atF g w k).1, (atF g w k).2.1) := by
  unfold fAtF
  rw [if_pos hop, if_pos ⟨by omega, by omega⟩]; rfl
theorem fAtF_out (hop : (opF g w).code = 0) {k : Nat} (hk : ¬ k < cntF g w) : fAtF g w (k : Int) = (noT, ⟨9, -1⟩) := by
  unfold fAtF
  rw [if_pos hop, if_neg (by omega)]
theorem atF_bad {k : Nat} (h : ¬ (atF g w k).2.1.code = 0) : (atF g w k).2.1 = ⟨6, -1⟩ := by
  unfold atF at h ⊢
  split at h
  · exact absurd rfl h
  · rfl
structure AtOk (g : Gram) (w : List Int) (k : Nat) (x : Tree) : Prop where
  isW : IsW g w x
  cnt : cnt x ≤ 400
  rank : rankF g x = ((k : Int), ⟨0, 0⟩)
theorem at_ok (hop : (opF g w).code = 0) {k : Nat} (hk : k < cntF g w) (h : (atF g w k).2.1.code = 0) : AtOk g w k (atF g w k).1 ∧ (atF g w k).2.1 = ⟨0, 0⟩ := by
  obtain ⟨hC, hz, hlt⟩ := opF_ok hop
  obtain ⟨L, e⟩ := atF_ok h
  have hg := hC.ok
  obtain ⟨h1, h2, h3, h4⟩ := treeF_spec hg (wcns_fixN g w manyC) 400 (stN g) 0 w.length k 400 ((atF g w k).1, L) (by rw [hg.stN]; exact hg.start) (Nat.zero_le _) (Nat.le_refl _) hk hlt e
  dsimp only at h1 h2 h3 h4
  have hw : IsW g w (atF g w k).1 := (isW_isT hg).2 ⟨h1, h2⟩
  have hc : Go.Proofs.Ytflgmalhpglklaa.cnt (atF g w k).1 ≤ 400 := by omega
  refine ⟨⟨hw, hc, ?_⟩, ?_⟩
  · unfold rankF
    rw [(wordR_is hg hw hc).1, hw.2, if_pos rfl, if_pos hop, h3]
  · unfold atF at h ⊢
    split
    · rfl
    · rename_i e2; rw [e2] at e; cases e
theorem at_rise (hop : (opF g w).code = 0) {k k' : Nat} (hkk : k < k') (hk : k' < cntF g w) (h : (atF g w k).2.1.code = 0) (h' : (atF g w k').2.1.code = 0) : ahT g (atF g w k).1 (atF g w k').1 = -1 := by
  obtain ⟨hC, hz, hlt⟩ := opF_ok hop
  obtain ⟨L, e⟩ := atF_ok h
  obtain ⟨L', e'⟩ := atF_ok h'
  have hg := hC.ok
  exact treeF_rise hg (wcns_fixN g w manyC) 400 (stN g) 0 w.length k k' 400 (_, L) (_, L') (by rw [hg.stN]; exact hg.start) (Nat.zero_le _) (Nat.le_refl _) (Nat.lt_trans hkk hk) hk hlt e e' hkk
end
set_option maxHeartbeats 8000000 in
theorem forestBack_sim {g : Gram} {w : List Int} (hr1 : g.rules.length ≤ 100000000) (hr2 : ∀ r ∈ g.rules, r.right.length ≤ 100000000) (hw : w.length ≤ 100000000) (k : Int) :
    ACalls Try.prog 16 [.d (gramD false g), .d (ints false w), I k] [] (B true) [] := by
  have hf : g.fit := ⟨hr1, hr2⟩
  have hhv := heavy_sim (t := false) (u := false) hf hw
  cases hh : heavyB g w with
  | true =>
    rw [hh] at hhv
    refine ACalls.intro (n := 123) Try.func16 rfl rfl (by simp) (by rfl) ?_
    simp only [argFr]
    repeat (first | refine wk ?_ | refine s_field (hr := ?_))
    refine s_call [] (hA := forestBegun_sim) (hr := ?_)
    repeat (first | refine wk ?_ | refine s_field (hr := ?_))
    refine s_call [] (hA := hhv) (hr := ?_)
    repeat (first | refine wk ?_ | refine s_field (hr := ?_))
    exact fin
  | false =>
  rw [hh] at hhv
  by_cases hc : (chF g w).code = 0
  rotate_left
  · have hnn := new_none (t := false) (u := false) hf hw hc
    generalize chF g w = cf at *
    obtain ⟨cc, ca⟩ := cf
    dsimp only at hc
    refine ACalls.intro (n := 123) Try.func16 rfl rfl (by simp) (by rfl) ?_
    simp only [argFr]
    repeat (first | refine wk ?_ | refine s_field (hr := ?_))
    refine s_call [] (hA := forestBegun_sim) (hr := ?_)
    repeat (first | refine wk ?_ | refine s_field (hr := ?_))
    refine s_call [] (hA := hhv) (hr := ?_)
    repeat (first | refine wk ?_ | refine s_field (hr := ?_))
    refine s_call [] (hA := hnn) (hr := ?_)
    repeat (first | refine wk ?_ | refine s_field (hr := ?_))
    --@
    exact fin
  obtain ⟨hC, hz⟩ := chF_ok hc
  have hg := hC.ok
  obtain ⟨s1, s2⟩ := hC.small
  have hnew := new_some (t := false) (u := false) hC
  have hct := count_simC hg hC.cyc s1 s2
  rw [count_is hg] at hct
  have hcm := cntF_le g w
  by_cases hn0 : cntF g w = 0
  · rw [hn0] at hct
    generalize wcns g w manyC = N at *
    generalize nulB g = NB at *
    refine ACalls.intro (n := 123) Try.func16 rfl rfl (by simp) (by rfl) ?_
    simp only [argFr]
    repeat (first | refine wk ?_ | refine s_field (hr := ?_))
    refine s_call [] (hA := forestBegun_sim) (hr := ?_)
    repeat (first | refine wk ?_ | refine s_field (hr := ?_))
    refine s_call [] (hA := hhv) (hr := ?_)
    repeat (first | refine wk ?_ | refine s_field (hr := ?_))
    refine s_call [(62, 962), (60, 960)] (hA := hnew) (hr := ?_)
    repeat (first | refine wk ?_ | refine s_field (hr := ?_))
    refine s_callU [(1000, 962), (1001, 960)] (hA := hct) (hr := ?_)
    (repeat (first | refine wk ?_ | refine s_field (hr := ?_)))
    (repeat (first | refine wkz ?_ | refine s_field (hr := ?_)))
    repeat (first | refine wk ?_ | refine s_field (hr := ?_))
    --@
    exact fin
  by_cases hnM : cntF g w = manyC
  · rw [hnM] at hct
    generalize wcns g w manyC = N at *
    generalize nulB g = NB at *
    refine ACalls.intro (n := 123) Try.func16 rfl rfl (by simp) (by rfl) ?_
    simp only [argFr]
    repeat (first | refine wk ?_ | refine s_field (hr := ?_))
    refine s_call [] (hA := forestBegun_sim) (hr := ?_)
    repeat (first | refine wk ?_ | refine s_field (hr := ?_))
    refine s_call [] (hA := hhv) (hr := ?_)
    repeat (first | refine wk ?_ | refine s_field (hr := ?_))
    refine s_call [(62, 962), (60, 960)] (hA := hnew) (hr := ?_)
    repeat (first | refine wk ?_ | refine s_field (hr := ?_))
    refine s_callU [(1000, 962), (1001, 960)] (hA := hct) (hr := ?_)
    repeat (first | refine wk ?_ | refine s_field (hr := ?_))
    --@
    exact fin
  have hop : (opF g w).code = 0 := by unfold opF; rw [if_pos hc, if_neg hnM]
  have hU0 := (wrapU_pos k).1
  have hx0 : 0 ≤ IntKind.u64.wrap k % ((cntF g w : Nat) : Int) := Int.emod_nonneg _ (by omega)
  have hx1 : IntKind.u64.wrap k % ((cntF g w : Nat) : Int) < ((cntF g w : Nat) : Int) := Int.emod_lt_of_pos _ (by omega)
  obtain ⟨x, hx⟩ : ∃ x : Nat, IntKind.u64.wrap k % ((cntF g w : Nat) : Int) = (x : Int) := ⟨(IntKind.u64.wrap k % ((cntF g w : Nat) : Int)).toNat, by omega⟩
  rw [hx] at hx0 hx1
  have hxn : x < cntF g w := by omega
  have ha := fAt_sim (t := false) (u := false) hf hw (x : Int)
  rw [fAtF_in hop hxn] at ha
  obtain ⟨Q, hQ⟩ : ∃ Q : Int, Q = 4611686018427387904 := ⟨_, rfl⟩
  have hMQ : ((manyC : Nat) : Int) = Q := by rw [hQ]; rfl
  have hcQ : ((cntF g w : Nat) : Int) < Q := by omega
  have hcQ' : ¬ ((cntF g w : Nat) : Int) = 4611686018427387904 := by omega
  have hcp : ¬ ((cntF g w : Nat) : Int) = 0 := by omega
  have hcp' : 0 < ((cntF g w : Nat) : Int) := by omega
  by_cases hac : (atF g w x).2.1.code = 0
  rotate_left
  · rw [atF_bad hac] at ha
    clear hcm hn0 hnM hop hac hxn
    generalize (atF g w x).1 = y at *
    generalize cntF g w = c at *
    generalize wcns g w manyC = N at *
    generalize nulB g = NB at *
    refine ACalls.intro (n := 123) Try.func16 rfl rfl (by simp) (by rfl) ?_
    simp only [argFr]
    repeat (first | refine wk ?_ | refine s_field (hr := ?_))
    refine s_call [] (hA := forestBegun_sim) (hr := ?_)
    repeat (first | refine wk ?_ | refine s_field (hr := ?_))
    refine s_call [] (hA := hhv) (hr := ?_)
    repeat (first | refine wk ?_ | refine s_field (hr := ?_))
    refine s_call [(62, 962), (60, 960)] (hA := hnew) (hr := ?_)
    repeat (first | refine wk ?_ | refine s_field (hr := ?_))
    refine s_callU [(1000, 962), (1001, 960)] (hA := hct) (hr := ?_)
    repeat (first | refine wk ?_ | refine s_field (hr := ?_))
    --@
    refine d_conv (c := IntKind.u64.wrap k) rfl gOk_none rfl Try.underlying3 Try.underlying59 rfl ?_
    generalize IntKind.u64.wrap k = U at *
    repeat (first | refine wk ?_ | refine s_field (hr := ?_))
    refine d_conv (c := (c : Int)) rfl gOk_none rfl Try.underlying3 Try.underlying59 (IntWalk.u64_in _ ⟨by omega, by omega⟩) ?_
    repeat (first | refine wk ?_ | refine s_field (hr := ?_))
    --@
    rw [hx]
    refine d_conv (c := (x : Int)) rfl gOk_none rfl Try.underlying59 Try.underlying3 (IntWalk.i64_in _ ⟨by omega, by omega⟩) ?_
    repeat (first | refine wk ?_ | refine s_field (hr := ?_))
    --@
    refine s_call [] (hA := ha) (hr := ?_)
    repeat (first | refine wk ?_ | refine s_field (hr := ?_))
    --@
    exact fin
  obtain ⟨ok1, ok2⟩ := at_ok hop hxn hac
  rw [ok2] at ha
  have hwd := word_top_sim (t := false) (u := false) (g := g) (x := (atF g w x).1) hf.rules hf.right (by have := ok1.cnt; omega)
  rw [(wordR_is hg ok1.isW ok1.cnt).1, (wordR_is hg ok1.isW ok1.cnt).2] at hwd
  have hrk := rankTop_sim (t := false) (u := false) (x := (atF g w x).1) hf (by have := ok1.cnt; omega)
  rw [ok1.rank] at hrk
  have hsi := sameInts_sim (t := false) (u := false) (xs := w) (ys := w) hw hw
  rw [decide_eq_true (rfl : w = w)] at hsi
  by_cases hlast : x + 1 = cntF g w
  · have ha2 := fAt_sim (t := false) (u := false) hf hw ((cntF g w : Nat) : Int)
    rw [fAtF_out hop (Nat.lt_irrefl _)] at ha2
    have hle : (x : Int) + 1 = ((cntF g w : Nat) : Int) := by omega
    clear hcm hn0 hnM hop hac hxn ok1 ok2 hlast
    generalize (atF g w x).1 = y at *
    generalize cntF g w = c at *
    generalize wcns g w manyC = N at *
    generalize nulB g = NB at *
    refine ACalls.intro (n := 123) Try.func16 rfl rfl (by simp) (by rfl) ?_
    simp only [argFr]
    repeat (first | refine wk ?_ | refine s_field (hr := ?_))
    refine s_call [] (hA := forestBegun_sim) (hr := ?_)
    repeat (first | refine wk ?_ | refine s_field (hr := ?_))
    refine s_call [] (hA := hhv) (hr := ?_)
    repeat (first | refine wk ?_ | refine s_field (hr := ?_))
    refine s_call [(62, 962), (60, 960)] (hA := hnew) (hr := ?_)
    repeat (first | refine wk ?_ | refine s_field (hr := ?_))
    refine s_callU [(1000, 962), (1001, 960)] (hA := hct) (hr := ?_)
    repeat (first | refine wk ?_ | refine s_field (hr := ?_))
    refine d_conv (c := IntKind.u64.wrap k) rfl gOk_none rfl Try.underlying3 Try.underlying59 rfl ?_
    generalize IntKind.u64.wrap k = U at *
    repeat (first | refine wk ?_ | refine s_field (hr := ?_))
    refine d_conv (c := (c : Int)) rfl gOk_none rfl Try.underlying3 Try.underlying59 (IntWalk.u64_in _ ⟨by omega, by omega⟩) ?_
    repeat (first | refine wk ?_ | refine s_field (hr := ?_))
    rw [hx]
    refine d_conv (c := (x : Int)) rfl gOk_none rfl Try.underlying59 Try.underlying3 (IntWalk.i64_in _ ⟨by omega, by omega⟩) ?_
    repeat (first | refine wk ?_ | refine s_field (hr := ?_))
    refine s_call [] (hA := ha) (hr := ?_)
    repeat (first | refine wk ?_ | refine s_field (hr := ?_))
    --@
    refine s_call [] (hA := hwd) (hr := ?_)
    repeat (first | refine wk ?_ | refine s_field (hr := ?_))
    refine s_call [] (hA := hrk) (hr := ?_)
    repeat (first | refine wk ?_ | refine s_field (hr := ?_))
    --@
    refine s_call [] (hA := hsi) (hr := ?_)
    repeat (first | refine wk ?_ | refine s_field (hr := ?_))
    --@
    refine s_call [] (hA := ha2) (hr := ?_)
    repeat (first | refine wk ?_ | refine s_field (hr := ?_))
    --@
    exact fin
  have hxn1 : x + 1 < cntF g w := by omega
  have ha2 := fAt_sim (t := false) (u := false) hf hw ((x + 1 : Nat) : Int)
  rw [fAtF_in hop hxn1] at ha2
  rw [show ((x + 1 : Nat) : Int) = (x : Int) + 1 by omega] at ha2
  have hle : ¬ (x : Int) + 1 = ((cntF g w : Nat) : Int) := by omega
  by_cases hac2 : (atF g w (x + 1)).2.1.code = 0
  rotate_left
  · rw [atF_bad hac2] at ha2
    clear hcm hn0 hnM hop hac hxn ok1 ok2 hlast hac2 hxn1
    generalize (atF g w x).1 = y at *
    generalize (atF g w (x + 1)).1 = z at *
    generalize cntF g w = c at *
    generalize wcns g w manyC = N at *
    generalize nulB g = NB at *
    refine ACalls.intro (n := 123) Try.func16 rfl rfl (by simp) (by rfl) ?_
    simp only [argFr]
    repeat (first | refine wk ?_ | refine s_field (hr := ?_))
    refine s_call [] (hA := forestBegun_sim) (hr := ?_)
    repeat (first | refine wk ?_ | refine s_field (hr := ?_))
    refine s_call [] (hA := hhv) (hr := ?_)
    repeat (first | refine wk ?_ | refine s_field (hr := ?_))
    refine s_call [(62, 962), (60, 960)] (hA := hnew) (hr := ?_)
    repeat (first | refine wk ?_ | refine s_field (hr := ?_))
    refine s_callU [(1000, 962), (1001, 960)] (hA := hct) (hr := ?_)
    repeat (first | refine wk ?_ | refine s_field (hr := ?_))
    refine d_conv (c := IntKind.u64.wrap k) rfl gOk_none rfl Try.underlying3 Try.underlying59 rfl ?_
    generalize IntKind.u64.wrap k = U at *
    repeat (first | refine wk ?_ | refine s_field (hr := ?_))
    refine d_conv (c := (c : Int)) rfl gOk_none rfl Try.underlying3 Try.underlying59 (IntWalk.u64_in _ ⟨by omega, by omega⟩) ?_
    repeat (first | refine wk ?_ | refine s_field (hr := ?_))
    rw [hx]
    refine d_conv (c := (x : Int)) rfl gOk_none rfl Try.underlying59 Try.underlying3 (IntWalk.i64_in _ ⟨by omega, by omega⟩) ?_
    repeat (first | refine wk ?_ | refine s_field (hr := ?_))
    refine s_call [] (hA := ha) (hr := ?_)
    repeat (first | refine wk ?_ | refine s_field (hr := ?_))
    refine s_call [] (hA := hwd) (hr := ?_)
    repeat (first | refine wk ?_ | refine s_field (hr := ?_))
    refine s_call [] (hA := hrk) (hr := ?_)
    repeat (first | refine wk ?_ | refine s_field (hr := ?_))
    refine s_call [] (hA := hsi) (hr := ?_)
    repeat (first | refine wk ?_ | refine s_field (hr := ?_))
    --@
    refine s_call [] (hA := ha2) (hr := ?_)
    (repeat (first | refine wk ?_ | refine s_field (hr := ?_)))
    (repeat (first | refine wkz ?_ | refine s_field (hr := ?_)))
    repeat (first | refine wk ?_ | refine s_field (hr := ?_))
    --@
    exact fin
  obtain ⟨ok3, ok4⟩ := at_ok hop hxn1 hac2
  rw [ok4] at ha2
  have hah := ahead_sim (t := false) (u := false) (v' := false) hg (atF g w x).1 (atF g w (x + 1)).1 g.start ok1.isW.1 ok3.isW.1 ok1.cnt ok3.cnt
  rw [at_rise hop (Nat.lt_succ_self x) hxn1 hac hac2] at hah
  clear hcm hn0 hnM hop hac hxn ok1 ok2 hlast hac2 hxn1 ok3 ok4
  generalize (atF g w x).1 = y at *
  generalize (atF g w (x + 1)).1 = z at *
  generalize cntF g w = c at *
  generalize wcns g w manyC = N at *
  generalize nulB g = NB at *
  refine ACalls.intro (n := 123) Try.func16 rfl rfl (by simp) (by rfl) ?_
  simp only [argFr]
  repeat (first | refine wk ?_ | refine s_field (hr := ?_))
  refine s_call [] (hA := forestBegun_sim) (hr := ?_)
  repeat (first | refine wk ?_ | refine s_field (hr := ?_))
  refine s_call [] (hA := hhv) (hr := ?_)
  repeat (first | refine wk ?_ | refine s_field (hr := ?_))
  refine s_call [(62, 962), (60, 960)] (hA := hnew) (hr := ?_)
  repeat (first | refine wk ?_ | refine s_field (hr := ?_))
  refine s_callU [(1000, 962), (1001, 960)] (hA := hct) (hr := ?_)
  repeat (first | refine wk ?_ | refine s_field (hr := ?_))
  refine d_conv (c := IntKind.u64.wrap k) rfl gOk_none rfl Try.underlying3 Try.underlying59 rfl ?_
  generalize IntKind.u64.wrap k = U at *
  repeat (first | refine wk ?_ | refine s_field (hr := ?_))
  refine d_conv (c := (c : Int)) rfl gOk_none rfl Try.underlying3 Try.underlying59 (IntWalk.u64_in _ ⟨by omega, by omega⟩) ?_
  repeat (first | refine wk ?_ | refine s_field (hr := ?_))
  rw [hx]
  refine d_conv (c := (x : Int)) rfl gOk_none rfl Try.underlying59 Try.underlying3 (IntWalk.i64_in _ ⟨by omega, by omega⟩) ?_
  repeat (first | refine wk ?_ | refine s_field (hr := ?_))
  refine s_call [] (hA := ha) (hr := ?_)
  repeat (first | refine wk ?_ | refine s_field (hr := ?_))
  refine s_call [] (hA := hwd) (hr := ?_)
  repeat (first | refine wk ?_ | refine s_field (hr := ?_))
  refine s_call [] (hA := hrk) (hr := ?_)
  repeat (first | refine wk ?_ | refine s_field (hr := ?_))
  refine s_call [] (hA := hsi) (hr := ?_)
  repeat (first | refine wk ?_ | refine s_field (hr := ?_))
  refine s_call [] (hA := ha2) (hr := ?_)
  repeat (first | refine wk ?_ | refine s_field (hr := ?_))
  --@
  refine s_call [] (hA := hah) (hr := ?_)
  repeat (first | refine wk ?_ | refine s_field (hr := ?_))
  --@
  exact fin
end Go.Proofs.Ytflgmalhpglklaa
