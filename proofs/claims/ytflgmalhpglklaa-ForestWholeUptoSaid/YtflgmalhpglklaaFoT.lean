/-
  Forest: begun. Forest: begun, walked; ForestLists, ForestRanks. ForestLists, ForestRanks return true. ForestWhole, ForestBack return true.
-/
import Derived.Test.YtflgmalhpglklaaFoR
import Derived.Test.YtflgmalhpglklaaChartM
import Derived.Test.YtflgmalhpglklaaFrA
import Derived.Test.YtflgmalhpglklaaS5
set_option linter.unusedVariables false
set_option linter.unusedSimpArgs false
set_option linter.unusedSectionVars false
namespace Go.Proofs.Ytflgmalhpglklaa
open Go.RowKit
set_option maxRecDepth 100000
-- SimX

def fbG : Gram := ⟨1, 1, 0, [⟨0, [0, 0]⟩, ⟨0, [-1]⟩]⟩
def fbL : Tree := .mk 1 []
def fbP : Tree := .mk 0 [fbL, fbL]
def fbA : Tree := .mk 0 [fbL, fbP]
def fbB : Tree := .mk 0 [fbP, fbL]
theorem wcns_fb : wcns fbG [0, 0, 0] manyC = rnds fbG [0, 0, 0] manyC 3 := wcns_at (by kernel_rfl)
/-- The counts as a table. -/
def fbN : Cube := fun v i j => if v = 0 ∧ i + 1 = j ∧ j ≤ 3 then 1 else if v = 0 ∧ i + 2 = j ∧ j ≤ 3 then 1 else if v = 0 ∧ i = 0 ∧ j = 3 then 2 else 0
theorem fbN_is : wcns fbG [0, 0, 0] manyC = fbN := by
  rw [wcns_fb]
  funext v i j
  by_cases h : (v : Int) < fbG.vars ∧ i ≤ j ∧ j ≤ ([0, 0, 0] : List Int).length
  · obtain ⟨h1, h2, h3⟩ := h
    have h1 : v < 1 := by have : fbG.vars = 1 := rfl; omega
    have h3 : j < 4 := by simp at h3; omega
    have key : ∀ v, v < 1 → ∀ j, j < 4 → ∀ i, i < 4 → rnds fbG [0, 0, 0] manyC 3 v i j = fbN v i j := by decide +kernel
    exact key v h1 j h3 i (by omega)
  · rw [rnds_out h]
    unfold fbN
    have h' : ¬ (v = 0 ∧ i ≤ j ∧ j ≤ 3) := fun q => h ⟨by rw [q.1]; decide, q.2.1, by simpa using q.2.2⟩
    rw [if_neg (by omega), if_neg (by omega), if_neg (by omega)]
theorem fb_cnt : cntF fbG [0, 0, 0] = 2 := by unfold cntF; rw [fbN_is]; rfl
theorem fb_chF : chF fbG [0, 0, 0] = ⟨0, 0⟩ := by kernel_rfl
theorem fb_op : opF fbG [0, 0, 0] = ⟨0, 0⟩ := by
  unfold opF
  rw [fb_cnt, if_neg (show ¬ 2 = manyC by decide), fb_chF]
  rfl
theorem fb_t0 (d L : Nat) : treeF fbG fbN [0, 0, 0] (d + 3) 0 0 3 0 (L + 5) = some (fbA, L) := by kernel_rfl
theorem fb_t1 (d L : Nat) : treeF fbG fbN [0, 0, 0] (d + 3) 0 0 3 1 (L + 5) = some (fbB, L) := by kernel_rfl
theorem fb_u0 {d L v n : Nat} (hd : 3 ≤ d) (hL : 5 ≤ L) (hv : v = 0) (hn : n = 3) : treeF fbG fbN [0, 0, 0] d v 0 n 0 L = some (fbA, L - 5) := by
  obtain ⟨e, rfl⟩ : ∃ e, d = e + 3 := ⟨d - 3, by omega⟩
  obtain ⟨M, rfl⟩ : ∃ M, L = M + 5 := ⟨L - 5, by omega⟩
  subst hv hn
  rw [fb_t0, Nat.add_sub_cancel]
theorem fb_u1 {d L v n : Nat} (hd : 3 ≤ d) (hL : 5 ≤ L) (hv : v = 0) (hn : n = 3) : treeF fbG fbN [0, 0, 0] d v 0 n 1 L = some (fbB, L - 5) := by
  obtain ⟨e, rfl⟩ : ∃ e, d = e + 3 := ⟨d - 3, by omega⟩
  obtain ⟨M, rfl⟩ : ∃ M, L = M + 5 := ⟨L - 5, by omega⟩
  subst hv hn
  rw [fb_t1, Nat.add_sub_cancel]
theorem atF_is {g : Gram} {w : List Int} {k L : Nat} {x : Tree} {N : Cube} (hN : wcns g w manyC = N) (h : treeF g N w 400 g.start.toNat 0 w.length k 400 = some (x, L)) : atF g w k = (x, ⟨0, 0⟩, L) := by
  subst hN
  unfold atF; rw [h]
theorem fb_at0 : atF fbG [0, 0, 0] 0 = (fbA, ⟨0, 0⟩, 395) := atF_is fbN_is (fb_u0 (by omega) (by omega) rfl rfl)
theorem fb_at1 : atF fbG [0, 0, 0] 1 = (fbB, ⟨0, 0⟩, 395) := atF_is fbN_is (fb_u1 (by omega) (by omega) rfl rfl)
theorem fb_list : fListF fbG [0, 0, 0] = ([fbA, fbB], ⟨0, 0⟩) := by
  unfold fListF
  rw [fb_op, fb_cnt, if_pos rfl, if_neg (by omega), listF, fb_at0, if_pos rfl, listF, fb_at1, if_pos rfl, listF]
  rfl
theorem fb_L : wordT fbG fbL = [0] := by rw [wordT_eq]; show wordL fbG [-1] [] = _; rw [wordL_neg (by decide), wordL_nil]; rfl
theorem fb_P : wordT fbG fbP = [0, 0] := by
  rw [wordT_eq]; show wordL fbG [0, 0] [fbL, fbL] = _
  rw [wordL_pos (by decide), wordL_pos (by decide), wordL_nil, fb_L]; rfl
theorem fb_B : wordT fbG fbB = [0, 0, 0] := by
  rw [wordT_eq]; show wordL fbG [0, 0] [fbP, fbL] = _
  rw [wordL_pos (by decide), wordL_pos (by decide), wordL_nil, fb_L, fb_P]; rfl
theorem fb_rkL (i j : Nat) : rkT fbG fbN [0, 0, 0] fbL i j = sumN 1 (fR fbG fbN [0, 0, 0] 0 i j) := by
  unfold fbL
  rw [rkT_mk]
  show _ + rkR fbG fbN [0, 0, 0] [-1] [] i j = _
  rw [rkR_neg (by decide), rkR_nil]; rfl
theorem fb_rank : rankF fbG fbB = (1, ⟨0, 0⟩) := by
  have ht : treeFault fbG fbB fbG.start = ⟨0, 0⟩ := by kernel_rfl
  unfold rankF
  rw [ht, fb_B, fb_op, if_pos rfl, if_pos rfl, fbN_is]
  have : rkT fbG fbN [0, 0, 0] fbB 0 ([0, 0, 0] : List Int).length = 1 := by
    unfold fbB
    rw [rkT_mk]
    show sumN 0 _ + rkR fbG fbN [0, 0, 0] [0, 0] [fbP, fbL] 0 3 = 1
    rw [rkR_pos (by decide), rkR_pos (by decide), rkR_nil]
    have e1 : lenW fbG fbP = 2 := by unfold lenW; rw [fb_P]; rfl
    have e2 : lenW fbG fbL = 1 := by unfold lenW; rw [fb_L]; rfl
    rw [e1, e2, fb_rkL]
    have e3 : rkT fbG fbN [0, 0, 0] fbP 0 (0 + 2) = 0 := by
      unfold fbP
      rw [rkT_mk]
      show sumN 0 _ + rkR fbG fbN [0, 0, 0] [0, 0] [fbL, fbL] 0 2 = 0
      rw [rkR_pos (by decide), rkR_pos (by decide), rkR_nil, e2, fb_rkL, fb_rkL]
      decide +kernel
    rw [e3]
    decide +kernel
  rw [this]; rfl
end Go.Proofs.Ytflgmalhpglklaa
namespace Go.Proofs.Ytflgmalhpglklaa
open Go.RowKit
set_option maxRecDepth 100000
-- SimX

theorem l2_sim : ACalls Try.prog 123 [.d (treesD false [fbA, fbB])] [] (.d (treeA false fbB)) [] := by
  refine ACalls.intro (n := 13) Try.func123 rfl rfl (by simp) (by rfl) ?_
  simp only [argFr]
  repeat (first | refine wk ?_ | refine s_field (hr := ?_))
  --@
  exact fin
theorem forestBegun_sim : ACalls Try.prog 55 [] [] (B true) [] := by
  have hl := fList_sim (t := false) (u := false) (g := fbG) (w := [0, 0, 0]) (gram_ok (by kernel_rfl)).fit (by simp)
  have hr := rankTop_sim (t := false) (u := false) (g := fbG) (x := fbB) (gram_ok (by kernel_rfl)).fit (by decide +kernel)
  rw [fb_list] at hl
  rw [fb_rank] at hr
  refine ACalls.intro (n := 62) Try.func55 rfl rfl (by simp) (by rfl) ?_
  simp only [argFr]
  repeat (first | refine wk ?_ | refine s_field (hr := ?_))
  --@
  refine s_call [] (hA := hl) (hr := ?_)
  repeat (first | refine wk ?_ | refine s_field (hr := ?_))
  --@
  refine s_call [] (hA := l2_sim) (hr := ?_)
  repeat (first | refine wk ?_ | refine s_field (hr := ?_))
  --@
  refine s_call [] (hA := hr) (hr := ?_)
  repeat (first | refine wk ?_ | refine s_field (hr := ?_))
  --@
  rw [show ([fbA, fbB] : List Tree)[0].kids = [fbL, fbP] from rfl]
  repeat (first | refine wk ?_ | refine s_field (hr := ?_))
  --@
  rw [show ([fbA, fbB] : List Tree)[1].kids = [fbP, fbL] from rfl]
  repeat (first | refine wk ?_ | refine s_field (hr := ?_))
  --@
  exact fin
end Go.Proofs.Ytflgmalhpglklaa
namespace Go.Proofs.Ytflgmalhpglklaa
open Go.RowKit
set_option maxRecDepth 100000
-- SimX

set_option maxHeartbeats 4000000 in
theorem forestRanks_sim {g : Gram} {x : Tree} (hr1 : g.rules.length ≤ 100000000) (hr2 : ∀ r ∈ g.rules, r.right.length ≤ 100000000) (hx : cnt x ≤ 100000000) :
    ACalls Try.prog 13 [.d (gramD false g), .d (treeA false x)] [] (B true) [] := by
  have hf : g.fit := ⟨hr1, hr2⟩
  have hgg := greatGram_sim (t := false) (g := g) hf.rules hf.right
  have hgt := greatTree_sim (t := false) (x := x) hx
  have htf := treeFault_sim (t := false) (u := false) (g := g) (x := x) (v := g.start) hf.rules hf.right hx
  have hot := ownTree_sim (t := false) x hx
  have hr := rankTop_sim (t := false) (u := false) (x := x) hf hx
  have hro := rankOf_sim (t := false) (u := false) (x := x) hf hx
  cases h1 : greatG g with
  | true =>
    rw [h1] at hgg
    refine ACalls.intro (n := 52) Try.func13 rfl rfl (by simp) (by rfl) ?_
    simp only [argFr]
    repeat (first | refine wk ?_ | refine s_field (hr := ?_))
    refine s_call [] (hA := forestBegun_sim) (hr := ?_)
    (repeat (first | refine wk ?_ | refine s_field (hr := ?_)))
    refine s_call [] (hA := hgg) (hr := ?_)
    (repeat (first | refine wk ?_ | refine s_field (hr := ?_)))
    (repeat (first | refine wkz ?_ | refine s_field (hr := ?_)))
    repeat (first | refine wk ?_ | refine s_field (hr := ?_))
    --@
    exact fin
  | false =>
  rw [h1] at hgg
  cases h2 : great3 x with
  | true =>
    rw [h2] at hgt
    refine ACalls.intro (n := 52) Try.func13 rfl rfl (by simp) (by rfl) ?_
    simp only [argFr]
    repeat (first | refine wk ?_ | refine s_field (hr := ?_))
    refine s_call [] (hA := forestBegun_sim) (hr := ?_)
    repeat (first | refine wk ?_ | refine s_field (hr := ?_))
    refine s_call [] (hA := hgg) (hr := ?_)
    repeat (first | refine wk ?_ | refine s_field (hr := ?_))
    refine s_call [] (hA := hgt) (hr := ?_)
    repeat (first | refine wk ?_ | refine s_field (hr := ?_))
    --@
    exact fin
  | false =>
  rw [h2] at hgt
  generalize rankF g x = R at *
  obtain ⟨k, ⟨kc, ka⟩⟩ := R
  by_cases h0 : (treeFault g x g.start).code = 0
  · obtain ⟨hg, hc, hfit, hz⟩ := treeFault_zero h0
    rw [hz] at htf
    have hwl := wordT_le 10 hg.right x
    have hwo := wordOf_sim (t := false) (u := false) hg x g.start hfit hc
    have hhv := heavy_sim (t := false) (u := false) (w := wordT g x) hf (by omega)
    clear hwl hfit h0 hz
    generalize wordT g x = w at *
    cases h3 : heavyB g w with
    | true =>
      rw [h3] at hhv
      refine ACalls.intro (n := 52) Try.func13 rfl rfl (by simp) (by rfl) ?_
      simp only [argFr]
      repeat (first | refine wk ?_ | refine s_field (hr := ?_))
      refine s_call [] (hA := forestBegun_sim) (hr := ?_)
      repeat (first | refine wk ?_ | refine s_field (hr := ?_))
      refine s_call [] (hA := hgg) (hr := ?_)
      repeat (first | refine wk ?_ | refine s_field (hr := ?_))
      refine s_call [] (hA := hgt) (hr := ?_)
      repeat (first | refine wk ?_ | refine s_field (hr := ?_))
      refine s_call [] (hA := htf) (hr := ?_)
      repeat (first | refine wk ?_ | refine s_field (hr := ?_))
      refine s_call [(900, 905)] (hA := hwo) (hr := ?_)
      repeat (first | refine wk ?_ | refine s_field (hr := ?_))
      --@
      refine s_call [] (hA := hhv) (hr := ?_)
      repeat (first | refine wk ?_ | refine s_field (hr := ?_))
      --@
      exact fin
    | false =>
      rw [h3] at hhv
      refine ACalls.intro (n := 52) Try.func13 rfl rfl (by simp) (by rfl) ?_
      simp only [argFr]
      repeat (first | refine wk ?_ | refine s_field (hr := ?_))
      refine s_call [] (hA := forestBegun_sim) (hr := ?_)
      repeat (first | refine wk ?_ | refine s_field (hr := ?_))
      refine s_call [] (hA := hgg) (hr := ?_)
      repeat (first | refine wk ?_ | refine s_field (hr := ?_))
      refine s_call [] (hA := hgt) (hr := ?_)
      repeat (first | refine wk ?_ | refine s_field (hr := ?_))
      refine s_call [] (hA := htf) (hr := ?_)
      repeat (first | refine wk ?_ | refine s_field (hr := ?_))
      refine s_call [(900, 905)] (hA := hwo) (hr := ?_)
      repeat (first | refine wk ?_ | refine s_field (hr := ?_))
      refine s_call [] (hA := hhv) (hr := ?_)
      repeat (first | refine wk ?_ | refine s_field (hr := ?_))
      --@
      refine s_call [] (hA := hot) (hr := ?_)
      repeat (first | refine wk ?_ | refine s_field (hr := ?_))
      refine s_call [] (hA := hr) (hr := ?_)
      repeat (first | refine wk ?_ | refine s_field (hr := ?_))
      refine s_call [] (hA := hro) (hr := ?_)
      repeat (first | refine wk ?_ | refine s_field (hr := ?_))
      --@
      exact fin
  · generalize treeFault g x g.start = F at *
    obtain ⟨cc, ca⟩ := F
    dsimp only at h0
    refine ACalls.intro (n := 52) Try.func13 rfl rfl (by simp) (by rfl) ?_
    simp only [argFr]
    repeat (first | refine wk ?_ | refine s_field (hr := ?_))
    refine s_call [] (hA := forestBegun_sim) (hr := ?_)
    repeat (first | refine wk ?_ | refine s_field (hr := ?_))
    refine s_call [] (hA := hgg) (hr := ?_)
    repeat (first | refine wk ?_ | refine s_field (hr := ?_))
    refine s_call [] (hA := hgt) (hr := ?_)
    repeat (first | refine wk ?_ | refine s_field (hr := ?_))
    refine s_call [] (hA := htf) (hr := ?_)
    (repeat (first | refine wk ?_ | refine s_field (hr := ?_)))
    (repeat (first | refine wkz ?_ | refine s_field (hr := ?_)))
    repeat (first | refine wk ?_ | refine s_field (hr := ?_))
    --@
    refine s_call [] (hA := hot) (hr := ?_)
    repeat (first | refine wk ?_ | refine s_field (hr := ?_))
    refine s_call [] (hA := hr) (hr := ?_)
    repeat (first | refine wk ?_ | refine s_field (hr := ?_))
    refine s_call [] (hA := hro) (hr := ?_)
    repeat (first | refine wk ?_ | refine s_field (hr := ?_))
    --@
    exact fin
end Go.Proofs.Ytflgmalhpglklaa
namespace Go.Proofs.Ytflgmalhpglklaa
open Go.RowKit
set_option maxRecDepth 100000
-- SimX

theorem wordR_is {g : Gram} {w : List Int} {x : Tree} (hg : g.ok) (h : IsW g w x) (hc : cnt x ≤ 400) : treeFault g x g.start = ⟨0, 0⟩ ∧ wordR g x = w := by
  have e : treeFault g x g.start = ⟨0, 0⟩ := by
    unfold treeFault
    rw [hg.fault, if_pos rfl, if_pos hc, if_pos h.1]
  exact ⟨e, by unfold wordR; rw [e, if_pos rfl, h.2]⟩
set_option maxHeartbeats 8000000 in
theorem forestWhole_sim {g : Gram} {w : List Int} (hr1 : g.rules.length ≤ 100000000) (hr2 : ∀ r ∈ g.rules, r.right.length ≤ 100000000) (hw : w.length ≤ 100000000) :
    ACalls Try.prog 14 [.d (gramD false g), .d (ints false w)] [] (B true) [] := by
  have hf : g.fit := ⟨hr1, hr2⟩
  have hhv := heavy_sim (t := false) (u := false) hf hw
  have hl := fList_sim (t := false) (u := false) hf hw
  cases hh : heavyB g w with
  | true =>
    rw [hh] at hhv
    refine ACalls.intro (n := 87) Try.func14 rfl rfl (by simp) (by rfl) ?_
    simp only [argFr]
    repeat (first | refine wk ?_ | refine s_field (hr := ?_))
    refine s_call [] (hA := forestBegun_sim) (hr := ?_)
    repeat (first | refine wk ?_ | refine s_field (hr := ?_))
    refine s_call [] (hA := hhv) (hr := ?_)
    repeat (first | refine wk ?_ | refine s_field (hr := ?_))
    exact fin
  | false =>
  rw [hh] at hhv
  by_cases hc : (fListF g w).2.code = 0
  · have hok := fList_ok hc
    have hC := hok.ch
    have hg := hC.ok
    obtain ⟨s1, s2⟩ := hC.small
    have hnew := new_some (t := false) (u := false) hC
    have hct := count_simC hg hC.cyc s1 s2
    rw [count_is hg, ← hok.len] at hct
    have hwt := fun (x : Tree) (hx : x ∈ (fListF g w).1) => by
      have h1 := word_top_sim (t := false) (u := false) (g := g) (x := x) hf.rules hf.right (by have := (hok.mem hx).2; omega)
      rw [(wordR_is hg (hok.mem hx).1 (hok.mem hx).2).1, (wordR_is hg (hok.mem hx).1 (hok.mem hx).2).2] at h1
      exact h1
    have hah : ∀ (i j : Nat) (hij : i < j) (hj : j < (fListF g w).1.length), ACalls Try.prog 64 [.d (gramD false g), .d (treeA false ((fListF g w).1[i]'(Nat.lt_trans hij hj))), .d (treeA false (fListF g w).1[j])] [] (I (-1)) [] := fun (i j : Nat) (hij : i < j) (hj : j < (fListF g w).1.length) => by
      have hi : i < (fListF g w).1.length := by omega
      have h1 := ahead_sim (t := false) (u := false) (v' := false) hg (fListF g w).1[i] (fListF g w).1[j] g.start (hok.mem (List.getElem_mem hi)).1.1 (hok.mem (List.getElem_mem hj)).1.1 (hok.mem (List.getElem_mem hi)).2 (hok.mem (List.getElem_mem hj)).2
      rw [hok.rise hij hj] at h1
      exact h1
    have hsi := sameInts_sim (t := false) (u := false) (xs := w) (ys := w) hw hw
    rw [decide_eq_true (rfl : w = w)] at hsi
    have hlen : (fListF g w).1.length ≤ 200 := by rw [hok.len]; exact hok.few
    clear hok hhv
    have hhv := heavy_sim (t := false) (u := false) hf hw
    rw [hh] at hhv
    generalize fListF g w = R at *
    obtain ⟨l, ⟨lc, la⟩⟩ := R
    dsimp only at *
    generalize wcns g w manyC = N at *
    generalize nulB g = NB at *
    refine ACalls.intro (n := 87) Try.func14 rfl rfl (by simp) (by rfl) ?_
    simp only [argFr]
    repeat (first | refine wk ?_ | refine s_field (hr := ?_))
    refine s_call [] (hA := forestBegun_sim) (hr := ?_)
    repeat (first | refine wk ?_ | refine s_field (hr := ?_))
    refine s_call [] (hA := hhv) (hr := ?_)
    repeat (first | refine wk ?_ | refine s_field (hr := ?_))
    refine s_call [] (hA := hl) (hr := ?_)
    repeat (first | refine wk ?_ | refine s_field (hr := ?_))
    --@
    refine s_call [(62, 962), (60, 960)] (hA := hnew) (hr := ?_)
    repeat (first | refine wk ?_ | refine s_field (hr := ?_))
    --@
    refine s_callU [(1000, 962), (1001, 960)] (hA := hct) (hr := ?_)
    repeat (first | refine wk ?_ | refine s_field (hr := ?_))
    --@
    refine t_loop (X := Nat) (fun i => i ≤ l.length) (fun i => [(9, I i), (5, .d (treesD false l)), (2, .ptr 2 0), (4, B false), (1, .d (ints false w))]) (fun _ => [(2, gramBox false g)]) (fun i => l.length - i) 0 (Nat.zero_le _) ?_
    intro i hi
    by_cases hil : i < l.length
    rotate_left
    · obtain rfl : i = l.length := by omega
      repeat (first | refine wk ?_ | refine s_field (hr := ?_))
      --@
      exact fin
    have h1 := hwt l[i] (List.getElem_mem hil)
    by_cases hi0 : 0 < i
    · have h2 := hah (i - 1) i (by omega) hil
      have e1 : (i : Int) - 1 = ((i - 1 : Nat) : Int) := by omega
      have hp : i - 1 < l.length := by omega
      clear hwt hah
      repeat (first | refine wk ?_ | refine s_field (hr := ?_))
      refine s_call [] (hA := h1) (hr := ?_)
      repeat (first | refine wk ?_ | refine s_field (hr := ?_))
      refine s_call [] (hA := hsi) (hr := ?_)
      repeat (first | refine wk ?_ | refine s_field (hr := ?_))
      --@
      rw [e1]
      repeat (first | refine wk ?_ | refine s_field (hr := ?_))
      --@
      refine s_call [] (hA := h2) (hr := ?_)
      repeat (first | refine wk ?_ | refine s_field (hr := ?_))
      --@
      exact t_next (i + 1)
    · obtain rfl : i = 0 := by omega
      clear hwt hah
      repeat (first | refine wk ?_ | refine s_field (hr := ?_))
      refine s_call [] (hA := h1) (hr := ?_)
      repeat (first | refine wk ?_ | refine s_field (hr := ?_))
      refine s_call [] (hA := hsi) (hr := ?_)
      (repeat (first | refine wk ?_ | refine s_field (hr := ?_)))
      (repeat (first | refine wkz ?_ | refine s_field (hr := ?_)))
      repeat (first | refine wk ?_ | refine s_field (hr := ?_))
      --@
      exact t_next 1
  · have hn : (fListF g w).1 = [] := by
      have e : fListF g w = if (opF g w).code = 0 then (if 200 < cntF g w then ([], ⟨6, -1⟩) else listF g w (cntF g w) 0 []) else ([], opF g w) := rfl
      rw [e] at hc ⊢
      split
      · split
        · rfl
        · rename_i h1 h2
          rw [if_pos h1, if_neg h2] at hc
          rw [listF_bad _ _ _ hc]
      · rfl
    rw [hn] at hl
    generalize (fListF g w).2 = F at *
    obtain ⟨cc, ca⟩ := F
    dsimp only at hc
    refine ACalls.intro (n := 87) Try.func14 rfl rfl (by simp) (by rfl) ?_
    simp only [argFr]
    repeat (first | refine wk ?_ | refine s_field (hr := ?_))
    refine s_call [] (hA := forestBegun_sim) (hr := ?_)
    repeat (first | refine wk ?_ | refine s_field (hr := ?_))
    refine s_call [] (hA := hhv) (hr := ?_)
    repeat (first | refine wk ?_ | refine s_field (hr := ?_))
    refine s_call [] (hA := hl) (hr := ?_)
    repeat (first | refine wk ?_ | refine s_field (hr := ?_))
    --@
    exact fin
end Go.Proofs.Ytflgmalhpglklaa
