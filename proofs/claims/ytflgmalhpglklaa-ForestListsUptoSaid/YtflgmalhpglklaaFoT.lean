/-
  Forest: begun. Forest: begun, walked; ForestLists, ForestRanks. ForestLists, ForestRanks return true.
-/
import Derived.Test.YtflgmalhpglklaaFoR
import Derived.Test.YtflgmalhpglklaaChartM
import Derived.Test.YtflgmalhpglklaaFrA
import Derived.Test.YtflgmalhpglklaaS5
set_option linter.unusedVariables false
set_option linter.unusedSimpArgs false
set_option linter.unusedSectionVars false
namespace Go.Proofs.Ytflgmalhpglklaa
open Go.RowKit
set_option maxRecDepth 100000
-- SimX

def fbG : Gram := ⟨1, 1, 0, [⟨0, [0, 0]⟩, ⟨0, [-1]⟩]⟩
def fbL : Tree := .mk 1 []
def fbP : Tree := .mk 0 [fbL, fbL]
def fbA : Tree := .mk 0 [fbL, fbP]
def fbB : Tree := .mk 0 [fbP, fbL]
theorem wcns_fb : wcns fbG [0, 0, 0] manyC = rnds fbG [0, 0, 0] manyC 3 := wcns_at (by kernel_rfl)
/-- The counts as a table. -/
def fbN : Cube := fun v i j => if v = 0 ∧ i + 1 = j ∧ j ≤ 3 then 1 else if v = 0 ∧ i + 2 = j ∧ j ≤ 3 then 1 else if v = 0 ∧ i = 0 ∧ j = 3 then 2 else 0
theorem fbN_is : wcns fbG [0, 0, 0] manyC = fbN := by
  rw [wcns_fb]
  funext v i j
  by_cases h : (v : Int) < fbG.vars ∧ i ≤ j ∧ j ≤ ([0, 0, 0] : List Int).length
  · obtain ⟨h1, h2, h3⟩ := h
    have h1 : v < 1 := by have : fbG.vars = 1 := rfl; omega
    have h3 : j < 4 := by simp at h3; omega
    have key : ∀ v, v < 1 → ∀ j, j < 4 → ∀ i, i < 4 → rnds fbG [0, 0, 0] manyC 3 v i j = fbN v i j := by decide +kernel
    exact key v h1 j h3 i (by omega)
  · rw [rnds_out h]
    unfold fbN
    have h' : ¬ (v = 0 ∧ i ≤ j ∧ j ≤ 3) := fun q => h ⟨by rw [q.1]; decide, q.2.1, by simpa using q.2.2⟩
    rw [if_neg (by omega), if_neg (by omega), if_neg (by omega)]
theorem fb_cnt : cntF fbG [0, 0, 0] = 2 := by unfold cntF; rw [fbN_is]; rfl
theorem fb_chF : chF fbG [0, 0, 0] = ⟨0, 0⟩ := by kernel_rfl
theorem fb_op : opF fbG [0, 0, 0] = ⟨0, 0⟩ := by
  unfold opF
  rw [fb_cnt, if_neg (show ¬ 2 = manyC by decide), fb_chF]
  rfl
theorem fb_t0 (d L : Nat) : treeF fbG fbN [0, 0, 0] (d + 3) 0 0 3 0 (L + 5) = some (fbA, L) := by kernel_rfl
theorem fb_t1 (d L : Nat) : treeF fbG fbN [0, 0, 0] (d + 3) 0 0 3 1 (L + 5) = some (fbB, L) := by kernel_rfl
theorem fb_u0 {d L v n : Nat} (hd : 3 ≤ d) (hL : 5 ≤ L) (hv : v = 0) (hn : n = 3) : treeF fbG fbN [0, 0, 0] d v 0 n 0 L = some (fbA, L - 5) := by
  obtain ⟨e, rfl⟩ : ∃ e, d = e + 3 := ⟨d - 3, by omega⟩
  obtain ⟨M, rfl⟩ : ∃ M, L = M + 5 := ⟨L - 5, by omega⟩
  subst hv hn
  rw [fb_t0, Nat.add_sub_cancel]
theorem fb_u1 {d L v n : Nat} (hd : 3 ≤ d) (hL : 5 ≤ L) (hv : v = 0) (hn : n = 3) : treeF fbG fbN [0, 0, 0] d v 0 n 1 L = some (fbB, L - 5) := by
  obtain ⟨e, rfl⟩ : ∃ e, d = e + 3 := ⟨d - 3, by omega⟩
  obtain ⟨M, rfl⟩ : ∃ M, L = M + 5 := ⟨L - 5, by omega⟩
  subst hv hn
  rw [fb_t1, Nat.add_sub_cancel]
theorem atF_is {g : Gram} {w : List Int} {k L : Nat} {x : Tree} {N : Cube} (hN : wcns g w manyC = N) (h : treeF g N w 400 g.start.toNat 0 w.length k 400 = some (x, L)) : atF g w k = (x, ⟨0, 0⟩, L) := by
  subst hN
  unfold atF; rw [h]
theorem fb_at0 : atF fbG [0, 0, 0] 0 = (fbA, ⟨0, 0⟩, 395) := atF_is fbN_is (fb_u0 (by omega) (by omega) rfl rfl)
theorem fb_at1 : atF fbG [0, 0, 0] 1 = (fbB, ⟨0, 0⟩, 395) := atF_is fbN_is (fb_u1 (by omega) (by omega) rfl rfl)
theorem fb_list : fListF fbG [0, 0, 0] = ([fbA, fbB], ⟨0, 0⟩) := by
  unfold fListF
  rw [fb_op, fb_cnt, if_pos rfl, if_neg (by omega), listF, fb_at0, if_pos rfl, listF, fb_at1, if_pos rfl, listF]
  rfl
theorem fb_L : wordT fbG fbL = [0] := by rw [wordT_eq]; show wordL fbG [-1] [] = _; rw [wordL_neg (by decide), wordL_nil]; rfl
theorem fb_P : wordT fbG fbP = [0, 0] := by
  rw [wordT_eq]; show wordL fbG [0, 0] [fbL, fbL] = _
  rw [wordL_pos (by decide), wordL_pos (by decide), wordL_nil, fb_L]; rfl
theorem fb_B : wordT fbG fbB = [0, 0, 0] := by
  rw [wordT_eq]; show wordL fbG [0, 0] [fbP, fbL] = _
  rw [wordL_pos (by decide), wordL_pos (by decide), wordL_nil, fb_L, fb_P]; rfl
theorem fb_rkL (i j : Nat) : rkT fbG fbN [0, 0, 0] fbL i j = sumN 1 (fR fbG fbN [0, 0, 0] 0 i j) := by
  unfold fbL
  rw [rkT_mk]
  show _ + rkR fbG fbN [0, 0, 0] [-1] [] i j = _
  rw [rkR_neg (by decide), rkR_nil]; rfl
theorem fb_rank : rankF fbG fbB = (1, ⟨0, 0⟩) := by
  have ht : treeFault fbG fbB fbG.start = ⟨0, 0⟩ := by kernel_rfl
  unfold rankF
  rw [ht, fb_B, fb_op, if_pos rfl, if_pos rfl, fbN_is]
  have : rkT fbG fbN [0, 0, 0] fbB 0 ([0, 0, 0] : List Int).length = 1 := by
    unfold fbB
    rw [rkT_mk]
    show sumN 0 _ + rkR fbG fbN [0, 0, 0] [0, 0] [fbP, fbL] 0 3 = 1
    rw [rkR_pos (by decide), rkR_pos (by decide), rkR_nil]
    have e1 : lenW fbG fbP = 2 := by unfold lenW; rw [fb_P]; rfl
    have e2 : lenW fbG fbL = 1 := by unfold lenW; rw [fb_L]; rfl
    rw [e1, e2, fb_rkL]
    have e3 : rkT fbG fbN [0, 0, 0] fbP 0 (0 + 2) = 0 := by
      unfold fbP
      rw [rkT_mk]
      show sumN 0 _ + rkR fbG fbN [0, 0, 0] [0, 0] [fbL, fbL] 0 2 = 0
      rw [rkR_pos (by decide), rkR_pos (by decide), rkR_nil, e2, fb_rkL, fb_rkL]
      decide +kernel
    rw [e3]
    decide +kernel
  rw [this]; rfl
end Go.Proofs.Ytflgmalhpglklaa
namespace Go.Proofs.Ytflgmalhpglklaa
open Go.RowKit
set_option maxRecDepth 100000
-- SimX

theorem l2_sim : ACalls Try.prog 123 [.d (treesD false [fbA, fbB])] [] (.d (treeA false fbB)) [] := by
  refine ACalls.intro (n := 13) Try.func123 rfl rfl (by simp) (by rfl) ?_
  simp only [argFr]
  repeat (first | refine wk ?_ | refine s_field (hr := ?_))
  --@
  exact fin
theorem forestBegun_sim : ACalls Try.prog 55 [] [] (B true) [] := by
  have hl := fList_sim (t := false) (u := false) (g := fbG) (w := [0, 0, 0]) (gram_ok (by kernel_rfl)).fit (by simp)
  have hr := rankTop_sim (t := false) (u := false) (g := fbG) (x := fbB) (gram_ok (by kernel_rfl)).fit (by decide +kernel)
  rw [fb_list] at hl
  rw [fb_rank] at hr
  refine ACalls.intro (n := 62) Try.func55 rfl rfl (by simp) (by rfl) ?_
  simp only [argFr]
  repeat (first | refine wk ?_ | refine s_field (hr := ?_))
  --@
  refine s_call [] (hA := hl) (hr := ?_)
  repeat (first | refine wk ?_ | refine s_field (hr := ?_))
  --@
  refine s_call [] (hA := l2_sim) (hr := ?_)
  repeat (first | refine wk ?_ | refine s_field (hr := ?_))
  --@
  refine s_call [] (hA := hr) (hr := ?_)
  repeat (first | refine wk ?_ | refine s_field (hr := ?_))
  --@
  rw [show ([fbA, fbB] : List Tree)[0].kids = [fbL, fbP] from rfl]
  repeat (first | refine wk ?_ | refine s_field (hr := ?_))
  --@
  rw [show ([fbA, fbB] : List Tree)[1].kids = [fbP, fbL] from rfl]
  repeat (first | refine wk ?_ | refine s_field (hr := ?_))
  --@
  exact fin
end Go.Proofs.Ytflgmalhpglklaa
namespace Go.Proofs.Ytflgmalhpglklaa
open Go.RowKit
set_option maxRecDepth 100000
-- SimX

theorem cnts_le_len {l : List Tree} {B : Nat} (h : ∀ x ∈ l, cnt x ≤ B) : cnts l ≤ B * l.length := by
  induction l with
  | nil => simp [cnts]
  | cons x l ih =>
    have h1 := h x (by simp)
    have h2 := ih (fun y hy => h y (by simp [hy]))
    simp only [cnts, List.length_cons, Nat.mul_add]; omega
theorem fList_cnts (g : Gram) (w : List Int) : cnts (fListF g w).1 ≤ 100000000 := by
  by_cases h : (fListF g w).2.code = 0
  · have ho := fList_ok h
    have h1 := cnts_le_len (fun x hx => (ho.mem hx).2)
    have h2 := ho.len
    have h3 := ho.few
    have : 400 * (fListF g w).1.length ≤ 400 * 200 := Nat.mul_le_mul_left _ (by omega)
    omega
  · have : (fListF g w).1 = [] := by
      have e : fListF g w = if (opF g w).code = 0 then (if 200 < cntF g w then ([], ⟨6, -1⟩) else listF g w (cntF g w) 0 []) else ([], opF g w) := rfl
      rw [e] at h ⊢
      split
      · split
        · rfl
        · rename_i h1 h2
          rw [if_pos h1, if_neg h2] at h
          rw [listF_bad _ _ _ h]
      · rfl
    rw [this]; simp [cnts]
theorem fAt_cnt (g : Gram) (w : List Int) (k : Int) : cnt (fAtF g w k).1 ≤ 400 := by
  unfold fAtF
  split
  · rename_i h
    split
    · rename_i hk
      obtain ⟨hC, _, hlt⟩ := opF_ok h
      have hg := hC.ok
      show cnt (atF g w k.toNat).1 ≤ 400
      unfold atF
      split
      · rename_i x L e
        obtain ⟨_, _, _, h4⟩ := treeF_spec hg (wcns_fixN g w manyC) 400 (stN g) 0 w.length k.toNat 400 (x, L) (by rw [hg.stN]; exact hg.start) (Nat.zero_le _) (Nat.le_refl _) (by show k.toNat < cntF g w; omega) hlt e
        dsimp only at h4 ⊢
        omega
      · simp [cnt, cnts]
    · simp [cnt, cnts]
  · simp [cnt, cnts]
set_option maxHeartbeats 4000000 in
theorem forestLists_sim {g : Gram} {w : List Int} (hr1 : g.rules.length ≤ 100000000) (hr2 : ∀ r ∈ g.rules, r.right.length ≤ 100000000) (hw : w.length ≤ 100000000) (k : Int) :
    ACalls Try.prog 15 [.d (gramD false g), .d (ints false w), I k] [] (B true) [] := by
  have hf : g.fit := ⟨hr1, hr2⟩
  have hhv := heavy_sim (t := false) (u := false) hf hw
  have hog := ownGram_sim (t := false) hf
  have hsg := sameGram_sim (t := false) (u := false) hf hf
  rw [decide_eq_true (rfl : g = g)] at hsg
  have hl := fList_sim (t := false) (u := false) hf hw
  have hm := treesOf_sim (t := false) (u := false) hf hw
  have ha := fAt_sim (t := false) (u := false) hf hw k
  have hb := atOf_sim (t := false) (u := false) hf hw k
  have hst := sameTrees_sim (t := false) (u := false) (fList_cnts g w)
  have hcx := fAt_cnt g w k
  have hs1 := sameTree_sim (t := false) (u := false) (x := (fAtF g w k).1) (y := (fAtF g w k).1) (by omega) (by omega)
  rw [ordT_refl, decide_eq_true (rfl : (0 : Int) = 0)] at hs1
  cases hh : heavyB g w with
  | true =>
    rw [hh] at hhv
    refine ACalls.intro (n := 72) Try.func15 rfl rfl (by simp) (by rfl) ?_
    simp only [argFr]
    repeat (first | refine wk ?_ | refine s_field (hr := ?_))
    refine s_call [] (hA := forestBegun_sim) (hr := ?_)
    repeat (first | refine wk ?_ | refine s_field (hr := ?_))
    refine s_call [] (hA := hhv) (hr := ?_)
    repeat (first | refine wk ?_ | refine s_field (hr := ?_))
    exact fin
  | false =>
    rw [hh] at hhv
    generalize fListF g w = R at *
    obtain ⟨l, ⟨lc, la⟩⟩ := R
    generalize fAtF g w k = R at *
    obtain ⟨x, ⟨xc, xa⟩⟩ := R
    dsimp only at *
    refine ACalls.intro (n := 72) Try.func15 rfl rfl (by simp) (by rfl) ?_
    simp only [argFr]
    repeat (first | refine wk ?_ | refine s_field (hr := ?_))
    refine s_call [] (hA := forestBegun_sim) (hr := ?_)
    repeat (first | refine wk ?_ | refine s_field (hr := ?_))
    refine s_call [] (hA := hhv) (hr := ?_)
    repeat (first | refine wk ?_ | refine s_field (hr := ?_))
    refine s_call [(900, 954)] (hA := hog) (hr := ?_)
    repeat (first | refine wk ?_ | refine s_field (hr := ?_))
    --@
    refine s_call [] (hA := hl) (hr := ?_)
    repeat (first | refine wk ?_ | refine s_field (hr := ?_))
    --@
    refine s_call [] (hA := hm) (hr := ?_)
    repeat (first | refine wk ?_ | refine s_field (hr := ?_))
    --@
    refine s_call [] (hA := ha) (hr := ?_)
    repeat (first | refine wk ?_ | refine s_field (hr := ?_))
    refine s_call [] (hA := hb) (hr := ?_)
    repeat (first | refine wk ?_ | refine s_field (hr := ?_))
    --@
    refine s_call [] (hA := hst) (hr := ?_)
    repeat (first | refine wk ?_ | refine s_field (hr := ?_))
    refine s_call [] (hA := hs1) (hr := ?_)
    repeat (first | refine wk ?_ | refine s_field (hr := ?_))
    refine s_call [] (hA := hsg) (hr := ?_)
    repeat (first | refine wk ?_ | refine s_field (hr := ?_))
    --@
    exact fin
end Go.Proofs.Ytflgmalhpglklaa
