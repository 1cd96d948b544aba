/-
  Forest: Rank, RankOf, Ahead. Forest, the reference: Ahead.
-/
import Derived.Test.YtflgmalhpglklaaFoL
import Derived.Test.YtflgmalhpglklaaFoI
import Derived.Test.YtflgmalhpglklaaSaP
set_option linter.unusedVariables false
set_option linter.unusedSimpArgs false
set_option linter.unusedSectionVars false
namespace Go.Proofs.Ytflgmalhpglklaa
open Go.RowKit
set_option maxRecDepth 100000
-- SimX

section
variable {t u : Bool} {g : Gram} {w : List Int}
set_option maxHeartbeats 4000000 in
theorem rankTop_sim {x : Tree} (hf : g.fit) (hx : cnt x ≤ 100000000) : ACalls Try.prog 59 [.d (gramD t g), .d (treeA u x)] [] (.tup [I (rankF g x).1, .d (faultD (rankF g x).2)]) [] := by
  have hw := word_top_sim (t := t) (u := u) (g := g) (x := x) hf.rules hf.right hx
  by_cases h0 : (treeFault g x g.start).code = 0
  · obtain ⟨hg, hc, hfit, hz⟩ := treeFault_zero h0
    have hwr : wordR g x = wordT g x := by unfold wordR; rw [if_pos h0]
    rw [hz, hwr] at hw
    have hwl := wordT_le 10 hg.right x
    by_cases h1 : (opF g (wordT g x)).code = 0
    · have ho := fopen_some (t := t) (u := false) h1
      obtain ⟨hC, hz1, hlt⟩ := opF_ok h1
      have hst := hg.stN
      have hra := rank_gen (t := t) (u := u) (L := 0) hC x (stN g) 0 (wordT g x).length (by rw [hst]; exact hg.start) (Nat.zero_le _) (Nat.le_refl _) ((isW_isT hg).1 ⟨hfit, rfl⟩) hc hlt
      rw [show rankF g x = (((rkT g (wcns g (wordT g x) manyC) (wordT g x) x 0 (wordT g x).length : Nat) : Int), ⟨0, 0⟩) by unfold rankF; rw [if_pos h0, if_pos h1]]
      simp only [frH0, frHN] at ho hra
      generalize rkT g (wcns g (wordT g x) manyC) (wordT g x) x 0 (wordT g x).length = res at *
      generalize wcns g (wordT g x) manyC = N at *
      generalize wordT g x = w at *
      generalize nulB g = NB at *
      refine ACalls.intro (n := 35) Try.func59 rfl rfl (by simp) (by rfl) ?_
      simp only [argFr]
      repeat (first | refine wk ?_ | refine s_field (hr := ?_))
      refine s_call [] (hA := hw) (hr := ?_)
      repeat (first | refine wk ?_ | refine s_field (hr := ?_))
      --@
      refine s_call [(25, 925), (962, 962), (960, 960)] (hA := ho) (hr := ?_)
      repeat (first | refine wk ?_ | refine s_field (hr := ?_))
      --@
      refine s_call [(1000, 925), (1001, 962), (1002, 960)] (hA := hra) (hr := ?_)
      repeat (first | refine wk ?_ | refine s_field (hr := ?_))
      --@
      exact fin
    · have ho := fopen_none (t := t) (u := false) hf (show (wordT g x).length ≤ 100000000 by omega) h1
      rw [show rankF g x = (0, opF g (wordT g x)) by unfold rankF; rw [if_pos h0, if_neg h1]]
      generalize opF g (wordT g x) = F at *
      obtain ⟨cc, ca⟩ := F
      dsimp only at h1
      generalize wordT g x = w at *
      refine ACalls.intro (n := 35) Try.func59 rfl rfl (by simp) (by rfl) ?_
      simp only [argFr]
      repeat (first | refine wk ?_ | refine s_field (hr := ?_))
      refine s_call [] (hA := hw) (hr := ?_)
      repeat (first | refine wk ?_ | refine s_field (hr := ?_))
      refine s_call [] (hA := ho) (hr := ?_)
      repeat (first | refine wk ?_ | refine s_field (hr := ?_))
      --@
      exact fin
  · rw [show rankF g x = (0, treeFault g x g.start) by unfold rankF; rw [if_neg h0]]
    generalize treeFault g x g.start = F at *
    obtain ⟨cc, ca⟩ := F
    dsimp only at h0
    generalize wordR g x = w at *
    refine ACalls.intro (n := 35) Try.func59 rfl rfl (by simp) (by rfl) ?_
    simp only [argFr]
    repeat (first | refine wk ?_ | refine s_field (hr := ?_))
    refine s_call [] (hA := hw) (hr := ?_)
    repeat (first | refine wk ?_ | refine s_field (hr := ?_))
    --@
    exact fin
set_option maxHeartbeats 4000000 in
theorem rankOf_sim {x : Tree} (hf : g.fit) (hx : cnt x ≤ 100000000) : ACalls Try.prog 61 [.d (gramD t g), .d (treeA u x)] [] (.tup [I (rankF g x).1, .d (faultD (rankF g x).2)]) [] := by
  have htf := treeFault_sim (t := t) (u := u) (g := g) (x := x) (v := g.start) hf.rules hf.right hx
  by_cases h0 : (treeFault g x g.start).code = 0
  · obtain ⟨hg, hc, hfit, hz⟩ := treeFault_zero h0
    rw [hz] at htf
    have hwl := wordT_le 10 hg.right x
    have hw := wordOf_sim (t := t) (u := u) hg x g.start hfit hc
    have hwl' : (wordT g x).length ≤ 100000000 := by omega
    have hcf := chartFault_sim (t := t) (u := false) hf hwl'
    by_cases hc0 : (chF g (wordT g x)).code = 0
    · obtain ⟨hC, hz1⟩ := chF_ok hc0
      obtain ⟨s1, s2⟩ := hC.small
      rw [hz1] at hcf
      have hcs := countsOf_sim (t := t) (u := false) (w := wordT g x) (M := manyC) hg s1 s2 (by decide) (Nat.le_refl _)
      have hof := cOf_sim (g := g) (t := t) (u := false) (M := manyC) (N := wcns g (wordT g x) manyC) s1 g.start 0 (wordT g x).length
      rw [count_is hg] at hof
      have hcm : cntF g (wordT g x) ≤ manyC := wcns_le g (wordT g x) manyC _ _ _
      have hop : opF g (wordT g x) = if cntF g (wordT g x) = manyC then ⟨6, -1⟩ else ⟨0, 0⟩ := by unfold opF; rw [if_pos hc0]
      by_cases hm : cntF g (wordT g x) = manyC
      · rw [if_pos hm] at hop
        rw [show rankF g x = (0, ⟨6, -1⟩) by unfold rankF; rw [if_pos h0, hop, if_neg (by simp)]]
        rw [hm] at hof
        generalize wcns g (wordT g x) manyC = N at *
        generalize wordT g x = w at *
        refine ACalls.intro (n := 46) Try.func61 rfl rfl (by simp) (by rfl) ?_
        simp only [argFr]
        repeat (first | refine wk ?_ | refine s_field (hr := ?_))
        refine s_call [] (hA := htf) (hr := ?_)
        repeat (first | refine wk ?_ | refine s_field (hr := ?_))
        refine s_call [(900, 905)] (hA := hw) (hr := ?_)
        repeat (first | refine aw_froz 905 rfl ?_ | refine wk1 ?_)
        --@
        refine s_call [] (hA := hcf) (hr := ?_)
        repeat (first | refine wk ?_ | refine s_field (hr := ?_))
        refine s_call [(21, 921)] (hA := hcs) (hr := ?_)
        repeat (first | refine wk ?_ | refine s_field (hr := ?_))
        refine s_callU [(1000, 921)] (hA := hof) (hr := ?_)
        repeat (first | refine wk ?_ | refine s_field (hr := ?_))
        refine s_call [] (hA := f_sim) (hr := ?_)
        repeat (first | refine wk ?_ | refine s_field (hr := ?_))
        --@
        exact fin
      · rw [if_neg hm] at hop
        have hra := refRank_gen (t := t) (v' := u) (u := false) hC x (stN g) 0 (wordT g x).length (by rw [hg.stN]; exact hg.start) (Nat.zero_le _) (Nat.le_refl _) ((isW_isT hg).1 ⟨hfit, rfl⟩) hc (by show cntF g (wordT g x) < manyC; omega)
        rw [show rankF g x = (((rkT g (wcns g (wordT g x) manyC) (wordT g x) x 0 (wordT g x).length : Nat) : Int), ⟨0, 0⟩) by unfold rankF; rw [if_pos h0, hop, if_pos rfl]]
        have hne : ¬ ((cntF g (wordT g x) : Nat) : Int) = 4611686018427387904 := fun q => hm (by unfold manyC; omega)
        clear hcm hm hop hc0
        generalize cntF g (wordT g x) = c at *
        generalize rkT g (wcns g (wordT g x) manyC) (wordT g x) x 0 (wordT g x).length = res at *
        generalize wcns g (wordT g x) manyC = N at *
        generalize wordT g x = w at *
        refine ACalls.intro (n := 46) Try.func61 rfl rfl (by simp) (by rfl) ?_
        simp only [argFr]
        repeat (first | refine wk ?_ | refine s_field (hr := ?_))
        refine s_call [] (hA := htf) (hr := ?_)
        repeat (first | refine wk ?_ | refine s_field (hr := ?_))
        refine s_call [(900, 905)] (hA := hw) (hr := ?_)
        repeat (first | refine aw_froz 905 rfl ?_ | refine wk1 ?_)
        --@
        refine s_call [] (hA := hcf) (hr := ?_)
        repeat (first | refine wk ?_ | refine s_field (hr := ?_))
        refine s_call [(21, 921)] (hA := hcs) (hr := ?_)
        repeat (first | refine wk ?_ | refine s_field (hr := ?_))
        refine s_callU [(1000, 921)] (hA := hof) (hr := ?_)
        repeat (first | refine wk ?_ | refine s_field (hr := ?_))
        --@
        refine s_call [(1000, 921)] (hA := hra) (hr := ?_)
        repeat (first | refine wk ?_ | refine s_field (hr := ?_))
        --@
        exact fin
    · rw [show rankF g x = (0, chF g (wordT g x)) by unfold rankF opF; rw [if_pos h0, if_neg hc0, if_neg hc0]]
      generalize chF g (wordT g x) = F at *
      obtain ⟨cc, ca⟩ := F
      dsimp only at hc0
      generalize wordT g x = w at *
      refine ACalls.intro (n := 46) Try.func61 rfl rfl (by simp) (by rfl) ?_
      simp only [argFr]
      repeat (first | refine wk ?_ | refine s_field (hr := ?_))
      refine s_call [] (hA := htf) (hr := ?_)
      repeat (first | refine wk ?_ | refine s_field (hr := ?_))
      refine s_call [(900, 905)] (hA := hw) (hr := ?_)
      repeat (first | refine aw_froz 905 rfl ?_ | refine wk1 ?_)
      --@
      refine s_call [] (hA := hcf) (hr := ?_)
      repeat (first | refine wk ?_ | refine s_field (hr := ?_))
      --@
      exact fin
  · rw [show rankF g x = (0, treeFault g x g.start) by unfold rankF; rw [if_neg h0]]
    generalize treeFault g x g.start = F at *
    obtain ⟨cc, ca⟩ := F
    dsimp only at h0
    refine ACalls.intro (n := 46) Try.func61 rfl rfl (by simp) (by rfl) ?_
    simp only [argFr]
    repeat (first | refine wk ?_ | refine s_field (hr := ?_))
    refine s_call [] (hA := htf) (hr := ?_)
    repeat (first | refine wk ?_ | refine s_field (hr := ?_))
    --@
    exact fin
end
end Go.Proofs.Ytflgmalhpglklaa
namespace Go.Proofs.Ytflgmalhpglklaa
open Go.RowKit
set_option maxRecDepth 100000
-- SimX

section
variable {t u v' : Bool} {g : Gram} {w : List Int}
theorem ahT_eq (g : Gram) (a b : Tree) : ahT g a b = if a.rule = b.rule then ahL g a.kids b.kids else if a.rule < b.rule then -1 else 1 := by cases a; cases b; rw [ahT]; rfl
theorem ahL_step {g : Gram} {k l : List Tree} {i : Nat} (h1 : i < k.length) (h2 : i < l.length) : ahL g (k.drop i) (l.drop i) = if lenW g k[i] = lenW g l[i] then (if ahT g k[i] l[i] = 0 then ahL g (k.drop (i + 1)) (l.drop (i + 1)) else ahT g k[i] l[i]) else if lenW g k[i] < lenW g l[i] then -1 else 1 := by
  rw [List.drop_eq_getElem_cons h1, List.drop_eq_getElem_cons h2, ahL]
theorem ahL_end {g : Gram} {k l : List Tree} {i : Nat} (h1 : ¬ i < k.length) : ahL g (k.drop i) (l.drop i) = 0 := by
  rw [List.drop_of_length_le (Nat.le_of_not_lt h1), ahL.eq_def]
set_option maxHeartbeats 4000000 in
theorem ahead_sim (hg : g.ok) : ∀ (a b : Tree) (v : Int), fits g a v = true → fits g b v = true → cnt a ≤ 400 → cnt b ≤ 400 →
    ACalls Try.prog 64 [.d (gramD t g), .d (treeA u a), .d (treeA v' b)] [] (I (ahT g a b)) [] := by
  refine Tree.ind fun a ih b v hfa hfb ha hb => ?_
  obtain ⟨i, hi, e1, e2, e3, e4, e5⟩ := fits_parts hfa
  obtain ⟨i', hi', e1', e2', e3', e4', e5'⟩ := fits_parts hfb
  have hwo := fun (u : Bool) (y : Tree) (v : Int) (h : fits g y v = true) (h2 : cnt y ≤ 400) => wordOf_sim (t := t) (u := u) hg y v h h2
  have hka := kids_len ha
  have hkb := kids_len hb
  rw [ahT_eq]
  by_cases he : a.rule = b.rule
  rotate_left
  · rw [if_neg he]
    by_cases hl : a.rule < b.rule
    · rw [if_pos hl]
      refine ACalls.intro (n := 65) Try.func64 rfl rfl (by simp) (by rfl) ?_
      simp only [argFr]
      repeat (first | refine wk ?_ | refine s_field (hr := ?_))
      --@
      exact fin
    · rw [if_neg hl]
      refine ACalls.intro (n := 65) Try.func64 rfl rfl (by simp) (by rfl) ?_
      simp only [argFr]
      repeat (first | refine wk ?_ | refine s_field (hr := ?_))
      --@
      exact fin
  rw [if_pos he]
  obtain rfl : i' = i := by omega
  have hll : a.kids.length = b.kids.length := by omega
  generalize hres : ahL g a.kids b.kids = res at *
  refine ACalls.intro (n := 65) Try.func64 rfl rfl (by simp) (by rfl) ?_
  simp only [argFr]
  repeat (first | refine wk ?_ | refine s_field (hr := ?_))
  --@
  refine t_loop (X := Nat) (fun x => x ≤ a.kids.length ∧ ahL g (a.kids.drop x) (b.kids.drop x) = res)
    (fun x => [(7, I x), (6, I 0), (3, .ptr 3 0), (4, .ptr 4 0), (5, .ptr 5 0)])
    (fun _ => [(3, gramBox t g), (4, .box 84 [.d (iD a.rule), .d (treesD u a.kids)]), (5, .box 84 [.d (iD b.rule), .d (treesD v' b.kids)])]) (fun x => a.kids.length - x) 0 ⟨Nat.zero_le _, by simpa using hres⟩ ?_
  rintro x ⟨h1, h2⟩
  by_cases hx : x < a.kids.length
  rotate_left
  · rw [ahL_end hx] at h2
    subst h2
    repeat (first | refine wk ?_ | refine s_field (hr := ?_))
    --@
    exact fin
  have hxb : x < b.kids.length := by omega
  have hq2 : x < (kids g.rules[i'].right).length := by omega
  have hfka := fitss_at e4 hx hq2
  have hfkb := fitss_at e4' hxb hq2
  have hca := kid_le ha hx
  have hcb := kid_le hb hxb
  have hwa := hwo u _ _ hfka hca.1
  have hwb := hwo v' _ _ hfkb hcb.1
  have hah := ih a.kids[x] (List.getElem_mem hx) b.kids[x] _ hfka hfkb hca.1 hcb.1
  rw [ahL_step hx hxb] at h2
  unfold lenW at h2
  clear ih hwo
  generalize ahT g a.kids[x] b.kids[x] = c3 at *
  by_cases hm : (wordT g a.kids[x]).length = (wordT g b.kids[x]).length
  rotate_left
  · rw [if_neg hm] at h2
    by_cases hlt : (wordT g a.kids[x]).length < (wordT g b.kids[x]).length
    · rw [if_pos hlt] at h2
      subst h2
      generalize wordT g a.kids[x] = wa at *
      generalize wordT g b.kids[x] = wb at *
      have hm' : ¬ ((wa.length : Nat) : Int) = ((wb.length : Nat) : Int) := by omega
      have hlt' : ((wa.length : Nat) : Int) < ((wb.length : Nat) : Int) := by omega
      repeat (first | refine wk ?_ | refine s_field (hr := ?_))
      --@
      refine s_call [(900, 905)] (hA := hwa) (hr := ?_)
      repeat (first | refine wk ?_ | refine s_field (hr := ?_))
      --@
      refine s_call [(900, 906)] (hA := hwb) (hr := ?_)
      repeat (first | refine wk ?_ | refine s_field (hr := ?_))
      --@
      exact fin
    · rw [if_neg hlt] at h2
      subst h2
      generalize wordT g a.kids[x] = wa at *
      generalize wordT g b.kids[x] = wb at *
      have hm' : ¬ ((wa.length : Nat) : Int) = ((wb.length : Nat) : Int) := by omega
      have hlt' : ¬ ((wa.length : Nat) : Int) < ((wb.length : Nat) : Int) := by omega
      repeat (first | refine wk ?_ | refine s_field (hr := ?_))
      refine s_call [(900, 905)] (hA := hwa) (hr := ?_)
      repeat (first | refine wk ?_ | refine s_field (hr := ?_))
      refine s_call [(900, 906)] (hA := hwb) (hr := ?_)
      repeat (first | refine wk ?_ | refine s_field (hr := ?_))
      --@
      exact fin
  rw [if_pos hm] at h2
  by_cases hc : c3 = 0
  · rw [if_pos hc] at h2
    subst hc
    generalize wordT g a.kids[x] = wa at *
    generalize wordT g b.kids[x] = wb at *
    have hm' : ((wa.length : Nat) : Int) = ((wb.length : Nat) : Int) := by omega
    repeat (first | refine wk ?_ | refine s_field (hr := ?_))
    refine s_call [(900, 905)] (hA := hwa) (hr := ?_)
    repeat (first | refine wk ?_ | refine s_field (hr := ?_))
    refine s_call [(900, 906)] (hA := hwb) (hr := ?_)
    repeat (first | refine wk ?_ | refine s_field (hr := ?_))
    --@
    refine s_call [] (hA := hah) (hr := ?_)
    repeat (first | refine wk ?_ | refine s_field (hr := ?_))
    --@
    exact t_next (x + 1) (a := ⟨hx, h2⟩)
  · rw [if_neg hc] at h2
    subst h2
    generalize wordT g a.kids[x] = wa at *
    generalize wordT g b.kids[x] = wb at *
    have hm' : ((wa.length : Nat) : Int) = ((wb.length : Nat) : Int) := by omega
    repeat (first | refine wk ?_ | refine s_field (hr := ?_))
    refine s_call [(900, 905)] (hA := hwa) (hr := ?_)
    repeat (first | refine wk ?_ | refine s_field (hr := ?_))
    refine s_call [(900, 906)] (hA := hwb) (hr := ?_)
    repeat (first | refine wk ?_ | refine s_field (hr := ?_))
    refine s_call [] (hA := hah) (hr := ?_)
    repeat (first | refine wk ?_ | refine s_field (hr := ?_))
    --@
    exact fin
end
end Go.Proofs.Ytflgmalhpglklaa
