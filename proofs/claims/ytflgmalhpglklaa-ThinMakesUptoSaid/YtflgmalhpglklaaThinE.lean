/-
  Thin, the reference: ThinOf.
-/
import Derived.Test.YtflgmalhpglklaaThinD
import Derived.Test.YtflgmalhpglklaaFoI
import Derived.Test.YtflgmalhpglklaaFactsL
set_option linter.unusedVariables false
set_option linter.unusedSimpArgs false
set_option linter.unusedSectionVars false
namespace Go.Proofs.Ytflgmalhpglklaa
open Go.RowKit
set_option maxRecDepth 100000
-- SimX

def pD (p : List Nat) : List D := p.map fun n => iD ((n : Nat) : Int)
theorem pD_len (p : List Nat) : (pD p).length = p.length := by simp [pD]
theorem pD_get {p : List Nat} {k : Nat} (h : k < p.length) : (pD p)[k]? = some (iD ((p.getD k 0 : Nat) : Int)) := by simp [pD, h]
theorem pD_set (p : List Nat) (k x : Nat) : (pD p).set k (iD ((x : Nat) : Int)) = pD (p.set k x) := by simp [pD, List.map_set]
theorem pD_zero (n : Nat) : List.replicate n (iD 0) = pD (List.replicate n 0) := by simp [pD]
def resT (g : Gram) (nl : List (List Tree)) : Except Nat TS → Step × Fault
  | .error i => (zeroStep, ⟨6, i⟩)
  | .ok S => (⟨⟨g.vars, g.terms, g.start, S.rules⟩, S.frags, nl.getD (stN g) []⟩, ⟨0, 0⟩)
theorem optsN_get (nl : List (List Tree)) {ss : List Int} {k : Nat} (h : k < (kids ss).length) : ∃ h' : k < (optsN nl ss).length, (optsN nl ss)[k] = (nl.getD ((kids ss)[k]).toNat []).length + 1 := ⟨by simpa [optsN] using h, by simp [optsN]⟩
theorem kids_get {ss : List Int} {i : Nat} (h : i < ss.length) (hs : ¬ ss[i] < 0) : ∃ h' : (kids (ss.take i)).length < (kids ss).length, (kids ss)[(kids (ss.take i)).length] = ss[i] := by
  have e : kids ss = kids (ss.take i) ++ ss[i] :: kids (ss.drop (i + 1)) := by
    conv => lhs; rw [← List.take_append_drop i ss, List.drop_eq_getElem_cons h]
    unfold kids
    rw [List.filter_append, List.filter_cons_of_pos (by simpa using (by omega : 0 ≤ ss[i]))]
  have hl : (kids (ss.take i)).length < (kids ss).length := by rw [e]; simp
  refine ⟨hl, ?_⟩
  simp only [e]
  rw [List.getElem_append_right (Nat.le_refl _)]
  simp
set_option maxHeartbeats 16000000 in
theorem thinOf_sim {t : Bool} {g : Gram} (hf : g.fit) : ACalls Try.prog 54 [.d (gramD t g)] [] (.tup [.d (stepD false (thinF g).1), .d (faultD (thinF g).2)]) [] := by
  have hgf := gramFault_sim (t := t) (g := g) hf.rules hf.right
  by_cases hc : (gramFault g).code = 0
  rotate_left
  · rw [show thinF g = (zeroStep, gramFault g) by unfold thinF; rw [if_neg hc]]
    generalize gramFault g = F at *
    obtain ⟨cc, ca⟩ := F
    dsimp only at hc
    refine ACalls.intro (n := 222) Try.func54 rfl rfl (by simp) (by rfl) ?_
    simp only [argFr]
    repeat (first | refine wk ?_ | refine s_field (hr := ?_))
    refine s_call [] (hA := hgf) (hr := ?_)
    repeat (first | refine wk ?_ | refine s_field (hr := ?_))
    --@
    exact fin2
  have hg := gram_ok hc
  rw [fault_zero hc] at hgf
  have hcy := cyclicOf_sim (t := t) hg
  rw [← cycL_eq hg] at hcy
  by_cases hcn : cycL g = []
  rotate_left
  · rw [show thinF g = (zeroStep, ⟨10, -1⟩) by unfold thinF; rw [if_pos hc, if_neg hcn]]
    have hcl : (0 : Int) < ((cycL g).length : Nat) := by cases hh : cycL g with
      | nil => exact absurd hh hcn
      | cons a l => simp
    generalize cycL g = cl at *
    refine ACalls.intro (n := 222) Try.func54 rfl rfl (by simp) (by rfl) ?_
    simp only [argFr]
    repeat (first | refine wk ?_ | refine s_field (hr := ?_))
    refine s_call [] (hA := hgf) (hr := ?_)
    repeat (first | refine wk ?_ | refine s_field (hr := ?_))
    refine s_call [] (hA := hcy) (hr := ?_)
    repeat (first | refine wk ?_ | refine s_field (hr := ?_))
    refine s_call [] (hA := f_sim) (hr := ?_)
    repeat (first | refine wk ?_ | refine s_field (hr := ?_))
    --@
    exact fin2
  rw [hcn] at hcy
  obtain ⟨nv, hV⟩ : ∃ nv : Nat, g.vars = (nv : Int) := ⟨g.vars.toNat, by have := hg.vars1; omega⟩
  have hVt : g.vars.toNat = nv := by omega
  have hV64 := hg.vars
  have hlist := fun (v : Nat) => (treesOf_sim (t := t) (u := false) (g := stG g v) (w := []) ⟨hf.rules, hf.right⟩ (by simp)).le (args := [.d (gramD t (stG g v)), nilV]) ⟨.refl _, VLe.nil _ _, trivial⟩
  cases hnl : nlF g with
  | none =>
    rw [show thinF g = (zeroStep, ⟨6, -1⟩) by unfold thinF; rw [if_pos hc, if_pos hcn, hnl]]
    unfold nlF at hnl
    rw [hVt] at hnl
    refine ACalls.intro (n := 222) Try.func54 rfl rfl (by simp) (by rfl) ?_
    simp only [argFr]
    repeat (first | refine wk ?_ | refine s_field (hr := ?_))
    refine s_call [] (hA := hgf) (hr := ?_)
    repeat (first | refine wk ?_ | refine s_field (hr := ?_))
    refine s_call [] (hA := hcy) (hr := ?_)
    repeat (first | refine wk ?_ | refine s_field (hr := ?_))
    --@
    refine aw_nil 5 900 29 1 rfl rfl rfl ?_
    refine t_loop (X := Nat × List (List Tree)) (fun y => y.1 ≤ nv ∧ y.2.length = y.1 ∧ nlA g (nv - y.1) y.1 y.2 = none) (fun y => [(6, I y.1), (5, .own 900 y.2.length), (1, .ptr 1 0), (2, .ptr 2 0), (3, .ptr 3 0)])
      (fun y => [(1, gramBox t g), (2, bxSt zSt), (3, bxFt (I 0) (I 0)), (900, .row 29 1 (y.2.map (treesD false)))]) (fun y => nv - y.1) (0, []) ⟨Nat.zero_le _, rfl, by rw [Nat.sub_zero]; exact hnl⟩ ?_
    rintro ⟨v, acc⟩ ⟨j1, j2, j3⟩
    dsimp only at j1 j2 j3 ⊢
    by_cases hvl : v < nv
    · have hvi : (v : Int) < g.vars := by omega
      have hl := hlist v
      have hbad := fun h => nl_bad hg hcn (v := v) (by omega) h
      rw [show nv - v = (nv - (v + 1)) + 1 by omega, nlA] at j3
      generalize fListF (stG g v) [] = R at *
      obtain ⟨l, ⟨lc, la⟩⟩ := R
      dsimp only at *
      have eset : acc.map (treesD false) ++ [treesD false l] = (acc ++ [l]).map (treesD false) := by simp
      by_cases hz : lc = 0
      · rw [if_pos hz] at j3
        clear hbad
        repeat (first | refine wk ?_ | refine s_field (hr := ?_))
        --@
        refine s_call [] (hA := hl) (hr := ?_)
        repeat (first | refine wk ?_ | refine s_field (hr := ?_))
        --@
        rw [eset]
        exact t_next (v + 1, acc ++ [l]) (a := ⟨hvl, by simp [j2], j3⟩) (b := by dsimp only; omega)
      · rw [if_neg hz] at j3
        have hb := hbad hz
        injection hb with hb1 hb2
        injection hb2 with hb3 hb4
        subst hb1 hb3 hb4
        clear hbad
        repeat (first | refine wk ?_ | refine s_field (hr := ?_))
        refine s_call [] (hA := hl) (hr := ?_)
        repeat (first | refine wk ?_ | refine s_field (hr := ?_))
        refine s_call [] (hA := f_sim) (hr := ?_)
        repeat (first | refine wk ?_ | refine s_field (hr := ?_))
        --@
        exact fin2
    · obtain rfl : v = nv := by omega
      rw [Nat.sub_self, nlA] at j3
      cases j3
  | some nl =>
    obtain ⟨hok, hnv⟩ := nl_ok hg hcn hnl
    generalize hRES : thA nl 0 g.rules ⟨[], []⟩ = RES
    rw [show thinF g = resT g nl RES by unfold thinF; rw [if_pos hc, if_pos hcn, hnl]; dsimp only; rw [hRES]; cases RES <;> rfl]
    unfold nlF at hnl
    rw [hVt] at hnl hnv
    have hrules := hg.rules
    have hst := hg.start
    have hst0 := hg.start0
    have hbare := bare_sim (t := t) (g := g)
    obtain ⟨sn, hsn⟩ : ∃ sn : Nat, g.start = (sn : Int) := ⟨g.start.toNat, by omega⟩
    have hsl : sn < nl.length := by omega
    have esn : nl.getD (stN g) [] = nl[sn] := by unfold stN; rw [hsn, Int.toNat_natCast, List.getD_eq_getElem?_getD, List.getElem?_eq_getElem hsl]; rfl
    refine ACalls.intro (n := 222) Try.func54 rfl rfl (by simp) (by rfl) ?_
    simp only [argFr]
    repeat (first | refine wk ?_ | refine s_field (hr := ?_))
    refine s_call [] (hA := hgf) (hr := ?_)
    repeat (first | refine wk ?_ | refine s_field (hr := ?_))
    refine s_call [] (hA := hcy) (hr := ?_)
    repeat (first | refine wk ?_ | refine s_field (hr := ?_))
    --@
    refine aw_nil 5 900 29 1 rfl rfl rfl ?_
    refine t_loop (X := Nat × List (List Tree)) (fun y => y.1 ≤ nv ∧ y.2.length = y.1 ∧ nlA g (nv - y.1) y.1 y.2 = some nl) (fun y => [(6, I y.1), (5, .own 900 y.2.length), (1, .ptr 1 0), (2, .ptr 2 0), (3, .ptr 3 0)])
      (fun y => [(1, gramBox t g), (2, bxSt zSt), (3, bxFt (I 0) (I 0)), (900, .row 29 1 (y.2.map (treesD false)))]) (fun y => nv - y.1) (0, []) ⟨Nat.zero_le _, rfl, by rw [Nat.sub_zero]; exact hnl⟩ ?_
    rintro ⟨v, acc⟩ ⟨j1, j2, j3⟩
    dsimp only at j1 j2 j3 ⊢
    by_cases hvl : v < nv
    · have hvi : (v : Int) < g.vars := by omega
      have hl := hlist v
      have hbad := fun h => nl_bad hg hcn (v := v) (by omega) h
      rw [show nv - v = (nv - (v + 1)) + 1 by omega, nlA] at j3
      generalize fListF (stG g v) [] = R at *
      obtain ⟨l, ⟨lc, la⟩⟩ := R
      dsimp only at *
      have eset : acc.map (treesD false) ++ [treesD false l] = (acc ++ [l]).map (treesD false) := by simp
      by_cases hz : lc = 0
      · rw [if_pos hz] at j3
        clear hbad
        repeat (first | refine wk ?_ | refine s_field (hr := ?_))
        --@
        refine s_call [] (hA := hl) (hr := ?_)
        repeat (first | refine wk ?_ | refine s_field (hr := ?_))
        --@
        rw [eset]
        exact t_next (v + 1, acc ++ [l]) (a := ⟨hvl, by simp [j2], j3⟩) (b := by dsimp only; omega)
      · rw [if_neg hz] at j3
        cases j3
    obtain rfl : v = nv := by omega
    rw [Nat.sub_self, nlA] at j3
    obtain rfl : acc = nl := by injection j3
    clear hlist hnl j3 hvl
    have hvi : ¬ (v : Int) < g.vars := by omega
    generalize acc = nl at *
    repeat (first | refine wk ?_ | refine s_field (hr := ?_))
    refine s_call [] (hA := hbare) (hr := ?_)
    repeat (first | refine wk ?_ | refine s_field (hr := ?_))
    --@
    rw [hsn]
    repeat (first | refine wk ?_ | refine s_field (hr := ?_))
    --@
    clear hbare hgf hcy
    refine aw_nilCell 10 3 901 80 2 rfl rfl rfl rfl ?_
    refine aw_nilCell 10 4 902 111 1 rfl rfl rfl rfl ?_
    refine t_loop (X := Nat × TS) (fun y => y.1 ≤ g.rules.length ∧ y.2.Good ∧ thA nl y.1 (g.rules.drop y.1) y.2 = RES) (fun y => [(11, I y.1), (10, .ptr 10 0), (5, .own 900 nl.length), (1, .ptr 1 0), (2, .ptr 2 0), (3, .ptr 3 0)]) (fun y => [(1, gramBox t g), (2, bxSt zSt), (3, bxFt (I 0) (I 0)), (900, .row 29 1 (nl.map (treesD false))), (10, bxSt [.d (iD g.vars), .d (iD g.terms), .d (iD sn), .own 901 (y.2.rules.map (ruleD false)).length, .own 902 (y.2.frags.map (fragsD false)).length, .d (treesD false nl[sn])]), (901, .row 80 2 (y.2.rules.map (ruleD false))), (902, .row 111 1 (y.2.frags.map (fragsD false)))]) (fun y => g.rules.length - y.1) (0, ⟨[], []⟩) ⟨Nat.zero_le _, ⟨Nat.zero_le _, rfl⟩, hRES⟩ ?_
    rintro ⟨r, S⟩ ⟨k1, k2, k3⟩
    dsimp only at k1 k2 k3 ⊢
    by_cases hr : r < g.rules.length
    rotate_left
    · rw [show g.rules.drop r = [] from List.drop_of_length_le (by omega), thA] at k3
      subst k3
      refine aw_froz 901 rfl ?_
      refine aw_froz 902 rfl ?_
      simp only [resT, esn, hsn]
      repeat (first | refine wk ?_ | refine s_field (hr := ?_))
      --@
      exact fin2
    rw [List.drop_eq_getElem_cons hr, thA, thR_tups] at k3
    simp only [List.nil_append] at k3
    have hrr := hg.right _ (List.getElem_mem hr)
    have hhi := hg.hi _ (List.getElem_mem hr)
    have hkr := kidsOf_sim (t := t) (xs := g.rules[r].right)
    have hko : (optsN nl g.rules[r].right).length = (kids g.rules[r].right).length := by simp [optsN]
    have hkl : (kids g.rules[r].right).length ≤ 10 := Nat.le_trans (List.length_filter_le _ _) hrr
    obtain ⟨hrun, R0, hR0⟩ := tups_runs (optsN nl g.rules[r].right) (fun c hc => by obtain ⟨s, _, rfl⟩ := List.mem_map.1 hc; omega)
    have hmem := tups_mem (optsN nl g.rules[r].right)
    have hkk : ∀ c, ∀ h : c < (kids g.rules[r].right).length, ∃ ks : Nat, ∃ hk : ks < nl.length, (kids g.rules[r].right)[c] = (ks : Int) ∧ ∃ h' : c < (optsN nl g.rules[r].right).length, (optsN nl g.rules[r].right)[c] = nl[ks].length + 1 := fun c h => by
      have hm := List.getElem_mem h
      unfold kids at hm
      obtain ⟨m1, m2⟩ := List.mem_filter.1 hm
      have m3 := hhi _ m1
      have m4 : 0 ≤ (kids g.rules[r].right)[c] := of_decide_eq_true m2
      have m5 : (kids g.rules[r].right)[c] < g.vars := m3
      obtain ⟨ks, hks⟩ : ∃ ks : Nat, (kids g.rules[r].right)[c] = (ks : Int) := ⟨((kids g.rules[r].right)[c]).toNat, by omega⟩
      have hkl : ks < nl.length := by omega
      obtain ⟨q1, q2⟩ := optsN_get nl h
      refine ⟨ks, hkl, hks, q1, ?_⟩
      rw [q2, hks, Int.toNat_natCast, List.getD_eq_getElem?_getD, List.getElem?_eq_getElem hkl]; rfl
    have hmem' : ∀ q ∈ List.replicate (kids g.rules[r].right).length 0 :: R0, q.length = (optsN nl g.rules[r].right).length ∧ ∀ k, ∀ h : k < (optsN nl g.rules[r].right).length, q.getD k 0 < (optsN nl g.rules[r].right)[k] := fun q hq => hmem q (by rw [hR0, hko]; exact hq)
    rw [hR0] at k3 hrun
    rw [hko] at k3 hrun
    have hfs : ∀ p, fszs (thM nl g.rules[r].right p 0).2 ≤ 4010 := fun p => by have := thM_fszs (fun l hl x hx => (hok.2.2 l hl x hx).1) g.rules[r].right p 0; omega
    repeat (first | refine wk ?_ | refine s_field (hr := ?_))
    --@
    refine s_call [(3, 903)] (hA := hkr) (hr := ?_)
    repeat (first | refine wk ?_ | refine s_field (hr := ?_))
    --@
    have e := pD_zero (kids g.rules[r].right).length
    refine t_loop (X := List Nat × List (List Nat) × TS) (fun y => Runs (optsN nl g.rules[r].right) (y.1 :: y.2.1) ∧ (∀ q ∈ y.1 :: y.2.1, q.length = (optsN nl g.rules[r].right).length ∧ ∀ k, ∀ h : k < (optsN nl g.rules[r].right).length, q.getD k 0 < (optsN nl g.rules[r].right)[k]) ∧ y.2.2.Good ∧ (match thL (fun p S => S.put g.rules[r].left r (thM nl g.rules[r].right p 0).1 (thM nl g.rules[r].right p 0).2) (y.1 :: y.2.1) y.2.2 with | .error _ => .error r | .ok S' => thA nl (r + 1) (g.rules.drop (r + 1)) S') = RES)
      (fun _ => [(13, .own 82 (kids g.rules[r].right).length), (12, .own 903 (kids g.rules[r].right).length), (11, I r), (10, .ptr 10 0), (5, .own 900 nl.length), (1, .ptr 1 0), (2, .ptr 2 0), (3, .ptr 3 0)]) (fun y => [(82, .row 3 1 (pD y.1)), (903, .row 3 1 ((kids g.rules[r].right).map iD)), (1, gramBox t g), (2, bxSt zSt), (3, bxFt (I 0) (I 0)), (900, .row 29 1 (nl.map (treesD false))), (10, bxSt [.d (iD g.vars), .d (iD g.terms), .d (iD sn), .own 901 (y.2.2.rules.map (ruleD false)).length, .own 902 (y.2.2.frags.map (fragsD false)).length, .d (treesD false nl[sn])]), (901, .row 80 2 (y.2.2.rules.map (ruleD false))), (902, .row 111 1 (y.2.2.frags.map (fragsD false)))]) (fun y => y.2.1.length) (List.replicate (kids g.rules[r].right).length 0, R0, S) ⟨hrun, hmem', k2, k3⟩ ?_
    clear e hR0 hmem hmem' hrun k2 k3 hkr
    rintro ⟨p, rest, S0⟩ ⟨q1, q2, q3, q4⟩
    dsimp only at q1 q2 q3 q4 ⊢
    obtain ⟨hpl, hpb⟩ := q2 p (by simp)
    rw [hko] at hpl
    generalize hM : thM nl g.rules[r].right p 0 = M at *
    obtain ⟨ML, MF⟩ := M
    repeat (first | refine wk ?_ | refine s_field (hr := ?_))
    --@
    refine aw_nil 15 904 3 1 rfl rfl rfl ?_
    refine aw_nilCell 14 2 905 129 3 rfl rfl rfl rfl ?_
    refine t_loop (X := Nat × Nat × Nat × List Int × List Frag) (fun y => y.1 ≤ g.rules[r].right.length ∧ y.2.1 = (kids (g.rules[r].right.take y.1)).length ∧ y.2.2.1 ≤ y.2.1 ∧ y.2.2.2.1.length ≤ y.1 ∧ y.2.2.2.2.length ≤ y.1 ∧ y.2.2.2.1 ++ (thM nl (g.rules[r].right.drop y.1) (p.drop y.2.1) y.2.2.1).1 = ML ∧ y.2.2.2.2 ++ (thM nl (g.rules[r].right.drop y.1) (p.drop y.2.1) y.2.2.1).2 = MF)
      (fun y => [(18, I y.1), (17, I y.2.2.1), (16, I y.2.1), (15, .own 904 y.2.2.2.1.length), (14, .ptr 14 0), (13, .own 82 (kids g.rules[r].right).length), (12, .own 903 (kids g.rules[r].right).length), (11, I r), (10, .ptr 10 0), (5, .own 900 nl.length), (1, .ptr 1 0), (2, .ptr 2 0), (3, .ptr 3 0)])
      (fun y => [(904, .row 3 1 (y.2.2.2.1.map iD)), (905, .row 129 3 (y.2.2.2.2.map (fragD false))), (14, .box 129 [I 1, I r, .own 905 y.2.2.2.2.length]), (82, .row 3 1 (pD p)), (903, .row 3 1 ((kids g.rules[r].right).map iD)), (1, gramBox t g), (2, bxSt zSt), (3, bxFt (I 0) (I 0)), (900, .row 29 1 (nl.map (treesD false))), (10, bxSt [.d (iD g.vars), .d (iD g.terms), .d (iD sn), .own 901 (S0.rules.map (ruleD false)).length, .own 902 (S0.frags.map (fragsD false)).length, .d (treesD false nl[sn])]), (901, .row 80 2 (S0.rules.map (ruleD false))), (902, .row 111 1 (S0.frags.map (fragsD false)))]) (fun y => g.rules[r].right.length - y.1) (0, 0, 0, [], []) ⟨Nat.zero_le _, by simp [kids], Nat.le_refl _, Nat.le_refl _, Nat.le_refl _, by simp [hM], by simp [hM]⟩ ?_
    rintro ⟨i, k, hl, pr, pl⟩ ⟨i1, i2, i3, i4, i5, i6, i7⟩
    dsimp only at i1 i2 i3 i4 i5 i6 i7 ⊢
    by_cases hil : i < g.rules[r].right.length
    · rw [List.drop_eq_getElem_cons hil] at i6 i7
      have esnoc := kids_snoc g.rules[r].right i hil
      by_cases hs : g.rules[r].right[i] < 0
      · simp only [thM, hs, if_true] at i6 i7
        rw [kids_neg hs, List.append_nil] at esnoc
        have e1 : pr.map iD ++ [iD g.rules[r].right[i]] = (pr ++ [g.rules[r].right[i]]).map iD := by simp
        repeat (first | refine wk ?_ | refine s_field (hr := ?_))
        --@
        rw [e1]
        exact t_next (i + 1, k, hl, pr ++ [g.rules[r].right[i]], pl) (a := ⟨hil, by dsimp only; rw [esnoc]; exact i2, i3, by simp; omega, by dsimp only; omega, by simpa using i6, i7⟩) (b := by dsimp only; omega)
      obtain ⟨h1, h2⟩ := kids_get hil hs
      rw [← i2] at h1
      rw [kids_pos (by omega)] at esnoc
      have hke : (kids g.rules[r].right)[k] = g.rules[r].right[i] := by simp only [i2]; exact h2
      obtain ⟨ks, hks, hk1, hk2, hk3⟩ := hkk k h1
      rw [hke] at hk1
      have hkp : k < p.length := by omega
      have hsn' : g.rules[r].right[i].toNat = ks := by omega
      have hgd : nl.getD ks [] = nl[ks] := by rw [List.getD_eq_getElem?_getD, List.getElem?_eq_getElem hks]; rfl
      have hpk := hpb k hk2
      rw [hk3] at hpk
      have hgp := pD_get hkp
      have hplen := pD_len p
      have esl : (kids (g.rules[r].right.take (i + 1))).length = k + 1 := by rw [esnoc, List.length_append, ← i2]; rfl
      rw [List.drop_eq_getElem_cons hkp] at i6 i7
      have hpe : p.getD k 0 = p[k] := by rw [List.getD_eq_getElem?_getD, List.getElem?_eq_getElem hkp]; rfl
      have hs0 : 0 ≤ g.rules[r].right[i] := by omega
      rw [hpe] at hpk
      clear hgp
      cases hq0 : p[k] with
      | zero =>
        rw [hq0] at i6 i7
        have hz0 : ((p[k] : Nat) : Int) = 0 := by omega
        simp only [thM, hs, if_false] at i6 i7
        have e1 : pr.map iD ++ [iD g.rules[r].right[i]] = (pr ++ [g.rules[r].right[i]]).map iD := by simp
        have e : (pl ++ [holeF hl]).map (fragD false) = pl.map (fragD false) ++ [.agg [iD 2, iD hl, .sl false 3 []]] := by simp [fragD, fragDs]
        repeat (first | refine wk ?_ | refine s_field (hr := ?_))
        --@
        rw [e1]
        exact t_next (i + 1, k + 1, hl + 1, pr ++ [g.rules[r].right[i]], pl ++ [holeF hl]) (a := ⟨hil, esl.symm, by dsimp only; omega, by simp; omega, by simp; omega, by simpa using i6, by simpa using i7⟩) (b := by dsimp only; omega)
      | succ a =>
        rw [hq0] at i6 i7
        simp only [thM, hs, if_false] at i6 i7
        rw [hsn', hgd] at i7
        have hal : a < nl[ks].length := by omega
        have hge : nl[ks].getD a (.mk 0 []) = nl[ks][a] := by rw [List.getD_eq_getElem?_getD, List.getElem?_eq_getElem hal]; rfl
        rw [hge] at i7
        have hx := (hok.2.2 _ (List.getElem_mem hks) _ (List.getElem_mem hal)).1
        have haf := asFrag_sim (t := false) nl[ks][a] (by omega)
        have ea : ((p[k] : Nat) : Int) - 1 = (a : Int) := by omega
        have e2 : pl.map (fragD false) ++ [fragA false (asF nl[ks][a])] = (pl ++ [asF nl[ks][a]]).map (fragD false) := by simp [fragA_eq]
        have hnz : ¬ ((p[k] : Nat) : Int) = 0 := by omega
        have htl := hok.2.1 _ (List.getElem_mem hks)
        have hpb2 : ((p[k] : Nat) : Int) ≤ 1000 := by omega
        repeat (first | refine wk ?_ | refine s_field (hr := ?_))
        --@
        rw [ea]
        repeat (first | refine wk ?_ | refine s_field (hr := ?_))
        --@
        refine s_call [] (hA := haf) (hr := ?_)
        repeat (first | refine wk ?_ | refine s_field (hr := ?_))
        --@
        rw [e2]
        exact t_next (i + 1, k + 1, hl, pr, pl ++ [asF nl[ks][a]]) (a := ⟨hil, esl.symm, by dsimp only; omega, by dsimp only; omega, by simp; omega, by simpa using i6, by simpa using i7⟩) (b := by dsimp only; omega)
    obtain rfl : i = g.rules[r].right.length := by omega
    rw [show g.rules[r].right.drop g.rules[r].right.length = [] from List.drop_of_length_le (Nat.le_refl _)] at i6 i7
    simp only [thM, List.append_nil] at i6 i7
    subst i6 i7
    rw [thL] at q4
    (try dsimp only at q4)
    rw [hM] at q4
    (try dsimp only at q4)
    have hMf := hfs p
    rw [hM] at hMf
    (try dsimp only at hMf)
    have hcp := thM_cp nl g.rules[r].right p 0
    rw [hM] at hcp
    (try dsimp only at hcp)
    have hSr := q3.rules
    have hSf := q3.frags
    have hfr : fragsD false [Frag.mk 1 r pl] = .sl false 3 [.agg [iD 1, iD r, fragsD false pl]] := by simp [fragD, fragDs_map]
    have hcpp := countedParts_sim (t := false) (l := [.mk 1 r pl]) (by simp only [fszs, fsz]; omega)
    rw [hfr, show cpL [Frag.mk 1 r pl] = fszs pl + 1 by simp [cpL, cpF, hcp]; omega] at hcpp
    by_cases h0 : pr.length = 0
    · have hput : S0.put g.rules[r].left r pr pl = .ok S0 := by unfold TS.put; rw [if_pos h0]
      rw [hput] at q4
      (try dsimp only at q4)
      clear hput hcpp hfr hcp hMf
      repeat (first | refine wk ?_ | refine s_field (hr := ?_))
      --@
      have epd : pD p = pD (backP p (kids g.rules[r].right).length) := by rw [← hpl, backP_all]
      rw [epd]
      clear epd
      rcases last_max (optsN nl g.rules[r].right) p (by omega) hpb with hall | ⟨kb, hkb, hb1, hb2⟩
      · have hn := nxt_none _ p (by omega) hall
        obtain rfl := runs_end q1 hn
        simp only [thL] at q4
        refine t_loop (X := Nat) (fun kk => kk ≤ (kids g.rules[r].right).length) (fun kk => [(16, I ((kk : Int) - 1)), (13, .own 82 (kids g.rules[r].right).length), (12, .own 903 (kids g.rules[r].right).length), (11, I r), (10, .ptr 10 0), (5, .own 900 nl.length), (1, .ptr 1 0), (2, .ptr 2 0), (3, .ptr 3 0)]) (fun kk => [(82, .row 3 1 (pD (backP p kk))), (903, .row 3 1 ((kids g.rules[r].right).map iD)), (1, gramBox t g), (2, bxSt zSt), (3, bxFt (I 0) (I 0)), (900, .row 29 1 (nl.map (treesD false))), (10, bxSt [.d (iD g.vars), .d (iD g.terms), .d (iD sn), .own 901 (S0.rules.map (ruleD false)).length, .own 902 (S0.frags.map (fragsD false)).length, .d (treesD false nl[sn])]), (901, .row 80 2 (S0.rules.map (ruleD false))), (902, .row 111 1 (S0.frags.map (fragsD false)))]) (fun kk => kk) (kids g.rules[r].right).length (by omega) ?_
        intro kk hkk2
        by_cases hk0 : kk = 0
        · subst hk0
          have hng : ((0 : Nat) : Int) - 1 < 0 := by omega
          have hng2 : ¬ 0 ≤ ((0 : Nat) : Int) - 1 := by omega
          (repeat (first | refine wk ?_ | refine s_field (hr := ?_)))
          (repeat (first | refine wkz ?_ | refine s_field (hr := ?_)))
          repeat (first | refine wk ?_ | refine s_field (hr := ?_))
          --@
          exact t_next (r + 1, S0) (a := ⟨hr, q3, q4⟩) (b := by dsimp only; omega)
        obtain ⟨c, rfl⟩ : ∃ c, kk = c + 1 := ⟨kk - 1, by omega⟩
        obtain ⟨ks, hks, hk1, hk2, hk3⟩ := hkk c (by omega)
        have hc := hall c hk2
        have hbl : c < (backP p (c + 1)).length := by rw [backP_len p (by omega)]; omega
        have hbe : (backP p (c + 1))[c] = p.getD c 0 := by
          have := backP_get p (k := c) (by omega)
          rw [List.getD_eq_getElem?_getD, List.getElem?_eq_getElem hbl] at this
          simpa using this
        rw [hk3] at hc
        have hbi : (((backP p (c + 1))[c] : Nat) : Int) = ((nl[ks].length : Nat) : Int) := by omega
        have hpdl : (pD (backP p (c + 1))).length = (kids g.rules[r].right).length := by rw [pD_len, backP_len p (by omega)]; exact hpl
        have eS : (pD (backP p (c + 1))).set c (D.raw (Value.int IntKind.i64 0)) = pD (backP p c) := by
          rw [← show (backP p (c + 1)).set c 0 = backP p c from backP_back p (by omega), ← pD_set]; rfl
        rw [show ((c + 1 : Nat) : Int) - 1 = (c : Int) by omega]
        repeat (first | refine wk ?_ | refine s_field (hr := ?_))
        rw [hk1]
        repeat (first | refine wk ?_ | refine s_field (hr := ?_))
        --@
        rw [eS]
        exact t_next c
      have hn := nxt_some _ p kb (by omega) hkb hb1 hb2
      obtain ⟨rest', rfl, hr2⟩ := runs_next q1 hn
      refine t_loop (X := Nat) (fun kk => kb + 1 ≤ kk ∧ kk ≤ (kids g.rules[r].right).length) (fun kk => [(16, I ((kk : Int) - 1)), (13, .own 82 (kids g.rules[r].right).length), (12, .own 903 (kids g.rules[r].right).length), (11, I r), (10, .ptr 10 0), (5, .own 900 nl.length), (1, .ptr 1 0), (2, .ptr 2 0), (3, .ptr 3 0)]) (fun kk => [(82, .row 3 1 (pD (backP p kk))), (903, .row 3 1 ((kids g.rules[r].right).map iD)), (1, gramBox t g), (2, bxSt zSt), (3, bxFt (I 0) (I 0)), (900, .row 29 1 (nl.map (treesD false))), (10, bxSt [.d (iD g.vars), .d (iD g.terms), .d (iD sn), .own 901 (S0.rules.map (ruleD false)).length, .own 902 (S0.frags.map (fragsD false)).length, .d (treesD false nl[sn])]), (901, .row 80 2 (S0.rules.map (ruleD false))), (902, .row 111 1 (S0.frags.map (fragsD false)))]) (fun kk => kk) (kids g.rules[r].right).length (by omega) ?_
      intro kk hkk2
      obtain ⟨c, rfl⟩ : ∃ c, kk = c + 1 := ⟨kk - 1, by omega⟩
      by_cases hk0 : kb < c
      · obtain ⟨ks, hks, hk1, hk2, hk3⟩ := hkk c (by omega)
        have hc := hb2 c hk0 hk2
        have hbl : c < (backP p (c + 1)).length := by rw [backP_len p (by omega)]; omega
        have hbe : (backP p (c + 1))[c] = p.getD c 0 := by
          have := backP_get p (k := c) (by omega)
          rw [List.getD_eq_getElem?_getD, List.getElem?_eq_getElem hbl] at this
          simpa using this
        rw [hk3] at hc
        have hbi : (((backP p (c + 1))[c] : Nat) : Int) = ((nl[ks].length : Nat) : Int) := by omega
        have hpdl : (pD (backP p (c + 1))).length = (kids g.rules[r].right).length := by rw [pD_len, backP_len p (by omega)]; exact hpl
        have eS : (pD (backP p (c + 1))).set c (D.raw (Value.int IntKind.i64 0)) = pD (backP p c) := by
          rw [← show (backP p (c + 1)).set c 0 = backP p c from backP_back p (by omega), ← pD_set]; rfl
        rw [show ((c + 1 : Nat) : Int) - 1 = (c : Int) by omega]
        repeat (first | refine wk ?_ | refine s_field (hr := ?_))
        rw [hk1]
        repeat (first | refine wk ?_ | refine s_field (hr := ?_))
        --@
        rw [eS]
        exact t_next c
      obtain rfl : c = kb := by omega
      obtain ⟨ks, hks, hk1, hk2, hk3⟩ := hkk c (by omega)
      have hbl : c < (backP p (c + 1)).length := by rw [backP_len p (by omega)]; omega
      have hbe : (backP p (c + 1))[c] = p.getD c 0 := by
        have := backP_get p (k := c) (by omega)
        rw [List.getD_eq_getElem?_getD, List.getElem?_eq_getElem hbl] at this
        simpa using this
      rw [hk3] at hb1
      have htl := hok.2.1 _ (List.getElem_mem hks)
      have hbi : ¬ (((backP p (c + 1))[c] : Nat) : Int) = ((nl[ks].length : Nat) : Int) := by omega
      have hbi2 : (((backP p (c + 1))[c] : Nat) : Int) ≤ 1000 := by omega
      have hpdl : (pD (backP p (c + 1))).length = (kids g.rules[r].right).length := by rw [pD_len, backP_len p (by omega)]; exact hpl
      have eS : (pD (backP p (c + 1))).set c (D.raw (Value.int IntKind.i64 ((((backP p (c + 1))[c] : Nat) : Int) + 1))) = pD (p.take c ++ (p.getD c 0 + 1) :: List.replicate ((optsN nl g.rules[r].right).length - c - 1) 0) := by
        rw [hko, ← hpl, ← backP_set p (by omega), ← pD_set, hbe]; rfl
      have hng : ¬ (c : Int) < 0 := by omega
      rw [show ((c + 1 : Nat) : Int) - 1 = (c : Int) by omega]
      repeat (first | refine wk ?_ | refine s_field (hr := ?_))
      rw [hk1]
      repeat (first | refine wk ?_ | refine s_field (hr := ?_))
      --@
      rw [eS]
      exact t_next (_, rest', S0) (a := ⟨hr2, fun q hq => q2 q (List.mem_cons_of_mem _ hq), q3, q4⟩) (b := by simp)
    by_cases hp : S0.rules.length = 160 ∨ 60 < fszs pl + 1
    · have hput : S0.put g.rules[r].left r pr pl = .error S0 := by unfold TS.put; rw [if_neg h0, if_pos hp]
      rw [hput] at q4
      (try dsimp only at q4)
      subst q4
      clear hput
      by_cases h1 : S0.rules.length = 160
      · (repeat (first | refine wk ?_ | refine s_field (hr := ?_)))
        (repeat (first | refine wkz ?_ | refine s_field (hr := ?_)))
        repeat (first | refine wk ?_ | refine s_field (hr := ?_))
        --@
        refine s_call [] (hA := f_sim) (hr := ?_)
        repeat (first | refine wk ?_ | refine s_field (hr := ?_))
        --@
        exact fin2
      · have h2 : 60 < fszs pl + 1 := by omega
        repeat (first | refine wk ?_ | refine s_field (hr := ?_))
        --@
        refine s_call [] (hA := hcpp) (hr := ?_)
        repeat (first | refine wk ?_ | refine s_field (hr := ?_))
        --@
        refine s_call [] (hA := f_sim) (hr := ?_)
        repeat (first | refine wk ?_ | refine s_field (hr := ?_))
        --@
        exact fin2
    have h1 : ¬ S0.rules.length = 160 := fun e => hp (.inl e)
    have h2 : ¬ 60 < fszs pl + 1 := fun e => hp (.inr e)
    obtain ⟨S1, hS1⟩ : ∃ S1 : TS, S1 = ⟨S0.rules ++ [⟨g.rules[r].left, pr⟩], S0.frags ++ [[.mk 1 r pl]]⟩ := ⟨_, rfl⟩
    have hput : S0.put g.rules[r].left r pr pl = .ok S1 := by unfold TS.put; rw [if_neg h0, if_neg hp, hS1]
    have hg1 := TS.put_good hput q3
    rw [hput] at q4
    (try dsimp only at q4)
    have e1 : S1.rules.map (ruleD false) = S0.rules.map (ruleD false) ++ [D.agg [iD g.rules[r].left, D.sl false 1 (List.map iD pr)]] := by rw [hS1]; simp [ruleD, ints]
    have e2 : S1.frags.map (fragsD false) = S0.frags.map (fragsD false) ++ [D.sl false 3 [D.agg [D.raw (Value.int IntKind.i64 1), D.raw (Value.int IntKind.i64 ↑r), D.sl false 3 (List.map (fragD false) pl)]]] := by rw [hS1]; simp only [List.map_append, List.map_cons, List.map_nil]; rw [hfr]; rfl
    clear hput hS1 hfr hcp hMf
    repeat (first | refine wk ?_ | refine s_field (hr := ?_))
    --@
    refine s_call [] (hA := hcpp) (hr := ?_)
    repeat (first | refine wk ?_ | refine s_field (hr := ?_))
    --@
    rw [← e1, ← e2]
    clear e1 e2
    have epd : pD p = pD (backP p (kids g.rules[r].right).length) := by rw [← hpl, backP_all]
    rw [epd]
    clear epd
    rcases last_max (optsN nl g.rules[r].right) p (by omega) hpb with hall | ⟨kb, hkb, hb1, hb2⟩
    · have hn := nxt_none _ p (by omega) hall
      obtain rfl := runs_end q1 hn
      simp only [thL] at q4
      refine t_loop (X := Nat) (fun kk => kk ≤ (kids g.rules[r].right).length) (fun kk => [(16, I ((kk : Int) - 1)), (13, .own 82 (kids g.rules[r].right).length), (12, .own 903 (kids g.rules[r].right).length), (11, I r), (10, .ptr 10 0), (5, .own 900 nl.length), (1, .ptr 1 0), (2, .ptr 2 0), (3, .ptr 3 0)]) (fun kk => [(82, .row 3 1 (pD (backP p kk))), (903, .row 3 1 ((kids g.rules[r].right).map iD)), (1, gramBox t g), (2, bxSt zSt), (3, bxFt (I 0) (I 0)), (900, .row 29 1 (nl.map (treesD false))), (10, bxSt [.d (iD g.vars), .d (iD g.terms), .d (iD sn), .own 901 (S1.rules.map (ruleD false)).length, .own 902 (S1.frags.map (fragsD false)).length, .d (treesD false nl[sn])]), (901, .row 80 2 (S1.rules.map (ruleD false))), (902, .row 111 1 (S1.frags.map (fragsD false)))]) (fun kk => kk) (kids g.rules[r].right).length (by omega) ?_
      intro kk hkk2
      by_cases hk0 : kk = 0
      · subst hk0
        have hng : ((0 : Nat) : Int) - 1 < 0 := by omega
        have hng2 : ¬ 0 ≤ ((0 : Nat) : Int) - 1 := by omega
        (repeat (first | refine wk ?_ | refine s_field (hr := ?_)))
        (repeat (first | refine wkz ?_ | refine s_field (hr := ?_)))
        repeat (first | refine wk ?_ | refine s_field (hr := ?_))
        --@
        exact t_next (r + 1, S1) (a := ⟨hr, hg1, q4⟩) (b := by dsimp only; omega)
      obtain ⟨c, rfl⟩ : ∃ c, kk = c + 1 := ⟨kk - 1, by omega⟩
      obtain ⟨ks, hks, hk1, hk2, hk3⟩ := hkk c (by omega)
      have hc := hall c hk2
      have hbl : c < (backP p (c + 1)).length := by rw [backP_len p (by omega)]; omega
      have hbe : (backP p (c + 1))[c] = p.getD c 0 := by
        have := backP_get p (k := c) (by omega)
        rw [List.getD_eq_getElem?_getD, List.getElem?_eq_getElem hbl] at this
        simpa using this
      rw [hk3] at hc
      have hbi : (((backP p (c + 1))[c] : Nat) : Int) = ((nl[ks].length : Nat) : Int) := by omega
      have hpdl : (pD (backP p (c + 1))).length = (kids g.rules[r].right).length := by rw [pD_len, backP_len p (by omega)]; exact hpl
      have eS : (pD (backP p (c + 1))).set c (D.raw (Value.int IntKind.i64 0)) = pD (backP p c) := by
        rw [← show (backP p (c + 1)).set c 0 = backP p c from backP_back p (by omega), ← pD_set]; rfl
      rw [show ((c + 1 : Nat) : Int) - 1 = (c : Int) by omega]
      repeat (first | refine wk ?_ | refine s_field (hr := ?_))
      rw [hk1]
      repeat (first | refine wk ?_ | refine s_field (hr := ?_))
      --@
      rw [eS]
      exact t_next c
    have hn := nxt_some _ p kb (by omega) hkb hb1 hb2
    obtain ⟨rest', rfl, hr2⟩ := runs_next q1 hn
    refine t_loop (X := Nat) (fun kk => kb + 1 ≤ kk ∧ kk ≤ (kids g.rules[r].right).length) (fun kk => [(16, I ((kk : Int) - 1)), (13, .own 82 (kids g.rules[r].right).length), (12, .own 903 (kids g.rules[r].right).length), (11, I r), (10, .ptr 10 0), (5, .own 900 nl.length), (1, .ptr 1 0), (2, .ptr 2 0), (3, .ptr 3 0)]) (fun kk => [(82, .row 3 1 (pD (backP p kk))), (903, .row 3 1 ((kids g.rules[r].right).map iD)), (1, gramBox t g), (2, bxSt zSt), (3, bxFt (I 0) (I 0)), (900, .row 29 1 (nl.map (treesD false))), (10, bxSt [.d (iD g.vars), .d (iD g.terms), .d (iD sn), .own 901 (S1.rules.map (ruleD false)).length, .own 902 (S1.frags.map (fragsD false)).length, .d (treesD false nl[sn])]), (901, .row 80 2 (S1.rules.map (ruleD false))), (902, .row 111 1 (S1.frags.map (fragsD false)))]) (fun kk => kk) (kids g.rules[r].right).length (by omega) ?_
    intro kk hkk2
    obtain ⟨c, rfl⟩ : ∃ c, kk = c + 1 := ⟨kk - 1, by omega⟩
    by_cases hk0 : kb < c
    · obtain ⟨ks, hks, hk1, hk2, hk3⟩ := hkk c (by omega)
      have hc := hb2 c hk0 hk2
      have hbl : c < (backP p (c + 1)).length := by rw [backP_len p (by omega)]; omega
      have hbe : (backP p (c + 1))[c] = p.getD c 0 := by
        have := backP_get p (k := c) (by omega)
        rw [List.getD_eq_getElem?_getD, List.getElem?_eq_getElem hbl] at this
        simpa using this
      rw [hk3] at hc
      have hbi : (((backP p (c + 1))[c] : Nat) : Int) = ((nl[ks].length : Nat) : Int) := by omega
      have hpdl : (pD (backP p (c + 1))).length = (kids g.rules[r].right).length := by rw [pD_len, backP_len p (by omega)]; exact hpl
      have eS : (pD (backP p (c + 1))).set c (D.raw (Value.int IntKind.i64 0)) = pD (backP p c) := by
        rw [← show (backP p (c + 1)).set c 0 = backP p c from backP_back p (by omega), ← pD_set]; rfl
      rw [show ((c + 1 : Nat) : Int) - 1 = (c : Int) by omega]
      repeat (first | refine wk ?_ | refine s_field (hr := ?_))
      rw [hk1]
      repeat (first | refine wk ?_ | refine s_field (hr := ?_))
      --@
      rw [eS]
      exact t_next c
    obtain rfl : c = kb := by omega
    obtain ⟨ks, hks, hk1, hk2, hk3⟩ := hkk c (by omega)
    have hbl : c < (backP p (c + 1)).length := by rw [backP_len p (by omega)]; omega
    have hbe : (backP p (c + 1))[c] = p.getD c 0 := by
      have := backP_get p (k := c) (by omega)
      rw [List.getD_eq_getElem?_getD, List.getElem?_eq_getElem hbl] at this
      simpa using this
    rw [hk3] at hb1
    have htl := hok.2.1 _ (List.getElem_mem hks)
    have hbi : ¬ (((backP p (c + 1))[c] : Nat) : Int) = ((nl[ks].length : Nat) : Int) := by omega
    have hbi2 : (((backP p (c + 1))[c] : Nat) : Int) ≤ 1000 := by omega
    have hpdl : (pD (backP p (c + 1))).length = (kids g.rules[r].right).length := by rw [pD_len, backP_len p (by omega)]; exact hpl
    have eS : (pD (backP p (c + 1))).set c (D.raw (Value.int IntKind.i64 ((((backP p (c + 1))[c] : Nat) : Int) + 1))) = pD (p.take c ++ (p.getD c 0 + 1) :: List.replicate ((optsN nl g.rules[r].right).length - c - 1) 0) := by
      rw [hko, ← hpl, ← backP_set p (by omega), ← pD_set, hbe]; rfl
    have hng : ¬ (c : Int) < 0 := by omega
    rw [show ((c + 1 : Nat) : Int) - 1 = (c : Int) by omega]
    repeat (first | refine wk ?_ | refine s_field (hr := ?_))
    rw [hk1]
    repeat (first | refine wk ?_ | refine s_field (hr := ?_))
    --@
    rw [eS]
    exact t_next (_, rest', S1) (a := ⟨hr2, fun q hq => q2 q (List.mem_cons_of_mem _ hq), hg1, q4⟩) (b := by simp)
end Go.Proofs.Ytflgmalhpglklaa
