/-
  Forest, the program: open, at. Forest, the program: At, List. Forest, the program: List.
-/
import Derived.Test.YticnpbopelgmiaaFoA
import Derived.Test.YticnpbopelgmiaaSimPf
set_option linter.unusedVariables false
set_option linter.unusedSimpArgs false
set_option linter.unusedSectionVars false
namespace Go.Proofs.Yticnpbopelgmiaa
open Go.RowKit
set_option maxRecDepth 100000
-- SimX

section
variable {t : Bool} {g : Gram} {w : List Int}
theorem opF_ok (h : (opF g w).code = 0) : ChOk g w ∧ opF g w = ⟨0, 0⟩ ∧ cntF g w < manyC := by
  unfold opF at h ⊢
  by_cases hc : (chF g w).code = 0
  · rw [if_pos hc] at h ⊢
    by_cases hm : cntF g w = manyC
    · rw [if_pos hm] at h; cases h
    · have := wcns_le g w manyC g.start.toNat 0 w.length
      exact ⟨(chF_ok hc).1, by rw [if_neg hm], by unfold cntF at hm ⊢; omega⟩
  · rw [if_neg hc] at h; exact absurd h hc
theorem fopen_some {u : Bool} (h : (opF g w).code = 0) : ACalls Try.prog 97 [.d (gramD t g), .d (ints u w)] [] (.tup [.ptr 25 0, .d (faultD ⟨0, 0⟩)]) (frH0 t g w 25 962 960 0) := by
  obtain ⟨hC, hz, hlt⟩ := opF_ok h
  obtain ⟨s1, s2⟩ := hC.small
  have hnew := new_some (t := t) (u := u) hC
  have hct := count_simC hC.ok hC.cyc s1 s2
  rw [count_is hC.ok] at hct
  have hne : ¬ ((cntF g w : Nat) : Int) = 4611686018427387904 := by
    intro e
    have : cntF g w = manyC := by unfold manyC; omega
    omega
  generalize cntF g w = c at *
  simp only [frH0]
  generalize wcns g w manyC = N at *
  generalize nulB g = NB at *
  refine ACalls.intro (n := 27) Try.func97 rfl rfl (by simp) (by rfl) ?_
  simp only [argFr]
  repeat (first | refine wk ?_ | refine s_field (hr := ?_))
  refine s_call [(62, 962), (60, 960)] (hA := hnew) (hr := ?_)
  repeat (first | refine wk ?_ | refine s_field (hr := ?_))
  --@
  refine s_callU [(1000, 962), (1001, 960)] (hA := hct) (hr := ?_)
  repeat (first | refine wk ?_ | refine s_field (hr := ?_))
  --@
  exact fin

/-! ### The deferred call -/
abbrev bxT (cs : List V) : Ob := .box 49 cs
abbrev bxE (cs : List V) : Ob := .box 33 cs
theorem fclosN {a b c e : D} {L : Nat} : ADefer Try.prog 147 (ptrs [1006, 1007]) ([(1006, bxT [.d a, .d b]), (1007, bxE [.d c, .d e]), (1000, frBx t g 1001 L), (1001, cxBx g w (nulB g) 1002), (1002, .mp (goodM (wcns g w manyC)))]) .returning .returning ([(1006, bxT [.d a, .d b]), (1007, bxE [.d c, .d e]), (1000, frBx t g 1001 L), (1001, cxBx g w (nulB g) 1002), (1002, .mp (goodM (wcns g w manyC)))]) := by
  refine ADefer.intro (v := .nilIface) (n := 18) (d1 := 5) (d2 := 2) Try.func147 rfl rfl (by simp [ptrs]) (fun ρ w => rfl) (fun ρ w => rfl) rfl rfl .nil rfl rfl ?_
  simp only [ptrs, List.map_cons, List.map_nil, argFr]
  repeat (first | refine wk ?_ | refine s_field (hr := ?_))
  refine d_neNil (u := .nilIface) (b := true) rfl gOk_none rfl rfl Try.underlying20 ?_
  repeat (first | refine wk ?_ | refine s_field (hr := ?_))
  exact fin
theorem fclosP {L : Nat} : ADefer Try.prog 147 (ptrs [1006, 1007]) ([(1006, bxT [I 0, .d (.raw (.slice none 0 0))]), (1007, bxE [I 0, I 0]), (1000, frBx t g 1001 L), (1001, cxBx g w (nulB g) 1002), (1002, .mp (goodM (wcns g w manyC)))]) (.panicking [{ v := goneF, recovered := false }]) (.panicking [{ v := goneF, recovered := true }]) ([(1006, bxT [I 0, .d (.raw (.slice none 0 0))]), (1007, bxE [I 6, I (-1)]), (1000, frBx t g 1001 L), (1001, cxBx g w (nulB g) 1002), (1002, .mp (goodM (wcns g w manyC)))]) := by
  refine ADefer.intro (v := goneF) (n := 18) (d1 := 5) (d2 := 2) Try.func147 rfl rfl (by simp [ptrs]) (fun ρ w => rfl) (fun ρ w => rfl) rfl rfl (.pan _) rfl rfl ?_
  simp only [ptrs, List.map_cons, List.map_nil, argFr]
  repeat (first | refine wk ?_ | refine s_field (hr := ?_))
  refine d_neNil (u := goneF) (b := false) rfl gOk_none rfl rfl Try.underlying20 ?_
  repeat (first | refine wk ?_ | refine s_field (hr := ?_))
  refine d_assert (us := []) rfl gOk_none rfl Try.underlying184 rfl rfl rfl ?_
  --@
  repeat (first | refine wk ?_ | refine s_field (hr := ?_))
  --@
  exact fin
/-- What at says, and how many nodes are left then. -/
def atF (g : Gram) (w : List Int) (k : Nat) : Tree × Fault × Nat := match treeF g (wcns g w manyC) w 400 g.start.toNat 0 w.length k 400 with
  | some (x, L) => (x, ⟨0, 0⟩, L)
  | none => (.mk 0 [], ⟨6, -1⟩, 0)
set_option maxHeartbeats 4000000 in
theorem fat_sim {u : Bool} (hC : ChOk g w) {k L : Nat} (hk : k < cntF g w) (hM : cntF g w < manyC) : ACalls Try.prog 98 [.ptr 1000 0, .d (ints u w), I (k : Nat)] (frH t g w L) (.tup [.d (treeA false (atF g w k).1), .d (faultD (atF g w k).2.1)]) (frH t g w (atF g w k).2.2) := by
  have hst := hC.ok.start
  have hst0 := hC.ok.start0
  have hlen := hC.len
  have ht := ftree_gen (t := t) hC 400 (by omega) g.start.toNat 0 w.length k 400 (by omega) (Nat.zero_le _) (Nat.le_refl _) (Nat.le_refl _) hk hM
  unfold treeR at ht
  rw [show ((g.start.toNat : Nat) : Int) = g.start by omega] at ht
  unfold atF
  refine ACalls.introH (n := 23) Try.func98 rfl rfl (by simp) (by rfl) rfl ?_
  rintro ⟨n, w0, S, E0, h0, o, df⟩ hn hd hh
  dsimp only at hn hd hh
  subst hn
  subst hd
  subst hh
  simp only [argFr]
  cases hres : treeF g (wcns g w manyC) w 400 g.start.toNat 0 w.length k 400 with
  | none =>
    rw [hres] at ht
    replace ht : APan Try.prog 148 [.ptr 1000 0, I g.start, I 0, I (w.length : Nat), I (k : Nat)] (frH t g w 400) goneF (frH t g w 0) := ht
    dsimp only
    refine awTH_seq ?_
    repeat (first | refine wk ?_ | refine s_field (hr := ?_))
    refine awTH_defer (d1 := 8) (fd := 147) (xs := [.tmp 6, .tmp 7]) [(1006, 6), (1007, 7)] ([(1006, bxT [I 0, .d (.raw (.slice none 0 0))]), (1007, bxE [I 0, I 0]), (1000, frBx t g 1001 L), (1001, cxBx g w (nulB g) 1002), (1002, .mp (goodM (wcns g w manyC)))]) [(6, .ptr 1006 0), (7, .ptr 1007 0), (0, .ptr 1000 0), (1, .d (ints u w)), (2, I k)] [1006, 1007] (.panicking [{ v := goneF, recovered := false }]) (.panicking [{ v := goneF, recovered := true }]) [(6, 1006), (7, 1007)] ([(1006, bxT [I 0, .d (.raw (.slice none 0 0))]), (1007, bxE [I 0, I 0]), (1000, frBx t g 1001 0), (1001, cxBx g w (nulB g) 1002), (1002, .mp (goodM (wcns g w manyC)))]) ([(1006, bxT [I 0, .d (.raw (.slice none 0 0))]), (1007, bxE [I 6, I (-1)]), (1000, frBx t g 1001 0), (1001, cxBx g w (nulB g) 1002), (1002, .mp (goodM (wcns g w manyC)))])
      rfl rfl rfl ⟨rfl, rfl, trivial⟩ rfl rfl rfl (fun ρ cs w h => by simp [execOp, resolve, Deferred.ofValue, h]) ⟨_, Try.func147, rfl, rfl⟩ ⟨rfl, rfl, rfl, rfl, rfl, trivial⟩ rfl rfl rfl ⟨⟨rfl, rfl⟩, ⟨rfl, rfl⟩, ⟨rfl, rfl⟩, ⟨rfl, rfl⟩, ⟨rfl, rfl⟩, trivial⟩ rfl rfl rfl rfl rfl rfl rfl (by intro h; cases h) fclosP
      (vs := [.agg [I 0, .d (.raw (.slice none 0 0))], .agg [I 6, I (-1)]]) ⟨.aggT TY rfl rfl rfl rfl rfl, .aggT TY rfl rfl rfl rfl rfl, trivial⟩ (Co.tup ⟨Co.agg ⟨Co.refl _, Co.nil false 2, trivial⟩, Co.agg (Cos.refl _), trivial⟩) rfl ⟨HElt.of rfl, HElt.of rfl, HElt.of rfl, trivial⟩ rfl rfl rfl ?_
    repeat (first | refine wk ?_ | refine s_field (hr := ?_))
    --@
    --@
    refine s_panCall [(1000, 1000), (1001, 1001), (1002, 1002)] [(6, .ptr 1006 0), (7, .ptr 1007 0)] [(1006, some (bxT [I 0, .d (.raw (.slice none 0 0))])), (1007, some (bxE [I 0, I 0]))] (hpn := ?_) (hA := ht)
    exact (fun fr' h' h1 h2 => ⟨rfl, ⟨VLe.of (h1 _ List.mem_cons_self), VLe.of (h1 _ (List.mem_cons_of_mem _ List.mem_cons_self)), trivial⟩, ⟨HElt.of (h2 _ List.mem_cons_self), HElt.of (h2 _ (List.mem_cons_of_mem _ List.mem_cons_self)), HElt.of rfl, HElt.of rfl, HElt.of rfl, trivial⟩⟩)
  | some y =>
    obtain ⟨x, L'⟩ := y
    rw [hres] at ht
    replace ht : ACalls Try.prog 148 [.ptr 1000 0, I g.start, I 0, I (w.length : Nat), I (k : Nat)] (frH t g w 400) (.d (treeA false x)) (frH t g w L') := ht
    dsimp only
    refine awTH_seq ?_
    repeat (first | refine wk ?_ | refine s_field (hr := ?_))
    --@
    refine awTH_defer (d1 := 8) (fd := 147) (xs := [.tmp 6, .tmp 7]) [(1006, 6), (1007, 7)] ([(1006, bxT [I 0, .d (.raw (.slice none 0 0))]), (1007, bxE [I 0, I 0]), (1000, frBx t g 1001 L), (1001, cxBx g w (nulB g) 1002), (1002, .mp (goodM (wcns g w manyC)))]) [(6, .ptr 1006 0), (7, .ptr 1007 0), (0, .ptr 1000 0), (1, .d (ints u w)), (2, I k)] [1006, 1007] .returning .returning [(6, 1006), (7, 1007)] ([(1006, bxT [.d (iD x.rule), .d (treesD false x.kids)]), (1007, bxE [I 0, I 0]), (1000, frBx t g 1001 L'), (1001, cxBx g w (nulB g) 1002), (1002, .mp (goodM (wcns g w manyC)))]) ([(1006, bxT [.d (iD x.rule), .d (treesD false x.kids)]), (1007, bxE [I 0, I 0]), (1000, frBx t g 1001 L'), (1001, cxBx g w (nulB g) 1002), (1002, .mp (goodM (wcns g w manyC)))])
      rfl rfl rfl ⟨rfl, rfl, trivial⟩ rfl rfl rfl (fun ρ cs w h => by simp [execOp, resolve, Deferred.ofValue, h]) ⟨_, Try.func147, rfl, rfl⟩ ⟨rfl, rfl, rfl, rfl, rfl, trivial⟩ rfl rfl rfl ⟨⟨rfl, rfl⟩, ⟨rfl, rfl⟩, ⟨rfl, rfl⟩, ⟨rfl, rfl⟩, ⟨rfl, rfl⟩, trivial⟩ rfl rfl rfl rfl rfl rfl rfl (by intro h; cases h) fclosN
      (vs := [.agg [.d (iD x.rule), .d (treesD false x.kids)], .agg [I 0, I 0]]) ⟨.aggT TY rfl rfl rfl rfl rfl, .aggT TY rfl rfl rfl rfl rfl, trivial⟩ (Co.tup ⟨Co.agg (Cos.refl _), Co.agg (Cos.refl _), trivial⟩) rfl ⟨HElt.of rfl, HElt.of rfl, HElt.of rfl, trivial⟩ rfl rfl rfl ?_
    repeat (first | refine wk ?_ | refine s_field (hr := ?_))
    --@
    refine s_call [(1000, 1000), (1001, 1001), (1002, 1002)] (hA := ht) (hr := ?_)
    repeat (first | refine wk ?_ | refine s_field (hr := ?_))
    --@
    exact Or.inr ⟨rfl, ⟨VLe.refl _, VLe.refl _, trivial⟩, ⟨HElt.of rfl, HElt.of rfl, HElt.of rfl, HElt.of rfl, HElt.of rfl, trivial⟩⟩
end
end Go.Proofs.Yticnpbopelgmiaa
namespace Go.Proofs.Yticnpbopelgmiaa
open Go.RowKit
set_option maxRecDepth 100000
-- SimX


section
variable {t : Bool} {g : Gram} {w : List Int}
end
end Go.Proofs.Yticnpbopelgmiaa
namespace Go.Proofs.Yticnpbopelgmiaa
open Go.RowKit
set_option maxRecDepth 100000
-- SimX

section
variable {t : Bool} {g : Gram} {w : List Int}
/-- The trees from the k-th on, so many. -/
def listF (g : Gram) (w : List Int) : Nat → Nat → List Tree → List Tree × Fault
  | 0, _, acc => (acc, ⟨0, 0⟩)
  | n + 1, k, acc => if (atF g w k).2.1.code = 0 then listF g w n (k + 1) (acc ++ [(atF g w k).1]) else ([], (atF g w k).2.1)
def fListF (g : Gram) (w : List Int) : List Tree × Fault := if (opF g w).code = 0 then (if 200 < cntF g w then ([], ⟨6, -1⟩) else listF g w (cntF g w) 0 []) else ([], opF g w)
set_option maxHeartbeats 4000000 in
theorem fList_many {u : Bool} (hc : (opF g w).code = 0) (hm : 200 < cntF g w) : ACalls Try.prog 38 [.d (gramD t g), .d (ints u w)] [] (.tup [.d (treesD false (fListF g w).1), .d (faultD (fListF g w).2)]) [] := by
  have ho := fopen_some (t := t) (u := u) hc
  obtain ⟨hC, hz, hlt⟩ := opF_ok hc
  obtain ⟨s1, s2⟩ := hC.small
  have hct := count_simC hC.ok hC.cyc s1 s2
  rw [count_is hC.ok] at hct
  have hat := fun (L kn : Nat) (h : kn < cntF g w) => fat_sim (t := t) (u := u) (L := L) hC h hlt
  clear hlt
  rw [show fListF g w = ([], ⟨6, -1⟩) by unfold fListF; rw [if_pos hc, if_pos hm]]
  clear hat
  generalize cntF g w = c at *
  simp only [frH0] at ho
  generalize wcns g w manyC = N at *
  generalize nulB g = NB at *
  have hm' : (200 : Int) < (c : Int) := by omega
  refine ACalls.intro (n := 55) Try.func38 rfl rfl (by simp) (by rfl) ?_
  simp only [argFr]
  repeat (first | refine wk ?_ | refine s_field (hr := ?_))
  refine s_call [(25, 925), (962, 962), (960, 960)] (hA := ho) (hr := ?_)
  repeat (first | refine wk ?_ | refine s_field (hr := ?_))
  refine s_callU [(1000, 962), (1001, 960)] (hA := hct) (hr := ?_)
  repeat (first | refine wk ?_ | refine s_field (hr := ?_))
  --@
  exact fin
set_option maxHeartbeats 4000000 in
theorem fList_none {u : Bool} (hf : g.fit) (hw : w.length ≤ 100000000) (hc : ¬ (opF g w).code = 0) : ACalls Try.prog 38 [.d (gramD t g), .d (ints u w)] [] (.tup [.d (treesD false (fListF g w).1), .d (faultD (fListF g w).2)]) [] := by
  rw [show fListF g w = ([], opF g w) by unfold fListF; rw [if_neg hc]]
  have ho := fopen_none (t := t) (u := u) hf hw hc
  generalize opF g w = F at *
  obtain ⟨cc, ca⟩ := F
  dsimp only at hc
  refine ACalls.intro (n := 55) Try.func38 rfl rfl (by simp) (by rfl) ?_
  simp only [argFr]
  repeat (first | refine wk ?_ | refine s_field (hr := ?_))
  refine s_call [] (hA := ho) (hr := ?_)
  repeat (first | refine wk ?_ | refine s_field (hr := ?_))
  --@
  exact fin
set_option maxHeartbeats 4000000 in
theorem fList_run {u : Bool} (hc : (opF g w).code = 0) (hm : ¬ 200 < cntF g w) : ACalls Try.prog 38 [.d (gramD t g), .d (ints u w)] [] (.tup [.d (treesD false (fListF g w).1), .d (faultD (fListF g w).2)]) [] := by
  have ho := fopen_some (t := t) (u := u) hc
  obtain ⟨hC, hz, hlt⟩ := opF_ok hc
  obtain ⟨s1, s2⟩ := hC.small
  have hct := count_simC hC.ok hC.cyc s1 s2
  rw [count_is hC.ok] at hct
  have hat := fun (L kn : Nat) (h : kn < cntF g w) => fat_sim (t := t) (u := u) (L := L) hC h hlt
  clear hlt
  have hres : fListF g w = listF g w (cntF g w) 0 [] := by unfold fListF; rw [if_pos hc, if_neg hm]
  generalize hRes : fListF g w = RS at *
  obtain ⟨rl, rf⟩ := RS
  have hm' : ¬ (200 : Int) < (cntF g w : Int) := by omega
  have hrange : ∀ k, k < cntF g w → ∃ x f L', atF g w k = (x, f, L') := fun k _ => ⟨_, _, _, rfl⟩
  simp only [frH0, frH] at ho hat
  generalize hcc : cntF g w = c at *
  generalize wcns g w manyC = N at *
  generalize nulB g = NB at *
  refine ACalls.intro (n := 55) Try.func38 rfl rfl (by simp) (by rfl) ?_
  simp only [argFr]
  repeat (first | refine wk ?_ | refine s_field (hr := ?_))
  refine s_call [(25, 925), (962, 962), (960, 960)] (hA := ho) (hr := ?_)
  repeat (first | refine wk ?_ | refine s_field (hr := ?_))
  refine s_callU [(1000, 962), (1001, 960)] (hA := hct) (hr := ?_)
  repeat (first | refine wk ?_ | refine s_field (hr := ?_))
  refine s_callU [(1000, 962), (1001, 960)] (hA := hct) (hr := ?_)
  repeat (first | refine wk ?_ | refine s_field (hr := ?_))
  --@
  refine aw_nil 8 900 49 2 rfl rfl rfl ?_
  refine t_loop (X := Nat × List Tree × Nat) (fun y => y.1 ≤ c ∧ y.2.1.length = y.1 ∧ (rl, rf) = listF g w (c - y.1) y.1 y.2.1) (fun y => [(34, I y.1), (33, I c), (8, .own 900 y.2.1.length), (6, .ptr 925 0), (5, .ptr 5 0), (1, .d (ints u w))]) (fun y => [(900, .row 49 2 (y.2.1.map (treeD false))), (5, .box 33 [I 0, I 0]), (925, frBx t g 962 y.2.2), (962, cxBx g w NB 960), (960, .mp (goodM N))]) (fun y => c - y.1) (0, [], 0) ⟨Nat.zero_le _, rfl, by rw [Nat.sub_zero]; exact hres⟩ ?_
  rintro ⟨k, acc, L⟩ ⟨h1, h2, h3⟩
  dsimp only at h1 h2 h3 ⊢
  by_cases hlt : k < c
  · have ha := hat L k hlt
    obtain ⟨x, ⟨fc, fa⟩, L', e⟩ := hrange k hlt
    rw [show c - k = (c - (k + 1)) + 1 by omega, listF] at h3
    rw [e] at ha h3
    dsimp only at ha h3
    have ec : acc.map (treeD false) ++ [.agg [iD x.rule, treesD false x.kids]] = (acc ++ [x]).map (treeD false) := by rw [List.map_append, List.map_cons, List.map_nil, treeD_eq]
    by_cases hz0 : fc = 0
    · rw [if_pos hz0] at h3
      clear hat
      repeat (first | refine wk ?_ | refine s_field (hr := ?_))
      refine s_call [(1000, 925), (1001, 962), (1002, 960)] (hA := ha) (hr := ?_)
      repeat (first | refine wk ?_ | refine s_field (hr := ?_))
      --@
      rw [ec]
      exact t_next (k + 1, acc ++ [x], L') (a := ⟨by omega, by simp [h2], h3⟩) (b := by dsimp only; omega)
    · rw [if_neg hz0] at h3
      cases h3
      clear hat
      repeat (first | refine wk ?_ | refine s_field (hr := ?_))
      refine s_call [(1000, 925), (1001, 962), (1002, 960)] (hA := ha) (hr := ?_)
      repeat (first | refine wk ?_ | refine s_field (hr := ?_))
      --@
      exact fin
  · obtain rfl : k = c := by omega
    rw [Nat.sub_self, listF] at h3
    cases h3
    clear hat
    refine aw_froz 900 rfl ?_
    repeat (first | refine wk ?_ | refine s_field (hr := ?_))
    --@
    exact fin
theorem fList_sim {u : Bool} (hf : g.fit) (hw : w.length ≤ 100000000) : ACalls Try.prog 38 [.d (gramD t g), .d (ints u w)] [] (.tup [.d (treesD false (fListF g w).1), .d (faultD (fListF g w).2)]) [] := by
  by_cases hc : (opF g w).code = 0
  · by_cases hm : 200 < cntF g w
    · exact fList_many hc hm
    · exact fList_run hc hm
  · exact fList_none hf hw hc
end
end Go.Proofs.Yticnpbopelgmiaa
