/-
  Sim: (*turner).itself, fits.
-/
import Derived.Test.YticnpbopelgmiaaTurnB
set_option linter.unusedVariables false
set_option linter.unusedSimpArgs false
set_option linter.unusedSectionVars false
namespace Go.Proofs.Yticnpbopelgmiaa
open Go.RowKit
set_option maxRecDepth 100000
-- SimX

theorem ownW_snoc {v : Int} {l : List Work} {i : Nat} (h : i < l.length) : ownW v (l.take (i + 1)) = ownW v (l.take i) ++ (if hdI l[i].right = v then [gappedW l[i]] else []) := by
  rw [List.take_succ_eq_append_getElem h]
  unfold ownW
  rw [List.filter_append, List.map_append]
  by_cases e : hdI l[i].right = v
  · rw [if_pos e, List.filter_cons_of_pos (by simpa using e)]; rfl
  · rw [if_neg e, List.filter_cons_of_neg (by simpa using e)]; rfl
theorem otherW_snoc {v : Int} {l : List Work} {i : Nat} (h : i < l.length) : otherW v (l.take (i + 1)) = otherW v (l.take i) ++ (if hdI l[i].right = v then [] else [l[i]]) := by
  rw [List.take_succ_eq_append_getElem h]
  unfold otherW
  rw [List.filter_append]
  by_cases e : hdI l[i].right = v
  · rw [if_pos e, List.filter_cons_of_neg (by simpa using e)]; rfl
  · rw [if_neg e, List.filter_cons_of_pos (by simpa using e)]; rfl
theorem thens_snoc {u : Int} {S : List Work} {i : Nat} (h : i < S.length) : (S.take (i + 1)).flatMap (thenW u) = (S.take i).flatMap (thenW u) ++ thenW u S[i] := by
  rw [List.take_succ_eq_append_getElem h, List.flatMap_append]; simp
theorem thens_len (u : Int) : ∀ S : List Work, (S.flatMap (thenW u)).length = 2 * S.length
  | [] => rfl
  | x :: S => by rw [List.flatMap_cons, List.length_append, thens_len u S]; simp [thenW]; omega
def itL (all : List (List Work)) (l : List Work) (v : Nat) : List Work := if (ownW v l).length = 0 then l else (otherW v l).flatMap (thenW all.length)
def itA (all : List (List Work)) (l : List Work) (v : Nat) : List (List Work) := if (ownW v l).length = 0 then all else all ++ [(ownW v l).flatMap (thenW all.length)]
theorem itself_is (all : List (List Work)) (l : List Work) (v : Nat) : itselfW all l v = (itA all l v).set v (itL all l v) := by
  unfold itselfW itA itL
  split <;> rfl
set_option maxHeartbeats 8000000 in
theorem itself_sim {g : Gram} (hg : g.ok) {all : List (List Work)} {l : List Work} {v N B : Nat} {b : Bool} (h64 : all.length ≤ 64) (hl : ∀ w ∈ l, TOk g B 10 N true w) (hl160 : l.length ≤ 160) (hB : B ≤ 4000) :
    ACalls Try.prog 61 [.ptr 1000 0, .d (worksD false l), I v] (turnH all b) (.d (worksD false (itL all l v))) (turnH (itA all l v) b) := by
  refine ACalls.intro (n := 89) Try.func61 rfl rfl (by simp) (by rfl) ?_
  simp only [argFr]
  have hml : (all.map (worksD false)).length = all.length := List.length_map _
  have hgo : ∀ w ∈ ownW v l, w.right.length ≤ 1000 := fun w hw => by
    obtain ⟨x, hx, rfl⟩ := List.mem_map.1 hw
    have := (hl x (List.mem_filter.1 hx).1).rl
    show x.right.tail.length ≤ _
    rw [List.length_tail]; omega
  have hgr : ∀ w ∈ otherW v l, w.right.length ≤ 1000 := fun w hw => by
    have := (hl w (List.mem_filter.1 hw).1).rl
    omega
  have hol : (ownW v l).length ≤ 160 := by
    unfold ownW; rw [List.length_map]; exact Nat.le_trans (List.length_filter_le _ _) hl160
  have hrl : (otherW v l).length ≤ 160 := Nat.le_trans (List.length_filter_le _ _) hl160
  repeat (first | refine wk ?_ | refine s_field (hr := ?_))
  refine aw_nil 7 907 86 2 rfl rfl rfl ?_
  refine aw_nil 8 908 86 2 rfl rfl rfl ?_
  refine t_loop (X := Nat) (fun i => i ≤ l.length) (fun i => [(20, I i), (19, I l.length), (18, .d (worksD false l)), (7, .own 907 (ownW v (l.take i)).length), (8, .own 908 (otherW v (l.take i)).length), (9, .d (.raw (.slice none 0 0))), (0, .ptr 1000 0), (0 + 1, .d (worksD false l)), (0 + 1 + 1, I v)]) (fun i => [(907, .row 86 2 ((ownW v (l.take i)).map (workD false))), (908, .row 86 2 ((otherW v (l.take i)).map (workD false))), (1000, turnBx all.length b), (1001, .row 81 1 (all.map (worksD false)))]) (fun i => l.length - i) 0 (Nat.zero_le _) ?_
  intro i hi
  by_cases hlt : i < l.length
  · have hx := hl _ (List.getElem_mem hlt)
    have hne := hx.ne rfl
    have h0 : 0 < l[i].right.length := List.length_pos_iff.2 hne
    have hhd := hdI_at h0
    have s1 := ownW_snoc (v := (v : Int)) hlt
    have s2 := otherW_snoc (v := (v : Int)) hlt
    rw [hhd] at s1 s2
    have b1 : (ownW (v : Int) (l.take i)).length ≤ 160 := by
      unfold ownW; rw [List.length_map]
      refine Nat.le_trans (List.length_filter_le _ _) ?_
      rw [List.length_take]; omega
    have b2 : (otherW (v : Int) (l.take i)).length ≤ 160 := by
      refine Nat.le_trans (List.length_filter_le _ _) ?_
      rw [List.length_take]; omega
    by_cases hh : l[i].right[0] = (v : Int)
    · rw [if_pos hh] at s1 s2
      rw [List.append_nil] at s2
      have hgp := gapped_sim (t := false) hg hx hB (by omega) (by rw [hhd, hh]; omega)
      have etl : List.drop 1 (List.take (l[i].right.map iD).length (l[i].right.map iD)) = l[i].right.tail.map iD := by
        rw [List.take_length, ← List.map_drop, List.drop_one]
      have e1 : (ownW (v : Int) (l.take i)).map (workD false) ++ [D.agg [D.sl false 1 (l[i].right.tail.map iD), fragsD false (gappedW l[i]).l]] = (ownW (v : Int) (l.take (i + 1))).map (workD false) := by rw [s1, List.map_append (f := workD false)]; rfl
      have e3 : (ownW (v : Int) (l.take (i + 1))).length = (ownW (v : Int) (l.take i)).length + 1 := by rw [s1]; simp
      rw [← s2]
      generalize ownW (v : Int) (l.take i) = O1 at *
      repeat (first | refine wk ?_ | refine s_field (hr := ?_))
      refine s_call [] (hA := hgp) (hr := ?_)
      rw [etl]
      repeat (first | refine wk ?_ | refine s_field (hr := ?_))
      --@
      rw [e1]
      exact t_next (i + 1)
    · rw [if_neg hh] at s1 s2
      rw [List.append_nil] at s1
      have e1 : (otherW (v : Int) (l.take i)).map (workD false) ++ [D.agg [ints false l[i].right, fragsD false l[i].l]] = (otherW (v : Int) (l.take (i + 1))).map (workD false) := by rw [s2, List.map_append (f := workD false)]; rfl
      rw [← s1]
      repeat (first | refine wk ?_ | refine s_field (hr := ?_))
      --@
      rw [e1]
      exact t_next (i + 1)
  · obtain rfl : i = l.length := by omega
    rw [List.take_length]
    unfold itL itA
    generalize ownW (v : Int) l = OW at *
    generalize otherW (v : Int) l = RW at *
    by_cases h0 : OW.length = 0
    · rw [if_pos h0, if_pos h0]
      repeat (first | refine wk ?_ | refine s_field (hr := ?_))
      --@
      exact fin
    · rw [if_neg h0, if_neg h0]
      refine aw_froz 907 rfl ?_
      refine aw_re 7 (v := .d (worksD false OW)) (Co.froz rfl (by simp)) rfl ?_
      refine aw_froz 908 rfl ?_
      refine aw_re 8 (v := .d (worksD false RW)) (Co.froz rfl (by simp)) rfl ?_
      repeat (first | refine wk ?_ | refine s_field (hr := ?_))
      --@
      refine aw_nil 9 909 86 2 rfl rfl rfl ?_
      refine t_loop (X := Nat) (fun i => i ≤ RW.length) (fun i => [(56, I i), (55, I RW.length), (54, .d (worksD false RW)), (12, I all.length), (9, .own 909 ((RW.take i).flatMap (thenW all.length)).length), (7, .d (worksD false OW)), (0, .ptr 1000 0)]) (fun i => [(909, .row 86 2 (((RW.take i).flatMap (thenW all.length)).map (workD false))), (1000, turnBx all.length b), (1001, .row 81 1 (all.map (worksD false)))]) (fun i => RW.length - i) 0 (Nat.zero_le _) ?_
      intro i hi
      by_cases hlt : i < RW.length
      · have hth := then_sim (x := RW[i]) (v := all.length) (hgr _ (List.getElem_mem hlt)) (by omega)
        have hs := thens_snoc (u := (all.length : Int)) hlt
        have hln := thens_len (all.length : Int) (RW.take i)
        rw [List.length_take] at hln
        have e1 : ((RW.take i).flatMap (thenW all.length)).map (workD false) ++ (thenW (all.length : Int) RW[i]).map (workD false) = ((RW.take (i + 1)).flatMap (thenW all.length)).map (workD false) := by rw [hs, List.map_append]
        generalize (RW.take i).flatMap (thenW all.length) = F1 at *
        have hl2 : (thenW (all.length : Int) RW[i]).length = 2 := rfl
        repeat (first | refine wk ?_ | refine s_field (hr := ?_))
        --@
        refine s_call [(22, 922)] (hA := hth) (hr := ?_)
        repeat (first | refine wk ?_ | refine s_field (hr := ?_))
        --@
        rw [e1]
        exact t_next (i + 1)
      · obtain rfl : i = RW.length := by omega
        rw [List.take_length]
        generalize RW.flatMap (thenW all.length) = RR at *
        repeat (first | refine wk ?_ | refine s_field (hr := ?_))
        --@
        refine aw_nil 15 915 86 2 rfl rfl rfl ?_
        refine t_loop (X := Nat) (fun i => i ≤ OW.length) (fun i => [(68, I i), (67, I OW.length), (66, .d (worksD false OW)), (12, I all.length), (9, .own 909 RR.length), (15, .own 915 ((OW.take i).flatMap (thenW all.length)).length), (0, .ptr 1000 0)]) (fun i => [(915, .row 86 2 (((OW.take i).flatMap (thenW all.length)).map (workD false))), (909, .row 86 2 (RR.map (workD false))), (1000, turnBx all.length b), (1001, .row 81 1 (all.map (worksD false)))]) (fun i => OW.length - i) 0 (Nat.zero_le _) ?_
        intro i hi
        by_cases hlt : i < OW.length
        · have hth := then_sim (x := OW[i]) (v := all.length) (hgo _ (List.getElem_mem hlt)) (by omega)
          have hs := thens_snoc (u := (all.length : Int)) hlt
          have hln := thens_len (all.length : Int) (OW.take i)
          rw [List.length_take] at hln
          have e1 : ((OW.take i).flatMap (thenW all.length)).map (workD false) ++ (thenW (all.length : Int) OW[i]).map (workD false) = ((OW.take (i + 1)).flatMap (thenW all.length)).map (workD false) := by rw [hs, List.map_append]
          generalize (OW.take i).flatMap (thenW all.length) = F1 at *
          have hl2 : (thenW (all.length : Int) OW[i]).length = 2 := rfl
          repeat (first | refine wk ?_ | refine s_field (hr := ?_))
          refine s_call [(22, 922)] (hA := hth) (hr := ?_)
          repeat (first | refine wk ?_ | refine s_field (hr := ?_))
          --@
          rw [e1]
          exact t_next (i + 1)
        · obtain rfl : i = OW.length := by omega
          rw [List.take_length]
          generalize OW.flatMap (thenW all.length) = OO at *
          have e2 : all.map (worksD false) ++ [D.sl false 2 (OO.map (workD false))] = (all ++ [OO]).map (worksD false) := by rw [List.map_append]; rfl
          have e3 : (all ++ [OO]).length = all.length + 1 := by simp
          refine aw_froz 909 rfl ?_
          repeat (first | refine wk ?_ | refine s_field (hr := ?_))
          --@
          rw [e2, List.length_map]
          exact fin
theorem fitsT_not {all : List (List Work)} {i j : Nat} (hi : i < all.length) (hj : j < all[i].length) (h : 10 < all[i][j].right.length ∨ 60 < fszs all[i][j].l) : fitsT all = false := by
  cases hc : fitsT all with
  | false => rfl
  | true =>
    have := (fitsT_iff.1 hc).1 _ (List.getElem_mem hi) _ (List.getElem_mem hj)
    omega
theorem sum_take {all : List (List Work)} {i : Nat} (h : i < all.length) : ((all.take (i + 1)).map List.length).sum = ((all.take i).map List.length).sum + all[i].length := by
  rw [List.take_succ_eq_append_getElem h, List.map_append, List.sum_append]; simp
theorem sum_small {all : List (List Work)} {C : Nat} (h : ∀ l ∈ all, l.length ≤ C) : (all.map List.length).sum ≤ C * all.length := by
  induction all with
  | nil => simp
  | cons l all ih =>
    have h1 := h l (by simp)
    have h2 := ih fun k hk => h k (by simp [hk])
    rw [List.map_cons, List.sum_cons, List.length_cons, Nat.mul_add]; omega
set_option maxHeartbeats 8000000 in
theorem tfits_sim {all : List (List Work)} {b : Bool} (h65 : all.length ≤ 100) (hl : ∀ l ∈ all, l.length ≤ 1000) (hr : ∀ l ∈ all, ∀ w ∈ l, w.right.length ≤ 1000 ∧ fszs w.l ≤ 100000) :
    ACalls Try.prog 62 [.ptr 1000 0] (turnH all b) (B (!b && fitsT all)) (turnH all b) := by
  refine ACalls.intro (n := 56) Try.func62 rfl rfl (by simp) (by rfl) ?_
  simp only [argFr]
  have hml : (all.map (worksD false)).length = all.length := List.length_map _
  repeat (first | refine wk ?_ | refine s_field (hr := ?_))
  --@
  refine t_loop (X := Nat) (fun i => i ≤ all.length ∧ ∀ l ∈ all.take i, ∀ w ∈ l, w.right.length ≤ 10 ∧ fszs w.l ≤ 60) (fun i => [(13, I i), (12, I all.length), (11, .own 1001 all.length), (3, I (((all.take i).map List.length).sum : Nat)), (0, .ptr 1000 0)]) (fun _ => turnH all b) (fun i => all.length - i) 0 ⟨Nat.zero_le _, fun l hl => by simp at hl⟩ ?_
  rintro i ⟨hi, ho⟩
  have hsm := sum_small (all := all.take i) (C := 1000) fun l h => hl l (List.mem_of_mem_take h)
  rw [List.length_take] at hsm
  by_cases hlt : i < all.length
  · have hs := sum_take hlt
    have hil := hl _ (List.getElem_mem hlt)
    have hir := hr _ (List.getElem_mem hlt)
    have hno := fun j (hj : j < all[i].length) h => fitsT_not hlt hj h
    have hta : ∀ w ∈ all[i], w.right.length ≤ 10 ∧ fszs w.l ≤ 60 → True := fun _ _ _ => trivial
    have hnext : (∀ w ∈ all[i], w.right.length ≤ 10 ∧ fszs w.l ≤ 60) → ∀ l ∈ all.take (i + 1), ∀ w ∈ l, w.right.length ≤ 10 ∧ fszs w.l ≤ 60 := fun h l hl => by
      rw [List.take_succ_eq_append_getElem hlt] at hl
      rcases List.mem_append.1 hl with hl | hl
      · exact ho l hl
      · rw [List.mem_singleton.1 hl]; exact h
    have hel : (all.map (worksD false))[i]? = some (worksD false all[i]) := by rw [List.getElem?_map, List.getElem?_eq_getElem hlt]; rfl
    generalize hS : ((all.take i).map List.length).sum = S at *
    generalize hS2 : ((all.take (i + 1)).map List.length).sum = S2 at *
    repeat (first | refine wk ?_ | refine s_field (hr := ?_))
    --@
    refine t_loop (X := Nat) (fun j => j ≤ all[i].length ∧ ∀ w ∈ all[i].take j, w.right.length ≤ 10 ∧ fszs w.l ≤ 60) (fun j => [(23, I j), (22, I all[i].length), (21, .d (worksD false all[i])), (13, I i), (12, I all.length), (11, .own 1001 all.length), (3, I ((S + all[i].length : Nat) : Int)), (0, .ptr 1000 0)]) (fun _ => turnH all b) (fun j => all[i].length - j) 0 ⟨Nat.zero_le _, fun w hw => by simp at hw⟩ ?_
    rintro j ⟨hj, hw⟩
    by_cases hjl : j < all[i].length
    · have hr1 := hir _ (List.getElem_mem hjl)
      have hpt := tparts_gen _ (t := false) (l := all[i][j].l) (Nat.lt_succ_self _) (by omega)
      by_cases q1 : 10 < all[i][j].right.length
      · rw [hno j hjl (.inl q1)]
        (repeat (first | refine wk ?_ | refine s_field (hr := ?_)))
        (repeat (first | refine wkz ?_ | refine s_field (hr := ?_)))
        repeat (first | refine wk ?_ | refine s_field (hr := ?_))
        --@
        rw [Bool.and_false]
        exact fin
      · by_cases q2 : 60 < fszs all[i][j].l
        · rw [hno j hjl (.inr q2)]
          repeat (first | refine wk ?_ | refine s_field (hr := ?_))
          refine s_call [] (hA := hpt) (hr := ?_)
          repeat (first | refine wk ?_ | refine s_field (hr := ?_))
          --@
          rw [Bool.and_false]
          exact fin
        · repeat (first | refine wk ?_ | refine s_field (hr := ?_))
          refine s_call [] (hA := hpt) (hr := ?_)
          repeat (first | refine wk ?_ | refine s_field (hr := ?_))
          --@
          exact t_next (j + 1) (a := ⟨by omega, fun w hw' => by
            rw [List.take_succ_eq_append_getElem hjl] at hw'
            rcases List.mem_append.1 hw' with hw' | hw'
            · exact hw w hw'
            · rw [List.mem_singleton.1 hw']; omega⟩)
    · obtain rfl : j = all[i].length := by omega
      rw [List.take_length] at hw
      have e1 : S + all[i].length = S2 := hs.symm
      rw [e1]
      repeat (first | refine wk ?_ | refine s_field (hr := ?_))
      --@
      rw [← hS2]
      exact t_next (i + 1) (a := ⟨by omega, hnext hw⟩)
  · obtain rfl : i = all.length := by omega
    rw [List.take_length]
    rw [List.take_length] at ho hsm
    have hfit : fitsT all = (decide ((all.map List.length).sum ≤ 160) && decide (all.length ≤ 64)) := by
      rw [Bool.eq_iff_iff, fitsT_iff, Bool.and_eq_true, decide_eq_true_eq, decide_eq_true_eq]
      exact ⟨fun q => q.2, fun q => ⟨ho, q⟩⟩
    rw [hfit]
    generalize (all.map List.length).sum = S at *
    cases b with
    | true =>
      (repeat (first | refine wk ?_ | refine s_field (hr := ?_)))
      (repeat (first | refine wkz ?_ | refine s_field (hr := ?_)))
      repeat (first | refine wk ?_ | refine s_field (hr := ?_))
      --@
      exact fin
    | false =>
      by_cases q1 : S ≤ 160
      · rw [decide_eq_true q1]
        by_cases q2 : all.length ≤ 64
        · rw [decide_eq_true q2]
          repeat (first | refine wk ?_ | refine s_field (hr := ?_))
          --@
          rw [show decide (((all.length : Nat) : Int) ≤ 64) = true from decide_eq_true (by omega)]
          exact fin
        · rw [decide_eq_false q2]
          repeat (first | refine wk ?_ | refine s_field (hr := ?_))
          --@
          rw [show decide (((all.length : Nat) : Int) ≤ 64) = false from decide_eq_false (by omega)]
          exact fin
      · rw [decide_eq_false q1]
        (repeat (first | refine wk ?_ | refine s_field (hr := ?_)))
        (repeat (first | refine wkz ?_ | refine s_field (hr := ?_)))
        repeat (first | refine wk ?_ | refine s_field (hr := ?_))
        --@
        exact fin
end Go.Proofs.Yticnpbopelgmiaa
