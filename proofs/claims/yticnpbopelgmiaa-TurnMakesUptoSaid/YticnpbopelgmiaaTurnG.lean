/-
  Sim: the reference's twice, tooMuch.
-/
import Derived.Test.YticnpbopelgmiaaTurnF
import Derived.Test.YticnpbopelgmiaaQFactorF
set_option linter.unusedVariables false
set_option linter.unusedSimpArgs false
set_option linter.unusedSectionVars false
namespace Go.Proofs.Yticnpbopelgmiaa
open Go.RowKit
set_option maxRecDepth 100000
-- SimX

mutual
theorem cp_wfF {m : Int} : ∀ x : Frag, wfF m x → cpF x = fsz x
  | .mk o n l, h => by
    rw [wfF] at h
    rw [cpF, fsz]
    rcases h with ⟨rfl, h1, h2, hl⟩ | ⟨rfl, rfl⟩ | ⟨rfl, h1, rfl⟩ | ⟨rfl, hl⟩
    · rw [if_pos (.inl rfl), cp_wfL l hl]
    · rw [if_neg (by decide)]; simp [fszs]
    · rw [if_neg (by decide)]; simp [fszs]
    · rw [if_pos (.inr rfl), cp_wfL l hl]
theorem cp_wfL {m : Int} : ∀ l : List Frag, wfL m l → cpL l = fszs l
  | [], _ => rfl
  | x :: l, h => by rw [cpL, fszs, cp_wfF x h.1, cp_wfL l h.2]
end
theorem twice_sim {x : Work} {v : Nat} (h1 : x.right.length ≤ 1000) (hv : v ≤ 1000) :
    ACalls Try.prog 67 [.d (workD false x), I v] [] (.own 21 2) [(21, .row 93 2 ((thenW (v : Int) x).map (workD false)))] := by
  have hk := kids_le x.right
  have e1 : x.right.map iD ++ [D.raw (.int .i64 (v : Int))] = (x.right ++ [(v : Int)]).map iD := by simp [iD]
  have how := ownInts_sim (t := false) (xs := x.right) (by omega)
  have hki := kidsOf_sim (t := false) (xs := x.right) (by omega)
  refine ACalls.intro (n := 22) Try.func67 rfl rfl (by simp) (by rfl) ?_
  simp only [argFr]
  repeat (first | refine wk ?_ | refine s_field (hr := ?_))
  --@
  refine s_call [(3, 905)] (hA := how) (hr := ?_)
  repeat (first | refine wk ?_ | refine s_field (hr := ?_))
  --@
  rw [e1]
  refine s_callf [(3, 906)] (hA := hki) (hr := ?_)
  repeat (first | refine wk ?_ | refine s_field (hr := ?_))
  --@
  have e2 : (thenW (v : Int) x).map (workD false) = [D.agg [ints false x.right, fragsD false x.l], D.agg [D.sl false 1 ((x.right ++ [(v : Int)]).map iD), D.sl false 3 [D.agg [D.raw (.int .i64 4), D.raw (.int .i64 ((kids x.right).length : Int)), fragsD false x.l]]]] := by simp [thenW, workD, ints, fragsD, fragD, iD, fragDs_map]
  rw [e2]
  exact finx
abbrev refH (all : List (List Work)) : Hp := [(1001, .row 91 1 (all.map (worksD false)))]
set_option maxHeartbeats 8000000 in
theorem tooMuch_sim {all : List (List Work)} {m : Int} (h65 : all.length ≤ 100) (hl : ∀ l ∈ all, l.length ≤ 1000) (hr : ∀ l ∈ all, ∀ w ∈ l, w.right.length ≤ 1000 ∧ fszs w.l ≤ 100000) (hw : ∀ l ∈ all, ∀ w ∈ l, wfL m w.l) :
    ACalls Try.prog 68 [.own 1001 all.length] (refH all) (B (!fitsT all)) (refH all) := by
  refine ACalls.intro (n := 57) Try.func68 rfl rfl (by simp) (by rfl) ?_
  simp only [argFr]
  have hml : (all.map (worksD false)).length = all.length := List.length_map _
  repeat (first | refine wk ?_ | refine s_field (hr := ?_))
  --@
  refine t_loop (X := Nat) (fun i => i ≤ all.length ∧ ∀ l ∈ all.take i, ∀ w ∈ l, w.right.length ≤ 10 ∧ fszs w.l ≤ 60) (fun i => [(4, I i), (3, I (((all.take i).map List.length).sum : Nat)), (0, .own 1001 all.length)]) (fun _ => refH all) (fun i => all.length - i) 0 ⟨Nat.zero_le _, fun l hl => by simp at hl⟩ ?_
  rintro i ⟨hi, ho⟩
  have hsm := sum_small (all := all.take i) (C := 1000) fun l h => hl l (List.mem_of_mem_take h)
  rw [List.length_take] at hsm
  by_cases hlt : i < all.length
  · have hs := sum_take hlt
    have hil := hl _ (List.getElem_mem hlt)
    have hir := hr _ (List.getElem_mem hlt)
    have hiw := hw _ (List.getElem_mem hlt)
    have hno := fun j (hj : j < all[i].length) h => fitsT_not hlt hj h
    have hnext : (∀ w ∈ all[i], w.right.length ≤ 10 ∧ fszs w.l ≤ 60) → ∀ l ∈ all.take (i + 1), ∀ w ∈ l, w.right.length ≤ 10 ∧ fszs w.l ≤ 60 := fun h l hl => by
      rw [List.take_succ_eq_append_getElem hlt] at hl
      rcases List.mem_append.1 hl with hl | hl
      · exact ho l hl
      · rw [List.mem_singleton.1 hl]; exact h
    have hel : (all.map (worksD false))[i]? = some (worksD false all[i]) := by rw [List.getElem?_map, List.getElem?_eq_getElem hlt]; rfl
    generalize hS : ((all.take i).map List.length).sum = S at *
    generalize hS2 : ((all.take (i + 1)).map List.length).sum = S2 at *
    repeat (first | refine wk ?_ | refine s_field (hr := ?_))
    --@
    refine t_loop (X := Nat) (fun j => j ≤ all[i].length ∧ ∀ w ∈ all[i].take j, w.right.length ≤ 10 ∧ fszs w.l ≤ 60) (fun j => [(5, I j), (4, I i), (3, I ((S + all[i].length : Nat) : Int)), (0, .own 1001 all.length)]) (fun _ => refH all) (fun j => all[i].length - j) 0 ⟨Nat.zero_le _, fun w hw => by simp at hw⟩ ?_
    rintro j ⟨hj, hw⟩
    by_cases hjl : j < all[i].length
    · have hr1 := hir _ (List.getElem_mem hjl)
      have hpt := countedParts_sim (t := false) (l := all[i][j].l) (by omega)
      rw [cp_wfL _ (hiw _ (List.getElem_mem hjl))] at hpt
      by_cases q1 : 10 < all[i][j].right.length
      · rw [hno j hjl (.inl q1)]
        (repeat (first | refine wk ?_ | refine s_field (hr := ?_)))
        (repeat (first | refine wkz ?_ | refine s_field (hr := ?_)))
        repeat (first | refine wk ?_ | refine s_field (hr := ?_))
        --@
        exact fin
      · by_cases q2 : 60 < fszs all[i][j].l
        · rw [hno j hjl (.inr q2)]
          repeat (first | refine wk ?_ | refine s_field (hr := ?_))
          --@
          refine s_call [] (hA := hpt) (hr := ?_)
          repeat (first | refine wk ?_ | refine s_field (hr := ?_))
          --@
          exact fin
        · repeat (first | refine wk ?_ | refine s_field (hr := ?_))
          --@
          refine s_call [] (hA := hpt) (hr := ?_)
          repeat (first | refine wk ?_ | refine s_field (hr := ?_))
          --@
          exact t_next (j + 1) (a := ⟨by omega, fun w hw' => by
            rw [List.take_succ_eq_append_getElem hjl] at hw'
            rcases List.mem_append.1 hw' with hw' | hw'
            · exact hw w hw'
            · rw [List.mem_singleton.1 hw']; omega⟩)
    · obtain rfl : j = all[i].length := by omega
      rw [List.take_length] at hw
      have e1 : S + all[i].length = S2 := hs.symm
      rw [e1]
      repeat (first | refine wk ?_ | refine s_field (hr := ?_))
      --@
      rw [← hS2]
      exact t_next (i + 1) (a := ⟨by omega, hnext hw⟩)
  · obtain rfl : i = all.length := by omega
    rw [List.take_length]
    rw [List.take_length] at ho hsm
    have hfit : fitsT all = (decide ((all.map List.length).sum ≤ 160) && decide (all.length ≤ 64)) := by
      rw [Bool.eq_iff_iff, fitsT_iff, Bool.and_eq_true, decide_eq_true_eq, decide_eq_true_eq]
      exact ⟨fun q => q.2, fun q => ⟨ho, q⟩⟩
    rw [hfit]
    generalize (all.map List.length).sum = S at *
    by_cases q1 : S ≤ 160
    · rw [decide_eq_true q1]
      by_cases q2 : all.length ≤ 64
      · rw [decide_eq_true q2]
        repeat (first | refine wk ?_ | refine s_field (hr := ?_))
        --@
        rw [show decide ((64 : Int) < ((all.length : Nat) : Int)) = false from decide_eq_false (by omega)]
        exact fin
      · rw [decide_eq_false q2]
        repeat (first | refine wk ?_ | refine s_field (hr := ?_))
        --@
        rw [show decide ((64 : Int) < ((all.length : Nat) : Int)) = true from decide_eq_true (by omega)]
        exact fin
    · rw [decide_eq_false q1]
      (repeat (first | refine wk ?_ | refine s_field (hr := ?_)))
      (repeat (first | refine wkz ?_ | refine s_field (hr := ?_)))
      repeat (first | refine wk ?_ | refine s_field (hr := ?_))
      --@
      exact fin
end Go.Proofs.Yticnpbopelgmiaa
