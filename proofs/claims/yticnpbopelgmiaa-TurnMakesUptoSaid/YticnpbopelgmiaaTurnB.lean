/-
  Sim: (*turner).ahead.
-/
import Derived.Test.YticnpbopelgmiaaQFactorA
set_option linter.unusedVariables false
set_option linter.unusedSimpArgs false
set_option linter.unusedSectionVars false
namespace Go.Proofs.Yticnpbopelgmiaa
open Go.RowKit
set_option maxRecDepth 100000
-- SimX

abbrev turnBx (n : Nat) (b : Bool) : Ob := .box 80 [.own 1001 n, B b]
abbrev turnH (all : List (List Work)) (b : Bool) : Hp := [(1000, turnBx all.length b), (1001, .row 81 1 (all.map (worksD false)))]
theorem aheadIn_step {x : Work} {A out : List Work} {k : Nat} (h : k < A.length) : aheadIn x (A.drop k) out = if 10 < (mixW x A[k]).right.length ∨ 160 < (out ++ [mixW x A[k]]).length then none else aheadIn x (A.drop (k + 1)) (out ++ [mixW x A[k]]) := by
  rw [List.drop_eq_getElem_cons h, aheadIn]
theorem aheadIn_end {x : Work} {A out : List Work} {k : Nat} (h : ¬ k < A.length) : aheadIn x (A.drop k) out = some out := by
  rw [List.drop_of_length_le (by omega), aheadIn]
theorem aheadW_step {A : List Work} {u : Int} {l out : List Work} {i : Nat} (h : i < l.length) : aheadW A u (l.drop i) out = if hdI l[i].right ≠ u then aheadW A u (l.drop (i + 1)) (out ++ [l[i]]) else
      match aheadIn l[i] A out with
      | none => none
      | some out' => aheadW A u (l.drop (i + 1)) out' := by
  rw [List.drop_eq_getElem_cons h, aheadW]; rfl
theorem hdI_at {r : List Int} (h : 0 < r.length) : hdI r = r[0] := by
  cases r with
  | nil => simp at h
  | cons a r => rfl
theorem aheadW_end {A : List Work} {u : Int} {l out : List Work} {i : Nat} (h : ¬ i < l.length) : aheadW A u (l.drop i) out = if 160 < out.length then none else some out := by
  rw [List.drop_of_length_le (by omega), aheadW]
set_option maxHeartbeats 8000000 in
theorem ahead_sim {g : Gram} (hg : g.ok) {all : List (List Work)} {l : List Work} {u N B : Nat} (hu : u < all.length) (h64 : all.length ≤ 64) (hA : ∀ y ∈ all.getD u [], TOk g 60 10 N true y) (hA160 : (all.getD u []).length ≤ 160) (hl : ∀ w ∈ l, TOk g B 10 N true w) (hl160 : l.length ≤ 160) (hB : B ≤ 3900) :
    ACalls Try.prog 60 [.ptr 1000 0, .d (worksD false l), I u] (turnH all false) (.d (worksD false ((aheadW (all.getD u []) u l []).getD []))) (turnH all (aheadW (all.getD u []) u l []).isNone) := by
  refine ACalls.intro (n := 81) Try.func60 rfl rfl (by simp) (by rfl) ?_
  simp only [argFr]
  have hml : (all.map (worksD false)).length = all.length := List.length_map _
  have eA : all.getD u [] = all[u] := by rw [List.getD_eq_getElem?_getD, List.getElem?_eq_getElem hu]; rfl
  rw [eA] at hA hA160 ⊢
  generalize hres : aheadW all[u] u l [] = res at *
  repeat (first | refine wk ?_ | refine s_field (hr := ?_))
  refine aw_nil 7 907 86 2 rfl rfl rfl ?_
  --@
  refine t_loop (X := Nat × List Work) (fun y => y.1 ≤ l.length ∧ y.2.length ≤ 160 + y.1 ∧ res = aheadW (all[u]) u (l.drop y.1) y.2) (fun y => [(15, I y.1), (14, I l.length), (13, .d (worksD false l)), (7, .own 907 y.2.length), (0, .ptr 1000 0), (0 + 1 + 1, I u)]) (fun y => [(907, .row 86 2 (y.2.map (workD false))), (1000, turnBx all.length false), (1001, .row 81 1 (all.map (worksD false)))]) (fun y => l.length - y.1) (0, []) ⟨Nat.zero_le _, Nat.zero_le _, hres.symm⟩ ?_
  rintro ⟨i, out⟩ ⟨h1, h2, h3⟩
  dsimp only at h1 h2 h3 ⊢
  by_cases hlt : i < l.length
  · have hx := hl _ (List.getElem_mem hlt)
    have hne := hx.ne rfl
    have h0 : 0 < l[i].right.length := List.length_pos_iff.2 hne
    have hhd := hdI_at h0
    rw [aheadW_step hlt, hhd] at h3
    have e1 : out.map (workD false) ++ [D.agg [ints false l[i].right, fragsD false l[i].l]] = (out ++ [l[i]]).map (workD false) := by rw [List.map_append]; rfl
    by_cases hh : l[i].right[0] = (u : Int)
    · rw [if_neg (fun q => q hh)] at h3
      have hu0 : hdI l[i].right = (u : Int) := by rw [hhd, hh]
      have hin : ∃ rI, aheadIn l[i] (all[u]) out = rI := ⟨_, rfl⟩
      obtain ⟨rI, hrI⟩ := hin
      rw [hrI] at h3
      have hxr := hx.rl
      have etl : List.drop 1 (List.take (l[i].right.map iD).length (l[i].right.map iD)) = l[i].right.tail.map iD := by
        rw [List.take_length, ← List.map_drop, List.drop_one]
      repeat (first | refine wk ?_ | refine s_field (hr := ?_))
      --@
      refine t_loop (X := Nat × List Work) (fun y => y.1 ≤ all[u].length ∧ y.2.length ≤ 160 + i ∧ rI = aheadIn l[i] (all[u].drop y.1) y.2) (fun y => [(37, I y.1), (36, I all[u].length), (35, .d (worksD false all[u])), (9, .ptr 9 0), (15, I i), (14, I l.length), (13, .d (worksD false l)), (7, .own 907 y.2.length), (0, .ptr 1000 0), (0 + 1 + 1, I u)]) (fun y => [(9, tworkBox false l[i]), (907, .row 86 2 (y.2.map (workD false))), (1000, turnBx all.length false), (1001, .row 81 1 (all.map (worksD false)))]) (fun y => all[u].length - y.1) (0, out) ⟨Nat.zero_le _, by dsimp only; omega, hrI.symm⟩ ?_
      rintro ⟨k, L⟩ ⟨k1, k2, k3⟩
      dsimp only at k1 k2 k3 ⊢
      by_cases hkl : k < all[u].length
      · have hy := hA _ (List.getElem_mem hkl)
        have hmix := mix_ok hx hy hu0 (by omega)
        have hcc := concat_sim (t := false) (u1 := false) (u2 := false) (a := all[u][k].right) (b := l[i].right.tail) (by have := hy.rl; omega) (by rw [List.length_tail]; omega)
        have hki := tkids_sim (t := false) (xs := all[u][k].right) (by have := hy.rl; omega)
        have hpl := tplug_sim (t := false) (u := false) hg hx hy (by omega) (by omega) (by omega) hu0 (by omega) (hmix.small _ _ hmix.sz (by have := hmix.rl; omega))
        have hyr := hy.rl
        rw [aheadIn_step hkl] at k3
        have e2 : L.map (workD false) ++ [D.agg [D.sl false 1 ((all[u][k].right ++ l[i].right.tail).map iD), fragsD false (mixW l[i] all[u][k]).l]] = (L ++ [mixW l[i] all[u][k]]).map (workD false) := by rw [List.map_append (f := workD false)]; rfl
        have e3 : (mixW l[i] all[u][k]).right = all[u][k].right ++ l[i].right.tail := rfl
        repeat (first | refine wk ?_ | refine s_field (hr := ?_))
        rw [etl]
        --@
        refine s_call [(910, 912)] (hA := hcc) (hr := ?_)
        repeat (first | refine wk ?_ | refine s_field (hr := ?_))
        --@
        refine s_call [] (hA := hki) (hr := ?_)
        repeat (first | refine wk ?_ | refine s_field (hr := ?_))
        --@
        refine s_call [] (hA := hpl) (hr := ?_)
        by_cases q1 : 10 < all[u][k].right.length + l[i].right.tail.length
        · rw [if_pos (.inl (by rw [e3, List.length_append]; exact q1))] at k3
          subst k3
          subst h3
          (repeat (first | refine wk ?_ | refine s_field (hr := ?_)))
          (repeat (first | refine wkz ?_ | refine s_field (hr := ?_)))
          repeat (first | refine wk ?_ | refine s_field (hr := ?_))
          --@
          exact fin
        · by_cases q2 : 160 < L.length + 1
          · rw [if_pos (.inr (by rw [List.length_append, List.length_singleton]; exact q2))] at k3
            subst k3
            subst h3
            repeat (first | refine wk ?_ | refine s_field (hr := ?_))
            --@
            exact fin
          · rw [if_neg (fun q => by
              rw [e3, List.length_append, List.length_append, List.length_singleton] at q
              omega)] at k3
            repeat (first | refine wk ?_ | refine s_field (hr := ?_))
            --@
            rw [e2]
            exact t_next (k + 1, L ++ [mixW l[i] all[u][k]]) (a := ⟨by omega, by simp; omega, k3⟩) (b := by dsimp only; omega)
      · rw [aheadIn_end hkl] at k3
        subst k3
        repeat (first | refine wk ?_ | refine s_field (hr := ?_))
        --@
        exact t_next (i + 1, L) (a := ⟨by omega, by dsimp only; omega, h3⟩) (b := by dsimp only; omega)
    · rw [if_pos hh] at h3
      repeat (first | refine wk ?_ | refine s_field (hr := ?_))
      --@
      rw [e1]
      exact t_next (i + 1, out ++ [l[i]]) (a := ⟨by omega, by simp; omega, h3⟩) (b := by dsimp only; omega)
  · rw [aheadW_end hlt] at h3
    by_cases hm : 160 < out.length
    · rw [if_pos hm] at h3
      subst h3
      repeat (first | refine wk ?_ | refine s_field (hr := ?_))
      --@
      exact fin
    · rw [if_neg hm] at h3
      subst h3
      refine aw_froz 907 rfl ?_
      repeat (first | refine wk ?_ | refine s_field (hr := ?_))
      --@
      exact fin
end Go.Proofs.Yticnpbopelgmiaa
