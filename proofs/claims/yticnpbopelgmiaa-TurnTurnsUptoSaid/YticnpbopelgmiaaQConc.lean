/-
  Sim: slices.Grow of nothing (the shelf's contract, said by data), slices.Concat. Sim: (*turner).ahead.
-/
import Derived.Test.YticnpbopelgmiaaF2
import Derived.Shelf.Spec.SlicesGrow
import Derived.Test.YticnpbopelgmiaaQTreeB
set_option linter.unusedVariables false
set_option linter.unusedSimpArgs false
set_option linter.unusedSectionVars false
namespace Go.Proofs
open Go.Shelf
def Try.growRen : Go.Shelf.Ren := ⟨fun | 4 => 156 | n => n, fun | 0 => 0 | 3 => 3 | 4 => 4 | 9 => 9 | 20 => 20 | 22 => 39 | 25 => 3 | n => n, fun | n => n⟩
theorem Try.growLay : Go.Proofs.Lays8.n4 Try.prog Try.growRen := {
  mixed := by kernel_rfl
  f4 := ⟨"slices.Grow[[]int,int]", by decide, Try.func156.trans (congrArg some (by kernel_rfl))⟩
  t0 := Try.underlying0
  a0 := Try.isAgg0
  z0 := Try.sizeOf0
  v0 := Try.zeroValue0
  t3 := Try.underlying3
  a3 := Try.isAgg3
  z3 := Try.sizeOf3
  v3 := Try.zeroValue3
  t4 := Try.underlying4
  a4 := Try.isAgg4
  z4 := Try.sizeOf4
  v4 := Try.zeroValue4
  t9 := Try.underlying9
  a9 := Try.isAgg9
  z9 := Try.sizeOf9
  v9 := Try.zeroValue9
  t20 := Try.underlying20
  a20 := Try.isAgg20
  z20 := Try.sizeOf20
  v20 := Try.zeroValue20
  t22 := Try.underlying39
  a22 := Try.isAgg39
  z22 := Try.sizeOf39
  v22 := Try.zeroValue39 }
end Go.Proofs
namespace Go.Proofs.Yticnpbopelgmiaa
open Go.RowKit Go.Lib
set_option maxRecDepth 100000
-- SimX
theorem blk_one {E : Env} {k b : Nat} (hb : blkOf E [(10, .row 3 1 [])] k b) : k = 10 ∧ obOf (E.row 10) = some b := by
  unfold blkOf at hb
  simp only [hget] at hb
  cases hk : Nat.beq 10 k <;> rw [hk] at hb
  · cases hb
  · have := Nat.eq_of_beq_eq_true hk
    subst this
    exact ⟨rfl, hb⟩
theorem sgrow_sim {n : Nat} (hn : n ≤ 100000000 := by ((try simp only [List.length_map, List.length_append, List.length_cons, List.length_nil, List.length_replicate, List.length_set, List.length_take, List.length_drop]); first | omega | assumption)) : ACalls Try.prog 156 [.d (.raw (.slice none 0 0)), I n] [] (.own 10 0) [(10, .row 3 1 [])] := by
  refine ⟨⟨_, Try.func156, rfl, rfl⟩, fun E w us o H hr hk ho hs => ?_⟩
  simp only [V.Reps, V.Rep, D.RepV, D.Rep, List.cons.injEq, and_true] at hr
  obtain ⟨u, _, rfl, ⟨rfl, _⟩, _, _, rfl, ⟨rfl, _⟩, rfl⟩ := hr
  -- what was made
  have key : ∀ (v : Value) (w' : World), Ext (Live E []) w w' → (∀ b, obOf v = some b → w.heap.size ≤ b ∧ b < w'.heap.size) → (∀ M, RowAt M w' 3 1 v []) →
      ∃ E' u, Ending.returned v = .returned u ∧ HRep E' [(10, .row 3 1 [])] o w' ∧ V.Rep E' [(10, .row 3 1 [])] (bars E' [(10, .row 3 1 [])] o) w' (.own 10 0) u ∧ (∀ k ∈ (V.own 10 0).keys, (hget [(10, Ob.row 3 1 [])] k).isSome = true) ∧ Ext (Live E []) w w' ∧ Hist E [] E' [(10, .row 3 1 [])] ∧ (∀ k b, blkOf E' [(10, .row 3 1 [])] k b → Live E [] b ∨ w.heap.size ≤ b) := by
    intro v w' hE hb hrow
    refine ⟨{ E with row := fun k => if k = 10 then v else E.row k }, v, rfl, ⟨?_, ?_, ?_⟩, ?_, ?_, hE, ?_, ?_⟩
    · intro k ob hk
      simp only [hget] at hk
      split at hk
      · rename_i hb2
        have := Nat.eq_of_beq_eq_true hb2
        subst this
        cases hk
        simp only [ObRep, if_true]
        exact hrow _
      · cases hk
    · intro k k' b h1 h2
      rw [(blk_one h1).1, (blk_one h2).1]
    · intro k ob hk j hj
      simp only [hget] at hk
      split at hk
      · cases hk; simp [Ob.keys] at hj
      · cases hk
    · simp only [V.Rep]
      refine ⟨0, .inl ⟨_, _, _, rfl, rfl⟩, Nat.le_refl _, ?_, fun _ => by simp⟩
      obtain ⟨a, cap, e, _⟩ := (hrow (bars E [] o)).shape
      rw [e]; rfl
    · intro k hk
      simp only [V.keys, List.mem_singleton] at hk
      subst hk; rfl
    · intro k hk hks
      simp only [hget] at hks
      cases hb2 : Nat.beq 10 k with
      | true => have := Nat.eq_of_beq_eq_true hb2; omega
      | false => rw [hb2] at hks; cases hks
    · intro k b h1
      obtain ⟨_, h2⟩ := blk_one h1
      simp only [if_true] at h2
      exact .inr (hb b h2).1
  by_cases h0 : n = 0
  · subst h0
    refine (Go.Proofs.Any8.slices_Grow_room Try.growLay none 0 0 0 w (Nat.le_refl _) (by decide) (by decide) (Nat.le_refl _)).mono ?_
    rintro e w' ⟨rfl, rfl⟩
    exact key _ _ (Ext.refl _ _) (fun b hb => by simp [obOf] at hb) (fun M => ⟨fun x hx => (by cases hx), .inl ⟨none, rfl, rfl⟩⟩)
  · obtain ⟨i0, _, g1, _, g2, g3, _, g4, _⟩ := tyOf_spec (TY.at (t := 3) rfl)
    refine (Go.Proofs.Any8.slices_Grow_grow Try.growLay i0 (.int .i64 0) g1 g4 (by rw [g2]; decide) none 0 0 n [] w (Nat.le_refl _) (by omega) (by rw [g3]; show (0 + n) * 8 ≤ _; omega) (by omega) (by simp) (fun _ => rfl) (fun a ha => by cases ha)).mono ?_
    rintro e w' ⟨rfl, rfl⟩
    have hG := grownCap_ge w (0 + n) 0 3
    have hG2 := grownCap_le_maxLen w (0 + n) 0 3 (by unfold maxLen; omega)
    change _ ≤ grownCap w (0 + n) 0 (Try.growRen.t 25) at hG
    change grownCap w (0 + n) 0 (Try.growRen.t 25) ≤ _ at hG2
    generalize grownCap w (0 + n) 0 (Try.growRen.t 25) = G at *
    refine key _ _ ?_ ?_ ?_
    · refine ⟨rfl, rfl, rfl, ?_, fun k hk _ => ?_⟩
      · exact Nat.le_of_lt (Nat.lt_of_lt_of_eq (Nat.lt_succ_self _) (Array.size_push _).symm)
      · exact (Array.getElem?_push_lt hk).trans (Array.getElem?_eq_getElem hk).symm
    · intro b hb
      simp only [obOf] at hb
      rw [if_neg (by omega)] at hb
      cases hb
      exact ⟨Nat.le_refl _, Nat.lt_of_lt_of_eq (Nat.lt_succ_self _) (Array.size_push _).symm⟩
    · intro M
      refine ⟨fun x hx => (by cases hx), .inr ⟨w.heap.size, 0, G, _, rfl, by omega, Array.getElem?_push_size, Nat.zero_le _, hG2, ?_, by simp [D.Reps]⟩⟩
      have z1 : ∀ k : Nat, (Builtin.zeroCells (Value.int .i64 0).cells k).size = k := fun k => by simp [Builtin.zeroCells, Value.cells]
      simp only [Array.size_append, z1]
      show 0 + (0 + n - 0) + (G - (0 + n)) = 0 + G * 1
      omega
theorem concat_sim {t u1 u2 : Bool} {a b : List Int} (ha : a.length ≤ 100000) (hb : b.length ≤ 100000) : ACalls Try.prog 110 [.d (.sl t 1 [ints u1 a, ints u2 b])] [] (.own 910 (a ++ b).length) [(910, .row 3 1 ((a ++ b).map iD))] := by
  refine ACalls.intro (n := 36) Try.func110 rfl rfl (by simp) (by rfl) ?_
  simp only [argFr]
  repeat (first | refine wk ?_ | refine s_field (hr := ?_))
  refine t_loop (X := Nat) (fun i => i ≤ 2) (fun i => [(11, I i), (10, I ((2 : Nat) : Int)), (9, .d (.sl t 1 [ints u1 a, ints u2 b])), (3, I ((if i = 0 then 0 else if i = 1 then a.length else a.length + b.length : Nat) : Int)), (0, .d (.sl t 1 [ints u1 a, ints u2 b]))]) (fun _ => []) (fun i => 2 - i) 0 (by decide) ?_
  intro i hi
  obtain rfl | rfl | rfl : i = 0 ∨ i = 1 ∨ i = 2 := by omega
  · simp only [if_true]
    repeat (first | refine wk ?_ | refine s_field (hr := ?_))
    exact t_next 1
  · simp only [if_neg (show ¬ (1 : Nat) = 0 by decide), if_true]
    repeat (first | refine wk ?_ | refine s_field (hr := ?_))
    exact t_next 2 (b := by decide)
  · simp only [if_neg (show ¬ (2 : Nat) = 0 by decide), if_neg (show ¬ (2 : Nat) = 1 by decide)]
    repeat (first | refine wk ?_ | refine s_field (hr := ?_))
    refine s_call [(10, 910)] (hA := sgrow_sim) (hr := ?_)
    repeat (first | refine wk ?_ | refine s_field (hr := ?_))
    --@
    refine t_loop (X := Nat) (fun i => i ≤ 2) (fun i => [(27, I i), (26, I ((2 : Nat) : Int)), (25, .d (.sl t 1 [ints u1 a, ints u2 b])), (6, .own 910 (if i = 0 then [] else if i = 1 then a else a ++ b).length)]) (fun i => [(910, .row 3 1 ((if i = 0 then [] else if i = 1 then a else a ++ b).map iD))]) (fun i => 2 - i) 0 (by decide) ?_
    intro i hi
    obtain rfl | rfl | rfl : i = 0 ∨ i = 1 ∨ i = 2 := by omega
    · simp only [if_true, List.map_nil, List.length_nil]
      repeat (first | refine wk ?_ | refine s_field (hr := ?_))
      --@
      exact t_next 1
    · simp only [if_neg (show ¬ (1 : Nat) = 0 by decide), if_true]
      have e1 : a.map iD ++ b.map iD = (a ++ b).map iD := by rw [List.map_append]
      repeat (first | refine wk ?_ | refine s_field (hr := ?_))
      --@
      rw [e1]
      exact t_next 2 (b := by decide)
    · simp only [if_neg (show ¬ (2 : Nat) = 0 by decide), if_neg (show ¬ (2 : Nat) = 1 by decide)]
      repeat (first | refine wk ?_ | refine s_field (hr := ?_))
      --@
      exact finx
end Go.Proofs.Yticnpbopelgmiaa
namespace Go.Proofs.Yticnpbopelgmiaa
open Go.RowKit
set_option maxRecDepth 100000
-- SimX

abbrev turnBx (n : Nat) (b : Bool) : Ob := .box 80 [.own 1001 n, B b]
abbrev turnH (all : List (List Work)) (b : Bool) : Hp := [(1000, turnBx all.length b), (1001, .row 81 1 (all.map (worksD false)))]
theorem aheadIn_step {x : Work} {A out : List Work} {k : Nat} (h : k < A.length) : aheadIn x (A.drop k) out = if 10 < (mixW x A[k]).right.length ∨ 160 < (out ++ [mixW x A[k]]).length then none else aheadIn x (A.drop (k + 1)) (out ++ [mixW x A[k]]) := by
  rw [List.drop_eq_getElem_cons h, aheadIn]
theorem aheadIn_end {x : Work} {A out : List Work} {k : Nat} (h : ¬ k < A.length) : aheadIn x (A.drop k) out = some out := by
  rw [List.drop_of_length_le (by omega), aheadIn]
theorem aheadW_step {A : List Work} {u : Int} {l out : List Work} {i : Nat} (h : i < l.length) : aheadW A u (l.drop i) out = if hdI l[i].right ≠ u then aheadW A u (l.drop (i + 1)) (out ++ [l[i]]) else
      match aheadIn l[i] A out with
      | none => none
      | some out' => aheadW A u (l.drop (i + 1)) out' := by
  rw [List.drop_eq_getElem_cons h, aheadW]; rfl
theorem hdI_at {r : List Int} (h : 0 < r.length) : hdI r = r[0] := by
  cases r with
  | nil => simp at h
  | cons a r => rfl
theorem aheadW_end {A : List Work} {u : Int} {l out : List Work} {i : Nat} (h : ¬ i < l.length) : aheadW A u (l.drop i) out = if 160 < out.length then none else some out := by
  rw [List.drop_of_length_le (by omega), aheadW]
set_option maxHeartbeats 8000000 in
theorem ahead_sim {g : Gram} (hg : g.ok) {all : List (List Work)} {l : List Work} {u N B : Nat} (hu : u < all.length) (h64 : all.length ≤ 64) (hA : ∀ y ∈ all.getD u [], TOk g 60 10 N true y) (hA160 : (all.getD u []).length ≤ 160) (hl : ∀ w ∈ l, TOk g B 10 N true w) (hl160 : l.length ≤ 160) (hB : B ≤ 3900) :
    ACalls Try.prog 60 [.ptr 1000 0, .d (worksD false l), I u] (turnH all false) (.d (worksD false ((aheadW (all.getD u []) u l []).getD []))) (turnH all (aheadW (all.getD u []) u l []).isNone) := by
  refine ACalls.intro (n := 81) Try.func60 rfl rfl (by simp) (by rfl) ?_
  simp only [argFr]
  have hml : (all.map (worksD false)).length = all.length := List.length_map _
  have eA : all.getD u [] = all[u] := by rw [List.getD_eq_getElem?_getD, List.getElem?_eq_getElem hu]; rfl
  rw [eA] at hA hA160 ⊢
  generalize hres : aheadW all[u] u l [] = res at *
  repeat (first | refine wk ?_ | refine s_field (hr := ?_))
  refine aw_nil 7 907 86 2 rfl rfl rfl ?_
  --@
  refine t_loop (X := Nat × List Work) (fun y => y.1 ≤ l.length ∧ y.2.length ≤ 160 + y.1 ∧ res = aheadW (all[u]) u (l.drop y.1) y.2) (fun y => [(15, I y.1), (14, I l.length), (13, .d (worksD false l)), (7, .own 907 y.2.length), (0, .ptr 1000 0), (0 + 1 + 1, I u)]) (fun y => [(907, .row 86 2 (y.2.map (workD false))), (1000, turnBx all.length false), (1001, .row 81 1 (all.map (worksD false)))]) (fun y => l.length - y.1) (0, []) ⟨Nat.zero_le _, Nat.zero_le _, hres.symm⟩ ?_
  rintro ⟨i, out⟩ ⟨h1, h2, h3⟩
  dsimp only at h1 h2 h3 ⊢
  by_cases hlt : i < l.length
  · have hx := hl _ (List.getElem_mem hlt)
    have hne := hx.ne rfl
    have h0 : 0 < l[i].right.length := List.length_pos_iff.2 hne
    have hhd := hdI_at h0
    rw [aheadW_step hlt, hhd] at h3
    have e1 : out.map (workD false) ++ [D.agg [ints false l[i].right, fragsD false l[i].l]] = (out ++ [l[i]]).map (workD false) := by rw [List.map_append]; rfl
    by_cases hh : l[i].right[0] = (u : Int)
    · rw [if_neg (fun q => q hh)] at h3
      have hu0 : hdI l[i].right = (u : Int) := by rw [hhd, hh]
      have hin : ∃ rI, aheadIn l[i] (all[u]) out = rI := ⟨_, rfl⟩
      obtain ⟨rI, hrI⟩ := hin
      rw [hrI] at h3
      have hxr := hx.rl
      have etl : List.drop 1 (List.take (l[i].right.map iD).length (l[i].right.map iD)) = l[i].right.tail.map iD := by
        rw [List.take_length, ← List.map_drop, List.drop_one]
      repeat (first | refine wk ?_ | refine s_field (hr := ?_))
      --@
      refine t_loop (X := Nat × List Work) (fun y => y.1 ≤ all[u].length ∧ y.2.length ≤ 160 + i ∧ rI = aheadIn l[i] (all[u].drop y.1) y.2) (fun y => [(37, I y.1), (36, I all[u].length), (35, .d (worksD false all[u])), (9, .ptr 9 0), (15, I i), (14, I l.length), (13, .d (worksD false l)), (7, .own 907 y.2.length), (0, .ptr 1000 0), (0 + 1 + 1, I u)]) (fun y => [(9, tworkBox false l[i]), (907, .row 86 2 (y.2.map (workD false))), (1000, turnBx all.length false), (1001, .row 81 1 (all.map (worksD false)))]) (fun y => all[u].length - y.1) (0, out) ⟨Nat.zero_le _, by dsimp only; omega, hrI.symm⟩ ?_
      rintro ⟨k, L⟩ ⟨k1, k2, k3⟩
      dsimp only at k1 k2 k3 ⊢
      by_cases hkl : k < all[u].length
      · have hy := hA _ (List.getElem_mem hkl)
        have hmix := mix_ok hx hy hu0 (by omega)
        have hcc := concat_sim (t := false) (u1 := false) (u2 := false) (a := all[u][k].right) (b := l[i].right.tail) (by have := hy.rl; omega) (by rw [List.length_tail]; omega)
        have hki := tkids_sim (t := false) (xs := all[u][k].right) (by have := hy.rl; omega)
        have hpl := tplug_sim (t := false) (u := false) hg hx hy (by omega) (by omega) (by omega) hu0 (by omega) (hmix.small _ _ hmix.sz (by have := hmix.rl; omega))
        have hyr := hy.rl
        rw [aheadIn_step hkl] at k3
        have e2 : L.map (workD false) ++ [D.agg [D.sl false 1 ((all[u][k].right ++ l[i].right.tail).map iD), fragsD false (mixW l[i] all[u][k]).l]] = (L ++ [mixW l[i] all[u][k]]).map (workD false) := by rw [List.map_append (f := workD false)]; rfl
        have e3 : (mixW l[i] all[u][k]).right = all[u][k].right ++ l[i].right.tail := rfl
        repeat (first | refine wk ?_ | refine s_field (hr := ?_))
        rw [etl]
        --@
        refine s_call [(910, 912)] (hA := hcc) (hr := ?_)
        repeat (first | refine wk ?_ | refine s_field (hr := ?_))
        --@
        refine s_call [] (hA := hki) (hr := ?_)
        repeat (first | refine wk ?_ | refine s_field (hr := ?_))
        --@
        refine s_call [] (hA := hpl) (hr := ?_)
        by_cases q1 : 10 < all[u][k].right.length + l[i].right.tail.length
        · rw [if_pos (.inl (by rw [e3, List.length_append]; exact q1))] at k3
          subst k3
          subst h3
          (repeat (first | refine wk ?_ | refine s_field (hr := ?_)))
          (repeat (first | refine wkz ?_ | refine s_field (hr := ?_)))
          repeat (first | refine wk ?_ | refine s_field (hr := ?_))
          --@
          exact fin
        · by_cases q2 : 160 < L.length + 1
          · rw [if_pos (.inr (by rw [List.length_append, List.length_singleton]; exact q2))] at k3
            subst k3
            subst h3
            repeat (first | refine wk ?_ | refine s_field (hr := ?_))
            --@
            exact fin
          · rw [if_neg (fun q => by
              rw [e3, List.length_append, List.length_append, List.length_singleton] at q
              omega)] at k3
            repeat (first | refine wk ?_ | refine s_field (hr := ?_))
            --@
            rw [e2]
            exact t_next (k + 1, L ++ [mixW l[i] all[u][k]]) (a := ⟨by omega, by simp; omega, k3⟩) (b := by dsimp only; omega)
      · rw [aheadIn_end hkl] at k3
        subst k3
        repeat (first | refine wk ?_ | refine s_field (hr := ?_))
        --@
        exact t_next (i + 1, L) (a := ⟨by omega, by dsimp only; omega, h3⟩) (b := by dsimp only; omega)
    · rw [if_pos hh] at h3
      repeat (first | refine wk ?_ | refine s_field (hr := ?_))
      --@
      rw [e1]
      exact t_next (i + 1, out ++ [l[i]]) (a := ⟨by omega, by simp; omega, h3⟩) (b := by dsimp only; omega)
  · rw [aheadW_end hlt] at h3
    by_cases hm : 160 < out.length
    · rw [if_pos hm] at h3
      subst h3
      repeat (first | refine wk ?_ | refine s_field (hr := ?_))
      --@
      exact fin
    · rw [if_neg hm] at h3
      subst h3
      refine aw_froz 907 rfl ?_
      repeat (first | refine wk ?_ | refine s_field (hr := ?_))
      --@
      exact fin
end Go.Proofs.Yticnpbopelgmiaa
