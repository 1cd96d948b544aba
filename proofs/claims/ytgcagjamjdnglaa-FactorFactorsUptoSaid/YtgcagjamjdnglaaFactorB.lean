/-
  Sim: factor's common, head, tail.
-/
import Derived.Test.YtgcagjamjdnglaaFactorA
set_option linter.unusedVariables false
set_option linter.unusedSimpArgs false
set_option linter.unusedSectionVars false
namespace Go.Proofs.Ytgcagjamjdnglaa
open Go.RowKit
set_option maxRecDepth 100000
-- SimX

theorem alikeN_more {a b : List Int} {n : Nat} (h : n ≤ alikeN a b) (ha : n < a.length) : (n < alikeN a b ↔ ∃ hb : n < b.length, b[n] = a[n]) := by
  constructor
  · intro h1
    obtain ⟨_, h2, h3⟩ := alikeN_get a b n h1
    exact ⟨h2, h3.symm⟩
  · rintro ⟨hb, he⟩
    rcases Nat.lt_or_ge n (alikeN a b) with hlt | hge
    · exact hlt
    · exfalso
      have e : alikeN a b = n := by omega
      rcases alikeN_stop a b with h1 | h1 | ⟨h1, h2, h3⟩
      · omega
      · omega
      · apply h3
        simp only [e]
        exact he.symm
theorem alikeN_self : ∀ (a : List Int), alikeN a a = a.length
  | [] => rfl
  | x :: a => by rw [alikeN, if_pos rfl, alikeN_self a]; rfl
set_option maxHeartbeats 4000000 in
theorem common_sim {t : Bool} {l : List Work} (h0 : 0 < l.length) (hl : l.length ≤ 100000) (hr : ∀ w ∈ l, w.right.length ≤ 100000) :
    ACalls Try.prog 162 [.d (worksD t l)] [] (I (commonN l[0].right l)) [] := by
  refine ACalls.intro (n := 36) Try.func162 rfl rfl (by simp) (by rfl) ?_
  simp only [argFr]
  repeat (first | refine wk ?_ | refine s_field (hr := ?_))
  have h0r := hr _ (List.getElem_mem h0)
  have hcl := commonN_le l[0].right l
  refine t_loop (X := Nat) (fun n => n ≤ commonN l[0].right l) (fun n => [(3, I n), (0, .d (worksD t l))]) (fun _ => []) (fun n => l[0].right.length - n) 0 (Nat.zero_le _) ?_
  intro n hn
  repeat (first | refine wk ?_ | refine s_field (hr := ?_))
  refine t_loop (X := Nat) (fun j => j ≤ l.length ∧ (0 < j → n < l[0].right.length) ∧ ∀ i (hi : i < l.length), i < j → n < alikeN l[0].right l[i].right) (fun j => [(10, I j), (9, I l.length), (8, .d (worksD t l)), (3, I n), (0, .d (worksD t l))]) (fun _ => []) (fun j => l.length - j) 0 ⟨Nat.zero_le _, fun h => by omega, fun i _ h => by omega⟩ ?_
  rintro j ⟨hj, hj0, hjn⟩
  by_cases hlt : j < l.length
  · have hrj := hr _ (List.getElem_mem hlt)
    have hnj : n ≤ alikeN l[0].right l[j].right := Nat.le_trans hn (commonN_mem (List.getElem_mem hlt))
    have hnj2 := (alikeN_le l[0].right l[j].right).2
    by_cases h1 : n < alikeN l[0].right l[j].right
    · obtain ⟨g1, g2, g3⟩ := alikeN_get _ _ _ h1
      have g3' : decide (l[j].right[n] = l[0].right[n]) = true := decide_eq_true g3.symm
      repeat (first | refine wk ?_ | refine s_field (hr := ?_))
      exact t_next (j + 1) (a := ⟨by omega, fun _ => g1, fun i hi hij => by
        by_cases e : i = j
        · subst e; exact h1
        · exact hjn i hi (by omega)⟩)
    · have hc : commonN l[0].right l = n := by
        have := commonN_mem (a := l[0].right) (List.getElem_mem hlt)
        omega
      rw [hc]
      by_cases h2 : n < l[j].right.length
      · have h3 : n < l[0].right.length := by
          rcases Nat.eq_zero_or_pos j with rfl | hp
          · exact h2
          · exact hj0 hp
        have h4 : l[j].right[n] ≠ l[0].right[n] := fun he => h1 ((alikeN_more hnj h3).2 ⟨h2, he⟩)
        have h5 : (!decide (l[j].right[n] = l[0].right[n])) = true := by simp [h4]
        repeat (first | refine wk ?_ | refine s_field (hr := ?_))
        exact fin
      · repeat (first | refine wkz ?_ | refine s_field (hr := ?_))
        exact fin
  · have hn1 : n < l[0].right.length := hj0 (by omega)
    have hnext : n + 1 ≤ commonN l[0].right l := commonN_ge hn1 (fun x hx => by
      obtain ⟨i, hi, rfl⟩ := List.getElem_of_mem hx
      exact hjn i hi (by omega))
    repeat (first | refine wk ?_ | refine s_field (hr := ?_))
    exact t_next (n + 1)
theorem headF_map (t : Bool) (n : Nat) (gap : Bool) : (headF n gap).map (fragD t) = [.agg [iD 4, iD n, fragsD t (gapL gap ++ holes n)]] := by simp [headF, fragD, fragDs_map]
theorem gapL_map (t : Bool) : (gapL true).map (fragD t) = [.agg [iD 3, iD 0, .sl t 3 []]] := by simp [gapL, fragD, fragDs]
theorem gholes_snoc (t : Bool) (G : List Frag) (k : Nat) : (G ++ holes (k + 1)).map (fragD t) = (G ++ holes k).map (fragD t) ++ [.agg [iD 2, iD k, .sl t 3 []]] := by
  rw [List.map_append, holes_dsnoc, List.map_append, List.append_assoc]
set_option maxHeartbeats 4000000 in
theorem head_sim {n : Nat} {gap : Bool} (hn : n ≤ 100000) :
    ACalls Try.prog 163 [I n, B gap] [] (.own 29 1) [(29, .row 114 3 ((headF n gap).map (fragD false)))] := by
  refine ACalls.intro (n := 30) Try.func163 rfl rfl (by simp) (by rfl) ?_
  simp only [argFr]
  have hh : ∀ i, (holes i).length = i := fun i => by simp [holes]
  have hg : (gapL gap).length ≤ 1 := by cases gap <;> simp [gapL]
  rw [headF_map]
  repeat (first | refine wk ?_ | refine s_field (hr := ?_))
  refine aw_nilCell 5 2 900 114 3 rfl rfl rfl rfl ?_
  cases gap with
  | false =>
    repeat (first | refine wk ?_ | refine s_field (hr := ?_))
    refine t_loop (X := Nat) (fun x => x ≤ n) (fun x => [(17, I x), (16, I n), (5, .ptr 5 0)]) (fun x => [(5, .box 114 [.d (iD 4), .d (iD n), .own 900 (gapL false ++ holes x).length]), (900, .row 114 3 ((gapL false ++ holes x).map (fragD false)))]) (fun x => n - x) 0 (Nat.zero_le _) ?_
    intro i h1
    have hhi := hh i
    have hhi' := hh (i + 1)
    by_cases hlt : i < n
    · have e := gholes_snoc false (gapL false) i
      have e' : (gapL false ++ holes (i + 1)).length = (gapL false ++ holes i).length + 1 := by simp [hh]; omega
      have hl : (gapL false ++ holes i).length ≤ n + 1 := by simp [hh]; omega
      repeat (first | refine wk ?_ | refine s_field (hr := ?_))
      exact t_next (i + 1)
    · obtain rfl : i = n := by omega
      refine aw_froz 900 rfl ?_
      repeat (first | refine wk ?_ | refine s_field (hr := ?_))
      exact fin
  | true =>
    repeat (first | refine wk ?_ | refine s_field (hr := ?_))
    obtain ⟨T, hT⟩ : ∃ T : Nat → List Frag, ∀ j, T j = gapL true ++ holes j := ⟨_, fun _ => rfl⟩
    have hTl : ∀ j, (T j).length = 1 + j := fun j => by rw [hT, List.length_append, hh]; rfl
    have e0 : (T 0).map (fragD false) = [] ++ [.agg [iD 3, iD 0, .sl false 3 []]] := by rw [hT]; simp [gapL, holes, fragD, fragDs]
    have hT0 := hTl 0
    rw [← hT]
    refine t_loop (X := Nat) (fun x => x ≤ n) (fun x => [(17, I x), (16, I n), (5, .ptr 5 0)]) (fun x => [(5, .box 114 [.d (iD 4), .d (iD n), .own 900 (T x).length]), (900, .row 114 3 ((T x).map (fragD false)))]) (fun x => n - x) 0 (Nat.zero_le _) ?_
      (hh := ⟨box_eq rfl (by rw [hT0]; rfl), row_le rfl (DLes.snoc (a := []) e0 (.agg (.cons (.refl _) (.cons (.refl _) (.cons (.nil _ _) .nil))))), trivial⟩)
    clear e0 hT0
    intro i h1
    have hTi := hTl i
    have hTi' := hTl (i + 1)
    by_cases hlt : i < n
    · have e : (T (i + 1)).map (fragD false) = (T i).map (fragD false) ++ [.agg [iD 2, iD i, .sl false 3 []]] := by rw [hT, hT, gholes_snoc]
      repeat (first | refine wk ?_ | refine s_field (hr := ?_))
      exact t_next (i + 1)
    · obtain rfl : i = n := by omega
      refine aw_froz 900 rfl ?_
      repeat (first | refine wk ?_ | refine s_field (hr := ?_))
      exact fin
theorem gap_at {gap : Bool} {m j : Nat} (h : j < (gapL gap ++ holes m).length) : (j < (gapL gap).length ∧ (gapL gap ++ holes m)[j].op = 3) ∨ ((gapL gap).length ≤ j ∧ (gapL gap ++ holes m)[j].op = 2 ∧ (gapL gap ++ holes m)[j].n = ((j - (gapL gap).length : Nat) : Int)) := by
  by_cases hj : j < (gapL gap).length
  · refine .inl ⟨hj, ?_⟩
    rw [List.getElem_append_left hj]
    cases gap with
    | false => simp [gapL] at hj
    | true => simp [gapL] at hj; subst hj; rfl
  · refine .inr ⟨by omega, ?_⟩
    rw [List.getElem_append_right (by omega)]
    simp [holes, Frag.op, Frag.n]
set_option maxHeartbeats 4000000 in
theorem tail_sim {t : Bool} {r : Int} {m n : Nat} {gap : Bool} (hn : n ≤ 100000) (hm : m ≤ 100000) :
    ACalls Try.prog 164 [.d (fragsD t [.mk 1 r (gapL gap ++ holes m)]), I n] [] (.own 43 1) [(43, .row 114 3 ((tailF r (m - n)).map (fragD false)))] := by
  refine ACalls.intro (n := 44) Try.func164 rfl rfl (by simp) (by rfl) ?_
  simp only [argFr]
  have hh : ∀ i, (holes i).length = i := fun i => by simp [holes]
  have hg : (gapL gap).length ≤ 1 := by cases gap <;> simp [gapL]
  have hL : (gapL gap ++ holes m).length = (gapL gap).length + m := by simp [hh]
  have hat := fun j h => gap_at (gap := gap) (m := m) (j := j) h
  have hmap : (tailF r (m - n)).map (fragD false) = [.agg [iD 1, iD r, fragsD false (.mk 3 0 [] :: holes (m - n))]] := by simp [tailF, fragD, fragDs_map]
  rw [hmap]
  repeat (first | refine wk ?_ | refine s_field (hr := ?_))
  have hf0 : [Frag.mk 1 r (gapL gap ++ holes m)][0] = Frag.mk 1 r (gapL gap ++ holes m) := rfl
  rw [hf0]
  generalize hLL : gapL gap ++ holes m = L at *
  generalize hgg : (gapL gap).length = gg at *
  obtain ⟨T, hT⟩ : ∃ T : Nat → List Frag, ∀ j, T j = Frag.mk 3 0 [] :: holes ((j - gg) - n) := ⟨_, fun _ => rfl⟩
  have hTl : ∀ j, (T j).length = 1 + ((j - gg) - n) := fun j => by rw [hT, List.length_cons, hh]; omega
  have e0 : (T 0).map (fragD false) = [] ++ [.agg [iD 3, iD 0, .sl false 3 []]] := by rw [hT, show 0 - gg - n = 0 by omega]; simp [holes, fragD, fragDs]
  have e := e0
  have hT0 : (T 0).length = 1 := by rw [hTl]; omega
  refine t_loop (X := Nat) (fun j => j ≤ L.length) (fun j => [(17, I j), (16, I L.length), (15, .d (fragsD t L)), (6, .own 13 (T j).length), (5, .ptr 5 0), (1, I n)]) (fun j => [(13, .row 114 3 ((T j).map (fragD false))), (5, .box 114 [.d (iD 1), .d (iD r), .d (fragsD t L)])]) (fun j => L.length - j) 0 (Nat.zero_le _) ?_ (hh := ⟨row_le rfl (DLes.snoc (a := []) e0 (.agg (.cons (.refl _) (.cons (.refl _) (.cons (.nil _ _) .nil))))), .of rfl, trivial⟩)
  clear e e0 hT0
  intro j hj
  have hTj := hTl j
  have hTj' := hTl (j + 1)
  by_cases hlt : j < L.length
  · rcases hat j hlt with ⟨h1, h2⟩ | ⟨h1, h2, h3⟩
    · have hTe : T (j + 1) = T j := by rw [hT, hT, show j + 1 - gg - n = j - gg - n by omega]
      (repeat (first | refine wkz ?_ | refine s_field (hr := ?_)))
      rw [← hTe]
      exact t_next (j + 1)
    · by_cases h4 : (n : Int) ≤ L[j].n
      · have e : (T (j + 1)).map (fragD false) = (T j).map (fragD false) ++ [.agg [iD 2, iD (L[j].n - n), .sl false 3 []]] := by
          rw [hT, hT, show j + 1 - gg - n = (j - gg - n) + 1 by omega, h3, List.map_cons, holes_dsnoc, List.map_cons, List.cons_append]
          rw [show ((j - gg : Nat) : Int) - (n : Int) = ((j - gg - n : Nat) : Int) by omega]
        have hn0 : 0 ≤ L[j].n := by omega
        have hn1 : L[j].n ≤ 100000 := by omega
        repeat (first | refine wk ?_ | refine s_field (hr := ?_))
        exact t_next (j + 1)
      · have hTe : T (j + 1) = T j := by rw [hT, hT, show j + 1 - gg - n = j - gg - n by omega]
        repeat (first | refine wk ?_ | refine s_field (hr := ?_))
        rw [← hTe]
        exact t_next (j + 1)
  · obtain rfl : j = L.length := by omega
    have hTe : T L.length = Frag.mk 3 0 [] :: holes (m - n) := by rw [hT, show L.length - gg - n = m - n by omega]
    rw [← hTe]
    repeat (first | refine wk ?_ | refine s_field (hr := ?_))
    exact fin
end Go.Proofs.Ytgcagjamjdnglaa
