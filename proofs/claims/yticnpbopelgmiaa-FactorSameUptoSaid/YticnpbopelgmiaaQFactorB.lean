/-
  Sim: factor's common, head, tail. Sim: slices.Index, slices.Contains of whole numbers. Sim: the factorer's step.
-/
import Derived.Test.YticnpbopelgmiaaQFactorR
import Derived.Test.YticnpbopelgmiaaG1
set_option linter.unusedVariables false
set_option linter.unusedSimpArgs false
set_option linter.unusedSectionVars false
namespace Go.Proofs.Yticnpbopelgmiaa
open Go.RowKit
set_option maxRecDepth 100000
-- SimX

theorem alikeN_more {a b : List Int} {n : Nat} (h : n ≤ alikeN a b) (ha : n < a.length) : (n < alikeN a b ↔ ∃ hb : n < b.length, b[n] = a[n]) := by
  constructor
  · intro h1
    obtain ⟨_, h2, h3⟩ := alikeN_get a b n h1
    exact ⟨h2, h3.symm⟩
  · rintro ⟨hb, he⟩
    rcases Nat.lt_or_ge n (alikeN a b) with hlt | hge
    · exact hlt
    · exfalso
      have e : alikeN a b = n := by omega
      rcases alikeN_stop a b with h1 | h1 | ⟨h1, h2, h3⟩
      · omega
      · omega
      · apply h3
        simp only [e]
        exact he.symm
set_option maxHeartbeats 4000000 in
theorem common_sim {t : Bool} {l : List Work} (h0 : 0 < l.length) (hl : l.length ≤ 100000) (hr : ∀ w ∈ l, w.right.length ≤ 100000) :
    ACalls Try.prog 142 [.d (worksD t l)] [] (I (commonN l[0].right l)) [] := by
  refine ACalls.intro (n := 36) Try.func142 rfl rfl (by simp) (by rfl) ?_
  simp only [argFr]
  repeat (first | refine wk ?_ | refine s_field (hr := ?_))
  have h0r := hr _ (List.getElem_mem h0)
  have hcl := commonN_le l[0].right l
  refine t_loop (X := Nat) (fun n => n ≤ commonN l[0].right l) (fun n => [(3, I n), (0, .d (worksD t l))]) (fun _ => []) (fun n => l[0].right.length - n) 0 (Nat.zero_le _) ?_
  intro n hn
  repeat (first | refine wk ?_ | refine s_field (hr := ?_))
  refine t_loop (X := Nat) (fun j => j ≤ l.length ∧ (0 < j → n < l[0].right.length) ∧ ∀ i (hi : i < l.length), i < j → n < alikeN l[0].right l[i].right) (fun j => [(10, I j), (9, I l.length), (8, .d (worksD t l)), (3, I n), (0, .d (worksD t l))]) (fun _ => []) (fun j => l.length - j) 0 ⟨Nat.zero_le _, fun h => by omega, fun i _ h => by omega⟩ ?_
  rintro j ⟨hj, hj0, hjn⟩
  by_cases hlt : j < l.length
  · have hrj := hr _ (List.getElem_mem hlt)
    have hnj : n ≤ alikeN l[0].right l[j].right := Nat.le_trans hn (commonN_mem (List.getElem_mem hlt))
    have hnj2 := (alikeN_le l[0].right l[j].right).2
    by_cases h1 : n < alikeN l[0].right l[j].right
    · obtain ⟨g1, g2, g3⟩ := alikeN_get _ _ _ h1
      have g3' : decide (l[j].right[n] = l[0].right[n]) = true := decide_eq_true g3.symm
      repeat (first | refine wk ?_ | refine s_field (hr := ?_))
      exact t_next (j + 1) (a := ⟨by omega, fun _ => g1, fun i hi hij => by
        by_cases e : i = j
        · subst e; exact h1
        · exact hjn i hi (by omega)⟩)
    · have hc : commonN l[0].right l = n := by
        have := commonN_mem (a := l[0].right) (List.getElem_mem hlt)
        omega
      rw [hc]
      by_cases h2 : n < l[j].right.length
      · have h3 : n < l[0].right.length := by
          rcases Nat.eq_zero_or_pos j with rfl | hp
          · exact h2
          · exact hj0 hp
        have h4 : l[j].right[n] ≠ l[0].right[n] := fun he => h1 ((alikeN_more hnj h3).2 ⟨h2, he⟩)
        have h5 : (!decide (l[j].right[n] = l[0].right[n])) = true := by simp [h4]
        repeat (first | refine wk ?_ | refine s_field (hr := ?_))
        exact fin
      · repeat (first | refine wkz ?_ | refine s_field (hr := ?_))
        exact fin
  · have hn1 : n < l[0].right.length := hj0 (by omega)
    have hnext : n + 1 ≤ commonN l[0].right l := commonN_ge hn1 (fun x hx => by
      obtain ⟨i, hi, rfl⟩ := List.getElem_of_mem hx
      exact hjn i hi (by omega))
    repeat (first | refine wk ?_ | refine s_field (hr := ?_))
    exact t_next (n + 1)
theorem headF_map (t : Bool) (n : Nat) (gap : Bool) : (headF n gap).map (fragD t) = [.agg [iD 4, iD n, fragsD t (gapL gap ++ holes n)]] := by simp [headF, fragD, fragDs_map]
theorem gholes_snoc (t : Bool) (G : List Frag) (k : Nat) : (G ++ holes (k + 1)).map (fragD t) = (G ++ holes k).map (fragD t) ++ [.agg [iD 2, iD k, .sl t 3 []]] := by
  rw [List.map_append, holes_dsnoc, List.map_append, List.append_assoc]
set_option maxHeartbeats 4000000 in
theorem head_sim {n : Nat} {gap : Bool} (hn : n ≤ 100000) :
    ACalls Try.prog 143 [I n, B gap] [] (.own 29 1) [(29, .row 67 3 ((headF n gap).map (fragD false)))] := by
  refine ACalls.intro (n := 30) Try.func143 rfl rfl (by simp) (by rfl) ?_
  simp only [argFr]
  have hh : ∀ i, (holes i).length = i := fun i => by simp [holes]
  have hg : (gapL gap).length ≤ 1 := by cases gap <;> simp [gapL]
  rw [headF_map]
  repeat (first | refine wk ?_ | refine s_field (hr := ?_))
  refine aw_nilCell 5 2 900 67 3 rfl rfl rfl rfl ?_
  cases gap with
  | false =>
    repeat (first | refine wk ?_ | refine s_field (hr := ?_))
    refine t_loop (X := Nat) (fun x => x ≤ n) (fun x => [(17, I x), (16, I n), (5, .ptr 5 0)]) (fun x => [(5, .box 67 [.d (iD 4), .d (iD n), .own 900 (gapL false ++ holes x).length]), (900, .row 67 3 ((gapL false ++ holes x).map (fragD false)))]) (fun x => n - x) 0 (Nat.zero_le _) ?_
    intro i h1
    have hhi := hh i
    have hhi' := hh (i + 1)
    by_cases hlt : i < n
    · have e := gholes_snoc false (gapL false) i
      have e' : (gapL false ++ holes (i + 1)).length = (gapL false ++ holes i).length + 1 := by simp [hh]; omega
      have hl : (gapL false ++ holes i).length ≤ n + 1 := by simp [hh]; omega
      repeat (first | refine wk ?_ | refine s_field (hr := ?_))
      exact t_next (i + 1)
    · obtain rfl : i = n := by omega
      refine aw_froz 900 rfl ?_
      repeat (first | refine wk ?_ | refine s_field (hr := ?_))
      exact fin
  | true =>
    repeat (first | refine wk ?_ | refine s_field (hr := ?_))
    obtain ⟨T, hT⟩ : ∃ T : Nat → List Frag, ∀ j, T j = gapL true ++ holes j := ⟨_, fun _ => rfl⟩
    have hTl : ∀ j, (T j).length = 1 + j := fun j => by rw [hT, List.length_append, hh]; rfl
    have e0 : (T 0).map (fragD false) = [] ++ [.agg [iD 3, iD 0, .sl false 3 []]] := by rw [hT]; simp [gapL, holes, fragD, fragDs]
    have hT0 := hTl 0
    rw [← hT]
    refine t_loop (X := Nat) (fun x => x ≤ n) (fun x => [(17, I x), (16, I n), (5, .ptr 5 0)]) (fun x => [(5, .box 67 [.d (iD 4), .d (iD n), .own 900 (T x).length]), (900, .row 67 3 ((T x).map (fragD false)))]) (fun x => n - x) 0 (Nat.zero_le _) ?_
      (hh := ⟨box_eq rfl (by rw [hT0]; rfl), row_le rfl (DLes.snoc (a := []) e0 (.agg (.cons (.refl _) (.cons (.refl _) (.cons (.nil _ _) .nil))))), trivial⟩)
    clear e0 hT0
    intro i h1
    have hTi := hTl i
    have hTi' := hTl (i + 1)
    by_cases hlt : i < n
    · have e : (T (i + 1)).map (fragD false) = (T i).map (fragD false) ++ [.agg [iD 2, iD i, .sl false 3 []]] := by rw [hT, hT, gholes_snoc]
      repeat (first | refine wk ?_ | refine s_field (hr := ?_))
      exact t_next (i + 1)
    · obtain rfl : i = n := by omega
      refine aw_froz 900 rfl ?_
      repeat (first | refine wk ?_ | refine s_field (hr := ?_))
      exact fin
theorem gap_at {gap : Bool} {m j : Nat} (h : j < (gapL gap ++ holes m).length) : (j < (gapL gap).length ∧ (gapL gap ++ holes m)[j].op = 3) ∨ ((gapL gap).length ≤ j ∧ (gapL gap ++ holes m)[j].op = 2 ∧ (gapL gap ++ holes m)[j].n = ((j - (gapL gap).length : Nat) : Int)) := by
  by_cases hj : j < (gapL gap).length
  · refine .inl ⟨hj, ?_⟩
    rw [List.getElem_append_left hj]
    cases gap with
    | false => simp [gapL] at hj
    | true => simp [gapL] at hj; subst hj; rfl
  · refine .inr ⟨by omega, ?_⟩
    rw [List.getElem_append_right (by omega)]
    simp [holes, Frag.op, Frag.n]
set_option maxHeartbeats 4000000 in
theorem tail_sim {t : Bool} {r : Int} {m n : Nat} {gap : Bool} (hn : n ≤ 100000) (hm : m ≤ 100000) :
    ACalls Try.prog 144 [.d (fragsD t [.mk 1 r (gapL gap ++ holes m)]), I n] [] (.own 43 1) [(43, .row 67 3 ((tailF r (m - n)).map (fragD false)))] := by
  refine ACalls.intro (n := 44) Try.func144 rfl rfl (by simp) (by rfl) ?_
  simp only [argFr]
  have hh : ∀ i, (holes i).length = i := fun i => by simp [holes]
  have hg : (gapL gap).length ≤ 1 := by cases gap <;> simp [gapL]
  have hL : (gapL gap ++ holes m).length = (gapL gap).length + m := by simp [hh]
  have hat := fun j h => gap_at (gap := gap) (m := m) (j := j) h
  have hmap : (tailF r (m - n)).map (fragD false) = [.agg [iD 1, iD r, fragsD false (.mk 3 0 [] :: holes (m - n))]] := by simp [tailF, fragD, fragDs_map]
  rw [hmap]
  repeat (first | refine wk ?_ | refine s_field (hr := ?_))
  have hf0 : [Frag.mk 1 r (gapL gap ++ holes m)][0] = Frag.mk 1 r (gapL gap ++ holes m) := rfl
  rw [hf0]
  generalize hLL : gapL gap ++ holes m = L at *
  generalize hgg : (gapL gap).length = gg at *
  obtain ⟨T, hT⟩ : ∃ T : Nat → List Frag, ∀ j, T j = Frag.mk 3 0 [] :: holes ((j - gg) - n) := ⟨_, fun _ => rfl⟩
  have hTl : ∀ j, (T j).length = 1 + ((j - gg) - n) := fun j => by rw [hT, List.length_cons, hh]; omega
  have e0 : (T 0).map (fragD false) = [] ++ [.agg [iD 3, iD 0, .sl false 3 []]] := by rw [hT, show 0 - gg - n = 0 by omega]; simp [holes, fragD, fragDs]
  have e := e0
  have hT0 : (T 0).length = 1 := by rw [hTl]; omega
  refine t_loop (X := Nat) (fun j => j ≤ L.length) (fun j => [(17, I j), (16, I L.length), (15, .d (fragsD t L)), (6, .own 13 (T j).length), (5, .ptr 5 0), (1, I n)]) (fun j => [(13, .row 67 3 ((T j).map (fragD false))), (5, .box 67 [.d (iD 1), .d (iD r), .d (fragsD t L)])]) (fun j => L.length - j) 0 (Nat.zero_le _) ?_ (hh := ⟨row_le rfl (DLes.snoc (a := []) e0 (.agg (.cons (.refl _) (.cons (.refl _) (.cons (.nil _ _) .nil))))), .of rfl, trivial⟩)
  clear e e0 hT0
  intro j hj
  have hTj := hTl j
  have hTj' := hTl (j + 1)
  by_cases hlt : j < L.length
  · rcases hat j hlt with ⟨h1, h2⟩ | ⟨h1, h2, h3⟩
    · have hTe : T (j + 1) = T j := by rw [hT, hT, show j + 1 - gg - n = j - gg - n by omega]
      (repeat (first | refine wkz ?_ | refine s_field (hr := ?_)))
      rw [← hTe]
      exact t_next (j + 1)
    · by_cases h4 : (n : Int) ≤ L[j].n
      · have e : (T (j + 1)).map (fragD false) = (T j).map (fragD false) ++ [.agg [iD 2, iD (L[j].n - n), .sl false 3 []]] := by
          rw [hT, hT, show j + 1 - gg - n = (j - gg - n) + 1 by omega, h3, List.map_cons, holes_dsnoc, List.map_cons, List.cons_append]
          rw [show ((j - gg : Nat) : Int) - (n : Int) = ((j - gg - n : Nat) : Int) by omega]
        have hn0 : 0 ≤ L[j].n := by omega
        have hn1 : L[j].n ≤ 100000 := by omega
        repeat (first | refine wk ?_ | refine s_field (hr := ?_))
        exact t_next (j + 1)
      · have hTe : T (j + 1) = T j := by rw [hT, hT, show j + 1 - gg - n = j - gg - n by omega]
        repeat (first | refine wk ?_ | refine s_field (hr := ?_))
        rw [← hTe]
        exact t_next (j + 1)
  · obtain rfl : j = L.length := by omega
    have hTe : T L.length = Frag.mk 3 0 [] :: holes (m - n) := by rw [hT, show L.length - gg - n = m - n by omega]
    rw [← hTe]
    repeat (first | refine wk ?_ | refine s_field (hr := ?_))
    exact fin
end Go.Proofs.Yticnpbopelgmiaa
namespace Go.Proofs.Yticnpbopelgmiaa
open Go.RowKit
set_option maxRecDepth 100000

theorem index_sim {t : Bool} {xs : List Int} {v : Int} (hl : xs.length ≤ 100000000 := by ((try simp only [List.length_map, List.length_append, List.length_cons, List.length_nil, List.length_replicate, List.length_set, List.length_take, List.length_drop]); first | omega | assumption)) :
    ACalls Try.prog 79 [.d (ints t xs), I v] [] (I (idxR (fun y => decide (v = y)) xs 0)) [] := by
  refine ACalls.intro (n := 19) Try.func79 rfl rfl (by simp) (by rfl) ?_
  simp only [argFr]
  repeat (first | refine wk ?_)
  refine t_loop (X := Nat) (fun k => k ≤ xs.length ∧ idxR (fun y => decide (v = y)) xs 0 = idxR (fun y => decide (v = y)) (xs.drop k) k) (fun k => [(8, I k), (7, I xs.length), (1, I v), (0, .d (ints t xs))]) (fun _ => []) (fun k => xs.length - k) 0 ⟨Nat.zero_le _, rfl⟩ ?_
  rintro k ⟨hk, hp⟩
  by_cases hlt : k < xs.length
  · have hs := idxR_step (p := fun y => decide (v = y)) hlt
    by_cases hv : v = xs[k]
    · rw [decide_eq_true hv, cond_true] at hs
      rw [hp, hs]
      repeat (first | refine wk ?_)
      exact fin
    · rw [decide_eq_false hv, cond_false] at hs
      repeat (first | refine wk ?_)
      exact t_next (k + 1) (a := ⟨by omega, hp.trans hs⟩)
  · rw [hp, idxR_end hlt]
    repeat (first | refine wk ?_)
    exact fin
theorem contains_sim {t : Bool} {xs : List Int} {v : Int} (hl : xs.length ≤ 100000000 := by ((try simp only [List.length_map, List.length_append, List.length_cons, List.length_nil, List.length_replicate, List.length_set, List.length_take, List.length_drop]); first | omega | assumption)) :
    ACalls Try.prog 78 [.d (ints t xs), I v] [] (B (xs.any (fun y => decide (v = y)))) [] := by
  refine ACalls.intro (n := 9) Try.func78 rfl rfl (by simp) (by rfl) ?_
  simp only [argFr]
  repeat (first | refine wk ?_)
  refine s_call [] (hA := index_sim) (hr := ?_)
  repeat (first | refine wk ?_)
  rw [← idxR_any (fun y => decide (v = y)) xs 0]
  exact fin
end Go.Proofs.Yticnpbopelgmiaa
namespace Go.Proofs.Yticnpbopelgmiaa
open Go.RowKit
set_option maxRecDepth 100000
-- SimX

abbrev facBox (g : Gram) (n : Nat) : Ob := .box 132 [.d (iD g.vars), .d (iD g.terms), .d (iD g.start), .d (rulesD false g.rules), .own 1001 n]
abbrev facH (g : Gram) (all : List (List Work)) : Hp := [(1000, facBox g all.length), (1001, .row 133 1 (all.map (worksD false)))]
theorem samesW_skip {at_ : List Int} : ∀ {l : List Work} {i k : Nat} (hk : k < l.length), (∀ j, j < k → inL at_ (i + j) = false) → inL at_ (i + k) = true → ∃ r, samesW at_ l i = l[k] :: r
  | x :: l, i, 0, _, _, h => ⟨samesW at_ l (i + 1), by rw [samesW, if_pos (by simpa using h)]; rfl⟩
  | x :: l, i, k + 1, hk, h0, h => by
    rw [samesW, if_neg (by have := h0 0 (by omega); simpa using this)]
    obtain ⟨r, hr⟩ := samesW_skip (l := l) (i := i + 1) (k := k) (by simpa using hk) (fun j hj => by have := h0 (j + 1) (by omega); rwa [show i + 1 + j = i + (j + 1) by omega]) (by rwa [show i + 1 + k = i + (k + 1) by omega])
    exact ⟨r, by simpa using hr⟩
theorem group_skip {l : List Work} {k : Nat} {g : Gram} {gap : Bool} {n : Nat} (G : GrpK g gap l (groupW l 0) k n) (hne : groupW l 0 ≠ []) : ∃ r, samesW (groupW l 0) l 0 = (l[k]'G.hk) :: r := by
  obtain ⟨k', h1, h2, h3, h4⟩ := groupW_spec hne
  have hkk : k = k' := by
    have := G.at0
    rw [h2] at this
    simp at this; omega
  subst hkk
  refine samesW_skip G.hk (fun j hj => ?_) (by rw [Nat.zero_add, G.inn k G.hk]; exact G.self)
  rw [Nat.zero_add]
  cases hc : inL (groupW l 0) j with
  | false => rfl
  | true =>
    exfalso
    rw [inL, h2, List.any_eq_true] at hc
    obtain ⟨y, hy, e⟩ := hc
    have e := of_decide_eq_true e
    rcases List.mem_cons.1 hy with rfl | hy
    · omega
    · obtain ⟨j2, d1, d2, _⟩ := mates_mem hy
      omega
theorem groupW_le : ∀ (l : List Work) (i : Nat), (groupW l i).length ≤ l.length
  | [], i => by simp [groupW]
  | x :: l, i => by
    have h1 := groupW_le l (i + 1)
    have h2 := mates_le x.right l (i + 1)
    rw [groupW]; split <;> simp only [List.length_cons] <;> omega
theorem samesW_le {at_ : List Int} : ∀ (l : List Work) (i : Nat), (samesW at_ l i).length ≤ l.length
  | [], i => by simp [samesW]
  | x :: r, i => by
    have ih := samesW_le (at_ := at_) r (i + 1)
    rw [samesW]; split <;> simp only [List.length_cons] <;> omega
set_option maxHeartbeats 8000000 in
theorem one_no {g : Gram} {all : List (List Work)} {v : Nat} (hv : v < all.length) (h : FInv g all v) (hW : ∀ l ∈ all, l.length ≤ 160) (hne : groupW (all.getD v []) 0 = []) :
    ACalls Try.prog 93 [.ptr 1000 0, I v] (facH g all) (B false) (facH g all) := by
  refine ACalls.intro (n := 137) Try.func93 rfl rfl (by simp) (by rfl) ?_
  simp only [argFr]
  have hl64 := h.len
  have hm := List.getElem_mem hv
  have hgr := group_sim (t := false) (l := all[v]) (by have := hW _ hm; omega) (fun w hw => by have := (h.ok _ hm w hw).len; omega)
  have e : all.getD v [] = all[v] := by rw [List.getD_eq_getElem?_getD, List.getElem?_eq_getElem hv]; rfl
  rw [e] at hne
  rw [hne] at hgr
  repeat (first | refine wk ?_ | refine s_field (hr := ?_))
  refine s_callf [] (hA := hgr) (hr := ?_)
  repeat (first | refine wk ?_ | refine s_field (hr := ?_))
  exact fin
set_option maxHeartbeats 8000000 in
theorem one_yes {g : Gram} {all : List (List Work)} {v : Nat} (hg : g.ok) (hv : v < all.length) (h : FInv g all v) (hW : ∀ l ∈ all, l.length ≤ 160) (hne : groupW (all.getD v []) 0 ≠ []) :
    ACalls Try.prog 93 [.ptr 1000 0, I v] (facH g all) (B true) (facH g (oneW g.vars.toNat all v (groupW (all.getD v []) 0))) := by
  refine ACalls.intro (n := 137) Try.func93 rfl rfl (by simp) (by rfl) ?_
  simp only [argFr]
  have hl64 := h.len
  have hm := List.getElem_mem hv
  have hgr := group_sim (t := false) (l := all[v]) (by have := hW _ hm; omega) (fun w hw => by have := (h.ok _ hm w hw).len; omega)
  have e : all.getD v [] = all[v] := by rw [List.getD_eq_getElem?_getD, List.getElem?_eq_getElem hv]; rfl
  obtain ⟨k, G⟩ := h.grp hne
  have hone : oneW g.vars.toNat all v (groupW (all.getD v []) 0) = all.set v (leftsW (groupW (all.getD v []) 0) (headW g.vars.toNat all.length v (all.getD v []) (groupW (all.getD v []) 0)) (all.getD v []) 0) ++
    [(samesW (groupW (all.getD v []) 0) (all.getD v []) 0).map (restW (comW (all.getD v []) (groupW (all.getD v []) 0)) (kids ((firstR (all.getD v []) (groupW (all.getD v []) 0)).take (comW (all.getD v []) (groupW (all.getD v []) 0)))).length)] := rfl
  have hhd : headW g.vars.toNat all.length v (all.getD v []) (groupW (all.getD v []) 0) = ⟨(firstR (all.getD v []) (groupW (all.getD v []) 0)).take (comW (all.getD v []) (groupW (all.getD v []) 0)) ++ [(all.length : Int)], headF (kids ((firstR (all.getD v []) (groupW (all.getD v []) 0)).take (comW (all.getD v []) (groupW (all.getD v []) 0)))).length (decide (g.vars.toNat ≤ v))⟩ := rfl
  obtain ⟨sr, hsk⟩ := group_skip G hne
  have hlW := hW _ hm
  have hok := h.ok _ hm
  rw [hone, hhd]
  clear hone hhd
  rw [← e] at hlW hok hgr
  have hel : (all.map (worksD false))[v]? = some (worksD false (all.getD v [])) := by rw [List.getElem?_map, List.getElem?_eq_getElem hv, e]; rfl
  generalize all.getD v [] = l at *
  have hcs := common_sim (t := false) (l := samesW (groupW l 0) l 0) (by rw [hsk]; simp) (by have := samesW_le (at_ := groupW l 0) l 0; omega) (fun w hw => by
    obtain ⟨j, h1, rfl, _⟩ := samesW_mem hw
    have := (hok _ (List.getElem_mem h1)).len; omega)
  have hgl := groupW_le l 0
  generalize groupW l 0 = at_ at *
  have hfr := G.first
  have hcom : commonN ((samesW at_ l 0)[0]'(by rw [hsk]; simp)).right (samesW at_ l 0) = comW l at_ := by
    show _ = commonN (firstR l at_) (samesW at_ l 0)
    rw [hfr]; simp only [hsk, List.getElem_cons_zero]
  rw [hcom] at hcs
  generalize comW l at_ = n at *
  generalize firstR l at_ = fr at *
  have hkr := (hok _ (List.getElem_mem G.hk)).len
  have hnl := G.nl
  rw [← hfr] at hkr hnl
  have hat0 := G.at0
  have hatl : 0 < at_.length := by
    cases at_ with
    | nil => exact absurd rfl hne
    | cons _ _ => simp
  have hat0' : at_[0] = (k : Int) := by rw [← hat0, List.getD_eq_getElem?_getD, List.getElem?_eq_getElem hatl]; rfl
  have hkk := G.hk
  repeat (first | refine wk ?_ | refine s_field (hr := ?_))
  rw [← e]
  refine s_callf [] (hA := hgr) (hr := ?_)
  repeat (first | refine wk ?_ | refine s_field (hr := ?_))
  refine aw_nil 7 907 135 2 rfl rfl rfl ?_
  refine aw_nil 8 908 135 2 rfl rfl rfl ?_
  refine t_loop (X := Nat) (fun i => i ≤ l.length) (fun i => [(32, I i), (31, I l.length), (30, .d (worksD false l)), (5, .d (worksD false l)), (6, .d (ints false at_)), (7, .own 907 (samesW at_ (l.take i) 0).length), (8, .own 908 0), (0, .ptr 1000 0), (1, I v)])
    (fun i => [(907, .row 135 2 ((samesW at_ (l.take i) 0).map (workD false))), (908, .row 135 2 []), (1000, facBox g all.length), (1001, .row 133 1 (all.map (worksD false)))]) (fun i => l.length - i) 0 (Nat.zero_le _) ?_
  intro i hi
  by_cases hlt : i < l.length
  · have hs := samesW_snoc (at_ := at_) hlt
    have hct := contains_sim (t := false) (xs := at_) (v := (i : Int)) (by omega)
    rw [show at_.any (fun y => decide ((i : Int) = y)) = inL at_ i from rfl] at hct
    have hsl := samesW_le (at_ := at_) (l.take i) 0
    simp only [List.length_take] at hsl
    generalize samesW at_ (l.take i) 0 = S at *
    generalize inL at_ i = b at *
    repeat (first | refine wk ?_ | refine s_field (hr := ?_))
    refine s_callf [] (hA := hct) (hr := ?_)
    cases b with
    | true =>
      rw [if_pos rfl] at hs
      have e1 : S.map (workD false) ++ [D.agg [ints false l[i].right, fragsD false l[i].l]] = (samesW at_ (l.take (i + 1)) 0).map (workD false) := by rw [hs]; simp [workD]
      repeat (first | refine wk ?_ | refine s_field (hr := ?_))
      rw [e1]
      exact t_next (i + 1)
    | false =>
      rw [if_neg (by decide), List.append_nil] at hs
      repeat (first | refine wk ?_ | refine s_field (hr := ?_))
      rw [← hs]
      exact t_next (i + 1)
  · obtain rfl : i = l.length := by omega
    rw [List.take_length]
    have hSl := samesW_le (at_ := at_) l 0
    have hS0 : 0 < (samesW at_ l 0).length := by rw [hsk]; simp
    have hSr : ((samesW at_ l 0)[0]'hS0).right = fr := by rw [hfr]; simp only [hsk, List.getElem_cons_zero]
    have hfk := fkids_sim (t := false) (xs := fr.take n) (by simp; omega)
    generalize hSS : samesW at_ l 0 = S at *
    refine aw_froz 907 rfl ?_
    refine aw_re 7 (v := .d (worksD false S)) (Co.froz rfl (by simp)) rfl ?_
    repeat (first | refine wk ?_ | refine s_field (hr := ?_))
    refine s_callf [] (hA := hcs) (hr := ?_)
    repeat (first | refine wk ?_ | refine s_field (hr := ?_))
    rw [hSr]
    refine s_slice TY (hr := ?_)
    rw [List.drop_zero, ← List.map_take]
    refine s_callf [] (hA := hfk) (hr := ?_)
    repeat (first | refine wk ?_ | refine s_field (hr := ?_))
    generalize hkk2 : (kids (fr.take n)).length = kk at *
    obtain ⟨hd, hhd⟩ : ∃ hd : Work, hd = ⟨fr.take n ++ [(all.length : Int)], headF kk (decide (g.vars.toNat ≤ v))⟩ := ⟨_, rfl⟩
    rw [← hhd]
    have hkkl : kk ≤ 11 := by
      rw [← hkk2]
      have := kids_le (fr.take n)
      simp only [List.length_take] at this; omega
    refine t_loop (X := Nat) (fun i => i ≤ l.length) (fun i => [(56, I i), (55, I l.length), (54, .d (worksD false l)), (7, .d (worksD false S)), (6, .d (ints false at_)), (11, I n), (12, I kk), (8, .own 908 (leftsW at_ hd (l.take i) 0).length), (0, .ptr 1000 0), (1, I v)])
      (fun i => [(908, .row 135 2 ((leftsW at_ hd (l.take i) 0).map (workD false))), (1000, facBox g all.length), (1001, .row 133 1 (all.map (worksD false)))]) (fun i => l.length - i) 0 (Nat.zero_le _) ?_
    intro i hi
    by_cases hlt : i < l.length
    · have hs := leftsW_snoc (at_ := at_) (hd := hd) hlt
      rw [hat0] at hs
      have hct := contains_sim (t := false) (xs := at_) (v := (i : Int)) (by omega)
      rw [show at_.any (fun y => decide ((i : Int) = y)) = inL at_ i from rfl] at hct
      have hsl := leftsW_le (at_ := at_) (hd := hd) (l.take i) 0
      simp only [List.length_take] at hsl
      generalize leftsW at_ hd (l.take i) 0 = LS at *
      by_cases hik : i = k
      · subst hik
        rw [if_pos rfl] at hs
        have hri : l[i].right = fr := hfr.symm
        have hik2 : decide ((i : Int) = at_[0]) = true := decide_eq_true hat0'.symm
        have hvv : decide (g.vars ≤ (v : Int)) = decide (g.vars.toNat ≤ v) := decide_eq_decide.2 (by have := hg.vars1; omega)
        have hcl := clone_sim (t := false) (xs := fr.take n) (by simp; omega)
        have htl : (fr.take n).length = n := by simp; omega
        have hnl2 : n ≤ l[i].right.length := by rw [hri]; exact hnl
        repeat (first | refine wk ?_ | refine s_field (hr := ?_))
        rw [List.drop_zero, ← List.map_take]
        rw [hri]
        refine s_callf [(5, 920)] (hA := hcl) (hr := ?_)
        repeat (first | refine wk ?_ | refine s_field (hr := ?_))
        rw [hvv]
        have hhe := head_sim (n := kk) (gap := decide (g.vars.toNat ≤ v)) (by omega)
        refine s_call [(29, 921)] (hA := hhe) (hr := ?_)
        repeat (first | refine wk ?_ | refine s_field (hr := ?_))
        have e1 : LS.map (workD false) ++ [D.agg [D.sl false 1 ((fr.take n).map iD ++ [D.raw (.int .i64 (all.length : Int))]), fragsD false (headF kk (decide (g.vars.toNat ≤ v)))]] = (leftsW at_ hd (l.take (i + 1)) 0).map (workD false) := by rw [hs, hhd]; simp [workD, iD]
        rw [e1]
        exact t_next (i + 1)
      · have hik2 : decide ((i : Int) = at_[0]) = false := decide_eq_false (by rw [hat0']; omega)
        rw [if_neg (by omega)] at hs
        generalize inL at_ i = b at *
        repeat (first | refine wk ?_ | refine s_field (hr := ?_))
        refine s_callf [] (hA := hct) (hr := ?_)
        cases b with
        | true =>
          rw [if_pos rfl, List.append_nil] at hs
          repeat (first | refine wk ?_ | refine s_field (hr := ?_))
          rw [← hs]
          exact t_next (i + 1)
        | false =>
          rw [if_neg (by decide)] at hs
          have e1 : LS.map (workD false) ++ [D.agg [ints false l[i].right, fragsD false l[i].l]] = (leftsW at_ hd (l.take (i + 1)) 0).map (workD false) := by rw [hs]; simp [workD]
          repeat (first | refine wk ?_ | refine s_field (hr := ?_))
          rw [e1]
          exact t_next (i + 1)
    · obtain rfl : i = l.length := by omega
      rw [List.take_length]
      have hLl := leftsW_le (at_ := at_) (hd := hd) l 0
      generalize leftsW at_ hd l 0 = LL at *
      have hset : (all.map (worksD false)).set v (worksD false LL) = (all.set v LL).map (worksD false) := by rw [List.map_set]
      refine aw_froz 908 rfl ?_
      refine aw_re 8 (v := .d (worksD false LL)) (Co.froz rfl (by simp)) rfl ?_
      repeat (first | refine wk ?_ | refine s_field (hr := ?_))
      have hrest : ∀ x ∈ S, ∃ (r : Nat) (m : Nat), x.l = plainF r m (gapAt g v) ∧ m = (kids x.right).length ∧ n ≤ x.right.length ∧ x.right.length ≤ 11 := fun x hx => by
        rw [← hSS] at hx
        obtain ⟨j, j1, rfl, j3⟩ := samesW_mem hx
        rw [Nat.zero_add] at j3
        obtain ⟨⟨r, p1, p2, p3⟩, p4⟩ := G.plain j j1 j3
        refine ⟨r, _, p2, rfl, ?_, by omega⟩
        have e := congrArg List.length p4
        rw [← hfr] at e
        simp only [List.length_take] at e
        omega
      refine aw_nil 15 915 135 2 rfl rfl rfl ?_
      refine t_loop (X := Nat) (fun i => i ≤ S.length) (fun i => [(109, I i), (108, I S.length), (107, .d (worksD false S)), (15, .own 915 ((S.take i).map (restW n kk)).length), (11, I n), (12, I kk), (0, .ptr 1000 0)])
        (fun i => [(915, .row 135 2 (((S.take i).map (restW n kk)).map (workD false))), (1000, facBox g all.length), (1001, .row 133 1 ((all.map (worksD false)).set v (worksD false LL)))]) (fun i => S.length - i) 0 (Nat.zero_le _) ?_
      intro i hi
      have hTl : ((S.take i).map (restW n kk)).length = i := by simp; omega
      by_cases hlt : i < S.length
      · have hsn : (S.take (i + 1)).map (restW n kk) = (S.take i).map (restW n kk) ++ [restW n kk S[i]] := by rw [List.take_succ_eq_append_getElem hlt, List.map_append]; rfl
        obtain ⟨r, m, q1, q2, q3, q4⟩ := hrest _ (List.getElem_mem hlt)
        have hml := kids_le S[i].right
        have hcl := clone_sim (t := false) (xs := S[i].right.drop n) (by simp; omega)
        have hta : ACalls Try.prog 144 [.d (fragsD false (plainF r m (gapAt g v))), I kk] [] (.own 43 1) [(43, .row 67 3 ((tailF r (m - kk)).map (fragD false)))] := tail_sim (by omega) (by omega)
        have hrw : restW n kk S[i] = ⟨S[i].right.drop n, tailF r (m - kk)⟩ := by rw [restW, q1, q2]; rfl
        have e1 : ((S.take i).map (restW n kk)).map (workD false) ++ [D.agg [ints false (S[i].right.drop n), fragsD false (tailF r (m - kk))]] = ((S.take (i + 1)).map (restW n kk)).map (workD false) := by rw [hsn, hrw]; simp [workD]
        have hdl : (S[i].right.drop n).length = S[i].right.length - n := by simp
        generalize (S.take i).map (restW n kk) = RS at *
        repeat (first | refine wk ?_ | refine s_field (hr := ?_))
        rw [List.take_of_length_le (by simp), ← List.map_drop]
        refine s_callf [(5, 920)] (hA := hcl) (hr := ?_)
        repeat (first | refine wk ?_ | refine s_field (hr := ?_))
        rw [q1]
        refine s_callf [(43, 921)] (hA := hta) (hr := ?_)
        repeat (first | refine wk ?_ | refine s_field (hr := ?_))
        rw [e1]
        exact t_next (i + 1)
      · obtain rfl : i = S.length := by omega
        rw [List.take_length]
        rw [hset]
        have hal : (all.set v LL).length = all.length := by simp
        have e1 : (all.set v LL).map (worksD false) ++ [worksD false (S.map (restW n kk))] = (all.set v LL ++ [S.map (restW n kk)]).map (worksD false) := by simp
        have e2 : all.length + (0 + 1) = (all.set v LL ++ [S.map (restW n kk)]).length := by simp
        generalize S.map (restW n kk) = RS at *
        repeat (first | refine wk ?_ | refine s_field (hr := ?_))
        rw [e1, List.length_map]
        exact fin
end Go.Proofs.Yticnpbopelgmiaa
