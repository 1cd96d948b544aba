/-
  Trees in order: the reference's SortTrees. sameTrees: the trees of a word, led back, are those of the old grammar.
-/
import Derived.Test.YticnpbopelgmiaaSaP
import Derived.Test.YticnpbopelgmiaaQTreeA
import Derived.Test.YticnpbopelgmiaaQThF
import Derived.Test.YticnpbopelgmiaaQSimPf
import Derived.Test.YticnpbopelgmiaaQChartJ
set_option linter.unusedVariables false
set_option linter.unusedSimpArgs false
set_option linter.unusedSectionVars false
namespace Go.Proofs.Yticnpbopelgmiaa
open Go.RowKit
set_option maxRecDepth 100000
-- SimX

theorem insT_at (x : Tree) : ∀ (acc : List Tree) (k : Nat), k ≤ acc.length → (∀ z ∈ acc.drop k, 0 < ordT z x) → (k = 0 ∨ ∃ j, ∃ h : j < acc.length, j + 1 = k ∧ ordT acc[j] x ≤ 0) → insT x acc = acc.take k ++ x :: acc.drop k
  | [], k, hk, _, _ => by
    obtain rfl : k = 0 := by simpa using hk
    rfl
  | y :: l, k, hk, h1, h2 => by
    rw [insT]
    cases k with
    | zero =>
      rw [if_pos (by simpa using h1)]
      rfl
    | succ k =>
      rcases h2 with h2 | ⟨j, hj, e, h2⟩
      · cases h2
      obtain rfl : j = k := by omega
      rw [if_neg (fun q => by
        have := (List.all_eq_true.1 q) _ (List.getElem_mem hj)
        have := of_decide_eq_true this
        omega)]
      rw [insT_at x l j (by simpa using hk) h1 (by
        cases j with
        | zero => exact .inl rfl
        | succ j => exact .inr ⟨j, by simpa using hj, rfl, by simpa using h2⟩)]
      rfl
theorem sortT_snoc {l : List Tree} {i : Nat} (h : i < l.length) : sortT (l.take (i + 1)) = insT l[i] (sortT (l.take i)) := by
  unfold sortT
  rw [List.take_succ_eq_append_getElem h, List.foldl_append]
  rfl
theorem set_here {α : Type} {acc : List α} {k : Nat} {x y : α} (hk : k ≤ acc.length) : (acc.take k ++ y :: acc.drop k).set k x = acc.take k ++ x :: acc.drop k := by
  rw [List.set_append_right _ _ (by rw [List.length_take]; omega), List.length_take, Nat.min_eq_left hk, Nat.sub_self, List.set_cons_zero]
theorem set_down {α : Type} {acc : List α} {k : Nat} {y : α} (hk : 0 < k) (hp : k - 1 < acc.length) : (acc.take k ++ y :: acc.drop k).set k acc[k - 1] = acc.take (k - 1) ++ acc[k - 1] :: acc.drop (k - 1) := by
  rw [set_here (by omega)]
  obtain ⟨j, rfl⟩ : ∃ j, k = j + 1 := ⟨k - 1, by omega⟩
  simp only [Nat.add_sub_cancel] at hp ⊢
  rw [List.take_succ_eq_append_getElem hp, List.drop_eq_getElem_cons hp, List.append_assoc]
  rfl
set_option maxHeartbeats 4000000 in
theorem sortTrees_sim {t u : Bool} {l : List Tree} (hl : l.length ≤ 100000000) (hc : ∀ x ∈ l, cnt x ≤ 100000000) : ACalls Try.prog 87 [.d (.sl t 2 (l.map (treeD u)))] [] (.d (.sl false 2 ((sortT l).map (treeD u)))) [] := by
  refine ACalls.intro (n := 54) Try.func87 rfl rfl (by simp) (by rfl) ?_
  simp only [argFr]
  repeat (first | refine wk ?_ | refine s_field (hr := ?_))
  refine aw_nil 3 900 49 2 rfl rfl rfl ?_
  refine t_loop (X := Nat × List Tree) (fun y => y.1 ≤ l.length ∧ y.2.length = y.1 ∧ y.2 = sortT (l.take y.1)) (fun y => [(4, I y.1), (3, .own 900 y.2.length), (0, .d (.sl t 2 (l.map (treeD u))))]) (fun y => [(900, .row 49 2 (y.2.map (treeD u)))]) (fun y => l.length - y.1) (0, []) ⟨Nat.zero_le _, rfl, rfl⟩ ?_
  rintro ⟨i, acc⟩ ⟨h1, h2, h3⟩
  dsimp only at h1 h2 h3 ⊢
  by_cases hlt : i < l.length
  · have e1 : acc.map (treeD u) ++ [.agg [iD l[i].rule, treesD u l[i].kids]] = (acc ++ [l[i]]).map (treeD u) := by rw [List.map_append, List.map_cons, List.map_nil, treeD_eq]
    have hmem : ∀ z ∈ acc, cnt z ≤ 100000000 := fun z hz => hc z (List.mem_of_mem_take (i := i) ((sortT_perm _).mem_iff.1 (h3 ▸ hz)))
    have hx := hc _ (List.getElem_mem hlt)
    repeat (first | refine wk ?_ | refine s_field (hr := ?_))
    obtain rfl : acc.length = i := h2
    rw [e1]
    refine t_loop (X := Nat × List Tree) (fun y => y.1 ≤ acc.length ∧ y.2.length = acc.length + 1 ∧ (∃ z, y.2 = acc.take y.1 ++ z :: acc.drop y.1) ∧ (∀ z ∈ acc.drop y.1, 0 < ordT z l[acc.length]) ∧ ∀ z ∈ y.2, cnt z ≤ 100000000) (fun y => [(5, I y.1), (4, I acc.length), (3, .own 900 y.2.length), (0, .d (.sl t 2 (l.map (treeD u))))]) (fun y => [(900, .row 49 2 (y.2.map (treeD u)))]) (fun y => y.1) (acc.length, acc ++ [l[acc.length]]) ⟨Nat.le_refl _, by simp, ⟨l[acc.length], by rw [List.take_length, List.drop_length]⟩, by rw [List.drop_length]; simp, fun z hz => by
      rcases List.mem_append.1 hz with hz | hz
      · exact hmem z hz
      · rw [List.mem_singleton.1 hz]; exact hx⟩ ?_
    rintro ⟨k, L⟩ ⟨k1, k2, ⟨y, k3⟩, k4, k5⟩
    dsimp only at k1 k2 k3 k4 k5 ⊢
    have hkL : k < L.length := by omega
    have eLl : L.length = (insT l[acc.length] acc).length := by rw [(insT_perm l[acc.length] acc).length_eq, k2]; rfl
    have hlk : L.take k = acc.take k := by rw [k3, List.take_append_of_le_length (by rw [List.length_take]; omega), List.take_take, Nat.min_self]
    by_cases hk0 : 0 < k
    · have hp : k - 1 < L.length := by omega
      have ep : (k : Int) - 1 = ((k - 1 : Nat) : Int) := by omega
      have eL : L[k - 1] = acc[k - 1]'(by omega) := by
        have := congrArg (fun z => z[k - 1]?) hlk
        simp only [List.getElem?_take, show k - 1 < k by omega, if_true] at this
        rw [List.getElem?_eq_getElem hp, List.getElem?_eq_getElem (by omega)] at this
        exact Option.some.inj this
      have ho := orderOf_sim (t := u) (u := u) L[k - 1] (k5 _ (List.getElem_mem hp)) l[acc.length] hx
      by_cases hgt : 0 < ordT L[k - 1] l[acc.length]
      · have hpk : k - 1 < acc.length := by omega
        have es : (L.map (treeD u)).set k (.agg [iD L[k - 1].rule, treesD u L[k - 1].kids]) = (acc.take (k - 1) ++ acc[k - 1] :: acc.drop (k - 1)).map (treeD u) := by
          rw [← treeD_eq, ← List.map_set]
          congr 1
          rw [eL]
          exact (congrArg (fun z => z.set k acc[k - 1]) k3).trans (set_down hk0 hpk)
        repeat (first | refine wk ?_ | refine s_field (hr := ?_))
        rw [ep]
        repeat (first | refine wk ?_ | refine s_field (hr := ?_))
        refine s_call [] (hA := ho) (hr := ?_)
        repeat (first | refine wk ?_ | refine s_field (hr := ?_))
        --@
        rw [es, ep]
        exact t_next (k - 1, acc.take (k - 1) ++ acc[k - 1] :: acc.drop (k - 1)) (a := ⟨by dsimp only; omega, by simp; omega, ⟨_, rfl⟩, fun z hz => by
          dsimp only at hz
          rw [List.drop_eq_getElem_cons hpk, show k - 1 + 1 = k by omega] at hz
          rcases List.mem_cons.1 hz with rfl | hz
          · rw [← eL]; exact hgt
          · exact k4 z hz, fun z hz => by
          rcases List.mem_append.1 hz with hz | hz
          · exact hmem z (List.mem_of_mem_take hz)
          · rcases List.mem_cons.1 hz with rfl | hz
            · exact hmem _ (List.getElem_mem _)
            · exact hmem z (List.mem_of_mem_drop hz)⟩) (b := by dsimp only; omega)
      · repeat (first | refine wk ?_ | refine s_field (hr := ?_))
        rw [ep]
        repeat (first | refine wk ?_ | refine s_field (hr := ?_))
        refine s_call [] (hA := ho) (hr := ?_)
        repeat (first | refine wk ?_ | refine s_field (hr := ?_))
        --@
        rw [show (L.map (treeD u)).set k (.agg [iD l[acc.length].rule, treesD u l[acc.length].kids]) = (insT l[acc.length] acc).map (treeD u) by
          rw [← treeD_eq, ← List.map_set, insT_at l[acc.length] acc k k1 k4 (by exact .inr ⟨k - 1, by omega, by omega, by rw [← eL]; omega⟩)]
          congr 1
          exact (congrArg (fun z => z.set k l[acc.length]) k3).trans (set_here k1)]
        rw [eLl]; exact t_next (acc.length + 1, insT l[acc.length] acc) (a := ⟨by dsimp only; omega, by have := (insT_perm l[acc.length] acc).length_eq; simpa using this, by rw [sortT_snoc hlt, ← h3]⟩) (b := by dsimp only; omega)
    · obtain rfl : k = 0 := by omega
      (repeat (first | refine wk ?_ | refine s_field (hr := ?_)))
      (repeat (first | refine wkz ?_ | refine s_field (hr := ?_)))
      --@
      rw [show (L.map (treeD u)).set 0 (.agg [iD l[acc.length].rule, treesD u l[acc.length].kids]) = (insT l[acc.length] acc).map (treeD u) by
          rw [← treeD_eq, ← List.map_set, insT_at l[acc.length] acc 0 k1 k4 (by exact .inl rfl)]
          congr 1
          exact (congrArg (fun z => z.set 0 l[acc.length]) k3).trans (set_here k1)]
      rw [eLl]; exact t_next (acc.length + 1, insT l[acc.length] acc) (a := ⟨by dsimp only; omega, by have := (insT_perm l[acc.length] acc).length_eq; simpa using this, by rw [sortT_snoc hlt, ← h3]⟩) (b := by dsimp only; omega)
  · obtain rfl : i = l.length := by omega
    rw [List.take_length] at h3
    subst h3
    refine aw_froz 900 rfl ?_
    repeat (first | refine wk ?_ | refine s_field (hr := ?_))
    exact fin
end Go.Proofs.Yticnpbopelgmiaa
namespace Go.Proofs.Yticnpbopelgmiaa
open Go.RowKit
set_option maxRecDepth 100000
-- SimX

theorem cnts_le_len2 {l : List Tree} {B : Nat} (h : ∀ x ∈ l, cnt x ≤ B) : cnts l ≤ B * l.length := by
  induction l with
  | nil => simp [cnts]
  | cons x l ih =>
    have h1 := h x (by simp)
    have h2 := ih (fun y hy => h y (by simp [hy]))
    simp only [cnts, List.length_cons, Nat.mul_add]; omega
section
variable {g : Gram} {s : Step} {w : List Int}
set_option maxHeartbeats 4000000 in
theorem same_none {but : Bool} (hf : g.fit) (hs : s.fit) (hw : w.length ≤ 100000000) (hc : ¬ (chF g w).code = 0) : ACalls Try.prog 29 [.d (gramD false g), .d (stepD false s), .d (ints false w), B but] [] (B true) [] := by
  have h1 := new_none (t := false) (u := false) hf hw hc
  have hsg : s.g.fit := hs.g
  generalize chF g w = F at *
  obtain ⟨fc, fa⟩ := F
  dsimp only at hc
  by_cases hd : (chF s.g w).code = 0
  · have h2 := new_some (t := false) (u := false) (chF_ok hd).1
    have e : ∃ b, cxH2 s.g w (nulB s.g) (wcns s.g w manyC) = b := ⟨_, rfl⟩
    simp only [cxH2] at h2
    generalize wcns s.g w manyC = N at *
    generalize nulB s.g = NB at *
    refine ACalls.intro (n := 111) Try.func29 rfl rfl (by simp) (by rfl) ?_
    simp only [argFr]
    repeat (first | refine wk ?_ | refine s_field (hr := ?_))
    --@
    refine s_call [] (hA := h1) (hr := ?_)
    repeat (first | refine wk ?_ | refine s_field (hr := ?_))
    --@
    refine s_call [(62, 962), (60, 960)] (hA := h2) (hr := ?_)
    repeat (first | refine wk ?_ | refine s_field (hr := ?_))
    --@
    exact fin
  · have h2 := new_none (t := false) (u := false) hsg hw hd
    generalize chF s.g w = F2 at *
    obtain ⟨gc, ga⟩ := F2
    dsimp only at hd
    refine ACalls.intro (n := 111) Try.func29 rfl rfl (by simp) (by rfl) ?_
    simp only [argFr]
    repeat (first | refine wk ?_ | refine s_field (hr := ?_))
    refine s_call [] (hA := h1) (hr := ?_)
    repeat (first | refine wk ?_ | refine s_field (hr := ?_))
    --@
    refine s_call [] (hA := h2) (hr := ?_)
    repeat (first | refine wk ?_ | refine s_field (hr := ?_))
    --@
    exact fin
set_option maxHeartbeats 4000000 in
theorem same_but (hf : g.fit) (hs : s.fit) (hw : w.length ≤ 100000000) (hc : (chF g w).code = 0) (hd : (chF s.g w).code = 0) (hb : cntF s.g w = 0 ∧ cntF g w = s.empty.length) : ACalls Try.prog 29 [.d (gramD false g), .d (stepD false s), .d (ints false w), B true] [] (B true) [] := by
  have hC := (chF_ok hc).1
  have hD := (chF_ok hd).1
  have h1 := new_some (t := false) (u := false) hC
  have h2 := new_some (t := false) (u := false) hD
  have c1 := count_simC hC.ok hC.cyc hC.small.1 hC.small.2
  have c2 := count_simC hD.ok hD.cyc hD.small.1 hD.small.2
  rw [count_is hC.ok, hb.2] at c1
  rw [count_is hD.ok, hb.1] at c2
  simp only [cxH2] at h1 h2
  have hl := hs.empty
  have bt : Bool := true
  generalize wcns s.g w manyC = N at *
  generalize nulB s.g = NB at *
  generalize wcns g w manyC = N1 at *
  generalize nulB g = NB1 at *
  refine ACalls.intro (n := 111) Try.func29 rfl rfl (by simp) (by rfl) ?_
  simp only [argFr]
  repeat (first | refine wk ?_ | refine s_field (hr := ?_))
  refine s_call [(62, 962), (60, 960)] (hA := h1) (hr := ?_)
  repeat (first | refine wk ?_ | refine s_field (hr := ?_))
  refine s_call [(62, 972), (60, 970)] (hA := h2) (hr := ?_)
  repeat (first | refine wk ?_ | refine s_field (hr := ?_))
  --@
  refine s_callU [(1000, 972), (1001, 970)] (hA := c2) (hr := ?_)
  repeat (first | refine wk ?_ | refine s_field (hr := ?_))
  --@
  refine s_callU [(1000, 962), (1001, 960)] (hA := c1) (hr := ?_)
  repeat (first | refine wk ?_ | refine s_field (hr := ?_))
  --@
  exact fin
set_option maxHeartbeats 4000000 in
theorem same_lists (hf : g.fit) (hs : s.fit) (hw : w.length ≤ 100000000) (hc : (chF g w).code = 0) (hd : (chF s.g w).code = 0) (he : cntF g w = cntF s.g w)
    (H : (fListF g w).2.code = 0 → (fListF s.g w).2.code = 0 → (∀ t ∈ (fListF s.g w).1, backS g s t = (backF s t, ⟨0, 0⟩)) ∧ sortT ((fListF s.g w).1.map (backF s)) = sortT (fListF g w).1) :
    ACalls Try.prog 29 [.d (gramD false g), .d (stepD false s), .d (ints false w), B false] [] (B true) [] := by
  have hC := (chF_ok hc).1
  have hD := (chF_ok hd).1
  have h1 := new_some (t := false) (u := false) hC
  have h2 := new_some (t := false) (u := false) hD
  have c1 := count_simC hC.ok hC.cyc hC.small.1 hC.small.2
  have c2 := count_simC hD.ok hD.cyc hD.small.1 hD.small.2
  rw [count_is hC.ok, he] at c1
  rw [count_is hD.ok] at c2
  simp only [cxH2] at h1 h2
  have l1 := fList_sim (t := false) (u := false) hf hw
  have l2 := fList_sim (t := false) (u := false) hs.g hw
  have hbk : ∀ t ∈ (fListF s.g w).1, cnt t ≤ 400 → ACalls Try.prog 86 [.d (gramD false g), .d (stepD false s), .d (treeA false t)] [] (.tup [.d (treeA false (backS g s t).1), .d (faultD (backS g s t).2)]) [] := fun t _ hq => back_sim hf hs (by omega)
  by_cases hz : (fListF g w).2.code = 0 ∧ (fListF s.g w).2.code = 0
  · obtain ⟨k1, k2⟩ := H hz.1 hz.2
    have o1 := fList_ok hz.1
    have o2 := fList_ok hz.2
    have m1 := o1.len
    have m2 := o2.len
    have m3 := o1.few
    have m4 := o2.few
    have hmem : ∀ t ∈ (fListF s.g w).1, cnt (backF s t) ≤ 400 := fun t ht => by
      have : backF s t ∈ sortT (fListF g w).1 := by
        rw [← k2]
        exact (sortT_perm _).mem_iff.2 (List.mem_map.2 ⟨t, ht, rfl⟩)
      exact (o1.mem ((sortT_perm _).mem_iff.1 this)).2
    replace hbk : ∀ t ∈ (fListF s.g w).1, ACalls Try.prog 86 [.d (gramD false g), .d (stepD false s), .d (treeA false t)] [] (.tup [.d (treeA false (backF s t)), .d (faultD ⟨0, 0⟩)]) [] := fun t ht => by
      have := hbk t ht (o2.mem ht).2
      rw [k1 t ht] at this; exact this
    have t1 := sortTrees_sim (t := false) (u := false) (l := (fListF s.g w).1.map (backF s)) (by rw [List.length_map]; omega) (fun x hx => by
      obtain ⟨t, ht, rfl⟩ := List.mem_map.1 hx
      have := hmem t ht; omega)
    have t2 := sortTrees_sim (t := false) (u := false) (l := (fListF g w).1) (by omega) (fun x hx => by have := (o1.mem hx).2; omega)
    rw [k2] at t1
    have t3 := sameTrees_sim (t := false) (u := false) (l := sortT (fListF g w).1) (by
      have := cnts_le_len2 (l := sortT (fListF g w).1) (B := 400) (fun x hx => (o1.mem ((sortT_perm _).mem_iff.1 hx)).2)
      rw [(sortT_perm _).length_eq] at this
      have : 400 * (fListF g w).1.length ≤ 400 * 200 := Nat.mul_le_mul_left _ (by omega)
      omega)
    have hll : (fListF s.g w).1.length ≤ 200 := by omega
    clear H k1 k2 o1 o2 m1 m2 m3 m4 hmem
    generalize cntF s.g w = c at *
    generalize wcns s.g w manyC = N at *
    generalize nulB s.g = NB at *
    generalize wcns g w manyC = N1 at *
    generalize nulB g = NB1 at *
    generalize fListF g w = R1 at *
    obtain ⟨l, ⟨lc, la⟩⟩ := R1
    generalize fListF s.g w = R2 at *
    obtain ⟨m, ⟨mc, ma⟩⟩ := R2
    dsimp only at *
    generalize sortT l = sl at *
    obtain ⟨z1, z2⟩ := hz
    refine ACalls.intro (n := 111) Try.func29 rfl rfl (by simp) (by rfl) ?_
    simp only [argFr]
    repeat (first | refine wk ?_ | refine s_field (hr := ?_))
    refine s_call [(62, 962), (60, 960)] (hA := h1) (hr := ?_)
    repeat (first | refine wk ?_ | refine s_field (hr := ?_))
    refine s_call [(62, 972), (60, 970)] (hA := h2) (hr := ?_)
    repeat (first | refine wk ?_ | refine s_field (hr := ?_))
    --@
    refine s_callU [(1000, 962), (1001, 960)] (hA := c1) (hr := ?_)
    repeat (first | refine wk ?_ | refine s_field (hr := ?_))
    refine s_callU [(1000, 972), (1001, 970)] (hA := c2) (hr := ?_)
    repeat (first | refine wk ?_ | refine s_field (hr := ?_))
    --@
    refine s_call [] (hA := l1) (hr := ?_)
    repeat (first | refine wk ?_ | refine s_field (hr := ?_))
    --@
    refine s_call [] (hA := l2) (hr := ?_)
    repeat (first | refine wk ?_ | refine s_field (hr := ?_))
    --@
    refine aw_nil 17 900 49 2 rfl rfl rfl ?_
    refine t_loop (X := Nat) (fun i => i ≤ m.length) (fun i => [(18, I i), (17, .own 900 ((m.take i).map (backF s)).length), (15, .d (treesD false m)), (13, .d (treesD false l)), (5, .ptr 5 0), (4, .ptr 4 0)]) (fun i => [(900, .row 49 2 (((m.take i).map (backF s)).map (treeD false))), (5, stepBox false s), (4, gramBox false g)]) (fun i => m.length - i) 0 (Nat.zero_le _) ?_
    intro i hi
    by_cases hlt : i < m.length
    · have hb := hbk m[i] (List.getElem_mem hlt)
      have e1 : ((m.take i).map (backF s)).map (treeD false) ++ [.agg [iD (backF s m[i]).rule, treesD false (backF s m[i]).kids]] = ((m.take (i + 1)).map (backF s)).map (treeD false) := by
        rw [List.take_succ_eq_append_getElem hlt, List.map_append, List.map_append, List.map_cons, List.map_nil, List.map_cons, List.map_nil, treeD_eq]
      have hml : ((m.take i).map (backF s)).length ≤ 200 := by rw [List.length_map, List.length_take]; omega
      clear hbk
      generalize (m.take i).map (backF s) = acc at *
      repeat (first | refine wk ?_ | refine s_field (hr := ?_))
      refine s_call [] (hA := hb) (hr := ?_)
      repeat (first | refine wk ?_ | refine s_field (hr := ?_))
      --@
      rw [e1]
      exact t_next (i + 1)
    · obtain rfl : i = m.length := by omega
      rw [List.take_length]
      refine aw_froz 900 rfl ?_
      repeat (first | refine wk ?_ | refine s_field (hr := ?_))
      --@
      refine s_call [] (hA := t1) (hr := ?_)
      repeat (first | refine wk ?_ | refine s_field (hr := ?_))
      refine s_call [] (hA := t2) (hr := ?_)
      repeat (first | refine wk ?_ | refine s_field (hr := ?_))
      refine s_call [] (hA := t3) (hr := ?_)
      repeat (first | refine wk ?_ | refine s_field (hr := ?_))
      --@
      exact fin
  · clear H hbk
    generalize cntF s.g w = c at *
    generalize wcns s.g w manyC = N at *
    generalize nulB s.g = NB at *
    generalize wcns g w manyC = N1 at *
    generalize nulB g = NB1 at *
    generalize fListF g w = R1 at *
    obtain ⟨l, ⟨lc, la⟩⟩ := R1
    generalize fListF s.g w = R2 at *
    obtain ⟨m, ⟨mc, ma⟩⟩ := R2
    dsimp only at *
    have hz' : lc ≠ 0 ∨ mc ≠ 0 := by omega
    have hb : ((lc != 0) || (mc != 0)) = true := by simpa using hz'
    refine ACalls.intro (n := 111) Try.func29 rfl rfl (by simp) (by rfl) ?_
    simp only [argFr]
    repeat (first | refine wk ?_ | refine s_field (hr := ?_))
    refine s_call [(62, 962), (60, 960)] (hA := h1) (hr := ?_)
    repeat (first | refine wk ?_ | refine s_field (hr := ?_))
    refine s_call [(62, 972), (60, 970)] (hA := h2) (hr := ?_)
    repeat (first | refine wk ?_ | refine s_field (hr := ?_))
    refine s_callU [(1000, 962), (1001, 960)] (hA := c1) (hr := ?_)
    repeat (first | refine wk ?_ | refine s_field (hr := ?_))
    refine s_callU [(1000, 972), (1001, 970)] (hA := c2) (hr := ?_)
    repeat (first | refine wk ?_ | refine s_field (hr := ?_))
    refine s_call [] (hA := l1) (hr := ?_)
    repeat (first | refine wk ?_ | refine s_field (hr := ?_))
    refine s_call [] (hA := l2) (hr := ?_)
    repeat (first | refine wk ?_ | refine s_field (hr := ?_))
    --@
    by_cases hl0 : lc = 0
    · have hm0 : mc ≠ 0 := by omega
      repeat (first | refine wk ?_ | refine s_field (hr := ?_))
      --@
      exact fin
    · repeat (first | refine wk ?_ | refine s_field (hr := ?_))
      --@
      exact fin
theorem same_sim {but : Bool} (hf : g.fit) (hs : s.fit) (hw : w.length ≤ 100000000) (H : SameOk g s w but) : ACalls Try.prog 29 [.d (gramD false g), .d (stepD false s), .d (ints false w), B but] [] (B true) [] := by
  by_cases hc : (chF g w).code = 0
  · obtain ⟨hd, h1, h2⟩ := H hc
    cases but with
    | true => exact same_but hf hs hw hc hd (h1 rfl)
    | false => exact same_lists hf hs hw hc hd (h2 rfl).1 (h2 rfl).2
  · exact same_none hf hs hw hc
end
end Go.Proofs.Yticnpbopelgmiaa
