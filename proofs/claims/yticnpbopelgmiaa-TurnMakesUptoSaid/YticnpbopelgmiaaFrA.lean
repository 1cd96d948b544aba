/-
  Sim: templates: counted, which kids they use, the same, Plain, Node. Sim: templates: which kids they use; Node; steps that are the same.
-/
import Derived.Test.YticnpbopelgmiaaP1
import Derived.Test.YticnpbopelgmiaaTreeA
set_option linter.unusedVariables false
set_option linter.unusedSimpArgs false
set_option linter.unusedSectionVars false
namespace Go.Proofs.Yticnpbopelgmiaa
open Go.RowKit
set_option maxRecDepth 100000

/-! ### Counted -/
theorem countedParts_gen : ∀ (n : Nat) {t : Bool} {l : List Frag}, fszs l < n → fszs l ≤ 100000000 → ACalls Try.prog 48 [.d (fragsD t l)] [] (I (cpL l)) [] := by
  intro n
  induction n with
  | zero => intro t l h; omega
  | succ n ih =>
  intro t l hn hN
  have hl := Nat.le_trans (fszs_len l) hN
  have hcl := cpL_le l
  refine ACalls.intro (n := 36) Try.func48 rfl rfl (by simp) (by rfl) ?_
  simp only [argFr]
  repeat (first | refine wk ?_)
  refine t_loop (X := Nat × Nat) (fun x => x.1 ≤ l.length ∧ x.2 + x.1 = l.length + cpL (l.take x.1)) (fun x => [(4, I x.1), (3, I x.2), (0, .d (fragsD t l))]) (fun _ => []) (fun x => l.length - x.1) (0, l.length) ⟨Nat.zero_le _, by simp [cpL]⟩ ?_
  rintro ⟨i, v⟩ ⟨h1, h2⟩
  dsimp only at h1 h2 ⊢
  by_cases hlt : i < l.length
  · have e1 := cpL_take hlt
    have e2 := cpF_eq l[i]
    have e3 := fszs_mem (List.getElem_mem hlt)
    have e4 := fsz_eq l[i]
    have e5 := cpL_le l[i].l
    have e6 : cpL l = cpL (l.take (i + 1)) + cpL (l.drop (i + 1)) := by rw [← cpL_append, List.take_append_drop]
    by_cases o1 : l[i].op = 1
    · rw [if_pos (Or.inl o1)] at e2
      repeat (first | refine wk ?_)
      refine s_call [] (hA := ih (t := t) (l := l[i].l) (by omega) (by omega)) (hr := ?_)
      repeat (first | refine wk ?_)
      exact t_next (i + 1, v + cpL l[i].l) (a := ⟨by omega, by dsimp only; omega⟩) (b := by dsimp only; omega)
    · by_cases o4 : l[i].op = 4
      · rw [if_pos (Or.inr o4)] at e2
        repeat (first | refine wk ?_)
        refine s_call [] (hA := ih (t := t) (l := l[i].l) (by omega) (by omega)) (hr := ?_)
        repeat (first | refine wk ?_)
        exact t_next (i + 1, v + cpL l[i].l) (a := ⟨by omega, by dsimp only; omega⟩) (b := by dsimp only; omega)
      · rw [if_neg (fun h => h.elim o1 o4)] at e2
        repeat (first | refine wk ?_)
        exact t_next (i + 1, v) (a := ⟨by omega, by dsimp only; omega⟩) (b := by dsimp only; omega)
  · rw [List.take_of_length_le (by omega)] at h2
    obtain rfl : v = cpL l := by omega
    repeat (first | refine wk ?_)
    exact fin
theorem countedParts_sim {t : Bool} {l : List Frag} (h : fszs l ≤ 100000000 := by ((try simp only [List.length_map, List.length_append, List.length_cons, List.length_nil, List.length_replicate, List.length_set, List.length_take, List.length_drop]); first | omega | assumption)) : ACalls Try.prog 48 [.d (fragsD t l)] [] (I (cpL l)) [] :=
  countedParts_gen _ (Nat.lt_succ_self _) h

/-! ### The same -/
theorem sameFrag_gen : ∀ (n : Nat) {t u : Bool} {l : List Frag}, fszs l < n → fszs l ≤ 100000000 → ACalls Try.prog 50 [.d (fragsD t l), .d (fragsD u l)] [] (B true) [] := by
  intro n
  induction n with
  | zero => intro t u l h; omega
  | succ n ih =>
  intro t u l hn hN
  have hl := Nat.le_trans (fszs_len l) hN
  refine ACalls.intro (n := 55) Try.func50 rfl rfl (by simp) (by rfl) ?_
  simp only [argFr]
  repeat (first | refine wk ?_)
  refine t_loop (X := Nat) (fun x => x ≤ l.length) (fun x => [(5, I x), (0, .d (fragsD t l)), (1, .d (fragsD u l))]) (fun _ => []) (fun x => l.length - x) 0 (Nat.zero_le _) ?_
  intro i h1
  by_cases hlt : i < l.length
  · have e3 := fszs_mem (List.getElem_mem hlt)
    have e4 := fsz_eq l[i]
    repeat (first | refine wk ?_)
    refine s_call [] (hA := ih (t := t) (u := u) (l := l[i].l) (by omega) (by omega)) (hr := ?_)
    repeat (first | refine wk ?_)
    exact t_next (i + 1)
  · repeat (first | refine wk ?_)
    exact fin
theorem sameFrag_sim {t u : Bool} {l : List Frag} (h : fszs l ≤ 100000000 := by ((try simp only [List.length_map, List.length_append, List.length_cons, List.length_nil, List.length_replicate, List.length_set, List.length_take, List.length_drop]); first | omega | assumption)) : ACalls Try.prog 50 [.d (fragsD t l), .d (fragsD u l)] [] (B true) [] :=
  sameFrag_gen _ (Nat.lt_succ_self _) h
theorem sameTrees_sim {t u : Bool} {l : List Tree} (hN : cnts l ≤ 100000000) : ACalls Try.prog 49 [.d (treesD t l), .d (treesD u l)] [] (B true) [] := by
  have hl := Nat.le_trans (cnts_len l) hN
  refine ACalls.intro (n := 27) Try.func49 rfl rfl (by simp) (by rfl) ?_
  simp only [argFr]
  repeat (first | refine wk ?_)
  refine t_loop (X := Nat) (fun x => x ≤ l.length) (fun x => [(5, I x), (0, .d (treesD t l)), (1, .d (treesD u l))]) (fun _ => []) (fun x => l.length - x) 0 (Nat.zero_le _) ?_
  intro i h1
  by_cases hlt : i < l.length
  · have e3 := cnts_mem (List.getElem_mem hlt)
    have s1 := sameTree_sim (t := t) (u := u) (x := l[i]) (y := l[i]) (by omega) (by omega)
    rw [ordT_refl, decide_eq_true rfl] at s1
    repeat (first | refine wk ?_)
    refine s_call [] (hA := s1) (hr := ?_)
    repeat (first | refine wk ?_)
    exact t_next (i + 1)
  · repeat (first | refine wk ?_)
    exact fin

/-! ### The template of a rule that stays -/
theorem holes_snoc (k : Nat) : holes (k + 1) = holes k ++ [.mk 2 k []] := by simp [holes, List.range_succ]
theorem holes_dsnoc (t : Bool) (k : Nat) : (holes (k + 1)).map (fragD t) = (holes k).map (fragD t) ++ [.agg [iD 2, iD k, .sl t 3 []]] := by rw [holes_snoc]; simp [fragD, fragDs]
theorem nodeF_map (t : Bool) (r : Int) (k : Nat) : (nodeF r k).map (fragD t) = [.agg [iD 1, iD r, fragsD t (holes k)]] := by simp [nodeF, fragD, fragDs_map]
theorem plain_sim {r : Int} {k : Nat} (hk : k ≤ 100000000 := by ((try simp only [List.length_map, List.length_append, List.length_cons, List.length_nil, List.length_replicate, List.length_set, List.length_take, List.length_drop]); first | omega | assumption)) : ACalls Try.prog 117 [I r, I k] [] (.own 22 1) [(22, .row 67 3 ((nodeF r k).map (fragD false)))] := by
  refine ACalls.intro (n := 23) Try.func117 rfl rfl (by simp) (by rfl) ?_
  simp only [argFr]
  repeat (first | refine wk ?_)
  refine aw_nilCell 5 2 900 67 3 rfl rfl rfl rfl ?_
  refine t_loop (X := Nat) (fun x => x ≤ k) (fun x => [(6, I x), (1, I k), (5, .ptr 5 0)]) (fun x => [(5, .box 67 [.d (iD 1), .d (iD r), .own 900 (holes x).length]), (900, .row 67 3 ((holes x).map (fragD false)))]) (fun x => k - x) 0 (Nat.zero_le _) ?_
  intro i h1
  have hh : (holes i).length = i := by simp [holes]
  by_cases hlt : i < k
  · have e := holes_dsnoc false i
    have e' : (holes (i + 1)).length = (holes i).length + 1 := by rw [holes_snoc]; simp
    repeat (first | refine wk ?_)
    exact t_next (i + 1)
  · obtain rfl : i = k := by omega
    refine aw_froz 900 rfl ?_
    rw [nodeF_map]
    repeat (first | refine wk ?_)
    exact fin
end Go.Proofs.Yticnpbopelgmiaa
namespace Go.Proofs.Yticnpbopelgmiaa
open Go.RowKit
set_option maxRecDepth 100000

theorem bump_row {u : List Int} {n : Int} (hn : n.toNat < u.length) : (u.map iD).set n.toNat (iD (u[n.toNat] + 1)) = (bump u n).map iD := by
  rw [bump, List.map_set, List.getD_eq_getElem?_getD, List.getElem?_eq_getElem hn]; rfl
set_option maxHeartbeats 2000000 in
theorem uses_gen : ∀ (N : Nat) {t : Bool} {l : List Frag} {m : Nat} {u : List Int} {Z k : Nat}, fszs l < N → u.length = k → Upto Z u → Z + fszs l ≤ 100000000 → k ≤ 100000000 → m ≤ 100000000 →
    ACalls Try.prog 54 [.d (fragsD t l), I m, .own 1000 k] [(1000, .row 3 1 (u.map iD))] (B (usL m l u).1) [(1000, .row 3 1 ((usL m l u).2.map iD))] := by
  intro N
  induction N with
  | zero => intro t l m u Z k h; omega
  | succ N ih =>
  intro t l m u Z k hn hk hB hN hu hm
  have hl := Nat.le_trans (fszs_len l) (show fszs l ≤ 100000000 by omega)
  refine ACalls.intro (n := 73) Try.func54 rfl rfl (by simp) (by rfl) ?_
  simp only [argFr]
  repeat (first | refine wk ?_)
  refine t_loop (X := Nat × List Int) (fun x => x.1 ≤ l.length ∧ usL m l u = usL m (l.drop x.1) x.2 ∧ x.2.length = k ∧ Upto (Z + fszs (l.take x.1)) x.2) (fun x => [(7, I x.1), (0, .d (fragsD t l)), (1, I m), (2, .own 1000 k)]) (fun x => [(1000, .row 3 1 (x.2.map iD))]) (fun x => l.length - x.1) (0, u) ⟨Nat.zero_le _, rfl, hk, by simpa [fszs] using hB⟩ ?_
  rintro ⟨i, v⟩ ⟨h1, h2, h3, h4⟩
  dsimp only at h1 h2 h3 h4 ⊢
  by_cases hlt : i < l.length
  · have e1 := fszs_take hlt
    have e2 := fsz_eq l[i]
    have e3 := fszs_mem (List.getElem_mem hlt)
    have e4 := fszs_split l i
    have e5 := fszs_drop hlt
    have s1 := usL_step (m := m) (u := v) hlt
    rw [← h2] at s1
    have s2 := usF_eq m l[i] v
    by_cases o1 : l[i].op = 1
    · rw [if_pos o1] at s2
      by_cases n1 : l[i].n < 0
      · rw [if_pos (Or.inl n1)] at s2
        rw [s2] at s1
        rw [s1]
        repeat (first | refine wk ?_)
        exact fin
      by_cases n2 : (m : Int) ≤ l[i].n
      · rw [if_pos (Or.inr n2)] at s2
        rw [s2] at s1
        rw [s1]
        repeat (first | refine wk ?_)
        exact fin
      rw [if_neg (fun h => h.elim n1 n2)] at s2
      rw [s2] at s1
      repeat (first | refine wk ?_)
      refine s_call [] (hA := ih (t := t) (l := l[i].l) (m := m) (u := v) (Z := Z + fszs (l.take i)) (k := k) (by omega) h3 h4 (by omega) (by omega) hm) (hr := ?_)
      have u1 := usL_len m l[i].l v
      have u2 := usL_upto m l[i].l v _ h4
      cases hc : (usL m l[i].l v).1 with
      | true =>
        rw [hc] at s1
        simp only [cond_true] at s1
        repeat (first | refine wk ?_)
        exact t_next (i + 1, (usL m l[i].l v).2) (a := ⟨by omega, s1, by dsimp only; omega, u2.mono (by dsimp only; omega)⟩) (b := by dsimp only; omega)
      | false =>
        rw [hc] at s1
        simp only [cond_false] at s1
        rw [s1]
        repeat (first | refine wk ?_)
        exact fin
    · rw [if_neg o1] at s2
      by_cases o24 : l[i].op = 2 ∨ l[i].op = 4
      · by_cases n1 : l[i].n < 0
        · have s3 : usF m l[i] v = (false, v) := by
            rcases o24 with o2 | o4
            · rw [if_pos o2, if_pos (Or.inl n1)] at s2; exact s2
            · rw [if_neg (by omega), if_pos o4, if_pos (Or.inl n1)] at s2; exact s2
          rw [s3] at s1
          simp only [cond_false] at s1
          rw [s1]
          by_cases o2 : l[i].op = 2
          · repeat (first | refine wk ?_)
            exact fin
          · have o4 : l[i].op = 4 := by omega
            repeat (first | refine wk ?_)
            exact fin
        by_cases n2 : (k : Int) ≤ l[i].n
        · have s3 : usF m l[i] v = (false, v) := by
            rcases o24 with o2 | o4
            · rw [if_pos o2, if_pos (Or.inr (by omega))] at s2; exact s2
            · rw [if_neg (by omega), if_pos o4, if_pos (Or.inr (by omega))] at s2; exact s2
          rw [s3] at s1
          simp only [cond_false] at s1
          rw [s1]
          by_cases o2 : l[i].op = 2
          · repeat (first | refine wk ?_)
            exact fin
          · have o4 : l[i].op = 4 := by omega
            repeat (first | refine wk ?_)
            exact fin
        have hnk : l[i].n = ((l[i].n.toNat : Nat) : Int) := by omega
        have hnl : l[i].n.toNat < v.length := by omega
        have hbr := bump_row hnl
        have hub := bump_upto (n := l[i].n) h4
        have hbl := bump_length v l[i].n
        have hvb := h4 _ (List.getElem_mem hnl)
        by_cases o2 : l[i].op = 2
        · rw [if_pos o2, if_neg (fun h => h.elim n1 (by omega))] at s2
          rw [s2] at s1
          simp only [cond_true] at s1
          repeat (first | refine wk ?_)
          exact t_next (i + 1, bump v l[i].n) (a := ⟨by omega, s1, by dsimp only; omega, hub.mono (by dsimp only; omega)⟩) (b := by dsimp only; omega)
        · have o4 : l[i].op = 4 := by omega
          rw [if_neg o2, if_pos o4, if_neg (fun h => h.elim n1 (by omega))] at s2
          rw [s2] at s1
          have u1 := usL_len m l[i].l (bump v l[i].n)
          have u2 := usL_upto m l[i].l (bump v l[i].n) _ hub
          have hih := ih (t := t) (l := l[i].l) (m := m) (u := bump v l[i].n) (k := k) (by omega) (by omega) hub (by omega) (by omega) hm
          rw [← hbr] at hih
          repeat (first | refine wk ?_)
          refine s_call [] (hA := hih) (hr := ?_)
          cases hc : (usL m l[i].l (bump v l[i].n)).1 with
          | true =>
            rw [hc] at s1
            simp only [cond_true] at s1
            repeat (first | refine wk ?_)
            exact t_next (i + 1, (usL m l[i].l (bump v l[i].n)).2) (a := ⟨by omega, s1, by dsimp only; omega, u2.mono (by dsimp only; omega)⟩) (b := by dsimp only; omega)
          | false =>
            rw [hc] at s1
            simp only [cond_false] at s1
            rw [s1]
            repeat (first | refine wk ?_)
            exact fin
      · have o2 : ¬ l[i].op = 2 := fun h => o24 (Or.inl h)
        have o4 : ¬ l[i].op = 4 := fun h => o24 (Or.inr h)
        rw [if_neg o2, if_neg o4] at s2
        by_cases o3 : l[i].op = 3
        · rw [if_pos o3] at s2
          rw [s2] at s1
          simp only [cond_true] at s1
          repeat (first | refine wk ?_)
          exact t_next (i + 1, v) (a := ⟨by omega, s1, h3, h4.mono (by dsimp only; omega)⟩) (b := by dsimp only; omega)
        · rw [if_neg o3] at s2
          rw [s2] at s1
          simp only [cond_false] at s1
          rw [s1]
          repeat (first | refine wk ?_)
          exact fin
  · rw [h2, usL_end hlt]
    repeat (first | refine wk ?_)
    exact fin
end Go.Proofs.Yticnpbopelgmiaa
