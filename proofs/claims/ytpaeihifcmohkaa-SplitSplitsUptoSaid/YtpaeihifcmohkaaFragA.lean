/-
  Sim: templates: counted, which kids they use, the same, Plain, Node.
-/
import Derived.Test.YtpaeihifcmohkaaFragP
import Derived.Test.YtpaeihifcmohkaaTreeA
set_option linter.unusedVariables false
set_option linter.unusedSimpArgs false
namespace Go.Proofs.Ytpaeihifcmohkaa
open Go.RowKit
set_option maxRecDepth 100000

theorem fl_le {x : Frag} {N : Nat} (h : fsz x ≤ N) : x.l.length ≤ N := by
  have := fszs_len x.l
  rw [fsz_eq] at h
  omega

/-! ### Counted -/
theorem countedParts_gen : ∀ (n : Nat) {t : Bool} {l : List Frag}, fszs l < n → fszs l ≤ 100000000 → ACalls Try.prog 96 [.d (fragsD t l)] [] (I (cpL l)) [] := by
  intro n
  induction n with
  | zero => intro t l h; omega
  | succ n ih =>
  intro t l hn hN
  have hl := Nat.le_trans (fszs_len l) hN
  have hcl := cpL_le l
  refine ACalls.intro (n := 36) Try.func96 rfl rfl (by simp) (by rfl) ?_
  simp only [argFr]
  repeat (first | refine wk ?_)
  refine t_loop (X := Nat × Nat) (fun x => x.1 ≤ l.length ∧ x.2 + x.1 = l.length + cpL (l.take x.1)) (fun x => [(4, I x.1), (3, I x.2), (0, .d (fragsD t l))]) (fun _ => []) (fun x => l.length - x.1) (0, l.length) ⟨Nat.zero_le _, by simp [cpL]⟩ ?_
  rintro ⟨i, v⟩ ⟨h1, h2⟩
  dsimp only at h1 h2 ⊢
  by_cases hlt : i < l.length
  · have e1 := cpL_take hlt
    have e2 := cpF_eq l[i]
    have e3 := fszs_mem (List.getElem_mem hlt)
    have e4 := fsz_eq l[i]
    have e5 := cpL_le l[i].l
    have e6 : cpL l = cpL (l.take (i + 1)) + cpL (l.drop (i + 1)) := by rw [← cpL_append, List.take_append_drop]
    by_cases o1 : l[i].op = 1
    · rw [if_pos (Or.inl o1)] at e2
      repeat (first | refine wk ?_)
      refine s_call [] (hA := ih (t := t) (l := l[i].l) (by omega) (by omega)) (hr := ?_)
      repeat (first | refine wk ?_)
      exact t_next (i + 1, v + cpL l[i].l) (a := ⟨by omega, by dsimp only; omega⟩) (b := by dsimp only; omega)
    · by_cases o4 : l[i].op = 4
      · rw [if_pos (Or.inr o4)] at e2
        repeat (first | refine wk ?_)
        refine s_call [] (hA := ih (t := t) (l := l[i].l) (by omega) (by omega)) (hr := ?_)
        repeat (first | refine wk ?_)
        exact t_next (i + 1, v + cpL l[i].l) (a := ⟨by omega, by dsimp only; omega⟩) (b := by dsimp only; omega)
      · rw [if_neg (fun h => h.elim o1 o4)] at e2
        repeat (first | refine wk ?_)
        exact t_next (i + 1, v) (a := ⟨by omega, by dsimp only; omega⟩) (b := by dsimp only; omega)
  · rw [List.take_of_length_le (by omega)] at h2
    obtain rfl : v = cpL l := by omega
    repeat (first | refine wk ?_)
    exact fin
theorem countedParts_sim {t : Bool} {l : List Frag} (h : fszs l ≤ 100000000 := by ((try simp only [List.length_map, List.length_append, List.length_cons, List.length_nil, List.length_replicate, List.length_set, List.length_take, List.length_drop]); first | omega | assumption)) : ACalls Try.prog 96 [.d (fragsD t l)] [] (I (cpL l)) [] :=
  countedParts_gen _ (Nat.lt_succ_self _) h

/-! ### The same -/
theorem sameFrag_gen : ∀ (n : Nat) {t u : Bool} {l : List Frag}, fszs l < n → fszs l ≤ 100000000 → ACalls Try.prog 95 [.d (fragsD t l), .d (fragsD u l)] [] (B true) [] := by
  intro n
  induction n with
  | zero => intro t u l h; omega
  | succ n ih =>
  intro t u l hn hN
  have hl := Nat.le_trans (fszs_len l) hN
  refine ACalls.intro (n := 55) Try.func95 rfl rfl (by simp) (by rfl) ?_
  simp only [argFr]
  repeat (first | refine wk ?_)
  refine t_loop (X := Nat) (fun x => x ≤ l.length) (fun x => [(5, I x), (0, .d (fragsD t l)), (1, .d (fragsD u l))]) (fun _ => []) (fun x => l.length - x) 0 (Nat.zero_le _) ?_
  intro i h1
  by_cases hlt : i < l.length
  · have e3 := fszs_mem (List.getElem_mem hlt)
    have e4 := fsz_eq l[i]
    repeat (first | refine wk ?_)
    refine s_call [] (hA := ih (t := t) (u := u) (l := l[i].l) (by omega) (by omega)) (hr := ?_)
    repeat (first | refine wk ?_)
    exact t_next (i + 1)
  · repeat (first | refine wk ?_)
    exact fin
theorem sameFrag_sim {t u : Bool} {l : List Frag} (h : fszs l ≤ 100000000 := by ((try simp only [List.length_map, List.length_append, List.length_cons, List.length_nil, List.length_replicate, List.length_set, List.length_take, List.length_drop]); first | omega | assumption)) : ACalls Try.prog 95 [.d (fragsD t l), .d (fragsD u l)] [] (B true) [] :=
  sameFrag_gen _ (Nat.lt_succ_self _) h
theorem sameTrees_sim {t u : Bool} {l : List Tree} (hN : cnts l ≤ 100000000) : ACalls Try.prog 94 [.d (treesD t l), .d (treesD u l)] [] (B true) [] := by
  have hl := Nat.le_trans (cnts_len l) hN
  refine ACalls.intro (n := 27) Try.func94 rfl rfl (by simp) (by rfl) ?_
  simp only [argFr]
  repeat (first | refine wk ?_)
  refine t_loop (X := Nat) (fun x => x ≤ l.length) (fun x => [(5, I x), (0, .d (treesD t l)), (1, .d (treesD u l))]) (fun _ => []) (fun x => l.length - x) 0 (Nat.zero_le _) ?_
  intro i h1
  by_cases hlt : i < l.length
  · have e3 := cnts_mem (List.getElem_mem hlt)
    have s1 := sameTree_sim (t := t) (u := u) (x := l[i]) (y := l[i]) (by omega) (by omega)
    rw [ordT_refl, decide_eq_true rfl] at s1
    repeat (first | refine wk ?_)
    refine s_call [] (hA := s1) (hr := ?_)
    repeat (first | refine wk ?_)
    exact t_next (i + 1)
  · repeat (first | refine wk ?_)
    exact fin

/-! ### The template of a rule that stays -/
theorem holes_snoc (k : Nat) : holes (k + 1) = holes k ++ [.mk 2 k []] := by simp [holes, List.range_succ]
theorem holes_dsnoc (t : Bool) (k : Nat) : (holes (k + 1)).map (fragD t) = (holes k).map (fragD t) ++ [.agg [iD 2, iD k, .sl t 3 []]] := by rw [holes_snoc]; simp [fragD, fragDs]
theorem nodeF_map (t : Bool) (r : Int) (k : Nat) : (nodeF r k).map (fragD t) = [.agg [iD 1, iD r, fragsD t (holes k)]] := by simp [nodeF, fragD, fragDs_map]
theorem plain_sim {r : Int} {k : Nat} (hk : k ≤ 100000000 := by ((try simp only [List.length_map, List.length_append, List.length_cons, List.length_nil, List.length_replicate, List.length_set, List.length_take, List.length_drop]); first | omega | assumption)) : ACalls Try.prog 92 [I r, I k] [] (.own 22 1) [(22, .row 101 3 ((nodeF r k).map (fragD false)))] := by
  refine ACalls.intro (n := 23) Try.func92 rfl rfl (by simp) (by rfl) ?_
  simp only [argFr]
  repeat (first | refine wk ?_)
  refine aw_nilCell 5 2 900 101 3 rfl rfl rfl rfl ?_
  refine t_loop (X := Nat) (fun x => x ≤ k) (fun x => [(6, I x), (1, I k), (5, .ptr 5 0)]) (fun x => [(5, .box 101 [.d (iD 1), .d (iD r), .own 900 (holes x).length]), (900, .row 101 3 ((holes x).map (fragD false)))]) (fun x => k - x) 0 (Nat.zero_le _) ?_
  intro i h1
  have hh : (holes i).length = i := by simp [holes]
  by_cases hlt : i < k
  · have e := holes_dsnoc false i
    have e' : (holes (i + 1)).length = (holes i).length + 1 := by rw [holes_snoc]; simp
    repeat (first | refine wk ?_)
    exact t_next (i + 1)
  · obtain rfl : i = k := by omega
    refine aw_froz 900 rfl ?_
    rw [nodeF_map]
    repeat (first | refine wk ?_)
    exact fin
end Go.Proofs.Ytpaeihifcmohkaa
