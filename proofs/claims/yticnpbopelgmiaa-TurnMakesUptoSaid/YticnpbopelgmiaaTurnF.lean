/-
  Sim: the reference's placed, Plugged.
-/
import Derived.Test.YticnpbopelgmiaaTurnE
set_option linter.unusedVariables false
set_option linter.unusedSimpArgs false
set_option linter.unusedSectionVars false
namespace Go.Proofs.Yticnpbopelgmiaa
open Go.RowKit
set_option maxRecDepth 100000
-- SimX

set_option maxHeartbeats 8000000 in
theorem placed_gen : ∀ (N : Nat) {l inn : List Frag} {k b : Int}, fszs l < N → fszs l ≤ 100000000 → PtL k inn b l → NbL 1000000000 l → -1000000000 ≤ b → b ≤ 1000000000 → fszs inn ≤ 100000000 →
    ∀ t, ACalls Try.prog 118 [.d (fragsD t l), I k, .d (fragsD false inn), I b] [] (.d (fragsD false (ptL k inn b l))) [] := by
  intro N
  induction N with
  | zero => intro l inn k b h; omega
  | succ N ih =>
  intro l inn k b hn hN hP hB hb0 hb1 hi t
  have hl := Nat.le_trans (fszs_len l) hN
  have hil := Nat.le_trans (fszs_len inn) hi
  have hsz := PtL_size hP
  have hpl := Nat.le_trans (fszs_len _) hsz
  have how := ownFrag_sim (t := false) (l := inn) hi
  refine ACalls.intro (n := 83) Try.func118 rfl rfl (by simp) (by rfl) ?_
  simp only [argFr]
  repeat (first | refine wk ?_ | refine s_field (hr := ?_))
  refine aw_nil 9 900 67 3 rfl rfl rfl ?_
  --@
  refine t_loop (X := Nat) (fun i => i ≤ l.length) (fun i => [(10, I i), (9, .own 900 (ptL k inn b (l.take i)).length), (0, .d (fragsD t l)), (1, I k), (2, .d (fragsD false inn)), (3, I b)]) (fun i => [(900, .row 67 3 ((ptL k inn b (l.take i)).map (fragD false)))]) (fun i => l.length - i) 0 (Nat.zero_le _) ?_
  intro i h1
  by_cases hlt : i < l.length
  · have e1 := ptL_take (k := k) (inn := inn) (b := b) hlt
    have e2 := ptF_eq k inn b l[i]
    have e3 := fszs_mem (List.getElem_mem hlt)
    have e4 := fsz_eq l[i]
    obtain ⟨⟨n0, n1⟩, hB2⟩ := NbF_eq (NbL_mem hB (List.getElem_mem hlt))
    obtain ⟨p1, p2⟩ := PtF_eq (PtL_mem hP (List.getElem_mem hlt))
    have hih := ih (l := l[i].l) (inn := inn) (k := k) (b := b) (by omega) (by omega) p1 hB2 hb0 hb1 hi t
    have hlen : (ptL k inn b (l.take (i + 1))).length ≤ 100000000 := by
      have := congrArg List.length (ptL_append k inn b (l.take (i + 1)) (l.drop (i + 1)))
      rw [List.take_append_drop, List.length_append] at this
      omega
    have e8 := congrArg List.length e1
    rw [List.length_append] at e8
    by_cases h2 : l[i].op = 2
    · have h4 : ¬ l[i].op = 4 := by omega
      by_cases hk : l[i].n = k
      · rw [if_pos ⟨h2, hk⟩] at e2
        rw [e2] at e1 e8
        have e := congrArg (List.map (fragD false)) e1
        rw [List.map_append] at e
        repeat (first | refine wk ?_ | refine s_field (hr := ?_))
        --@
        refine s_call [] (hA := hih) (hr := ?_)
        repeat (first | refine wk ?_ | refine s_field (hr := ?_))
        --@
        refine s_call [] (hA := how) (hr := ?_)
        repeat (first | refine wk ?_ | refine s_field (hr := ?_))
        exact t_next (i + 1)
      · rw [if_neg (fun h => hk h.2), if_neg (fun h => hk h.2)] at e2
        rw [e2] at e1 e8
        by_cases hov : k < l[i].n
        · have e : (ptL k inn b (l.take i)).map (fragD false) ++ [D.agg [iD l[i].op, .raw (.int .i64 (l[i].n + b)), fragsD false (ptL k inn b l[i].l)]] = (ptL k inn b (l.take (i + 1))).map (fragD false) := by
            rw [e1, List.map_append, show mvN l[i].op l[i].n k b = l[i].n + b from if_pos ⟨.inl h2, hov⟩]; simp only [List.map_cons, List.map_nil, fragA_eq]; rfl
          repeat (first | refine wk ?_ | refine s_field (hr := ?_))
          refine s_call [] (hA := hih) (hr := ?_)
          repeat (first | refine wk ?_ | refine s_field (hr := ?_))
          --@
          rw [e, List.length_map]
          exact t_next (i + 1)
        · have hlo : l[i].n < k := by omega
          have e : (ptL k inn b (l.take i)).map (fragD false) ++ [D.agg [iD l[i].op, iD l[i].n, fragsD false (ptL k inn b l[i].l)]] = (ptL k inn b (l.take (i + 1))).map (fragD false) := by
            rw [e1, List.map_append, show mvN l[i].op l[i].n k b = l[i].n from if_neg (fun h => hov h.2)]; simp only [List.map_cons, List.map_nil, fragA_eq]; rfl
          repeat (first | refine wk ?_ | refine s_field (hr := ?_))
          refine s_call [] (hA := hih) (hr := ?_)
          repeat (first | refine wk ?_ | refine s_field (hr := ?_))
          --@
          rw [e, List.length_map]
          exact t_next (i + 1)
    · by_cases h4 : l[i].op = 4
      · by_cases hk : l[i].n = k
        · rw [if_neg (fun h => h2 h.1), if_pos ⟨h4, hk⟩] at e2
          rw [e2] at e1 e8
          have e := congrArg (List.map (fragD false)) e1
          rw [List.map_append] at e
          have hg := closedGaps_gen _ (l := inn) (w := ptL k inn b l[i].l) (Nat.lt_succ_self _) (p2 ⟨h4, hk⟩) (Nat.le_trans (PtL_size p1) (Nat.le_refl _))
          repeat (first | refine wk ?_ | refine s_field (hr := ?_))
          refine s_call [] (hA := hih) (hr := ?_)
          repeat (first | refine wk ?_ | refine s_field (hr := ?_))
          --@
          (repeat (first | refine wkz ?_ | refine s_field (hr := ?_)))
          --@
          repeat (first | refine wk ?_ | refine s_field (hr := ?_))
          refine s_call [] (hA := hg) (hr := ?_)
          repeat (first | refine wk ?_ | refine s_field (hr := ?_))
          exact t_next (i + 1)
        · rw [if_neg (fun h => h2 h.1), if_neg (fun h => hk h.2)] at e2
          rw [e2] at e1 e8
          by_cases hov : k < l[i].n
          · have e : (ptL k inn b (l.take i)).map (fragD false) ++ [D.agg [iD l[i].op, .raw (.int .i64 (l[i].n + b)), fragsD false (ptL k inn b l[i].l)]] = (ptL k inn b (l.take (i + 1))).map (fragD false) := by
              rw [e1, List.map_append, show mvN l[i].op l[i].n k b = l[i].n + b from if_pos ⟨.inr h4, hov⟩]; simp only [List.map_cons, List.map_nil, fragA_eq]; rfl
            repeat (first | refine wk ?_ | refine s_field (hr := ?_))
            refine s_call [] (hA := hih) (hr := ?_)
            repeat (first | refine wk ?_ | refine s_field (hr := ?_))
            (repeat (first | refine wkz ?_ | refine s_field (hr := ?_)))
            repeat (first | refine wk ?_ | refine s_field (hr := ?_))
            rw [e, List.length_map]
            exact t_next (i + 1)
          · have hlo : l[i].n < k := by omega
            have e : (ptL k inn b (l.take i)).map (fragD false) ++ [D.agg [iD l[i].op, iD l[i].n, fragsD false (ptL k inn b l[i].l)]] = (ptL k inn b (l.take (i + 1))).map (fragD false) := by
              rw [e1, List.map_append, show mvN l[i].op l[i].n k b = l[i].n from if_neg (fun h => hov h.2)]; simp only [List.map_cons, List.map_nil, fragA_eq]; rfl
            repeat (first | refine wk ?_ | refine s_field (hr := ?_))
            refine s_call [] (hA := hih) (hr := ?_)
            repeat (first | refine wk ?_ | refine s_field (hr := ?_))
            (repeat (first | refine wkz ?_ | refine s_field (hr := ?_)))
            repeat (first | refine wk ?_ | refine s_field (hr := ?_))
            rw [e, List.length_map]
            exact t_next (i + 1)
      · rw [if_neg (fun h => h2 h.1), if_neg (fun h => h4 h.1)] at e2
        rw [e2] at e1 e8
        have e : (ptL k inn b (l.take i)).map (fragD false) ++ [D.agg [iD l[i].op, iD l[i].n, fragsD false (ptL k inn b l[i].l)]] = (ptL k inn b (l.take (i + 1))).map (fragD false) := by
          rw [e1, List.map_append, show mvN l[i].op l[i].n k b = l[i].n from if_neg (fun h => by rcases h.1 with h | h; exact h2 h; exact h4 h)]; simp only [List.map_cons, List.map_nil, fragA_eq]; rfl
        repeat (first | refine wk ?_ | refine s_field (hr := ?_))
        refine s_call [] (hA := hih) (hr := ?_)
        repeat (first | refine wk ?_ | refine s_field (hr := ?_))
        (repeat (first | refine wkz ?_ | refine s_field (hr := ?_)))
        repeat (first | refine wk ?_ | refine s_field (hr := ?_))
        rw [e, List.length_map]
        exact t_next (i + 1)
  · rw [show l.take i = l from List.take_of_length_le (by omega)]
    refine aw_froz 900 rfl ?_
    repeat (first | refine wk ?_ | refine s_field (hr := ?_))
    exact fin
theorem plugged_sim {t u : Bool} {l inn : List Frag} {k n : Int} (h1 : fszs l ≤ 100000000) (h2 : fszs inn ≤ 100000000) (h3 : PtL k (movL (-1) k inn) (n - 1) l) (h4 : NbL 1000000000 l) (h5 : NbL 1000000000 inn) (h7 : -1000000 ≤ k) (h8 : k ≤ 1000000) (h9 : -1000000 ≤ n) (h10 : n ≤ 1000000) :
    ACalls Try.prog 66 [.d (fragsD t l), I k, .d (fragsD u inn), I n] [] (.d (fragsD false (plugL l k inn n))) [] := by
  have m1 := shifted_gen _ (t := u) (l := inn) (o := -1) (b := k) (Nat.lt_succ_self _) h2 h5 (by omega) (by omega)
  have m2 := placed_gen _ (l := l) (inn := movL (-1) k inn) (k := k) (b := n - 1) (Nat.lt_succ_self _) h1 h3 h4 (by omega) (by omega) (by rw [movL_size]; exact h2) t
  unfold plugL
  refine ACalls.intro (n := 17) Try.func66 rfl rfl (by simp) (by rfl) ?_
  simp only [argFr]
  repeat (first | refine wk ?_ | refine s_field (hr := ?_))
  refine s_call [] (hA := m1) (hr := ?_)
  repeat (first | refine wk ?_ | refine s_field (hr := ?_))
  refine s_call [] (hA := m2) (hr := ?_)
  repeat (first | refine wk ?_ | refine s_field (hr := ?_))
  exact fin
end Go.Proofs.Yticnpbopelgmiaa
