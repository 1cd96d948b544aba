/-
  Sim: templates put into templates: moved, gaps, put, Own, Plug.
-/
import Derived.Test.YticnpbopelgmiaaPlugP
import Derived.Test.YticnpbopelgmiaaFrA
set_option linter.unusedVariables false
set_option linter.unusedSimpArgs false
set_option linter.unusedSectionVars false
namespace Go.Proofs.Yticnpbopelgmiaa
open Go.RowKit
set_option maxRecDepth 100000
-- SimX

set_option maxHeartbeats 4000000 in
theorem moved_gen : ∀ (N : Nat) {t : Bool} {l : List Frag} {o b : Int}, fszs l < N → fszs l ≤ 100000000 → NbL 1000000000 l → -1000000000 ≤ b → b ≤ 1000000000 → ACalls Try.prog 115 [.d (fragsD t l), I o, I b] [] (.d (fragsD false (movL o b l))) [] := by
  intro N
  induction N with
  | zero => intro t l o b h; omega
  | succ N ih =>
  intro t l o b hn hN hB hb0 hb1
  have hl := Nat.le_trans (fszs_len l) hN
  refine ACalls.intro (n := 52) Try.func115 rfl rfl (by simp) (by rfl) ?_
  simp only [argFr]
  repeat (first | refine wk ?_ | refine s_field (hr := ?_))
  refine aw_nil 7 900 67 3 rfl rfl rfl ?_
  refine t_loop (X := Nat) (fun i => i ≤ l.length) (fun i => [(13, I i), (12, I l.length), (11, .d (fragsD t l)), (7, .own 900 (movL o b (l.take i)).length), (1, I o), (2, I b)]) (fun i => [(900, .row 67 3 ((movL o b (l.take i)).map (fragD false)))]) (fun i => l.length - i) 0 (Nat.zero_le _) ?_
  intro i h1
  by_cases hlt : i < l.length
  · have e1 := movL_take (o := o) (b := b) hlt
    have e2 := movF_eq o b l[i]
    have e3 := fszs_mem (List.getElem_mem hlt)
    have e4 := fsz_eq l[i]
    have hm := movL_len o b (l.take i)
    obtain ⟨⟨n0, n1⟩, hB2⟩ := NbF_eq (NbL_mem hB (List.getElem_mem hlt))
    have hih := ih (t := t) (l := l[i].l) (o := o) (b := b) (by omega) (by omega) hB2 hb0 hb1
    have e : (movL o b (l.take i)).map (fragD false) ++ [D.agg [iD l[i].op, iD (mvN l[i].op l[i].n o b), fragsD false (movL o b l[i].l)]] = (movL o b (l.take (i + 1))).map (fragD false) := by rw [e1, e2, List.map_append]; simp only [List.map_cons, List.map_nil, fragA_eq]; rfl
    have hlen : (movL o b (l.take i)).length ≤ 100000000 := by rw [hm, List.length_take]; omega
    by_cases hop : l[i].op = 2 ∨ l[i].op = 4
    · by_cases hov : o < l[i].n
      · rw [show mvN l[i].op l[i].n o b = l[i].n + b from if_pos ⟨hop, hov⟩] at e
        replace e : (movL o b (l.take i)).map (fragD false) ++ [D.agg [iD l[i].op, .raw (.int .i64 (l[i].n + b)), fragsD false (movL o b l[i].l)]] = (movL o b (l.take (i + 1))).map (fragD false) := e
        rcases hop with hop | hop
        · repeat (first | refine wk ?_ | refine s_field (hr := ?_))
          refine s_call [] (hA := hih) (hr := ?_)
          repeat (first | refine wk ?_ | refine s_field (hr := ?_))
          rw [e, List.length_map]
          exact t_next (i + 1)
        · repeat (first | refine wk ?_ | refine s_field (hr := ?_))
          refine s_call [] (hA := hih) (hr := ?_)
          repeat (first | refine wk ?_ | refine s_field (hr := ?_))
          rw [e, List.length_map]
          exact t_next (i + 1)
      · rw [show mvN l[i].op l[i].n o b = l[i].n from if_neg (fun h => hov h.2)] at e
        rcases hop with hop | hop
        · repeat (first | refine wk ?_ | refine s_field (hr := ?_))
          refine s_call [] (hA := hih) (hr := ?_)
          repeat (first | refine wk ?_ | refine s_field (hr := ?_))
          rw [e, List.length_map]
          exact t_next (i + 1)
        · repeat (first | refine wk ?_ | refine s_field (hr := ?_))
          refine s_call [] (hA := hih) (hr := ?_)
          repeat (first | refine wk ?_ | refine s_field (hr := ?_))
          rw [e, List.length_map]
          exact t_next (i + 1)
    · rw [show mvN l[i].op l[i].n o b = l[i].n from if_neg (fun h => hop h.1)] at e
      have h2 : ¬ l[i].op = 2 := fun h => hop (.inl h)
      have h4 : ¬ l[i].op = 4 := fun h => hop (.inr h)
      repeat (first | refine wk ?_ | refine s_field (hr := ?_))
      refine s_call [] (hA := hih) (hr := ?_)
      repeat (first | refine wk ?_ | refine s_field (hr := ?_))
      --@
      (repeat (first | refine wkz ?_ | refine s_field (hr := ?_)))
      repeat (first | refine wk ?_ | refine s_field (hr := ?_))
      rw [e, List.length_map]
      exact t_next (i + 1)
  · rw [show l.take i = l from List.take_of_length_le (by omega)]
    refine aw_froz 900 rfl ?_
    repeat (first | refine wk ?_ | refine s_field (hr := ?_))
    exact fin
theorem ownP_sim {t : Bool} {l : List Frag} (h1 : fszs l ≤ 100000000) (h2 : NbL 1000000000 l) : ACalls Try.prog 63 [.d (fragsD t l)] [] (.d (fragsD false l)) [] := by
  have hm := moved_gen _ (t := t) (l := l) (o := 0) (b := 0) (Nat.lt_succ_self _) h1 h2 (by decide) (by decide)
  rw [movL_zero] at hm
  refine ACalls.intro (n := 5) Try.func63 rfl rfl (by simp) (by rfl) ?_
  simp only [argFr]
  repeat (first | refine wk ?_ | refine s_field (hr := ?_))
  refine s_call [] (hA := hm) (hr := ?_)
  repeat (first | refine wk ?_ | refine s_field (hr := ?_))
  exact fin
end Go.Proofs.Yticnpbopelgmiaa
