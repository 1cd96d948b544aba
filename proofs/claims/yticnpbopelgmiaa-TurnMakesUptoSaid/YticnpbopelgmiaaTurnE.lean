/-
  Sim: the reference's closedGaps, placed.
-/
import Derived.Test.YticnpbopelgmiaaTurnD
import Derived.Test.YticnpbopelgmiaaQSimPf
set_option linter.unusedVariables false
set_option linter.unusedSimpArgs false
set_option linter.unusedSectionVars false
namespace Go.Proofs.Yticnpbopelgmiaa
open Go.RowKit
set_option maxRecDepth 100000
-- SimX

set_option maxHeartbeats 4000000 in
theorem closedGaps_gen : ∀ (N : Nat) {l w : List Frag}, fszs l < N → fszs l * (1 + fszs w) ≤ 100000000 → fszs w ≤ 100000000 → ACalls Try.prog 158 [.d (fragsD false l), .d (fragsD false w)] [] (.d (fragsD false (gpL w l))) [] := by
  intro N
  induction N with
  | zero => intro l w h; omega
  | succ N ih =>
  intro l w hn hN hw
  have hcl : fszs l ≤ fszs l * (1 + fszs w) := Nat.le_mul_of_pos_right _ (by omega)
  have hl := Nat.le_trans (fszs_len l) (Nat.le_trans hcl hN)
  have how := ownFrag_sim (t := false) (l := w) hw
  have hwl := Nat.le_trans (fszs_len w) hw
  refine ACalls.intro (n := 45) Try.func158 rfl rfl (by simp) (by rfl) ?_
  simp only [argFr]
  repeat (first | refine wk ?_ | refine s_field (hr := ?_))
  refine aw_nil 5 900 67 3 rfl rfl rfl ?_
  refine t_loop (X := Nat) (fun i => i ≤ l.length) (fun i => [(6, I i), (5, .own 900 (gpL w (l.take i)).length), (0, .d (fragsD false l)), (1, .d (fragsD false w))]) (fun i => [(900, .row 67 3 ((gpL w (l.take i)).map (fragD false)))]) (fun i => l.length - i) 0 (Nat.zero_le _) ?_
  intro i h1
  by_cases hlt : i < l.length
  · have e1 := gpL_take (w := w) hlt
    have e2 := gpF_eq w l[i]
    have e3 := fszs_mem (List.getElem_mem hlt)
    have e4 := fsz_eq l[i]
    have e5 := Nat.le_trans (fszs_len _) (gpL_size w (l.take (i + 1)))
    have e6 : fszs (l.take (i + 1)) ≤ fszs l := by have := fszs_split l (i + 1); omega
    have e7 := Nat.le_trans e5 (Nat.mul_le_mul_right (1 + fszs w) e6)
    have e8 := congrArg List.length e1
    rw [List.length_append] at e8
    by_cases hr : l[i].op = 3
    · rw [if_pos hr] at e2
      rw [e2] at e1 e8
      have e := congrArg (List.map (fragD false)) e1
      rw [List.map_append] at e
      repeat (first | refine wk ?_ | refine s_field (hr := ?_))
      --@
      refine s_call [] (hA := how) (hr := ?_)
      repeat (first | refine wk ?_ | refine s_field (hr := ?_))
      --@
      exact t_next (i + 1)
    · rw [if_neg hr] at e2
      rw [e2] at e1 e8
      have e : (gpL w (l.take i)).map (fragD false) ++ [D.agg [iD l[i].op, iD l[i].n, fragsD false (gpL w l[i].l)]] = (gpL w (l.take (i + 1))).map (fragD false) := by rw [e1, List.map_append]; simp only [List.map_cons, List.map_nil, fragA_eq]; rfl
      have hk := Nat.mul_le_mul_right (1 + fszs w) (show fszs l[i].l ≤ fszs l by omega)
      have hih := ih (l := l[i].l) (w := w) (by omega) (by omega) hw
      repeat (first | refine wk ?_ | refine s_field (hr := ?_))
      --@
      refine s_call [] (hA := hih) (hr := ?_)
      repeat (first | refine wk ?_ | refine s_field (hr := ?_))
      --@
      rw [e, List.length_map]
      exact t_next (i + 1)
  · rw [show l.take i = l from List.take_of_length_le (by omega)]
    refine aw_froz 900 rfl ?_
    repeat (first | refine wk ?_ | refine s_field (hr := ?_))
    exact fin
theorem ownFragO_sim {t : Bool} {l : List Frag} (hN : fszs l ≤ 100000000) : ACalls Try.prog 120 [.d (fragsD t l)] [] (.own 900 l.length) [(900, .row 67 3 (l.map (fragD false)))] := by
  have hl := Nat.le_trans (fszs_len l) hN
  refine ACalls.intro (n := 32) Try.func120 rfl rfl (by simp) (by rfl) ?_
  simp only [argFr]
  repeat (first | refine wk ?_ | refine s_field (hr := ?_))
  refine aw_nil 3 900 67 3 rfl rfl rfl ?_
  refine t_loop (X := Nat) (fun i => i ≤ l.length) (fun i => [(4, I i), (3, .own 900 (l.take i).length), (0, .d (fragsD t l))]) (fun i => [(900, .row 67 3 ((l.take i).map (fragD false)))]) (fun i => l.length - i) 0 (Nat.zero_le _) ?_
  intro i hi
  have hTl : (l.take i).length = i := by simp; omega
  by_cases hlt : i < l.length
  · have e3 := fszs_mem (List.getElem_mem hlt)
    have e2 := fsz_eq l[i]
    have hc := ownFrag_sim (t := t) (l := l[i].l) (by omega)
    have e1 : (l.take i).map (fragD false) ++ [D.agg [iD l[i].op, iD l[i].n, fragsD false l[i].l]] = (l.take (i + 1)).map (fragD false) := by
      rw [List.take_succ_eq_append_getElem hlt, List.map_append]; simp [fragD_eq]
    repeat (first | refine wk ?_ | refine s_field (hr := ?_))
    refine s_call [] (hA := hc) (hr := ?_)
    repeat (first | refine wk ?_ | refine s_field (hr := ?_))
    rw [e1]
    exact t_next (i + 1)
  · obtain rfl : i = l.length := by omega
    rw [List.take_length]
    repeat (first | refine wk ?_ | refine s_field (hr := ?_))
    exact fin
/-- What is moved so far. -/
def movA (o b : Int) (l : List Frag) (i : Nat) : List Frag := movL o b (l.take i) ++ l.drop i
theorem movA_len (o b : Int) (l : List Frag) (i : Nat) : (movA o b l i).length = l.length := by
  unfold movA
  rw [List.length_append, movL_len, List.length_take, List.length_drop]; omega
theorem movA_get {o b : Int} {l : List Frag} {i : Nat} (h : i < l.length) : (movA o b l i)[i]'(by rw [movA_len]; exact h) = l[i] := by
  have h1 : (movL o b (l.take i)).length = i := by rw [movL_len, List.length_take]; omega
  unfold movA
  rw [List.getElem_append_right (by omega)]
  simp [h1]
theorem movA_set {o b : Int} {l : List Frag} {i : Nat} (h : i < l.length) : (movA o b l i).set i (movF o b l[i]) = movA o b l (i + 1) := by
  have h1 : (movL o b (l.take i)).length = i := by rw [movL_len, List.length_take]; omega
  unfold movA
  rw [List.set_append_right _ _ (by omega), movL_take h, h1, Nat.sub_self, List.drop_eq_getElem_cons h, List.set_cons_zero]; simp
set_option maxHeartbeats 4000000 in
theorem shifted_gen : ∀ (N : Nat) {t : Bool} {l : List Frag} {o b : Int}, fszs l < N → fszs l ≤ 100000000 → NbL 1000000000 l → -1000000000 ≤ b → b ≤ 1000000000 → ACalls Try.prog 119 [.d (fragsD t l), I o, I b] [] (.d (fragsD false (movL o b l))) [] := by
  intro N
  induction N with
  | zero => intro t l o b h; omega
  | succ N ih =>
  intro t l o b hn hN hB hb0 hb1
  have hl := Nat.le_trans (fszs_len l) hN
  have how := ownFragO_sim (t := t) (l := l) hN
  refine ACalls.intro (n := 62) Try.func119 rfl rfl (by simp) (by rfl) ?_
  simp only [argFr]
  repeat (first | refine wk ?_ | refine s_field (hr := ?_))
  refine s_call [] (hA := how) (hr := ?_)
  repeat (first | refine wk ?_ | refine s_field (hr := ?_))
  --@
  refine t_loop (X := Nat) (fun i => i ≤ l.length) (fun i => [(8, I i), (7, .own 900 (movA o b l i).length), (1, I o), (2, I b)]) (fun i => [(900, .row 67 3 ((movA o b l i).map (fragD false)))]) (fun i => l.length - i) 0 (Nat.zero_le _) ?_
  intro i h1
  have hAl := movA_len o b l i
  by_cases hlt : i < l.length
  · have hA : ∃ q : i < (movA o b l i).length, (movA o b l i)[i]'q = l[i] := ⟨by omega, movA_get hlt⟩
    have hS := movA_set (o := o) (b := b) hlt
    have e2 := movF_eq o b l[i]
    have e3 := fszs_mem (List.getElem_mem hlt)
    have e4 := fsz_eq l[i]
    obtain ⟨⟨n0, n1⟩, hB2⟩ := NbF_eq (NbL_mem hB (List.getElem_mem hlt))
    have hih := ih (t := false) (l := l[i].l) (o := o) (b := b) (by omega) (by omega) hB2 hb0 hb1
    have hAl2 := movA_len o b l (i + 1)
    generalize movA o b l i = A at *
    have hiD : ∀ q : i < A.length, (A.map (fragD false))[i]? = some (.agg [iD A[i].op, iD A[i].n, fragsD false A[i].l]) := fun q => by
      rw [List.getElem?_map, List.getElem?_eq_getElem q, Option.map_some, fragA_eq]
    obtain ⟨hiA, hA⟩ := hA
    have hiD := hiD hiA
    have hset : ∀ (A : List Frag) (q : i < A.length), (A.map (fragD false)).set i (.agg [iD A[i].op, iD A[i].n, fragsD false (movL o b A[i].l)]) = (A.set i (.mk A[i].op A[i].n (movL o b A[i].l))).map (fragD false) := fun A q => by
      rw [List.map_set, fragA_eq]; rfl
    have hset0 := hset A hiA
    by_cases hmv : (l[i].op = 2 ∨ l[i].op = 4) ∧ o < l[i].n
    · obtain ⟨hop, hov⟩ := hmv
      rw [show mvN l[i].op l[i].n o b = l[i].n + b from if_pos ⟨hop, hov⟩, ← hA] at e2
      rw [← hA] at hop hov hih n0 n1 hS
      have e9 : (A.map (fragD false)).set i (.agg [iD A[i].op, .raw (.int .i64 (A[i].n + b)), fragsD false A[i].l]) = (A.set i (.mk A[i].op (A[i].n + b) A[i].l)).map (fragD false) := by
        rw [List.map_set, fragA_eq]; rfl
      rcases hop with hop | hop
      · repeat (first | refine wk ?_ | refine s_field (hr := ?_))
        --@
        refine d_storeF TY gOk_none rfl rfl rfl rfl (List.length_map _) hiD (.d _) rfl rfl rfl rfl rfl rfl ?_
        --@
        dsimp only [List.set]
        rw [e9]
        have hA1 : (A.set i (.mk A[i].op (A[i].n + b) A[i].l)).length = A.length := List.length_set
        have hA2 : ∃ q : i < (A.set i (.mk A[i].op (A[i].n + b) A[i].l)).length, (A.set i (.mk A[i].op (A[i].n + b) A[i].l))[i]'q = .mk A[i].op (A[i].n + b) A[i].l := ⟨by omega, by simp⟩
        have hA3 : (A.set i (.mk A[i].op (A[i].n + b) A[i].l)).set i (movF o b A[i]) = movA o b l (i + 1) := by rw [List.set_set]; exact hS
        generalize hx : (Frag.mk A[i].op (A[i].n + b) A[i].l) = x at *
        generalize A.set i x = A' at *
        obtain ⟨hi2, hA4⟩ := hA2
        have hiD2 : (A'.map (fragD false))[i]? = some (.agg [iD x.op, iD x.n, fragsD false x.l]) := by
          rw [List.getElem?_map, List.getElem?_eq_getElem hi2, Option.map_some, hA4, fragA_eq]
        have hxl : x.l = A[i].l := by rw [← hx]; rfl
        rw [← hxl, ← hA4] at hih
        have hset2 : (A'.map (fragD false)).set i (.agg [iD x.op, iD x.n, fragsD false (movL o b x.l)]) = (movA o b l (i + 1)).map (fragD false) := by
          rw [← hA3, e2, List.map_set, fragA_eq, ← hx]; rfl
        have hlen2 : A.length = (movA o b l (i + 1)).length := by omega
        repeat (first | refine wk ?_ | refine s_field (hr := ?_))
        refine s_call [] (hA := hih) (hr := ?_)
        repeat (first | refine wk ?_ | refine s_field (hr := ?_))
        rw [hA4]
        refine d_storeF TY gOk_none rfl rfl rfl rfl ((List.length_map _).trans hA1) hiD2 (.d _) rfl rfl rfl rfl rfl rfl ?_
        repeat (first | refine wk ?_ | refine s_field (hr := ?_))
        --@
        rw [hlen2]
        exact t_next (i + 1) (d := ⟨row_eq rfl hset2, trivial⟩)
      · (repeat (first | refine wkz ?_ | refine s_field (hr := ?_)))
        --@
        refine d_storeF TY gOk_none rfl rfl rfl rfl (List.length_map _) hiD (.d _) rfl rfl rfl rfl rfl rfl ?_
        --@
        dsimp only [List.set]
        rw [e9]
        have hA1 : (A.set i (.mk A[i].op (A[i].n + b) A[i].l)).length = A.length := List.length_set
        have hA2 : ∃ q : i < (A.set i (.mk A[i].op (A[i].n + b) A[i].l)).length, (A.set i (.mk A[i].op (A[i].n + b) A[i].l))[i]'q = .mk A[i].op (A[i].n + b) A[i].l := ⟨by omega, by simp⟩
        have hA3 : (A.set i (.mk A[i].op (A[i].n + b) A[i].l)).set i (movF o b A[i]) = movA o b l (i + 1) := by rw [List.set_set]; exact hS
        generalize hx : (Frag.mk A[i].op (A[i].n + b) A[i].l) = x at *
        generalize A.set i x = A' at *
        obtain ⟨hi2, hA4⟩ := hA2
        have hiD2 : (A'.map (fragD false))[i]? = some (.agg [iD x.op, iD x.n, fragsD false x.l]) := by
          rw [List.getElem?_map, List.getElem?_eq_getElem hi2, Option.map_some, hA4, fragA_eq]
        have hxl : x.l = A[i].l := by rw [← hx]; rfl
        rw [← hxl, ← hA4] at hih
        have hset2 : (A'.map (fragD false)).set i (.agg [iD x.op, iD x.n, fragsD false (movL o b x.l)]) = (movA o b l (i + 1)).map (fragD false) := by
          rw [← hA3, e2, List.map_set, fragA_eq, ← hx]; rfl
        have hlen2 : A.length = (movA o b l (i + 1)).length := by omega
        repeat (first | refine wk ?_ | refine s_field (hr := ?_))
        refine s_call [] (hA := hih) (hr := ?_)
        repeat (first | refine wk ?_ | refine s_field (hr := ?_))
        rw [hA4]
        refine d_storeF TY gOk_none rfl rfl rfl rfl ((List.length_map _).trans hA1) hiD2 (.d _) rfl rfl rfl rfl rfl rfl ?_
        repeat (first | refine wk ?_ | refine s_field (hr := ?_))
        --@
        rw [hlen2]
        exact t_next (i + 1) (d := ⟨row_eq rfl hset2, trivial⟩)
    · rw [show mvN l[i].op l[i].n o b = l[i].n from if_neg hmv, ← hA] at e2
      rw [← hA] at hih hmv hS
      rw [e2] at hS
      rw [hS] at hset0
      have hlen2 : A.length = (movA o b l (i + 1)).length := by omega
      by_cases h2 : A[i].op = 2
      · have hov : ¬ o < A[i].n := fun q => hmv ⟨.inl h2, q⟩
        repeat (first | refine wk ?_ | refine s_field (hr := ?_))
        refine s_call [] (hA := hih) (hr := ?_)
        repeat (first | refine wk ?_ | refine s_field (hr := ?_))
        refine d_storeF TY gOk_none rfl rfl rfl rfl (List.length_map _) hiD (.d _) rfl rfl rfl rfl rfl rfl ?_
        repeat (first | refine wk ?_ | refine s_field (hr := ?_))
        --@
        rw [hlen2]
        exact t_next (i + 1) (d := ⟨row_eq rfl hset0, trivial⟩)
      · by_cases h4 : A[i].op = 4
        · have hov : ¬ o < A[i].n := fun q => hmv ⟨.inr h4, q⟩
          (repeat (first | refine wkz ?_ | refine s_field (hr := ?_)))
          refine s_call [] (hA := hih) (hr := ?_)
          repeat (first | refine wk ?_ | refine s_field (hr := ?_))
          refine d_storeF TY gOk_none rfl rfl rfl rfl (List.length_map _) hiD (.d _) rfl rfl rfl rfl rfl rfl ?_
          repeat (first | refine wk ?_ | refine s_field (hr := ?_))
          --@
          rw [hlen2]
          exact t_next (i + 1) (d := ⟨row_eq rfl hset0, trivial⟩)
        · (repeat (first | refine wkz ?_ | refine s_field (hr := ?_)))
          refine s_call [] (hA := hih) (hr := ?_)
          repeat (first | refine wk ?_ | refine s_field (hr := ?_))
          refine d_storeF TY gOk_none rfl rfl rfl rfl (List.length_map _) hiD (.d _) rfl rfl rfl rfl rfl rfl ?_
          repeat (first | refine wk ?_ | refine s_field (hr := ?_))
          --@
          rw [hlen2]
          exact t_next (i + 1) (d := ⟨row_eq rfl hset0, trivial⟩)
  · obtain rfl : i = l.length := by omega
    have e : movA o b l l.length = movL o b l := by unfold movA; rw [List.take_length, List.drop_length, List.append_nil]
    rw [e] at hAl ⊢
    refine aw_froz 900 rfl ?_
    repeat (first | refine wk ?_ | refine s_field (hr := ?_))
    exact fin
end Go.Proofs.Yticnpbopelgmiaa
