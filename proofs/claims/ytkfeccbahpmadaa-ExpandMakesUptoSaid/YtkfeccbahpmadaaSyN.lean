/-
  Sim: how great a text is: exprSize. Sim: how long a text's names are: longName, longNames. Sim: how long a text's names are: longNames.
-/
import Derived.Test.YtkfeccbahpmadaaSynM
import Derived.Test.YtkfeccbahpmadaaTreeP
set_option linter.unusedVariables false
set_option linter.unusedSimpArgs false
set_option linter.unusedSectionVars false
namespace Go.Proofs.Ytkfeccbahpmadaa
open Go.RowKit
set_option maxRecDepth 100000
-- SimX

theorem eszs_drop {l : List Expr} {i : Nat} (h : i < l.length) : eszs (l.drop i) = esz l[i] + eszs (l.drop (i + 1)) := by
  rw [List.drop_eq_getElem_cons h, eszs]
set_option maxHeartbeats 2000000 in
theorem exprSize_gen : ∀ (N : Nat) {t : Bool} {x : Expr} {m : Nat}, esz x < N → esz x ≤ 100000000 → m ≤ 10000 → ACalls Try.prog 81 [.d (exprA t x), I m] [] (I (left_ m (esz x))) [] := by
  intro N
  induction N with
  | zero => intro t x m h; omega
  | succ N ih =>
  intro t x m hn hN hm
  refine ACalls.intro (n := 27) Try.func81 rfl rfl (by simp) (by rfl) ?_
  simp only [argFr]
  have hx := esz_eq x
  have hk := eszs_len x.l
  repeat (first | refine wk ?_ | refine s_field (hr := ?_))
  refine t_loop (X := Nat) (fun i => i ≤ x.l.length) (fun i => [(5, I i), (1, I (left_ m (1 + eszs (x.l.take i)))), (2, .ptr 2 0)]) (fun _ => [(2, .box 85 [.d (iD x.op), .d (sD x.name), .d (exprsD t x.l)])]) (fun i => x.l.length - i) 0 (Nat.zero_le _) ?_ (hf := ?_)
  rotate_left
  · refine ⟨.of rfl, int_eq rfl ?_, .of rfl, trivial⟩
    simp only [left_, List.take_zero, eszs]
    split <;> omega
  intro i hi
  by_cases hlt : i < x.l.length
  · have hm1 := eszs_mem (List.getElem_mem hlt)
    have hm3 := eszs_take hlt
    have hm4 := eszs_drop hlt
    have hm5 : eszs x.l = eszs (x.l.take i) + eszs (x.l.drop i) := by rw [← eszs_append, List.take_append_drop]
    have hp := esz_pos x.l[i]
    by_cases hv : 1 + eszs (x.l.take i) ≤ m
    · have e0 : left_ m (1 + eszs (x.l.take i)) = ((m - (1 + eszs (x.l.take i)) : Nat) : Int) := by unfold left_; rw [if_pos (by omega)]; omega
      rw [e0]
      repeat (first | refine wk ?_ | refine s_field (hr := ?_))
      refine s_call [] (hA := ih (t := t) (x := x.l[i]) (m := m - (1 + eszs (x.l.take i))) (by omega) (by omega) (by omega)) (hr := ?_)
      have e : left_ ((m - (1 + eszs (x.l.take i)) : Nat) : Int) (esz x.l[i]) = left_ m (1 + eszs (x.l.take (i + 1))) := by
        unfold left_; rw [hm3]; split <;> split <;> omega
      rw [e]
      repeat (first | refine wk ?_ | refine s_field (hr := ?_))
      exact t_next (i + 1)
    · have e0 : left_ m (1 + eszs (x.l.take i)) = -1 := by unfold left_; rw [if_neg (by omega)]
      have e1 : left_ m (esz x) = -1 := by unfold left_; rw [if_neg (by omega)]
      rw [e0, e1]
      repeat (first | refine wk ?_ | refine s_field (hr := ?_))
      exact fin
  · rw [show x.l.take i = x.l from List.take_of_length_le (by omega), ← hx]
    repeat (first | refine wk ?_ | refine s_field (hr := ?_))
    exact fin
end Go.Proofs.Ytkfeccbahpmadaa
namespace Go.Proofs.Ytkfeccbahpmadaa
open Go.RowKit
set_option maxRecDepth 100000
-- SimX

mutual
def longE : Expr → Bool
  | .mk _ n l => decide (5000 < n.size) || longEs l
def longEs : List Expr → Bool
  | [] => false
  | x :: l => longE x || longEs l
end
theorem longE_eq (x : Expr) : longE x = (decide (5000 < x.name.size) || longEs x.l) := by cases x; rw [longE]; rfl
theorem longEs_any : ∀ (l : List Expr), longEs l = l.any longE
  | [] => rfl
  | x :: l => by rw [longEs, longEs_any l]; rfl
theorem longName_gen : ∀ (N : Nat) {t : Bool} {x : Expr}, esz x < N → esz x ≤ 100000000 → ACalls Try.prog 146 [.d (exprA t x)] [] (B (longE x)) [] := by
  intro N
  induction N with
  | zero => intro t x h; omega
  | succ N ih =>
  intro t x hn hN
  refine ACalls.intro (n := 21) Try.func146 rfl rfl (by simp) (by rfl) ?_
  simp only [argFr]
  have hx := esz_eq x
  have hk := eszs_len x.l
  rw [longE_eq, longEs_any]
  by_cases h5 : 5000 < x.name.size
  · rw [decide_eq_true h5, Bool.true_or]
    repeat (first | refine wk ?_ | refine s_field (hr := ?_))
    exact fin
  rw [decide_eq_false h5, Bool.false_or]
  repeat (first | refine wk ?_ | refine s_field (hr := ?_))
  refine t_loop (X := Nat) (fun i => i ≤ x.l.length ∧ ∀ j, j < i → ∀ (hj : j < x.l.length), longE x.l[j] = false) (fun i => [(3, I i), (1, .ptr 1 0)]) (fun _ => [(1, .box 85 [.d (iD x.op), .d (sD x.name), .d (exprsD t x.l)])]) (fun i => x.l.length - i) 0 ⟨Nat.zero_le _, fun _ h => by omega⟩ ?_
  rintro i ⟨hi, hp⟩
  by_cases hlt : i < x.l.length
  · have hm := eszs_mem (List.getElem_mem hlt)
    have hih := ih (t := t) (x := x.l[i]) (by omega) (by omega)
    cases hc : longE x.l[i] with
    | true =>
      rw [hc] at hih
      rw [any_at hlt hc]
      repeat (first | refine wk ?_ | refine s_field (hr := ?_))
      refine s_call [] (hA := hih) (hr := ?_)
      repeat (first | refine wk ?_ | refine s_field (hr := ?_))
      exact fin
    | false =>
      rw [hc] at hih
      repeat (first | refine wk ?_ | refine s_field (hr := ?_))
      refine s_call [] (hA := hih) (hr := ?_)
      repeat (first | refine wk ?_ | refine s_field (hr := ?_))
      exact t_next (i + 1) (a := ⟨by omega, upto_succ hp (fun _ => hc)⟩)
  · rw [any_none (fun j hj => hp j (by omega) hj)]
    repeat (first | refine wk ?_ | refine s_field (hr := ?_))
    exact fin
end Go.Proofs.Ytkfeccbahpmadaa
namespace Go.Proofs.Ytkfeccbahpmadaa
open Go.RowKit
set_option maxRecDepth 100000
-- SimX

theorem IsElt.dfnP {h : Hp} {t u : Bool} {sz i : Nat} {l : List Dfn} (hi : i < l.length) : IsElt h (.eptr t sz (l.map (dfnD u)) i 2) (.agg ([sD l[i].name, iD l[i].at_] ++ ([iD l[i].e.op, sD l[i].e.name, exprsD u l[i].e.l] ++ []))) 2 [] := by
  have := IsElt.e (h := h) (t := t) (sz := sz) (off := 2) (i := i) (es := l.map (dfnD u)) (x := dfnD u l[i]) (by simp [hi])
  exact this
theorem longNames_sim {t : Bool} {l : List Dfn} (hf : TextFit l) : ACalls Try.prog 82 [.d (textD t l)] [] (B (l.any fun d => longE d.e)) [] := by
  refine ACalls.intro (n := 18) Try.func82 rfl rfl (by simp) (by rfl) ?_
  simp only [argFr]
  have hl := hf.len
  repeat (first | refine wk ?_ | refine s_field (hr := ?_))
  refine t_loop (X := Nat) (fun i => i ≤ l.length ∧ ∀ j, j < i → ∀ (hj : j < l.length), (fun d : Dfn => longE d.e) l[j] = false) (fun i => [(3, I i), (1, .ptr 1 0)]) (fun _ => [(1, .box 44 [.d (dfnsD t l)])]) (fun i => l.length - i) 0 ⟨Nat.zero_le _, fun _ h => by omega⟩ ?_
  rintro i ⟨hi, hp⟩
  by_cases hlt : i < l.length
  · have hm := hf.ex _ (List.getElem_mem hlt)
    have hih := longName_gen _ (t := t) (x := l[i].e) (Nat.lt_succ_self _) hm
    cases hc : longE l[i].e with
    | true =>
      rw [hc] at hih
      rw [any_at (p := fun d : Dfn => longE d.e) hlt hc]
      repeat (first | refine wk ?_ | refine s_field (hr := ?_))
      refine d_loadEP TY rfl gOk_none rfl (IsElt.dfnP hlt) rfl rfl rfl rfl ?_
      repeat (first | refine wk ?_ | refine s_field (hr := ?_))
      refine s_call [] (hA := hih) (hr := ?_)
      repeat (first | refine wk ?_ | refine s_field (hr := ?_))
      exact fin
    | false =>
      rw [hc] at hih
      repeat (first | refine wk ?_ | refine s_field (hr := ?_))
      refine d_loadEP TY rfl gOk_none rfl (IsElt.dfnP hlt) rfl rfl rfl rfl ?_
      repeat (first | refine wk ?_ | refine s_field (hr := ?_))
      refine s_call [] (hA := hih) (hr := ?_)
      repeat (first | refine wk ?_ | refine s_field (hr := ?_))
      exact t_next (i + 1) (a := ⟨by omega, upto_succ hp (fun _ => hc)⟩)
  · rw [any_none (fun j hj => hp j (by omega) hj)]
    repeat (first | refine wk ?_ | refine s_field (hr := ?_))
    exact fin
/-! ### GreatText -/
def dszs (l : List Dfn) : Nat := (l.map fun d => esz d.e).sum
theorem dszs_take {l : List Dfn} {i : Nat} (h : i < l.length) : dszs (l.take (i + 1)) = dszs (l.take i) + esz l[i].e := by
  unfold dszs; rw [List.take_succ_eq_append_getElem h, List.map_append, List.sum_append]; simp only [List.map_cons, List.map_nil, List.sum_cons, List.sum_nil, Nat.add_zero]
/-- Great, as the reference's GreatText. -/
def greatT (l : List Dfn) : Bool := decide (60 < l.length) || (decide (3000 < dszs l) || (l.any fun d => decide (5000 < d.name.size)) || l.any fun d => longE d.e)
set_option maxHeartbeats 2000000 in
theorem greatText_sim {t : Bool} {l : List Dfn} (hf : TextFit l) : ACalls Try.prog 27 [.d (textD t l)] [] (B (greatT l)) [] := by
  refine ACalls.intro (n := 38) Try.func27 rfl rfl (by simp) (by rfl) ?_
  simp only [argFr]
  have hl := hf.len
  by_cases h60 : 60 < l.length
  · rw [show greatT l = true by unfold greatT; rw [decide_eq_true h60]; rfl]
    repeat (first | refine wk ?_ | refine s_field (hr := ?_))
    exact fin
  have hln := longNames_sim (t := t) hf
  rw [show greatT l = (decide (3000 < dszs l) || (l.any fun d => decide (5000 < d.name.size)) || l.any fun d => longE d.e) by unfold greatT; rw [decide_eq_false h60, Bool.false_or]]
  generalize (l.any fun d => longE d.e) = ln at *
  repeat (first | refine wk ?_ | refine s_field (hr := ?_))
  refine t_loop (X := Nat) (fun i => i ≤ l.length ∧ dszs (l.take i) ≤ 3000 ∧ ∀ j, j < i → ∀ (hj : j < l.length), (fun d : Dfn => decide (5000 < d.name.size)) l[j] = false) (fun i => [(4, I i), (3, I ((3000 - dszs (l.take i) : Nat) : Int)), (1, .ptr 1 0)]) (fun _ => [(1, .box 44 [.d (dfnsD t l)])]) (fun i => l.length - i) 0 ⟨Nat.zero_le _, by simp [dszs], fun _ h => by omega⟩ ?_
  rintro i ⟨hi, hs, hp⟩
  by_cases hlt : i < l.length
  · have hm := hf.ex _ (List.getElem_mem hlt)
    have htk := dszs_take hlt
    have hle : dszs (l.take (i + 1)) ≤ dszs l := by
      unfold dszs
      have e : l = l.take (i + 1) ++ l.drop (i + 1) := (List.take_append_drop _ _).symm
      conv => rhs; rw [e]
      rw [List.map_append, List.sum_append]
      exact Nat.le_add_right _ _
    have hih := exprSize_gen _ (t := t) (x := l[i].e) (m := 3000 - dszs (l.take i)) (Nat.lt_succ_self _) hm (by omega)
    by_cases hb : dszs (l.take (i + 1)) ≤ 3000
    · have e0 : left_ ((3000 - dszs (l.take i) : Nat) : Int) (esz l[i].e) = ((3000 - dszs (l.take (i + 1)) : Nat) : Int) := by unfold left_; rw [if_pos (by omega)]; omega
      rw [e0] at hih
      by_cases hn : 5000 < l[i].name.size
      · have hany : (l.any fun d => decide (5000 < d.name.size)) = true := any_at (p := fun d : Dfn => decide (5000 < d.name.size)) hlt (decide_eq_true hn)
        rw [hany, Bool.or_true, Bool.true_or]
        repeat (first | refine wk ?_ | refine s_field (hr := ?_))
        refine d_loadEP TY rfl gOk_none rfl (IsElt.dfnP hlt) rfl rfl rfl rfl ?_
        repeat (first | refine wk ?_ | refine s_field (hr := ?_))
        refine s_call [] (hA := hih) (hr := ?_)
        repeat (first | refine wk ?_ | refine s_field (hr := ?_))
        exact fin
      · repeat (first | refine wk ?_ | refine s_field (hr := ?_))
        refine d_loadEP TY rfl gOk_none rfl (IsElt.dfnP hlt) rfl rfl rfl rfl ?_
        repeat (first | refine wk ?_ | refine s_field (hr := ?_))
        refine s_call [] (hA := hih) (hr := ?_)
        repeat (first | refine wk ?_ | refine s_field (hr := ?_))
        exact t_next (i + 1) (a := ⟨by omega, hb, upto_succ hp (fun _ => decide_eq_false hn)⟩)
    · have e0 : left_ ((3000 - dszs (l.take i) : Nat) : Int) (esz l[i].e) = -1 := by unfold left_; rw [if_neg (by omega)]
      rw [e0] at hih
      rw [decide_eq_true (show 3000 < dszs l by omega), Bool.true_or, Bool.true_or]
      repeat (first | refine wk ?_ | refine s_field (hr := ?_))
      refine d_loadEP TY rfl gOk_none rfl (IsElt.dfnP hlt) rfl rfl rfl rfl ?_
      repeat (first | refine wk ?_ | refine s_field (hr := ?_))
      refine s_call [] (hA := hih) (hr := ?_)
      repeat (first | refine wk ?_ | refine s_field (hr := ?_))
      exact fin
  · have hall : (l.any fun d => decide (5000 < d.name.size)) = false := any_none (fun j hj => hp j (by omega) hj)
    rw [List.take_of_length_le (by omega)] at hs
    rw [hall, decide_eq_false (show ¬ 3000 < dszs l by omega), Bool.false_or, Bool.false_or]
    repeat (first | refine wk ?_ | refine s_field (hr := ?_))
    refine s_call [] (hA := hln) (hr := ?_)
    repeat (first | refine wk ?_ | refine s_field (hr := ?_))
    exact fin
end Go.Proofs.Ytkfeccbahpmadaa
