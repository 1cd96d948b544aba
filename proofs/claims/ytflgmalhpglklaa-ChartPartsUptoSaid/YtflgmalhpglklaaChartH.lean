/-
  Chart, the program: row; the map's keys.
-/
import Derived.Test.YtflgmalhpglklaaChartG
set_option linter.unusedVariables false
set_option linter.unusedSimpArgs false
set_option linter.unusedSectionVars false
namespace Go.Proofs.Ytflgmalhpglklaa
open Go.RowKit
set_option maxRecDepth 100000
-- SimX

theorem run_eqSpan (w : World) (k k' : Int × Int × Int) : (Op.equal 173 (spK k) (spK k')).run Try.prog w = .ok (decide (k = k')) w := by
  obtain ⟨a, b, c⟩ := k
  obtain ⟨a', b', c'⟩ := k'
  unfold spK Op.equal
  rw [show Op.maxDepth = 9998 + 1 + 1 from rfl]
  unfold Op.equalIn
  simp only [Sem.run_bind, run_underlying Try.underlying173, Result.andThen_ok]
  simp [Sem.run_bind, go_sem]
  by_cases h1 : a = a' <;> by_cases h2 : b = b' <;> by_cases h3 : c = c' <;> simp [h1, h2, h3]
theorem run_chkInt (em : Bool) (n : Nat) (a : Int) (w : World) : (Instr.checkKey em (n + 1) 3 (.int .i64 a)).run Try.prog w = .ok () w := by
  simp [Instr.checkKey, Sem.run_bind, run_underlying Try.underlying3]
theorem run_chkSpan (em : Bool) (k : Int × Int × Int) (w : World) : (Instr.checkKey em 10000 173 (spK k)).run Try.prog w = .ok () w := by
  rw [show (10000 : Nat) = 9998 + 1 + 1 from rfl]
  unfold Instr.checkKey spK
  simp only [Sem.run_bind, run_underlying Try.underlying173, Result.andThen_ok]
  simp [Sem.run_bind, go_sem, run_chkInt]
theorem spanRun : KeyRun Try.prog 169 173 3 where
  hm := Try.underlying169
  chk := run_chkSpan
  now := ⟨_, Try.underlying173, fun _ _ => rfl⟩
  eq := fun k k' w => run_eqSpan w k k'
  zero := fun w => by
    obtain ⟨i, ds, h1, _, _, _, _, h6, _⟩ := tyOf_spec (TT.at TY (t := 3) rfl)
    simp [zeroValue, typeInfo, Sem.run_bind, h1, h6, go_sem]
section
variable {g : Gram} {w : List Int} {N : Cube} {j : Nat} {Q : List Int → Nat → Prop}
set_option maxHeartbeats 4000000 in
theorem row_gen (hg : g.ok) (hw : w.length ≤ 100000) (hwr : ∀ x ∈ w, 0 ≤ x ∧ x ≤ 1000000) (hN : ∀ v i j, N v i j ≤ manyC) (hN0 : ∀ v i, N v i i ≠ 0 → has (nulB g) (v : Int) = true) (hj : j ≤ w.length) (hO : OkC Try.prog g w N j Q) : ∀ (right : List Int) (i : Nat) (t : Bool), Q right i → i ≤ j →
    ACalls Try.prog 117 [.ptr 1000 0, .d (ints t right), I i, I j] (cxH g w (nulB g) N) (I ((min manyC (wcn N w right i j) : Nat) : Int)) (cxH g w (nulB g) N) := by
  intro right
  induction right with
  | nil =>
    intro i t hq hij
    have e0 : wcn N w [] i j = if i = j then 1 else 0 := rfl
    rw [e0]
    generalize nulB g = NB at *
    refine ACalls.intro (n := 32) Try.func117 rfl rfl (by simp) (by rfl) ?_
    simp only [argFr]
    by_cases e : i = j
    · rw [if_pos e]
      have e' : (i : Int) = j := by omega
      repeat (first | refine wk ?_ | refine s_field (hr := ?_))
      exact fin
    · rw [if_neg e]
      have e' : ¬ (i : Int) = j := by omega
      repeat (first | refine wk ?_ | refine s_field (hr := ?_))
      exact fin
  | cons s rest ih =>
    intro i t hq hij
    have hfirst := fun m (h1 : i ≤ m) (h2 : m ≤ j) => first_step (t := t) hg hw hwr hN hN0 hj hO (right := s :: rest) rfl hq h1 h2 (fun hqr => ih m t hqr h2)
    have hll := hO.len _ _ hq
    have e0 : wcn N w (s :: rest) i j = sumN (j + 1) fun m => if i ≤ m then symN N w s i m * wcn N w rest m j else 0 := rfl
    rw [e0]
    have hstep : ∀ m, i ≤ m → min manyC (min manyC (sumN m fun m => if i ≤ m then symN N w s i m * wcn N w rest m j else 0) + min manyC (symN N w s i m * wcn N w rest m j)) = min manyC (sumN (m + 1) fun m => if i ≤ m then symN N w s i m * wcn N w rest m j else 0) := fun m hm => by
      rw [min_add_r, min_add_l]
      simp only [sumN, if_pos hm]
    have hpl := fun m (hm : i ≤ m) => plus_simC (a := min manyC (sumN m fun m => if i ≤ m then symN N w s i m * wcn N w rest m j else 0)) (b := min manyC (symN N w s i m * wcn N w rest m j)) (Nat.min_le_left _ _) (Nat.min_le_left _ _)
    have hz : (sumN i fun m => if i ≤ m then symN N w s i m * wcn N w rest m j else 0) = 0 := sumN_zero (fun x hx => by rw [if_neg (by omega)])
    have hlen : (s :: rest).length = rest.length + 1 := rfl
    generalize hRR : s :: rest = right at *
    generalize hF : (fun m => if i ≤ m then symN N w s i m * wcn N w rest m j else 0) = F at *
    generalize nulB g = NB at *
    refine ACalls.intro (n := 32) Try.func117 rfl rfl (by simp) (by rfl) ?_
    simp only [argFr]
    repeat (first | refine wk ?_ | refine s_field (hr := ?_))
    --@
    have e : (0 : Int) = ((min manyC (sumN i F) : Nat) : Int) := by rw [hz]; rfl
    refine t_loop (X := Nat) (fun m => i ≤ m ∧ m ≤ j + 1) (fun m => [(10, I m), (9, I ((min manyC (sumN m F) : Nat) : Int)), (3, I j), (2, I i), (1, .d (ints t right)), (0, .ptr 1000 0)]) (fun _ => cxH g w NB N) (fun m => j + 1 - m) i ⟨Nat.le_refl _, by omega⟩ ?_
    clear e
    rintro m ⟨m1, m2⟩
    by_cases hm : m ≤ j
    · have hf := hfirst m m1 hm
      have hp := hpl m m1
      have hst := hstep m m1
      rw [hst] at hp
      generalize min manyC (symN N w s i m * wcn N w rest m j) = fm at *
      generalize min manyC (sumN m F) = a0 at *
      generalize hb0 : min manyC (sumN (m + 1) F) = b0 at *
      repeat (first | refine wk ?_ | refine s_field (hr := ?_))
      refine s_callU [(1000, 1000), (1001, 1001)] (hA := hf) (hr := ?_)
      repeat (first | refine wk ?_ | refine s_field (hr := ?_))
      refine s_callU [] (hA := hp) (hr := ?_)
      repeat (first | refine wk ?_ | refine s_field (hr := ?_))
      --@
      subst hb0
      exact t_next (m + 1)
    · obtain rfl : m = j + 1 := by omega
      repeat (first | refine wk ?_ | refine s_field (hr := ?_))
      exact fin
end
end Go.Proofs.Ytflgmalhpglklaa
