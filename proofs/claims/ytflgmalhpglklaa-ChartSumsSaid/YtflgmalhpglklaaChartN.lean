/-
  ChartSums returns true.
-/
import Derived.Test.YtflgmalhpglklaaChartM
set_option linter.unusedVariables false
set_option linter.unusedSimpArgs false
set_option linter.unusedSectionVars false
namespace Go.Proofs.Ytflgmalhpglklaa
open Go.RowKit
set_option maxRecDepth 100000
-- SimX

section
variable {P : Program} {n : Nat} {dr : Bool} {ops : Array Oper} {rest : List Oper} {log : List Rec} {K : Exit → Fr → Hp → Prop} {fr : Fr} {h : Hp}
variable {d : Nat} {ty : TypeId} {pos : String} {after : Array Edge} {g : Option (Nat × Bool)}
theorem d_addW {x y : Operand} {xt yt : TypeId} {a c : Int} (hdn : Nat.blt d n = true) (hg : gOk ops fr g) (hx : oev fr x = I a) (hy : oev fr y = I c)
    (hr : dops P n dr ops rest (⟨(gIns ops g ++ insAll [x, y] (raws [.int .i64 a, .int .i64 c])).map Prod.fst, [d], [], []⟩ :: log) K ((d, I (IntKind.i64.wrap (a + c))) :: fr) h) : dops P n dr ops (⟨some d, .binOp .add xt x y yt, ty, pos, after, g⟩ :: rest) log K fr h :=
  d_int2 (a := a) (c := c) rfl (fun w => by simp [binOp, Op.intArith]) hdn hg hx hy hr
theorem d_subW {x y : Operand} {xt yt : TypeId} {a c : Int} (hdn : Nat.blt d n = true) (hg : gOk ops fr g) (hx : oev fr x = I a) (hy : oev fr y = I c)
    (hr : dops P n dr ops rest (⟨(gIns ops g ++ insAll [x, y] (raws [.int .i64 a, .int .i64 c])).map Prod.fst, [d], [], []⟩ :: log) K ((d, I (IntKind.i64.wrap (a - c))) :: fr) h) : dops P n dr ops (⟨some d, .binOp .sub xt x y yt, ty, pos, after, g⟩ :: rest) log K fr h :=
  d_int2 (a := a) (c := c) rfl (fun w => by simp [binOp, Op.intArith]) hdn hg hx hy hr
theorem d_mulW {x y : Operand} {xt yt : TypeId} {a c : Int} (hdn : Nat.blt d n = true) (hg : gOk ops fr g) (hx : oev fr x = I a) (hy : oev fr y = I c)
    (hr : dops P n dr ops rest (⟨(gIns ops g ++ insAll [x, y] (raws [.int .i64 a, .int .i64 c])).map Prod.fst, [d], [], []⟩ :: log) K ((d, I (IntKind.i64.wrap (a * c))) :: fr) h) : dops P n dr ops (⟨some d, .binOp .mul xt x y yt, ty, pos, after, g⟩ :: rest) log K fr h :=
  d_int2 (a := a) (c := c) rfl (fun w => by simp [binOp, Op.intArith]) hdn hg hx hy hr
theorem d_quoW {x y : Operand} {xt yt : TypeId} {a c : Int} (hdn : Nat.blt d n = true) (hg : gOk ops fr g) (hx : oev fr x = I a) (hy : oev fr y = I c) (h3 : c ≠ 0)
    (hr : dops P n dr ops rest (⟨(gIns ops g ++ insAll [x, y] (raws [.int .i64 a, .int .i64 c])).map Prod.fst, [d], [], []⟩ :: log) K ((d, I (IntKind.i64.wrap (a.tdiv c))) :: fr) h) : dops P n dr ops (⟨some d, .binOp .quo xt x y yt, ty, pos, after, g⟩ :: rest) log K fr h := by
  refine d_int2 (k := .i64) rfl (fun w => ?_) hdn hg hx hy hr
  simp only [binOp, Op.intDiv, ne_eq, not_true_eq_false, if_false]
  rw [if_neg h3]
  simp
end
theorem plus_any (a b : Int) : ∃ c : Int, ACalls Try.prog 48 [I a, I b] [] (I c) [] := by
  refine ⟨minI (IntKind.i64.wrap (a + minI b (IntKind.i64.wrap (4611686018427387904 - a)))) 4611686018427387904, ?_⟩
  refine ACalls.intro (n := 12) Try.func48 rfl rfl (by simp) (by rfl) ?_
  simp only [argFr]
  repeat (first | refine d_subW rfl gOk_none rfl rfl ?_ | refine d_addW rfl gOk_none rfl rfl ?_ | refine wk1 ?_)
  exact fin
theorem times_any (a b : Int) : ∃ c : Int, ACalls Try.prog 49 [I a, I b] [] (I c) [] := by
  by_cases h1 : a = 0
  · subst h1
    refine ⟨0, ?_⟩
    refine ACalls.intro (n := 18) Try.func49 rfl rfl (by simp) (by rfl) ?_
    simp only [argFr]
    (repeat (first | refine wk ?_ | refine s_field (hr := ?_)))
    (repeat (first | refine wkz ?_ | refine s_field (hr := ?_)))
    repeat (first | refine wk ?_ | refine s_field (hr := ?_))
    exact fin
  · by_cases h2 : b = 0
    · subst h2
      refine ⟨0, ?_⟩
      refine ACalls.intro (n := 18) Try.func49 rfl rfl (by simp) (by rfl) ?_
      simp only [argFr]
      repeat (first | refine wk ?_ | refine s_field (hr := ?_))
      exact fin
    · generalize hq : IntKind.i64.wrap (Int.tdiv 4611686018427387904 b) = q
      by_cases h3 : q < a
      · refine ⟨4611686018427387904, ?_⟩
        refine ACalls.intro (n := 18) Try.func49 rfl rfl (by simp) (by rfl) ?_
        simp only [argFr]
        repeat (first | (refine d_quoW rfl gOk_none rfl rfl h2 ?_; rw [hq]) | refine d_mulW rfl gOk_none rfl rfl ?_ | refine wk1 ?_)
        exact fin
      · refine ⟨IntKind.i64.wrap (a * b), ?_⟩
        refine ACalls.intro (n := 18) Try.func49 rfl rfl (by simp) (by rfl) ?_
        simp only [argFr]
        repeat (first | (refine d_quoW rfl gOk_none rfl rfl h2 ?_; rw [hq]) | refine d_mulW rfl gOk_none rfl rfl ?_ | refine wk1 ?_)
        exact fin
set_option maxHeartbeats 4000000 in
theorem chartSums_sim (a b : Int) : ACalls Try.prog 10 [I a, I b] [] (B true) [] := by
  by_cases hin : 0 ≤ a ∧ 0 ≤ b ∧ a ≤ 4611686018427387904 ∧ b ≤ 4611686018427387904
  · obtain ⟨h1, h2, h3, h4⟩ := hin
    obtain ⟨an, rfl⟩ : ∃ an : Nat, a = (an : Int) := ⟨a.toNat, by omega⟩
    obtain ⟨bn, rfl⟩ : ∃ bn : Nat, b = (bn : Int) := ⟨b.toNat, by omega⟩
    have ha : an ≤ manyC := by unfold manyC; omega
    have hb : bn ≤ manyC := by unfold manyC; omega
    have hp := plus_simC ha hb
    have ht := times_simC ha hb
    have hs := sumRef_sim (M := manyC) (Nat.le_refl _) ha hb
    have hr := prodRef_sim (M := manyC) (Nat.le_refl _) (by decide) ha hb
    generalize min manyC (an + bn) = s at *
    generalize min manyC (an * bn) = p at *
    have hn1 : ¬ ((an : Nat) : Int) < 0 := by omega
    have hn2 : ¬ ((bn : Nat) : Int) < 0 := by omega
    have hn3 : ¬ (4611686018427387904 : Int) < ((an : Nat) : Int) := by omega
    have hn4 : ¬ (4611686018427387904 : Int) < ((bn : Nat) : Int) := by omega
    refine ACalls.intro (n := 43) Try.func10 rfl rfl (by simp) (by rfl) ?_
    simp only [argFr]
    repeat (first | refine wk ?_ | refine s_field (hr := ?_))
    refine s_call [] (hA := chartBegun_sim) (hr := ?_)
    repeat (first | refine wk ?_ | refine s_field (hr := ?_))
    --@
    refine s_call [] (hA := hp) (hr := ?_)
    repeat (first | refine wk ?_ | refine s_field (hr := ?_))
    refine s_call [] (hA := hs) (hr := ?_)
    repeat (first | refine wk ?_ | refine s_field (hr := ?_))
    refine s_call [] (hA := ht) (hr := ?_)
    repeat (first | refine wk ?_ | refine s_field (hr := ?_))
    refine s_call [] (hA := hr) (hr := ?_)
    repeat (first | refine wk ?_ | refine s_field (hr := ?_))
    exact fin
  · obtain ⟨c1, hp⟩ := plus_any a b
    obtain ⟨c2, ht⟩ := times_any a b
    refine ACalls.intro (n := 43) Try.func10 rfl rfl (by simp) (by rfl) ?_
    simp only [argFr]
    repeat (first | refine wk ?_ | refine s_field (hr := ?_))
    refine s_call [] (hA := chartBegun_sim) (hr := ?_)
    by_cases h1 : a < 0
    · ((repeat (first | refine wkz ?_ | refine s_field (hr := ?_))); (repeat (first | refine wk ?_ | refine s_field (hr := ?_))); (repeat (first | refine wkz ?_ | refine s_field (hr := ?_))))
      refine s_call [] (hA := hp) (hr := ?_)
      repeat (first | refine wk ?_ | refine s_field (hr := ?_))
      refine s_call [] (hA := ht) (hr := ?_)
      repeat (first | refine wk ?_ | refine s_field (hr := ?_))
      exact fin
    · by_cases h2 : b < 0
      · ((repeat (first | refine wkz ?_ | refine s_field (hr := ?_))); (repeat (first | refine wk ?_ | refine s_field (hr := ?_))); (repeat (first | refine wkz ?_ | refine s_field (hr := ?_))))
        refine s_call [] (hA := hp) (hr := ?_)
        repeat (first | refine wk ?_ | refine s_field (hr := ?_))
        refine s_call [] (hA := ht) (hr := ?_)
        repeat (first | refine wk ?_ | refine s_field (hr := ?_))
        exact fin
      · by_cases h3 : 4611686018427387904 < a
        · ((repeat (first | refine wkz ?_ | refine s_field (hr := ?_))); (repeat (first | refine wk ?_ | refine s_field (hr := ?_))); (repeat (first | refine wkz ?_ | refine s_field (hr := ?_))))
          refine s_call [] (hA := hp) (hr := ?_)
          repeat (first | refine wk ?_ | refine s_field (hr := ?_))
          refine s_call [] (hA := ht) (hr := ?_)
          repeat (first | refine wk ?_ | refine s_field (hr := ?_))
          exact fin
        · have h4 : 4611686018427387904 < b := by omega
          ((repeat (first | refine wkz ?_ | refine s_field (hr := ?_))); (repeat (first | refine wk ?_ | refine s_field (hr := ?_))); (repeat (first | refine wkz ?_ | refine s_field (hr := ?_))))
          refine s_call [] (hA := hp) (hr := ?_)
          repeat (first | refine wk ?_ | refine s_field (hr := ?_))
          refine s_call [] (hA := ht) (hr := ?_)
          repeat (first | refine wk ?_ | refine s_field (hr := ?_))
          exact fin
end Go.Proofs.Ytflgmalhpglklaa
