/-
  Chart, the reference: rows of rows of noughts.
-/
import Derived.Test.YtflgmalhpglklaaChartB
set_option linter.unusedVariables false
set_option linter.unusedSimpArgs false
set_option linter.unusedSectionVars false
namespace Go.Proofs.Ytflgmalhpglklaa
open Go.RowKit
set_option maxRecDepth 100000
-- SimX

def rowT (N : Cube) (L v i : Nat) : Tr := .row 3 1 (natsD L (fun j => N v i j))
def rowsT (N : Cube) (L v k : Nat) : List Tr := (List.range k).map (rowT N L v)
def planeT (N : Cube) (L v : Nat) : Tr := .node 43 (rowsT N L v L)
def cubeT (N : Cube) (L V : Nat) : List Tr := (List.range V).map (planeT N L)
theorem rowsT_len (N : Cube) (L v k : Nat) : (rowsT N L v k).length = k := by simp [rowsT]
theorem cubeT_len (N : Cube) (L V : Nat) : (cubeT N L V).length = V := by simp [cubeT]
theorem rowsT_succ (N : Cube) (L v k : Nat) : rowsT N L v k ++ [rowT N L v k] = rowsT N L v (k + 1) := by simp [rowsT, List.range_succ]
theorem cubeT_succ (N : Cube) (L V : Nat) : cubeT N L V ++ [planeT N L V] = cubeT N L (V + 1) := by simp [cubeT, List.range_succ]
abbrev zeroC : Cube := fun _ _ _ => 0
abbrev wBx (u : Bool) (w : List Int) : Ob := .box 43 [.d (ints u w)]

theorem le_own {fr : Fr} {i k m m' : Nat} (h : fget fr i = .own k m) (e : m = m') : VLe (fget fr i) (.own k m') := VLe.of (e ▸ h)
theorem nest_eq {h : Hp} {k e : Nat} {A A' : List Tr} {r : List (Nat × Nat)} {B : List Tr} (hk : hget h k = some (.nest e A r B)) (hx : A = A') : HElt h k (.nest e A' r B) := HElt.of (hx ▸ hk)
set_option maxHeartbeats 4000000 in
theorem zero_sim {g : Gram} {t u : Bool} {w : List Int} (hV0 : 0 ≤ g.vars) (hV : g.vars ≤ 100000) (hw : w.length ≤ 100000) :
    ACalls Try.prog 102 [.ptr 1001 0, .ptr 1002 0] [(1001, gramBox t g), (1002, wBx u w)] (.own 903 g.vars.toNat) [(903, .nest 39 (cubeT zeroC (w.length + 1) g.vars.toNat) [] []), (1001, gramBox t g), (1002, wBx u w)] := by
  have hLw : (w.length : Int) + 1 = ((w.length + 1 : Nat) : Int) := by omega
  obtain ⟨V, hVe⟩ : ∃ V : Nat, g.vars = (V : Int) := ⟨g.vars.toNat, by omega⟩
  rw [hVe, Int.toNat_natCast]
  refine ACalls.intro (n := 31) Try.func102 rfl rfl (by simp) (by rfl) ?_
  simp only [argFr, gramBox, hVe]
  repeat (first | refine wk ?_ | refine s_field (hr := ?_))
  refine aw_nilN 3 903 39 rfl rfl rfl ?_
  have e0 : cubeT zeroC (w.length + 1) 0 = [] := rfl
  refine t_loop (X := Nat) (fun v => v ≤ V) (fun v => [(4, I v), (3, .own 903 v), (1, .ptr 1002 0), (0, .ptr 1001 0)]) (fun v => [(903, .nest 39 (cubeT zeroC (w.length + 1) v) [] []), (1001, .box 24 [.d (iD V), .d (iD g.terms), .d (iD g.start), .d (rulesD t g.rules)]), (1002, wBx u w)]) (fun v => V - v) 0 (Nat.zero_le _) ?_
  intro v hv
  by_cases hlt : v < V
  · repeat (first | refine wk ?_ | refine s_field (hr := ?_))
    --@
    refine aw_nilN 5 904 43 rfl rfl rfl ?_
    refine t_loop (X := Nat) (fun i => i ≤ w.length + 1) (fun i => [(6, I i), (5, .own 904 i), (4, I v), (3, .own 903 v), (1, .ptr 1002 0), (0, .ptr 1001 0)]) (fun i => [(904, .nest 43 (rowsT zeroC (w.length + 1) v i) [] []), (903, .nest 39 (cubeT zeroC (w.length + 1) v) [] []), (1001, .box 24 [.d (iD V), .d (iD g.terms), .d (iD g.start), .d (rulesD t g.rules)]), (1002, wBx u w)]) (fun i => w.length + 1 - i) 0 (Nat.zero_le _) ?_
    intro i hi
    by_cases hil : i ≤ w.length
    · have hrl := rowsT_len zeroC (w.length + 1) v i
      have e : List.replicate (w.length + 1) (iD 0) = natsD (w.length + 1) (fun _ => 0) := natsD_zero _
      have hnl := natsD_len (w.length + 1) (fun _ => 0)
      repeat (first | refine d_bs1N TY rfl rfl gOk_none rfl rfl rfl rfl rfl rfl rfl ?_ | refine d_appN TY rfl gOk_none rfl rfl rfl hrl rfl rfl rfl rfl rfl rfl rfl rfl (nb := 24) rfl (by omega) (by omega) ?_ | refine aw_absorb 904 rfl rfl (.row (by simp)) ?_ | refine wk1 ?_)
      have e9 : rowsT zeroC (w.length + 1) v i ++ [Tr.row 3 1 (List.replicate (w.length + 1) (iD 0))] = rowsT zeroC (w.length + 1) v (i + 1) := by rw [e]; exact rowsT_succ zeroC (w.length + 1) v i
      exact t_next (i + 1) (d := ⟨nest_eq rfl e9, .of rfl, .of rfl, .of rfl, trivial⟩)
    · obtain rfl : i = w.length + 1 := by omega
      have hrl := rowsT_len zeroC (w.length + 1) v (w.length + 1)
      have hcl := cubeT_len zeroC (w.length + 1) v
      repeat (first | refine d_bs1N TY rfl rfl gOk_none rfl rfl rfl rfl rfl rfl rfl ?_ | refine d_appN TY rfl gOk_none rfl rfl rfl hcl rfl rfl rfl rfl rfl rfl rfl rfl (nb := 24) rfl (by omega) (by omega) ?_ | refine aw_absorb 903 rfl rfl (.nest hrl) ?_ | refine wk1 ?_)
      --@
      have e9 : cubeT zeroC (w.length + 1) v ++ [Tr.node 43 (rowsT zeroC (w.length + 1) v (w.length + 1))] = cubeT zeroC (w.length + 1) (v + 1) := cubeT_succ zeroC (w.length + 1) v
      exact t_next (v + 1) (d := ⟨nest_eq rfl e9, .of rfl, .of rfl, trivial⟩)
  · obtain rfl : v = V := by omega
    repeat (first | refine wk ?_ | refine s_field (hr := ?_))
    --@
    exact fin
end Go.Proofs.Ytflgmalhpglklaa
