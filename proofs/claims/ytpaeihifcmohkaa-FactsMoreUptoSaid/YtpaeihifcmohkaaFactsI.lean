/-
  Sim: Cyclic, Corners.
-/
import Derived.Test.YtpaeihifcmohkaaFactsH
set_option linter.unusedVariables false
set_option linter.unusedSimpArgs false
namespace Go.Proofs.Ytpaeihifcmohkaa
open Go.RowKit
set_option maxRecDepth 100000

/-- Those that lead to themselves, as far as n. -/
def selfN (M : Mat) (n : Nat) : List Int := ((List.range n).filter (fun (v : Nat) => has (rowM M v) v)).map (fun (k : Nat) => (k : Int))
theorem selfN_snoc (M : Mat) (n : Nat) : selfN M (n + 1) = selfN M n ++ (if has (rowM M n) n = true then [(n : Int)] else []) := by
  unfold selfN
  rw [List.range_succ, List.filter_append, List.map_append]
  congr 1
  by_cases h : has (rowM M n) n = true <;> simp [h]
theorem selfN_le (M : Mat) (n : Nat) : (selfN M n).length ≤ n := by
  unfold selfN
  rw [List.length_map]
  exact Nat.le_trans (List.length_filter_le _ _) (by simp)
def cycL (g : Gram) : List Int := if (gramFault g).code = 0 then selfN (ledM false g) g.vars.toNat else []
def cornL (g : Gram) : List (List Int) := if (gramFault g).code = 0 then (ledM true g).map listB else []
theorem rowM_at {M : Mat} {k : Nat} (h : k < M.length) : rowM M k = M[k] := by simp [rowM, List.getD_eq_getElem?_getD, h]
theorem cyclic_sim {t : Bool} {g : Gram} (hf : g.fit) : ACalls Try.prog 64 [.d (gramD t g)] [] (.tup [.d (ints false (cycL g)), .d (faultD (gramFault g))]) [] := by
  refine ACalls.intro (n := 33) Try.func64 rfl rfl (by simp) (by rfl) ?_
  simp only [argFr]
  have hl := hf.rules
  have hr := hf.right
  repeat (first | refine wk ?_)
  refine s_call [] (hA := gramCheck_sim) (hr := ?_)
  by_cases h0 : (gramFault g).code = 0
  · have hg := gram_ok h0
    have hz := fault_zero h0
    have hv := hg.vars
    have hsq := oneM_sq (c := false) hg
    have hlq := ledM_sq (c := false) hg
    have hlql := hlq.len
    have hol := hsq.len
    obtain ⟨N, hN⟩ : ∃ N : Nat, g.vars.toNat = N := ⟨_, rfl⟩
    have hal := alone_sim (t := t) hg
    have hcl := closed_sim (t := false) hsq (by omega)
    rw [show closeK g.vars.toNat (oneM false g) = ledM false g from rfl] at hcl
    rw [cycL, if_pos h0, hz]
    rw [hN] at hal hcl hlql hol ⊢
    repeat (first | refine wk ?_)
    refine s_call [(14, 902)] (hA := hal) (hr := ?_)
    repeat (first | refine wk ?_)
    refine s_callf [] (hA := hcl) (hr := ?_)
    repeat (first | refine wk ?_)
    refine aw_nil 5 901 3 1 rfl rfl rfl ?_
    refine t_loop (X := Nat) (fun k => k ≤ N) (fun k => [(18, I k), (17, I N), (16, .own 900 N), (5, .own 901 (selfN (ledM false g) k).length), (3, .ptr 3 0)]) (fun k => [(901, .row 3 1 ((selfN (ledM false g) k).map iD)), (900, .row 56 1 (matD (ledM false g))), (3, .box 25 [.d (iD 0), .d (iD 0)])]) (fun k => N - k) 0 (Nat.zero_le _) ?_
    intro k hk
    have hsl := selfN_le (ledM false g) k
    by_cases hkN : k < N
    · have hkL : k < (ledM false g).length := by omega
      have hr64 : (ledM false g)[k].length ≤ 64 := by have := hlq.row _ (List.getElem_mem hkL); omega
      have e := selfN_snoc (ledM false g) k
      have hh := has_sim (s := setN (ledM false g)[k]) (v := k) (setN_lt64 hr64)
      rw [hasN_set hr64, ← rowM_at hkL] at hh
      rw [← rowM_at hkL] at hr64
      have hrow := rowM_at hkL
      cases hb : has (rowM (ledM false g) k) k with
      | true =>
        rw [hb, if_pos rfl] at e
        rw [hb, hrow] at hh
        repeat (first | refine wk ?_)
        refine s_call [] (hA := hh) (hr := ?_)
        repeat (first | refine wk ?_)
        exact t_next (k + 1)
      | false =>
        rw [hb, if_neg (by decide), List.append_nil] at e
        rw [hb, hrow] at hh
        repeat (first | refine wk ?_)
        refine s_call [] (hA := hh) (hr := ?_)
        repeat (first | refine wk ?_)
        exact t_next (k + 1)
    · obtain rfl : k = N := by omega
      refine aw_froz 901 rfl ?_
      repeat (first | refine wk ?_)
      exact fin
  · rw [cycL, if_neg h0]
    repeat (first | refine wk ?_)
    exact fin
end Go.Proofs.Ytpaeihifcmohkaa
