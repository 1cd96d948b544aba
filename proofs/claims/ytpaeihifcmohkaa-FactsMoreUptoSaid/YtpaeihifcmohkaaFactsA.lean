/-
  Sim: sets of nonterminals: Has, With, List.
-/
import Derived.Test.YtpaeihifcmohkaaGramB
import Derived.Test.YtpaeihifcmohkaaSimX
set_option linter.unusedVariables false
set_option linter.unusedSimpArgs false
namespace Go.Proofs.Ytpaeihifcmohkaa
open Go.RowKit
set_option maxRecDepth 100000

def uD (x : Int) : D := .raw (.int .u64 x)
abbrev U (x : Nat) : V := .d (uD (x : Int))
def hasN (s : Nat) (v : Int) : Bool := decide (0 ≤ v) && (decide (v < 64) && s.testBit v.toNat)
def withN (s : Nat) (v : Int) : Nat := if 0 ≤ v ∧ v < 64 then s ||| (1 <<< v.toNat) else s
theorem withN_lt {s : Nat} (hs : s < 18446744073709551616) (v : Int) : withN s v < 18446744073709551616 := by
  unfold withN; split
  · refine Nat.or_lt_two_pow (n := 64) hs ?_
    rw [Nat.one_shiftLeft]
    exact Nat.pow_lt_pow_right (by decide) (by omega)
  · exact hs
theorem bit_and (s k : Nat) : decide (s >>> k &&& 1 = 1) = s.testBit k := by
  rw [Nat.testBit, Nat.and_comm 1, Nat.and_one_is_mod]
  rcases Nat.mod_two_eq_zero_or_one (s >>> k) with h | h <;> rw [h] <;> rfl
theorem has_sim {s : Nat} {v : Int} (hs : s < 18446744073709551616 := by ((try simp only [List.length_map, List.length_append, List.length_cons, List.length_nil, List.length_replicate, List.length_set, List.length_take, List.length_drop]); first | omega | assumption)) : ACalls Try.prog 43 [U s, I v] [] (B (hasN s v)) [] := by
  refine ACalls.intro (n := 18) Try.func43 rfl rfl (by simp) (by rfl) ?_
  simp only [argFr]
  by_cases h1 : 0 ≤ v
  · by_cases h2 : v < 64
    · obtain ⟨k, rfl⟩ : ∃ k : Nat, v = (k : Int) := ⟨v.toNat, by omega⟩
      have e : hasN s k = s.testBit k := by simp only [hasN, decide_eq_true h1, decide_eq_true h2, Bool.true_and, Int.toNat_natCast]
      have e2 : s.testBit k = decide (andU (shrU s k) 1 = 1) := by
        rw [← bit_and]; exact decide_eq_decide.2 (by rw [show andU (shrU s k) 1 = ((s >>> k &&& 1 : Nat) : Int) from rfl]; omega)
      rw [e, e2]
      repeat (first | refine wk ?_ | refine s_field (hr := ?_))
      refine gOp ?_
      refine gBin ?_
      refine s_and (h1 := ?_) (h2 := ?_) (h3 := ?_) (h4 := ?_) (hr := ?_)
      · exact Int.natCast_nonneg _
      · have := Nat.shiftRight_le s k
        rw [show shrU s k = ((s >>> k : Nat) : Int) from rfl]
        omega
      · omega
      · omega
      repeat (first | refine wk ?_ | refine s_field (hr := ?_))
      exact fin
    · rw [show hasN s v = false by simp [hasN]; omega]
      repeat (first | refine wk ?_ | refine s_field (hr := ?_))
      exact fin
  · rw [show hasN s v = false by simp [hasN]; omega]
    repeat (first | refine wk ?_ | refine s_field (hr := ?_))
    exact fin
theorem with_sim {s : Nat} {v : Int} (hs : s < 18446744073709551616 := by ((try simp only [List.length_map, List.length_append, List.length_cons, List.length_nil, List.length_replicate, List.length_set, List.length_take, List.length_drop]); first | omega | assumption)) : ACalls Try.prog 42 [U s, I v] [] (U (withN s v)) [] := by
  refine ACalls.intro (n := 16) Try.func42 rfl rfl (by simp) (by rfl) ?_
  simp only [argFr]
  by_cases h1 : v < 0
  · rw [show withN s v = s by rw [withN, if_neg (by omega)]]
    repeat (first | refine wk ?_ | refine s_field (hr := ?_))
    exact fin
  · by_cases h2 : v > 63
    · rw [show withN s v = s by rw [withN, if_neg (by omega)]]
      repeat (first | refine wk ?_ | refine s_field (hr := ?_))
      exact fin
    · obtain ⟨k, rfl⟩ : ∃ k : Nat, v = (k : Int) := ⟨v.toNat, by omega⟩
      have e : withN s k = ((s : Int).toNat ||| (shlU 1 k).toNat) := by rw [withN, if_pos (by omega)]; rfl
      rw [show U (withN s k) = V.d (.raw (.int .u64 (orU s (shlU 1 k)))) by rw [e]; rfl]
      clear e
      repeat (first | refine wk ?_ | refine s_field (hr := ?_))
      refine gOp ?_
      refine gBin ?_
      refine s_or (h1 := ?_) (h2 := ?_) (h3 := ?_) (h4 := ?_) (hr := ?_)
      · omega
      · omega
      · exact Int.natCast_nonneg _
      · have hb : (1 <<< k : Nat) < 18446744073709551616 := by
          rw [Nat.one_shiftLeft]
          exact Nat.lt_of_lt_of_le (Nat.pow_lt_pow_right (a := 2) (n := 64) (by decide) (by omega)) (by decide)
        rw [show shlU 1 (k : Int) = ((1 <<< k : Nat) : Int) from rfl]
        omega
      repeat (first | refine wk ?_ | refine s_field (hr := ?_))
      exact fin
/-- All of it, rising. -/
def listN (s n : Nat) : List Int := ((List.range n).filter (fun k => s.testBit k)).map (fun (k : Nat) => (k : Int))
theorem listN_snoc (s n : Nat) : listN s (n + 1) = listN s n ++ (if s.testBit n = true then [(n : Int)] else []) := by
  unfold listN
  rw [List.range_succ, List.filter_append, List.map_append]
  congr 1
  by_cases h : s.testBit n = true <;> simp [h]
theorem listN_le (s n : Nat) : (listN s n).length ≤ n := by
  unfold listN
  rw [List.length_map]
  exact Nat.le_trans (List.length_filter_le _ _) (by simp)
theorem list_sim {s : Nat} (hs : s < 18446744073709551616 := by ((try simp only [List.length_map, List.length_append, List.length_cons, List.length_nil, List.length_replicate, List.length_set, List.length_take, List.length_drop]); first | omega | assumption)) : ACalls Try.prog 44 [U s] [] (.own 900 (listN s 64).length) [(900, .row 3 1 ((listN s 64).map iD))] := by
  refine ACalls.intro (n := 17) Try.func44 rfl rfl (by simp) (by rfl) ?_
  simp only [argFr]
  repeat (first | refine wk ?_ | refine s_field (hr := ?_))
  refine aw_nil 3 900 3 1 rfl rfl rfl ?_
  refine t_loop (X := Nat) (fun k => k ≤ 64) (fun k => [(5, I k), (0, U s), (3, .own 900 (listN s k).length)]) (fun k => [(900, .row 3 1 ((listN s k).map iD))]) (fun k => 64 - k) 0 (Nat.zero_le _) ?_
  intro k hk
  have hl := listN_le s k
  by_cases hlt : (k : Int) < 64
  · have e := listN_snoc s k
    have eh : hasN s k = s.testBit k := by simp only [hasN, decide_eq_true hlt, Bool.true_and, Int.toNat_natCast]; rw [decide_eq_true (by omega)]; rfl
    have h1 := has_sim (s := s) (v := k) hs
    rw [eh] at h1
    repeat (first | refine wk ?_ | refine s_field (hr := ?_))
    refine s_call [] (hA := h1) (hr := ?_)
    cases hb : s.testBit k with
    | true =>
      rw [hb, if_pos rfl] at e
      repeat (first | refine wk ?_ | refine s_field (hr := ?_))
      exact t_next (k + 1)
    | false =>
      rw [hb, if_neg (by decide), List.append_nil] at e
      repeat (first | refine wk ?_ | refine s_field (hr := ?_))
      exact t_next (k + 1)
  · obtain rfl : k = 64 := by omega
    repeat (first | refine wk ?_ | refine s_field (hr := ?_))
    exact fin
end Go.Proofs.Ytpaeihifcmohkaa
