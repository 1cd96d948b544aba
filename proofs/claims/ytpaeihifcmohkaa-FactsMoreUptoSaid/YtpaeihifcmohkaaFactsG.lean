/-
  Sim: closed: where all lead, in one step or more.
-/
import Derived.Test.YtpaeihifcmohkaaFactsF
set_option linter.unusedVariables false
set_option linter.unusedSimpArgs false
namespace Go.Proofs.Ytpaeihifcmohkaa
open Go.RowKit
set_option maxRecDepth 100000

def setD (r : List Bool) : D := uD (setN r : Nat)
abbrev matD (M : Mat) : List D := M.map setD
theorem undSets : Try.prog.underlying 124 = some (.slice 56) := Try.underlying124
theorem cloneS_sim {t : Bool} {M : Mat} (hl : M.length ≤ 100000000 := by ((try simp only [List.length_map, List.length_append, List.length_cons, List.length_nil, List.length_replicate, List.length_set, List.length_take, List.length_drop]); first | omega | assumption)) :
    ACalls Try.prog 133 [.d (.sl t 1 (matD M))] [] (.own 5 M.length) [(5, .row 56 1 (matD M))] := by
  refine ACalls.intro (n := 8) Try.func133 rfl rfl (by simp) (by rfl) ?_
  simp only [argFr]
  refine aw_seq ?_
  refine t_reg ?_
  refine s_assign (hr := ?_)
  refine dops_end ?_
  refine andThen_n ?_
  refine aw_seq ?_
  refine aw_seq ?_
  refine t_eqNil ?_ ?_ undSets
  · intro hx
    have hx' : M = [] := by simpa using hx
    subst hx'
    repeat (first | refine wkr ?_ | refine s_field (hr := ?_))
    refine aw_nil 2 5 56 1 rfl rfl rfl ?_
    repeat (first | refine wk ?_)
    exact fin
  · repeat (first | refine wk ?_)
    exact finx
/-- Stage k, as far as row i. -/
def mixK (k i : Nat) (M : Mat) : Mat := (M.take i).map (rowK (rowM M k) k) ++ M.drop i
theorem mixK_zero (k : Nat) (M : Mat) : mixK k 0 M = M := by simp [mixK]
theorem mixK_all {k i : Nat} {M : Mat} (h : ¬ i < M.length) : mixK k i M = stepK k M := by
  rw [mixK, List.take_of_length_le (by omega), List.drop_of_length_le (by omega), List.append_nil]; rfl
theorem mixK_length (k i : Nat) (M : Mat) : (mixK k i M).length = M.length := by simp [mixK]; omega
theorem mixK_at {k i : Nat} {M : Mat} (h : i < M.length) (h' : i < (mixK k i M).length) : (mixK k i M)[i] = M[i] := by
  simp only [mixK]
  rw [List.getElem_append_right (by simp; omega)]
  simp [Nat.min_eq_left (Nat.le_of_lt h)]
theorem mixK_succ {k i : Nat} {M : Mat} (h : i < M.length) : mixK k (i + 1) M = (mixK k i M).set i (rowK (rowM M k) k M[i]) := by
  rw [mixK, mixK, List.take_succ_eq_append_getElem h, List.map_append, List.set_append_right _ _ (by simp; omega)]
  have e : i - ((M.take i).map (rowK (rowM M k) k)).length = 0 := by simp; omega
  rw [e, List.drop_eq_getElem_cons h]
  simp only [List.map_cons, List.map_nil, List.append_assoc, List.cons_append, List.nil_append, List.set_cons_zero]
theorem mixK_piv {k i : Nat} {M : Mat} (h : k < M.length) (h' : k < (mixK k i M).length) : (mixK k i M)[k] = rowM M k := by
  have hr : rowM M k = M[k] := by simp [rowM, List.getD_eq_getElem?_getD, h]
  simp only [mixK]
  by_cases hk : k < i
  · rw [List.getElem_append_left (by simp; omega)]
    simp only [List.getElem_map, List.getElem_take]
    rw [← hr, rowK]
    cases has (rowM M k) k with
    | true => rw [cond_true, orL_self]
    | false => rfl
  · rw [List.getElem_append_right (by simp; omega)]
    refine Eq.trans ?_ hr.symm
    rw [List.getElem_drop]
    congr 1
    simp only [List.length_map, List.length_take]
    omega
theorem mixK_sq {V k i : Nat} {M : Mat} (h : Sq V M) (hk : k < V) : Sq V (mixK k i M) := by
  refine ⟨by rw [mixK_length]; exact h.len, fun r hr => ?_⟩
  rw [mixK] at hr
  rcases List.mem_append.1 hr with hr | hr
  · exact (h.stepK hk).row r (by
      obtain ⟨q, hq, rfl⟩ := List.mem_map.1 hr
      exact List.mem_map.2 ⟨q, List.mem_of_mem_take hq, rfl⟩)
  · exact h.row r (List.mem_of_mem_drop hr)
set_option maxHeartbeats 600000 in
theorem closed_sim {t : Bool} {M : Mat} {N : Nat} (hq : Sq N M) (hN : N ≤ 64) :
    ACalls Try.prog 115 [.d (.sl t 1 (matD M))] [] (.own 900 N) [(900, .row 56 1 (matD (closeK N M)))] := by
  refine ACalls.intro (n := 37) Try.func115 rfl rfl (by simp) (by rfl) ?_
  simp only [argFr]
  have hl := hq.len
  repeat (first | refine wk ?_)
  refine s_call [(5, 900)] (hA := cloneS_sim (t := t) (M := M)) (hr := ?_)
  repeat (first | refine wk ?_)
  have e0 : (matD M).length = N := by simp [hl]
  refine t_loop (X := Nat) (fun k => k ≤ N) (fun k => [(10, I k), (9, I N), (3, .own 900 N)]) (fun k => [(900, .row 56 1 (matD (closeK k M)))]) (fun k => N - k) 0 (Nat.zero_le _) ?_
  intro k hk
  have hQ := hq.closeK k hk
  generalize hQe : closeK k M = Q at hQ
  have hQl := hQ.len
  by_cases hkN : k < N
  · have hnx : closeK (k + 1) M = stepK k Q := by rw [closeK, hQe]
    have hpl : (rowM Q k).length = N := hQ.at (by omega) (by omega)
    repeat (first | refine wk ?_)
    refine t_loop (X := Nat × Mat) (fun x => x.1 ≤ N ∧ x.2 = mixK k x.1 Q) (fun x => [(15, I x.1), (14, I N), (4, I k), (10, I k), (9, I N), (3, .own 900 N)]) (fun x => [(900, .row 56 1 (matD x.2))]) (fun x => N - x.1) (0, Q) ⟨Nat.zero_le _, (mixK_zero k Q).symm⟩ ?_
    rintro ⟨i, A⟩ ⟨hi, hA⟩
    dsimp only at hi hA ⊢
    have hAq : Sq N A := by rw [hA]; exact mixK_sq hQ hkN
    have hAl := hAq.len
    by_cases hiN : i < N
    · have hiQ : i < Q.length := by omega
      have hsu := mixK_succ (k := k) hiQ
      have hAi : A[i] = Q[i] := by subst hA; exact mixK_at hiQ (by omega)
      have hAk : A[k] = rowM Q k := by subst hA; exact mixK_piv (by omega) (by omega)
      have hri := hQ.row _ (List.getElem_mem hiQ)
      have hl64 : Q[i].length ≤ 64 := by omega
      have hs1 := setN_lt64 hl64
      have hs2 := setN_lt64 (l := rowM Q k) (by omega)
      have hh := has_sim (s := setN Q[i]) (v := k) hs1
      rw [hasN_set hl64, ← hAi] at hh
      rw [← hA] at hsu
      rw [← hAi] at hsu hs1
      rw [← hAk] at hs2
      repeat (first | refine wk ?_)
      refine s_call [] (hA := hh) (hr := ?_)
      cases hb : has A[i] k with
      | true =>
        have hro : rowK (rowM Q k) k A[i] = orL A[i] A[k] := by rw [rowK, hb, cond_true, hAk]
        rw [hro] at hsu
        have e : (matD A).set i (.raw (.int .u64 (orU (setN A[i] : Nat) (setN A[k] : Nat)))) = matD (mixK k (i + 1) Q) := by
          rw [hsu, matD, matD, List.map_set]
          congr 1
          show _ = uD (setN (orL A[i] A[k]) : Nat)
          rw [setN_or (by rw [hAi, hAk, hri, hpl])]; rfl
        repeat (first | refine wk ?_)
        exact t_next (i + 1, mixK k (i + 1) Q) (a := ⟨by omega, rfl⟩) (b := by dsimp only; omega)
      | false =>
        have hro : rowK (rowM Q k) k A[i] = A[i] := by rw [rowK, hb]; rfl
        rw [hro, List.set_getElem_self] at hsu
        repeat (first | refine wk ?_)
        exact t_next (i + 1, A) (a := ⟨by omega, hsu.symm⟩) (b := by dsimp only; omega)
    · rw [mixK_all (by omega), ← hnx] at hA
      subst hA
      repeat (first | refine wk ?_)
      exact t_next (k + 1)
  · have hkN' : k = N := by omega
    have e : matD Q = matD (closeK N M) := by rw [← hQe, hkN']
    rw [← e]
    repeat (first | refine wk ?_)
    exact fin
end Go.Proofs.Ytpaeihifcmohkaa
