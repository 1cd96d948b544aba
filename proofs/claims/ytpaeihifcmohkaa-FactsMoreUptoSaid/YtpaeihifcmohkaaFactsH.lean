/-
  Sim: alone, Cyclic.
-/
import Derived.Test.YtpaeihifcmohkaaDelete
set_option linter.unusedVariables false
set_option linter.unusedSimpArgs false
namespace Go.Proofs.Ytpaeihifcmohkaa
open Go.RowKit
set_option maxRecDepth 100000

theorem inAll_append (a b : List Int) (is : List Bool) : inAll (a ++ b) is = (inAll a is && inAll b is) := by simp [inAll, List.all_append]
theorem noneM_row {g : Gram} {N : Nat} (h : g.vars.toNat = N) : List.replicate N (zeroD (.int .u64 0)) = matD (noneM g) := by
  rw [matD, noneM, h, List.map_replicate, setD, none_, setN_rep]; rfl
theorem addM_row {M : Mat} {u w : Int} {k : Nat} (hk : u = (k : Int)) (h : k < M.length) : (matD M).set k (uD (setN (put M[k] w) : Nat)) = matD (addM u w M) := by
  subst hk
  have hr : rowM M k = M[k] := by simp [rowM, List.getD_eq_getElem?_getD, h]
  rw [addM, hr, matD, matD, List.map_set]; rfl
theorem matM_at {null : List Bool} {c : Bool} {rs : List Rule} {i : Nat} {M : Mat} (h : i < rs.length) : matM null c (rs.drop i) M = matM null c (rs.drop (i + 1)) (rowsM null c rs[i] rs[i].right.length M) := by
  rw [List.drop_eq_getElem_cons h, matM]
theorem matM_out {null : List Bool} {c : Bool} {rs : List Rule} {i : Nat} {M : Mat} (h : ¬ i < rs.length) : matM null c (rs.drop i) M = M := by
  rw [List.drop_of_length_le (by omega), matM]
theorem getD_get {xs : List Int} {k : Nat} (h : k < xs.length) : xs.getD k 0 = xs[k] := by simp [List.getD_eq_getElem?_getD, h]
set_option maxHeartbeats 1000000 in
theorem alone_sim {t : Bool} {g : Gram} (hg : g.ok) : ACalls Try.prog 116 [.d (gramD t g)] [] (.own 14 g.vars.toNat) [(14, .row 56 1 (matD (oneM false g)))] := by
  refine ACalls.intro (n := 59) Try.func116 rfl rfl (by simp) (by rfl) ?_
  simp only [argFr]
  have hv := hg.vars
  have hv1 := hg.vars1
  have hlen := hg.rules
  have hnl := leftsOf_len (t := false) hg
  obtain ⟨N, hN⟩ : ∃ N : Nat, g.vars = (N : Int) := ⟨g.vars.toNat, by omega⟩
  have hNt : g.vars.toNat = N := by omega
  have hsq := noneM_sq g
  rw [hNt] at hsq hnl ⊢
  have e := noneM_row hNt
  repeat (first | refine wk ?_)
  refine s_call [] (hA := lefts_sim (u := false) hg) (hr := ?_)
  repeat (first | refine wk ?_)
  refine t_loop (X := Nat × Mat) (fun x => x.1 ≤ g.rules.length ∧ oneM false g = matM (leftsOf false g) false (g.rules.drop x.1) x.2 ∧ Sq N x.2) (fun x => [(18, I x.1), (17, I g.rules.length), (16, .d (rulesD t g.rules)), (4, .own 14 N), (3, U (setN (leftsOf false g))), (1, .ptr 1 0)]) (fun x => [(14, .row 56 1 (matD x.2)), (1, gramBox t g)]) (fun x => g.rules.length - x.1) (0, noneM g) ⟨Nat.zero_le _, rfl, hsq⟩ ?_
  clear e
  rintro ⟨i, A⟩ ⟨h1, h2, h3⟩
  dsimp only at h1 h2 h3 ⊢
  by_cases hlt : i < g.rules.length
  · have hmem := List.getElem_mem hlt
    obtain ⟨a1, a2, a5⟩ := rules_in hg _ hmem
    rw [hNt] at a2 a5
    have a3 := hg.right _ hmem
    have hp := matM_at (null := leftsOf false g) (c := false) (M := A) hlt
    obtain ⟨l, hlk⟩ : ∃ l : Nat, g.rules[i].left = (l : Int) := ⟨g.rules[i].left.toNat, by omega⟩
    repeat (first | refine wk ?_)
    refine t_loop (X := Nat × Mat) (fun x => x.1 ≤ g.rules[i].right.length ∧ x.2 = rowsM (leftsOf false g) false g.rules[i] x.1 A) (fun x => [(25, I x.1), (24, I g.rules[i].right.length), (23, .d (ints t g.rules[i].right)), (6, .ptr 6 0), (18, I i), (17, I g.rules.length), (16, .d (rulesD t g.rules)), (4, .own 14 N), (3, U (setN (leftsOf false g))), (1, .ptr 1 0)]) (fun x => [(6, ruleBox t g.rules[i]), (14, .row 56 1 (matD x.2)), (1, gramBox t g)]) (fun x => g.rules[i].right.length - x.1) (0, A) ⟨Nat.zero_le _, rfl⟩ ?_
    rintro ⟨k, C⟩ ⟨k1, k2⟩
    dsimp only at k1 k2 ⊢
    by_cases hkt : k < g.rules[i].right.length
    · obtain ⟨hCq, _⟩ := rowsM_spec (null := leftsOf false g) (c := false) h3 a1 a2 a5 k (by omega)
      rw [← k2] at hCq
      have hCl := hCq.len
      have hlC : l < C.length := by omega
      have hCr := hCq.row _ (List.getElem_mem hlC)
      have hgd := getD_get hkt
      have hx := a5 _ (List.getElem_mem hkt)
      have hrs : rowsM (leftsOf false g) false g.rules[i] (k + 1) A = bif pickAt (leftsOf false g) false g.rules[i].right k then addM g.rules[i].left g.rules[i].right[k] C else C := by rw [rowsM, hgd, ← k2]
      have hpk : pickAt (leftsOf false g) false g.rules[i].right k = (decide (0 ≤ g.rules[i].right[k]) && inAll (g.rules[i].right.take k ++ g.rules[i].right.drop (k + 1)) (leftsOf false g)) := by
        rw [pickAt, hgd, Bool.false_or, inAll_append]
      have hdl := delete_sim (xs := g.rules[i].right) hkt (by omega)
      have htl : (g.rules[i].right.take k ++ g.rules[i].right.drop (k + 1)).length ≤ 100 := by simp; omega
      repeat (first | refine wk ?_)
      refine s_call [(5, 900)] (hA := clone_sim) (hr := ?_)
      repeat (first | refine wk ?_)
      refine s_call [(1000, 900)] (hA := hdl) (hr := ?_)
      by_cases h0 : 0 ≤ g.rules[i].right[k]
      · have hwh := whole_sim (t := false) (u := false) (r := ⟨0, g.rules[i].right.take k ++ g.rules[i].right.drop (k + 1)⟩) (is := leftsOf false g) (by omega) (by show (g.rules[i].right.take k ++ g.rules[i].right.drop (k + 1)).length ≤ 100000000; omega)
        repeat (first | refine wk ?_)
        refine s_call [] (hA := hwh) (hr := ?_)
        cases hb : inAll (g.rules[i].right.take k ++ g.rules[i].right.drop (k + 1)) (leftsOf false g) with
        | true =>
          rw [hpk, hb, decide_eq_true h0, Bool.and_true, cond_true] at hrs
          have hw := with_sim (s := setN C[l]) (v := g.rules[i].right[k]) (setN_lt64 (by omega))
          rw [withN_set (by omega) h0 (by omega)] at hw
          have e := addM_row (M := C) (w := g.rules[i].right[k]) hlk hlC
          repeat (first | refine wk ?_)
          refine s_call [] (hA := hw) (hr := ?_)
          repeat (first | refine wk ?_)
          exact t_next (k + 1, addM g.rules[i].left g.rules[i].right[k] C) (a := ⟨by omega, hrs.symm⟩) (b := by dsimp only; omega)
        | false =>
          rw [hpk, hb, Bool.and_false, cond_false] at hrs
          repeat (first | refine wk ?_)
          exact t_next (k + 1, C) (a := ⟨by omega, hrs.symm⟩) (b := by dsimp only; omega)
      · rw [hpk, decide_eq_false h0, Bool.false_and, cond_false] at hrs
        repeat (first | refine wk ?_)
        exact t_next (k + 1, C) (a := ⟨by omega, hrs.symm⟩) (b := by dsimp only; omega)
    · obtain rfl : k = g.rules[i].right.length := by omega
      have hCs := (rowsM_spec (null := leftsOf false g) (c := false) h3 a1 a2 a5 _ (Nat.le_refl _)).1
      rw [← k2] at hCs hp
      repeat (first | refine wk ?_)
      exact t_next (i + 1, C) (a := ⟨by omega, h2.trans hp, hCs⟩) (b := by dsimp only; omega)
  · rw [matM_out hlt] at h2
    rw [h2]
    repeat (first | refine wk ?_)
    exact fin
end Go.Proofs.Ytpaeihifcmohkaa
