/-
  Sim: Corners.
-/
import Derived.Test.YtpaeihifcmohkaaFactsI
set_option linter.unusedVariables false
set_option linter.unusedSimpArgs false
namespace Go.Proofs.Ytpaeihifcmohkaa
open Go.RowKit
set_option maxRecDepth 100000

theorem inAll_take {xs : List Int} {null : List Bool} {k : Nat} (h : k < xs.length) : inAll (xs.take (k + 1)) null = (inAll (xs.take k) null && has null xs[k]) := by
  rw [List.take_succ_eq_append_getElem h, inAll_append]; simp [inAll]
theorem inAll_stop {xs : List Int} {null : List Bool} {k : Nat} (h : inAll (xs.take k) null = false) {n : Nat} (hn : k ≤ n) : inAll (xs.take n) null = false := by
  have : xs.take n = xs.take k ++ (xs.take n).drop k := by
    have := (List.take_append_drop k (xs.take n)).symm
    rwa [List.take_take, Nat.min_eq_left hn] at this
  rw [this, inAll_append, h, Bool.false_and]
theorem rowsM_stop {null : List Bool} {r : Rule} {M : Mat} {k : Nat} (h : inAll (r.right.take k) null = false) : ∀ d, rowsM null true r (k + d) M = rowsM null true r k M
  | 0 => rfl
  | d + 1 => by
    have hp : pickAt null true r.right (k + d) = false := by rw [pickAt, inAll_stop h (by omega), Bool.false_and, Bool.and_false]
    rw [← Nat.add_assoc, rowsM, hp, cond_false]; exact rowsM_stop h d
set_option maxHeartbeats 1000000 in
theorem corners_sim {t : Bool} {g : Gram} (hf : g.fit) : ACalls Try.prog 65 [.d (gramD t g)] [] (.tup [.d (.sl false 1 ((cornL g).map (ints false))), .d (faultD (gramFault g))]) [] := by
  refine ACalls.intro (n := 73) Try.func65 rfl rfl (by simp) (by rfl) ?_
  simp only [argFr]
  have hl := hf.rules
  have hr := hf.right
  repeat (first | refine wk ?_)
  refine s_call [] (hA := gramCheck_sim) (hr := ?_)
  by_cases hz0 : (gramFault g).code = 0
  rotate_left
  · rw [cornL, if_neg hz0]
    repeat (first | refine wk ?_)
    exact fin
  have hg := gram_ok hz0
  have hz := fault_zero hz0
  have hv := hg.vars
  have hv1 := hg.vars1
  have hlen := hg.rules
  have hnl := leftsOf_len (t := false) hg
  have hoq := oneM_sq (c := true) hg
  have hol := hoq.len
  have hlq := ledM_sq (c := true) hg
  have hlql := hlq.len
  have hcl := closed_sim (t := false) hoq (by omega)
  rw [show closeK g.vars.toNat (oneM true g) = ledM true g from rfl] at hcl
  obtain ⟨N, hN⟩ : ∃ N : Nat, g.vars = (N : Int) := ⟨g.vars.toNat, by omega⟩
  have hNt : g.vars.toNat = N := by omega
  have hsq := noneM_sq g
  rw [cornL, if_pos hz0, hz]
  rw [hNt] at hsq hnl hol hlql hcl hlq
  have e := noneM_row hNt
  repeat (first | refine wk ?_)
  refine s_call [] (hA := lefts_sim (u := false) hg) (hr := ?_)
  repeat (first | refine wk ?_)
  refine t_loop (X := Nat × Mat) (fun x => x.1 ≤ g.rules.length ∧ oneM true g = matM (leftsOf false g) true (g.rules.drop x.1) x.2 ∧ Sq N x.2) (fun x => [(28, I x.1), (27, I g.rules.length), (26, .d (rulesD t g.rules)), (6, .own 24 N), (5, U (setN (leftsOf false g))), (3, .ptr 3 0), (1, .ptr 1 0)]) (fun x => [(24, .row 56 1 (matD x.2)), (3, .box 25 [.d (iD 0), .d (iD 0)]), (1, gramBox t g)]) (fun x => g.rules.length - x.1) (0, noneM g) ⟨Nat.zero_le _, rfl, hsq⟩ ?_
  clear e
  rintro ⟨i, A⟩ ⟨h1, h2, h3⟩
  dsimp only at h1 h2 h3 ⊢
  by_cases hlt : i < g.rules.length
  · have hmem := List.getElem_mem hlt
    obtain ⟨a1, a2, a5⟩ := rules_in hg _ hmem
    rw [hNt] at a2 a5
    have a3 := hg.right _ hmem
    have hp := matM_at (null := leftsOf false g) (c := true) (M := A) hlt
    obtain ⟨l, hlk⟩ : ∃ l : Nat, g.rules[i].left = (l : Int) := ⟨g.rules[i].left.toNat, by omega⟩
    repeat (first | refine wk ?_)
    refine t_loop (X := Nat × Mat) (fun x => x.1 ≤ g.rules[i].right.length ∧ x.2 = rowsM (leftsOf false g) true g.rules[i] x.1 A ∧ inAll (g.rules[i].right.take x.1) (leftsOf false g) = true) (fun x => [(35, I x.1), (34, I g.rules[i].right.length), (33, .d (ints t g.rules[i].right)), (8, .ptr 8 0), (28, I i), (27, I g.rules.length), (26, .d (rulesD t g.rules)), (6, .own 24 N), (5, U (setN (leftsOf false g))), (3, .ptr 3 0), (1, .ptr 1 0)]) (fun x => [(8, ruleBox t g.rules[i]), (24, .row 56 1 (matD x.2)), (3, .box 25 [.d (iD 0), .d (iD 0)]), (1, gramBox t g)]) (fun x => g.rules[i].right.length - x.1) (0, A) ⟨Nat.zero_le _, rfl, by simp [inAll]⟩ ?_
    rintro ⟨k, C⟩ ⟨k1, k2, k3⟩
    dsimp only at k1 k2 k3 ⊢
    by_cases hkt : k < g.rules[i].right.length
    · obtain ⟨hCq, _⟩ := rowsM_spec (null := leftsOf false g) (c := true) h3 a1 a2 a5 k (by omega)
      have hCs := (rowsM_spec (null := leftsOf false g) (c := true) h3 a1 a2 a5 _ (Nat.le_refl _)).1
      rw [← k2] at hCq
      have hCl := hCq.len
      have hlC : l < C.length := by omega
      have hCr := hCq.row _ (List.getElem_mem hlC)
      have hgd := getD_get hkt
      have hx := a5 _ (List.getElem_mem hkt)
      have hrs : rowsM (leftsOf false g) true g.rules[i] (k + 1) A = bif pickAt (leftsOf false g) true g.rules[i].right k then addM g.rules[i].left g.rules[i].right[k] C else C := by rw [rowsM, hgd, ← k2]
      have hpk : pickAt (leftsOf false g) true g.rules[i].right k = decide (0 ≤ g.rules[i].right[k]) := by
        rw [pickAt, hgd, Bool.true_or, Bool.and_true, k3, Bool.and_true]
      have hit := inAll_take (null := leftsOf false g) hkt
      rw [k3, Bool.true_and] at hit
      have hn64 : (leftsOf false g).length ≤ 64 := by omega
      have hh := has_sim (s := setN (leftsOf false g)) (v := g.rules[i].right[k]) (setN_lt64 hn64)
      rw [hasN_set hn64] at hh
      by_cases h0 : 0 ≤ g.rules[i].right[k]
      · rw [hpk, decide_eq_true h0, cond_true] at hrs
        have hw := with_sim (s := setN C[l]) (v := g.rules[i].right[k]) (setN_lt64 (by omega))
        rw [withN_set (by omega) h0 (by omega)] at hw
        have e := addM_row (M := C) (w := g.rules[i].right[k]) hlk hlC
        repeat (first | refine wk ?_)
        refine s_call [] (hA := hw) (hr := ?_)
        repeat (first | refine wk ?_)
        refine s_call [] (hA := hh) (hr := ?_)
        cases hb : has (leftsOf false g) g.rules[i].right[k] with
        | true =>
          rw [hb] at hit
          repeat (first | refine wk ?_)
          exact t_next (k + 1, addM g.rules[i].left g.rules[i].right[k] C) (a := ⟨by omega, hrs.symm, hit⟩) (b := by dsimp only; omega)
        | false =>
          rw [hb] at hit
          have hst := rowsM_stop (M := A) hit (g.rules[i].right.length - (k + 1))
          rw [show k + 1 + (g.rules[i].right.length - (k + 1)) = g.rules[i].right.length by omega, hrs] at hst
          rw [hst] at hp hCs
          repeat (first | refine wk ?_)
          exact t_next (i + 1, addM g.rules[i].left g.rules[i].right[k] C) (a := ⟨by omega, h2.trans hp, hCs⟩) (b := by dsimp only; omega)
      · rw [hpk, decide_eq_false h0, cond_false] at hrs
        have hb : has (leftsOf false g) g.rules[i].right[k] = false := by simp [has, h0]
        rw [hb] at hit hh
        have hst := rowsM_stop (M := A) hit (g.rules[i].right.length - (k + 1))
        rw [show k + 1 + (g.rules[i].right.length - (k + 1)) = g.rules[i].right.length by omega, hrs] at hst
        rw [hst] at hp hCs
        repeat (first | refine wk ?_)
        refine s_call [] (hA := hh) (hr := ?_)
        repeat (first | refine wk ?_)
        exact t_next (i + 1, C) (a := ⟨by omega, h2.trans hp, hCs⟩) (b := by dsimp only; omega)
    · obtain rfl : k = g.rules[i].right.length := by omega
      have hCs := (rowsM_spec (null := leftsOf false g) (c := true) h3 a1 a2 a5 _ (Nat.le_refl _)).1
      rw [← k2] at hCs hp
      repeat (first | refine wk ?_)
      exact t_next (i + 1, C) (a := ⟨by omega, h2.trans hp, hCs⟩) (b := by dsimp only; omega)
  · rw [matM_out hlt] at h2
    subst h2
    repeat (first | refine wk ?_)
    refine s_callf [] (hA := hcl) (hr := ?_)
    repeat (first | refine wk ?_)
    refine aw_nil 11 901 40 1 rfl rfl rfl ?_
    refine t_loop (X := Nat) (fun k => k ≤ N) (fun k => [(61, I k), (60, I N), (59, .own 900 N), (11, .own 901 ((ledM true g).take k).length), (3, .ptr 3 0)]) (fun k => [(901, .row 40 1 ((((ledM true g).take k).map listB).map (ints false))), (900, .row 56 1 (matD (ledM true g))), (3, .box 25 [.d (iD 0), .d (iD 0)])]) (fun k => N - k) 0 (Nat.zero_le _) ?_
    intro k hk
    by_cases hkN : k < N
    · have hkL : k < (ledM true g).length := by omega
      have hr64 : (ledM true g)[k].length ≤ 64 := by have := hlq.row _ (List.getElem_mem hkL); omega
      have hls := list_set (is := (ledM true g)[k]) hr64
      have e : (((ledM true g).take (k + 1)).map listB).map (ints false) = (((ledM true g).take k).map listB).map (ints false) ++ [ints false (listB (ledM true g)[k])] := by
        rw [List.take_succ_eq_append_getElem hkL, List.map_append, List.map_append]; rfl
      have e2 : ((ledM true g).take (k + 1)).length = ((ledM true g).take k).length + 1 := by simp; omega
      repeat (first | refine wk ?_)
      refine s_call [(900, 902)] (hA := hls) (hr := ?_)
      repeat (first | refine wk ?_)
      exact t_next (k + 1)
    · obtain rfl : k = N := by omega
      rw [show (ledM true g).take k = ledM true g from List.take_of_length_le (by omega)]
      refine aw_froz 901 rfl ?_
      repeat (first | refine wk ?_)
      exact fin
end Go.Proofs.Ytpaeihifcmohkaa
