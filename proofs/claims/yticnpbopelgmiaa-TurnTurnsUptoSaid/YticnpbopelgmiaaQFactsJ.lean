/-
  Sim: Corners. Sim: the reference's alike, grouped, OwnFrag, worksOf, stepOf. Sim: the reference's worksOf, stepOf. Sim: the reference's FactorOf. Sim: factorBegun, FactorMakes return true. Sim: turnBegun, TurnTurns returns true.
-/
import Derived.Test.YticnpbopelgmiaaF2
import Derived.Test.YticnpbopelgmiaaQFactsK
import Derived.Test.YticnpbopelgmiaaQTreeB
import Derived.Test.YticnpbopelgmiaaS5
import Derived.Test.YticnpbopelgmiaaTurnD
import Derived.Test.YticnpbopelgmiaaTurnT
import Derived.Test.YticnpbopelgmiaaQFrQ
set_option linter.unusedVariables false
set_option linter.unusedSimpArgs false
set_option linter.unusedSectionVars false
namespace Go.Proofs.Yticnpbopelgmiaa
open Go.RowKit
set_option maxRecDepth 100000

theorem inAll_take {xs : List Int} {null : List Bool} {k : Nat} (h : k < xs.length) : inAll (xs.take (k + 1)) null = (inAll (xs.take k) null && has null xs[k]) := by
  rw [List.take_succ_eq_append_getElem h, inAll_append]; simp [inAll]
theorem inAll_stop {xs : List Int} {null : List Bool} {k : Nat} (h : inAll (xs.take k) null = false) {n : Nat} (hn : k ≤ n) : inAll (xs.take n) null = false := by
  have : xs.take n = xs.take k ++ (xs.take n).drop k := by
    have := (List.take_append_drop k (xs.take n)).symm
    rwa [List.take_take, Nat.min_eq_left hn] at this
  rw [this, inAll_append, h, Bool.false_and]
theorem rowsM_stop {null : List Bool} {r : Rule} {M : Mat} {k : Nat} (h : inAll (r.right.take k) null = false) : ∀ d, rowsM null true r (k + d) M = rowsM null true r k M
  | 0 => rfl
  | d + 1 => by
    have hp : pickAt null true r.right (k + d) = false := by rw [pickAt, inAll_stop h (by omega), Bool.false_and, Bool.and_false]
    rw [← Nat.add_assoc, rowsM, hp, cond_false]; exact rowsM_stop h d
set_option maxHeartbeats 1000000 in
theorem corners_sim {t : Bool} {g : Gram} (hf : g.fit) : ACalls Try.prog 24 [.d (gramD t g)] [] (.tup [.d (.sl false 1 ((cornL g).map (ints false))), .d (faultD (gramFault g))]) [] := by
  refine ACalls.intro (n := 73) Try.func24 rfl rfl (by simp) (by rfl) ?_
  simp only [argFr]
  have hl := hf.rules
  have hr := hf.right
  repeat (first | refine wk ?_)
  refine s_call [] (hA := gramCheck_sim) (hr := ?_)
  by_cases hz0 : (gramFault g).code = 0
  rotate_left
  · rw [cornL, if_neg hz0]
    repeat (first | refine wk ?_)
    exact fin
  have hg := gram_ok hz0
  have hz := fault_zero hz0
  have hv := hg.vars
  have hv1 := hg.vars1
  have hlen := hg.rules
  have hnl := leftsOf_len (t := false) hg
  have hoq := oneM_sq (c := true) hg
  have hol := hoq.len
  have hlq := ledM_sq (c := true) hg
  have hlql := hlq.len
  have hcl := closed_sim (t := false) hoq (by omega)
  rw [show closeK g.vars.toNat (oneM true g) = ledM true g from rfl] at hcl
  obtain ⟨N, hN⟩ : ∃ N : Nat, g.vars = (N : Int) := ⟨g.vars.toNat, by omega⟩
  have hNt : g.vars.toNat = N := by omega
  have hsq := noneM_sq g
  rw [cornL, if_pos hz0, hz]
  rw [hNt] at hsq hnl hol hlql hcl hlq
  have e := noneM_row hNt
  repeat (first | refine wk ?_)
  refine s_call [] (hA := lefts_sim (u := false) hg) (hr := ?_)
  repeat (first | refine wk ?_)
  refine t_loop (X := Nat × Mat) (fun x => x.1 ≤ g.rules.length ∧ oneM true g = matM (leftsOf false g) true (g.rules.drop x.1) x.2 ∧ Sq N x.2) (fun x => [(28, I x.1), (27, I g.rules.length), (26, .d (rulesD t g.rules)), (6, .own 24 N), (5, U (setN (leftsOf false g))), (3, .ptr 3 0), (1, .ptr 1 0)]) (fun x => [(24, .row 99 1 (matD x.2)), (3, .box 33 [.d (iD 0), .d (iD 0)]), (1, gramBox t g)]) (fun x => g.rules.length - x.1) (0, noneM g) ⟨Nat.zero_le _, rfl, hsq⟩ ?_
  clear e
  rintro ⟨i, A⟩ ⟨h1, h2, h3⟩
  dsimp only at h1 h2 h3 ⊢
  by_cases hlt : i < g.rules.length
  · have hmem := List.getElem_mem hlt
    obtain ⟨a1, a2, a5⟩ := rules_in hg _ hmem
    rw [hNt] at a2 a5
    have a3 := hg.right _ hmem
    have hp := matM_at (null := leftsOf false g) (c := true) (M := A) hlt
    obtain ⟨l, hlk⟩ : ∃ l : Nat, g.rules[i].left = (l : Int) := ⟨g.rules[i].left.toNat, by omega⟩
    repeat (first | refine wk ?_)
    refine t_loop (X := Nat × Mat) (fun x => x.1 ≤ g.rules[i].right.length ∧ x.2 = rowsM (leftsOf false g) true g.rules[i] x.1 A ∧ inAll (g.rules[i].right.take x.1) (leftsOf false g) = true) (fun x => [(35, I x.1), (34, I g.rules[i].right.length), (33, .d (ints t g.rules[i].right)), (8, .ptr 8 0), (28, I i), (27, I g.rules.length), (26, .d (rulesD t g.rules)), (6, .own 24 N), (5, U (setN (leftsOf false g))), (3, .ptr 3 0), (1, .ptr 1 0)]) (fun x => [(8, ruleBox t g.rules[i]), (24, .row 99 1 (matD x.2)), (3, .box 33 [.d (iD 0), .d (iD 0)]), (1, gramBox t g)]) (fun x => g.rules[i].right.length - x.1) (0, A) ⟨Nat.zero_le _, rfl, by simp [inAll]⟩ ?_
    rintro ⟨k, C⟩ ⟨k1, k2, k3⟩
    dsimp only at k1 k2 k3 ⊢
    by_cases hkt : k < g.rules[i].right.length
    · obtain ⟨hCq, _⟩ := rowsM_spec (null := leftsOf false g) (c := true) h3 a1 a2 a5 k (by omega)
      have hCs := (rowsM_spec (null := leftsOf false g) (c := true) h3 a1 a2 a5 _ (Nat.le_refl _)).1
      rw [← k2] at hCq
      have hCl := hCq.len
      have hlC : l < C.length := by omega
      have hCr := hCq.row _ (List.getElem_mem hlC)
      have hgd := getD_get hkt
      have hx := a5 _ (List.getElem_mem hkt)
      have hrs : rowsM (leftsOf false g) true g.rules[i] (k + 1) A = bif pickAt (leftsOf false g) true g.rules[i].right k then addM g.rules[i].left g.rules[i].right[k] C else C := by rw [rowsM, hgd, ← k2]
      have hpk : pickAt (leftsOf false g) true g.rules[i].right k = decide (0 ≤ g.rules[i].right[k]) := by
        rw [pickAt, hgd, Bool.true_or, Bool.and_true, k3, Bool.and_true]
      have hit := inAll_take (null := leftsOf false g) hkt
      rw [k3, Bool.true_and] at hit
      have hn64 : (leftsOf false g).length ≤ 64 := by omega
      have hh := has_sim (s := setN (leftsOf false g)) (v := g.rules[i].right[k]) (setN_lt64 hn64)
      rw [hasN_set hn64] at hh
      by_cases h0 : 0 ≤ g.rules[i].right[k]
      · rw [hpk, decide_eq_true h0, cond_true] at hrs
        have hw := with_sim (s := setN C[l]) (v := g.rules[i].right[k]) (setN_lt64 (by omega))
        rw [withN_set (by omega) h0 (by omega)] at hw
        have e := addM_row (M := C) (w := g.rules[i].right[k]) hlk hlC
        repeat (first | refine wk ?_)
        refine s_call [] (hA := hw) (hr := ?_)
        repeat (first | refine wk ?_)
        refine s_call [] (hA := hh) (hr := ?_)
        cases hb : has (leftsOf false g) g.rules[i].right[k] with
        | true =>
          rw [hb] at hit
          repeat (first | refine wk ?_)
          exact t_next (k + 1, addM g.rules[i].left g.rules[i].right[k] C) (a := ⟨by omega, hrs.symm, hit⟩) (b := by dsimp only; omega)
        | false =>
          rw [hb] at hit
          have hst := rowsM_stop (M := A) hit (g.rules[i].right.length - (k + 1))
          rw [show k + 1 + (g.rules[i].right.length - (k + 1)) = g.rules[i].right.length by omega, hrs] at hst
          rw [hst] at hp hCs
          repeat (first | refine wk ?_)
          exact t_next (i + 1, addM g.rules[i].left g.rules[i].right[k] C) (a := ⟨by omega, h2.trans hp, hCs⟩) (b := by dsimp only; omega)
      · rw [hpk, decide_eq_false h0, cond_false] at hrs
        have hb : has (leftsOf false g) g.rules[i].right[k] = false := by simp [has, h0]
        rw [hb] at hit hh
        have hst := rowsM_stop (M := A) hit (g.rules[i].right.length - (k + 1))
        rw [show k + 1 + (g.rules[i].right.length - (k + 1)) = g.rules[i].right.length by omega, hrs] at hst
        rw [hst] at hp hCs
        repeat (first | refine wk ?_)
        refine s_call [] (hA := hh) (hr := ?_)
        repeat (first | refine wk ?_)
        exact t_next (i + 1, C) (a := ⟨by omega, h2.trans hp, hCs⟩) (b := by dsimp only; omega)
    · obtain rfl : k = g.rules[i].right.length := by omega
      have hCs := (rowsM_spec (null := leftsOf false g) (c := true) h3 a1 a2 a5 _ (Nat.le_refl _)).1
      rw [← k2] at hCs hp
      repeat (first | refine wk ?_)
      exact t_next (i + 1, C) (a := ⟨by omega, h2.trans hp, hCs⟩) (b := by dsimp only; omega)
  · rw [matM_out hlt] at h2
    subst h2
    repeat (first | refine wk ?_)
    refine s_callf [] (hA := hcl) (hr := ?_)
    repeat (first | refine wk ?_)
    refine aw_nil 11 901 39 1 rfl rfl rfl ?_
    refine t_loop (X := Nat) (fun k => k ≤ N) (fun k => [(61, I k), (60, I N), (59, .own 900 N), (11, .own 901 ((ledM true g).take k).length), (3, .ptr 3 0)]) (fun k => [(901, .row 39 1 ((((ledM true g).take k).map listB).map (ints false))), (900, .row 99 1 (matD (ledM true g))), (3, .box 33 [.d (iD 0), .d (iD 0)])]) (fun k => N - k) 0 (Nat.zero_le _) ?_
    intro k hk
    by_cases hkN : k < N
    · have hkL : k < (ledM true g).length := by omega
      have hr64 : (ledM true g)[k].length ≤ 64 := by have := hlq.row _ (List.getElem_mem hkL); omega
      have hls := list_set (is := (ledM true g)[k]) hr64
      have e : (((ledM true g).take (k + 1)).map listB).map (ints false) = (((ledM true g).take k).map listB).map (ints false) ++ [ints false (listB (ledM true g)[k])] := by
        rw [List.take_succ_eq_append_getElem hkL, List.map_append, List.map_append]; rfl
      have e2 : ((ledM true g).take (k + 1)).length = ((ledM true g).take k).length + 1 := by simp; omega
      repeat (first | refine wk ?_)
      refine s_call [(900, 902)] (hA := hls) (hr := ?_)
      repeat (first | refine wk ?_)
      exact t_next (k + 1)
    · obtain rfl : k = N := by omega
      rw [show (ledM true g).take k = ledM true g from List.take_of_length_le (by omega)]
      refine aw_froz 901 rfl ?_
      repeat (first | refine wk ?_)
      exact fin
end Go.Proofs.Yticnpbopelgmiaa
namespace Go.Proofs.Yticnpbopelgmiaa
open Go.RowKit
set_option maxRecDepth 100000
-- SimX

theorem refIn_sim {t : Bool} {xs : List Int} {v : Int} (hl : xs.length ≤ 100000) :
    ACalls Try.prog 25 [.d (ints t xs), I v] [] (B (xs.any (fun y => decide (v = y)))) [] := by
  refine ACalls.intro (n := 18) Try.func25 rfl rfl (by simp) (by rfl) ?_
  simp only [argFr]
  repeat (first | refine wk ?_ | refine s_field (hr := ?_))
  refine t_loop (X := Nat) (fun k => k ≤ xs.length ∧ ∀ j (hj : j < xs.length), j < k → decide (v = xs[j]) = false) (fun k => [(5, I k), (0, .d (ints t xs)), (1, I v)]) (fun _ => []) (fun k => xs.length - k) 0 ⟨Nat.zero_le _, by omega⟩ ?_
  rintro k ⟨hk, hp⟩
  by_cases hlt : k < xs.length
  · by_cases hv : xs[k] = v
    · rw [any_at (p := fun y => decide (v = y)) hlt (decide_eq_true hv.symm)]
      repeat (first | refine wk ?_ | refine s_field (hr := ?_))
      exact fin
    · repeat (first | refine wk ?_ | refine s_field (hr := ?_))
      exact t_next (k + 1) (a := ⟨by omega, fun j hj hjk => by
        by_cases e : j = k
        · subst e; exact decide_eq_false (fun h => hv h.symm)
        · exact hp j hj (by omega)⟩)
  · rw [any_none (p := fun y => decide (v = y)) (fun j hj => hp j hj (by omega))]
    repeat (first | refine wk ?_ | refine s_field (hr := ?_))
    exact fin
end Go.Proofs.Yticnpbopelgmiaa
namespace Go.Proofs.Yticnpbopelgmiaa
open Go.RowKit
set_option maxRecDepth 100000
-- SimX

end Go.Proofs.Yticnpbopelgmiaa
namespace Go.Proofs.Yticnpbopelgmiaa
open Go.RowKit
set_option maxRecDepth 100000
-- SimX

end Go.Proofs.Yticnpbopelgmiaa
namespace Go.Proofs.Yticnpbopelgmiaa
open Go.RowKit
set_option maxRecDepth 100000
-- SimX

end Go.Proofs.Yticnpbopelgmiaa
namespace Go.Proofs.Yticnpbopelgmiaa
open Go.RowKit
set_option maxRecDepth 100000
-- SimX

theorem agG_fit : againG.fit := ⟨by decide, fun r hr => by simp [againG] at hr; rcases hr with rfl | rfl <;> decide⟩
theorem ag_eq : turnS againG = (⟨⟨2, 2, 0, [⟨0, [-2]⟩, ⟨0, [-2, 1]⟩, ⟨1, [-1]⟩, ⟨1, [-1, 1]⟩]⟩, (turnS againG).1.frags, []⟩, ⟨0, 0⟩) := by kernel_rfl
set_option maxHeartbeats 4000000 in
theorem turnBegun_sim : ACalls Try.prog 21 [] [] (B true) [] := by
  refine ACalls.intro (n := 34) Try.func21 rfl rfl (by simp) (by rfl) ?_
  simp only [argFr]
  have h := turnMake_sim agG_fit
  rw [ag_eq] at h
  generalize (turnS againG).1.frags = F at *
  have hs := sameInts_sim (t := false) (u := false) (xs := [-2, 1]) (ys := [-2, 1]) (by decide) (by decide)
  rw [decide_eq_true rfl] at hs
  repeat (first | refine wk ?_ | refine s_field (hr := ?_))
  --@
  refine s_call [] (hA := again_sim) (hr := ?_)
  repeat (first | refine wk ?_ | refine s_field (hr := ?_))
  --@
  refine s_call [] (hA := h) (hr := ?_)
  repeat (first | refine wk ?_ | refine s_field (hr := ?_))
  --@
  refine s_callf [] (hA := hs) (hr := ?_)
  repeat (first | refine wk ?_ | refine s_field (hr := ?_))
  exact fin
set_option maxHeartbeats 4000000 in
theorem turnTurns_sim {g : Gram} (hl : g.rules.length ≤ 100000000) (hr : ∀ r ∈ g.rules, r.right.length ≤ 100000000) :
    ACalls Try.prog 6 [.d (gramD false g)] [] (B true) [] := by
  refine ACalls.intro (n := 52) Try.func6 rfl rfl (by simp) (by rfl) ?_
  simp only [argFr]
  have hf : g.fit := ⟨hl, hr⟩
  have hm := turnMake_sim hf
  have hcas := turnS_cases g
  have hfit := turnS_fit g
  generalize turnS g = s at *
  repeat (first | refine wk ?_ | refine s_field (hr := ?_))
  refine s_call [] (hA := turnBegun_sim) (hr := ?_)
  repeat (first | refine wk ?_ | refine s_field (hr := ?_))
  refine s_call [] (hA := greatGram_sim hl hr) (hr := ?_)
  cases h1 : greatG g with
  | true => repeat (first | refine wk ?_ | refine s_field (hr := ?_)); exact fin
  | false =>
  repeat (first | refine wk ?_ | refine s_field (hr := ?_))
  --@
  refine s_call [] (hA := hm) (hr := ?_)
  rcases hcas with ⟨k1, k2⟩ | ⟨z, hg, he, hc, hz, rfl⟩
  · rw [k2]
    repeat (first | refine wk ?_ | refine s_field (hr := ?_))
    exact fin
  · have hco := corners_sim (t := false) hfit.1
    have hgk := turn_gok hg he hz
    have hcn := fun v hv => turn_corn hg he hc hz (v := v) hv
    have hvz := (turn_inv hg he hz).1.vars
    have h64 := hgk.vars
    dsimp only at hco h64
    generalize hG : (⟨(z.length : Nat), g.terms, g.start, rulesF z 0⟩ : Gram) = G at *
    have hGv : G.vars = (z.length : Nat) := by rw [← hG]
    rw [hgk.fault] at hco
    rw [show cornL G = (ledM true G).map listB by rw [cornL, if_pos (by rw [hgk.fault])]] at hco
    have hsq := ledM_sq (c := true) hgk
    have hLl : ((ledM true G).map listB).length = z.length := by rw [List.length_map, hsq.len, hGv]; omega
    generalize ledM true G = M at *
    have hLm : M.length = z.length := by rw [List.length_map] at hLl; exact hLl
    repeat (first | refine wk ?_ | refine s_field (hr := ?_))
    --@
    refine s_call [] (hA := hco) (hr := ?_)
    repeat (first | refine wk ?_ | refine s_field (hr := ?_))
    --@
    refine t_loop (X := Nat) (fun v => v ≤ z.length) (fun v => [(7, I v), (5, .d (.sl false 1 (((M).map listB).map (ints false)))), (1, .ptr 1 0), (3, .ptr 3 0)]) (fun _ => [(1, gramBox false g), (3, stepBox false ⟨G, fragsF z, []⟩)]) (fun v => z.length - v) 0 (Nat.zero_le _) ?_
    intro v hv
    by_cases hlt : v < z.length
    · have hvM : v < (M).length := by rw [List.length_map] at hLl; omega
      have e1 : ((M).map listB)[v]'(by omega) = listB ((M)[v]) := by simp
      have hrl : ((M)[v]).length = G.vars.toNat := hsq.row _ (List.getElem_mem hvM)
      have hbl := listB_le ((M)[v])
      have hq := hcn v hlt
      rw [rowM_at hvM] at hq
      have hin := refIn_sim (t := false) (xs := listB ((M)[v])) (v := (v : Int)) (by omega)
      have hnot : (listB ((M)[v])).any (fun y => decide ((v : Int) = y)) = false := by
        rw [List.any_eq_false]
        intro y hy q
        have q := of_decide_eq_true q
        subst q
        have := listB_mem.1 hy
        rw [hq] at this
        cases this
      rw [hnot] at hin
      repeat (first | refine wk ?_ | refine s_field (hr := ?_))
      --@
      rw [e1]
      refine s_callf [] (hA := hin) (hr := ?_)
      repeat (first | refine wk ?_ | refine s_field (hr := ?_))
      exact t_next (v + 1)
    · obtain rfl : v = z.length := by omega
      repeat (first | refine wk ?_ | refine s_field (hr := ?_))
      --@
      exact fin
end Go.Proofs.Yticnpbopelgmiaa
