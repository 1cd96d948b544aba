/-
  Sim: the reference's worksOf, stepOf. Sim: the reference's FactorOf. Sim: factorBegun, FactorMakes return true. Sim: turnBegun, TurnTurns returns true.
-/
import Derived.Test.YticnpbopelgmiaaQSimPf
import Derived.Test.YticnpbopelgmiaaFrC
import Derived.Test.YticnpbopelgmiaaS5
import Derived.Test.YticnpbopelgmiaaTurnD
import Derived.Test.YticnpbopelgmiaaF2
set_option linter.unusedVariables false
set_option linter.unusedSimpArgs false
set_option linter.unusedSectionVars false
namespace Go.Proofs.Yticnpbopelgmiaa
open Go.RowKit
set_option maxRecDepth 100000
-- SimX

set_option maxHeartbeats 8000000 in
theorem worksOf_sim {t : Bool} {g : Gram} (hg : g.ok) :
    ACalls Try.prog 64 [.d (gramD t g)] [] (.own 903 (startW g).length) [(903, .row 91 1 ((startW g).map (worksD false)))] := by
  refine ACalls.intro (n := 52) Try.func64 rfl rfl (by simp) (by rfl) ?_
  simp only [argFr]
  have hv := hg.vars
  have hv1 := hg.vars1
  have hr160 := hg.rules
  have hSl := startW_length g
  obtain ⟨N, hN⟩ : ∃ N : Nat, g.vars = (N : Int) := ⟨g.vars.toNat, by omega⟩
  have hNt : g.vars.toNat = N := by omega
  rw [hNt] at hSl
  repeat (first | refine wk ?_ | refine s_field (hr := ?_))
  refine aw_nil 3 903 91 1 rfl rfl rfl ?_
  refine t_loop (X := Nat) (fun v => v ≤ N) (fun v => [(4, I v), (3, .own 903 ((startW g).take v).length), (1, .ptr 1 0)]) (fun v => [(1, gramBox t g), (903, .row 91 1 (((startW g).take v).map (worksD false)))]) (fun v => N - v) 0 (Nat.zero_le _) ?_
  intro v hvN
  have htl : ((startW g).take v).length = v := by simp; omega
  by_cases hvl : v < N
  · have hsn : (startW g).take (v + 1) = (startW g).take v ++ [worksAt g v] := by
      have e := startW_get (g := g) (v := v) (by omega)
      rw [List.getD_eq_getElem?_getD, List.getElem?_eq_getElem (by omega)] at e
      rw [List.take_succ_eq_append_getElem (by omega)]
      congr 2
    have hbl := by_len g (v : Int)
    have hby := fun r hr => by_atR (g := g) (v := v) (r := r) hr
    repeat (first | refine wk ?_ | refine s_field (hr := ?_))
    refine s_call [(5, 933)] (hA := rulesOf_sim) (hr := ?_)
    repeat (first | refine wk ?_ | refine s_field (hr := ?_))
    have hwk : worksAt g v = (by_ g v).map fun r => ⟨(ruleAt g r).right, nodeF r (kids (ruleAt g r).right).length⟩ := rfl
    rw [hwk] at hsn
    generalize by_ g v = bs at *
    generalize (startW g).take v = SW at *
    generalize hmk : (fun r => (⟨(ruleAt g r).right, nodeF r (kids (ruleAt g r).right).length⟩ : Work)) = mk at *
    refine aw_nil 5 907 93 2 rfl rfl rfl ?_
    refine t_loop (X := Nat) (fun j => j ≤ bs.length) (fun j => [(7, I j), (6, .own 933 bs.length), (5, .own 907 ((bs.take j).map mk).length), (4, I v), (3, .own 903 SW.length), (1, .ptr 1 0)])
      (fun j => [(933, .row 3 1 (bs.map iD)), (907, .row 93 2 (((bs.take j).map mk).map (workD false))), (1, gramBox t g), (903, .row 91 1 (SW.map (worksD false)))]) (fun j => bs.length - j) 0 (Nat.zero_le _) ?_
    intro j hj
    have hTl : ((bs.take j).map mk).length = j := by simp; omega
    by_cases hjl : j < bs.length
    · obtain ⟨m, hm, hbm, _, hra⟩ := hby _ (List.getElem_mem hjl)
      have hrm := hg.right _ (List.getElem_mem hm)
      have hkl := kids_le g.rules[m].right
      have how := ownInts_sim (t := t) (xs := g.rules[m].right) (by omega)
      have hki := kidsOf_sim (t := t) (xs := g.rules[m].right) (by omega)
      have hno := plain_sim (r := bs[j]) (k := (kids g.rules[m].right).length) (by omega)
      have hmkj : mk bs[j] = ⟨g.rules[m].right, nodeF bs[j] (kids g.rules[m].right).length⟩ := by rw [← hmk]; simp only [hra]
      have e1 : ((bs.take j).map mk).map (workD false) ++ [D.agg [ints false g.rules[m].right, fragsD false (nodeF bs[j] (kids g.rules[m].right).length)]] = ((bs.take (j + 1)).map mk).map (workD false) := by
        rw [List.take_succ_eq_append_getElem hjl, List.map_append, List.map_append]; simp [hmkj, workD]
      generalize (bs.take j).map mk = WK at *
      repeat (first | refine wk ?_ | refine s_field (hr := ?_))
      refine s_callf [(3, 920)] (hA := how) (hr := ?_)
      repeat (first | refine wk ?_ | refine s_field (hr := ?_))
      refine s_callf [(3, 921)] (hA := hki) (hr := ?_)
      repeat (first | refine wk ?_ | refine s_field (hr := ?_))
      refine s_callf [(22, 922)] (hA := hno) (hr := ?_)
      repeat (first | refine wk ?_ | refine s_field (hr := ?_))
      rw [e1]
      exact t_next (j + 1)
    · obtain rfl : j = bs.length := by omega
      rw [List.take_length]
      have e1 : SW.map (worksD false) ++ [worksD false (bs.map mk)] = ((startW g).take (v + 1)).map (worksD false) := by rw [hsn]; simp
      have e2 : ((startW g).take (v + 1)).length = SW.length + 1 := by rw [hsn]; simp
      generalize bs.map mk = WK at *
      repeat (first | refine wk ?_ | refine s_field (hr := ?_))
      rw [e1, List.length_map]
      exact t_next (v + 1)
  · obtain rfl : N = v := by omega
    have hall : (startW g).take N = startW g := List.take_of_length_le (by omega)
    rw [hall]
    generalize startW g = SW at *
    repeat (first | refine wk ?_ | refine s_field (hr := ?_))
    exact fin
set_option maxHeartbeats 8000000 in
theorem stepOf_sim {t : Bool} {g : Gram} {z : List (List Work)} (hz : z.length ≤ 64) (hW : Wide z) (hok : ∀ l ∈ z, ∀ w ∈ l, WOk g z.length w) :
    ACalls Try.prog 69 [.d (gramD t g), .d (.sl false 1 (z.map (worksD false)))] [] (.tup [.d (stepD false (factorEnd g (.ok z)).1), .d (faultD (factorEnd g (.ok z)).2)]) [] := by
  refine ACalls.intro (n := 84) Try.func69 rfl rfl (by simp) (by rfl) ?_
  simp only [argFr]
  have hend : ∀ x, finW z 0 [] [] = x → factorEnd g (.ok z) = (match x with
    | .error v => (zeroStep, ⟨6, (v : Nat)⟩)
    | .ok x => (⟨⟨(z.length : Nat), g.terms, g.start, x.1⟩, x.2, []⟩, ⟨0, 0⟩)) := fun x hx => by
      rw [factorEnd]; simp only [hx]; cases x <;> rfl
  repeat (first | refine wk ?_ | refine s_field (hr := ?_))
  refine s_call [] (hA := bare_sim) (hr := ?_)
  repeat (first | refine wk ?_ | refine s_field (hr := ?_))
  refine aw_nilCell 6 3 903 41 2 rfl rfl rfl rfl ?_
  refine aw_nilCell 6 4 904 65 1 rfl rfl rfl rfl ?_
  refine t_loop (X := Nat × List Rule × List (List Frag)) (fun x => x.1 ≤ z.length ∧ finW z 0 [] [] = finW (z.drop x.1) x.1 x.2.1 x.2.2 ∧ x.2.1.length ≤ 160 ∧ x.2.2.length = x.2.1.length)
    (fun x => [(7, I x.1), (6, .ptr 6 0), (4, .ptr 4 0), (5, .ptr 5 0), (1, .d (.sl false 1 (z.map (worksD false))))])
    (fun x => [(4, stepBox false zeroStep), (5, .box 33 [.d (iD 0), .d (iD 0)]), (6, .box 31 [.d (iD (z.length : Nat)), .d (iD g.terms), .d (iD g.start), .own 903 x.2.1.length, .own 904 x.2.2.length, .d nilT]), (903, .row 41 2 (x.2.1.map (ruleD false))), (904, .row 65 1 (x.2.2.map (fragsD false)))])
    (fun x => z.length - x.1) (0, [], []) ⟨Nat.zero_le _, rfl, by simp, rfl⟩ ?_
  rintro ⟨v, R, F⟩ ⟨m1, m2, m3, m4⟩
  dsimp only at m1 m2 m3 m4 ⊢
  by_cases hvz : v < z.length
  · have hzl := hW _ (List.getElem_mem hvz)
    have hzo := hok _ (List.getElem_mem hvz)
    rw [finW_at hvz] at m2
    repeat (first | refine wk ?_ | refine s_field (hr := ?_))
    refine t_loop (X := Nat × List Rule × List (List Frag)) (fun x => x.1 ≤ z[v].length ∧ finW z 0 [] [] = finC z v (z[v].drop x.1) x.2.1 x.2.2 ∧ x.2.1.length ≤ 160 ∧ x.2.2.length = x.2.1.length)
      (fun x => [(8, I x.1), (7, I v), (6, .ptr 6 0), (4, .ptr 4 0), (5, .ptr 5 0), (1, .d (.sl false 1 (z.map (worksD false))))])
      (fun x => [(4, stepBox false zeroStep), (5, .box 33 [.d (iD 0), .d (iD 0)]), (6, .box 31 [.d (iD (z.length : Nat)), .d (iD g.terms), .d (iD g.start), .own 903 x.2.1.length, .own 904 x.2.2.length, .d nilT]), (903, .row 41 2 (x.2.1.map (ruleD false))), (904, .row 65 1 (x.2.2.map (fragsD false)))])
      (fun x => z[v].length - x.1) (0, R, F) ⟨Nat.zero_le _, m2, m3, m4⟩ ?_
    clear m1 m2 m3 m4
    rintro ⟨i, R, F⟩ ⟨m1, m2, m3, m4⟩
    dsimp only at m1 m2 m3 m4 ⊢
    by_cases hil : i < z[v].length
    · have hw := hzo _ (List.getElem_mem hil)
      have hwl := hw.len
      have hws := hw.slim
      by_cases hmm : R.length = 160 ∨ 10 < z[v][i].right.length
      · rw [finC_many hil hmm] at m2
        rw [hend _ m2]
        dsimp only
        by_cases h160 : R.length = 160
        · (repeat (first | refine wkz ?_ | refine s_field (hr := ?_)))
          refine s_call [] (hA := f_sim) (hr := ?_)
          repeat (first | refine wk ?_ | refine s_field (hr := ?_))
          exact fin2
        · have h10 : 10 < z[v][i].right.length := by omega
          (repeat (first | refine wkz ?_ | refine s_field (hr := ?_)))
          refine s_call [] (hA := f_sim) (hr := ?_)
          repeat (first | refine wk ?_ | refine s_field (hr := ?_))
          exact fin2
      · rw [finC_step hil hmm] at m2
        have h160 : ¬ R.length = 160 := by omega
        have h10 : ¬ 10 < z[v][i].right.length := by omega
        have how := ownFrag_sim (t := false) (l := z[v][i].l) (by omega)
        have e1 : R.map (ruleD false) ++ [D.agg [D.raw (.int .i64 (v : Int)), ints false z[v][i].right]] = (R ++ [(⟨(v : Int), z[v][i].right⟩ : Rule)]).map (ruleD false) := by simp [ruleD, iD]
        have e2 : F.map (fragsD false) ++ [fragsD false z[v][i].l] = (F ++ [z[v][i].l]).map (fragsD false) := by simp
        repeat (first | refine wk ?_ | refine s_field (hr := ?_))
        refine s_callf [] (hA := how) (hr := ?_)
        repeat (first | refine wk ?_ | refine s_field (hr := ?_))
        rw [e1, e2, List.length_map, List.length_map]
        exact t_next (i + 1, R ++ [(⟨(v : Int), z[v][i].right⟩ : Rule)], F ++ [z[v][i].l]) (a := ⟨by dsimp only; omega, m2, by simp; omega, by simp; omega⟩)
    · have hie : i = z[v].length := by omega
      rw [hie, List.drop_length, finC_nil] at m2
      repeat (first | refine wk ?_ | refine s_field (hr := ?_))
      exact t_next (v + 1, R, F) (a := ⟨by dsimp only; omega, m2, m3, m4⟩)
  · obtain rfl : v = z.length := by omega
    rw [List.drop_length, finW] at m2
    rw [hend _ m2]
    dsimp only
    refine aw_froz 903 rfl ?_
    refine aw_froz 904 rfl ?_
    repeat (first | refine wk ?_ | refine s_field (hr := ?_))
    exact fin2
end Go.Proofs.Yticnpbopelgmiaa
namespace Go.Proofs.Yticnpbopelgmiaa
open Go.RowKit
set_option maxRecDepth 100000
-- SimX

end Go.Proofs.Yticnpbopelgmiaa
namespace Go.Proofs.Yticnpbopelgmiaa
open Go.RowKit
set_option maxRecDepth 100000
-- SimX

end Go.Proofs.Yticnpbopelgmiaa
namespace Go.Proofs.Yticnpbopelgmiaa
open Go.RowKit
set_option maxRecDepth 100000
-- SimX

theorem agG_fit : againG.fit := ⟨by decide, fun r hr => by simp [againG] at hr; rcases hr with rfl | rfl <;> decide⟩
theorem ag_eq : turnS againG = (⟨⟨2, 2, 0, [⟨0, [-2]⟩, ⟨0, [-2, 1]⟩, ⟨1, [-1]⟩, ⟨1, [-1, 1]⟩]⟩, (turnS againG).1.frags, []⟩, ⟨0, 0⟩) := by kernel_rfl
set_option maxHeartbeats 4000000 in
theorem turnBegun_sim : ACalls Try.prog 21 [] [] (B true) [] := by
  refine ACalls.intro (n := 34) Try.func21 rfl rfl (by simp) (by rfl) ?_
  simp only [argFr]
  have h := turnMake_sim agG_fit
  rw [ag_eq] at h
  generalize (turnS againG).1.frags = F at *
  have hs := sameInts_sim (t := false) (u := false) (xs := [-2, 1]) (ys := [-2, 1]) (by decide) (by decide)
  rw [decide_eq_true rfl] at hs
  repeat (first | refine wk ?_ | refine s_field (hr := ?_))
  --@
  refine s_call [] (hA := again_sim) (hr := ?_)
  repeat (first | refine wk ?_ | refine s_field (hr := ?_))
  --@
  refine s_call [] (hA := h) (hr := ?_)
  repeat (first | refine wk ?_ | refine s_field (hr := ?_))
  --@
  refine s_callf [] (hA := hs) (hr := ?_)
  repeat (first | refine wk ?_ | refine s_field (hr := ?_))
  exact fin
end Go.Proofs.Yticnpbopelgmiaa
