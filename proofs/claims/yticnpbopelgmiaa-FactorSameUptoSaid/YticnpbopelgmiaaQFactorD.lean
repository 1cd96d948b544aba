/-
  Sim: factor.Make. Sim: the reference's alike, grouped, OwnFrag, worksOf, stepOf. Sim: the reference's worksOf, stepOf. Sim: the reference's FactorOf. Sim: factorBegun, FactorMakes return true. Chart, plain: in how many ways symbols stand for a word.
-/
import Derived.Test.YticnpbopelgmiaaQFactorB
import Derived.Test.YticnpbopelgmiaaQFactorR
import Derived.Test.YticnpbopelgmiaaS5
import Derived.Test.YticnpbopelgmiaaT1
set_option linter.unusedVariables false
set_option linter.unusedSimpArgs false
set_option linter.unusedSectionVars false
namespace Go.Proofs.Yticnpbopelgmiaa
open Go.RowKit
set_option maxRecDepth 100000
-- SimX

theorem Fac.next_inv {V : Nat} {all : List (List Work)} {v : Nat} {r : Except Nat (List (List Work))} (h : Fac V all v r) (hv : v < all.length) (hg : groupW (all.getD v []) 0 = []) : Fac V all (v + 1) r := by
  cases h with
  | done h => exact absurd hv h
  | next _ _ hr => exact hr
  | many _ h _ => exact absurd hg h
  | one _ h _ _ => exact absurd hg h
theorem Fac.many_inv {V : Nat} {all : List (List Work)} {v : Nat} {r : Except Nat (List (List Work))} (h : Fac V all v r) (hv : v < all.length) (hg : groupW (all.getD v []) 0 ≠ []) (hm : 64 < (oneW V all v (groupW (all.getD v []) 0)).length) : r = .error v := by
  cases h with
  | done h => exact absurd hv h
  | next _ h _ => exact absurd h hg
  | many _ _ _ => rfl
  | one _ _ h _ => exact absurd hm h
theorem Fac.one_inv {V : Nat} {all : List (List Work)} {v : Nat} {r : Except Nat (List (List Work))} (h : Fac V all v r) (hv : v < all.length) (hg : groupW (all.getD v []) 0 ≠ []) (hm : ¬ 64 < (oneW V all v (groupW (all.getD v []) 0)).length) : Fac V (oneW V all v (groupW (all.getD v []) 0)) v r := by
  cases h with
  | done h => exact absurd hv h
  | next _ h _ => exact absurd h hg
  | many _ _ h => exact absurd h hm
  | one _ _ _ hr => exact hr
theorem Fac.done_inv {V : Nat} {all : List (List Work)} {v : Nat} {r : Except Nat (List (List Work))} (h : Fac V all v r) (hv : ¬ v < all.length) : r = .ok all := by
  cases h with
  | done _ => rfl
  | next h _ _ => exact absurd h hv
  | many h _ _ => exact absurd h hv
  | one h _ _ _ => exact absurd h hv
def Wide (all : List (List Work)) : Prop := ∀ l ∈ all, l.length ≤ 160
theorem Wide.get {all : List (List Work)} (h : Wide all) (v : Nat) : (all.getD v []).length ≤ 160 := by
  rw [List.getD_eq_getElem?_getD]
  by_cases hv : v < all.length
  · rw [List.getElem?_eq_getElem hv]; exact h _ (List.getElem_mem hv)
  · rw [List.getElem?_eq_none (by omega)]; simp
theorem Wide.one {V : Nat} {all : List (List Work)} {v : Nat} {at_ : List Int} (h : Wide all) : Wide (oneW V all v at_) := by
  intro l hl
  have hv := h.get v
  rcases List.mem_append.1 hl with hl | hl
  · rcases List.mem_or_eq_of_mem_set hl with hl | rfl
    · exact h l hl
    · exact Nat.le_trans (leftsW_le _ _) hv
  · rw [List.mem_singleton.1 hl, List.length_map]
    exact Nat.le_trans (samesW_le _ _) hv
theorem by_len (g : Gram) (v : Int) : (by_ g v).length ≤ g.rules.length := byR_le v g.rules 0
theorem start_wide {g : Gram} (hg : g.ok) : Wide (startW g) := by
  intro l hl
  obtain ⟨v, _, rfl⟩ := List.mem_map.1 hl
  have := by_len g v
  have := hg.rules
  rw [worksAt, List.length_map]; omega
/-- What is left of the last loop. -/
def finC (z : List (List Work)) (v : Nat) (l : List Work) (R : List Rule) (F : List (List Frag)) : Except Nat (List Rule × List (List Frag)) := match finL v l R F with
  | none => .error v
  | some x => finW (z.drop (v + 1)) (v + 1) x.1 x.2
theorem finW_at {z : List (List Work)} {v : Nat} (h : v < z.length) (R : List Rule) (F : List (List Frag)) : finW (z.drop v) v R F = finC z v z[v] R F := by
  rw [List.drop_eq_getElem_cons h, finW, finC]
  cases finL v z[v] R F <;> rfl
theorem finC_nil (z : List (List Work)) (v : Nat) (R : List Rule) (F : List (List Frag)) : finC z v [] R F = finW (z.drop (v + 1)) (v + 1) R F := by rw [finC, finL]
theorem finC_many {z : List (List Work)} {v : Nat} {l : List Work} {i : Nat} (h : i < l.length) {R : List Rule} {F : List (List Frag)} (hm : R.length = 160 ∨ 10 < l[i].right.length) : finC z v (l.drop i) R F = .error v := by
  rw [finC, List.drop_eq_getElem_cons h, finL, if_pos hm]
theorem finC_step {z : List (List Work)} {v : Nat} {l : List Work} {i : Nat} (h : i < l.length) {R : List Rule} {F : List (List Frag)} (hm : ¬ (R.length = 160 ∨ 10 < l[i].right.length)) : finC z v (l.drop i) R F = finC z v (l.drop (i + 1)) (R ++ [⟨(v : Int), l[i].right⟩]) (F ++ [l[i].l]) := by
  rw [finC, List.drop_eq_getElem_cons h, finL, if_neg hm, finC]
abbrev facBx (g : Gram) (n : Nat) : Ob := .box 132 [.d (iD g.vars), .d (iD g.terms), .d (iD g.start), .d (rulesD false g.rules), .own 901 n]
abbrev fmH (g : Gram) (all : List (List Work)) : Hp := [(1, gramBox false g), (2, stepBox false zeroStep), (3, .box 33 [.d (iD 0), .d (iD 0)]), (25, facBx g all.length), (901, .row 133 1 (all.map (worksD false)))]
abbrev fmF : Fr := [(1, .ptr 1 0), (2, .ptr 2 0), (3, .ptr 3 0), (5, .ptr 25 0)]
set_option maxHeartbeats 8000000 in
theorem factorMake_sim {g : Gram} (hf : g.fit) {r : Except Nat (List (List Work))} (hr : (gramFault g).code = 0 → Fac g.vars.toNat (startW g) 0 r) :
    ACalls Try.prog 35 [.d (gramD false g)] [] (.tup [.d (stepD false (factorS g r).1), .d (faultD (factorS g r).2)]) [] := by
  refine ACalls.intro (n := 155) Try.func35 rfl rfl (by simp) (by rfl) ?_
  simp only [argFr]
  have hr1 := hf.rules
  have hr2 := hf.right
  repeat (first | refine wk ?_ | refine s_field (hr := ?_))
  refine s_call [] (hA := gramCheck_sim) (hr := ?_)
  by_cases hc : (gramFault g).code = 0
  rotate_left
  · rw [show factorS g r = (zeroStep, gramFault g) by rw [factorS, if_neg hc]]
    repeat (first | refine wk ?_ | refine s_field (hr := ?_))
    exact fin2
  have hr := hr hc
  have hg := gram_ok hc
  rw [show factorS g r = factorEnd g r by rw [factorS, if_pos hc]]
  have hv := hg.vars
  have hv1 := hg.vars1
  have hr160 := hg.rules
  have hI := start_inv hg
  have hW := start_wide hg
  have hSl := startW_length g
  obtain ⟨N, hN⟩ : ∃ N : Nat, g.vars = (N : Int) := ⟨g.vars.toNat, by omega⟩
  have hNt : g.vars.toNat = N := by omega
  rw [hNt] at hSl
  repeat (first | refine wk ?_ | refine s_field (hr := ?_))
  refine aw_nilCell 25 4 901 133 1 rfl rfl rfl rfl ?_
  refine t_loop (X := Nat) (fun v => v ≤ N) (fun v => (28, I v) :: (27, .d (iD g.vars)) :: fmF) (fun v => fmH g ((startW g).take v)) (fun v => N - v) 0 (Nat.zero_le _) ?_
  · intro v hvN
    have htl : ((startW g).take v).length = v := by simp; omega
    by_cases hvl : v < N
    · have hsn : (startW g).take (v + 1) = (startW g).take v ++ [worksAt g v] := by
        have e := startW_get (g := g) (v := v) (by omega)
        rw [List.getD_eq_getElem?_getD, List.getElem?_eq_getElem (by omega)] at e
        rw [List.take_succ_eq_append_getElem (by omega)]
        congr 2
      have hbl := by_len g (v : Int)
      have hby := fun r hr => by_atR (g := g) (v := v) (r := r) hr
      repeat (first | refine wk ?_ | refine s_field (hr := ?_))
      refine s_call [(5, 933)] (hA := by_sim) (hr := ?_)
      repeat (first | refine wk ?_ | refine s_field (hr := ?_))
      have hwk : worksAt g v = (by_ g v).map fun r => ⟨(ruleAt g r).right, nodeF r (kids (ruleAt g r).right).length⟩ := rfl
      rw [hwk] at hsn
      generalize by_ g v = bs at *
      generalize (startW g).take v = SW at *
      generalize hmk : (fun r => (⟨(ruleAt g r).right, nodeF r (kids (ruleAt g r).right).length⟩ : Work)) = mk at *
      refine aw_nil 7 907 135 2 rfl rfl rfl ?_
      refine t_loop (X := Nat) (fun j => j ≤ bs.length) (fun j => (35, I j) :: (34, I bs.length) :: (33, .own 933 bs.length) :: (7, .own 907 ((bs.take j).map mk).length) :: (6, I v) :: (28, I v) :: (27, .d (iD g.vars)) :: fmF)
        (fun j => (933, .row 3 1 (bs.map iD)) :: (907, .row 135 2 (((bs.take j).map mk).map (workD false))) :: fmH g SW) (fun j => bs.length - j) 0 (Nat.zero_le _) ?_
      intro j hj
      have hTl : ((bs.take j).map mk).length = j := by simp; omega
      by_cases hjl : j < bs.length
      · obtain ⟨m, hm, hbm, _, hra⟩ := hby _ (List.getElem_mem hjl)
        have hrm := hg.right _ (List.getElem_mem hm)
        have hkl := kids_le g.rules[m].right
        have hfk := fkids_sim (t := false) (xs := g.rules[m].right) (by omega)
        have hno := node_sim (r := bs[j]) (k := (kids g.rules[m].right).length) (by omega)
        have hmkj : mk bs[j] = ⟨g.rules[m].right, nodeF bs[j] (kids g.rules[m].right).length⟩ := by rw [← hmk]; simp only [hra]
        have e1 : ((bs.take j).map mk).map (workD false) ++ [D.agg [ints false g.rules[m].right, fragsD false (nodeF bs[j] (kids g.rules[m].right).length)]] = ((bs.take (j + 1)).map mk).map (workD false) := by
          rw [List.take_succ_eq_append_getElem hjl, List.map_append, List.map_append]; simp [hmkj, workD]
        generalize (bs.take j).map mk = WK at *
        repeat (first | refine wk ?_ | refine s_field (hr := ?_))
        refine s_callf [] (hA := hfk) (hr := ?_)
        repeat (first | refine wk ?_ | refine s_field (hr := ?_))
        refine s_callf [(20, 921)] (hA := hno) (hr := ?_)
        repeat (first | refine wk ?_ | refine s_field (hr := ?_))
        rw [e1]
        exact t_next (j + 1)
      · obtain rfl : j = bs.length := by omega
        rw [List.take_length]
        have e1 : SW.map (worksD false) ++ [worksD false (bs.map mk)] = ((startW g).take (v + 1)).map (worksD false) := by rw [hsn]; simp
        have e2 : ((startW g).take (v + 1)).length = SW.length + 1 := by rw [hsn]; simp
        generalize bs.map mk = WK at *
        repeat (first | refine wk ?_ | refine s_field (hr := ?_))
        rw [e1, List.length_map]
        exact t_next (v + 1)
    · obtain rfl : N = v := by omega
      have hall : (startW g).take N = startW g := List.take_of_length_le (by omega)
      rw [hall]
      clear htl hall
      rw [hNt] at hr
      repeat (first | refine wk ?_ | refine s_field (hr := ?_))
      refine t_loop (X := Nat × List (List Work)) (fun x => Fac N x.2 x.1 r ∧ FInv g x.2 x.1 ∧ Wide x.2 ∧ x.1 ≤ x.2.length) (fun x => (10, I x.1) :: fmF) (fun x => fmH g x.2) (fun x => 65 - x.1) (0, startW g) ⟨hr, hI, hW, Nat.zero_le _⟩ ?_
      rintro ⟨v, all⟩ ⟨k1, k2, k3, k4⟩
      dsimp only at k1 k2 k3 k4 ⊢
      have kl := k2.len
      by_cases hva : v < all.length
      · repeat (first | refine wk ?_ | refine s_field (hr := ?_))
        refine t_loop (X := List (List Work)) (fun x => Fac N x v r ∧ FInv g x v ∧ Wide x ∧ v < x.length) (fun x => (10, I v) :: fmF) (fun x => fmH g x) (fun x => (x.getD v []).length) all ⟨k1, k2, k3, hva⟩ ?_
        clear k1 k2 k3 k4 kl hva
        rintro all ⟨k1, k2, k3, hva⟩
        have kl := k2.len
        by_cases hgr : groupW (all.getD v []) 0 = []
        · have hone := one_no (v := v) hva k2 k3 hgr
          repeat (first | refine wk ?_ | refine s_field (hr := ?_))
          refine s_call [(1000, 25), (1001, 901)] (hA := hone) (hr := ?_)
          repeat (first | refine wk ?_ | refine s_field (hr := ?_))
          exact t_next (v + 1, all) (a := ⟨k1.next_inv hva hgr, k2.next hgr, k3, by dsimp only; omega⟩) (b := by dsimp only; omega)
        · have hone := one_yes (v := v) hg hva k2 k3 hgr
          have hlen := oneW_length N all v (groupW (all.getD v []) 0)
          have hwide := k3.one (V := N) (v := v) (at_ := groupW (all.getD v []) 0)
          rw [hNt] at hone
          by_cases hm : 64 < (oneW N all v (groupW (all.getD v []) 0)).length
          · have hre := k1.many_inv hva hgr hm
            rw [hre, show factorEnd g (.error v) = (zeroStep, ⟨6, (v : Nat)⟩) from rfl]
            generalize oneW N all v (groupW (all.getD v []) 0) = A at *
            repeat (first | refine wk ?_ | refine s_field (hr := ?_))
            refine s_call [(1000, 25), (1001, 901)] (hA := hone) (hr := ?_)
            repeat (first | refine wk ?_ | refine s_field (hr := ?_))
            exact fin2
          · have hf2 := k1.one_inv hva hgr hm
            have hi2 := k2.one hg hva hgr (by rw [hNt]; exact hm)
            rw [hNt] at hi2
            generalize oneW N all v (groupW (all.getD v []) 0) = A at *
            repeat (first | refine wk ?_ | refine s_field (hr := ?_))
            refine s_call [(1000, 25), (1001, 901)] (hA := hone) (hr := ?_)
            repeat (first | refine wk ?_ | refine s_field (hr := ?_))
            exact t_next A (a := ⟨hf2, hi2.1, hwide, by omega⟩) (b := hi2.2)
      · have hre := k1.done_inv hva
        obtain rfl : v = all.length := by omega
        rw [hre]
        generalize all = z at *
        have hend : ∀ x, finW z 0 [] [] = x → factorEnd g (.ok z) = (match x with
          | .error v => (zeroStep, ⟨6, (v : Nat)⟩)
          | .ok x => (⟨⟨(z.length : Nat), g.terms, g.start, x.1⟩, x.2, []⟩, ⟨0, 0⟩)) := fun x hx => by
            rw [factorEnd]; simp only [hx]; cases x <;> rfl
        repeat (first | refine wk ?_ | refine s_field (hr := ?_))
        refine aw_nilCell 11 3 903 41 2 rfl rfl rfl rfl ?_
        refine aw_nilCell 11 4 904 65 1 rfl rfl rfl rfl ?_
        refine t_loop (X := Nat × List Rule × List (List Frag)) (fun x => x.1 ≤ z.length ∧ finW z 0 [] [] = finW (z.drop x.1) x.1 x.2.1 x.2.2 ∧ x.2.1.length ≤ 160 ∧ x.2.2.length = x.2.1.length)
          (fun x => [(107, I x.1), (106, I z.length), (105, .own 901 z.length), (11, .ptr 11 0), (2, .ptr 2 0), (3, .ptr 3 0)])
          (fun x => [(2, stepBox false zeroStep), (3, .box 33 [.d (iD 0), .d (iD 0)]), (901, .row 133 1 (z.map (worksD false))), (11, .box 31 [.d (iD (z.length : Nat)), .d (iD g.terms), .d (iD g.start), .own 903 x.2.1.length, .own 904 x.2.2.length, .d nilT]), (903, .row 41 2 (x.2.1.map (ruleD false))), (904, .row 65 1 (x.2.2.map (fragsD false)))])
          (fun x => z.length - x.1) (0, [], []) ⟨Nat.zero_le _, rfl, by simp, rfl⟩ ?_
        rintro ⟨v, R, F⟩ ⟨m1, m2, m3, m4⟩
        dsimp only at m1 m2 m3 m4 ⊢
        by_cases hvz : v < z.length
        · have hzl := k3 _ (List.getElem_mem hvz)
          have hzo := k2.ok _ (List.getElem_mem hvz)
          rw [finW_at hvz] at m2
          generalize hl : z[v] = l at *
          repeat (first | refine wk ?_ | refine s_field (hr := ?_))
          rw [hl]
          repeat (first | refine wk ?_ | refine s_field (hr := ?_))
          refine t_loop (X := Nat × List Rule × List (List Frag)) (fun x => x.1 ≤ l.length ∧ finW z 0 [] [] = finC z v (l.drop x.1) x.2.1 x.2.2 ∧ x.2.1.length ≤ 160 ∧ x.2.2.length = x.2.1.length)
            (fun x => [(114, I x.1), (113, I l.length), (112, .d (worksD false l)), (12, I v), (107, I v), (106, I z.length), (105, .own 901 z.length), (11, .ptr 11 0), (2, .ptr 2 0), (3, .ptr 3 0)])
            (fun x => [(2, stepBox false zeroStep), (3, .box 33 [.d (iD 0), .d (iD 0)]), (901, .row 133 1 (z.map (worksD false))), (11, .box 31 [.d (iD (z.length : Nat)), .d (iD g.terms), .d (iD g.start), .own 903 x.2.1.length, .own 904 x.2.2.length, .d nilT]), (903, .row 41 2 (x.2.1.map (ruleD false))), (904, .row 65 1 (x.2.2.map (fragsD false)))])
            (fun x => l.length - x.1) (0, R, F) ⟨Nat.zero_le _, m2, m3, m4⟩ ?_
          clear m1 m2 m3 m4
          rintro ⟨i, R, F⟩ ⟨m1, m2, m3, m4⟩
          dsimp only at m1 m2 m3 m4 ⊢
          by_cases hil : i < l.length
          · have hw := hzo _ (List.getElem_mem hil)
            have hwl := hw.len
            by_cases hmm : R.length = 160 ∨ 10 < l[i].right.length
            · rw [finC_many hil hmm] at m2
              rw [hend _ m2]
              dsimp only
              by_cases h160 : R.length = 160
              · (repeat (first | refine wkz ?_ | refine s_field (hr := ?_)))
                exact fin2
              · have h10 : 10 < l[i].right.length := by omega
                (repeat (first | refine wkz ?_ | refine s_field (hr := ?_)))
                exact fin2
            · rw [finC_step hil hmm] at m2
              have h160 : ¬ R.length = 160 := by omega
              have h10 : ¬ 10 < l[i].right.length := by omega
              have hcl := clone_sim (t := false) (xs := l[i].right) (by omega)
              have e1 : R.map (ruleD false) ++ [D.agg [D.raw (.int .i64 (v : Int)), ints false l[i].right]] = (R ++ [(⟨(v : Int), l[i].right⟩ : Rule)]).map (ruleD false) := by simp [ruleD, iD]
              have e2 : F.map (fragsD false) ++ [fragsD false l[i].l] = (F ++ [l[i].l]).map (fragsD false) := by simp
              repeat (first | refine wk ?_ | refine s_field (hr := ?_))
              refine s_callf [(5, 920)] (hA := hcl) (hr := ?_)
              repeat (first | refine wk ?_ | refine s_field (hr := ?_))
              rw [e1, e2, List.length_map, List.length_map]
              exact t_next (i + 1, R ++ [(⟨(v : Int), l[i].right⟩ : Rule)], F ++ [l[i].l]) (a := ⟨by dsimp only; omega, m2, by simp; omega, by simp; omega⟩)
          · obtain rfl : i = l.length := by omega
            rw [List.drop_length, finC_nil] at m2
            repeat (first | refine wk ?_ | refine s_field (hr := ?_))
            exact t_next (v + 1, R, F) (a := ⟨by dsimp only; omega, m2, m3, m4⟩)
        · obtain rfl : v = z.length := by omega
          rw [List.drop_length, finW] at m2
          rw [hend _ m2]
          dsimp only
          refine aw_froz 903 rfl ?_
          refine aw_froz 904 rfl ?_
          repeat (first | refine wk ?_ | refine s_field (hr := ?_))
          exact fin2
end Go.Proofs.Yticnpbopelgmiaa
namespace Go.Proofs.Yticnpbopelgmiaa
open Go.RowKit
set_option maxRecDepth 100000
-- SimX

end Go.Proofs.Yticnpbopelgmiaa
namespace Go.Proofs.Yticnpbopelgmiaa
open Go.RowKit
set_option maxRecDepth 100000
-- SimX

end Go.Proofs.Yticnpbopelgmiaa
namespace Go.Proofs.Yticnpbopelgmiaa
open Go.RowKit
set_option maxRecDepth 100000
-- SimX

end Go.Proofs.Yticnpbopelgmiaa
namespace Go.Proofs.Yticnpbopelgmiaa
open Go.RowKit
set_option maxRecDepth 100000
-- SimX

theorem factor_way (g : Gram) : ∃ r, ((gramFault g).code = 0 → Fac g.vars.toNat (startW g) 0 r) ∧ ((gramFault g).code = 0 → ∀ z, r = .ok z → FInv g z z.length) := by
  by_cases h : (gramFault g).code = 0
  · have hg := gram_ok h
    obtain ⟨r, h1, h2⟩ := fac_ends hg 65 _ (by omega) (Nat.le_refl _) (start_inv hg)
    exact ⟨r, fun _ => h1, fun _ => h2⟩
  · exact ⟨.error 0, fun hh => absurd hh h, fun hh => absurd hh h⟩
theorem zeroStep_fitF : zeroStep.fit := ⟨⟨by decide, fun r hr => by simp [zeroStep] at hr⟩, by decide, fun l hl => by simp [zeroStep] at hl, by decide⟩
theorem factorS_cases {g : Gram} {r : Except Nat (List (List Work))} (hz : (gramFault g).code = 0 → ∀ z, r = .ok z → FInv g z z.length) :
    ((gramFault g).code ≠ 0 ∧ factorS g r = (zeroStep, gramFault g)) ∨ (∃ i : Nat, factorS g r = (zeroStep, ⟨6, (i : Int)⟩)) ∨
    ∃ z x, g.ok ∧ FInv g z z.length ∧ finW z 0 [] [] = .ok x ∧ factorS g r = (⟨outG g z x, x.2, []⟩, ⟨0, 0⟩) := by
  by_cases h : (gramFault g).code = 0
  · rw [factorS, if_pos h]
    cases r with
    | error v => exact .inr (.inl ⟨v, rfl⟩)
    | ok z =>
      cases hc : finW z 0 [] [] with
      | error v => exact .inr (.inl ⟨v, by rw [factorEnd]; simp only [hc]⟩)
      | ok x => exact .inr (.inr ⟨z, x, gram_ok h, hz h z rfl, hc, by rw [factorEnd]; simp only [hc]; rfl⟩)
  · rw [factorS, if_neg h]; exact .inl ⟨h, rfl⟩
theorem factorS_fit {g : Gram} {r : Except Nat (List (List Work))} (hz : (gramFault g).code = 0 → ∀ z, r = .ok z → FInv g z z.length) : (factorS g r).1.fit := by
  rcases factorS_cases hz with ⟨_, h⟩ | ⟨i, h⟩ | ⟨z, x, hg, hI, hx, h⟩
  · rw [h]; exact zeroStep_fitF
  · rw [h]; exact zeroStep_fitF
  · rw [h]
    have h1 := out_ok hg hI hx
    obtain ⟨h2, h3⟩ := out_slim hI hx
    exact ⟨h1.fit, (by show x.2.length ≤ _; omega), fun l hl => Nat.le_trans (h3 l hl) (by decide), by simp [cnts]⟩
def faG : Gram := ⟨1, 2, 0, [⟨0, [-1, -1]⟩, ⟨0, [-1, -2]⟩]⟩
def faW : List (List Work) := oneW 1 (startW faG) 0 (groupW ((startW faG).getD 0 []) 0)
theorem faG_fit : faG.fit := ⟨by decide, fun r hr => by simp [faG] at hr; rcases hr with rfl | rfl <;> decide⟩
theorem fa_way : Fac faG.vars.toNat (startW faG) 0 (.ok faW) :=
  .one (by decide) (by decide) (by decide) (.next (by decide) (by decide) (.next (by decide) (by decide) (.done (by decide))))
theorem fa_eq : factorS faG (.ok faW) = (⟨⟨2, 2, 0, [⟨0, [-1, 1]⟩, ⟨1, [-1]⟩, ⟨1, [-2]⟩]⟩, [headF 0 false, tailF 0 0, tailF 1 0], []⟩, ⟨0, 0⟩) := by kernel_rfl
theorem factorBegun_sim : ACalls Try.prog 34 [] [] (B true) [] := by
  refine ACalls.intro (n := 39) Try.func34 rfl rfl (by simp) (by rfl) ?_
  simp only [argFr]
  have h : ACalls Try.prog 35 [.d (.agg [iD 1, iD 2, iD 0, .sl false 2 [.agg [iD 0, ints false [-1, -1]], .agg [iD 0, ints false [-1, -2]]]])] [] (.tup [.d (stepD false (factorS faG (.ok faW)).1), .d (faultD (factorS faG (.ok faW)).2)]) [] :=
    factorMake_sim faG_fit (fun _ => fa_way)
  rw [fa_eq] at h
  have hs := sameInts_sim (t := false) (u := false) (xs := [-1, 1]) (ys := [-1, 1]) (by decide) (by decide)
  rw [decide_eq_true rfl] at hs
  repeat (first | refine wk ?_ | refine s_field (hr := ?_))
  refine s_callf [] (hA := h) (hr := ?_)
  repeat (first | refine wk ?_ | refine s_field (hr := ?_))
  refine s_callf [] (hA := hs) (hr := ?_)
  repeat (first | refine wk ?_ | refine s_field (hr := ?_))
  exact fin
end Go.Proofs.Yticnpbopelgmiaa
namespace Go.Proofs.Yticnpbopelgmiaa
open Go.RowKit

/-! ### Sums -/
def sumN : Nat → (Nat → Nat) → Nat
  | 0, _ => 0
  | n + 1, f => sumN n f + f n
theorem sumN_congr {f g : Nat → Nat} : ∀ {n : Nat}, (∀ x, x < n → f x = g x) → sumN n f = sumN n g
  | 0, _ => rfl
  | n + 1, h => by simp only [sumN]; rw [sumN_congr (fun x hx => h x (by omega)), h n (by omega)]
theorem sumN_zero {f : Nat → Nat} : ∀ {n : Nat}, (∀ x, x < n → f x = 0) → sumN n f = 0
  | 0, _ => rfl
  | n + 1, h => by simp only [sumN]; rw [sumN_zero (fun x hx => h x (by omega)), h n (by omega)]
theorem sumN_le {f g : Nat → Nat} : ∀ {n : Nat}, (∀ x, x < n → f x ≤ g x) → sumN n f ≤ sumN n g
  | 0, _ => Nat.le_refl _
  | n + 1, h => by simp only [sumN]; exact Nat.add_le_add (sumN_le (fun x hx => h x (by omega))) (h n (by omega))
theorem sumN_ext {f : Nat → Nat} {n m : Nat} (h : n ≤ m) (hz : ∀ x, n ≤ x → x < m → f x = 0) : sumN m f = sumN n f := by
  induction m with
  | zero => obtain rfl : n = 0 := by omega
            rfl
  | succ m ih =>
    by_cases e : n = m + 1
    · rw [e]
    · simp only [sumN]
      rw [ih (by omega) (fun x h1 h2 => hz x h1 (by omega)), hz m (by omega) (by omega)]; rfl
theorem sumN_single {f : Nat → Nat} {n k : Nat} (hk : k < n) (hz : ∀ x, x < n → x ≠ k → f x = 0) : sumN n f = f k := by
  rw [sumN_ext (n := k + 1) (by omega) (fun x h1 h2 => hz x h2 (by omega))]
  simp only [sumN]
  rw [sumN_zero (fun x hx => hz x (by omega) (by omega))]; omega
theorem le_sumN {f : Nat → Nat} {n k : Nat} (hk : k < n) : f k ≤ sumN n f := by
  induction n with
  | zero => omega
  | succ n ih =>
    simp only [sumN]
    by_cases e : k = n
    · subst e; omega
    · have := ih (by omega); omega
/-! ### At most so many -/
theorem min_add_r (M a b : Nat) : min M (a + min M b) = min M (a + b) := by omega
theorem min_add_l (M a b : Nat) : min M (min M a + b) = min M (a + b) := by omega
theorem min_mul_l {M a b : Nat} : min M (min M a * b) = min M (a * b) := by
  by_cases h : a ≤ M
  · rw [Nat.min_eq_right h]
  · rw [Nat.min_eq_left (by omega : M ≤ a)]
    cases b with
    | zero => rfl
    | succ b =>
      have h1 : M * 1 ≤ M * (b + 1) := Nat.mul_le_mul_left _ (by omega)
      have h2 : a * 1 ≤ a * (b + 1) := Nat.mul_le_mul_left _ (by omega)
      omega
theorem min_mul_r {M a b : Nat} : min M (a * min M b) = min M (a * b) := by rw [Nat.mul_comm, min_mul_l, Nat.mul_comm]
theorem min_sumN {M : Nat} {f g : Nat → Nat} : ∀ {n : Nat}, (∀ x, x < n → min M (f x) = min M (g x)) → min M (sumN n f) = min M (sumN n g)
  | 0, _ => rfl
  | n + 1, h => by
    have h1 := min_sumN (n := n) (fun x hx => h x (by omega))
    have h2 := h n (by omega)
    simp only [sumN]
    omega

/-! ### Symbols over a word -/
abbrev Cube := Nat → Nat → Nat → Nat
/-- One symbol from i to m. -/
def symN (N : Cube) (w : List Int) (s : Int) (i m : Nat) : Nat := if 0 ≤ s then N s.toNat i m else if m = i + 1 ∧ w[i]? = some (-1 - s) then 1 else 0
/-- Symbols, from i to j. -/
def wcn (N : Cube) (w : List Int) : List Int → Nat → Nat → Nat
  | [], i, j => if i = j then 1 else 0
  | s :: r, i, j => sumN (j + 1) fun m => if i ≤ m then symN N w s i m * wcn N w r m j else 0
def at0 (i : Nat) : Nat → Nat := fun e => if e = i then 1 else 0
/-! ### Monotone -/
def CLe (N N' : Cube) : Prop := ∀ v i j, N v i j ≤ N' v i j
theorem symN_mono {N N' : Cube} (h : CLe N N') (w : List Int) (s : Int) (i m : Nat) : symN N w s i m ≤ symN N' w s i m := by
  unfold symN; split
  · exact h _ _ _
  · exact Nat.le_refl _
theorem wcn_mono {N N' : Cube} (h : CLe N N') (w : List Int) : ∀ (r : List Int) (i j : Nat), wcn N w r i j ≤ wcn N' w r i j
  | [], _, _ => Nat.le_refl _
  | s :: r, i, j => by
    simp only [wcn]
    refine sumN_le fun m _ => ?_
    split
    · exact Nat.mul_le_mul (symN_mono h w s i m) (wcn_mono h w r m j)
    · exact Nat.le_refl _

/-! ### Rounds -/
/-- All rules of v together. -/
def allR (g : Gram) (N : Cube) (w : List Int) (v i j : Nat) : Nat := ((g.rules.filter fun r => decide (r.left = (v : Int))).map fun r => wcn N w r.right i j).sum
/-- One round: what the rules say where this is known. -/
def rnd (g : Gram) (w : List Int) (M : Nat) (N : Cube) : Cube := fun v i j => if (v : Int) < g.vars ∧ i ≤ j ∧ j ≤ w.length then min M (allR g N w v i j) else 0
def rnds (g : Gram) (w : List Int) (M : Nat) : Nat → Cube
  | 0 => fun _ _ _ => 0
  | k + 1 => rnd g w M (rnds g w M k)
def many (g : Gram) (w : List Int) (M : Nat) : Nat := g.vars.toNat * ((w.length + 1) * ((w.length + 1) * M))
/-- In the end. -/
def wcns (g : Gram) (w : List Int) (M : Nat) : Cube := rnds g w M (many g w M)
theorem sum_map_le {α : Type} {f g : α → Nat} : ∀ {l : List α}, (∀ x ∈ l, f x ≤ g x) → (l.map f).sum ≤ (l.map g).sum
  | [], _ => Nat.le_refl _
  | a :: l, h => by
    simp only [List.map_cons, List.sum_cons]
    exact Nat.add_le_add (h a (by simp)) (sum_map_le (fun x hx => h x (by simp [hx])))
theorem rnd_mono {g : Gram} {w : List Int} {M : Nat} {N N' : Cube} (h : CLe N N') : CLe (rnd g w M N) (rnd g w M N') := fun v i j => by
  unfold rnd
  split
  · have : allR g N w v i j ≤ allR g N' w v i j := sum_map_le (fun r _ => wcn_mono h w r.right i j)
    omega
  · exact Nat.le_refl _
theorem rnds_up {g : Gram} {w : List Int} {M : Nat} : ∀ k, CLe (rnds g w M k) (rnds g w M (k + 1))
  | 0 => fun _ _ _ => Nat.zero_le _
  | k + 1 => rnd_mono (rnds_up k)
theorem rnd_le {g : Gram} {w : List Int} {M : Nat} {N : Cube} (v i j : Nat) : rnd g w M N v i j ≤ M := by unfold rnd; split <;> omega
theorem rnds_le {g : Gram} {w : List Int} {M : Nat} : ∀ (k v i j : Nat), rnds g w M k v i j ≤ M
  | 0, _, _, _ => Nat.zero_le _
  | _ + 1, v, i, j => rnd_le v i j
def total (g : Gram) (w : List Int) (N : Cube) : Nat := sumN g.vars.toNat fun v => sumN (w.length + 1) fun i => sumN (w.length + 1) fun j => N v i j
theorem sumN_const {n c : Nat} : sumN n (fun _ => c) = n * c := by
  induction n with
  | zero => simp [sumN]
  | succ n ih => simp only [sumN, ih, Nat.add_mul]; omega
theorem total_le {g : Gram} {w : List Int} {M : Nat} {N : Cube} (h : ∀ v i j, N v i j ≤ M) : total g w N ≤ many g w M := by
  unfold total many
  rw [← sumN_const]
  refine sumN_le fun v _ => ?_
  rw [← sumN_const]
  refine sumN_le fun i _ => ?_
  rw [← sumN_const]
  exact sumN_le fun j _ => h v i j
theorem rnds_out {g : Gram} {w : List Int} {M : Nat} {k v i j : Nat} (h : ¬ ((v : Int) < g.vars ∧ i ≤ j ∧ j ≤ w.length)) : rnds g w M k v i j = 0 := by
  cases k with
  | zero => rfl
  | succ k => show rnd g w M _ v i j = 0; unfold rnd; rw [if_neg h]
theorem sumN_lt {f g : Nat → Nat} {n k : Nat} (hk : k < n) (h : ∀ x, x < n → f x ≤ g x) (hl : f k < g k) : sumN n f < sumN n g := by
  induction n with
  | zero => omega
  | succ n ih =>
    simp only [sumN]
    by_cases e : k = n
    · subst e
      have := sumN_le (f := f) (g := g) (n := k) (fun x hx => h x (by omega))
      omega
    · have := ih (by omega) (fun x hx => h x (by omega))
      have := h n (by omega)
      omega
theorem total_lt {g : Gram} {w : List Int} {M k : Nat} (h : rnds g w M (k + 1) ≠ rnds g w M k) : total g w (rnds g w M k) < total g w (rnds g w M (k + 1)) := by
  have hup := rnds_up (g := g) (w := w) (M := M) k
  have : ∃ v i j, rnds g w M k v i j ≠ rnds g w M (k + 1) v i j := Classical.byContradiction fun hn => h (by
    funext v i j
    exact Classical.byContradiction fun hne => hn ⟨v, i, j, fun e => hne e.symm⟩)
  obtain ⟨v, i, j, hne⟩ := this
  have hlt : rnds g w M k v i j < rnds g w M (k + 1) v i j := by have := hup v i j; omega
  have hin : (v : Int) < g.vars ∧ i ≤ j ∧ j ≤ w.length := Classical.byContradiction fun hn => by
    rw [rnds_out hn, rnds_out hn] at hlt; omega
  unfold total
  refine sumN_lt (k := v) (by omega) (fun x _ => sumN_le fun y _ => sumN_le fun z _ => hup x y z) ?_
  refine sumN_lt (k := i) (by omega) (fun y _ => sumN_le fun z _ => hup v y z) ?_
  exact sumN_lt (k := j) (by omega) (fun z _ => hup v i z) hlt
theorem rnds_stay {g : Gram} {w : List Int} {M k : Nat} (h : rnds g w M (k + 1) = rnds g w M k) : ∀ m, rnds g w M (k + m) = rnds g w M k
  | 0 => rfl
  | m + 1 => by
    show rnd g w M (rnds g w M (k + m)) = _
    rw [rnds_stay h m]; exact h
theorem rnds_total {g : Gram} {w : List Int} {M : Nat} : ∀ k, rnds g w M (k + 1) ≠ rnds g w M k → k < total g w (rnds g w M (k + 1))
  | 0, h => by have := total_lt h; omega
  | k + 1, h => by
    have h1 : rnds g w M (k + 1) ≠ rnds g w M k := fun e => h (by
      show rnd g w M (rnds g w M (k + 1)) = rnd g w M (rnds g w M k)
      rw [e])
    have := rnds_total k h1
    have := total_lt h
    omega
/-- While something comes there are not so many rounds. -/
theorem rnds_more {g : Gram} {w : List Int} {M k : Nat} (h : rnds g w M (k + 1) ≠ rnds g w M k) : k < many g w M :=
  Nat.lt_of_lt_of_le (rnds_total k h) (total_le (fun v i j => rnds_le (k + 1) v i j))
theorem wcns_fix (g : Gram) (w : List Int) (M : Nat) : rnd g w M (wcns g w M) = wcns g w M := Classical.byContradiction fun h => by
  have := rnds_more (g := g) (w := w) (M := M) (k := many g w M) h
  omega
theorem wcns_le (g : Gram) (w : List Int) (M v i j : Nat) : wcns g w M v i j ≤ M := rnds_le _ v i j
theorem wcns_in {g : Gram} {w : List Int} {M v i j : Nat} (h1 : (v : Int) < g.vars) (h2 : i ≤ j) (h3 : j ≤ w.length) : wcns g w M v i j = min M (allR g (wcns g w M) w v i j) := by
  conv => lhs; rw [← wcns_fix]
  unfold rnd; rw [if_pos ⟨h1, h2, h3⟩]
end Go.Proofs.Yticnpbopelgmiaa
