/-
  Sim: factor.Make.
-/
import Derived.Test.YtgcagjamjdnglaaFactorC
set_option linter.unusedVariables false
set_option linter.unusedSimpArgs false
set_option linter.unusedSectionVars false
namespace Go.Proofs.Ytgcagjamjdnglaa
open Go.RowKit
set_option maxRecDepth 100000
-- SimX

theorem Fac.next_inv {V : Nat} {all : List (List Work)} {v : Nat} {r : Except Nat (List (List Work))} (h : Fac V all v r) (hv : v < all.length) (hg : groupW (all.getD v []) 0 = []) : Fac V all (v + 1) r := by
  cases h with
  | done h => exact absurd hv h
  | next _ _ hr => exact hr
  | many _ h _ => exact absurd hg h
  | one _ h _ _ => exact absurd hg h
theorem Fac.many_inv {V : Nat} {all : List (List Work)} {v : Nat} {r : Except Nat (List (List Work))} (h : Fac V all v r) (hv : v < all.length) (hg : groupW (all.getD v []) 0 ≠ []) (hm : 64 < (oneW V all v (groupW (all.getD v []) 0)).length) : r = .error v := by
  cases h with
  | done h => exact absurd hv h
  | next _ h _ => exact absurd h hg
  | many _ _ _ => rfl
  | one _ _ h _ => exact absurd hm h
theorem Fac.one_inv {V : Nat} {all : List (List Work)} {v : Nat} {r : Except Nat (List (List Work))} (h : Fac V all v r) (hv : v < all.length) (hg : groupW (all.getD v []) 0 ≠ []) (hm : ¬ 64 < (oneW V all v (groupW (all.getD v []) 0)).length) : Fac V (oneW V all v (groupW (all.getD v []) 0)) v r := by
  cases h with
  | done h => exact absurd hv h
  | next _ h _ => exact absurd h hg
  | many _ _ h => exact absurd h hm
  | one _ _ _ hr => exact hr
theorem Fac.done_inv {V : Nat} {all : List (List Work)} {v : Nat} {r : Except Nat (List (List Work))} (h : Fac V all v r) (hv : ¬ v < all.length) : r = .ok all := by
  cases h with
  | done _ => rfl
  | next h _ _ => exact absurd h hv
  | many h _ _ => exact absurd h hv
  | one h _ _ _ => exact absurd h hv
def Wide (all : List (List Work)) : Prop := ∀ l ∈ all, l.length ≤ 160
theorem Wide.get {all : List (List Work)} (h : Wide all) (v : Nat) : (all.getD v []).length ≤ 160 := by
  rw [List.getD_eq_getElem?_getD]
  by_cases hv : v < all.length
  · rw [List.getElem?_eq_getElem hv]; exact h _ (List.getElem_mem hv)
  · rw [List.getElem?_eq_none (by omega)]; simp
theorem Wide.one {V : Nat} {all : List (List Work)} {v : Nat} {at_ : List Int} (h : Wide all) : Wide (oneW V all v at_) := by
  intro l hl
  have hv := h.get v
  rcases List.mem_append.1 hl with hl | hl
  · rcases List.mem_or_eq_of_mem_set hl with hl | rfl
    · exact h l hl
    · exact Nat.le_trans (leftsW_le _ _) hv
  · rw [List.mem_singleton.1 hl, List.length_map]
    exact Nat.le_trans (samesW_le _ _) hv
theorem by_len (g : Gram) (v : Int) : (by_ g v).length ≤ g.rules.length := byR_le v g.rules 0
theorem start_wide {g : Gram} (hg : g.ok) : Wide (startW g) := by
  intro l hl
  obtain ⟨v, _, rfl⟩ := List.mem_map.1 hl
  have := by_len g v
  have := hg.rules
  rw [worksAt, List.length_map]; omega
/-- What is left of the last loop. -/
def finC (z : List (List Work)) (v : Nat) (l : List Work) (R : List Rule) (F : List (List Frag)) : Except Nat (List Rule × List (List Frag)) := match finL v l R F with
  | none => .error v
  | some x => finW (z.drop (v + 1)) (v + 1) x.1 x.2
theorem finW_at {z : List (List Work)} {v : Nat} (h : v < z.length) (R : List Rule) (F : List (List Frag)) : finW (z.drop v) v R F = finC z v z[v] R F := by
  rw [List.drop_eq_getElem_cons h, finW, finC]
  cases finL v z[v] R F <;> rfl
theorem finC_nil (z : List (List Work)) (v : Nat) (R : List Rule) (F : List (List Frag)) : finC z v [] R F = finW (z.drop (v + 1)) (v + 1) R F := by rw [finC, finL]
theorem finC_many {z : List (List Work)} {v : Nat} {l : List Work} {i : Nat} (h : i < l.length) {R : List Rule} {F : List (List Frag)} (hm : R.length = 160 ∨ 10 < l[i].right.length) : finC z v (l.drop i) R F = .error v := by
  rw [finC, List.drop_eq_getElem_cons h, finL, if_pos hm]
theorem finC_step {z : List (List Work)} {v : Nat} {l : List Work} {i : Nat} (h : i < l.length) {R : List Rule} {F : List (List Frag)} (hm : ¬ (R.length = 160 ∨ 10 < l[i].right.length)) : finC z v (l.drop i) R F = finC z v (l.drop (i + 1)) (R ++ [⟨(v : Int), l[i].right⟩]) (F ++ [l[i].l]) := by
  rw [finC, List.drop_eq_getElem_cons h, finL, if_neg hm, finC]
abbrev facBx (g : Gram) (n : Nat) : Ob := .box 97 [.d (iD g.vars), .d (iD g.terms), .d (iD g.start), .d (rulesD false g.rules), .own 901 n]
abbrev fmH (g : Gram) (all : List (List Work)) : Hp := [(1, gramBox false g), (2, stepBox false zeroStep), (3, .box 33 [.d (iD 0), .d (iD 0)]), (25, facBx g all.length), (901, .row 98 1 (all.map (worksD false)))]
abbrev fmF : Fr := [(1, .ptr 1 0), (2, .ptr 2 0), (3, .ptr 3 0), (5, .ptr 25 0)]
set_option maxHeartbeats 8000000 in
theorem factorMake_sim {g : Gram} (hf : g.fit) {r : Except Nat (List (List Work))} (hr : (gramFault g).code = 0 → Fac g.vars.toNat (startW g) 0 r) :
    ACalls Try.prog 21 [.d (gramD false g)] [] (.tup [.d (stepD false (factorS g r).1), .d (faultD (factorS g r).2)]) [] := by
  refine ACalls.intro (n := 155) Try.func21 rfl rfl (by simp) (by rfl) ?_
  simp only [argFr]
  have hr1 := hf.rules
  have hr2 := hf.right
  repeat (first | refine wk ?_ | refine s_field (hr := ?_))
  refine s_call [] (hA := gramCheck_sim) (hr := ?_)
  by_cases hc : (gramFault g).code = 0
  rotate_left
  · rw [show factorS g r = (zeroStep, gramFault g) by rw [factorS, if_neg hc]]
    repeat (first | refine wk ?_ | refine s_field (hr := ?_))
    exact fin2
  have hr := hr hc
  have hg := gram_ok hc
  rw [show factorS g r = factorEnd g r by rw [factorS, if_pos hc]]
  have hv := hg.vars
  have hv1 := hg.vars1
  have hr160 := hg.rules
  have hI := start_inv hg
  have hW := start_wide hg
  have hSl := startW_length g
  obtain ⟨N, hN⟩ : ∃ N : Nat, g.vars = (N : Int) := ⟨g.vars.toNat, by omega⟩
  have hNt : g.vars.toNat = N := by omega
  rw [hNt] at hSl
  repeat (first | refine wk ?_ | refine s_field (hr := ?_))
  refine aw_nilCell 25 4 901 98 1 rfl rfl rfl rfl ?_
  refine t_loop (X := Nat) (fun v => v ≤ N) (fun v => (28, I v) :: (27, .d (iD g.vars)) :: fmF) (fun v => fmH g ((startW g).take v)) (fun v => N - v) 0 (Nat.zero_le _) ?_
  · intro v hvN
    have htl : ((startW g).take v).length = v := by simp; omega
    by_cases hvl : v < N
    · have hsn : (startW g).take (v + 1) = (startW g).take v ++ [worksAt g v] := by
        have e := startW_get (g := g) (v := v) (by omega)
        rw [List.getD_eq_getElem?_getD, List.getElem?_eq_getElem (by omega)] at e
        rw [List.take_succ_eq_append_getElem (by omega)]
        congr 2
      have hbl := by_len g (v : Int)
      have hby := fun r hr => by_at (g := g) (v := v) (r := r) hr
      repeat (first | refine wk ?_ | refine s_field (hr := ?_))
      refine s_call [(5, 933)] (hA := by_sim) (hr := ?_)
      repeat (first | refine wk ?_ | refine s_field (hr := ?_))
      have hwk : worksAt g v = (by_ g v).map fun r => ⟨(ruleAt g r).right, nodeF r (kids (ruleAt g r).right).length⟩ := rfl
      rw [hwk] at hsn
      generalize by_ g v = bs at *
      generalize (startW g).take v = SW at *
      generalize hmk : (fun r => (⟨(ruleAt g r).right, nodeF r (kids (ruleAt g r).right).length⟩ : Work)) = mk at *
      refine aw_nil 7 907 102 2 rfl rfl rfl ?_
      refine t_loop (X := Nat) (fun j => j ≤ bs.length) (fun j => (35, I j) :: (34, I bs.length) :: (33, .own 933 bs.length) :: (7, .own 907 ((bs.take j).map mk).length) :: (6, I v) :: (28, I v) :: (27, .d (iD g.vars)) :: fmF)
        (fun j => (933, .row 3 1 (bs.map iD)) :: (907, .row 102 2 (((bs.take j).map mk).map (workD false))) :: fmH g SW) (fun j => bs.length - j) 0 (Nat.zero_le _) ?_
      intro j hj
      have hTl : ((bs.take j).map mk).length = j := by simp; omega
      by_cases hjl : j < bs.length
      · obtain ⟨m, hm, hbm, _, hra⟩ := hby _ (List.getElem_mem hjl)
        have hrm := hg.right _ (List.getElem_mem hm)
        have hkl := kids_le g.rules[m].right
        have hfk := fkids_sim (t := false) (xs := g.rules[m].right) (by omega)
        have hno := node_sim (r := bs[j]) (k := (kids g.rules[m].right).length) (by omega)
        have hmkj : mk bs[j] = ⟨g.rules[m].right, nodeF bs[j] (kids g.rules[m].right).length⟩ := by rw [← hmk]; simp only [hra]
        have e1 : ((bs.take j).map mk).map (workD false) ++ [D.agg [ints false g.rules[m].right, fragsD false (nodeF bs[j] (kids g.rules[m].right).length)]] = ((bs.take (j + 1)).map mk).map (workD false) := by
          rw [List.take_succ_eq_append_getElem hjl, List.map_append, List.map_append]; simp [hmkj, workD]
        generalize (bs.take j).map mk = WK at *
        repeat (first | refine wk ?_ | refine s_field (hr := ?_))
        refine s_callf [] (hA := hfk) (hr := ?_)
        repeat (first | refine wk ?_ | refine s_field (hr := ?_))
        refine s_callf [(20, 921)] (hA := hno) (hr := ?_)
        repeat (first | refine wk ?_ | refine s_field (hr := ?_))
        rw [e1]
        exact t_next (j + 1)
      · obtain rfl : j = bs.length := by omega
        rw [List.take_length]
        have e1 : SW.map (worksD false) ++ [worksD false (bs.map mk)] = ((startW g).take (v + 1)).map (worksD false) := by rw [hsn]; simp
        have e2 : ((startW g).take (v + 1)).length = SW.length + 1 := by rw [hsn]; simp
        generalize bs.map mk = WK at *
        repeat (first | refine wk ?_ | refine s_field (hr := ?_))
        rw [e1, List.length_map]
        exact t_next (v + 1)
    · obtain rfl : N = v := by omega
      have hall : (startW g).take N = startW g := List.take_of_length_le (by omega)
      rw [hall]
      clear htl hall
      rw [hNt] at hr
      repeat (first | refine wk ?_ | refine s_field (hr := ?_))
      refine t_loop (X := Nat × List (List Work)) (fun x => Fac N x.2 x.1 r ∧ FInv g x.2 x.1 ∧ Wide x.2 ∧ x.1 ≤ x.2.length) (fun x => (10, I x.1) :: fmF) (fun x => fmH g x.2) (fun x => 65 - x.1) (0, startW g) ⟨hr, hI, hW, Nat.zero_le _⟩ ?_
      rintro ⟨v, all⟩ ⟨k1, k2, k3, k4⟩
      dsimp only at k1 k2 k3 k4 ⊢
      have kl := k2.len
      by_cases hva : v < all.length
      · repeat (first | refine wk ?_ | refine s_field (hr := ?_))
        refine t_loop (X := List (List Work)) (fun x => Fac N x v r ∧ FInv g x v ∧ Wide x ∧ v < x.length) (fun x => (10, I v) :: fmF) (fun x => fmH g x) (fun x => (x.getD v []).length) all ⟨k1, k2, k3, hva⟩ ?_
        clear k1 k2 k3 k4 kl hva
        rintro all ⟨k1, k2, k3, hva⟩
        have kl := k2.len
        by_cases hgr : groupW (all.getD v []) 0 = []
        · have hone := one_no (v := v) hva k2 k3 hgr
          repeat (first | refine wk ?_ | refine s_field (hr := ?_))
          refine s_call [(1000, 25), (1001, 901)] (hA := hone) (hr := ?_)
          repeat (first | refine wk ?_ | refine s_field (hr := ?_))
          exact t_next (v + 1, all) (a := ⟨k1.next_inv hva hgr, k2.next hgr, k3, by dsimp only; omega⟩) (b := by dsimp only; omega)
        · have hone := one_yes (v := v) hg hva k2 k3 hgr
          have hlen := oneW_length N all v (groupW (all.getD v []) 0)
          have hwide := k3.one (V := N) (v := v) (at_ := groupW (all.getD v []) 0)
          rw [hNt] at hone
          by_cases hm : 64 < (oneW N all v (groupW (all.getD v []) 0)).length
          · have hre := k1.many_inv hva hgr hm
            rw [hre, show factorEnd g (.error v) = (zeroStep, ⟨6, (v : Nat)⟩) from rfl]
            generalize oneW N all v (groupW (all.getD v []) 0) = A at *
            repeat (first | refine wk ?_ | refine s_field (hr := ?_))
            refine s_call [(1000, 25), (1001, 901)] (hA := hone) (hr := ?_)
            repeat (first | refine wk ?_ | refine s_field (hr := ?_))
            exact fin2
          · have hf2 := k1.one_inv hva hgr hm
            have hi2 := k2.one hg hva hgr (by rw [hNt]; exact hm)
            rw [hNt] at hi2
            generalize oneW N all v (groupW (all.getD v []) 0) = A at *
            repeat (first | refine wk ?_ | refine s_field (hr := ?_))
            refine s_call [(1000, 25), (1001, 901)] (hA := hone) (hr := ?_)
            repeat (first | refine wk ?_ | refine s_field (hr := ?_))
            exact t_next A (a := ⟨hf2, hi2.1, hwide, by omega⟩) (b := hi2.2)
      · have hre := k1.done_inv hva
        obtain rfl : v = all.length := by omega
        rw [hre]
        generalize all = z at *
        have hend : ∀ x, finW z 0 [] [] = x → factorEnd g (.ok z) = (match x with
          | .error v => (zeroStep, ⟨6, (v : Nat)⟩)
          | .ok x => (⟨⟨(z.length : Nat), g.terms, g.start, x.1⟩, x.2, []⟩, ⟨0, 0⟩)) := fun x hx => by
            rw [factorEnd]; simp only [hx]; cases x <;> rfl
        repeat (first | refine wk ?_ | refine s_field (hr := ?_))
        refine aw_nilCell 11 3 903 41 2 rfl rfl rfl rfl ?_
        refine aw_nilCell 11 4 904 86 1 rfl rfl rfl rfl ?_
        refine t_loop (X := Nat × List Rule × List (List Frag)) (fun x => x.1 ≤ z.length ∧ finW z 0 [] [] = finW (z.drop x.1) x.1 x.2.1 x.2.2 ∧ x.2.1.length ≤ 160 ∧ x.2.2.length = x.2.1.length)
          (fun x => [(107, I x.1), (106, I z.length), (105, .own 901 z.length), (11, .ptr 11 0), (2, .ptr 2 0), (3, .ptr 3 0)])
          (fun x => [(2, stepBox false zeroStep), (3, .box 33 [.d (iD 0), .d (iD 0)]), (901, .row 98 1 (z.map (worksD false))), (11, .box 31 [.d (iD (z.length : Nat)), .d (iD g.terms), .d (iD g.start), .own 903 x.2.1.length, .own 904 x.2.2.length, .d nilT]), (903, .row 41 2 (x.2.1.map (ruleD false))), (904, .row 86 1 (x.2.2.map (fragsD false)))])
          (fun x => z.length - x.1) (0, [], []) ⟨Nat.zero_le _, rfl, by simp, rfl⟩ ?_
        rintro ⟨v, R, F⟩ ⟨m1, m2, m3, m4⟩
        dsimp only at m1 m2 m3 m4 ⊢
        by_cases hvz : v < z.length
        · have hzl := k3 _ (List.getElem_mem hvz)
          have hzo := k2.ok _ (List.getElem_mem hvz)
          rw [finW_at hvz] at m2
          generalize hl : z[v] = l at *
          repeat (first | refine wk ?_ | refine s_field (hr := ?_))
          rw [hl]
          repeat (first | refine wk ?_ | refine s_field (hr := ?_))
          refine t_loop (X := Nat × List Rule × List (List Frag)) (fun x => x.1 ≤ l.length ∧ finW z 0 [] [] = finC z v (l.drop x.1) x.2.1 x.2.2 ∧ x.2.1.length ≤ 160 ∧ x.2.2.length = x.2.1.length)
            (fun x => [(114, I x.1), (113, I l.length), (112, .d (worksD false l)), (12, I v), (107, I v), (106, I z.length), (105, .own 901 z.length), (11, .ptr 11 0), (2, .ptr 2 0), (3, .ptr 3 0)])
            (fun x => [(2, stepBox false zeroStep), (3, .box 33 [.d (iD 0), .d (iD 0)]), (901, .row 98 1 (z.map (worksD false))), (11, .box 31 [.d (iD (z.length : Nat)), .d (iD g.terms), .d (iD g.start), .own 903 x.2.1.length, .own 904 x.2.2.length, .d nilT]), (903, .row 41 2 (x.2.1.map (ruleD false))), (904, .row 86 1 (x.2.2.map (fragsD false)))])
            (fun x => l.length - x.1) (0, R, F) ⟨Nat.zero_le _, m2, m3, m4⟩ ?_
          clear m1 m2 m3 m4
          rintro ⟨i, R, F⟩ ⟨m1, m2, m3, m4⟩
          dsimp only at m1 m2 m3 m4 ⊢
          by_cases hil : i < l.length
          · have hw := hzo _ (List.getElem_mem hil)
            have hwl := hw.len
            by_cases hmm : R.length = 160 ∨ 10 < l[i].right.length
            · rw [finC_many hil hmm] at m2
              rw [hend _ m2]
              dsimp only
              by_cases h160 : R.length = 160
              · (repeat (first | refine wkz ?_ | refine s_field (hr := ?_)))
                exact fin2
              · have h10 : 10 < l[i].right.length := by omega
                (repeat (first | refine wkz ?_ | refine s_field (hr := ?_)))
                exact fin2
            · rw [finC_step hil hmm] at m2
              have h160 : ¬ R.length = 160 := by omega
              have h10 : ¬ 10 < l[i].right.length := by omega
              have hcl := clone_sim (t := false) (xs := l[i].right) (by omega)
              have e1 : R.map (ruleD false) ++ [D.agg [D.raw (.int .i64 (v : Int)), ints false l[i].right]] = (R ++ [(⟨(v : Int), l[i].right⟩ : Rule)]).map (ruleD false) := by simp [ruleD, iD]
              have e2 : F.map (fragsD false) ++ [fragsD false l[i].l] = (F ++ [l[i].l]).map (fragsD false) := by simp
              repeat (first | refine wk ?_ | refine s_field (hr := ?_))
              refine s_callf [(5, 920)] (hA := hcl) (hr := ?_)
              repeat (first | refine wk ?_ | refine s_field (hr := ?_))
              rw [e1, e2, List.length_map, List.length_map]
              exact t_next (i + 1, R ++ [(⟨(v : Int), l[i].right⟩ : Rule)], F ++ [l[i].l]) (a := ⟨by dsimp only; omega, m2, by simp; omega, by simp; omega⟩)
          · obtain rfl : i = l.length := by omega
            rw [List.drop_length, finC_nil] at m2
            repeat (first | refine wk ?_ | refine s_field (hr := ?_))
            exact t_next (v + 1, R, F) (a := ⟨by dsimp only; omega, m2, m3, m4⟩)
        · obtain rfl : v = z.length := by omega
          rw [List.drop_length, finW] at m2
          rw [hend _ m2]
          dsimp only
          refine aw_froz 903 rfl ?_
          refine aw_froz 904 rfl ?_
          repeat (first | refine wk ?_ | refine s_field (hr := ?_))
          exact fin2
end Go.Proofs.Ytgcagjamjdnglaa
