/-
  Sim: short, the reference: ShortOf.
-/
import Derived.Test.YtkfeccbahpmadaaShortD
import Derived.Test.YtkfeccbahpmadaaFactsL
import Derived.Test.YtkfeccbahpmadaaGramC
set_option linter.unusedVariables false
set_option linter.unusedSimpArgs false
set_option linter.unusedSectionVars false
namespace Go.Proofs.Ytkfeccbahpmadaa
open Go.RowKit
set_option maxRecDepth 100000
-- SimX

theorem knD_start (g : Gram) (n : Nat) : knD g (List.replicate n false) = List.replicate n (.raw (.slice none 0 0)) := by
  refine List.ext_getElem (by simp [knD]) fun k h1 h2 => ?_
  have hk : k < n := by simpa using h2
  simp [knD, List.getD_eq_getElem?_getD, hk]
theorem cpL_holes' : ∀ (k : Nat), cpL (holes k) = k
  | 0 => rfl
  | k + 1 => by
    unfold holes at *
    rw [List.range_succ, List.map_append, cpL_append]
    have := cpL_holes' k
    unfold holes at this
    rw [this]
    simp [cpL, cpF]
theorem wayF_cp (g : Gram) : ∀ w : List Int, cpL (wayF g w) = fszs (wayF g w)
  | [] => rfl
  | [r] => by simp [wayF, nodeF, cpL, cpF, fszs, fsz, cpL_holes', fszs_holes]
  | r :: r2 :: rest => by
    rw [wayF]
    simp only [cpL, cpF, fszs, fsz, true_or, if_true, wayF_cp g (r2 :: rest)]
/-- A way's template, from one rule on. -/
def wayFrom (g : Gram) (w : List Int) (j : Nat) : List Frag := wayF g (w.drop j)
theorem wayFrom_last {g : Gram} {w : List Int} (h : 0 < w.length) : wayFrom g w (w.length - 1) = nodeF (w[w.length - 1]'(by omega)) (kN g (w[w.length - 1]'(by omega))) := by
  unfold wayFrom
  rw [List.drop_eq_getElem_cons (by omega), List.drop_of_length_le (by omega), wayF]
theorem wayFrom_step {g : Gram} {w : List Int} {j : Nat} (h : j + 1 < w.length) : wayFrom g w j = [.mk 1 w[j] (wayFrom g w (j + 1))] := by
  unfold wayFrom
  rw [List.drop_eq_getElem_cons (show j < w.length by omega), wayF_cons g _ (fun hh => by have h2 := congrArg List.length hh; rw [List.length_drop] at h2; simp at h2; omega)]
theorem lastW_at {w : List Int} (h : 0 < w.length) : lastW w = w[w.length - 1]'(by omega) := by
  unfold lastW
  rw [List.getLastD_eq_getLast?, List.getLast?_eq_getElem?, List.getElem?_eq_getElem (by omega)]; rfl
theorem wayFrom_size {g : Gram} {w : List Int} : ∀ {j : Nat}, j < w.length → (∀ r, kN g r ≤ 10) → fszs (wayFrom g w j) ≤ w.length - j + 10 := by
  intro j hj hk
  induction hd : w.length - j using Nat.strongRecOn generalizing j with
  | _ d ih =>
  by_cases h : j + 1 < w.length
  · rw [wayFrom_step h]
    have := ih (w.length - (j + 1)) (by omega) h rfl
    simp only [fszs, fsz]; omega
  · have hj2 : j = w.length - 1 := by omega
    subst hj2
    rw [wayFrom_last (by omega), nodeF_size]
    have := hk (w[w.length - 1]'(by omega))
    omega
theorem ways_in {g : Gram} : ∀ (n : Nat) (v : Int) (w : List Int), w ∈ wys g n v → ∀ x ∈ w, ∃ k, ∃ _ : k < g.rules.length, x = ((k : Nat) : Int)
  | 0, v, w, h => by simp [wys] at h
  | n + 1, v, w, h => by
    rw [wys] at h
    obtain ⟨i, hi, hw⟩ := List.mem_flatMap.1 h
    obtain ⟨k, hk, e, _⟩ := by_mem.1 hi
    split at hw
    · rw [List.mem_singleton] at hw; subst hw
      intro x hx
      rw [List.mem_singleton] at hx; subst hx
      exact ⟨k, hk, e⟩
    · obtain ⟨y, hy, rfl⟩ := List.mem_map.1 hw
      intro x hx
      rcases List.mem_cons.1 hx with rfl | hx
      · exact ⟨k, hk, e⟩
      · exact ways_in n _ y hy x hx
theorem kN_le {g : Gram} (hg : g.ok) (r : Int) : kN g r ≤ 10 := by
  unfold kN rightAt
  have h1 := kids_le (g.rules.getD r.toNat ⟨0, []⟩).right
  rw [List.getD_eq_getElem?_getD] at *
  by_cases h : r.toNat < g.rules.length
  · rw [List.getElem?_eq_getElem h] at *
    have := hg.right _ (List.getElem_mem h)
    simp only [Option.getD_some] at *
    omega
  · rw [List.getElem?_eq_none (by omega)] at *
    simp [kids]
abbrev rfBox (g : Gram) (r f : Nat) : Ob := .box 31 [.d (iD g.vars), .d (iD g.terms), .d (iD g.start), .own 902 r, .own 903 f, .d nilT]
set_option maxHeartbeats 4000000 in
theorem shortOf_sim {g : Gram} (hf : g.fit) :
    ACalls Try.prog 22 [.d (gramD false g)] [] (.tup [.d (stepD false (shortS g).1), .d (faultD (shortS g).2)]) [] := by
  refine ACalls.intro (n := 136) Try.func22 rfl rfl (by simp) (by rfl) ?_
  simp only [argFr]
  have hgf := gramFault_sim (t := false) hf.rules hf.right
  by_cases hc : (gramFault g).code = 0
  rotate_left
  · rw [show shortS g = (zeroStep, gramFault g) by rw [shortS, if_neg hc]]
    generalize gramFault g = gf at *
    repeat (first | refine wk ?_ | refine s_field (hr := ?_))
    refine s_call [] (hA := hgf) (hr := ?_)
    repeat (first | refine wk ?_ | refine s_field (hr := ?_))
    exact fin2
  have hg := gram_ok hc
  have hfz := hg.fault
  rw [hfz] at hgf
  have hcy := cyclicOf_sim (t := false) hg
  have hce : selfN (ledM false g) g.vars.toNat = cycL g := by unfold cycL; rw [if_pos hc]
  rw [hce] at hcy
  have hcl : (cycL g).length ≤ 100000000 := by
    have h1 := hg.vars
    unfold cycL selfN
    rw [if_pos hc, List.length_map]
    have h2 := List.length_filter_le (fun (v : Nat) => has (rowM (ledM false g) v) v) (List.range g.vars.toNat)
    rw [List.length_range] at h2
    omega
  by_cases hn : 0 < (cycL g).length
  · rw [show shortS g = (zeroStep, ⟨10, -1⟩) by rw [shortS, if_pos hc, if_pos hn]]
    generalize cycL g = cl at *
    repeat (first | refine wk ?_ | refine s_field (hr := ?_))
    refine s_call [] (hA := hgf) (hr := ?_)
    repeat (first | refine wk ?_ | refine s_field (hr := ?_))
    refine s_call [] (hA := hcy) (hr := ?_)
    repeat (first | refine wk ?_ | refine s_field (hr := ?_))
    refine s_call [] (hA := f_sim (a := 10) (b := -1)) (hr := ?_)
    repeat (first | refine wk ?_ | refine s_field (hr := ?_))
    exact fin2
  have hcn : cycL g = [] := List.length_eq_zero_iff.1 (by omega)
  rw [hcn] at hcy
  have hv1 := hg.vars1
  have hv2 := hg.vars
  have hv0 : g.vars = ((g.vars.toNat : Nat) : Int) := by omega
  have hbr := bare_sim (t := false) (g := g)
  repeat (first | refine wk ?_ | refine s_field (hr := ?_))
  refine s_call [] (hA := hgf) (hr := ?_)
  repeat (first | refine wk ?_ | refine s_field (hr := ?_))
  refine s_call [] (hA := hcy) (hr := ?_)
  repeat (first | refine wk ?_ | refine s_field (hr := ?_))
  refine s_call [] (hA := hbr) (hr := ?_)
  repeat (first | refine wk ?_ | refine s_field (hr := ?_))
  refine aw_nilCell 5 3 902 41 2 rfl rfl rfl rfl ?_
  refine aw_nilCell 5 4 903 89 1 rfl rfl rfl rfl ?_
  have hks := knD_start g g.vars.toNat
  refine t_loop (X := Nat × List Bool) (fun x => x.1 ≤ g.vars.toNat ∧ x.2.length = g.vars.toNat ∧ (srules g x.1).length ≤ 160 ∧ ∀ u, u < x.1 → sgood g u = true)
    (fun x => [(8, I x.1), (7, .own 35 g.vars.toNat), (6, .own 32 g.vars.toNat), (5, .ptr 5 0), (3, .ptr 3 0), (2, .ptr 2 0), (1, .ptr 1 0)])
    (fun x => [(5, rfBox g (srules g x.1).length (sfrags g x.1).length), (902, .row 41 2 ((srules g x.1).map (ruleD false))), (903, .row 89 1 ((sfrags g x.1).map (fragsD false))), (32, .row 106 1 (knD g x.2)), (35, .row 4 1 (x.2.map bD)), (1, gramBox false g), (2, stepBox false zeroStep), (3, .box 33 [.d (iD 0), .d (iD 0)])]) (fun x => g.vars.toNat - x.1) (0, List.replicate g.vars.toNat false) ⟨Nat.zero_le _, List.length_replicate, by simp [srules], fun u h => by omega⟩ ?_ (hh := ?_)
  rotate_left
  · exact ⟨.of rfl, .of rfl, .of rfl, row_eq rfl hks.symm, row_eq rfl (by simp; exact .inr rfl), .of rfl, box_le rfl ⟨.refl _, .refl _, .refl _, .nil _ _, .nil _ _, .nil _ _, trivial⟩, .of rfl, trivial⟩
  rintro ⟨v, dn⟩ ⟨j1, j2, j3, j4⟩
  dsimp only at j1 j2 j3 j4 ⊢
  have hfl := sfr_len g v
  by_cases hlt : (v : Int) < g.vars
  rotate_left
  · obtain rfl : v = g.vars.toNat := by omega
    rw [show shortS g = (⟨⟨g.vars, g.terms, g.start, srules g g.vars.toNat⟩, sfrags g g.vars.toNat, []⟩, ⟨0, 0⟩) by rw [shortS, if_pos hc, if_neg hn, find_none j4]; rfl]
    refine aw_froz 902 rfl ?_
    refine aw_froz 903 rfl ?_
    repeat (first | refine wk ?_ | refine s_field (hr := ?_))
    exact fin2
  have hwo := waysOf_gen hg hcn 65 v dn false (by have := rnk_le hg (v := (v : Int)) (by omega) hlt; omega) hlt j2
  have hdl := refM_len g 65 v dn
  have hbd : ∀ w ∈ ways g (v : Int), 0 < w.length ∧ w.length ≤ 100 ∧ ∀ x ∈ w, ∃ k, ∃ _ : k < g.rules.length, x = ((k : Nat) : Int) := fun w hw => by
    have h1 := wys_len _ _ _ hw
    have h2 := rnk_le hg (v := (v : Int)) (by omega) hlt
    have h3 : w ≠ [] := by
      have h4 := hw
      rw [ways_eq hg hcn (by omega) hlt] at h4
      obtain ⟨k, _, hk⟩ := List.mem_flatMap.1 h4
      exact wayOf_ne hk
    exact ⟨List.length_pos_iff.2 h3, by omega, ways_in _ _ _ hw⟩
  have hs1 := srules_succ g v
  have hs2 := sfrags_succ g v
  have hsg : sgood g v = (decide ((srules g v).length + (ways g v).length ≤ 160) && (ways g v).all fun w => decide (fszs (wayF g w) ≤ 60)) := rfl
  simp only [wH, wD] at hwo
  generalize refM g 65 v dn = dz at *
  generalize srules g v = R0 at *
  generalize sfrags g v = F0 at *
  by_cases hbig : 160 < ((ways g (v : Int)).take 161).length + R0.length
  · have hbad : sgood g v = false := by
      rw [List.length_take] at hbig
      rw [hsg, decide_eq_false (by omega)]; rfl
    rw [show shortS g = (zeroStep, ⟨6, v⟩) by rw [shortS, if_pos hc, if_neg hn, find_some (by omega) j4 hbad]]
    have hWl : ((ways g (v : Int)).take 161).length ≤ 161 := by rw [List.length_take]; omega
    generalize (ways g (v : Int)).take 161 = WW at *
    repeat (first | refine wk ?_ | refine s_field (hr := ?_))
    refine s_call [(1001, 32), (1002, 35)] (hA := hwo) (hr := ?_)
    repeat (first | refine wk ?_ | refine s_field (hr := ?_))
    refine s_call [] (hA := f_sim (a := 6) (b := (v : Int))) (hr := ?_)
    repeat (first | refine wk ?_ | refine s_field (hr := ?_))
    exact fin2
  have hfull : (ways g (v : Int)).take 161 = ways g (v : Int) := List.take_of_length_le (by rw [List.length_take] at hbig; omega)
  rw [hfull] at hwo hbig
  generalize ways g (v : Int) = B0 at *
  repeat (first | refine wk ?_ | refine s_field (hr := ?_))
  refine s_call [(1001, 32), (1002, 35)] (hA := hwo) (hr := ?_)
  repeat (first | refine wk ?_ | refine s_field (hr := ?_))
  --@
  refine t_loop (X := Nat) (fun i => i ≤ B0.length ∧ ∀ j (h : j < B0.length), j < i → fszs (wayF g B0[j]) ≤ 60)
    (fun i => [(10, I i), (9, .d (.sl false 1 (B0.map (ints false)))), (8, I v), (7, .own 35 g.vars.toNat), (6, .own 32 g.vars.toNat), (5, .ptr 5 0), (3, .ptr 3 0), (2, .ptr 2 0), (1, .ptr 1 0)])
    (fun i => [(5, rfBox g (R0 ++ (B0.take i).map (ruleW g v)).length (F0 ++ (B0.take i).map (wayF g)).length), (902, .row 41 2 ((R0 ++ (B0.take i).map (ruleW g v)).map (ruleD false))), (903, .row 89 1 ((F0 ++ (B0.take i).map (wayF g)).map (fragsD false))), (32, .row 106 1 (knD g dz)), (35, .row 4 1 (dz.map bD)), (1, gramBox false g), (2, stepBox false zeroStep), (3, .box 33 [.d (iD 0), .d (iD 0)])]) (fun i => B0.length - i) 0 ⟨Nat.zero_le _, fun _ _ h => by omega⟩ ?_ (hh := ?_)
  rotate_left
  · exact ⟨box_eq rfl (by simp), row_eq rfl (by simp), row_eq rfl (by simp), .of rfl, .of rfl, .of rfl, .of rfl, .of rfl, trivial⟩
  rintro i ⟨i1, i2⟩
  by_cases hlt2 : i < B0.length
  · obtain ⟨w0, w1, w2⟩ := hbd _ (List.getElem_mem hlt2)
    have ex : ((B0[i].length : Nat) : Int) - 1 = ((B0[i].length - 1 : Nat) : Int) := by omega
    obtain ⟨k, hk, ek⟩ := w2 _ (List.getElem_mem (show B0[i].length - 1 < B0[i].length by omega))
    have hrr := hg.right _ (List.getElem_mem hk)
    have hkl := kids_le g.rules[k].right
    have hko := kidsOf_sim (t := false) (xs := g.rules[k].right) (by omega)
    have hpl := plain_sim (r := B0[i][B0[i].length - 1]) (k := (kids g.rules[k].right).length) (by omega)
    repeat (first | refine wk ?_ | refine s_field (hr := ?_))
    --@
    refine s_call [(3, 905)] (hA := hko) (hr := ?_)
    repeat (first | refine wk ?_ | refine s_field (hr := ?_))
    refine s_call [(22, 105)] (hA := hpl) (hr := ?_)
    repeat (first | refine wk ?_ | refine s_field (hr := ?_))
    have hrk : rightAt g (B0[i][B0[i].length - 1]) = g.rules[k].right := by rw [ek]; exact rightAt_nat hk
    have hlast : wayFrom g B0[i] (B0[i].length - 1) = nodeF (B0[i][B0[i].length - 1]) (kids g.rules[k].right).length := by rw [wayFrom_last w0]; unfold kN; rw [hrk]
    have hsz := fun j (hj : j < B0[i].length) => wayFrom_size (g := g) (w := B0[i]) hj (kN_le hg)
    have hone : ∀ j, j < B0[i].length → (wayFrom g B0[i] j).length = 1 := fun j hj => by
      by_cases h : j + 1 < B0[i].length
      · rw [wayFrom_step h]; rfl
      · rw [show j = B0[i].length - 1 by omega, hlast]; rfl
    have hlR : (R0 ++ (B0.take i).map (ruleW g v)).length ≤ 160 := by rw [List.length_append, List.length_map, List.length_take]; omega
    have hlF : (F0 ++ (B0.take i).map (wayF g)).length ≤ 160 := by rw [List.length_append, List.length_map, List.length_take]; omega
    generalize hQR : R0 ++ (B0.take i).map (ruleW g v) = QR at *
    generalize hQF : F0 ++ (B0.take i).map (wayF g) = QF at *
    refine t_loop (X := Nat) (fun j => j < B0[i].length)
      (fun j => [(13, I ((j : Int) - 1)), (12, .own 105 1), (11, .d (iD (B0[i][B0[i].length - 1]))), (10, I i), (9, .d (.sl false 1 (B0.map (ints false)))), (8, I v), (7, .own 35 g.vars.toNat), (6, .own 32 g.vars.toNat), (5, .ptr 5 0), (3, .ptr 3 0), (2, .ptr 2 0), (1, .ptr 1 0)])
      (fun j => [(105, .row 91 3 ((wayFrom g B0[i] j).map (fragD false))), (5, rfBox g QR.length QF.length), (902, .row 41 2 (QR.map (ruleD false))), (903, .row 89 1 (QF.map (fragsD false))), (32, .row 106 1 (knD g dz)), (35, .row 4 1 (dz.map bD)), (1, gramBox false g), (2, stepBox false zeroStep), (3, .box 33 [.d (iD 0), .d (iD 0)])]) (fun j => j) (B0[i].length - 1) (by omega) ?_ (hf := ?_) (hh := ?_)
    rotate_left
    · exact ⟨int_eq rfl (by omega), .of rfl, .of rfl, .of rfl, .of rfl, .of rfl, .of rfl, .of rfl, .of rfl, .of rfl, .of rfl, .of rfl, trivial⟩
    · exact ⟨row_eq rfl (by rw [hlast]), .of rfl, .of rfl, .of rfl, .of rfl, .of rfl, .of rfl, .of rfl, .of rfl, trivial⟩
    intro j hj
    have h1 := hone j hj
    have hszj := hsz j hj
    refine aw_froz 105 rfl ?_
    refine aw_re 12 (v := .d (fragsD false (wayFrom g B0[i] j))) (Co.froz rfl (by simp [h1])) rfl ?_
    refine aw_weak [(13, I ((j : Int) - 1)), (12, .d (fragsD false (wayFrom g B0[i] j))), (11, .d (iD (B0[i][B0[i].length - 1]))), (10, I i), (9, .d (.sl false 1 (B0.map (ints false)))), (8, I v), (7, .own 35 g.vars.toNat), (6, .own 32 g.vars.toNat), (5, .ptr 5 0), (3, .ptr 3 0), (2, .ptr 2 0), (1, .ptr 1 0)] [(5, rfBox g QR.length QF.length), (902, .row 41 2 (QR.map (ruleD false))), (903, .row 89 1 (QF.map (fragsD false))), (32, .row 106 1 (knD g dz)), (35, .row 4 1 (dz.map bD)), (1, gramBox false g), (2, stepBox false zeroStep), (3, .box 33 [.d (iD 0), .d (iD 0)])] (by repeat' (first | exact trivial | exact VLe.refl _ | exact HElt.of rfl | refine And.intro ?_ ?_)) (by repeat' (first | exact trivial | exact VLe.refl _ | exact HElt.of rfl | refine And.intro ?_ ?_)) rfl ?_
    by_cases hj0 : 1 ≤ j
    · have ej : (j : Int) - 1 = ((j - 1 : Nat) : Int) := by omega
      have hst := wayFrom_step (g := g) (w := B0[i]) (j := j - 1) (by omega)
      simp only [show j - 1 + 1 = j by omega] at hst
      have e : [D.agg [iD 1, iD (B0[i][j - 1]), fragsD false (wayFrom g B0[i] j)]] = (wayFrom g B0[i] (j - 1)).map (fragD false) := by rw [hst]; simp only [List.map_cons, List.map_nil, fragA_eq]; rfl
      generalize wayFrom g B0[i] j = WJ at *
      repeat (first | refine wk ?_ | refine s_field (hr := ?_))
      exact t_next (j - 1) (a := by omega) (b := by omega) (c := ⟨int_eq rfl (by omega), .of rfl, .of rfl, .of rfl, .of rfl, .of rfl, .of rfl, .of rfl, .of rfl, .of rfl, .of rfl, .of rfl, trivial⟩) (d := ⟨row_eq rfl e, .of rfl, .of rfl, .of rfl, .of rfl, .of rfl, .of rfl, .of rfl, .of rfl, trivial⟩)
    · obtain rfl : j = 0 := by omega
      have hw0 : wayFrom g B0[i] 0 = wayF g B0[i] := rfl
      rw [hw0]
      rw [hw0] at hszj
      have hcp := countedParts_sim (t := false) (l := wayF g B0[i]) (by omega)
      rw [wayF_cp] at hcp
      by_cases h60 : 60 < fszs (wayF g B0[i])
      · have hbad : sgood g v = false := by
          rw [hsg, Bool.and_eq_false_iff]
          refine .inr ?_
          cases hall : B0.all (fun w => decide (fszs (wayF g w) ≤ 60)) with
          | false => rfl
          | true => have := of_decide_eq_true (List.all_eq_true.1 hall _ (List.getElem_mem hlt2)); omega
        rw [show shortS g = (zeroStep, ⟨6, v⟩) by rw [shortS, if_pos hc, if_neg hn, find_some (by omega) j4 hbad]]
        repeat (first | refine wk ?_ | refine s_field (hr := ?_))
        refine s_call [] (hA := hcp) (hr := ?_)
        repeat (first | refine wk ?_ | refine s_field (hr := ?_))
        refine s_call [] (hA := f_sim (a := 6) (b := (v : Int))) (hr := ?_)
        repeat (first | refine wk ?_ | refine s_field (hr := ?_))
        exact fin2
      · repeat (first | refine wk ?_ | refine s_field (hr := ?_))
        refine s_call [] (hA := hcp) (hr := ?_)
        repeat (first | refine wk ?_ | refine s_field (hr := ?_))
        refine s_call [(6, 907)] (hA := ownInts_sim (t := false) (xs := g.rules[k].right) (by omega)) (hr := ?_)
        repeat (first | refine wk ?_ | refine s_field (hr := ?_))
        have htk := List.take_succ_eq_append_getElem hlt2
        have hQR2 : R0 ++ (B0.take (i + 1)).map (ruleW g v) = QR ++ [ruleW g v B0[i]] := by rw [htk, List.map_append, ← List.append_assoc, hQR]; rfl
        have hQF2 : F0 ++ (B0.take (i + 1)).map (wayF g) = QF ++ [wayF g B0[i]] := by rw [htk, List.map_append, ← List.append_assoc, hQF]; rfl
        have hrw : ruleW g v B0[i] = ⟨v, g.rules[k].right⟩ := by unfold ruleW; rw [lastW_at w0, hrk]
        have e1 : QR.map (ruleD false) ++ [D.agg [.raw (.int .i64 v), .sl false 1 (g.rules[k].right.map iD)]] = (R0 ++ (B0.take (i + 1)).map (ruleW g v)).map (ruleD false) := by rw [hQR2, hrw, List.map_append]; rfl
        have e2 : QF.map (fragsD false) ++ [fragsD false (wayF g B0[i])] = (F0 ++ (B0.take (i + 1)).map (wayF g)).map (fragsD false) := by rw [hQF2, List.map_append]; rfl
        have l1 := congrArg List.length e1
        have l2 := congrArg List.length e2
        rw [List.length_map (ruleD false)] at l1
        rw [List.length_map (fragsD false)] at l2
        exact t_next (i + 1) (a := ⟨by omega, fun j hj hji => by rcases Nat.lt_succ_iff_lt_or_eq.1 hji with h | h; exact i2 j hj h; subst h; omega⟩) (d := ⟨box_eq rfl (by rw [l1, l2]), row_eq rfl e1, row_eq rfl e2, .of rfl, .of rfl, .of rfl, .of rfl, .of rfl, trivial⟩)
  · have hie : i = B0.length := by omega
    subst hie
    have hgood : sgood g v = true := by
      rw [hsg, decide_eq_true (by omega), Bool.true_and, List.all_eq_true]
      intro w hw
      obtain ⟨j, hj, rfl⟩ := List.getElem_of_mem hw
      exact decide_eq_true (i2 j hj hj)
    rw [List.take_length, ← hs1, ← hs2]
    have hlen : (srules g (v + 1)).length ≤ 160 := by rw [hs1, List.length_append, List.length_map]; omega
    repeat (first | refine wk ?_ | refine s_field (hr := ?_))
    exact t_next (v + 1, dz) (a := ⟨by dsimp only; omega, by dsimp only; omega, hlen, fun u hu => by rcases Nat.lt_succ_iff_lt_or_eq.1 hu with h | h; exact j4 u h; rw [h]; exact hgood⟩) (b := by dsimp only; omega)
end Go.Proofs.Ytkfeccbahpmadaa
