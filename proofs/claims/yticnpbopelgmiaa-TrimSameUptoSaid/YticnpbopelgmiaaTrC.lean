/-
  Sim: trim.Make. Sim: the reference's TrimOf.
-/
import Derived.Test.YticnpbopelgmiaaTrA
import Derived.Test.YticnpbopelgmiaaSplitG
set_option linter.unusedVariables false
set_option linter.unusedSimpArgs false
set_option linter.unusedSectionVars false
namespace Go.Proofs.Yticnpbopelgmiaa
open Go.RowKit
set_option maxRecDepth 100000

theorem sub_any {g : Gram} {r : Rule} (hr : r ∈ g.rules) : (subG g).rules.any (fun x => decide (x = r)) = (has (goodB g) g.start && rOk (goodB g) r) := by
  rw [Bool.eq_iff_iff, List.any_eq_true]
  simp only [subG, Bool.and_eq_true, decide_eq_true_eq]
  constructor
  · rintro ⟨x, h1, rfl⟩
    split at h1
    · rename_i hs; exact ⟨hs, (List.mem_filter.1 h1).2⟩
    · cases h1
  · rintro ⟨h1, h2⟩
    rw [if_pos h1]
    exact ⟨r, List.mem_filter.2 ⟨hr, h2⟩, rfl⟩
theorem bad_list {g : Gram} (hg : g.ok) (hs : ¬ has (goodB g) g.start = true) : listB (keepT g) = [g.start] := by
  have h1 : ((listB (keepT g)).length : Int) = 1 := congrArg Gram.vars (bad_out hg hs)
  have h2 : g.start ∈ listB (keepT g) := listB_mem.2 (keep_start hg)
  match hl : listB (keepT g), h1, h2 with
  | [x], _, h2 => rw [List.mem_singleton.1 h2]
theorem subG_good {g : Gram} (hs : has (goodB g) g.start = true) : subG g = ⟨g.vars, g.terms, g.start, g.rules.filter (rOk (goodB g))⟩ := by rw [subG, if_pos hs]; rfl
theorem subG_bad {g : Gram} (hs : ¬ has (goodB g) g.start = true) : subG g = ⟨g.vars, g.terms, g.start, []⟩ := by rw [subG, if_neg hs]
theorem filter_ok {g : Gram} (hg : g.ok) (p : Rule → Bool) : (⟨g.vars, g.terms, g.start, g.rules.filter p⟩ : Gram).ok := by
  have hl := List.length_filter_le p g.rules
  have := hg.rules
  exact ⟨hg.vars1, hg.vars, hg.terms0, hg.terms, hg.start0, hg.start, by dsimp only; omega, fun r hr => hg.right r (List.mem_filter.1 hr).1, fun r hr => hg.left0 r (List.mem_filter.1 hr).1, fun r hr => hg.left r (List.mem_filter.1 hr).1, fun r hr => hg.lo r (List.mem_filter.1 hr).1, fun r hr => hg.hi r (List.mem_filter.1 hr).1⟩
theorem Gram.ok.code {g : Gram} (hg : g.ok) : (gramFault g).code = 0 := by rw [hg.fault]
theorem stay_eq {g : Gram} {r : Rule} (hr : r ∈ g.rules) : stay g r = ((subG g).rules.any (fun x => decide (x = r)) && has (keepT g) r.left) := by
  rw [sub_any hr, stay, Bool.and_assoc]
abbrev tmF (i n : Nat) (rs : List Rule) (ks : List Int) : Fr := [(60, I i), (59, I n), (58, .d (rulesD false rs)), (2, .ptr 2 0), (3, .ptr 3 0), (6, .ptr 6 0), (7, .d (ints false ks)), (9, .ptr 9 0)]
abbrev tmH (g : Gram) (S : List Rule) (n : Nat) (s : Int) (R : List Rule) (F : List (List Frag)) : Hp := [(2, stepBox false zeroStep), (3, .box 33 [.d (iD 0), .d (iD 0)]), (6, .box 24 [.d (iD g.vars), .d (iD g.terms), .d (iD g.start), .d (rulesD false S)]),
  (9, .box 31 [.d (iD n), .d (iD g.terms), .d (iD s), .own 901 R.length, .own 902 F.length, .d nilT]), (901, .row 41 2 (R.map (ruleD false))), (902, .row 65 1 (F.map (fragsD false)))]
set_option maxHeartbeats 4000000 in
theorem trimMake_sim {g : Gram} (hf : g.fit) :
    ACalls Try.prog 28 [.d (gramD false g)] [] (.tup [.d (stepD false (trimS g).1), .d (faultD (trimS g).2)]) [] := by
  refine ACalls.intro (n := 122) Try.func28 rfl rfl (by simp) (by rfl) ?_
  simp only [argFr]
  have hr1 := hf.rules
  have hr2 := hf.right
  have hp := productive_sim (t := false) hf
  by_cases hc : (gramFault g).code = 0
  rotate_left
  · rw [show goodL g = [] by rw [goodL, if_neg hc]] at hp
    rw [show trimS g = (zeroStep, gramFault g) by rw [trimS, if_neg hc]]
    repeat (first | refine wk ?_)
    refine s_callf [] (hA := hp) (hr := ?_)
    repeat (first | refine wk ?_)
    exact fin2
  have hg := gram_ok hc
  rw [show trimS g = (trimOut g, ⟨0, 0⟩) by rw [trimS, if_pos hc]]
  rw [show goodL g = listB (goodB g) by rw [goodL, if_pos hc]; rfl] at hp
  have hK : (goodB g).length ≤ 64 := by
    have h1 := leftsOf_len (t := true) hg
    have h2 := hg.vars
    show (leftsOf true g).length ≤ 64
    omega
  have hKl := listB_le (goodB g)
  have ho := only_sim (K := goodB g) hg (by omega)
  have hfo := filter_ok hg (rOk (goodB g))
  have hre := reachable_sim (t := false) hfo.fit
  rw [hfo.fault, show reachL ⟨g.vars, g.terms, g.start, g.rules.filter (rOk (goodB g))⟩ = listB (reachOf ⟨g.vars, g.terms, g.start, g.rules.filter (rOk (goodB g))⟩) by rw [reachL, if_pos hfo.code]] at hre
  have hco := contains_sim (t := false) (xs := listB (goodB g)) (v := g.start) (by omega)
  rw [any_listB] at hco
  have hN : (onlyN (goodB g) g.rules 0).length ≤ g.rules.length := onlyN_le _ _ _
  have hR : (g.rules.filter (rOk (goodB g))).length ≤ g.rules.length := List.length_filter_le _ _
  generalize onlyN (goodB g) g.rules 0 = N0 at ho hN
  have hsg : has (goodB g) g.start = true → subG g = ⟨g.vars, g.terms, g.start, g.rules.filter (rOk (goodB g))⟩ ∧ keepT g = reachOf ⟨g.vars, g.terms, g.start, g.rules.filter (rOk (goodB g))⟩ := fun h => ⟨subG_good h, by rw [keepT, subG_good h]⟩
  have hkl2 := listB_le (reachOf ⟨g.vars, g.terms, g.start, g.rules.filter (rOk (goodB g))⟩)
  have hkl3 := reachOf_len ⟨g.vars, g.terms, g.start, g.rules.filter (rOk (goodB g))⟩
  generalize g.rules.filter (rOk (goodB g)) = R0 at *
  generalize reachOf ⟨g.vars, g.terms, g.start, R0⟩ = K0 at *
  obtain ⟨ks, hks⟩ : ∃ ks, ks = listB K0 := ⟨_, rfl⟩
  obtain ⟨gs, hgs⟩ : ∃ gs, gs = listB (goodB g) := ⟨_, rfl⟩
  rw [← hks] at hre
  rw [← hgs] at hp ho hco
  repeat (first | refine wk ?_)
  refine s_callf [] (hA := hp) (hr := ?_)
  repeat (first | refine wk ?_)
  refine s_callf [] (hA := ho) (hr := ?_)
  repeat (first | refine wk ?_)
  refine s_callf [] (hA := hre) (hr := ?_)
  repeat (first | refine wk ?_)
  generalize hb : has (goodB g) g.start = b at hco
  refine s_callf [] (hA := hco) (hr := ?_)
  have hkk0 : ∀ v, has (keepT g) v = true → ACalls Try.prog 79 [.d (ints false (listB (keepT g))), I v] [] (I (rk (keepT g) v)) [] := fun v hv => by
    have h := index_sim (t := false) (xs := listB (keepT g)) (v := v) (by have := listB_le (keepT g); have := keep_len g; have := hg.vars; omega)
    rwa [idx_rk hv] at h
  have hkc0 : ∀ v, ACalls Try.prog 78 [.d (ints false (listB (keepT g))), I v] [] (B (has (keepT g) v)) [] := fun v => by
    have h := contains_sim (t := false) (xs := listB (keepT g)) (v := v) (by have := listB_le (keepT g); have := keep_len g; have := hg.vars; omega)
    rwa [any_listB] at h
  have hks2 := keep_start hg
  have hix := hkk0 _ hks2
  have hT0 : tRules g [] = [] := rfl
  cases b with
  | true =>
    obtain ⟨e1, e2⟩ := hsg hb
    have e3 : ks = listB (keepT g) := by rw [hks, e2]
    have e4 : R0 = (subG g).rules := by rw [e1]
    rw [e3, e4]
    clear hks e3 e4 e1 e2 hsg hre ho
    have hkl : (listB (keepT g)).length ≤ 64 := by have := listB_le (keepT g); have := keep_len g; have := hg.vars; omega
    generalize hkk : listB (keepT g) = kk at *
    repeat (first | refine wk ?_)
    refine s_callf [] (hA := hix) (hr := ?_)
    repeat (first | refine wk ?_)
    refine aw_nilCell 9 3 901 41 2 rfl rfl rfl rfl ?_
    refine aw_nilCell 9 4 902 65 1 rfl rfl rfl rfl ?_
    refine t_loop (X := Nat) (fun i => i ≤ g.rules.length) (fun i => tmF i g.rules.length g.rules kk) (fun i => tmH g (subG g).rules kk.length (rk (keepT g) g.start) (tRules g (g.rules.take i)) (tFrags g (g.rules.take i) 0)) (fun i => g.rules.length - i) 0 (Nat.zero_le _) ?_
    intro i hi
    by_cases hlt : i < g.rules.length
    · have hmem := List.getElem_mem hlt
      have hrr := hg.right _ hmem
      have e1 := tRules_snoc (g := g) hlt
      have e2 := tFrags_snoc (g := g) hlt
      have hst := stay_eq hmem
      have hkeep := keep_goes hg hmem
      have l1 : (tRules g (g.rules.take i)).length ≤ i := by
        rw [tRules, List.length_map]
        exact Nat.le_trans (List.length_filter_le _ _) (by simp; omega)
      have l2 : (tFrags g (g.rules.take i) 0).length ≤ i := by rw [tLen]; exact l1
      have hcc := hkc0 g.rules[i].left
      have hii := hkk0 g.rules[i].left
      have hany := containsFuncR_sim (t := false) (clos := 81) (caps := [.ptr 1000 0]) (H := [(1000, ruleBox false g.rules[i])]) (xs := (subG g).rules) (p := fun x => decide (x = g.rules[i])) ⟨rfl, rfl, rfl, rfl, trivial⟩ (fun x hx => make1_sim (by have := (subG_ok hg).right x hx; omega) (by omega)) (by have := (subG_ok hg).rules; omega)
      have hr160 := hg.rules
      generalize (subG g).rules = S at *
      generalize S.any (fun x => decide (x = g.rules[i])) = b1 at hst hany
      generalize tRules g (g.rules.take i) = TR at *
      generalize tFrags g (g.rules.take i) 0 = TF at *
      generalize hb2 : has (keepT g) g.rules[i].left = b2 at *
      repeat (first | refine wk ?_)
      refine s_callf [(1000, 11)] (hA := hany) (hr := ?_)
      cases b1 with
      | false =>
        rw [hst, Bool.false_and, if_neg (by decide), List.append_nil] at e1 e2
        repeat (first | refine wk ?_)
        rw [← e1, ← e2]
        exact t_next (i + 1)
      | true =>
        repeat (first | refine wk ?_)
        refine s_callf [] (hA := hcc) (hr := ?_)
        cases b2 with
        | false =>
          rw [hst, Bool.true_and, if_neg (by decide), List.append_nil] at e1 e2
          repeat (first | refine wk ?_)
          rw [← e1, ← e2]
          exact t_next (i + 1)
        | true =>
          have hs1 : stay g g.rules[i] = true := by rw [hst]; rfl
          rw [hs1, if_pos rfl] at e1 e2
          have hkeep := hkeep hs1
          repeat (first | refine wk ?_)
          refine s_callf [] (hA := hii rfl) (hr := ?_)
          repeat (first | refine wk ?_)
          refine aw_nilCell 12 1 916 3 1 rfl rfl rfl rfl ?_
          have et : trimR (keepT g) g.rules[i] = ⟨rk (keepT g) g.rules[i].left, g.rules[i].right.map (trimS1 (keepT g))⟩ := rfl
          rw [et] at e1
          clear hany hcc hii hst hs1 et
          generalize g.rules[i] = r at *
          refine t_loop (X := Nat) (fun j => j ≤ r.right.length) (fun j => (85, I j) :: (84, I r.right.length) :: (83, .d (ints false r.right)) :: (10, I i) :: (11, .ptr 11 0) :: (12, .ptr 12 0) :: tmF i g.rules.length g.rules kk)
            (fun j => (11, ruleBox false r) :: (12, .box 41 [.d (iD (rk (keepT g) r.left)), .own 916 j]) :: (916, .row 3 1 (((r.right.take j).map (trimS1 (keepT g))).map iD)) :: tmH g S kk.length (rk (keepT g) g.start) TR TF) (fun j => r.right.length - j) 0 (Nat.zero_le _) ?_
          intro j hj
          have hlm : ((r.right.take j).map (trimS1 (keepT g))).length = j := by simp; omega
          by_cases hjl : j < r.right.length
          · have e3 : (r.right.take (j + 1)).map (trimS1 (keepT g)) = (r.right.take j).map (trimS1 (keepT g)) ++ [trimS1 (keepT g) r.right[j]] := by
              rw [List.take_succ_eq_append_getElem hjl, List.map_append]; rfl
            by_cases hx : r.right[j] ≥ 0
            · have e4 : trimS1 (keepT g) r.right[j] = rk (keepT g) r.right[j] := by rw [trimS1, if_pos hx]
              have hix2 := hkk0 r.right[j] (hkeep _ (by simp [kids, hx]))
              rw [e4] at e3
              have e := e3
              repeat (first | refine wk ?_)
              refine s_callf [] (hA := hix2) (hr := ?_)
              repeat (first | refine wk ?_)
              exact t_next (j + 1)
            · have e4 : trimS1 (keepT g) r.right[j] = r.right[j] := by rw [trimS1, if_neg hx]
              rw [e4] at e3
              have e := e3
              repeat (first | refine wk ?_)
              exact t_next (j + 1)
          · obtain rfl : j = r.right.length := by omega
            rw [List.take_length]
            have hrl : (r.right.map (trimS1 (keepT g))).length = r.right.length := List.length_map _
            have hkl2 := kids_le r.right
            rw [List.take_length] at hlm
            generalize r.right.map (trimS1 (keepT g)) = rr at *
            repeat (first | refine wk ?_)
            refine s_call [(3, 917)] (hA := kids_sim) (hr := ?_)
            repeat (first | refine wk ?_)
            refine s_call [(20, 918)] (hA := node_sim) (hr := ?_)
            repeat (first | refine wk ?_)
            have f1 : TR.map (ruleD false) ++ [D.agg [iD (rk (keepT g) r.left), ints false rr]] = (tRules g (g.rules.take (i + 1))).map (ruleD false) := by rw [e1]; simp [ruleD]
            have f2 : TF.map (fragsD false) ++ [fragsD false (nodeF i (kids r.right).length)] = (tFrags g (g.rules.take (i + 1)) 0).map (fragsD false) := by rw [e2]; simp
            rw [f1, f2]
            exact t_next (i + 1)
    · obtain rfl : i = g.rules.length := by omega
      rw [List.take_length]
      have eo : trimOut g = ⟨⟨(kk.length : Nat), g.terms, rk (keepT g) g.start, tRules g g.rules⟩, tFrags g g.rules 0, []⟩ := by rw [trimOut, hkk]
      rw [eo]
      generalize tRules g g.rules = TR at *
      generalize tFrags g g.rules 0 = TF at *
      refine aw_froz 901 rfl ?_
      refine aw_froz 902 rfl ?_
      repeat (first | refine wk ?_)
      exact fin2
  | false =>
    have e3 := bad_list hg (by rw [hb]; decide)
    have e4 : (subG g).rules = [] := by rw [subG_bad (g := g) (by rw [hb]; decide)]
    have hkl : (listB (keepT g)).length ≤ 64 := by have := listB_le (keepT g); have := keep_len g; have := hg.vars; omega
    clear hks hsg hre ho
    iterate 16 (refine wk1 ?_)
    refine aw_froz 45 rfl ?_
    refine aw_re 7 (v := .d (ints false [g.start])) (Co.froz rfl (by simp)) rfl ?_
    rw [← e3]
    refine aw_weak [(7, .d (ints false (listB (keepT g)))), (1, .ptr 1 0), (2, .ptr 2 0), (3, .ptr 3 0), (6, .ptr 6 0)] [(1, gramBox false g), (2, stepBox false zeroStep), (3, .box 33 [.d (iD 0), .d (iD 0)]), (6, .box 24 [.d (iD g.vars), .d (iD g.terms), .d (iD g.start), .d (rulesD false (subG g).rules)])] ?_ ?_ rfl ?_
    · exact ⟨VLe.refl _, VLe.refl _, VLe.refl _, VLe.refl _, VLe.refl _, trivial⟩
    · rw [e4]
      exact ⟨.of rfl, box_le rfl ⟨.refl _, .refl _, .refl _, .nil _ _, .nil _ _, .nil _ _, trivial⟩, .of rfl, box_le rfl ⟨.refl _, .refl _, .refl _, .nil _ _, trivial⟩, trivial⟩
    generalize hkk : listB (keepT g) = kk at *
    repeat (first | refine wk ?_)
    refine s_callf [] (hA := hix) (hr := ?_)
    repeat (first | refine wk ?_)
    refine aw_nilCell 9 3 901 41 2 rfl rfl rfl rfl ?_
    refine aw_nilCell 9 4 902 65 1 rfl rfl rfl rfl ?_
    refine t_loop (X := Nat) (fun i => i ≤ g.rules.length) (fun i => tmF i g.rules.length g.rules kk) (fun i => tmH g (subG g).rules kk.length (rk (keepT g) g.start) (tRules g (g.rules.take i)) (tFrags g (g.rules.take i) 0)) (fun i => g.rules.length - i) 0 (Nat.zero_le _) ?_
    intro i hi
    by_cases hlt : i < g.rules.length
    · have hmem := List.getElem_mem hlt
      have hrr := hg.right _ hmem
      have e1 := tRules_snoc (g := g) hlt
      have e2 := tFrags_snoc (g := g) hlt
      have hst := stay_eq hmem
      have hkeep := keep_goes hg hmem
      have l1 : (tRules g (g.rules.take i)).length ≤ i := by
        rw [tRules, List.length_map]
        exact Nat.le_trans (List.length_filter_le _ _) (by simp; omega)
      have l2 : (tFrags g (g.rules.take i) 0).length ≤ i := by rw [tLen]; exact l1
      have hcc := hkc0 g.rules[i].left
      have hii := hkk0 g.rules[i].left
      have hany := containsFuncR_sim (t := false) (clos := 81) (caps := [.ptr 1000 0]) (H := [(1000, ruleBox false g.rules[i])]) (xs := (subG g).rules) (p := fun x => decide (x = g.rules[i])) ⟨rfl, rfl, rfl, rfl, trivial⟩ (fun x hx => make1_sim (by have := (subG_ok hg).right x hx; omega) (by omega)) (by have := (subG_ok hg).rules; omega)
      have hr160 := hg.rules
      generalize (subG g).rules = S at *
      generalize S.any (fun x => decide (x = g.rules[i])) = b1 at hst hany
      generalize tRules g (g.rules.take i) = TR at *
      generalize tFrags g (g.rules.take i) 0 = TF at *
      generalize hb2 : has (keepT g) g.rules[i].left = b2 at *
      repeat (first | refine wk ?_)
      refine s_callf [(1000, 11)] (hA := hany) (hr := ?_)
      cases b1 with
      | false =>
        rw [hst, Bool.false_and, if_neg (by decide), List.append_nil] at e1 e2
        repeat (first | refine wk ?_)
        rw [← e1, ← e2]
        exact t_next (i + 1)
      | true =>
        repeat (first | refine wk ?_)
        refine s_callf [] (hA := hcc) (hr := ?_)
        cases b2 with
        | false =>
          rw [hst, Bool.true_and, if_neg (by decide), List.append_nil] at e1 e2
          repeat (first | refine wk ?_)
          rw [← e1, ← e2]
          exact t_next (i + 1)
        | true =>
          have hs1 : stay g g.rules[i] = true := by rw [hst]; rfl
          rw [hs1, if_pos rfl] at e1 e2
          have hkeep := hkeep hs1
          repeat (first | refine wk ?_)
          refine s_callf [] (hA := hii rfl) (hr := ?_)
          repeat (first | refine wk ?_)
          refine aw_nilCell 12 1 916 3 1 rfl rfl rfl rfl ?_
          have et : trimR (keepT g) g.rules[i] = ⟨rk (keepT g) g.rules[i].left, g.rules[i].right.map (trimS1 (keepT g))⟩ := rfl
          rw [et] at e1
          clear hany hcc hii hst hs1 et
          generalize g.rules[i] = r at *
          refine t_loop (X := Nat) (fun j => j ≤ r.right.length) (fun j => (85, I j) :: (84, I r.right.length) :: (83, .d (ints false r.right)) :: (10, I i) :: (11, .ptr 11 0) :: (12, .ptr 12 0) :: tmF i g.rules.length g.rules kk)
            (fun j => (11, ruleBox false r) :: (12, .box 41 [.d (iD (rk (keepT g) r.left)), .own 916 j]) :: (916, .row 3 1 (((r.right.take j).map (trimS1 (keepT g))).map iD)) :: tmH g S kk.length (rk (keepT g) g.start) TR TF) (fun j => r.right.length - j) 0 (Nat.zero_le _) ?_
          intro j hj
          have hlm : ((r.right.take j).map (trimS1 (keepT g))).length = j := by simp; omega
          by_cases hjl : j < r.right.length
          · have e3 : (r.right.take (j + 1)).map (trimS1 (keepT g)) = (r.right.take j).map (trimS1 (keepT g)) ++ [trimS1 (keepT g) r.right[j]] := by
              rw [List.take_succ_eq_append_getElem hjl, List.map_append]; rfl
            by_cases hx : r.right[j] ≥ 0
            · have e4 : trimS1 (keepT g) r.right[j] = rk (keepT g) r.right[j] := by rw [trimS1, if_pos hx]
              have hix2 := hkk0 r.right[j] (hkeep _ (by simp [kids, hx]))
              rw [e4] at e3
              have e := e3
              repeat (first | refine wk ?_)
              refine s_callf [] (hA := hix2) (hr := ?_)
              repeat (first | refine wk ?_)
              exact t_next (j + 1)
            · have e4 : trimS1 (keepT g) r.right[j] = r.right[j] := by rw [trimS1, if_neg hx]
              rw [e4] at e3
              have e := e3
              repeat (first | refine wk ?_)
              exact t_next (j + 1)
          · obtain rfl : j = r.right.length := by omega
            rw [List.take_length]
            have hrl : (r.right.map (trimS1 (keepT g))).length = r.right.length := List.length_map _
            have hkl2 := kids_le r.right
            rw [List.take_length] at hlm
            generalize r.right.map (trimS1 (keepT g)) = rr at *
            repeat (first | refine wk ?_)
            refine s_call [(3, 917)] (hA := kids_sim) (hr := ?_)
            repeat (first | refine wk ?_)
            refine s_call [(20, 918)] (hA := node_sim) (hr := ?_)
            repeat (first | refine wk ?_)
            have f1 : TR.map (ruleD false) ++ [D.agg [iD (rk (keepT g) r.left), ints false rr]] = (tRules g (g.rules.take (i + 1))).map (ruleD false) := by rw [e1]; simp [ruleD]
            have f2 : TF.map (fragsD false) ++ [fragsD false (nodeF i (kids r.right).length)] = (tFrags g (g.rules.take (i + 1)) 0).map (fragsD false) := by rw [e2]; simp
            rw [f1, f2]
            exact t_next (i + 1)
    · obtain rfl : i = g.rules.length := by omega
      rw [List.take_length]
      have eo : trimOut g = ⟨⟨(kk.length : Nat), g.terms, rk (keepT g) g.start, tRules g g.rules⟩, tFrags g g.rules 0, []⟩ := by rw [trimOut, hkk]
      rw [eo]
      generalize tRules g g.rules = TR at *
      generalize tFrags g g.rules 0 = TF at *
      refine aw_froz 901 rfl ?_
      refine aw_froz 902 rfl ?_
      repeat (first | refine wk ?_)
      exact fin2
end Go.Proofs.Yticnpbopelgmiaa
namespace Go.Proofs.Yticnpbopelgmiaa
open Go.RowKit
set_option maxRecDepth 100000

end Go.Proofs.Yticnpbopelgmiaa
