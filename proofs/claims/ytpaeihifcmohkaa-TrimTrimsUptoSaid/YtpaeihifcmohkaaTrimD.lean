/-
  Sim: the reference's TrimOf.
-/
import Derived.Test.YtpaeihifcmohkaaTrimC
set_option linter.unusedVariables false
set_option linter.unusedSimpArgs false
set_option linter.unusedSectionVars false
namespace Go.Proofs.Ytpaeihifcmohkaa
open Go.RowKit
set_option maxRecDepth 100000

/-- The numbers of the first v of n nonterminals. -/
def numR (K : List Bool) (n v : Nat) : List Int := (List.range v).map (fun (k : Nat) => rk K (k : Int)) ++ List.replicate (n - v) 0
theorem numR_len (K : List Bool) {n v : Nat} (h : v ≤ n) : (numR K n v).length = n := by simp [numR]; omega
theorem numR_zero (K : List Bool) (n : Nat) : numR K n 0 = List.replicate n 0 := by simp [numR]
theorem numR_set (K : List Bool) {n v : Nat} (h : v < n) : (numR K n v).set v (rk K (v : Int)) = numR K n (v + 1) := by
  rw [numR, numR, List.set_append_right _ _ (by simp), List.range_succ, List.map_append, List.append_assoc]
  congr 1
  rw [show n - v = (n - (v + 1)) + 1 by omega, List.replicate_succ]
  simp
theorem numR_get (K : List Bool) {n v : Nat} (h : v < n) (h2 : v < (numR K n n).length) : (numR K n n)[v] = rk K (v : Int) := by
  simp only [numR]
  rw [List.getElem_append_left (by simpa using h)]; simp
theorem rk_le (K : List Bool) (v : Nat) : 0 ≤ rk K (v : Int) ∧ rk K (v : Int) ≤ v := by
  have h : (listN (setN K) v).length ≤ v := by
    unfold listN; rw [List.length_map]; exact Nat.le_trans (List.length_filter_le _ _) (by simp)
  unfold rk
  simp only [Int.toNat_natCast]; omega
set_option maxHeartbeats 4000000 in
theorem trimOf_sim {g : Gram} (hf : g.fit) :
    ACalls Try.prog 58 [.d (gramD false g)] [] (.tup [.d (stepD false (trimS g).1), .d (faultD (trimS g).2)]) [] := by
  refine ACalls.intro (n := 210) Try.func58 rfl rfl (by simp) (by rfl) ?_
  simp only [argFr]
  have hr1 := hf.rules
  have hr2 := hf.right
  repeat (first | refine wk ?_)
  refine s_call [] (hA := gramFault_sim) (hr := ?_)
  by_cases hc : (gramFault g).code = 0
  rotate_left
  · rw [show trimS g = (zeroStep, gramFault g) by rw [trimS, if_neg hc]]
    repeat (first | refine wk ?_)
    exact fin2
  have hg := gram_ok hc
  rw [show trimS g = (trimOut g, ⟨0, 0⟩) by rw [trimS, if_pos hc]]
  have hv := hg.vars
  have hv1 := hg.vars1
  have hs0 := hg.start0
  have hs1 := hg.start
  obtain ⟨N, hN⟩ : ∃ N : Nat, g.vars = (N : Int) := ⟨g.vars.toNat, by omega⟩
  have hNt : g.vars.toNat = N := by omega
  have hgo := goodOf_sim (t := false) hg
  have hGl : (goodB g).length = N := by rw [← hNt]; exact leftsOf_len (t := true) hg
  have hKl := keep_len g
  rw [hNt] at hgo hKl
  rw [show leftsOf true g = goodB g from rfl] at hgo
  have hst : ∀ r : Rule, stay g r = (has (goodB g) g.start && (rOk (goodB g) r && has (keepB g) r.left)) := fun _ => rfl
  have hre := reachedOf_sim (t := false) (subG_ok hg)
  rw [show (subG g).vars.toNat = N from hNt, show reachOf (subG g) = keepB g from rfl] at hre
  have hsub := fun h => subG_good (g := g) h
  have hbad := fun h => subG_bad (g := g) h
  have hkeep := fun (r : Rule) (hr : r ∈ g.rules) => keep_goes hg hr
  generalize goodB g = G at *
  repeat (first | refine wk ?_)
  refine s_call [(8, 905)] (hA := hgo) (hr := ?_)
  repeat (first | refine wk ?_)
  refine s_call [] (hA := bare_sim) (hr := ?_)
  repeat (first | refine wk ?_)
  refine aw_nilCell 6 3 906 44 2 rfl rfl rfl rfl ?_
  refine t_loop (X := Nat) (fun i => i ≤ g.rules.length) (fun i => [(7, I i), (5, .own 905 N), (6, .ptr 6 0), (1, .ptr 1 0), (2, .ptr 2 0), (3, .ptr 3 0)])
    (fun i => [(1, gramBox false g), (2, stepBox false zeroStep), (3, .box 25 [.d (iD 0), .d (iD 0)]), (6, .box 34 [.d (iD g.vars), .d (iD g.terms), .d (iD g.start), .own 906 ((g.rules.take i).filter (rOk G)).length]), (905, .row 4 1 (G.map bD)), (906, .row 44 2 (((g.rules.take i).filter (rOk G)).map (ruleD false)))]) (fun i => g.rules.length - i) 0 (Nat.zero_le _) ?_
  intro i hi
  by_cases hlt : i < g.rules.length
  · have hmem := List.getElem_mem hlt
    have e1 := onlyF_snoc (K := G) hlt
    have l1 : ((g.rules.take i).filter (rOk G)).length ≤ g.rules.length := Nat.le_trans (List.length_filter_le _ _) (by simp; omega)
    have hl0 := hg.left0 _ hmem
    have hl1 := hg.left _ hmem
    have hhi := hg.hi _ hmem
    have hrr := hg.right _ hmem
    have hkl := kids_le g.rules[i].right
    have hlk : g.rules[i].left = ((g.rules[i].left.toNat : Nat) : Int) := by omega
    have hlk2 : g.rules[i].left.toNat < G.length := by omega
    have hgt := has_get (is := G) hlk hlk2
    have hkx : ∀ x ∈ kids g.rules[i].right, x < G.length := fun x hx => by
      have := hhi x (List.mem_filter.1 hx).1; omega
    have hai := allIn_sim (t := true) (u := true) (xs := kids g.rules[i].right) (is := G) hkx (by omega) (by omega)
    have hro : rOk G g.rules[i] = (has G g.rules[i].left && inAll (kids g.rules[i].right) G) := rfl
    generalize inAll (kids g.rules[i].right) G = b2 at *
    generalize has G g.rules[i].left = b1 at *
    generalize (g.rules.take i).filter (rOk G) = TR at *
    cases b1 with
    | false =>
      rw [hro, Bool.false_and, if_neg (by decide), List.append_nil] at e1
      repeat (first | refine wk ?_)
      rw [← hgt]
      (repeat (first | refine wkz ?_ | refine s_field (hr := ?_)))
      rw [← e1]
      exact t_next (i + 1)
    | true =>
      repeat (first | refine wk ?_)
      rw [← hgt]
      repeat (first | refine wk ?_)
      refine s_call [(3, 910)] (hA := kidsOf_sim) (hr := ?_)
      repeat (first | refine wk ?_)
      refine s_call [] (hA := hai) (hr := ?_)
      cases b2 with
      | false =>
        rw [hro, Bool.true_and, if_neg (by decide), List.append_nil] at e1
        repeat (first | refine wk ?_)
        rw [← e1]
        exact t_next (i + 1)
      | true =>
        rw [hro, Bool.true_and, if_pos rfl] at e1
        have f1 : TR.map (ruleD false) ++ [ruleD false g.rules[i]] = ((g.rules.take (i + 1)).filter (rOk G)).map (ruleD false) := by rw [e1]; simp
        repeat (first | refine wk ?_)
        rw [show [D.agg [iD g.rules[i].left, ints false g.rules[i].right]] = [ruleD false g.rules[i]] from rfl, f1]
        exact t_next (i + 1)
  · obtain rfl : i = g.rules.length := by omega
    rw [List.take_length]
    have hsk : g.start = ((g.start.toNat : Nat) : Int) := by omega
    have hsk2 : g.start.toNat < G.length := by omega
    have hgt := has_get (is := G) hsk hsk2
    have l1 : (g.rules.filter (rOk G)).length ≤ g.rules.length := List.length_filter_le _ _
    have hai_ := True.intro
    cases hb0 : has G g.start with
    | true =>
      rw [hb0] at hgt
      rw [hsub hb0] at hre
      have hKl2 := hKl
      generalize hKp : keepB g = Kp at *
      repeat (first | refine wk ?_)
      rw [← hgt]
      repeat (first | refine wk ?_)
      refine s_callf [(10, 908)] (hA := hre) (hr := ?_)
      clear hre hai_ hsub hbad
      have e0 : List.replicate N (zeroD (.int .i64 0)) = (numR Kp N 0).map iD := by rw [numR_zero, List.map_replicate]; rfl
      repeat (first | refine wk ?_)
      rw [e0]
      refine t_loop (X := Nat) (fun v => v ≤ N) (fun v => [(11, I v), (10, I (rk Kp (v : Nat))), (9, .own 77 N), (8, .own 908 N), (5, .own 905 N), (1, .ptr 1 0), (2, .ptr 2 0), (3, .ptr 3 0)])
        (fun v => [(1, gramBox false g), (2, stepBox false zeroStep), (3, .box 25 [.d (iD 0), .d (iD 0)]), (905, .row 4 1 (G.map bD)), (908, .row 4 1 (Kp.map bD)), (77, .row 3 1 ((numR Kp N v).map iD))]) (fun v => N - v) 0 (Nat.zero_le _) ?_
      intro v hvN
      have hnl := numR_len Kp hvN
      have hrk := rk_le Kp v
      by_cases hvl : v < N
      · have e1 : ((numR Kp N v).map iD).set v (iD (rk Kp (v : Nat))) = (numR Kp N (v + 1)).map iD := by rw [← List.map_set, numR_set Kp hvl]
        have hnx := rk_next Kp v
        have hvk : v < Kp.length := by omega
        have hgv := has_get (is := Kp) (rfl : ((v : Nat) : Int) = (v : Int)) hvk
        rw [hgv] at hnx
        cases hb : Kp[v] with
        | true =>
          rw [hb, if_pos rfl] at hnx
          repeat (first | refine wk ?_)
          exact t_next (v + 1)
        | false =>
          rw [hb, if_neg (by decide)] at hnx
          repeat (first | refine wk ?_)
          exact t_next (v + 1)
      · obtain rfl : N = v := by omega
        have hsg := numR_get Kp (n := N) (v := g.start.toNat) (by omega) (by rw [hnl]; omega)
        rw [← hsk] at hsg
        have hrs := rk_le Kp g.start.toNat
        rw [← hsk] at hrs
        have hrN : ((trimOut g).g.vars : Int) = rk Kp (N : Nat) := by
          have h := rk_all (keepB g)
          rw [hKp, hKl] at h
          rw [h, ← hKp]; rfl
        repeat (first | refine wk ?_)
        rw [hsg]
        refine aw_nilCell 12 3 901 44 2 rfl rfl rfl rfl ?_
        refine aw_nilCell 12 4 902 97 1 rfl rfl rfl rfl ?_
        have hrNk := rk_le Kp N
        refine t_loop (X := Nat) (fun i => i ≤ g.rules.length) (fun i => [(13, I i), (12, .ptr 12 0), (9, .own 77 N), (8, .own 908 N), (5, .own 905 N), (1, .ptr 1 0), (2, .ptr 2 0), (3, .ptr 3 0)])
          (fun i => [(1, gramBox false g), (2, stepBox false zeroStep), (3, .box 25 [.d (iD 0), .d (iD 0)]), (905, .row 4 1 (G.map bD)), (908, .row 4 1 (Kp.map bD)), (77, .row 3 1 ((numR Kp N N).map iD)),
            (12, .box 50 [.d (iD (rk Kp (N : Nat))), .d (iD g.terms), .d (iD (rk Kp g.start)), .own 901 (tRules g (g.rules.take i)).length, .own 902 (tFrags g (g.rules.take i) 0).length, .d nilT]), (901, .row 44 2 ((tRules g (g.rules.take i)).map (ruleD false))), (902, .row 97 1 ((tFrags g (g.rules.take i) 0).map (fragsD false)))]) (fun i => g.rules.length - i) 0 (Nat.zero_le _) ?_
        intro i hi
        by_cases hlt : i < g.rules.length
        · have hmem := List.getElem_mem hlt
          have e1 := tRules_snoc (g := g) hlt
          have e2 := tFrags_snoc (g := g) hlt
          have l1 : (tRules g (g.rules.take i)).length ≤ i := by
            rw [tRules, List.length_map]
            exact Nat.le_trans (List.length_filter_le _ _) (by simp; omega)
          have l2 : (tFrags g (g.rules.take i) 0).length ≤ i := by rw [tLen]; exact l1
          have hr160 := hg.rules
          have hl0 := hg.left0 _ hmem
          have hl1 := hg.left _ hmem
          have hhi := hg.hi _ hmem
          have hrr := hg.right _ hmem
          have hkl := kids_le g.rules[i].right
          have hlk : g.rules[i].left = ((g.rules[i].left.toNat : Nat) : Int) := by omega
          have hlk2 : g.rules[i].left.toNat < G.length := by omega
          have hlk3 : g.rules[i].left.toNat < Kp.length := by omega
          have hgtl := has_get (is := G) hlk hlk2
          have hkpl := has_get (is := Kp) hlk hlk3
          have hkx : ∀ x ∈ kids g.rules[i].right, x < G.length := fun x hx => by
            have := hhi x (List.mem_filter.1 hx).1; omega
          have hkx2 : ∀ x ∈ kids g.rules[i].right, x < Kp.length := fun x hx => by
            have := hhi x (List.mem_filter.1 hx).1; omega
          have hai := allIn_sim (t := true) (u := true) (xs := kids g.rules[i].right) (is := G) hkx (by omega) (by omega)
          have hak := allIn_sim (t := true) (u := true) (xs := kids g.rules[i].right) (is := Kp) hkx2 (by omega) (by omega)
          have hsti := hst g.rules[i]
          have hro : rOk G g.rules[i] = (has G g.rules[i].left && inAll (kids g.rules[i].right) G) := rfl
          rw [hro, hb0, Bool.true_and] at hsti
          have hkp := hkeep _ hmem
          have hka : stay g g.rules[i] = true → inAll (kids g.rules[i].right) Kp = true := fun h => List.all_eq_true.2 (hkp h)
          rw [hKp] at e1
          generalize inAll (kids g.rules[i].right) G = b2 at *
          generalize inAll (kids g.rules[i].right) Kp = b4 at *
          generalize has G g.rules[i].left = b1 at *
          generalize has Kp g.rules[i].left = b3 at *
          generalize tRules g (g.rules.take i) = TR at *
          generalize tFrags g (g.rules.take i) 0 = TF at *
          repeat (first | refine wk ?_)
          refine s_call [(3, 910)] (hA := kidsOf_sim) (hr := ?_)
          repeat (first | refine wk ?_)
          rw [← hgt]
          replace hkpl := hkpl.symm
          replace hgtl := hgtl.symm
          cases b3 with
          | false =>
            have hs0 : stay g g.rules[i] = false := by rw [hsti, Bool.and_false]
            rw [hs0, if_neg (by decide), List.append_nil] at e1 e2
            (repeat (first | refine wkz ?_ | refine s_field (hr := ?_)))
            rw [← e1, ← e2]
            exact t_next (i + 1)
          | true =>
          cases b1 with
          | false =>
            have hs0 : stay g g.rules[i] = false := by rw [hsti]; rfl
            rw [hs0, if_neg (by decide), List.append_nil] at e1 e2
            (repeat (first | refine wkz ?_ | refine s_field (hr := ?_)))
            rw [← e1, ← e2]
            exact t_next (i + 1)
          | true =>
          (repeat (first | refine wkz ?_ | refine s_field (hr := ?_)))
          refine s_call [] (hA := hai) (hr := ?_)
          cases b2 with
          | false =>
            have hs0 : stay g g.rules[i] = false := by rw [hsti]; rfl
            rw [hs0, if_neg (by decide), List.append_nil] at e1 e2
            (repeat (first | refine wkz ?_ | refine s_field (hr := ?_)))
            rw [← e1, ← e2]
            exact t_next (i + 1)
          | true =>
          have hs1 : stay g g.rules[i] = true := by rw [hsti]; rfl
          obtain rfl := hka hs1
          rw [hs1, if_pos rfl] at e1 e2
          repeat (first | refine wk ?_)
          refine s_call [] (hA := hak) (hr := ?_)
          repeat (first | refine wk ?_)
          have et : trimR Kp g.rules[i] = ⟨rk Kp g.rules[i].left, g.rules[i].right.map (trimS1 Kp)⟩ := rfl
          rw [et] at e1
          have hnll := numR_get Kp (n := N) (v := g.rules[i].left.toNat) (by omega) (by rw [hnl]; omega)
          rw [← hlk] at hnll
          clear hai hak hst hs1 et hkp hka hsti hro hgtl hkpl
          refine aw_nil 16 916 3 1 rfl rfl rfl ?_
          refine t_loop (X := Nat) (fun j => j ≤ g.rules[i].right.length) (fun j => [(17, I j), (16, .own 916 j), (14, .ptr 14 0), (15, .own 910 (kids g.rules[i].right).length), (13, I i), (12, .ptr 12 0), (9, .own 77 N), (8, .own 908 N), (5, .own 905 N), (1, .ptr 1 0), (2, .ptr 2 0), (3, .ptr 3 0)])
            (fun j => [(916, .row 3 1 (((g.rules[i].right.take j).map (trimS1 Kp)).map iD)), (14, ruleBox false g.rules[i]), (910, .row 3 1 ((kids g.rules[i].right).map iD)), (1, gramBox false g), (2, stepBox false zeroStep), (3, .box 25 [.d (iD 0), .d (iD 0)]), (905, .row 4 1 (G.map bD)), (908, .row 4 1 (Kp.map bD)), (77, .row 3 1 ((numR Kp N N).map iD)),
              (12, .box 50 [.d (iD (rk Kp (N : Nat))), .d (iD g.terms), .d (iD (rk Kp g.start)), .own 901 TR.length, .own 902 TF.length, .d nilT]), (901, .row 44 2 (TR.map (ruleD false))), (902, .row 97 1 (TF.map (fragsD false)))]) (fun j => g.rules[i].right.length - j) 0 (Nat.zero_le _) ?_
          intro j hj
          have hlm : ((g.rules[i].right.take j).map (trimS1 Kp)).length = j := by simp; omega
          by_cases hjl : j < g.rules[i].right.length
          · have e3 : (g.rules[i].right.take (j + 1)).map (trimS1 Kp) = (g.rules[i].right.take j).map (trimS1 Kp) ++ [trimS1 Kp g.rules[i].right[j]] := by
              rw [List.take_succ_eq_append_getElem hjl, List.map_append]; rfl
            have hxh := hhi _ (List.getElem_mem hjl)
            by_cases hx : g.rules[i].right[j] ≥ 0
            · have e4 : trimS1 Kp g.rules[i].right[j] = rk Kp g.rules[i].right[j] := by rw [trimS1, if_pos hx]
              have hxk : g.rules[i].right[j] = ((g.rules[i].right[j].toNat : Nat) : Int) := by omega
              have hxn : g.rules[i].right[j].toNat < N := by omega
              have hng := numR_get Kp (n := N) (v := g.rules[i].right[j].toNat) hxn (by rw [hnl]; exact hxn)
              rw [← hxk] at hng
              rw [e4, ← hng] at e3
              have e := e3
              repeat (first | refine wk ?_)
              exact t_next (j + 1)
            · have e4 : trimS1 Kp g.rules[i].right[j] = g.rules[i].right[j] := by rw [trimS1, if_neg hx]
              rw [e4] at e3
              have e := e3
              repeat (first | refine wk ?_)
              exact t_next (j + 1)
          · obtain rfl : j = g.rules[i].right.length := by omega
            rw [List.take_length]
            rw [List.take_length] at hlm
            generalize g.rules[i].right.map (trimS1 Kp) = rr at *
            repeat (first | refine wk ?_)
            refine s_call [(22, 918)] (hA := plain_sim) (hr := ?_)
            repeat (first | refine wk ?_)
            rw [hnll]
            have f1 : TR.map (ruleD false) ++ [D.agg [iD (rk Kp g.rules[i].left), ints false rr]] = (tRules g (g.rules.take (i + 1))).map (ruleD false) := by rw [e1]; simp [ruleD]
            have f2 : TF.map (fragsD false) ++ [fragsD false (nodeF i (kids g.rules[i].right).length)] = (tFrags g (g.rules.take (i + 1)) 0).map (fragsD false) := by rw [e2]; simp
            rw [f1, f2]
            exact t_next (i + 1)
        · obtain rfl : i = g.rules.length := by omega
          rw [List.take_length]
          have eo : trimOut g = ⟨⟨rk Kp (N : Nat), g.terms, rk Kp g.start, tRules g g.rules⟩, tFrags g g.rules 0, []⟩ := by
            rw [← hrN]; simp only [trimOut, hKp]
          rw [eo]
          generalize tRules g g.rules = TR at *
          generalize tFrags g g.rules 0 = TF at *
          refine aw_froz 901 rfl ?_
          refine aw_froz 902 rfl ?_
          repeat (first | refine wk ?_)
          exact fin2
    | false =>
      rw [hb0] at hgt
      rw [hbad (by rw [hb0]; decide)] at hre
      generalize hKp : keepB g = Kp at *
      have hre2 := hre.le (args := [.d (.agg [iD g.vars, iD g.terms, iD g.start, nilT])]) ⟨.agg (.cons (.refl _) (.cons (.refl _) (.cons (.refl _) (.cons (.nil _ _) .nil)))), trivial⟩
      repeat (first | refine wk ?_)
      rw [← hgt]
      repeat (first | refine wk ?_)
      refine s_callf [(10, 908)] (hA := hre2) (hr := ?_)
      clear hre hai_ hsub hbad
      have e0 : List.replicate N (zeroD (.int .i64 0)) = (numR Kp N 0).map iD := by rw [numR_zero, List.map_replicate]; rfl
      repeat (first | refine wk ?_)
      rw [e0]
      refine t_loop (X := Nat) (fun v => v ≤ N) (fun v => [(11, I v), (10, I (rk Kp (v : Nat))), (9, .own 77 N), (8, .own 908 N), (5, .own 905 N), (1, .ptr 1 0), (2, .ptr 2 0), (3, .ptr 3 0)])
        (fun v => [(1, gramBox false g), (2, stepBox false zeroStep), (3, .box 25 [.d (iD 0), .d (iD 0)]), (905, .row 4 1 (G.map bD)), (908, .row 4 1 (Kp.map bD)), (77, .row 3 1 ((numR Kp N v).map iD))]) (fun v => N - v) 0 (Nat.zero_le _) ?_
      intro v hvN
      have hnl := numR_len Kp hvN
      have hrk := rk_le Kp v
      by_cases hvl : v < N
      · have e1 : ((numR Kp N v).map iD).set v (iD (rk Kp (v : Nat))) = (numR Kp N (v + 1)).map iD := by rw [← List.map_set, numR_set Kp hvl]
        have hnx := rk_next Kp v
        have hvk : v < Kp.length := by omega
        have hgv := has_get (is := Kp) (rfl : ((v : Nat) : Int) = (v : Int)) hvk
        rw [hgv] at hnx
        cases hb : Kp[v] with
        | true =>
          rw [hb, if_pos rfl] at hnx
          repeat (first | refine wk ?_)
          exact t_next (v + 1)
        | false =>
          rw [hb, if_neg (by decide)] at hnx
          repeat (first | refine wk ?_)
          exact t_next (v + 1)
      · obtain rfl : N = v := by omega
        have hsg := numR_get Kp (n := N) (v := g.start.toNat) (by omega) (by rw [hnl]; omega)
        rw [← hsk] at hsg
        have hrs := rk_le Kp g.start.toNat
        rw [← hsk] at hrs
        have hrN : ((trimOut g).g.vars : Int) = rk Kp (N : Nat) := by
          have h := rk_all (keepB g)
          rw [hKp, hKl] at h
          rw [h, ← hKp]; rfl
        repeat (first | refine wk ?_)
        rw [hsg]
        refine aw_nilCell 12 3 901 44 2 rfl rfl rfl rfl ?_
        refine aw_nilCell 12 4 902 97 1 rfl rfl rfl rfl ?_
        have hrNk := rk_le Kp N
        refine t_loop (X := Nat) (fun i => i ≤ g.rules.length) (fun i => [(13, I i), (12, .ptr 12 0), (9, .own 77 N), (8, .own 908 N), (5, .own 905 N), (1, .ptr 1 0), (2, .ptr 2 0), (3, .ptr 3 0)])
          (fun i => [(1, gramBox false g), (2, stepBox false zeroStep), (3, .box 25 [.d (iD 0), .d (iD 0)]), (905, .row 4 1 (G.map bD)), (908, .row 4 1 (Kp.map bD)), (77, .row 3 1 ((numR Kp N N).map iD)),
            (12, .box 50 [.d (iD (rk Kp (N : Nat))), .d (iD g.terms), .d (iD (rk Kp g.start)), .own 901 (tRules g (g.rules.take i)).length, .own 902 (tFrags g (g.rules.take i) 0).length, .d nilT]), (901, .row 44 2 ((tRules g (g.rules.take i)).map (ruleD false))), (902, .row 97 1 ((tFrags g (g.rules.take i) 0).map (fragsD false)))]) (fun i => g.rules.length - i) 0 (Nat.zero_le _) ?_
        intro i hi
        by_cases hlt : i < g.rules.length
        · have hmem := List.getElem_mem hlt
          have e1 := tRules_snoc (g := g) hlt
          have e2 := tFrags_snoc (g := g) hlt
          have l1 : (tRules g (g.rules.take i)).length ≤ i := by
            rw [tRules, List.length_map]
            exact Nat.le_trans (List.length_filter_le _ _) (by simp; omega)
          have l2 : (tFrags g (g.rules.take i) 0).length ≤ i := by rw [tLen]; exact l1
          have hr160 := hg.rules
          have hrr := hg.right _ hmem
          have hsti := hst g.rules[i]
          rw [hb0, Bool.false_and] at hsti
          rw [hsti, if_neg (by decide), List.append_nil] at e1 e2
          have hkl := kids_le g.rules[i].right
          generalize tRules g (g.rules.take i) = TR at *
          generalize tFrags g (g.rules.take i) 0 = TF at *
          repeat (first | refine wk ?_)
          refine s_call [(3, 910)] (hA := kidsOf_sim) (hr := ?_)
          repeat (first | refine wk ?_)
          rw [← hgt]
          (repeat (first | refine wkz ?_ | refine s_field (hr := ?_)))
          rw [← e1, ← e2]
          exact t_next (i + 1)
        · obtain rfl : i = g.rules.length := by omega
          rw [List.take_length]
          have eo : trimOut g = ⟨⟨rk Kp (N : Nat), g.terms, rk Kp g.start, tRules g g.rules⟩, tFrags g g.rules 0, []⟩ := by
            rw [← hrN]; simp only [trimOut, hKp]
          rw [eo]
          generalize tRules g g.rules = TR at *
          generalize tFrags g g.rules 0 = TF at *
          refine aw_froz 901 rfl ?_
          refine aw_froz 902 rfl ?_
          repeat (first | refine wk ?_)
          exact fin2
end Go.Proofs.Ytpaeihifcmohkaa
