/-
  Sim: the reference's SplitOf.
-/
import Derived.Test.YtpaeihifcmohkaaSpD
set_option linter.unusedVariables false
set_option linter.unusedSimpArgs false
set_option linter.unusedSectionVars false
namespace Go.Proofs.Ytpaeihifcmohkaa
open Go.RowKit
set_option maxRecDepth 100000

abbrev soF (i : Nat) (T A : List Int) : Fr := [(9, I i), (1, .ptr 1 0), (2, .ptr 2 0), (3, .ptr 3 0), (5, .ptr 5 0), (6, .fn (.func 90) [] [.ptr 5 0]), (7, .own 907 T.length), (8, .own 908 A.length)]
abbrev soH (t : Bool) (g : Gram) (v : Int) (R : List Rule) (F : List (List Frag)) (T A : List Int) : Hp := [(1, gramBox t g), (2, stepBox false zeroStep), (3, .box 25 [.d (iD 0), .d (iD 0)]), (5, stBox g v 901 R.length 902 F.length),
  (901, .row 44 2 (R.map (ruleD false))), (902, .row 97 1 (F.map (fragsD false))), (907, .row 3 1 (T.map iD)), (908, .row 3 1 (A.map iD))]
set_option maxHeartbeats 4000000 in
theorem splitOf_sim {t : Bool} {g : Gram} (hf : g.fit) :
    ACalls Try.prog 38 [.d (gramD t g)] [] (.tup [.d (stepD false (splitS g).1), .d (faultD (splitS g).2)]) [] := by
  refine ACalls.intro (n := 213) Try.func38 rfl rfl (by simp) (by rfl) ?_
  simp only [argFr]
  have hr1 := hf.rules
  have hr2 := hf.right
  repeat (first | refine wk ?_)
  refine s_call [] (hA := gramFault_sim) (hr := ?_)
  by_cases hc : (gramFault g).code = 0
  rotate_left
  · rw [show splitS g = (zeroStep, gramFault g) by rw [splitS, if_neg hc]]
    repeat (first | refine wk ?_)
    exact fin2
  have hg := gram_ok hc
  have hv1 := hg.vars1
  have hv2 := hg.vars
  have ht1 := hg.terms0
  have ht2 := hg.terms
  repeat (first | refine wk ?_)
  refine s_call [] (hA := bare_sim) (hr := ?_)
  repeat (first | refine wk ?_)
  refine aw_nilCell 5 3 901 44 2 rfl rfl rfl rfl ?_
  refine aw_nilCell 5 4 902 97 1 rfl rfl rfl rfl ?_
  refine aw_nil 7 907 3 1 rfl rfl rfl ?_
  refine aw_nil 8 908 3 1 rfl rfl rfl ?_
  have hfit := splitStart_fit hg
  have hTL0 := splitStart_TL g
  refine t_loop (X := Nat × SP × List Int × List Int) (fun x => x.1 ≤ g.rules.length ∧ splitGo (splitStart g) g.rules 0 = splitGo x.2.1 (g.rules.drop x.1) x.1 ∧ x.2.1.fit g ∧ x.2.1.many = false ∧ TL g.terms.toNat x.2.2.1 x.2.2.2 x.2.1.term ∧ x.2.2.1.length ≤ x.2.1.rules.length)
    (fun x => soF x.1 x.2.2.1 x.2.2.2) (fun x => soH t g x.2.1.vars x.2.1.rules x.2.1.frags x.2.2.1 x.2.2.2) (fun x => g.rules.length - x.1) (0, splitStart g, [], []) ⟨Nat.zero_le _, rfl, hfit.1, hfit.2, hTL0, Nat.le_refl _⟩ ?_
  rintro ⟨i, s, T, A⟩ ⟨h1, h2, h3, h4, h5, h7⟩
  dsimp only at h1 h2 h3 h4 h5 h7 ⊢
  by_cases hlt : i < g.rules.length
  · have hmem := List.getElem_mem hlt
    have hrf := hg.rule hmem
    have hone := h3.one hg hlt hrf
    have hgo : splitGo s (g.rules.drop i) i = bif (s.one i g.rules[i]).many then .error i else splitGo (s.one i g.rules[i]) (g.rules.drop (i + 1)) (i + 1) := by
      rw [List.drop_eq_getElem_cons hlt, splitGo]
    have hb := many_no h4
    have hpl := h3.parts.len
    have hvg := h3.vars
    have b1 : s.rules.length ≤ 100000 := by omega
    have b2 : s.frags.length ≤ 100000 := by omega
    have hrr := hg.right _ hmem
    repeat (first | refine wk ?_)
    by_cases h6 : g.rules[i].right.length < 2
    · have e1 : s.one i g.rules[i] = s.rule g.rules[i].left g.rules[i].right (nodeF i (kids g.rules[i].right).length) := by rw [SP.one, if_pos h6]
      have hkl := kids_le g.rules[i].right
      repeat (first | refine wk ?_)
      refine s_call [(3, 913)] (hA := ownInts_sim) (hr := ?_)
      repeat (first | refine wk ?_)
      refine s_call [(3, 914)] (hA := kidsOf_sim) (hr := ?_)
      repeat (first | refine wk ?_)
      refine s_call [(22, 915)] (hA := plain_sim) (hr := ?_)
      repeat (first | refine wk ?_)
      refine s_call [(1000, 5), (1001, 901), (1002, 902)] (hA := put_sim (g := g) (V := s.vars) (v := g.rules[i].left) (R := s.rules) (F := s.frags) b1 b2) (hr := ?_)
      have e1' : s.rule g.rules[i].left g.rules[i].right (nodeF i (kids g.rules[i].right).length) = ⟨s.vars, s.rules ++ [⟨g.rules[i].left, g.rules[i].right⟩], s.frags ++ [nodeF i (kids g.rules[i].right).length], s.term⟩ := rfl
      rw [e1, e1'] at hone hgo
      repeat (first | refine wk ?_)
      by_cases hm : (160 : Int) < ((s.rules.length + (0 + 1) : Nat) : Int)
      · have hm' : SP.many ⟨s.vars, s.rules ++ [⟨g.rules[i].left, g.rules[i].right⟩], s.frags ++ [nodeF i (kids g.rules[i].right).length], s.term⟩ = true := by
          simp only [SP.many, Bool.or_eq_true, decide_eq_true_eq, List.length_append, List.length_cons, List.length_nil]; omega
        rw [show splitS g = (zeroStep, ⟨6, i⟩) by rw [splitS, if_pos hc, h2, hgo, hm']; rfl]
        repeat (first | refine wk ?_)
        refine s_call [] (hA := f_sim) (hr := ?_)
        repeat (first | refine wk ?_)
        exact fin2
      · have hm' : SP.many ⟨s.vars, s.rules ++ [⟨g.rules[i].left, g.rules[i].right⟩], s.frags ++ [nodeF i (kids g.rules[i].right).length], s.term⟩ = false := by
          simp only [SP.many, Bool.or_eq_false_iff, decide_eq_false_iff_not, List.length_append, List.length_cons, List.length_nil]; omega
        repeat (first | refine wk ?_)
        exact t_next (i + 1, ⟨s.vars, s.rules ++ [⟨g.rules[i].left, g.rules[i].right⟩], s.frags ++ [nodeF i (kids g.rules[i].right).length], s.term⟩, T, A) (a := ⟨by dsimp only; omega, by rw [h2, hgo, hm']; rfl, hone, hm', h5, by simp; omega⟩)
    · repeat (first | refine wk ?_)
      refine aw_nil 12 912 3 1 rfl rfl rfl ?_
      have e1 : s.one i g.rules[i] = s.split g.rules[i].left i g.rules[i].right := by rw [SP.one, if_neg h6]
      have hlo := hg.lo _ hmem
      have hhi := hg.hi _ hmem
      rw [e1] at hone hgo
      generalize g.rules[i].right = right at *
      generalize g.rules[i].left = left at *
      refine t_loop (X := Nat × List Int × List Int) (fun x => x.1 ≤ right.length ∧ TL g.terms.toNat x.2.1 x.2.2 (s.lifts (right.take x.1)).term ∧ x.2.1.length ≤ (s.lifts (right.take x.1)).rules.length) (fun x => (13, I x.1) :: (10, .d (ints t right)) :: (11, .d (iD left)) :: (12, .own 912 (s.lifteds (right.take x.1)).length) :: soF i x.2.1 x.2.2)
        (fun x => (912, .row 3 1 ((s.lifteds (right.take x.1)).map iD)) :: soH t g (s.lifts (right.take x.1)).vars (s.lifts (right.take x.1)).rules (s.lifts (right.take x.1)).frags x.2.1 x.2.2) (fun x => right.length - x.1) (0, T, A) ⟨Nat.zero_le _, h5, h7⟩ ?_
      · rintro ⟨j, T, A⟩ ⟨g1, g2, g3⟩
        dsimp only at g1 g2 g3 ⊢
        have htk : (right.take j).length = j := by simp; omega
        have hle := SP.lifteds_length s (right.take j)
        have hsm := SP.lifts_small (right.take j) s
        rw [htk] at hle hsm
        by_cases hjl : j < right.length
        · have e1 := SP.lifteds_snoc s (right.take j) right[j]
          have e2 := SP.lifts_snoc s (right.take j) right[j]
          rw [← List.take_succ_eq_append_getElem hjl] at e1 e2
          have hxk := hlo _ (List.getElem_mem hjl)
          generalize s.lifts (right.take j) = q at *
          generalize s.lifteds (right.take j) = ls at *
          by_cases hx0 : right[j] ≥ 0
          · obtain ⟨l1, l2⟩ := SP.lift_terms (s := q) hx0
            rw [l1] at e2
            rw [l2] at e1
            have e := e1
            repeat (first | refine wk ?_)
            rw [← e2] at g2 g3 ⊢
            exact t_next (j + 1, T, A)
          · repeat (first | refine wk ?_)
            have hx0' : right[j] < 0 := by omega
            have hxn : (-1 - right[j]).toNat < g.terms.toNat := by omega
            have hq0 : 0 ≤ q.vars := by omega
            have hAT : A.length = T.length := by rw [g2.are, List.length_map]
            refine t_loop (X := Nat) (fun m => m ≤ T.length ∧ ∀ y ∈ T.take m, y ≠ right[j]) (fun m => (14, I m) :: (13, I j) :: (10, .d (ints t right)) :: (11, .d (iD left)) :: (12, .own 912 ls.length) :: soF i T A)
              (fun m => (912, .row 3 1 (ls.map iD)) :: soH t g q.vars q.rules q.frags T A) (fun m => T.length - m) 0 ⟨Nat.zero_le _, by simp⟩ ?_
            rintro m ⟨k1, k2⟩
            by_cases hmT : m < T.length
            · by_cases hTx : T[m] = right[j]
              · obtain ⟨l1, l3, l2⟩ := SP.lift_in g2 hmT
                rw [hTx] at l1 l2
                rw [l1] at e2
                rw [l2] at e1
                have e := e1
                repeat (first | refine wk ?_)
                rw [← e2] at g2 g3 ⊢
                exact t_next (j + 1, T, A)
              · have hTb : (!decide (T[m] = right[j])) = true := by simp [hTx]
                repeat (first | refine wk ?_)
                exact t_next (m + 1) (a := ⟨by omega, fun y hy => by
                  rw [List.take_succ_eq_append_getElem hmT] at hy
                  rcases List.mem_append.1 hy with hy | hy
                  · exact k2 y hy
                  · rw [List.mem_singleton.1 hy]; exact hTx⟩)
            · obtain rfl : m = T.length := by omega
              rw [List.take_length] at k2
              obtain ⟨l1, l2, l3⟩ := SP.lift_out g2 hx0' hxn (fun hh => k2 _ hh rfl) hq0
              rw [l1] at e2
              rw [l2] at e1
              rw [l1] at l3
              have d1 : q.rules.length ≤ 100000 := by omega
              have d2 : q.frags.length ≤ 100000 := by omega
              have hAl : (A ++ [q.vars]).length = T.length + 1 := by simp [hAT]
              have hAi : (A ++ [q.vars])[T.length]'(by omega) = q.vars := by rw [List.getElem_append_right (by omega)]; simp
              repeat (first | refine wk ?_)
              refine s_call [(1000, 5), (1001, 901), (1002, 902)] (hA := put_simN (g := g) (V := q.vars) (v := q.vars) (right := [right[j]]) (R := q.rules) (F := q.frags) d1 d2) (hr := ?_)
              repeat (first | refine wk ?_)
              have hA2 : List.map iD A ++ [iD q.vars] = (A ++ [q.vars]).map iD := by simp
              have hA3 : ((A ++ [q.vars]).map iD).length = (A ++ [q.vars]).length := by simp
              rw [hA2, hA3]
              have e : s.lifteds (right.take (j + 1)) = ls ++ [(A ++ [q.vars])[T.length]'(by omega)] := by rw [e1, hAi]
              repeat (first | refine wk ?_)
              have e4 : T.map iD ++ [iD right[j]] = (T ++ [right[j]]).map iD := by simp
              have e5 : (s.lifts (right.take (j + 1))).vars = q.vars + 1 := by rw [e2]
              have e6 : (s.lifts (right.take (j + 1))).rules = q.rules ++ [⟨q.vars, [right[j]]⟩] := by rw [e2]
              have e7 : (s.lifts (right.take (j + 1))).frags = q.frags ++ [[]] := by rw [e2]
              rw [e4, ← e5, ← e6, ← e7]
              exact t_next (j + 1, T ++ [right[j]], A ++ [q.vars]) (a := ⟨by dsimp only; omega, by rw [e2]; exact l3, by dsimp only; rw [e2]; simp; omega⟩)
        · obtain rfl : j = right.length := by omega
          rw [List.take_length] at g2 g3 hle hsm ⊢
          obtain ⟨m, hm⟩ : ∃ m : Nat, right.length = m + 2 := ⟨right.length - 2, by omega⟩
          have hsp : s.split left i right = ((s.lifts right).more m).pairs left i (s.lifteds right) (rests (s.lifts right).vars (s.lifteds right)) (m + 1) := by
            rw [SP.split, hm]; simp [SP.pairs, SP.more]
          rw [hsp] at hone hgo
          clear hsp h3 e1 hlo hhi htk
          generalize s.lifts right = q at *
          generalize s.lifteds right = ls at *
          have hls : ls.length = m + 2 := by omega
          have hN : ((ls.length : Nat) : Int) - 2 = (m : Int) := by omega
          rw [hls]
          repeat (first | refine wk ?_)
          rw [hN]
          have p0 : (q.more m).pairs left i ls (rests q.vars ls) 0 = q.more m := by simp [SP.pairs, pairR, pairF, SP.more]
          have pr0 : ((q.more m).pairs left i ls (rests q.vars ls) 0).rules = q.rules := by rw [p0]; rfl
          have pf0 : ((q.more m).pairs left i ls (rests q.vars ls) 0).frags = q.frags := by rw [p0]; rfl
          rw [← pr0, ← pf0]
          have b3 : q.rules.length ≤ 1000 := by omega
          have b4 : q.frags.length ≤ 1000 := by omega
          refine t_loop (X := Nat) (fun j => j ≤ m + 1) (fun j => (16, I j) :: (15, .d (iD q.vars)) :: (11, .d (iD left)) :: (12, .own 912 (m + 2)) :: soF i T A)
            (fun j => (912, .row 3 1 (ls.map iD)) :: soH t g (q.vars + (m : Int)) ((q.more m).pairs left i ls (rests q.vars ls) j).rules ((q.more m).pairs left i ls (rests q.vars ls) j).frags T A) (fun j => m + 1 - j) 0 (Nat.zero_le _) ?_
          intro j hj
          by_cases hjl : (j : Int) + 1 < ((m + 2 : Nat) : Int)
          · have d1 : ((q.more m).pairs left i ls (rests q.vars ls) j).rules.length ≤ 100000 := by
              have : (q.more m).rules = q.rules := rfl
              simp only [SP.pairs, pairR_length, List.length_append, this]; omega
            have d2 : ((q.more m).pairs left i ls (rests q.vars ls) j).frags.length ≤ 100000 := by
              have : (q.more m).frags = q.frags := rfl
              simp only [SP.pairs, pairF_length, List.length_append, this]; omega
            have hmi : ((ls.length : Nat) : Int) - 2 = (m : Int) := by omega
            have hlast : ((ls.length : Nat) : Int) - 1 = ((m + 1 : Nat) : Int) := by omega
            have hjm1 : j < m + 1 := by omega
            have hb1 := pairs_step q left i ls m j hls hjm1
            generalize ((q.more m).pairs left i ls (rests q.vars ls) j).rules = R at *
            generalize ((q.more m).pairs left i ls (rests q.vars ls) j).frags = F at *
            by_cases hj0 : j = 0
            · by_cases hjm : j = m
              · rw [if_pos hj0, if_pos hjm, if_pos hj0] at hb1
                repeat (first | refine wk ?_)
                refine s_call [] (hA := refHole_sim) (hr := ?_)
                repeat (first | refine wk ?_)
                refine s_call [] (hA := refHole_sim) (hr := ?_)
                repeat (first | refine wk ?_)
                refine s_call [(1000, 5), (1001, 901), (1002, 902)] (hA := put_simP (r := i) (g := g) (V := q.vars + (m : Int)) (v := left) (right := [ls[j], ls[m + 1]]) (R := R) (F := F) d1 d2) (hr := ?_)
                repeat (first | refine wk ?_)
                rw [hb1.1, hb1.2]
                exact t_next (j + 1)
              · rw [if_pos hj0, if_neg hjm, if_pos hj0] at hb1
                repeat (first | refine wk ?_)
                refine s_call [] (hA := refHole_sim) (hr := ?_)
                repeat (first | refine wk ?_)
                refine s_call [] (hA := refHole_sim) (hr := ?_)
                repeat (first | refine wk ?_)
                refine s_call [(1000, 5), (1001, 901), (1002, 902)] (hA := put_simP (r := i) (g := g) (V := q.vars + (m : Int)) (v := left) (right := [ls[j], q.vars + (j : Int)]) (R := R) (F := F) d1 d2) (hr := ?_)
                repeat (first | refine wk ?_)
                rw [hb1.1, hb1.2]
                exact t_next (j + 1)
            · by_cases hjm : j = m
              · rw [if_neg hj0, if_pos hjm, if_neg hj0] at hb1
                repeat (first | refine wk ?_)
                refine s_call [] (hA := refHole_sim) (hr := ?_)
                repeat (first | refine wk ?_)
                refine s_call [] (hA := refHole_sim) (hr := ?_)
                repeat (first | refine wk ?_)
                refine s_call [(1000, 5), (1001, 901), (1002, 902)] (hA := put_simH (g := g) (V := q.vars + (m : Int)) (v := q.vars + (j : Int) - 1) (right := [ls[j], ls[m + 1]]) (R := R) (F := F) d1 d2) (hr := ?_)
                repeat (first | refine wk ?_)
                rw [hb1.1, hb1.2]
                exact t_next (j + 1)
              · rw [if_neg hj0, if_neg hjm, if_neg hj0] at hb1
                repeat (first | refine wk ?_)
                refine s_call [] (hA := refHole_sim) (hr := ?_)
                repeat (first | refine wk ?_)
                refine s_call [] (hA := refHole_sim) (hr := ?_)
                repeat (first | refine wk ?_)
                refine s_call [(1000, 5), (1001, 901), (1002, 902)] (hA := put_simH (g := g) (V := q.vars + (m : Int)) (v := q.vars + (j : Int) - 1) (right := [ls[j], q.vars + (j : Int)]) (R := R) (F := F) d1 d2) (hr := ?_)
                repeat (first | refine wk ?_)
                rw [hb1.1, hb1.2]
                exact t_next (j + 1)
          · obtain rfl : j = m + 1 := by omega
            have hq1 : ((q.more m).pairs left i ls (rests q.vars ls) (m + 1)).vars = q.vars + (m : Int) := rfl
            have hq2 : ((q.more m).pairs left i ls (rests q.vars ls) (m + 1)).term = q.term := rfl
            have hq3 : q.rules.length ≤ ((q.more m).pairs left i ls (rests q.vars ls) (m + 1)).rules.length := by
              have : (q.more m).rules = q.rules := rfl
              simp only [SP.pairs, List.length_append, this]; omega
            rw [← hq1]
            rw [← hq2] at g2
            generalize (q.more m).pairs left i ls (rests q.vars ls) (m + 1) = z at *
            by_cases hm1 : 64 < z.vars
            · have hm' : z.many = true := by simp only [SP.many, Bool.or_eq_true, decide_eq_true_eq]; exact Or.inl hm1
              rw [show splitS g = (zeroStep, ⟨6, i⟩) by rw [splitS, if_pos hc, h2, hgo, hm']; rfl]
              repeat (first | refine wk ?_)
              refine s_call [] (hA := f_sim) (hr := ?_)
              repeat (first | refine wk ?_)
              exact fin2
            · by_cases hm2 : (160 : Int) < (z.rules.length : Nat)
              · have hm' : z.many = true := by simp only [SP.many, Bool.or_eq_true, decide_eq_true_eq]; exact Or.inr (by omega)
                rw [show splitS g = (zeroStep, ⟨6, i⟩) by rw [splitS, if_pos hc, h2, hgo, hm']; rfl]
                repeat (first | refine wk ?_)
                refine s_call [] (hA := f_sim) (hr := ?_)
                repeat (first | refine wk ?_)
                exact fin2
              · have hm' : z.many = false := by simp only [SP.many, Bool.or_eq_false_iff, decide_eq_false_iff_not]; omega
                repeat (first | refine wk ?_)
                exact t_next (i + 1, z, T, A) (a := ⟨by dsimp only; omega, by rw [h2, hgo, hm']; rfl, hone, hm', g2, by dsimp only; omega⟩)
  · obtain rfl : i = g.rules.length := by omega
    rw [show splitS g = (⟨⟨s.vars, g.terms, g.start, s.rules⟩, s.frags, []⟩, ⟨0, 0⟩) by rw [splitS, if_pos hc, h2, List.drop_length]; rfl]
    refine aw_froz 901 rfl ?_
    refine aw_froz 902 rfl ?_
    repeat (first | refine wk ?_)
    exact fin2
end Go.Proofs.Ytpaeihifcmohkaa
