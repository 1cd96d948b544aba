/-
  Sim: split.Make.
-/
import Derived.Test.YtpaeihifcmohkaaSplitC
import Derived.Test.YtpaeihifcmohkaaFragD
set_option linter.unusedVariables false
set_option linter.unusedSimpArgs false
namespace Go.Proofs.Ytpaeihifcmohkaa
open Go.RowKit
set_option maxRecDepth 100000

abbrev spBox (g : Gram) (s : SP) : Ob := .box 95 [.d (iD s.vars), .d (iD g.terms), .d (iD g.start), .own 901 s.rules.length, .own 902 s.frags.length, .d nilT, .own 903 g.terms.toNat, .d (bD s.many)]
set_option maxHeartbeats 4000000 in
theorem splitMake_sim {t : Bool} {g : Gram} (hf : g.fit) :
    ACalls Try.prog 37 [.d (gramD t g)] [] (.tup [.d (stepD false (splitS g).1), .d (faultD (splitS g).2)]) [] := by
  refine ACalls.intro (n := 86) Try.func37 rfl rfl (by simp) (by rfl) ?_
  simp only [argFr]
  have hr1 := hf.rules
  have hr2 := hf.right
  repeat (first | refine wk ?_)
  refine s_call [] (hA := gramCheck_sim) (hr := ?_)
  by_cases hc : (gramFault g).code = 0
  rotate_left
  · rw [show splitS g = (zeroStep, gramFault g) by rw [splitS, if_neg hc]]
    repeat (first | refine wk ?_)
    exact fin2
  have hg := gram_ok hc
  have hv1 := hg.vars1
  have hv2 := hg.vars
  have ht1 := hg.terms0
  have ht2 := hg.terms
  repeat (first | refine wk ?_)
  refine aw_nilCell 16 3 901 44 2 rfl rfl rfl rfl ?_
  refine aw_nilCell 16 4 902 97 1 rfl rfl rfl rfl ?_
  refine aw_nilCell 16 6 903 3 1 rfl rfl rfl rfl ?_
  have ht0 : ((g.terms.toNat : Nat) : Int) = g.terms := by omega
  refine t_loop (X := Nat) (fun k => k ≤ g.terms.toNat) (fun k => [(30, I k), (29, .d (iD g.terms)), (5, .ptr 16 0), (3, .ptr 3 0), (2, .ptr 2 0), (1, .ptr 1 0)])
    (fun k => [(16, .box 95 [.d (iD g.vars), .d (iD g.terms), .d (iD g.start), .own 901 0, .own 902 0, .d nilT, .own 903 k, .d (bD false)]), (901, .row 44 2 []), (902, .row 97 1 []), (903, .row 3 1 ((List.replicate k (-1 : Int)).map iD)), (1, gramBox t g), (2, stepBox false zeroStep), (3, .box 25 [.d (iD 0), .d (iD 0)])]) (fun k => g.terms.toNat - k) 0 (Nat.zero_le _) ?_
  · intro k hk
    have hrep : (List.replicate k (-1 : Int)).length = k := List.length_replicate
    by_cases hlt : (k : Int) < g.terms
    · have e : List.replicate (k + 1) (-1 : Int) = List.replicate k (-1 : Int) ++ [-1] := List.replicate_succ'
      repeat (first | refine wk ?_)
      exact t_next (k + 1)
    · obtain rfl : k = g.terms.toNat := by omega
      repeat (first | refine wk ?_)
      clear hrep hlt hk
      have hfit := splitStart_fit hg
      have hm0 : bD false = bD (splitStart g).many := by rw [hfit.2]
      rw [hm0]
      refine t_loop (X := Nat × SP) (fun x => x.1 ≤ g.rules.length ∧ splitGo (splitStart g) g.rules 0 = splitGo x.2 (g.rules.drop x.1) x.1 ∧ x.2.fit g ∧ x.2.many = false) (fun x => [(45, I x.1), (44, I g.rules.length), (43, .d (rulesD t g.rules)), (5, .ptr 16 0), (3, .ptr 3 0), (2, .ptr 2 0)])
        (fun x => [(16, spBox g x.2), (901, .row 44 2 (x.2.rules.map (ruleD false))), (902, .row 97 1 (x.2.frags.map (fragsD false))), (903, .row 3 1 (x.2.term.map iD)), (2, stepBox false zeroStep), (3, .box 25 [.d (iD 0), .d (iD 0)])]) (fun x => g.rules.length - x.1) (0, splitStart g) ⟨Nat.zero_le _, rfl, hfit.1, hfit.2⟩ ?_
      rintro ⟨i, s⟩ ⟨h1, h2, h3, h4⟩
      dsimp only at h1 h2 h3 h4 ⊢
      by_cases hlt : i < g.rules.length
      · have hmem := List.getElem_mem hlt
        have hrf := hg.rule hmem
        have hone := h3.one hg hlt hrf
        have hgo : splitGo s (g.rules.drop i) i = bif (s.one i g.rules[i]).many then .error i else splitGo (s.one i g.rules[i]) (g.rules.drop (i + 1)) (i + 1) := by
          rw [List.drop_eq_getElem_cons hlt, splitGo]
        have hb := many_no h4
        have hpl := h3.parts.len
        have hrr := hg.right _ hmem
        by_cases h5 : g.rules[i].right.length < 2
        · have e1 : s.one i g.rules[i] = s.rule g.rules[i].left g.rules[i].right (nodeF i (kids g.rules[i].right).length) := by rw [SP.one, if_pos h5]
          have hkl := kids_le g.rules[i].right
          repeat (first | refine wk ?_)
          refine s_call [(3, 905)] (hA := kids_sim) (hr := ?_)
          repeat (first | refine wk ?_)
          refine s_call [(20, 906)] (hA := node_sim) (hr := ?_)
          repeat (first | refine wk ?_)
          refine s_call [(1000, 16), (1001, 901), (1002, 902), (1003, 903)] (hA := rule_sim (g := g) (s := s)) (hr := ?_)
          repeat (first | refine wk ?_)
          rw [e1] at hone hgo
          by_cases hm : (s.rule g.rules[i].left g.rules[i].right (nodeF i (kids g.rules[i].right).length)).many = true
          · rw [show splitS g = (zeroStep, ⟨6, i⟩) by rw [splitS, if_pos hc, h2, hgo, hm]; rfl]
            repeat (first | refine wk ?_)
            exact fin2
          · rw [Bool.not_eq_true] at hm
            repeat (first | refine wk ?_)
            exact t_next (i + 1, (s.rule g.rules[i].left g.rules[i].right (nodeF i (kids g.rules[i].right).length))) (a := ⟨by dsimp only; omega, by rw [h2, hgo, hm]; rfl, hone, hm⟩)
        · have e1 : s.one i g.rules[i] = s.split g.rules[i].left i g.rules[i].right := by rw [SP.one, if_neg h5]
          have hlo := hg.lo _ hmem
          have htl := h3.tlen
          have hv := h3.vars
          repeat (first | refine wk ?_)
          have h5' : 2 ≤ g.rules[i].right.length := by omega
          have b1 : g.terms ≤ 80000 := by omega
          have b2 : 0 ≤ s.vars := by omega
          have b3 : s.vars ≤ 80000 := by omega
          have b4 : s.rules.length ≤ 80000 := by omega
          have b5 : s.frags.length ≤ 80000 := by omega
          refine s_call [(1000, 16), (1001, 901), (1002, 902), (1003, 903)] (hA := split_sim (s := s) (g := g) (r := i) (v := g.rules[i].left) (right := g.rules[i].right) hlo h5' hrr htl b1 b2 b3 b4 b5) (hr := ?_)
          repeat (first | refine wk ?_)
          rw [e1] at hone hgo
          generalize s.split g.rules[i].left i g.rules[i].right = q at *
          by_cases hm : q.many = true
          · rw [show splitS g = (zeroStep, ⟨6, i⟩) by rw [splitS, if_pos hc, h2, hgo, hm]; rfl]
            repeat (first | refine wk ?_)
            exact fin2
          · rw [Bool.not_eq_true] at hm
            repeat (first | refine wk ?_)
            exact t_next (i + 1, q) (a := ⟨by dsimp only; omega, by rw [h2, hgo, hm]; rfl, hone, hm⟩)
      · obtain rfl : i = g.rules.length := by omega
        rw [show splitS g = (⟨⟨s.vars, g.terms, g.start, s.rules⟩, s.frags, []⟩, ⟨0, 0⟩) by rw [splitS, if_pos hc, h2, List.drop_length]; rfl]
        refine aw_froz 901 rfl ?_
        refine aw_froz 902 rfl ?_
        repeat (first | refine wk ?_)
        exact fin2
end Go.Proofs.Ytpaeihifcmohkaa
