/-
  Sim: split.Make. Sim: the reference's SplitOf: its pieces.
-/
import Derived.Test.YtpaeihifcmohkaaSpA
import Derived.Test.YtpaeihifcmohkaaFrC
set_option linter.unusedVariables false
set_option linter.unusedSimpArgs false
set_option linter.unusedSectionVars false
namespace Go.Proofs.Ytpaeihifcmohkaa
open Go.RowKit
set_option maxRecDepth 100000

abbrev spBox (g : Gram) (s : SP) : Ob := .box 95 [.d (iD s.vars), .d (iD g.terms), .d (iD g.start), .own 901 s.rules.length, .own 902 s.frags.length, .d nilT, .own 903 g.terms.toNat, .d (bD s.many)]
set_option maxHeartbeats 4000000 in
theorem splitMake_sim {t : Bool} {g : Gram} (hf : g.fit) :
    ACalls Try.prog 37 [.d (gramD t g)] [] (.tup [.d (stepD false (splitS g).1), .d (faultD (splitS g).2)]) [] := by
  refine ACalls.intro (n := 86) Try.func37 rfl rfl (by simp) (by rfl) ?_
  simp only [argFr]
  have hr1 := hf.rules
  have hr2 := hf.right
  repeat (first | refine wk ?_)
  refine s_call [] (hA := gramCheck_sim) (hr := ?_)
  by_cases hc : (gramFault g).code = 0
  rotate_left
  · rw [show splitS g = (zeroStep, gramFault g) by rw [splitS, if_neg hc]]
    repeat (first | refine wk ?_)
    exact fin2
  have hg := gram_ok hc
  have hv1 := hg.vars1
  have hv2 := hg.vars
  have ht1 := hg.terms0
  have ht2 := hg.terms
  repeat (first | refine wk ?_)
  refine aw_nilCell 16 3 901 44 2 rfl rfl rfl rfl ?_
  refine aw_nilCell 16 4 902 97 1 rfl rfl rfl rfl ?_
  refine aw_nilCell 16 6 903 3 1 rfl rfl rfl rfl ?_
  have ht0 : ((g.terms.toNat : Nat) : Int) = g.terms := by omega
  refine t_loop (X := Nat) (fun k => k ≤ g.terms.toNat) (fun k => [(30, I k), (29, .d (iD g.terms)), (5, .ptr 16 0), (3, .ptr 3 0), (2, .ptr 2 0), (1, .ptr 1 0)])
    (fun k => [(16, .box 95 [.d (iD g.vars), .d (iD g.terms), .d (iD g.start), .own 901 0, .own 902 0, .d nilT, .own 903 k, .d (bD false)]), (901, .row 44 2 []), (902, .row 97 1 []), (903, .row 3 1 ((List.replicate k (-1 : Int)).map iD)), (1, gramBox t g), (2, stepBox false zeroStep), (3, .box 25 [.d (iD 0), .d (iD 0)])]) (fun k => g.terms.toNat - k) 0 (Nat.zero_le _) ?_
  · intro k hk
    have hrep : (List.replicate k (-1 : Int)).length = k := List.length_replicate
    by_cases hlt : (k : Int) < g.terms
    · have e : List.replicate (k + 1) (-1 : Int) = List.replicate k (-1 : Int) ++ [-1] := List.replicate_succ'
      repeat (first | refine wk ?_)
      exact t_next (k + 1)
    · obtain rfl : k = g.terms.toNat := by omega
      repeat (first | refine wk ?_)
      clear hrep hlt hk
      have hfit := splitStart_fit hg
      have hm0 : bD false = bD (splitStart g).many := by rw [hfit.2]
      rw [hm0]
      refine t_loop (X := Nat × SP) (fun x => x.1 ≤ g.rules.length ∧ splitGo (splitStart g) g.rules 0 = splitGo x.2 (g.rules.drop x.1) x.1 ∧ x.2.fit g ∧ x.2.many = false) (fun x => [(45, I x.1), (44, I g.rules.length), (43, .d (rulesD t g.rules)), (5, .ptr 16 0), (3, .ptr 3 0), (2, .ptr 2 0)])
        (fun x => [(16, spBox g x.2), (901, .row 44 2 (x.2.rules.map (ruleD false))), (902, .row 97 1 (x.2.frags.map (fragsD false))), (903, .row 3 1 (x.2.term.map iD)), (2, stepBox false zeroStep), (3, .box 25 [.d (iD 0), .d (iD 0)])]) (fun x => g.rules.length - x.1) (0, splitStart g) ⟨Nat.zero_le _, rfl, hfit.1, hfit.2⟩ ?_
      rintro ⟨i, s⟩ ⟨h1, h2, h3, h4⟩
      dsimp only at h1 h2 h3 h4 ⊢
      by_cases hlt : i < g.rules.length
      · have hmem := List.getElem_mem hlt
        have hrf := hg.rule hmem
        have hone := h3.one hg hlt hrf
        have hgo : splitGo s (g.rules.drop i) i = bif (s.one i g.rules[i]).many then .error i else splitGo (s.one i g.rules[i]) (g.rules.drop (i + 1)) (i + 1) := by
          rw [List.drop_eq_getElem_cons hlt, splitGo]
        have hb := many_no h4
        have hpl := h3.parts.len
        have hrr := hg.right _ hmem
        by_cases h5 : g.rules[i].right.length < 2
        · have e1 : s.one i g.rules[i] = s.rule g.rules[i].left g.rules[i].right (nodeF i (kids g.rules[i].right).length) := by rw [SP.one, if_pos h5]
          have hkl := kids_le g.rules[i].right
          repeat (first | refine wk ?_)
          refine s_call [(3, 905)] (hA := kids_sim) (hr := ?_)
          repeat (first | refine wk ?_)
          refine s_call [(20, 906)] (hA := node_sim) (hr := ?_)
          repeat (first | refine wk ?_)
          refine s_call [(1000, 16), (1001, 901), (1002, 902), (1003, 903)] (hA := rule_sim (g := g) (s := s)) (hr := ?_)
          repeat (first | refine wk ?_)
          rw [e1] at hone hgo
          by_cases hm : (s.rule g.rules[i].left g.rules[i].right (nodeF i (kids g.rules[i].right).length)).many = true
          · rw [show splitS g = (zeroStep, ⟨6, i⟩) by rw [splitS, if_pos hc, h2, hgo, hm]; rfl]
            repeat (first | refine wk ?_)
            exact fin2
          · rw [Bool.not_eq_true] at hm
            repeat (first | refine wk ?_)
            exact t_next (i + 1, (s.rule g.rules[i].left g.rules[i].right (nodeF i (kids g.rules[i].right).length))) (a := ⟨by dsimp only; omega, by rw [h2, hgo, hm]; rfl, hone, hm⟩)
        · have e1 : s.one i g.rules[i] = s.split g.rules[i].left i g.rules[i].right := by rw [SP.one, if_neg h5]
          have hlo := hg.lo _ hmem
          have htl := h3.tlen
          have hv := h3.vars
          repeat (first | refine wk ?_)
          have h5' : 2 ≤ g.rules[i].right.length := by omega
          have b1 : g.terms ≤ 80000 := by omega
          have b2 : 0 ≤ s.vars := by omega
          have b3 : s.vars ≤ 80000 := by omega
          have b4 : s.rules.length ≤ 80000 := by omega
          have b5 : s.frags.length ≤ 80000 := by omega
          refine s_call [(1000, 16), (1001, 901), (1002, 902), (1003, 903)] (hA := split_sim (s := s) (g := g) (r := i) (v := g.rules[i].left) (right := g.rules[i].right) hlo h5' hrr htl b1 b2 b3 b4 b5) (hr := ?_)
          repeat (first | refine wk ?_)
          rw [e1] at hone hgo
          generalize s.split g.rules[i].left i g.rules[i].right = q at *
          by_cases hm : q.many = true
          · rw [show splitS g = (zeroStep, ⟨6, i⟩) by rw [splitS, if_pos hc, h2, hgo, hm]; rfl]
            repeat (first | refine wk ?_)
            exact fin2
          · rw [Bool.not_eq_true] at hm
            repeat (first | refine wk ?_)
            exact t_next (i + 1, q) (a := ⟨by dsimp only; omega, by rw [h2, hgo, hm]; rfl, hone, hm⟩)
      · obtain rfl : i = g.rules.length := by omega
        rw [show splitS g = (⟨⟨s.vars, g.terms, g.start, s.rules⟩, s.frags, []⟩, ⟨0, 0⟩) by rw [splitS, if_pos hc, h2, List.drop_length]; rfl]
        refine aw_froz 901 rfl ?_
        refine aw_froz 902 rfl ?_
        repeat (first | refine wk ?_)
        exact fin2
end Go.Proofs.Ytpaeihifcmohkaa
namespace Go.Proofs.Ytpaeihifcmohkaa
open Go.RowKit
set_option maxRecDepth 100000

theorem SP.lift_in {n : Nat} {s : SP} {T A : List Int} (h : TL n T A s.term) {m : Nat} (hm : m < T.length) : s.lift T[m] = s ∧ ∃ ha : m < A.length, s.lifted T[m] = A[m] := by
  have hA := h.are
  have hx := h.mem _ (List.getElem_mem hm)
  have e : s.lift T[m] = s := by rw [SP.lift, if_neg (by omega), if_neg (by omega)]
  subst hA
  refine ⟨e, by simpa using hm, ?_⟩
  rw [SP.lifted, if_neg (by omega), e]; simp
theorem SP.lift_out {n : Nat} {s : SP} {T A : List Int} (h : TL n T A s.term) {x : Int} (hx : x < 0) (hn : (-1 - x).toNat < n) (hT : x ∉ T) (hv : 0 ≤ s.vars) :
    s.lift x = ⟨s.vars + 1, s.rules ++ [⟨s.vars, [x]⟩], s.frags ++ [[]], s.term.set (-1 - x).toNat s.vars⟩ ∧ s.lifted x = s.vars ∧ TL n (T ++ [x]) (A ++ [s.vars]) (s.lift x).term := by
  have ho := h.out x hx hn hT
  have e : s.lift x = ⟨s.vars + 1, s.rules ++ [⟨s.vars, [x]⟩], s.frags ++ [[]], s.term.set (-1 - x).toNat s.vars⟩ := by rw [SP.lift, if_neg (by omega), if_pos ho]
  refine ⟨e, ?_, ?_⟩
  · have hl := h.len
    rw [SP.lifted, if_neg (by omega), e]; simp [List.getD_eq_getElem?_getD, show (-1 - x).toNat < s.term.length by omega]
  · rw [e]; exact h.add hx hn hT hv
abbrev stBox (g : Gram) (v : Int) (k1 n1 k2 n2 : Nat) : Ob := .box 50 [.d (iD v), .d (iD g.terms), .d (iD g.start), .own k1 n1, .own k2 n2, .d nilT]
abbrev putH (g : Gram) (v : Int) (R : List Rule) (F : List (List Frag)) : Hp := [(1000, stBox g v 1001 R.length 1002 F.length), (1001, .row 44 2 (R.map (ruleD false))), (1002, .row 97 1 (F.map (fragsD false)))]
theorem put_sim {g : Gram} {V v : Int} {R : List Rule} {F : List (List Frag)} {right : List Int} {l : List Frag} (h1 : R.length ≤ 100000) (h2 : F.length ≤ 100000) :
    ACalls Try.prog 90 [I v, .d (ints false right), .d (fragsD false l), .ptr 1000 0] (putH g V R F) (.tup []) (putH g V (R ++ [⟨v, right⟩]) (F ++ [l])) := by
  refine ACalls.intro (n := 23) Try.func90 rfl rfl (by simp) (by rfl) ?_
  simp only [argFr]
  have e1 : (R ++ [(⟨v, right⟩ : Rule)]).map (ruleD false) = R.map (ruleD false) ++ [.agg [iD v, ints false right]] := by simp [ruleD]
  have e2 : (F ++ [l]).map (fragsD false) = F.map (fragsD false) ++ [fragsD false l] := by simp
  have e3 : (R ++ [(⟨v, right⟩ : Rule)]).length = (R.map (ruleD false) ++ [D.agg [iD v, ints false right]]).length := by simp
  have e4 : (F ++ [l]).length = (F.map (fragsD false) ++ [fragsD false l]).length := by simp
  unfold putH
  rw [e1, e2, e3, e4]
  repeat (first | refine wk ?_)
  exact fin
theorem put_simN {g : Gram} {V v : Int} {R : List Rule} {F : List (List Frag)} {right : List Int} (h1 : R.length ≤ 100000) (h2 : F.length ≤ 100000) :
    ACalls Try.prog 90 [I v, .d (ints false right), .d nilT, .ptr 1000 0] (putH g V R F) (.tup []) (putH g V (R ++ [⟨v, right⟩]) (F ++ [[]])) :=
  (put_sim (l := []) h1 h2).le ⟨.refl _, .refl _, .nil _ _, .refl _, trivial⟩
theorem put_simP {g : Gram} {V v r : Int} {R : List Rule} {F : List (List Frag)} {right : List Int} (h1 : R.length ≤ 100000) (h2 : F.length ≤ 100000) :
    ACalls Try.prog 90 [I v, .d (ints false right), .d (.sl false 3 [.agg [iD 1, iD r, .sl false 3 [holeD 0, holeD 1]]]), .ptr 1000 0] (putH g V R F) (.tup []) (putH g V (R ++ [⟨v, right⟩]) (F ++ [[.mk 1 r holes2]])) := by
  have h := put_sim (g := g) (V := V) (v := v) (right := right) (l := [.mk 1 r holes2]) h1 h2
  rw [show fragsD false [.mk 1 r holes2] = .sl false 3 [.agg [iD 1, iD r, fragsD false holes2]] by simp [fragsD, fragD, fragDs_map], holes2_d] at h
  exact h.le ⟨.refl _, .refl _, .sl (.cons (.agg (.cons (.refl _) (.cons (.refl _) (.cons (.sl (.cons (holeD_le _) (.cons (holeD_le _) .nil))) .nil)))) .nil), .refl _, trivial⟩
theorem put_simH {g : Gram} {V v : Int} {R : List Rule} {F : List (List Frag)} {right : List Int} (h1 : R.length ≤ 100000) (h2 : F.length ≤ 100000) :
    ACalls Try.prog 90 [I v, .d (ints false right), .d (.sl false 3 [holeD 0, holeD 1]), .ptr 1000 0] (putH g V R F) (.tup []) (putH g V (R ++ [⟨v, right⟩]) (F ++ [holes2])) := by
  have h := put_sim (g := g) (V := V) (v := v) (right := right) (l := holes2) h1 h2
  rw [holes2_d] at h
  exact h.le ⟨.refl _, .refl _, .sl (.cons (holeD_le _) (.cons (holeD_le _) .nil)), .refl _, trivial⟩
theorem refHole_sim {k : Int} : ACalls Try.prog 93 [I k] [] (.d (holeD k)) [] := by
  refine ACalls.intro (n := 5) Try.func93 rfl rfl (by simp) (by rfl) ?_
  simp only [argFr]
  repeat (first | refine wk ?_)
  exact fin
theorem splitStart_TL (g : Gram) : TL g.terms.toNat [] [] (splitStart g).term := by
  refine ⟨List.length_replicate, rfl, fun x hx => by simp at hx, fun x h1 h2 _ => ?_⟩
  show (List.replicate g.terms.toNat (-1 : Int)).getD _ 0 < 0
  rw [List.getD_eq_getElem?_getD, List.getElem?_replicate, if_pos h2]; decide
theorem rests_lt {v : Int} {l : List Int} {j : Nat} (h : j < l.length - 2) : (rests v l).getD j 0 = v + j := by
  rw [rests, List.getD_eq_getElem?_getD, List.getElem?_append_left (by simpa using h)]; simp [h]
theorem rests_last {v : Int} {l : List Int} {j : Nat} (h : j = l.length - 2) : (rests v l).getD j 0 = l.getD (l.length - 1) 0 := by
  rw [rests, List.getD_eq_getElem?_getD, List.getElem?_append_right (by simp [h])]; simp [h]
theorem getD_at {xs : List Int} {i : Nat} (h : i < xs.length) : xs.getD i 0 = xs[i] := by rw [List.getD_eq_getElem?_getD, List.getElem?_eq_getElem h]; rfl
theorem pairs_eq (q : SP) (v r : Int) (l rs : List Int) (k : Nat) {a b c : Int} {x : List Frag} (ha : a = if k = 0 then v else rs.getD (k - 1) 0) (hb : b = l.getD k 0) (hc : c = rs.getD k 0) (hx : x = if k = 0 then [.mk 1 r holes2] else holes2) :
    (q.pairs v r l rs k).rules ++ [⟨a, [b, c]⟩] = (q.pairs v r l rs (k + 1)).rules ∧ (q.pairs v r l rs k).frags ++ [x] = (q.pairs v r l rs (k + 1)).frags := by
  subst ha hb hc hx; constructor <;> simp [SP.pairs, pairR, pairF]
theorem pairs_step (q : SP) (left r : Int) (ls : List Int) (m j : Nat) (hls : ls.length = m + 2) (hj : j < m + 1) :
    ((q.more m).pairs left r ls (rests q.vars ls) j).rules ++ [⟨if j = 0 then left else q.vars + (j : Int) - 1, [ls[j], if j = m then ls[m + 1] else q.vars + (j : Int)]⟩] = ((q.more m).pairs left r ls (rests q.vars ls) (j + 1)).rules ∧
    ((q.more m).pairs left r ls (rests q.vars ls) j).frags ++ [if j = 0 then [.mk 1 r holes2] else holes2] = ((q.more m).pairs left r ls (rests q.vars ls) (j + 1)).frags := by
  refine pairs_eq _ _ _ _ _ _ ?_ ?_ ?_ rfl
  · split
    · rfl
    · rw [rests_lt (by omega)]; omega
  · exact (getD_at (by omega)).symm
  · split
    · rw [rests_last (by omega), show ls.length - 1 = m + 1 by omega]; exact (getD_at (by omega)).symm
    · exact (rests_lt (by omega)).symm
theorem SP.lift_terms {s : SP} {x : Int} (hx : 0 ≤ x) : s.lift x = s ∧ s.lifted x = x := ⟨by rw [SP.lift, if_pos hx], by rw [SP.lifted, if_pos hx]⟩
end Go.Proofs.Ytpaeihifcmohkaa
