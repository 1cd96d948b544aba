/-
  Sim: the reference's SplitOf: its pieces.
-/
import Derived.Test.YtpaeihifcmohkaaSplitD
set_option linter.unusedVariables false
set_option linter.unusedSimpArgs false
namespace Go.Proofs.Ytpaeihifcmohkaa
open Go.RowKit
set_option maxRecDepth 100000

theorem SP.lift_in {n : Nat} {s : SP} {T A : List Int} (h : TL n T A s.term) {m : Nat} (hm : m < T.length) : s.lift T[m] = s ∧ ∃ ha : m < A.length, s.lifted T[m] = A[m] := by
  have hA := h.are
  have hx := h.mem _ (List.getElem_mem hm)
  have e : s.lift T[m] = s := by rw [SP.lift, if_neg (by omega), if_neg (by omega)]
  subst hA
  refine ⟨e, by simpa using hm, ?_⟩
  rw [SP.lifted, if_neg (by omega), e]; simp
theorem SP.lift_out {n : Nat} {s : SP} {T A : List Int} (h : TL n T A s.term) {x : Int} (hx : x < 0) (hn : (-1 - x).toNat < n) (hT : x ∉ T) (hv : 0 ≤ s.vars) :
    s.lift x = ⟨s.vars + 1, s.rules ++ [⟨s.vars, [x]⟩], s.frags ++ [[]], s.term.set (-1 - x).toNat s.vars⟩ ∧ s.lifted x = s.vars ∧ TL n (T ++ [x]) (A ++ [s.vars]) (s.lift x).term := by
  have ho := h.out x hx hn hT
  have e : s.lift x = ⟨s.vars + 1, s.rules ++ [⟨s.vars, [x]⟩], s.frags ++ [[]], s.term.set (-1 - x).toNat s.vars⟩ := by rw [SP.lift, if_neg (by omega), if_pos ho]
  refine ⟨e, ?_, ?_⟩
  · have hl := h.len
    rw [SP.lifted, if_neg (by omega), e]; simp [List.getD_eq_getElem?_getD, show (-1 - x).toNat < s.term.length by omega]
  · rw [e]; exact h.add hx hn hT hv
abbrev stBox (g : Gram) (v : Int) (k1 n1 k2 n2 : Nat) : Ob := .box 50 [.d (iD v), .d (iD g.terms), .d (iD g.start), .own k1 n1, .own k2 n2, .d nilT]
abbrev putH (g : Gram) (v : Int) (R : List Rule) (F : List (List Frag)) : Hp := [(1000, stBox g v 1001 R.length 1002 F.length), (1001, .row 44 2 (R.map (ruleD false))), (1002, .row 97 1 (F.map (fragsD false)))]
theorem put_sim {g : Gram} {V v : Int} {R : List Rule} {F : List (List Frag)} {right : List Int} {l : List Frag} (h1 : R.length ≤ 100000) (h2 : F.length ≤ 100000) :
    ACalls Try.prog 90 [I v, .d (ints false right), .d (fragsD false l), .ptr 1000 0] (putH g V R F) (.tup []) (putH g V (R ++ [⟨v, right⟩]) (F ++ [l])) := by
  refine ACalls.intro (n := 23) Try.func90 rfl rfl (by simp) (by rfl) ?_
  simp only [argFr]
  have e1 : (R ++ [(⟨v, right⟩ : Rule)]).map (ruleD false) = R.map (ruleD false) ++ [.agg [iD v, ints false right]] := by simp [ruleD]
  have e2 : (F ++ [l]).map (fragsD false) = F.map (fragsD false) ++ [fragsD false l] := by simp
  have e3 : (R ++ [(⟨v, right⟩ : Rule)]).length = (R.map (ruleD false) ++ [D.agg [iD v, ints false right]]).length := by simp
  have e4 : (F ++ [l]).length = (F.map (fragsD false) ++ [fragsD false l]).length := by simp
  unfold putH
  rw [e1, e2, e3, e4]
  repeat (first | refine wk ?_)
  exact fin
theorem put_simN {g : Gram} {V v : Int} {R : List Rule} {F : List (List Frag)} {right : List Int} (h1 : R.length ≤ 100000) (h2 : F.length ≤ 100000) :
    ACalls Try.prog 90 [I v, .d (ints false right), .d nilT, .ptr 1000 0] (putH g V R F) (.tup []) (putH g V (R ++ [⟨v, right⟩]) (F ++ [[]])) :=
  (put_sim (l := []) h1 h2).le ⟨.refl _, .refl _, .nil _ _, .refl _, trivial⟩
theorem put_simP {g : Gram} {V v r : Int} {R : List Rule} {F : List (List Frag)} {right : List Int} (h1 : R.length ≤ 100000) (h2 : F.length ≤ 100000) :
    ACalls Try.prog 90 [I v, .d (ints false right), .d (.sl false 3 [.agg [iD 1, iD r, .sl false 3 [holeD 0, holeD 1]]]), .ptr 1000 0] (putH g V R F) (.tup []) (putH g V (R ++ [⟨v, right⟩]) (F ++ [[.mk 1 r holes2]])) := by
  have h := put_sim (g := g) (V := V) (v := v) (right := right) (l := [.mk 1 r holes2]) h1 h2
  rw [show fragsD false [.mk 1 r holes2] = .sl false 3 [.agg [iD 1, iD r, fragsD false holes2]] by simp [fragsD, fragD, fragDs_map], holes2_d] at h
  exact h.le ⟨.refl _, .refl _, .sl (.cons (.agg (.cons (.refl _) (.cons (.refl _) (.cons (.sl (.cons (holeD_le _) (.cons (holeD_le _) .nil))) .nil)))) .nil), .refl _, trivial⟩
theorem put_simH {g : Gram} {V v : Int} {R : List Rule} {F : List (List Frag)} {right : List Int} (h1 : R.length ≤ 100000) (h2 : F.length ≤ 100000) :
    ACalls Try.prog 90 [I v, .d (ints false right), .d (.sl false 3 [holeD 0, holeD 1]), .ptr 1000 0] (putH g V R F) (.tup []) (putH g V (R ++ [⟨v, right⟩]) (F ++ [holes2])) := by
  have h := put_sim (g := g) (V := V) (v := v) (right := right) (l := holes2) h1 h2
  rw [holes2_d] at h
  exact h.le ⟨.refl _, .refl _, .sl (.cons (holeD_le _) (.cons (holeD_le _) .nil)), .refl _, trivial⟩
theorem refHole_sim {k : Int} : ACalls Try.prog 93 [I k] [] (.d (holeD k)) [] := by
  refine ACalls.intro (n := 5) Try.func93 rfl rfl (by simp) (by rfl) ?_
  simp only [argFr]
  repeat (first | refine wk ?_)
  exact fin
theorem splitStart_TL (g : Gram) : TL g.terms.toNat [] [] (splitStart g).term := by
  refine ⟨List.length_replicate, rfl, fun x hx => by simp at hx, fun x h1 h2 _ => ?_⟩
  show (List.replicate g.terms.toNat (-1 : Int)).getD _ 0 < 0
  rw [List.getD_eq_getElem?_getD, List.getElem?_replicate, if_pos h2]; decide
theorem rests_lt {v : Int} {l : List Int} {j : Nat} (h : j < l.length - 2) : (rests v l).getD j 0 = v + j := by
  rw [rests, List.getD_eq_getElem?_getD, List.getElem?_append_left (by simpa using h)]; simp [h]
theorem rests_last {v : Int} {l : List Int} {j : Nat} (h : j = l.length - 2) : (rests v l).getD j 0 = l.getD (l.length - 1) 0 := by
  rw [rests, List.getD_eq_getElem?_getD, List.getElem?_append_right (by simp [h])]; simp [h]
theorem getD_at {xs : List Int} {i : Nat} (h : i < xs.length) : xs.getD i 0 = xs[i] := by rw [List.getD_eq_getElem?_getD, List.getElem?_eq_getElem h]; rfl
theorem pairs_eq (q : SP) (v r : Int) (l rs : List Int) (k : Nat) {a b c : Int} {x : List Frag} (ha : a = if k = 0 then v else rs.getD (k - 1) 0) (hb : b = l.getD k 0) (hc : c = rs.getD k 0) (hx : x = if k = 0 then [.mk 1 r holes2] else holes2) :
    (q.pairs v r l rs k).rules ++ [⟨a, [b, c]⟩] = (q.pairs v r l rs (k + 1)).rules ∧ (q.pairs v r l rs k).frags ++ [x] = (q.pairs v r l rs (k + 1)).frags := by
  subst ha hb hc hx; constructor <;> simp [SP.pairs, pairR, pairF]
theorem pairs_step (q : SP) (left r : Int) (ls : List Int) (m j : Nat) (hls : ls.length = m + 2) (hj : j < m + 1) :
    ((q.more m).pairs left r ls (rests q.vars ls) j).rules ++ [⟨if j = 0 then left else q.vars + (j : Int) - 1, [ls[j], if j = m then ls[m + 1] else q.vars + (j : Int)]⟩] = ((q.more m).pairs left r ls (rests q.vars ls) (j + 1)).rules ∧
    ((q.more m).pairs left r ls (rests q.vars ls) j).frags ++ [if j = 0 then [.mk 1 r holes2] else holes2] = ((q.more m).pairs left r ls (rests q.vars ls) (j + 1)).frags := by
  refine pairs_eq _ _ _ _ _ _ ?_ ?_ ?_ rfl
  · split
    · rfl
    · rw [rests_lt (by omega)]; omega
  · exact (getD_at (by omega)).symm
  · split
    · rw [rests_last (by omega), show ls.length - 1 = m + 1 by omega]; exact (getD_at (by omega)).symm
    · exact (rests_lt (by omega)).symm
theorem SP.lift_terms {s : SP} {x : Int} (hx : 0 ≤ x) : s.lift x = s ∧ s.lifted x = x := ⟨by rw [SP.lift, if_pos hx], by rw [SP.lifted, if_pos hx]⟩
end Go.Proofs.Ytpaeihifcmohkaa
