/-
  Sim: split.Make. Sim: the reference's SplitOf: its pieces. Chart, plain: in how many ways symbols stand for a word.
-/
import Derived.Test.YticnpbopelgmiaaSpA
import Derived.Test.YticnpbopelgmiaaQTreeA
import Derived.Test.YticnpbopelgmiaaT1
set_option linter.unusedVariables false
set_option linter.unusedSimpArgs false
set_option linter.unusedSectionVars false
namespace Go.Proofs.Yticnpbopelgmiaa
open Go.RowKit
set_option maxRecDepth 100000

abbrev spBox (g : Gram) (s : SP) : Ob := .box 121 [.d (iD s.vars), .d (iD g.terms), .d (iD g.start), .own 901 s.rules.length, .own 902 s.frags.length, .d nilT, .own 903 g.terms.toNat, .d (bD s.many)]
set_option maxHeartbeats 4000000 in
theorem splitMake_sim {t : Bool} {g : Gram} (hf : g.fit) :
    ACalls Try.prog 31 [.d (gramD t g)] [] (.tup [.d (stepD false (splitS g).1), .d (faultD (splitS g).2)]) [] := by
  refine ACalls.intro (n := 86) Try.func31 rfl rfl (by simp) (by rfl) ?_
  simp only [argFr]
  have hr1 := hf.rules
  have hr2 := hf.right
  repeat (first | refine wk ?_)
  refine s_call [] (hA := gramCheck_sim) (hr := ?_)
  by_cases hc : (gramFault g).code = 0
  rotate_left
  · rw [show splitS g = (zeroStep, gramFault g) by rw [splitS, if_neg hc]]
    repeat (first | refine wk ?_)
    exact fin2
  have hg := gram_ok hc
  have hv1 := hg.vars1
  have hv2 := hg.vars
  have ht1 := hg.terms0
  have ht2 := hg.terms
  repeat (first | refine wk ?_)
  refine aw_nilCell 16 3 901 41 2 rfl rfl rfl rfl ?_
  refine aw_nilCell 16 4 902 65 1 rfl rfl rfl rfl ?_
  refine aw_nilCell 16 6 903 3 1 rfl rfl rfl rfl ?_
  have ht0 : ((g.terms.toNat : Nat) : Int) = g.terms := by omega
  refine t_loop (X := Nat) (fun k => k ≤ g.terms.toNat) (fun k => [(30, I k), (29, .d (iD g.terms)), (5, .ptr 16 0), (3, .ptr 3 0), (2, .ptr 2 0), (1, .ptr 1 0)])
    (fun k => [(16, .box 121 [.d (iD g.vars), .d (iD g.terms), .d (iD g.start), .own 901 0, .own 902 0, .d nilT, .own 903 k, .d (bD false)]), (901, .row 41 2 []), (902, .row 65 1 []), (903, .row 3 1 ((List.replicate k (-1 : Int)).map iD)), (1, gramBox t g), (2, stepBox false zeroStep), (3, .box 33 [.d (iD 0), .d (iD 0)])]) (fun k => g.terms.toNat - k) 0 (Nat.zero_le _) ?_
  · intro k hk
    have hrep : (List.replicate k (-1 : Int)).length = k := List.length_replicate
    by_cases hlt : (k : Int) < g.terms
    · have e : List.replicate (k + 1) (-1 : Int) = List.replicate k (-1 : Int) ++ [-1] := List.replicate_succ'
      repeat (first | refine wk ?_)
      exact t_next (k + 1)
    · obtain rfl : k = g.terms.toNat := by omega
      repeat (first | refine wk ?_)
      clear hrep hlt hk
      have hfit := splitStart_fit hg
      have hm0 : bD false = bD (splitStart g).many := by rw [hfit.2]
      rw [hm0]
      refine t_loop (X := Nat × SP) (fun x => x.1 ≤ g.rules.length ∧ splitGo (splitStart g) g.rules 0 = splitGo x.2 (g.rules.drop x.1) x.1 ∧ x.2.fit g ∧ x.2.many = false) (fun x => [(45, I x.1), (44, I g.rules.length), (43, .d (rulesD t g.rules)), (5, .ptr 16 0), (3, .ptr 3 0), (2, .ptr 2 0)])
        (fun x => [(16, spBox g x.2), (901, .row 41 2 (x.2.rules.map (ruleD false))), (902, .row 65 1 (x.2.frags.map (fragsD false))), (903, .row 3 1 (x.2.term.map iD)), (2, stepBox false zeroStep), (3, .box 33 [.d (iD 0), .d (iD 0)])]) (fun x => g.rules.length - x.1) (0, splitStart g) ⟨Nat.zero_le _, rfl, hfit.1, hfit.2⟩ ?_
      rintro ⟨i, s⟩ ⟨h1, h2, h3, h4⟩
      dsimp only at h1 h2 h3 h4 ⊢
      by_cases hlt : i < g.rules.length
      · have hmem := List.getElem_mem hlt
        have hrf := hg.rule hmem
        have hone := h3.one hg hlt hrf
        have hgo : splitGo s (g.rules.drop i) i = bif (s.one i g.rules[i]).many then .error i else splitGo (s.one i g.rules[i]) (g.rules.drop (i + 1)) (i + 1) := by
          rw [List.drop_eq_getElem_cons hlt, splitGo]
        have hb := many_no h4
        have hpl := h3.parts.len
        have hrr := hg.right _ hmem
        by_cases h5 : g.rules[i].right.length < 2
        · have e1 : s.one i g.rules[i] = s.rule g.rules[i].left g.rules[i].right (nodeF i (kids g.rules[i].right).length) := by rw [SP.one, if_pos h5]
          have hkl := kids_le g.rules[i].right
          repeat (first | refine wk ?_)
          refine s_call [(3, 905)] (hA := kids_sim) (hr := ?_)
          repeat (first | refine wk ?_)
          refine s_call [(20, 906)] (hA := node_sim) (hr := ?_)
          repeat (first | refine wk ?_)
          refine s_call [(1000, 16), (1001, 901), (1002, 902), (1003, 903)] (hA := rule_sim (g := g) (s := s)) (hr := ?_)
          repeat (first | refine wk ?_)
          rw [e1] at hone hgo
          by_cases hm : (s.rule g.rules[i].left g.rules[i].right (nodeF i (kids g.rules[i].right).length)).many = true
          · rw [show splitS g = (zeroStep, ⟨6, i⟩) by rw [splitS, if_pos hc, h2, hgo, hm]; rfl]
            repeat (first | refine wk ?_)
            exact fin2
          · rw [Bool.not_eq_true] at hm
            repeat (first | refine wk ?_)
            exact t_next (i + 1, (s.rule g.rules[i].left g.rules[i].right (nodeF i (kids g.rules[i].right).length))) (a := ⟨by dsimp only; omega, by rw [h2, hgo, hm]; rfl, hone, hm⟩)
        · have e1 : s.one i g.rules[i] = s.split g.rules[i].left i g.rules[i].right := by rw [SP.one, if_neg h5]
          have hlo := hg.lo _ hmem
          have htl := h3.tlen
          have hv := h3.vars
          repeat (first | refine wk ?_)
          have h5' : 2 ≤ g.rules[i].right.length := by omega
          have b1 : g.terms ≤ 80000 := by omega
          have b2 : 0 ≤ s.vars := by omega
          have b3 : s.vars ≤ 80000 := by omega
          have b4 : s.rules.length ≤ 80000 := by omega
          have b5 : s.frags.length ≤ 80000 := by omega
          refine s_call [(1000, 16), (1001, 901), (1002, 902), (1003, 903)] (hA := split_sim (s := s) (g := g) (r := i) (v := g.rules[i].left) (right := g.rules[i].right) hlo h5' hrr htl b1 b2 b3 b4 b5) (hr := ?_)
          repeat (first | refine wk ?_)
          rw [e1] at hone hgo
          generalize s.split g.rules[i].left i g.rules[i].right = q at *
          by_cases hm : q.many = true
          · rw [show splitS g = (zeroStep, ⟨6, i⟩) by rw [splitS, if_pos hc, h2, hgo, hm]; rfl]
            repeat (first | refine wk ?_)
            exact fin2
          · rw [Bool.not_eq_true] at hm
            repeat (first | refine wk ?_)
            exact t_next (i + 1, q) (a := ⟨by dsimp only; omega, by rw [h2, hgo, hm]; rfl, hone, hm⟩)
      · obtain rfl : i = g.rules.length := by omega
        rw [show splitS g = (⟨⟨s.vars, g.terms, g.start, s.rules⟩, s.frags, []⟩, ⟨0, 0⟩) by rw [splitS, if_pos hc, h2, List.drop_length]; rfl]
        refine aw_froz 901 rfl ?_
        refine aw_froz 902 rfl ?_
        repeat (first | refine wk ?_)
        exact fin2
end Go.Proofs.Yticnpbopelgmiaa
namespace Go.Proofs.Yticnpbopelgmiaa
open Go.RowKit
set_option maxRecDepth 100000

theorem getD_at {xs : List Int} {i : Nat} (h : i < xs.length) : xs.getD i 0 = xs[i] := by rw [List.getD_eq_getElem?_getD, List.getElem?_eq_getElem h]; rfl
end Go.Proofs.Yticnpbopelgmiaa
namespace Go.Proofs.Yticnpbopelgmiaa
open Go.RowKit

/-! ### Sums -/
def sumN : Nat → (Nat → Nat) → Nat
  | 0, _ => 0
  | n + 1, f => sumN n f + f n
theorem sumN_congr {f g : Nat → Nat} : ∀ {n : Nat}, (∀ x, x < n → f x = g x) → sumN n f = sumN n g
  | 0, _ => rfl
  | n + 1, h => by simp only [sumN]; rw [sumN_congr (fun x hx => h x (by omega)), h n (by omega)]
theorem sumN_zero {f : Nat → Nat} : ∀ {n : Nat}, (∀ x, x < n → f x = 0) → sumN n f = 0
  | 0, _ => rfl
  | n + 1, h => by simp only [sumN]; rw [sumN_zero (fun x hx => h x (by omega)), h n (by omega)]
theorem sumN_le {f g : Nat → Nat} : ∀ {n : Nat}, (∀ x, x < n → f x ≤ g x) → sumN n f ≤ sumN n g
  | 0, _ => Nat.le_refl _
  | n + 1, h => by simp only [sumN]; exact Nat.add_le_add (sumN_le (fun x hx => h x (by omega))) (h n (by omega))
theorem sumN_ext {f : Nat → Nat} {n m : Nat} (h : n ≤ m) (hz : ∀ x, n ≤ x → x < m → f x = 0) : sumN m f = sumN n f := by
  induction m with
  | zero => obtain rfl : n = 0 := by omega
            rfl
  | succ m ih =>
    by_cases e : n = m + 1
    · rw [e]
    · simp only [sumN]
      rw [ih (by omega) (fun x h1 h2 => hz x h1 (by omega)), hz m (by omega) (by omega)]; rfl
theorem sumN_single {f : Nat → Nat} {n k : Nat} (hk : k < n) (hz : ∀ x, x < n → x ≠ k → f x = 0) : sumN n f = f k := by
  rw [sumN_ext (n := k + 1) (by omega) (fun x h1 h2 => hz x h2 (by omega))]
  simp only [sumN]
  rw [sumN_zero (fun x hx => hz x (by omega) (by omega))]; omega
theorem le_sumN {f : Nat → Nat} {n k : Nat} (hk : k < n) : f k ≤ sumN n f := by
  induction n with
  | zero => omega
  | succ n ih =>
    simp only [sumN]
    by_cases e : k = n
    · subst e; omega
    · have := ih (by omega); omega
/-! ### At most so many -/
theorem min_add_r (M a b : Nat) : min M (a + min M b) = min M (a + b) := by omega
theorem min_add_l (M a b : Nat) : min M (min M a + b) = min M (a + b) := by omega
theorem min_mul_l {M a b : Nat} : min M (min M a * b) = min M (a * b) := by
  by_cases h : a ≤ M
  · rw [Nat.min_eq_right h]
  · rw [Nat.min_eq_left (by omega : M ≤ a)]
    cases b with
    | zero => rfl
    | succ b =>
      have h1 : M * 1 ≤ M * (b + 1) := Nat.mul_le_mul_left _ (by omega)
      have h2 : a * 1 ≤ a * (b + 1) := Nat.mul_le_mul_left _ (by omega)
      omega
theorem min_mul_r {M a b : Nat} : min M (a * min M b) = min M (a * b) := by rw [Nat.mul_comm, min_mul_l, Nat.mul_comm]
theorem min_sumN {M : Nat} {f g : Nat → Nat} : ∀ {n : Nat}, (∀ x, x < n → min M (f x) = min M (g x)) → min M (sumN n f) = min M (sumN n g)
  | 0, _ => rfl
  | n + 1, h => by
    have h1 := min_sumN (n := n) (fun x hx => h x (by omega))
    have h2 := h n (by omega)
    simp only [sumN]
    omega

/-! ### Symbols over a word -/
abbrev Cube := Nat → Nat → Nat → Nat
/-- One symbol from i to m. -/
def symN (N : Cube) (w : List Int) (s : Int) (i m : Nat) : Nat := if 0 ≤ s then N s.toNat i m else if m = i + 1 ∧ w[i]? = some (-1 - s) then 1 else 0
/-- Symbols, from i to j. -/
def wcn (N : Cube) (w : List Int) : List Int → Nat → Nat → Nat
  | [], i, j => if i = j then 1 else 0
  | s :: r, i, j => sumN (j + 1) fun m => if i ≤ m then symN N w s i m * wcn N w r m j else 0
/-! ### Monotone -/
def CLe (N N' : Cube) : Prop := ∀ v i j, N v i j ≤ N' v i j
theorem symN_mono {N N' : Cube} (h : CLe N N') (w : List Int) (s : Int) (i m : Nat) : symN N w s i m ≤ symN N' w s i m := by
  unfold symN; split
  · exact h _ _ _
  · exact Nat.le_refl _
theorem wcn_mono {N N' : Cube} (h : CLe N N') (w : List Int) : ∀ (r : List Int) (i j : Nat), wcn N w r i j ≤ wcn N' w r i j
  | [], _, _ => Nat.le_refl _
  | s :: r, i, j => by
    simp only [wcn]
    refine sumN_le fun m _ => ?_
    split
    · exact Nat.mul_le_mul (symN_mono h w s i m) (wcn_mono h w r m j)
    · exact Nat.le_refl _

/-! ### Rounds -/
/-- All rules of v together. -/
def allR (g : Gram) (N : Cube) (w : List Int) (v i j : Nat) : Nat := ((g.rules.filter fun r => decide (r.left = (v : Int))).map fun r => wcn N w r.right i j).sum
/-- One round: what the rules say where this is known. -/
def rnd (g : Gram) (w : List Int) (M : Nat) (N : Cube) : Cube := fun v i j => if (v : Int) < g.vars ∧ i ≤ j ∧ j ≤ w.length then min M (allR g N w v i j) else 0
def rnds (g : Gram) (w : List Int) (M : Nat) : Nat → Cube
  | 0 => fun _ _ _ => 0
  | k + 1 => rnd g w M (rnds g w M k)
def many (g : Gram) (w : List Int) (M : Nat) : Nat := g.vars.toNat * ((w.length + 1) * ((w.length + 1) * M))
/-- In the end. -/
def wcns (g : Gram) (w : List Int) (M : Nat) : Cube := rnds g w M (many g w M)
theorem sum_map_le {α : Type} {f g : α → Nat} : ∀ {l : List α}, (∀ x ∈ l, f x ≤ g x) → (l.map f).sum ≤ (l.map g).sum
  | [], _ => Nat.le_refl _
  | a :: l, h => by
    simp only [List.map_cons, List.sum_cons]
    exact Nat.add_le_add (h a (by simp)) (sum_map_le (fun x hx => h x (by simp [hx])))
theorem rnd_mono {g : Gram} {w : List Int} {M : Nat} {N N' : Cube} (h : CLe N N') : CLe (rnd g w M N) (rnd g w M N') := fun v i j => by
  unfold rnd
  split
  · have : allR g N w v i j ≤ allR g N' w v i j := sum_map_le (fun r _ => wcn_mono h w r.right i j)
    omega
  · exact Nat.le_refl _
theorem rnds_up {g : Gram} {w : List Int} {M : Nat} : ∀ k, CLe (rnds g w M k) (rnds g w M (k + 1))
  | 0 => fun _ _ _ => Nat.zero_le _
  | k + 1 => rnd_mono (rnds_up k)
theorem rnd_le {g : Gram} {w : List Int} {M : Nat} {N : Cube} (v i j : Nat) : rnd g w M N v i j ≤ M := by unfold rnd; split <;> omega
theorem rnds_le {g : Gram} {w : List Int} {M : Nat} : ∀ (k v i j : Nat), rnds g w M k v i j ≤ M
  | 0, _, _, _ => Nat.zero_le _
  | _ + 1, v, i, j => rnd_le v i j
def total (g : Gram) (w : List Int) (N : Cube) : Nat := sumN g.vars.toNat fun v => sumN (w.length + 1) fun i => sumN (w.length + 1) fun j => N v i j
theorem sumN_const {n c : Nat} : sumN n (fun _ => c) = n * c := by
  induction n with
  | zero => simp [sumN]
  | succ n ih => simp only [sumN, ih, Nat.add_mul]; omega
theorem total_le {g : Gram} {w : List Int} {M : Nat} {N : Cube} (h : ∀ v i j, N v i j ≤ M) : total g w N ≤ many g w M := by
  unfold total many
  rw [← sumN_const]
  refine sumN_le fun v _ => ?_
  rw [← sumN_const]
  refine sumN_le fun i _ => ?_
  rw [← sumN_const]
  exact sumN_le fun j _ => h v i j
theorem rnds_out {g : Gram} {w : List Int} {M : Nat} {k v i j : Nat} (h : ¬ ((v : Int) < g.vars ∧ i ≤ j ∧ j ≤ w.length)) : rnds g w M k v i j = 0 := by
  cases k with
  | zero => rfl
  | succ k => show rnd g w M _ v i j = 0; unfold rnd; rw [if_neg h]
theorem sumN_lt {f g : Nat → Nat} {n k : Nat} (hk : k < n) (h : ∀ x, x < n → f x ≤ g x) (hl : f k < g k) : sumN n f < sumN n g := by
  induction n with
  | zero => omega
  | succ n ih =>
    simp only [sumN]
    by_cases e : k = n
    · subst e
      have := sumN_le (f := f) (g := g) (n := k) (fun x hx => h x (by omega))
      omega
    · have := ih (by omega) (fun x hx => h x (by omega))
      have := h n (by omega)
      omega
theorem total_lt {g : Gram} {w : List Int} {M k : Nat} (h : rnds g w M (k + 1) ≠ rnds g w M k) : total g w (rnds g w M k) < total g w (rnds g w M (k + 1)) := by
  have hup := rnds_up (g := g) (w := w) (M := M) k
  have : ∃ v i j, rnds g w M k v i j ≠ rnds g w M (k + 1) v i j := Classical.byContradiction fun hn => h (by
    funext v i j
    exact Classical.byContradiction fun hne => hn ⟨v, i, j, fun e => hne e.symm⟩)
  obtain ⟨v, i, j, hne⟩ := this
  have hlt : rnds g w M k v i j < rnds g w M (k + 1) v i j := by have := hup v i j; omega
  have hin : (v : Int) < g.vars ∧ i ≤ j ∧ j ≤ w.length := Classical.byContradiction fun hn => by
    rw [rnds_out hn, rnds_out hn] at hlt; omega
  unfold total
  refine sumN_lt (k := v) (by omega) (fun x _ => sumN_le fun y _ => sumN_le fun z _ => hup x y z) ?_
  refine sumN_lt (k := i) (by omega) (fun y _ => sumN_le fun z _ => hup v y z) ?_
  exact sumN_lt (k := j) (by omega) (fun z _ => hup v i z) hlt
theorem rnds_stay {g : Gram} {w : List Int} {M k : Nat} (h : rnds g w M (k + 1) = rnds g w M k) : ∀ m, rnds g w M (k + m) = rnds g w M k
  | 0 => rfl
  | m + 1 => by
    show rnd g w M (rnds g w M (k + m)) = _
    rw [rnds_stay h m]; exact h
theorem rnds_total {g : Gram} {w : List Int} {M : Nat} : ∀ k, rnds g w M (k + 1) ≠ rnds g w M k → k < total g w (rnds g w M (k + 1))
  | 0, h => by have := total_lt h; omega
  | k + 1, h => by
    have h1 : rnds g w M (k + 1) ≠ rnds g w M k := fun e => h (by
      show rnd g w M (rnds g w M (k + 1)) = rnd g w M (rnds g w M k)
      rw [e])
    have := rnds_total k h1
    have := total_lt h
    omega
/-- While something comes there are not so many rounds. -/
theorem rnds_more {g : Gram} {w : List Int} {M k : Nat} (h : rnds g w M (k + 1) ≠ rnds g w M k) : k < many g w M :=
  Nat.lt_of_lt_of_le (rnds_total k h) (total_le (fun v i j => rnds_le (k + 1) v i j))
theorem wcns_fix (g : Gram) (w : List Int) (M : Nat) : rnd g w M (wcns g w M) = wcns g w M := Classical.byContradiction fun h => by
  have := rnds_more (g := g) (w := w) (M := M) (k := many g w M) h
  omega
theorem wcns_le (g : Gram) (w : List Int) (M v i j : Nat) : wcns g w M v i j ≤ M := rnds_le _ v i j
theorem wcns_in {g : Gram} {w : List Int} {M v i j : Nat} (h1 : (v : Int) < g.vars) (h2 : i ≤ j) (h3 : j ≤ w.length) : wcns g w M v i j = min M (allR g (wcns g w M) w v i j) := by
  conv => lhs; rw [← wcns_fix]
  unfold rnd; rw [if_pos ⟨h1, h2, h3⟩]
end Go.Proofs.Yticnpbopelgmiaa
