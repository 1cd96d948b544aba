/-
  Sim: tree.Word, the grammar 'again', treeBegun; TreeOrders, TreeDoes return true. Chart: the laws' beginning, Heavy. Sim: steps that are the same; Node; StepFault. Sim: StepFault. Thin: begun; ThinMakes. ThinThins returns true.
-/
import Derived.Test.YticnpbopelgmiaaQTreeB
import Derived.Test.YticnpbopelgmiaaS5
import Derived.Test.YticnpbopelgmiaaQChartP
import Derived.Test.YticnpbopelgmiaaQChartJ
import Derived.Test.YticnpbopelgmiaaQChH
import Derived.Test.YticnpbopelgmiaaSmN
import Derived.Test.YticnpbopelgmiaaQFoG
set_option linter.unusedVariables false
set_option linter.unusedSimpArgs false
set_option linter.unusedSectionVars false
namespace Go.Proofs.Yticnpbopelgmiaa
open Go.RowKit
set_option maxRecDepth 100000

theorem word_top_sim {t u : Bool} {g : Gram} {x : Tree} (hl : g.rules.length ≤ 100000000) (hr : ∀ r ∈ g.rules, r.right.length ≤ 100000000) (hx : cnt x ≤ 100000000) :
    ACalls Try.prog 163 [.d (gramD t g), .d (treeA u x)] [] (.tup [.d (ints false (wordR g x)), .d (faultD (treeFault g x g.start))]) [] := by
  refine ACalls.intro (n := 20) Try.func163 rfl rfl (by simp) (by rfl) ?_
  simp only [argFr]
  repeat (first | refine wk ?_ | refine s_field (hr := ?_))
  refine s_call [] (hA := treeCheck_sim hl hr hx) (hr := ?_)
  by_cases h0 : (treeFault g x g.start).code = 0
  · obtain ⟨hg, h1, h2, h3⟩ := treeFault_zero h0
    repeat (first | refine wk ?_ | refine s_field (hr := ?_))
    refine s_call [] (hA := word0_sim hg h2 h1) (hr := ?_)
    rw [wordR, if_pos h0, h3]
    repeat (first | refine wkr ?_ | refine s_field (hr := ?_))
    refine aw_froz 900 rfl ?_
    repeat (first | refine wk ?_ | refine s_field (hr := ?_))
    exact fin
  · rw [wordR, if_neg h0]
    repeat (first | refine wk ?_ | refine s_field (hr := ?_))
    exact fin
end Go.Proofs.Yticnpbopelgmiaa
namespace Go.Proofs.Yticnpbopelgmiaa
open Go.RowKit
set_option maxRecDepth 100000
-- SimX

def heavyB (g : Gram) (w : List Int) : Bool := greatG g || decide (300 < w.length) || (decide (w.length ≤ 12) && decide (7 < w.length) && decide (40 < g.rules.length)) || (decide (w.length ≤ 12) && decide (5 < w.length) && decide (100 < g.rules.length))
set_option maxHeartbeats 4000000 in
theorem heavy_sim {t u : Bool} {g : Gram} {w : List Int} (hf : g.fit) (hw : w.length ≤ 100000000) : ACalls Try.prog 27 [.d (gramD t g), .d (ints u w)] [] (B (heavyB g w)) [] := by
  have hgg := greatGram_sim (t := t) (g := g) hf.rules hf.right
  have hrl := hf.rules
  unfold heavyB
  refine ACalls.intro (n := 44) Try.func27 rfl rfl (by simp) (by rfl) ?_
  simp only [argFr]
  repeat (first | refine wk ?_ | refine s_field (hr := ?_))
  refine s_call [] (hA := hgg) (hr := ?_)
  cases greatG g with
  | true =>
    simp only [Bool.true_or]
    ((repeat (first | refine wkz ?_ | refine s_field (hr := ?_))); (repeat (first | refine wk ?_ | refine s_field (hr := ?_))); (repeat (first | refine wkz ?_ | refine s_field (hr := ?_))); exact fin)
  | false =>
    by_cases h1 : 300 < w.length
    · rw [decide_eq_true h1]
      simp only [Bool.or_true, Bool.true_or]
      ((repeat (first | refine wkz ?_ | refine s_field (hr := ?_))); (repeat (first | refine wk ?_ | refine s_field (hr := ?_))); (repeat (first | refine wkz ?_ | refine s_field (hr := ?_))); exact fin)
    · rw [decide_eq_false h1]
      by_cases h2 : w.length ≤ 12
      · rw [decide_eq_true h2]
        by_cases h3 : 7 < w.length
        · have h3b : 5 < w.length := by omega
          rw [decide_eq_true h3, decide_eq_true h3b]
          by_cases h4 : 40 < g.rules.length
          · rw [decide_eq_true h4]
            simp only [Bool.true_and, Bool.or_true, Bool.true_or, Bool.false_or]
            ((repeat (first | refine wkz ?_ | refine s_field (hr := ?_))); (repeat (first | refine wk ?_ | refine s_field (hr := ?_))); (repeat (first | refine wkz ?_ | refine s_field (hr := ?_))); exact fin)
          · have h5 : ¬ 100 < g.rules.length := by omega
            rw [decide_eq_false h4, decide_eq_false h5]
            simp only [Bool.true_and, Bool.and_false, Bool.or_false]
            ((repeat (first | refine wkz ?_ | refine s_field (hr := ?_))); (repeat (first | refine wk ?_ | refine s_field (hr := ?_))); (repeat (first | refine wkz ?_ | refine s_field (hr := ?_))); exact fin)
        · rw [decide_eq_false h3]
          by_cases h3b : 5 < w.length
          · rw [decide_eq_true h3b]
            by_cases h4 : 100 < g.rules.length
            · rw [decide_eq_true h4]
              simp only [Bool.true_and, Bool.and_false, Bool.false_and, Bool.or_false, Bool.false_or]
              ((repeat (first | refine wkz ?_ | refine s_field (hr := ?_))); (repeat (first | refine wk ?_ | refine s_field (hr := ?_))); (repeat (first | refine wkz ?_ | refine s_field (hr := ?_))); exact fin)
            · rw [decide_eq_false h4]
              simp only [Bool.true_and, Bool.and_false, Bool.false_and, Bool.or_false, Bool.false_or]
              ((repeat (first | refine wkz ?_ | refine s_field (hr := ?_))); (repeat (first | refine wk ?_ | refine s_field (hr := ?_))); (repeat (first | refine wkz ?_ | refine s_field (hr := ?_))); exact fin)
          · rw [decide_eq_false h3b]
            simp only [Bool.true_and, Bool.and_false, Bool.false_and, Bool.or_false, Bool.false_or]
            ((repeat (first | refine wkz ?_ | refine s_field (hr := ?_))); (repeat (first | refine wk ?_ | refine s_field (hr := ?_))); (repeat (first | refine wkz ?_ | refine s_field (hr := ?_))); exact fin)
      · rw [decide_eq_false h2]
        simp only [Bool.true_and, Bool.and_false, Bool.false_and, Bool.or_false, Bool.false_or]
        ((repeat (first | refine wkz ?_ | refine s_field (hr := ?_))); (repeat (first | refine wk ?_ | refine s_field (hr := ?_))); (repeat (first | refine wkz ?_ | refine s_field (hr := ?_))); exact fin)
/-- So many rounds are enough. -/
def stays (g : Gram) (w : List Int) (M k : Nat) : Bool := (List.range g.vars.toNat).all fun v => (List.range (w.length + 1)).all fun i => (List.range (w.length + 1)).all fun j => decide (rnds g w M (k + 1) v i j = rnds g w M k v i j)
theorem wcns_at {g : Gram} {w : List Int} {M k : Nat} (h : stays g w M k = true) : wcns g w M = rnds g w M k := by
  refine (rnds_end ?_).symm
  funext v i j
  by_cases hin : (v : Int) < g.vars ∧ i ≤ j ∧ j ≤ w.length
  · simp only [stays, List.all_eq_true, List.mem_range, decide_eq_true_eq] at h
    exact h v (by omega) i (by omega) j (by omega)
  · rw [rnds_out hin, rnds_out hin]
end Go.Proofs.Yticnpbopelgmiaa
namespace Go.Proofs.Yticnpbopelgmiaa
open Go.RowKit
set_option maxRecDepth 100000

abbrev stepBox (t : Bool) (s : Step) : Ob := .box 31 [.d (iD s.g.vars), .d (iD s.g.terms), .d (iD s.g.start), .d (rulesD t s.g.rules), .d (.sl t 1 (s.frags.map (fragsD t))), .d (treesD t s.empty)]
end Go.Proofs.Yticnpbopelgmiaa
namespace Go.Proofs.Yticnpbopelgmiaa
open Go.RowKit
set_option maxRecDepth 100000

end Go.Proofs.Yticnpbopelgmiaa
namespace Go.Proofs.Yticnpbopelgmiaa
open Go.RowKit
set_option maxRecDepth 100000
-- SimX

def tnG : Gram := ⟨1, 1, 0, [⟨0, [-1, 0]⟩, ⟨0, []⟩]⟩
theorem tnG_ok : tnG.ok := gram_ok (by kernel_rfl)
theorem tn_cyc : cycL tnG = [] := by kernel_rfl
def tnN : Cube := fun v i j => if v = 0 ∧ i = 0 ∧ j = 0 then 1 else 0
theorem tnN_is : wcns tnG [] manyC = tnN := by
  have h1 : wcns tnG [] manyC = rnds tnG [] manyC 2 := wcns_at (by kernel_rfl)
  rw [h1]
  funext v i j
  by_cases h : (v : Int) < tnG.vars ∧ i ≤ j ∧ j ≤ ([] : List Int).length
  · obtain ⟨q1, q2, q3⟩ := h
    have q1 : v < 1 := by have : tnG.vars = 1 := rfl; omega
    simp at q3
    obtain rfl : v = 0 := by omega
    obtain rfl : j = 0 := by omega
    obtain rfl : i = 0 := by omega
    decide +kernel
  · rw [rnds_out h]
    unfold tnN
    rw [if_neg (fun q => h ⟨by rw [q.1]; decide, by omega, by simp [q.2.2]⟩)]
theorem tn_cnt : cntF tnG [] = 1 := by unfold cntF; rw [tnN_is]; rfl
theorem tn_t (d L : Nat) : treeF tnG tnN [] (d + 2) 0 0 0 0 (L + 2) = some (.mk 1 [], L + 1) := by kernel_rfl
theorem tn_u {d L v n : Nat} (hd : 2 ≤ d) (hL : 2 ≤ L) (hv : v = 0) (hn : n = 0) : treeF tnG tnN [] d v 0 n 0 L = some (.mk 1 [], L - 2 + 1) := by
  obtain ⟨e, rfl⟩ : ∃ e, d = e + 2 := ⟨d - 2, by omega⟩
  obtain ⟨M, rfl⟩ : ∃ M, L = M + 2 := ⟨L - 2, by omega⟩
  subst hv hn
  rw [tn_t, Nat.add_sub_cancel]
theorem atF_isT {g : Gram} {w : List Int} {k L : Nat} {x : Tree} {N : Cube} (hN : wcns g w manyC = N) (h : treeF g N w 400 g.start.toNat 0 w.length k 400 = some (x, L)) : atF g w k = (x, ⟨0, 0⟩, L) := by
  subst hN
  unfold atF; rw [h]
theorem tn_at : atF tnG [] 0 = (.mk 1 [], ⟨0, 0⟩, 399) := atF_isT tnN_is (tn_u (by omega) (by omega) rfl rfl)
theorem tn_op : opF tnG [] = ⟨0, 0⟩ := by
  unfold opF
  rw [tn_cnt, if_neg (show ¬ 1 = manyC by decide), chF_of tnG_ok tn_cyc]
  rfl
theorem tn_list : fListF tnG [] = ([.mk 1 []], ⟨0, 0⟩) := by
  unfold fListF
  rw [tn_op, tn_cnt, if_pos rfl, if_neg (by omega), listF, tn_at, if_pos rfl, listF]
  rfl
theorem tn_nl : nlF tnG = some [[.mk 1 []]] := by
  have e : stG tnG 0 = tnG := rfl
  show nlA tnG 1 0 [] = _
  rw [nlA, e, tn_list, if_pos rfl, nlA]
  rfl
def tnW : TS := ⟨[⟨0, [-1, 0]⟩, ⟨0, [-1]⟩], [[.mk 1 0 [holeF 0]], [.mk 1 0 [.mk 1 1 []]]]⟩
theorem tn_A : thA [[.mk 1 []]] 0 tnG.rules ⟨[], []⟩ = .ok tnW := by kernel_rfl
theorem tn_thin : thinF tnG = (⟨⟨1, 1, 0, tnW.rules⟩, tnW.frags, [.mk 1 []]⟩, ⟨0, 0⟩) := by
  unfold thinF
  rw [tnG_ok.fault, if_pos rfl, if_pos tn_cyc, tn_nl]
  dsimp only
  rw [tn_A]
  rfl
theorem tn_make : ACalls Try.prog 16 [.d (.agg [iD 1, iD 1, iD 0, .sl false 2 [.agg [iD 0, ints false [-1, 0]], .agg [iD 0, nilT]]])] [] (.tup [.d (stepD false (thinF tnG).1), .d (faultD (thinF tnG).2)]) [] :=
  (thinMake_sim (t := false) tnG_ok.fit).le ⟨.agg (.cons (.refl _) (.cons (.refl _) (.cons (.refl _) (.cons (.sl (.cons (.refl _) (.cons (.agg (.cons (.refl _) (.cons (.nil _ _) .nil))) .nil))) .nil)))), trivial⟩
theorem thinBegun_sim : ACalls Try.prog 13 [] [] (B true) [] := by
  refine ACalls.intro (n := 36) Try.func13 rfl rfl (by simp) (by rfl) ?_
  simp only [argFr]
  have h := tn_make
  rw [tn_thin] at h
  repeat (first | refine wk ?_ | refine s_field (hr := ?_))
  --@
  refine s_callf [] (hA := h) (hr := ?_)
  repeat (first | refine wk ?_ | refine s_field (hr := ?_))
  --@
  exact fin
theorem thin_fit {g : Gram} : (thinF g).1.fit := by
  rcases thinF_cases g with ⟨_, h⟩ | ⟨nl, S, hg, hc, hn, hA, e⟩
  · rw [h]; exact ⟨⟨by decide, fun r hr => by simp [zeroStep] at hr⟩, by decide, fun l hl => by simp [zeroStep] at hl, by simp [zeroStep, cnts]⟩
  · rw [e]
    have hS := thin_good hg hc hn hA
    obtain ⟨h1, h2⟩ := nlF_at hn
    have hst := hg.start
    have hsn := hg.stN
    obtain ⟨q1, q2⟩ := h2 (stN g) (by omega)
    refine ⟨(hS.ok hg).fit, ?_, fun l hl => Nat.le_trans (hS.small l hl) (by decide), ?_⟩
    · have := hS.parts.len
      have := hS.rules
      show S.frags.length ≤ _
      omega
    · show cnts (nl.getD (stN g) []) ≤ _
      rw [q2]
      have k1 : ∀ (l : List Tree), (∀ x ∈ l, cnt x ≤ 400) → cnts l ≤ 400 * l.length := by
        intro l
        induction l with
        | nil => intro _; simp [cnts]
        | cons x l ih =>
          intro h
          have a1 := h x (by simp)
          have a2 := ih (fun y hy => h y (by simp [hy]))
          simp only [cnts, List.length_cons, Nat.mul_add]; omega
      have k2 := k1 _ (fun x hx => ((fList_ok q1).mem hx).2)
      have k3 := (fList_ok q1).len
      have k4 := (fList_ok q1).few
      have k5 : 400 * (fListF (stG g (stN g)) []).1.length ≤ 400 * 200 := Nat.mul_le_mul_left _ (by omega)
      omega
end Go.Proofs.Yticnpbopelgmiaa
namespace Go.Proofs.Yticnpbopelgmiaa
open Go.RowKit
set_option maxRecDepth 100000
-- SimX

end Go.Proofs.Yticnpbopelgmiaa
