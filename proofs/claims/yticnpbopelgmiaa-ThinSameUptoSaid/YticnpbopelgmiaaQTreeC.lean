/-
  Sim: tree.Word, the grammar 'again', treeBegun; TreeOrders, TreeDoes return true. Chart: the laws' beginning, Heavy. Sim: steps that are the same; Node; StepFault. Sim: StepFault.
-/
import Derived.Test.YticnpbopelgmiaaQTreeA
import Derived.Test.YticnpbopelgmiaaS5
import Derived.Test.YticnpbopelgmiaaQChartP
import Derived.Test.YticnpbopelgmiaaQFactsK
import Derived.Test.YticnpbopelgmiaaQChH
import Derived.Test.YticnpbopelgmiaaSmN
set_option linter.unusedVariables false
set_option linter.unusedSimpArgs false
set_option linter.unusedSectionVars false
namespace Go.Proofs.Yticnpbopelgmiaa
open Go.RowKit
set_option maxRecDepth 100000

theorem word_top_sim {t u : Bool} {g : Gram} {x : Tree} (hl : g.rules.length ≤ 100000000) (hr : ∀ r ∈ g.rules, r.right.length ≤ 100000000) (hx : cnt x ≤ 100000000) :
    ACalls Try.prog 163 [.d (gramD t g), .d (treeA u x)] [] (.tup [.d (ints false (wordR g x)), .d (faultD (treeFault g x g.start))]) [] := by
  refine ACalls.intro (n := 20) Try.func163 rfl rfl (by simp) (by rfl) ?_
  simp only [argFr]
  repeat (first | refine wk ?_ | refine s_field (hr := ?_))
  refine s_call [] (hA := treeCheck_sim hl hr hx) (hr := ?_)
  by_cases h0 : (treeFault g x g.start).code = 0
  · obtain ⟨hg, h1, h2, h3⟩ := treeFault_zero h0
    repeat (first | refine wk ?_ | refine s_field (hr := ?_))
    refine s_call [] (hA := word0_sim hg h2 h1) (hr := ?_)
    rw [wordR, if_pos h0, h3]
    repeat (first | refine wkr ?_ | refine s_field (hr := ?_))
    refine aw_froz 900 rfl ?_
    repeat (first | refine wk ?_ | refine s_field (hr := ?_))
    exact fin
  · rw [wordR, if_neg h0]
    repeat (first | refine wk ?_ | refine s_field (hr := ?_))
    exact fin
end Go.Proofs.Yticnpbopelgmiaa
namespace Go.Proofs.Yticnpbopelgmiaa
open Go.RowKit
set_option maxRecDepth 100000
-- SimX

def heavyB (g : Gram) (w : List Int) : Bool := greatG g || decide (300 < w.length) || (decide (w.length ≤ 12) && decide (7 < w.length) && decide (40 < g.rules.length)) || (decide (w.length ≤ 12) && decide (5 < w.length) && decide (100 < g.rules.length))
set_option maxHeartbeats 4000000 in
theorem heavy_sim {t u : Bool} {g : Gram} {w : List Int} (hf : g.fit) (hw : w.length ≤ 100000000) : ACalls Try.prog 27 [.d (gramD t g), .d (ints u w)] [] (B (heavyB g w)) [] := by
  have hgg := greatGram_sim (t := t) (g := g) hf.rules hf.right
  have hrl := hf.rules
  unfold heavyB
  refine ACalls.intro (n := 44) Try.func27 rfl rfl (by simp) (by rfl) ?_
  simp only [argFr]
  repeat (first | refine wk ?_ | refine s_field (hr := ?_))
  refine s_call [] (hA := hgg) (hr := ?_)
  cases greatG g with
  | true =>
    simp only [Bool.true_or]
    ((repeat (first | refine wkz ?_ | refine s_field (hr := ?_))); (repeat (first | refine wk ?_ | refine s_field (hr := ?_))); (repeat (first | refine wkz ?_ | refine s_field (hr := ?_))); exact fin)
  | false =>
    by_cases h1 : 300 < w.length
    · rw [decide_eq_true h1]
      simp only [Bool.or_true, Bool.true_or]
      ((repeat (first | refine wkz ?_ | refine s_field (hr := ?_))); (repeat (first | refine wk ?_ | refine s_field (hr := ?_))); (repeat (first | refine wkz ?_ | refine s_field (hr := ?_))); exact fin)
    · rw [decide_eq_false h1]
      by_cases h2 : w.length ≤ 12
      · rw [decide_eq_true h2]
        by_cases h3 : 7 < w.length
        · have h3b : 5 < w.length := by omega
          rw [decide_eq_true h3, decide_eq_true h3b]
          by_cases h4 : 40 < g.rules.length
          · rw [decide_eq_true h4]
            simp only [Bool.true_and, Bool.or_true, Bool.true_or, Bool.false_or]
            ((repeat (first | refine wkz ?_ | refine s_field (hr := ?_))); (repeat (first | refine wk ?_ | refine s_field (hr := ?_))); (repeat (first | refine wkz ?_ | refine s_field (hr := ?_))); exact fin)
          · have h5 : ¬ 100 < g.rules.length := by omega
            rw [decide_eq_false h4, decide_eq_false h5]
            simp only [Bool.true_and, Bool.and_false, Bool.or_false]
            ((repeat (first | refine wkz ?_ | refine s_field (hr := ?_))); (repeat (first | refine wk ?_ | refine s_field (hr := ?_))); (repeat (first | refine wkz ?_ | refine s_field (hr := ?_))); exact fin)
        · rw [decide_eq_false h3]
          by_cases h3b : 5 < w.length
          · rw [decide_eq_true h3b]
            by_cases h4 : 100 < g.rules.length
            · rw [decide_eq_true h4]
              simp only [Bool.true_and, Bool.and_false, Bool.false_and, Bool.or_false, Bool.false_or]
              ((repeat (first | refine wkz ?_ | refine s_field (hr := ?_))); (repeat (first | refine wk ?_ | refine s_field (hr := ?_))); (repeat (first | refine wkz ?_ | refine s_field (hr := ?_))); exact fin)
            · rw [decide_eq_false h4]
              simp only [Bool.true_and, Bool.and_false, Bool.false_and, Bool.or_false, Bool.false_or]
              ((repeat (first | refine wkz ?_ | refine s_field (hr := ?_))); (repeat (first | refine wk ?_ | refine s_field (hr := ?_))); (repeat (first | refine wkz ?_ | refine s_field (hr := ?_))); exact fin)
          · rw [decide_eq_false h3b]
            simp only [Bool.true_and, Bool.and_false, Bool.false_and, Bool.or_false, Bool.false_or]
            ((repeat (first | refine wkz ?_ | refine s_field (hr := ?_))); (repeat (first | refine wk ?_ | refine s_field (hr := ?_))); (repeat (first | refine wkz ?_ | refine s_field (hr := ?_))); exact fin)
      · rw [decide_eq_false h2]
        simp only [Bool.true_and, Bool.and_false, Bool.false_and, Bool.or_false, Bool.false_or]
        ((repeat (first | refine wkz ?_ | refine s_field (hr := ?_))); (repeat (first | refine wk ?_ | refine s_field (hr := ?_))); (repeat (first | refine wkz ?_ | refine s_field (hr := ?_))); exact fin)
/-- So many rounds are enough. -/
def stays (g : Gram) (w : List Int) (M k : Nat) : Bool := (List.range g.vars.toNat).all fun v => (List.range (w.length + 1)).all fun i => (List.range (w.length + 1)).all fun j => decide (rnds g w M (k + 1) v i j = rnds g w M k v i j)
theorem wcns_at {g : Gram} {w : List Int} {M k : Nat} (h : stays g w M k = true) : wcns g w M = rnds g w M k := by
  refine (rnds_end ?_).symm
  funext v i j
  by_cases hin : (v : Int) < g.vars ∧ i ≤ j ∧ j ≤ w.length
  · simp only [stays, List.all_eq_true, List.mem_range, decide_eq_true_eq] at h
    exact h v (by omega) i (by omega) j (by omega)
  · rw [rnds_out hin, rnds_out hin]
end Go.Proofs.Yticnpbopelgmiaa
namespace Go.Proofs.Yticnpbopelgmiaa
open Go.RowKit
set_option maxRecDepth 100000

theorem node_sim {r : Int} {k : Nat} (hk : k ≤ 100000000 := by ((try simp only [List.length_map, List.length_append, List.length_cons, List.length_nil, List.length_replicate, List.length_set, List.length_take, List.length_drop]); first | omega | assumption)) : ACalls Try.prog 58 [I r, I k] [] (.own 20 1) [(20, .row 67 3 ((nodeF r k).map (fragD false)))] := by
  refine ACalls.intro (n := 21) Try.func58 rfl rfl (by simp) (by rfl) ?_
  simp only [argFr]
  repeat (first | refine wk ?_)
  refine aw_nil 5 900 67 3 rfl rfl rfl ?_
  refine t_loop (X := Nat) (fun x => x ≤ k) (fun x => [(8, I x), (7, I k), (0, I r), (5, .own 900 (holes x).length)]) (fun x => [(900, .row 67 3 ((holes x).map (fragD false)))]) (fun x => k - x) 0 (Nat.zero_le _) ?_
  intro i h1
  have hh : (holes i).length = i := by simp [holes]
  by_cases hlt : i < k
  · have e := holes_dsnoc false i
    have e' : (holes (i + 1)).length = (holes i).length + 1 := by rw [holes_snoc]; simp
    repeat (first | refine wk ?_)
    exact t_next (i + 1)
  · obtain rfl : i = k := by omega
    rw [nodeF_map]
    repeat (first | refine wk ?_)
    exact fin
abbrev stepBox (t : Bool) (s : Step) : Ob := .box 31 [.d (iD s.g.vars), .d (iD s.g.terms), .d (iD s.g.start), .d (rulesD t s.g.rules), .d (.sl t 1 (s.frags.map (fragsD t))), .d (treesD t s.empty)]
end Go.Proofs.Yticnpbopelgmiaa
namespace Go.Proofs.Yticnpbopelgmiaa
open Go.RowKit
set_option maxRecDepth 100000

end Go.Proofs.Yticnpbopelgmiaa
