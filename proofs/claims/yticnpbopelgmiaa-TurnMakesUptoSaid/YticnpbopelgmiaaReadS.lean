/-
  How a law's arguments are read: grammars, trees.
-/
import Derived.Test.YticnpbopelgmiaaQGramC
import Derived.Test.YticnpbopelgmiaaQTurnI
set_option linter.unusedVariables false
set_option linter.unusedSimpArgs false
set_option linter.unusedSectionVars false
namespace Go.Proofs.Yticnpbopelgmiaa
open Go.ChangeShapes Go.WideShapes Go.ChangeAt Go.RowKit
set_option maxRecDepth 100000

theorem cells_int : Try.prog.cellsOf 3 = 1 := by kernel_rfl
theorem cells_ints : Try.prog.cellsOf 39 = 1 := by kernel_rfl
theorem cells_rule : Try.prog.cellsOf 41 = 2 := by kernel_rfl
theorem cells_rules : Try.prog.cellsOf 22 = 1 := by kernel_rfl
theorem cells_gram : Try.prog.cellsOf 24 = 4 := by kernel_rfl
theorem rdInt : Rd Try.prog 3 iD (fun _ _ => True) := rd_int Try.underlying3
theorem rdInts : Rd Try.prog 39 (fun xs : List Int => ints false xs) (fun xs n => xs.length ≤ n) := fun H enc w held n cs y h => by
  obtain ⟨rs, h1, h2⟩ := rd_slice Try.underlying39 cells_int (by decide) (fun _ => rfl) (fun _ _ _ _ _ => trivial) rdInt H enc w held n cs y h
  exact ⟨rs, h1, h2.1⟩
theorem rdRule : Rd Try.prog 41 (ruleD false) (fun r n => r.right.length ≤ n) := fun H enc w held n cs x h => by
  obtain ⟨xs, n, rfl, rfl, hl, hx, hf⟩ := DataW.trod_struct Try.underlying41 h
  have f0 := hf 0 _ rfl
  have f1 := hf 1 _ rfl
  clear hf
  replace hl := hl.trans cells_rule
  match cs, hl, xs, hx with
  | [c0, c1], _, [x0, x1], _ =>
    simp only [cells_int, cells_ints, List.drop_zero, List.drop_succ_cons, List.take_succ_cons, List.take_zero, List.getElem?_cons_zero, List.getElem?_cons_succ] at f0 f1
    obtain ⟨l, h1, _⟩ := rdInt _ _ _ _ _ _ _ f0
    obtain ⟨rt, h2, h3⟩ := rdInts _ _ _ _ _ _ _ f1
    refine ⟨⟨l, rt⟩, ?_, ?_⟩
    · simp only [ruleD, D.Rep]
      exact dreps_cons (c := [c0]) h1 (dreps_cons (c := [c1]) h2 dreps_nil)
    · simp [Rows.uptoBulk, Rows.uptoBulkAll]; omega
theorem rdRules : Rd Try.prog 22 (fun rs : List Rule => rulesD false rs) (ListΦ (fun r n => r.right.length ≤ n)) :=
  rd_slice Try.underlying22 cells_rule (by decide) (fun _ => rfl) (fun _ _ _ h hm => Nat.le_trans h hm) rdRule
def Gram.le (g : Gram) (n : Nat) : Prop := g.rules.length ≤ n ∧ ∀ r ∈ g.rules, r.right.length ≤ n
theorem rdGram : Rd Try.prog 24 (fun g : Gram => .agg [iD g.vars, iD g.terms, iD g.start, rulesD false g.rules]) Gram.le := fun H enc w held n cs x h => by
  obtain ⟨xs, n, rfl, rfl, hl, hx, hf⟩ := DataW.trod_struct Try.underlying24 h
  have f0 := hf 0 _ rfl
  have f1 := hf 1 _ rfl
  have f2 := hf 2 _ rfl
  have f3 := hf 3 _ rfl
  clear hf
  replace hl := hl.trans cells_gram
  match cs, hl, xs, hx with
  | [c0, c1, c2, c3], _, [x0, x1, x2, x3], _ =>
    simp only [cells_int, cells_rules, List.drop_zero, List.drop_succ_cons, List.take_succ_cons, List.take_zero, List.getElem?_cons_zero, List.getElem?_cons_succ] at f0 f1 f2 f3
    obtain ⟨a, h0, _⟩ := rdInt _ _ _ _ _ _ _ f0
    obtain ⟨b, h1, _⟩ := rdInt _ _ _ _ _ _ _ f1
    obtain ⟨c, h2, _⟩ := rdInt _ _ _ _ _ _ _ f2
    obtain ⟨rs, h3, h4, h5⟩ := rdRules _ _ _ _ _ _ _ f3
    have hb : Rows.uptoBulk x3.1 ≤ Rows.uptoBulk (DataW.agg [x0.1, x1.1, x2.1, x3.1]) := by simp [Rows.uptoBulk, Rows.uptoBulkAll]; omega
    refine ⟨⟨a, b, c, rs⟩, ?_, Nat.le_trans h4 hb, fun r hr => Nat.le_trans (h5 r hr) hb⟩
    simp only [D.Rep]
    exact dreps_cons (c := [c0]) h0 (dreps_cons (c := [c1]) h1 (dreps_cons (c := [c2]) h2 (dreps_cons (c := [c3]) h3 dreps_nil)))
end Go.Proofs.Yticnpbopelgmiaa
