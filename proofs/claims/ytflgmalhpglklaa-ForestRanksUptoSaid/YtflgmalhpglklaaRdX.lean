/-
  How a law's arguments are read: trees.
-/
import Derived.Test.YtflgmalhpglklaaReadS
set_option linter.unusedVariables false
set_option linter.unusedSimpArgs false
set_option linter.unusedSectionVars false
namespace Go.Proofs.Ytflgmalhpglklaa
open Go.ChangeShapes Go.WideShapes Go.ChangeAt Go.RowKit
set_option maxRecDepth 100000

theorem cells_tree : Try.prog.cellsOf 84 = 2 := by kernel_rfl
theorem cells_trees : Try.prog.cellsOf 29 = 1 := by kernel_rfl
theorem cnts_sum : ∀ (l : List Tree), (l.map cnt).sum = cnts l
  | [] => rfl
  | x :: l => by simp [cnts, cnts_sum l]
theorem treeD_size (x : Tree) : (treeD false x).size = 2 := by cases x; rfl
theorem rdTreeN : ∀ (k : Nat), RdN Try.prog (2 * k) 84 (treeD false) (fun x n => cnt x ≤ n)
  | 0 => fun H enc w held n cs y hn _ => by omega
  | k + 1 => fun H enc w held n cs x hn h => by
    have hs := rd_sliceS Try.underlying29 cells_tree (by decide) treeD_size (rdTreeN k)
    obtain ⟨xs, n', hn', rfl, hl, hx, hf⟩ := DataW.trod_struct Try.underlying84 h
    have f0 := hf 0 _ rfl
    have f1 := hf 1 _ rfl
    clear hf
    replace hl := hl.trans cells_tree
    match cs, hl, xs, hx with
    | [c0, c1], _, [x0, x1], _ =>
      simp only [cells_int, cells_trees, List.drop_zero, List.drop_succ_cons, List.take_succ_cons, List.take_zero, List.getElem?_cons_zero, List.getElem?_cons_succ] at f0 f1
      obtain ⟨r, h1, _⟩ := rdInt _ _ _ _ _ _ _ f0
      obtain ⟨ks, h2, h3⟩ := hs _ _ _ _ _ _ _ (by omega) f1
      refine ⟨.mk r ks, ?_, ?_⟩
      · rw [treeD_eq]
        simp only [D.Rep]
        exact dreps_cons (c := [c0]) h1 (dreps_cons (c := [c1]) h2 dreps_nil)
      · rw [cnts_sum] at h3
        have := bulk_pos x1.1
        simp only [cnt, Rows.uptoBulk, List.map_cons, List.map_nil, Rows.uptoBulkAll]
        omega
theorem rdTree : Rd Try.prog 84 (fun x : Tree => .agg [iD x.rule, treesD false x.kids]) (fun x n => cnt x ≤ n) := fun H enc w held n cs y hy => by
  obtain ⟨r, h1, h2⟩ := rdTreeN (n + 1) H enc w held n cs y (by omega) hy
  rw [treeD_eq] at h1
  exact ⟨r, h1, h2⟩
end Go.Proofs.Ytflgmalhpglklaa
