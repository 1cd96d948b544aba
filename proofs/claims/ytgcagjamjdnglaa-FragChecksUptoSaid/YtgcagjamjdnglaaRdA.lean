/-
  How a law's arguments are read: trees. How a law's arguments are read: templates, steps.
-/
import Derived.Test.YtgcagjamjdnglaaReadS
import Derived.Test.YtgcagjamjdnglaaP1
set_option linter.unusedVariables false
set_option linter.unusedSimpArgs false
set_option linter.unusedSectionVars false
namespace Go.Proofs.Ytgcagjamjdnglaa
open Go.ChangeShapes Go.WideShapes Go.ChangeAt Go.RowKit
set_option maxRecDepth 100000

theorem cells_tree : Try.prog.cellsOf 46 = 2 := by kernel_rfl
theorem cells_trees : Try.prog.cellsOf 29 = 1 := by kernel_rfl
theorem cnts_sum : ∀ (l : List Tree), (l.map cnt).sum = cnts l
  | [] => rfl
  | x :: l => by simp [cnts, cnts_sum l]
theorem treeD_size (x : Tree) : (treeD false x).size = 2 := by cases x; rfl
theorem rdTreeN : ∀ (k : Nat), RdN Try.prog (2 * k) 46 (treeD false) (fun x n => cnt x ≤ n)
  | 0 => fun H enc w held n cs y hn _ => by omega
  | k + 1 => fun H enc w held n cs x hn h => by
    have hs := rd_sliceS Try.underlying29 cells_tree (by decide) treeD_size (rdTreeN k)
    obtain ⟨xs, n', hn', rfl, hl, hx, hf⟩ := DataW.trod_struct Try.underlying46 h
    have f0 := hf 0 _ rfl
    have f1 := hf 1 _ rfl
    clear hf
    replace hl := hl.trans cells_tree
    match cs, hl, xs, hx with
    | [c0, c1], _, [x0, x1], _ =>
      simp only [cells_int, cells_trees, List.drop_zero, List.drop_succ_cons, List.take_succ_cons, List.take_zero, List.getElem?_cons_zero, List.getElem?_cons_succ] at f0 f1
      obtain ⟨r, h1, _⟩ := rdInt _ _ _ _ _ _ _ f0
      obtain ⟨ks, h2, h3⟩ := hs _ _ _ _ _ _ _ (by omega) f1
      refine ⟨.mk r ks, ?_, ?_⟩
      · rw [treeD_eq]
        simp only [D.Rep]
        exact dreps_cons (c := [c0]) h1 (dreps_cons (c := [c1]) h2 dreps_nil)
      · rw [cnts_sum] at h3
        have := bulk_pos x1.1
        simp only [cnt, Rows.uptoBulk, List.map_cons, List.map_nil, Rows.uptoBulkAll]
        omega
theorem rdTree : Rd Try.prog 46 (fun x : Tree => .agg [iD x.rule, treesD false x.kids]) (fun x n => cnt x ≤ n) := fun H enc w held n cs y hy => by
  obtain ⟨r, h1, h2⟩ := rdTreeN (n + 1) H enc w held n cs y (by omega) hy
  rw [treeD_eq] at h1
  exact ⟨r, h1, h2⟩
end Go.Proofs.Ytgcagjamjdnglaa
namespace Go.Proofs.Ytgcagjamjdnglaa
open Go.ChangeShapes Go.WideShapes Go.ChangeAt Go.RowKit
set_option maxRecDepth 100000

theorem cells_frag : Try.prog.cellsOf 114 = 3 := by kernel_rfl
theorem cells_frags : Try.prog.cellsOf 86 = 1 := by kernel_rfl
theorem cells_fragss : Try.prog.cellsOf 28 = 1 := by kernel_rfl
theorem cells_step : Try.prog.cellsOf 31 = 6 := by kernel_rfl
theorem fszs_sum : ∀ (l : List Frag), (l.map fsz).sum = fszs l
  | [] => rfl
  | x :: l => by simp [fszs, fszs_sum l]
theorem fragD_size (x : Frag) : (fragD false x).size = 3 := by cases x; rfl
theorem rdFragN : ∀ (k : Nat), RdN Try.prog (2 * k) 114 (fragD false) (fun x n => fsz x ≤ n)
  | 0 => fun H enc w held n cs y hn _ => by omega
  | k + 1 => fun H enc w held n cs x hn h => by
    have hs := rd_sliceS Try.underlying86 cells_frag (by decide) fragD_size (rdFragN k)
    obtain ⟨xs, n', hn', rfl, hl, hx, hf⟩ := DataW.trod_struct Try.underlying114 h
    have f0 := hf 0 _ rfl
    have f1 := hf 1 _ rfl
    have f2 := hf 2 _ rfl
    clear hf
    replace hl := hl.trans cells_frag
    match cs, hl, xs, hx with
    | [c0, c1, c2], _, [x0, x1, x2], _ =>
      simp only [cells_int, cells_frags, List.drop_zero, List.drop_succ_cons, List.take_succ_cons, List.take_zero, List.getElem?_cons_zero, List.getElem?_cons_succ] at f0 f1 f2
      obtain ⟨o, h0, _⟩ := rdInt _ _ _ _ _ _ _ f0
      obtain ⟨r, h1, _⟩ := rdInt _ _ _ _ _ _ _ f1
      obtain ⟨ks, h2, h3⟩ := hs _ _ _ _ _ _ _ (by omega) f2
      refine ⟨.mk o r ks, ?_, ?_⟩
      · rw [fragA_eq]
        simp only [D.Rep]
        exact dreps_cons (c := [c0]) h0 (dreps_cons (c := [c1]) h1 (dreps_cons (c := [c2]) h2 dreps_nil))
      · rw [fszs_sum] at h3
        have := bulk_pos x0.1
        have := bulk_pos x1.1
        simp only [fsz, Rows.uptoBulk, List.map_cons, List.map_nil, Rows.uptoBulkAll]
        omega
theorem rdFrags : Rd Try.prog 86 (fun l : List Frag => fragsD false l) (fun l n => fszs l ≤ n) := fun H enc w held n cs y hy => by
  obtain ⟨r, h1, h2⟩ := rd_sliceS Try.underlying86 cells_frag (by decide) fragD_size (rdFragN (n + 1)) H enc w held n cs y (by omega) hy
  rw [fszs_sum] at h2
  exact ⟨r, h1, by omega⟩
theorem rdFragss : Rd Try.prog 28 (fun l : List (List Frag) => .sl false 1 (l.map (fragsD false))) (ListΦ (fun l n => fszs l ≤ n)) :=
  rd_slice Try.underlying28 cells_frags (by decide) (fun _ => rfl) (fun _ _ _ h hm => Nat.le_trans h hm) rdFrags
theorem rdTrees : Rd Try.prog 29 (fun l : List Tree => treesD false l) (fun l n => cnts l ≤ n) := fun H enc w held n cs y hy => by
  obtain ⟨r, h1, h2⟩ := rd_sliceS Try.underlying29 cells_tree (by decide) treeD_size (rdTreeN (n + 1)) H enc w held n cs y (by omega) hy
  rw [cnts_sum] at h2
  exact ⟨r, h1, by omega⟩
theorem Gram.le.fit {g : Gram} {n : Nat} (h : g.le n) (hn : n ≤ 100000000) : g.fit := ⟨Nat.le_trans h.1 hn, fun r hr => Nat.le_trans (h.2 r hr) hn⟩
def Step.le (s : Step) (n : Nat) : Prop := s.g.le n ∧ s.frags.length ≤ n ∧ (∀ l ∈ s.frags, fszs l ≤ n) ∧ cnts s.empty ≤ n
theorem Step.le.fit {s : Step} {n : Nat} (h : s.le n) (hn : n ≤ 100000000) : s.fit := ⟨h.1.fit hn, Nat.le_trans h.2.1 hn, fun l hl => Nat.le_trans (h.2.2.1 l hl) hn, Nat.le_trans h.2.2.2 hn⟩
theorem Gram.le.mono {g : Gram} {n m : Nat} (h : g.le n) (hn : n ≤ m) : g.le m := ⟨Nat.le_trans h.1 hn, fun r hr => Nat.le_trans (h.2 r hr) hn⟩
theorem rdStep : Rd Try.prog 31 (fun s : Step => .agg [iD s.g.vars, iD s.g.terms, iD s.g.start, rulesD false s.g.rules, .sl false 1 (s.frags.map (fragsD false)), treesD false s.empty]) Step.le := fun H enc w held n cs x h => by
  obtain ⟨xs, n, rfl, rfl, hl, hx, hf⟩ := DataW.trod_struct Try.underlying31 h
  have f0 := hf 0 _ rfl
  have f1 := hf 1 _ rfl
  have f2 := hf 2 _ rfl
  clear hf
  replace hl := hl.trans cells_step
  match cs, hl, xs, hx with
  | [c0, c1, c2, c3, c4, c5], _, [x0, x1, x2], _ =>
    simp only [cells_gram, cells_fragss, cells_trees, List.drop_zero, List.drop_succ_cons, List.take_succ_cons, List.take_zero, List.getElem?_cons_zero, List.getElem?_cons_succ] at f0 f1 f2
    obtain ⟨g, h0, b0⟩ := rdGram _ _ _ _ _ _ _ f0
    obtain ⟨fs, h1, b1⟩ := rdFragss _ _ _ _ _ _ _ f1
    obtain ⟨es, h2, b2⟩ := rdTrees _ _ _ _ _ _ _ f2
    have hb : Rows.uptoBulk x0.1 ≤ Rows.uptoBulk (DataW.agg [x0.1, x1.1, x2.1]) ∧ Rows.uptoBulk x1.1 ≤ Rows.uptoBulk (DataW.agg [x0.1, x1.1, x2.1]) ∧ Rows.uptoBulk x2.1 ≤ Rows.uptoBulk (DataW.agg [x0.1, x1.1, x2.1]) := by simp [Rows.uptoBulk, Rows.uptoBulkAll]; omega
    refine ⟨⟨g, fs, es⟩, ?_, b0.mono hb.1, Nat.le_trans b1.1 hb.2.1, fun l hl => Nat.le_trans (b1.2 l hl) hb.2.1, Nat.le_trans b2 hb.2.2⟩
    simp only [D.Rep] at h0 ⊢
    have := D.Reps.append h0 (dreps_cons (c := [c4]) h1 (dreps_cons (c := [c5]) h2 dreps_nil))
    exact this
end Go.Proofs.Ytgcagjamjdnglaa
