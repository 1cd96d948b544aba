/-
  How a law's arguments are read: trees. How a law's arguments are read: texts.
-/
import Derived.Test.YtkfeccbahpmadaaReadS
import Derived.Test.YtkfeccbahpmadaaSyH
set_option linter.unusedVariables false
set_option linter.unusedSimpArgs false
set_option linter.unusedSectionVars false
namespace Go.Proofs.Ytkfeccbahpmadaa
open Go.ChangeShapes Go.WideShapes Go.ChangeAt Go.RowKit
set_option maxRecDepth 100000

theorem cells_tree : Try.prog.cellsOf 115 = 2 := by kernel_rfl
theorem cells_trees : Try.prog.cellsOf 29 = 1 := by kernel_rfl
theorem cnts_sum : ∀ (l : List Tree), (l.map cnt).sum = cnts l
  | [] => rfl
  | x :: l => by simp [cnts, cnts_sum l]
theorem treeD_size (x : Tree) : (treeD false x).size = 2 := by cases x; rfl
theorem rdTreeN : ∀ (k : Nat), RdN Try.prog (2 * k) 115 (treeD false) (fun x n => cnt x ≤ n)
  | 0 => fun H enc w held n cs y hn _ => by omega
  | k + 1 => fun H enc w held n cs x hn h => by
    have hs := rd_sliceS Try.underlying29 cells_tree (by decide) treeD_size (rdTreeN k)
    obtain ⟨xs, n', hn', rfl, hl, hx, hf⟩ := DataW.trod_struct Try.underlying115 h
    have f0 := hf 0 _ rfl
    have f1 := hf 1 _ rfl
    clear hf
    replace hl := hl.trans cells_tree
    match cs, hl, xs, hx with
    | [c0, c1], _, [x0, x1], _ =>
      simp only [cells_int, cells_trees, List.drop_zero, List.drop_succ_cons, List.take_succ_cons, List.take_zero, List.getElem?_cons_zero, List.getElem?_cons_succ] at f0 f1
      obtain ⟨r, h1, _⟩ := rdInt _ _ _ _ _ _ _ f0
      obtain ⟨ks, h2, h3⟩ := hs _ _ _ _ _ _ _ (by omega) f1
      refine ⟨.mk r ks, ?_, ?_⟩
      · rw [treeD_eq]
        simp only [D.Rep]
        exact dreps_cons (c := [c0]) h1 (dreps_cons (c := [c1]) h2 dreps_nil)
      · rw [cnts_sum] at h3
        have := bulk_pos x1.1
        simp only [cnt, Rows.uptoBulk, List.map_cons, List.map_nil, Rows.uptoBulkAll]
        omega
theorem rdTree : Rd Try.prog 115 (fun x : Tree => .agg [iD x.rule, treesD false x.kids]) (fun x n => cnt x ≤ n) := fun H enc w held n cs y hy => by
  obtain ⟨r, h1, h2⟩ := rdTreeN (n + 1) H enc w held n cs y (by omega) hy
  rw [treeD_eq] at h1
  exact ⟨r, h1, h2⟩
end Go.Proofs.Ytkfeccbahpmadaa
namespace Go.Proofs.Ytkfeccbahpmadaa
open Go.ChangeShapes Go.WideShapes Go.ChangeAt Go.RowKit
set_option maxRecDepth 100000

theorem rd_str {P : Program} {t : TypeId} (hu : P.underlying t = some .string) : Rd P t (fun s : ByteArray => .raw (.string s)) (fun s n => s.size < n) := fun H enc w held n cs y h => by
  obtain ⟨s, rfl, rfl, _⟩ := DataW.trod_string hu h
  exact ⟨s, by simp [D.Rep, Value.oneCell'], by simp [Rows.uptoBulk]⟩
theorem cells_str : Try.prog.cellsOf 9 = 1 := by kernel_rfl
theorem cells_expr : Try.prog.cellsOf 85 = 3 := by kernel_rfl
theorem cells_exprs : Try.prog.cellsOf 83 = 1 := by kernel_rfl
theorem cells_dfn : Try.prog.cellsOf 87 = 5 := by kernel_rfl
theorem cells_dfns : Try.prog.cellsOf 42 = 1 := by kernel_rfl
theorem cells_text : Try.prog.cellsOf 44 = 1 := by kernel_rfl
theorem rdStr : Rd Try.prog 9 (fun s : ByteArray => sD s) (fun s n => s.size < n) := rd_str Try.underlying9
theorem eszs_sum : ∀ (l : List Expr), (l.map esz).sum = eszs l
  | [] => rfl
  | x :: l => by simp [eszs, eszs_sum l]
theorem exprD_size (x : Expr) : (exprD false x).size = 3 := by cases x; rfl
theorem rdExprN : ∀ (k : Nat), RdN Try.prog (2 * k) 85 (exprD false) (fun x n => esz x ≤ n)
  | 0 => fun H enc w held n cs y hn _ => by omega
  | k + 1 => fun H enc w held n cs x hn h => by
    have hs := rd_sliceS Try.underlying83 cells_expr (by decide) exprD_size (rdExprN k)
    obtain ⟨xs, n', hn', rfl, hl, hx, hf⟩ := DataW.trod_struct Try.underlying85 h
    have f0 := hf 0 _ rfl
    have f1 := hf 1 _ rfl
    have f2 := hf 2 _ rfl
    clear hf
    replace hl := hl.trans cells_expr
    match cs, hl, xs, hx with
    | [c0, c1, c2], _, [x0, x1, x2], _ =>
      simp only [cells_int, cells_str, cells_exprs, List.drop_zero, List.drop_succ_cons, List.take_succ_cons, List.take_zero, List.getElem?_cons_zero, List.getElem?_cons_succ] at f0 f1 f2
      obtain ⟨o, h0, _⟩ := rdInt _ _ _ _ _ _ _ f0
      obtain ⟨r, h1, _⟩ := rdStr _ _ _ _ _ _ _ f1
      obtain ⟨ks, h2, h3⟩ := hs _ _ _ _ _ _ _ (by omega) f2
      refine ⟨.mk o r ks, ?_, ?_⟩
      · rw [exprA_eq]
        simp only [D.Rep]
        exact dreps_cons (c := [c0]) h0 (dreps_cons (c := [c1]) h1 (dreps_cons (c := [c2]) h2 dreps_nil))
      · rw [eszs_sum] at h3
        have := bulk_pos x0.1
        have := bulk_pos x1.1
        simp only [esz, Rows.uptoBulk, List.map_cons, List.map_nil, Rows.uptoBulkAll]
        omega
instance : Inhabited Dfn := ⟨⟨⟨#[]⟩, 0, default⟩⟩
theorem rdDfn : Rd Try.prog 87 (dfnD false) (fun d n => esz d.e ≤ n) := fun H enc w held n cs x h => by
  obtain ⟨xs, n', hn', rfl, hl, hx, hf⟩ := DataW.trod_struct Try.underlying87 h
  have f0 := hf 0 _ rfl
  have f1 := hf 1 _ rfl
  have f2 := hf 2 _ rfl
  clear hf
  replace hl := hl.trans cells_dfn
  match cs, hl, xs, hx with
  | [c0, c1, c2, c3, c4], _, [x0, x1, x2], _ =>
    simp only [cells_int, cells_str, cells_expr, List.drop_zero, List.drop_succ_cons, List.take_succ_cons, List.take_zero, List.getElem?_cons_zero, List.getElem?_cons_succ] at f0 f1 f2
    obtain ⟨nm, h0, _⟩ := rdStr _ _ _ _ _ _ _ f0
    obtain ⟨a, h1, _⟩ := rdInt _ _ _ _ _ _ _ f1
    obtain ⟨e, h2, h3⟩ := rdExprN (n' + 1) H enc w held n' _ _ (by omega) f2
    refine ⟨⟨nm, a, e⟩, ?_, ?_⟩
    · rw [exprA_eq] at h2
      simp only [dfnD, D.Rep] at h2 ⊢
      exact dreps_cons (c := [c0]) h0 (dreps_cons (c := [c1]) h1 h2)
    · have := bulk_pos x0.1
      have := bulk_pos x1.1
      simp only [Rows.uptoBulk, List.map_cons, List.map_nil, Rows.uptoBulkAll]
      omega
theorem rdDfns : Rd Try.prog 42 (fun l : List Dfn => dfnsD false l) (ListΦ (fun d n => esz d.e ≤ n)) :=
  rd_slice Try.underlying42 cells_dfn (by decide) (fun _ => rfl) (fun _ _ _ h hm => Nat.le_trans h hm) rdDfn
def TextΦ (l : List Dfn) (n : Nat) : Prop := l.length ≤ n ∧ ∀ d ∈ l, esz d.e ≤ n
theorem TextΦ.fit {l : List Dfn} {n : Nat} (h : TextΦ l n) (hn : n ≤ 100000000) : TextFit l := ⟨Nat.le_trans h.1 hn, fun d hd => Nat.le_trans (h.2 d hd) hn⟩
theorem rdText : Rd Try.prog 44 (fun l : List Dfn => .agg [dfnsD false l]) TextΦ := fun H enc w held n cs x h => by
  obtain ⟨xs, n, rfl, rfl, hl, hx, hf⟩ := DataW.trod_struct Try.underlying44 h
  have f0 := hf 0 _ rfl
  clear hf
  replace hl := hl.trans cells_text
  match cs, hl, xs, hx with
  | [c0], _, [x0], _ =>
    simp only [cells_dfns, List.drop_zero, List.drop_succ_cons, List.take_succ_cons, List.take_zero, List.getElem?_cons_zero, List.getElem?_cons_succ] at f0
    obtain ⟨g, h0, b0, b1⟩ := rdDfns _ _ _ _ _ _ _ f0
    have hb : Rows.uptoBulk x0.1 ≤ Rows.uptoBulk (DataW.agg [x0.1]) := by simp [Rows.uptoBulk, Rows.uptoBulkAll]
    refine ⟨g, ?_, Nat.le_trans b0 hb, fun d hd => Nat.le_trans (b1 d hd) hb⟩
    simp only [D.Rep]
    exact dreps_cons (c := [c0]) h0 dreps_nil
end Go.Proofs.Ytkfeccbahpmadaa
