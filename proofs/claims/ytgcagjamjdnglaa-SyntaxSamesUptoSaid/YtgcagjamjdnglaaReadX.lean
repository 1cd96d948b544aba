/-
  How a law's arguments are read: texts.
-/
import Derived.Test.YtgcagjamjdnglaaRdA
import Derived.Test.YtgcagjamjdnglaaSyH
set_option linter.unusedVariables false
set_option linter.unusedSimpArgs false
set_option linter.unusedSectionVars false
namespace Go.Proofs.Ytgcagjamjdnglaa
open Go.ChangeShapes Go.WideShapes Go.ChangeAt Go.RowKit
set_option maxRecDepth 100000

theorem rd_str {P : Program} {t : TypeId} (hu : P.underlying t = some .string) : Rd P t (fun s : ByteArray => .raw (.string s)) (fun s n => s.size < n) := fun H enc w held n cs y h => by
  obtain ⟨s, rfl, rfl, _⟩ := DataW.trod_string hu h
  exact ⟨s, by simp [D.Rep, Value.oneCell'], by simp [Rows.uptoBulk]⟩
theorem cells_str : Try.prog.cellsOf 9 = 1 := by kernel_rfl
theorem cells_expr : Try.prog.cellsOf 143 = 3 := by kernel_rfl
theorem cells_exprs : Try.prog.cellsOf 141 = 1 := by kernel_rfl
theorem cells_dfn : Try.prog.cellsOf 145 = 5 := by kernel_rfl
theorem cells_dfns : Try.prog.cellsOf 53 = 1 := by kernel_rfl
theorem cells_text : Try.prog.cellsOf 55 = 1 := by kernel_rfl
theorem rdStr : Rd Try.prog 9 (fun s : ByteArray => sD s) (fun s n => s.size < n) := rd_str Try.underlying9
theorem eszs_sum : ∀ (l : List Expr), (l.map esz).sum = eszs l
  | [] => rfl
  | x :: l => by simp [eszs, eszs_sum l]
theorem exprD_size (x : Expr) : (exprD false x).size = 3 := by cases x; rfl
theorem rdExprN : ∀ (k : Nat), RdN Try.prog (2 * k) 143 (exprD false) (fun x n => esz x ≤ n)
  | 0 => fun H enc w held n cs y hn _ => by omega
  | k + 1 => fun H enc w held n cs x hn h => by
    have hs := rd_sliceS Try.underlying141 cells_expr (by decide) exprD_size (rdExprN k)
    obtain ⟨xs, n', hn', rfl, hl, hx, hf⟩ := DataW.trod_struct Try.underlying143 h
    have f0 := hf 0 _ rfl
    have f1 := hf 1 _ rfl
    have f2 := hf 2 _ rfl
    clear hf
    replace hl := hl.trans cells_expr
    match cs, hl, xs, hx with
    | [c0, c1, c2], _, [x0, x1, x2], _ =>
      simp only [cells_int, cells_str, cells_exprs, List.drop_zero, List.drop_succ_cons, List.take_succ_cons, List.take_zero, List.getElem?_cons_zero, List.getElem?_cons_succ] at f0 f1 f2
      obtain ⟨o, h0, _⟩ := rdInt _ _ _ _ _ _ _ f0
      obtain ⟨r, h1, _⟩ := rdStr _ _ _ _ _ _ _ f1
      obtain ⟨ks, h2, h3⟩ := hs _ _ _ _ _ _ _ (by omega) f2
      refine ⟨.mk o r ks, ?_, ?_⟩
      · rw [exprA_eq]
        simp only [D.Rep]
        exact dreps_cons (c := [c0]) h0 (dreps_cons (c := [c1]) h1 (dreps_cons (c := [c2]) h2 dreps_nil))
      · rw [eszs_sum] at h3
        have := bulk_pos x0.1
        have := bulk_pos x1.1
        simp only [esz, Rows.uptoBulk, List.map_cons, List.map_nil, Rows.uptoBulkAll]
        omega
instance : Inhabited Dfn := ⟨⟨⟨#[]⟩, 0, default⟩⟩
theorem rdDfn : Rd Try.prog 145 (dfnD false) (fun d n => esz d.e ≤ n) := fun H enc w held n cs x h => by
  obtain ⟨xs, n', hn', rfl, hl, hx, hf⟩ := DataW.trod_struct Try.underlying145 h
  have f0 := hf 0 _ rfl
  have f1 := hf 1 _ rfl
  have f2 := hf 2 _ rfl
  clear hf
  replace hl := hl.trans cells_dfn
  match cs, hl, xs, hx with
  | [c0, c1, c2, c3, c4], _, [x0, x1, x2], _ =>
    simp only [cells_int, cells_str, cells_expr, List.drop_zero, List.drop_succ_cons, List.take_succ_cons, List.take_zero, List.getElem?_cons_zero, List.getElem?_cons_succ] at f0 f1 f2
    obtain ⟨nm, h0, _⟩ := rdStr _ _ _ _ _ _ _ f0
    obtain ⟨a, h1, _⟩ := rdInt _ _ _ _ _ _ _ f1
    obtain ⟨e, h2, h3⟩ := rdExprN (n' + 1) H enc w held n' _ _ (by omega) f2
    refine ⟨⟨nm, a, e⟩, ?_, ?_⟩
    · rw [exprA_eq] at h2
      simp only [dfnD, D.Rep] at h2 ⊢
      exact dreps_cons (c := [c0]) h0 (dreps_cons (c := [c1]) h1 h2)
    · have := bulk_pos x0.1
      have := bulk_pos x1.1
      simp only [Rows.uptoBulk, List.map_cons, List.map_nil, Rows.uptoBulkAll]
      omega
theorem rdDfns : Rd Try.prog 53 (fun l : List Dfn => dfnsD false l) (ListΦ (fun d n => esz d.e ≤ n)) :=
  rd_slice Try.underlying53 cells_dfn (by decide) (fun _ => rfl) (fun _ _ _ h hm => Nat.le_trans h hm) rdDfn
def TextΦ (l : List Dfn) (n : Nat) : Prop := l.length ≤ n ∧ ∀ d ∈ l, esz d.e ≤ n
theorem TextΦ.fit {l : List Dfn} {n : Nat} (h : TextΦ l n) (hn : n ≤ 100000000) : TextFit l := ⟨Nat.le_trans h.1 hn, fun d hd => Nat.le_trans (h.2 d hd) hn⟩
theorem rdText : Rd Try.prog 55 (fun l : List Dfn => .agg [dfnsD false l]) TextΦ := fun H enc w held n cs x h => by
  obtain ⟨xs, n, rfl, rfl, hl, hx, hf⟩ := DataW.trod_struct Try.underlying55 h
  have f0 := hf 0 _ rfl
  clear hf
  replace hl := hl.trans cells_text
  match cs, hl, xs, hx with
  | [c0], _, [x0], _ =>
    simp only [cells_dfns, List.drop_zero, List.drop_succ_cons, List.take_succ_cons, List.take_zero, List.getElem?_cons_zero, List.getElem?_cons_succ] at f0
    obtain ⟨g, h0, b0, b1⟩ := rdDfns _ _ _ _ _ _ _ f0
    have hb : Rows.uptoBulk x0.1 ≤ Rows.uptoBulk (DataW.agg [x0.1]) := by simp [Rows.uptoBulk, Rows.uptoBulkAll]
    refine ⟨g, ?_, Nat.le_trans b0 hb, fun d hd => Nat.le_trans (b1 d hd) hb⟩
    simp only [D.Rep]
    exact dreps_cons (c := [c0]) h0 dreps_nil
end Go.Proofs.Ytgcagjamjdnglaa
