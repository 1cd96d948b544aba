/-
  A law's Grammar, read.
-/
import Derived.Test.YtpaeihifcmohkaaReads
import Derived.Test.YtpaeihifcmohkaaGram2
namespace Go.Proofs.Ytpaeihifcmohkaa
open Go.ChangeShapes Go.WideShapes Go.ChangeAt Go.RowKit

section
variable {H : Type} {enc : TypeId × Value → H} {w : World} {held : Bool}

theorem Try.cells_int : Try.prog.cellsOf 3 = 1 := by kernel_rfl
theorem Try.cells_ints : Try.prog.cellsOf 40 = 1 := by kernel_rfl
theorem Try.cells_rule : Try.prog.cellsOf 44 = 2 := by kernel_rfl
theorem Try.cells_rules : Try.prog.cellsOf 32 = 1 := by kernel_rfl
theorem Try.cells_gram : Try.prog.cellsOf 34 = 4 := by kernel_rfl

theorem read_int {fuel : Nat} {cs : List Value} {x : DataW H × List MemPlace} (h : DataW.trod enc Try.prog w 0 (fun _ => true) held fuel 3 cs = some x) : ∃ n : Int, (D.int .i64 n).Rep [] w cs ∧ 0 ≤ Rows.uptoBulk x.1 := by
  obtain ⟨n, rfl, rfl, _⟩ := DataW.trod_int Try.underlying3 h
  exact ⟨n, by simp [D.Rep], Nat.zero_le _⟩
theorem read_nums {fuel : Nat} {cs : List Value} {x : DataW H × List MemPlace} (h : DataW.trod enc Try.prog w 0 (fun _ => true) held fuel 40 cs = some x) :
    ∃ xs : List Int, (D.slice 1 (nums xs)).Rep [] w cs ∧ xs.length ≤ Rows.uptoBulk x.1 := by
  obtain ⟨rs, h1, h2, _⟩ := rep_slice (α := Int) (fun n => D.int .i64 n) (fun _ => 0) Try.underlying40 Try.cells_int (by decide) (fun _ => rfl) (fun n cs' y hy => read_int hy) h
  exact ⟨rs, h1, h2⟩
set_option maxRecDepth 100000 in
theorem read_rule {fuel : Nat} {cs : List Value} {x : DataW H × List MemPlace} (h : DataW.trod enc Try.prog w 0 (fun _ => true) held fuel 44 cs = some x) :
    ∃ r : Rule, r.d.Rep [] w cs ∧ r.right.length ≤ Rows.uptoBulk x.1 := by
  obtain ⟨xs, n, rfl, rfl, hl, hx, hf⟩ := DataW.trod_struct Try.underlying44 h
  have f0 := hf 0 _ rfl
  have f1 := hf 1 _ rfl
  clear hf
  replace hl := hl.trans Try.cells_rule
  match cs, hl, xs, hx with
  | [c0, c1], _, [x0, x1], _ =>
    simp only [Try.cells_int, Try.cells_ints, List.drop_zero, List.drop_succ_cons, List.take_succ_cons, List.take_zero, List.getElem?_cons_zero, List.getElem?_cons_succ] at f0 f1
    obtain ⟨l, h1, _⟩ := read_int f0
    obtain ⟨rt, h2, h3⟩ := read_nums f1
    simp only [D.Rep] at h1
    refine ⟨⟨l, rt⟩, Rule.rep.2 ⟨c1, ?_, h2⟩, ?_⟩
    · simpa [Try.cells_int] using h1
    · simp [Rows.uptoBulk, Rows.uptoBulkAll]; omega
instance : Inhabited Rule := ⟨⟨0, []⟩⟩
set_option maxRecDepth 100000 in
theorem read_gram {fuel : Nat} {cs : List Value} {x : DataW H × List MemPlace} (h : DataW.trod enc Try.prog w 0 (fun _ => true) held fuel 34 cs = some x) :
    ∃ (g : Gram) (rv : Value), cs = (GramC g rv).toList ∧ Rules [] w rv g.rules ∧ g.le (Rows.uptoBulk x.1) := by
  obtain ⟨xs, n, rfl, rfl, hl, hx, hf⟩ := DataW.trod_struct Try.underlying34 h
  have f0 := hf 0 _ rfl
  have f1 := hf 1 _ rfl
  have f2 := hf 2 _ rfl
  have f3 := hf 3 _ rfl
  replace hl := hl.trans Try.cells_gram
  clear hf
  match cs, hl, xs, hx with
  | [c0, c1, c2, c3], _, [x0, x1, x2, x3], _ =>
    simp only [Try.cells_int, Try.cells_rules, List.drop_zero, List.drop_succ_cons, List.take_succ_cons, List.take_zero, List.getElem?_cons_zero, List.getElem?_cons_succ] at f0 f1 f2 f3
    obtain ⟨a, h0, _⟩ := read_int f0
    obtain ⟨b, h1, _⟩ := read_int f1
    obtain ⟨c, h2, _⟩ := read_int f2
    obtain ⟨rs, h3, h4, h5⟩ := rep_slice (α := Rule) Rule.d (fun r => r.right.length) Try.underlying32 Try.cells_rule (by decide) (fun r => by simp [Rule.d, D.size, D.sizes]) (fun n cs' y hy => read_rule hy) f3
    simp only [D.Rep] at h0 h1 h2
    refine ⟨⟨a, b, c, rs⟩, c3, ?_, h3, ?_, fun r hr => ?_⟩
    · simp [Try.cells_int] at h0 h1 h2; simp [GramC, h0, h1, h2]
    · have : Rows.uptoBulk x3.1 ≤ Rows.uptoBulk (DataW.agg [x0.1, x1.1, x2.1, x3.1]) := by simp [Rows.uptoBulk, Rows.uptoBulkAll]; omega
      exact Nat.le_trans h4 (by simpa using this)
    · have : Rows.uptoBulk x3.1 ≤ Rows.uptoBulk (DataW.agg [x0.1, x1.1, x2.1, x3.1]) := by simp [Rows.uptoBulk, Rows.uptoBulkAll]; omega
      exact Nat.le_trans (h5 r hr) (by simpa using this)
end
end Go.Proofs.Ytpaeihifcmohkaa
