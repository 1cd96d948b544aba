/-
  Faults: the reference's F; a block that holds a fault.
-/
import Derived.Test.YtkfeccbahpmadaaBase
import Derived.Test.YtkfeccbahpmadaaRows
import Derived.WalkSpells
import Derived.WalkLawsBesides
import Derived.Outline
import Derived.Lib.Hide
import Derived.Deep.QuietTactic
import Derived.BigQuiet
import Derived.Deep.RegionLaw
set_option linter.unusedVariables false
set_option linter.unusedSimpArgs false
set_option linter.unusedSectionVars false
namespace Go.Proofs.Ytkfeccbahpmadaa.Old
open Go.RowKit

theorem f_any (c a : Int) (w : World) : Calls Try.prog 69 #[.int .i64 c, .int .i64 a] w fun e w' => e = .returned (.agg #[.int .i64 c, .int .i64 a]) ∧ Ext [] w w' := by
  go_enter Try.func69, Try.ntmps69
  go_wp2
  refine bodyPost_ret (v := .agg #[.int .i64 c, .int .i64 a]) (by simp [results, Try.results69, go_sem]) rfl ⟨rfl, ?_⟩
  exact (Ext.refl _ _).alloc _

abbrev FltB (w : World) (b : Nat) (c a : Int) : Prop := Blk w b #[.int .i64 c, .int .i64 a] 33
theorem FltB.cells {w : World} {b : Nat} {c a : Int} (h : FltB w b c a) : w.cell? ⟨b, 0, none⟩ = some (.int .i64 c) ∧ w.cell? ⟨b, 1, none⟩ = some (.int .i64 a) ∧ (∀ i, w.frozen? ⟨b, i, none⟩ = false) :=
  ⟨(h.cell 0).trans (by simp), (h.cell 1).trans (by simp), fun i => h.frozen i⟩

end Go.Proofs.Ytkfeccbahpmadaa.Old
