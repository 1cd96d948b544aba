/-
  Sim: an argument that is read as something else: nil as a slice without elements.
-/
import Derived.Test.YtpaeihifcmohkaaSimS
set_option linter.unusedVariables false
set_option linter.unusedSimpArgs false
namespace Go.Proofs.Ytpaeihifcmohkaa
open Go.RowKit

theorem ACalls.le {P : Program} {f : FuncId} {args args' : List V} {h h' : Hp} {r : V} (hA : ACalls P f args' h r h') (hl : VLes args args') : ACalls P f args h r h' :=
  ⟨hA.ok, fun E w us o H hr hk ho hs => hA.run E w us o H (hl.reps hr) (by rw [← hl.keys]; exact hk) ho hs⟩
end Go.Proofs.Ytpaeihifcmohkaa
