/-
  Sim: the reference's parser: ok, wrong, is, kind, must, part, take, opened. Sim: the reference's parser: item, row, alt. Sim: the reference's parser: row, alt, all.
-/
import Derived.Test.YtkfeccbahpmadaaSyR
import Derived.Test.YtkfeccbahpmadaaSyA
import Derived.Test.YtkfeccbahpmadaaG1
import Derived.Test.YtkfeccbahpmadaaSimSt
import Derived.Test.YtkfeccbahpmadaaSynE
set_option linter.unusedVariables false
set_option linter.unusedSimpArgs false
set_option linter.unusedSectionVars false
namespace Go.Proofs.Ytkfeccbahpmadaa
open Go.RowKit
set_option maxRecDepth 100000
-- SimX

theorem at_cases (L : List Tk) (a : Nat) : (¬ a < L.length ∧ L.drop a = []) ∨ (∃ h : a < L.length, L.drop a = L[a] :: L.drop (a + 1)) := by
  by_cases h : a < L.length
  · exact .inr ⟨h, List.drop_eq_getElem_cons h⟩
  · exact .inl ⟨h, List.drop_of_length_le (by omega)⟩
section
variable {L : List Tk} {en : Int}
def openR : Option (Int × ByteArray) → V
  | none => .tup [Str ⟨#[]⟩, I 0]
  | some (op, e) => .tup [Str e, I op]
/-- What is to come from the i-th kind of brackets on. -/
def openFrom (L : List Tk) (r : RS) : Nat → V
  | 0 => if r.is L (sgn 40) = true then .tup [Str (sgn 41), I 0] else openFrom L r 1
  | 1 => if r.is L (sgn 91) = true then .tup [Str (sgn 93), I 5] else openFrom L r 2
  | 2 => if r.is L (sgn 123) = true then .tup [Str (sgn 125), I 6] else openFrom L r 3
  | 3 => if r.is L (sgn 60) = true then .tup [Str (sgn 62), I 7] else openFrom L r 4
  | _ => .tup [Str ⟨#[]⟩, I 0]
termination_by i => 4 - i
theorem openFrom_4 (r : RS) : openFrom L r 4 = .tup [Str ⟨#[]⟩, I 0] := by
  rw [openFrom] <;> simp
theorem openR_from (r : RS) : openR (r.opened L) = openFrom L r 0 := by
  rw [openFrom, openFrom, openFrom, openFrom, openFrom_4]
  unfold RS.opened PS.bracket RS.is
  cases hok : r.ok with
  | false => simp [openR]
  | true =>
    simp only [Bool.true_and]
    repeat' split
    all_goals (first | rfl | simp_all)
end
end Go.Proofs.Ytkfeccbahpmadaa
namespace Go.Proofs.Ytkfeccbahpmadaa
open Go.RowKit
set_option maxRecDepth 100000
-- SimX

theorem opened_some {L : List Tk} {r : RS} {op : Int} {e : ByteArray} (h : r.opened L = some (op, e)) : e ≠ ⟨#[]⟩ ∧ (op = 0 ∨ 0 < op) := by
  unfold RS.opened PS.bracket at h
  split at h
  · repeat' (split at h)
    all_goals first | (cases h; exact ⟨by decide, by decide⟩) | (injection h with h; injection h with h1 h2; subst h1; subst h2; exact ⟨by decide, by decide⟩) | cases h
  · cases h
section
variable {L : List Tk} {en : Int}
end
end Go.Proofs.Ytkfeccbahpmadaa
namespace Go.Proofs.Ytkfeccbahpmadaa
open Go.RowKit
set_option maxRecDepth 100000
-- SimX

section
variable {L : List Tk} {en : Int}
end
end Go.Proofs.Ytkfeccbahpmadaa
