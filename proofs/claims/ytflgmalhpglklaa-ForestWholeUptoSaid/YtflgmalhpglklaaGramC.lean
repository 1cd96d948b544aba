/-
  Sim: SameGram, Clone, OwnGram, bare, ownInts.
-/
import Derived.Test.YtflgmalhpglklaaG1
import Derived.Test.YtflgmalhpglklaaS5
set_option linter.unusedVariables false
set_option linter.unusedSimpArgs false
set_option linter.unusedSectionVars false
namespace Go.Proofs.Ytflgmalhpglklaa
open Go.RowKit
set_option maxRecDepth 100000

theorem clone_sim {t : Bool} {xs : List Int} (hl : xs.length ≤ 100000000 := by ((try simp only [List.length_map, List.length_append, List.length_cons, List.length_nil, List.length_replicate, List.length_set, List.length_take, List.length_drop]); first | omega | assumption)) :
    ACalls Try.prog 73 [.d (ints t xs)] [] (.own 5 xs.length) [(5, .row 3 1 (xs.map iD))] := by
  refine ACalls.intro (n := 8) Try.func73 rfl rfl (by simp) (by rfl) ?_
  simp only [argFr]
  refine aw_seq ?_
  refine t_reg ?_
  refine s_assign (hr := ?_)
  refine dops_end ?_
  refine andThen_n ?_
  refine aw_seq ?_
  refine aw_seq ?_
  refine t_eqNil ?_ ?_ undInts
  · intro hx
    have hx' : xs = [] := by simpa using hx
    subst hx'
    repeat (first | refine wkr ?_ | refine s_field (hr := ?_))
    refine aw_nil 2 5 3 1 rfl rfl rfl ?_
    repeat (first | refine wk ?_ | refine s_field (hr := ?_))
    exact fin
  · repeat (first | refine wk ?_ | refine s_field (hr := ?_))
    exact finx
end Go.Proofs.Ytflgmalhpglklaa
