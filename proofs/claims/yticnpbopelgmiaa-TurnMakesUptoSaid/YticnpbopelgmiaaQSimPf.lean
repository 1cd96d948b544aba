/-
  Sim: a function with one deferred call that is handed objects. Forest, the program: open, at. Forest, the program: At, List. Forest, the program: List. The trees of a word, plain: all of them in a list; as many as are counted. The list of all trees, plain: it is whole; sorted it is the same for the same trees. Templates, plain: the counter of frag.Check counts as the document says. Templates, plain: what a tree of a new grammar makes. Sim: tree.Word, the grammar 'again', treeBegun; TreeOrders, TreeDoes return true. Sim: the counter of frag.Check. Sim: frag.Check. Sim: templates applied: nodes, fits, fill, apply, value. Sim: templates applied: value, Back. Sim: frag.Back. A grammar whose nonterminals have a rank that falls is not cyclic. Trees led back, plain: what a tree of a new grammar makes, whatever its size; a step whose rows are as told leads the trees back one for one. Trees led back, plain: the laws '..Same' of a step that leads back. Trees led back, plain: steps each of whose rows is one tree; what may be nothing; a grammar that goes where another goes is no more cyclic. Turn, plain: nothing begins with itself. Sim: Corners. Sim: the reference's alike, grouped, OwnFrag, worksOf, stepOf.
-/
import Derived.Test.YticnpbopelgmiaaQChartP
import Derived.Test.YticnpbopelgmiaaP1
import Derived.Test.YticnpbopelgmiaaTreeB
import Derived.Test.YticnpbopelgmiaaS5
import Derived.Test.YticnpbopelgmiaaQGramC
import Derived.Test.YticnpbopelgmiaaFrC
import Derived.Test.YticnpbopelgmiaaTurnR
import Derived.Test.YticnpbopelgmiaaF2
import Derived.Test.YticnpbopelgmiaaQFactsK
set_option linter.unusedVariables false
set_option linter.unusedSimpArgs false
set_option linter.unusedSectionVars false
namespace Go.Proofs.Yticnpbopelgmiaa
open Go.RowKit
set_option maxRecDepth 100000
section
variable {P : Program} {n : Nat}
variable {fn : Func} {r : V} {hE : Hp} {G : Ctx} {fr : Fr} {h : Hp}
end
end Go.Proofs.Yticnpbopelgmiaa
namespace Go.Proofs.Yticnpbopelgmiaa
open Go.RowKit
set_option maxRecDepth 100000
-- SimX

section
variable {t : Bool} {g : Gram} {w : List Int}
/-! ### The deferred call -/
end
end Go.Proofs.Yticnpbopelgmiaa
namespace Go.Proofs.Yticnpbopelgmiaa
open Go.RowKit
set_option maxRecDepth 100000
-- SimX


section
variable {t : Bool} {g : Gram} {w : List Int}
end
end Go.Proofs.Yticnpbopelgmiaa
namespace Go.Proofs.Yticnpbopelgmiaa
open Go.RowKit
set_option maxRecDepth 100000
-- SimX

section
variable {t : Bool} {g : Gram} {w : List Int}
end
end Go.Proofs.Yticnpbopelgmiaa
namespace Go.Proofs.Yticnpbopelgmiaa
open Go.RowKit

/-! ### How many -/
/-! ### They are the trees -/
variable {g : Gram} {w : List Int}
/-! ### Counted -/
end Go.Proofs.Yticnpbopelgmiaa
namespace Go.Proofs.Yticnpbopelgmiaa
open Go.RowKit

section
variable {g : Gram} {w : List Int}
/-! ### The list -/
end

/-! ### In order -/
end Go.Proofs.Yticnpbopelgmiaa
namespace Go.Proofs.Yticnpbopelgmiaa
open Go.RowKit

end Go.Proofs.Yticnpbopelgmiaa
namespace Go.Proofs.Yticnpbopelgmiaa
open Go.RowKit

/-! ### Trees -/
end Go.Proofs.Yticnpbopelgmiaa
namespace Go.Proofs.Yticnpbopelgmiaa
open Go.RowKit
set_option maxRecDepth 100000

def againG : Gram := ⟨1, 2, 0, [⟨0, [0, -1]⟩, ⟨0, [-2]⟩]⟩
theorem again_sim : ACalls Try.prog 55 [] [] (.d (gramD false againG)) [] := by
  refine ACalls.intro (n := 7) Try.func55 rfl rfl (by simp) (by rfl) ?_
  simp only [argFr]
  repeat (first | refine wkr ?_ | refine s_field (hr := ?_))
  refine aw_froz 5 rfl ?_
  repeat (first | refine wk ?_ | refine s_field (hr := ?_))
  exact fin
end Go.Proofs.Yticnpbopelgmiaa
namespace Go.Proofs.Yticnpbopelgmiaa
open Go.RowKit
set_option maxRecDepth 100000
-- SimX

end Go.Proofs.Yticnpbopelgmiaa
namespace Go.Proofs.Yticnpbopelgmiaa
open Go.RowKit
set_option maxRecDepth 100000
-- SimX

end Go.Proofs.Yticnpbopelgmiaa
namespace Go.Proofs.Yticnpbopelgmiaa
open Go.RowKit
set_option maxRecDepth 100000
-- SimX

end Go.Proofs.Yticnpbopelgmiaa
namespace Go.Proofs.Yticnpbopelgmiaa
open Go.RowKit
set_option maxRecDepth 100000
-- SimX

end Go.Proofs.Yticnpbopelgmiaa
namespace Go.Proofs.Yticnpbopelgmiaa
open Go.RowKit
set_option maxRecDepth 100000
-- SimX

end Go.Proofs.Yticnpbopelgmiaa
namespace Go.Proofs.Yticnpbopelgmiaa
open Go.RowKit

end Go.Proofs.Yticnpbopelgmiaa
namespace Go.Proofs.Yticnpbopelgmiaa
open Go.RowKit

/-! ### Every row on the way is small enough -/
/-! ### Rows -/
section
variable (D : Int → List Tree → Prop) (W : Int → List Tree → List Int)
end
section
variable {h : Gram} {s : Step} {D : Int → List Tree → Prop} {W : Int → List Tree → List Int} {μ : Int → List Tree → Nat}
end
end Go.Proofs.Yticnpbopelgmiaa
namespace Go.Proofs.Yticnpbopelgmiaa
open Go.RowKit

/-! ### Templates without gaps -/
/-! ### The trees are the same -/
section
variable {g : Gram} {s : Step} {w : List Int} {D : Int → List Tree → Prop} {W : Int → List Tree → List Int} {μ : Int → List Tree → Nat}
end

/-! ### What sameTrees asks -/
end Go.Proofs.Yticnpbopelgmiaa
namespace Go.Proofs.Yticnpbopelgmiaa
open Go.RowKit

/-! ### Nothing, and what leads to what -/
/-! ### Rows of one tree -/
/-! ### The template of a rule that stays -/
end Go.Proofs.Yticnpbopelgmiaa
namespace Go.Proofs.Yticnpbopelgmiaa
open Go.RowKit

end Go.Proofs.Yticnpbopelgmiaa
namespace Go.Proofs.Yticnpbopelgmiaa
open Go.RowKit
set_option maxRecDepth 100000

end Go.Proofs.Yticnpbopelgmiaa
namespace Go.Proofs.Yticnpbopelgmiaa
open Go.RowKit
set_option maxRecDepth 100000
-- SimX

theorem ownFrag_gen : ∀ (N : Nat) {t : Bool} {l : List Frag}, fszs l < N → fszs l ≤ 100000000 → ACalls Try.prog 120 [.d (fragsD t l)] [] (.d (fragsD false l)) [] := by
  intro N
  induction N with
  | zero => intro t l h; omega
  | succ N ih =>
  intro t l hn hN
  have hl := Nat.le_trans (fszs_len l) hN
  refine ACalls.intro (n := 32) Try.func120 rfl rfl (by simp) (by rfl) ?_
  simp only [argFr]
  repeat (first | refine wk ?_ | refine s_field (hr := ?_))
  refine aw_nil 3 900 67 3 rfl rfl rfl ?_
  refine t_loop (X := Nat) (fun i => i ≤ l.length) (fun i => [(4, I i), (3, .own 900 (l.take i).length), (0, .d (fragsD t l))]) (fun i => [(900, .row 67 3 ((l.take i).map (fragD false)))]) (fun i => l.length - i) 0 (Nat.zero_le _) ?_
  intro i hi
  have hTl : (l.take i).length = i := by simp; omega
  by_cases hlt : i < l.length
  · have e3 := fszs_mem (List.getElem_mem hlt)
    have e2 := fsz_eq l[i]
    have hc := ih (t := t) (l := l[i].l) (by omega) (by omega)
    have e1 : (l.take i).map (fragD false) ++ [D.agg [iD l[i].op, iD l[i].n, fragsD false l[i].l]] = (l.take (i + 1)).map (fragD false) := by
      rw [List.take_succ_eq_append_getElem hlt, List.map_append]; simp [fragD_eq]
    repeat (first | refine wk ?_ | refine s_field (hr := ?_))
    refine s_call [] (hA := hc) (hr := ?_)
    repeat (first | refine wk ?_ | refine s_field (hr := ?_))
    rw [e1]
    exact t_next (i + 1)
  · obtain rfl : i = l.length := by omega
    rw [List.take_length]
    refine aw_froz 900 rfl ?_
    repeat (first | refine wk ?_ | refine s_field (hr := ?_))
    exact fin
theorem ownFrag_sim {t : Bool} {l : List Frag} (h : fszs l ≤ 100000000) : ACalls Try.prog 120 [.d (fragsD t l)] [] (.d (fragsD false l)) [] :=
  ownFrag_gen _ (Nat.lt_succ_self _) h
end Go.Proofs.Yticnpbopelgmiaa
