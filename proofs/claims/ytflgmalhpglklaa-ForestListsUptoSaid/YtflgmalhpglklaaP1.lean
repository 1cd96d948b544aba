/-
  Templates, plain: counted, which kids they use; steps.
-/
import Derived.Test.YtflgmalhpglklaaGramC
import Derived.Test.YtflgmalhpglklaaT1
set_option linter.unusedVariables false
set_option linter.unusedSimpArgs false
set_option linter.unusedSectionVars false
namespace Go.Proofs.Ytflgmalhpglklaa
open Go.RowKit

theorem Frag.eta (x : Frag) : x = .mk x.op x.n x.l := by cases x; rfl
mutual
def fsz : Frag → Nat
  | .mk _ _ l => 1 + fszs l
def fszs : List Frag → Nat
  | [] => 0
  | x :: r => fsz x + fszs r
end
/-! ### Parts that count -/
/-! ### Kids used -/
def Upto (B : Nat) (u : List Int) : Prop := ∀ x ∈ u, 0 ≤ x ∧ x ≤ B
theorem Upto.mono {B C : Nat} {u : List Int} (h : Upto B u) (hb : B ≤ C) : Upto C u := fun x hx => ⟨(h x hx).1, by have := (h x hx).2; omega⟩
/-! ### Steps -/
structure Step.fit (s : Step) : Prop where
  g : s.g.fit
  frags : s.frags.length ≤ 100000000
  frag : ∀ l ∈ s.frags, fszs l ≤ 100000000
  tree : cnts s.empty ≤ 100000000

theorem Step.fit.empty {s : Step} (h : s.fit) : s.empty.length ≤ 100000000 := Nat.le_trans (cnts_len _) h.tree
theorem Step.fit.trees {s : Step} (h : s.fit) : ∀ x ∈ s.empty, cnt x ≤ 100000000 := fun x hx => Nat.le_trans (cnts_mem hx) h.tree

/-! ### The template of a rule that stays -/
/-! ### As data -/
theorem IsElt.fragE {h : Hp} {t u : Bool} {sz i off : Nat} {xs : List Frag} (hi : i < xs.length) : IsElt h (.eptr t sz (xs.map (fragD u)) i off) (fragA u xs[i]) off [] := by
  have := IsElt.mapE (h := h) (t := t) (sz := sz) (off := off) (f := fragD u) hi
  rwa [fragA_eq] at this
theorem IsElt.fragO {h : Hp} {u : Bool} {k m sz i off : Nat} {e : TypeId} {xs : List Frag} (hk : hget h k = some (.row e sz (xs.map (fragD u)))) (hm : (xs.map (fragD u)).length = m) (hi : i < xs.length) : IsElt h (.optr k m i off) (fragA u xs[i]) off [(k, some (.row e sz (xs.map (fragD u))))] := by
  have := IsElt.mapO (f := fragD u) (off := off) hk hm hi
  rwa [fragA_eq] at this
end Go.Proofs.Ytflgmalhpglklaa
