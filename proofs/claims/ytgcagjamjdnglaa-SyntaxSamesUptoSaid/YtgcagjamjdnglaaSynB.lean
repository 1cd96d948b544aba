/-
  Sim: the parser: want, part, group, item, row, alt.
-/
import Derived.Test.YtgcagjamjdnglaaSynA
import Derived.Test.YtgcagjamjdnglaaSimPe
set_option linter.unusedVariables false
set_option linter.unusedSimpArgs false
set_option linter.unusedSectionVars false
namespace Go.Proofs.Ytgcagjamjdnglaa
open Go.RowKit
set_option maxRecDepth 100000
-- SimX

/-- What a parser's function does: it returns, or it gives up. -/
def Does (f : FuncId) (args : List V) (en : Int) (s : PS) : Except Fault (V × PS) → Prop
  | .ok (v, s') => ACalls Try.prog f args (prG en s.l s.opn s.parts) v (prG en s'.l s'.opn s'.parts)
  | .error e => APan Try.prog f args (prG en s.l s.opn s.parts) (goneV e) jkH
theorem want_sim {en : Int} {s : PS} {x : ByteArray} (hl : s.l.length ≤ 100000000) : Does 176 [.ptr 1000 0, Str x] en s ((s.want en x).map fun s' => (.tup [], s')) := by
  unfold PS.want
  have hs := sign_sim (en := en) (s := s) (x := x) hl
  cases hc : s.sign x with
  | true =>
    rw [if_pos rfl]
    rw [hc] at hs
    obtain ⟨t, r, e, _⟩ := PS.sign_cons hc
    have hn := next_sim (en := en) e hl
    show ACalls _ _ _ _ _ _
    refine ACalls.intro (n := 12) Try.func176 rfl rfl (by simp) (by rfl) ?_
    simp only [argFr]
    repeat (first | refine wk ?_ | refine s_field (hr := ?_))
    refine s_call [] (hA := hs) (hr := ?_)
    repeat (first | refine wk ?_ | refine s_field (hr := ?_))
    refine s_call [] (hA := hn) (hr := ?_)
    repeat (first | refine wk ?_ | refine s_field (hr := ?_))
    exact fin
  | false =>
    rw [if_neg (by decide)]
    rw [hc] at hs
    have hf := fail_pan (en := en) (s := s) (code := 3) hl
    show APan _ _ _ _ _ _
    refine APan.intro (n := 12) Try.func176 rfl rfl (by simp) (by rfl) rfl ?_
    simp only [argFr]
    repeat (first | refine wk ?_ | refine s_field (hr := ?_))
    refine s_call [] (hA := hs) (hr := ?_)
    repeat (first | refine wk ?_ | refine s_field (hr := ?_))
    --@
    refine s_panCall [] [] [] (hA := hf)
theorem part_sim {en : Int} {s : PS} (g : s.Good) (hl : s.l.length ≤ 100000000) : Does 224 [.ptr 1000 0] en s ((s.part en).map fun s' => (.tup [], s')) := by
  obtain ⟨_, _, g3, g4⟩ := g
  unfold PS.part
  by_cases hp : s.parts = 60
  · rw [if_pos hp]
    have hf := fail_pan (en := en) (s := s) (code := 6) hl
    show APan _ _ _ _ _ _
    refine APan.intro (n := 16) Try.func224 rfl rfl (by simp) (by rfl) rfl ?_
    simp only [argFr]
    repeat (first | refine wk ?_ | refine s_field (hr := ?_))
    refine s_panCall [] [] [] (hA := hf)
  · rw [if_neg hp]
    show ACalls _ _ _ _ _ _
    refine ACalls.intro (n := 16) Try.func224 rfl rfl (by simp) (by rfl) ?_
    simp only [argFr]
    repeat (first | refine wk ?_ | refine s_field (hr := ?_))
    exact fin
end Go.Proofs.Ytgcagjamjdnglaa
