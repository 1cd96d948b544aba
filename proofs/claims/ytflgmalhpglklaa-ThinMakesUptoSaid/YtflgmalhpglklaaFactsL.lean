/-
  Sim: CyclicOf, CornersOf.
-/
import Derived.Test.YtflgmalhpglklaaFactsK
import Derived.Test.YtflgmalhpglklaaF2
set_option linter.unusedVariables false
set_option linter.unusedSimpArgs false
set_option linter.unusedSectionVars false
namespace Go.Proofs.Ytflgmalhpglklaa
open Go.RowKit
set_option maxRecDepth 100000

theorem bD_clean (x : Bool) : (bD x).clean := trivial
theorem bools_clean (xs : List Bool) : D.cleans (xs.map bD) := cleans_map bD_clean xs
theorem cyclicOf_sim {t : Bool} {g : Gram} (hg : g.ok) : ACalls Try.prog 82 [.d (gramD t g)] [] (.d (ints false (selfN (ledM false g) g.vars.toNat))) [] := by
  refine ACalls.intro (n := 26) Try.func82 rfl rfl (by simp) (by rfl) ?_
  simp only [argFr]
  have hv := hg.vars
  have hv1 := hg.vars1
  have hnl := leftsOf_len (t := false) hg
  have hno := nullOf_sim (t := t) hg
  have hlq := ledM_sq (c := false) hg
  have hlql := hlq.len
  obtain ⟨N, hN⟩ : ∃ N : Nat, g.vars = (N : Int) := ⟨g.vars.toNat, by omega⟩
  have hNt : g.vars.toNat = N := by omega
  rw [hNt] at hno hnl hlql hlq ⊢
  repeat (first | refine wk ?_)
  refine s_call [(8, 900)] (hA := hno) (hr := ?_)
  repeat (first | refine wk ?_)
  refine aw_nil 4 902 3 1 rfl rfl rfl ?_
  refine t_loop (X := Nat) (fun k => k ≤ N) (fun k => [(5, I k), (3, .own 900 N), (4, .own 902 (selfN (ledM false g) k).length), (1, .ptr 1 0)]) (fun k => [(1, gramBox t g), (900, .row 4 1 ((leftsOf false g).map bD)), (902, .row 3 1 ((selfN (ledM false g) k).map iD))]) (fun k => N - k) 0 (Nat.zero_le _) ?_
  intro k hk
  have hsl := selfN_le (ledM false g) k
  by_cases hkN : k < N
  · have hkL : k < (ledM false g).length := by omega
    have e := selfN_snoc (ledM false g) k
    have hled := ledTo_sim (t := t) (u := true) hg (v := (k : Int)) (c := false) (by omega) (by omega)
    have hrl : (rowM (ledM false g) k).length = N := hlq.at (by omega) (by omega)
    rw [hNt] at hled
    generalize rowM (ledM false g) k = R at hled hrl e
    have hkR : k < R.length := by omega
    have hhr := has_get (is := R) (x := (k : Int)) rfl hkR
    rw [hhr] at e
    cases hb : R[k] with
    | true =>
      rw [hb, if_pos rfl] at e
      repeat (first | refine wk ?_)
      refine s_call [(14, 901)] (hA := hled) (hcl := by refine Or.inr ⟨?_, ?_⟩ <;> simp [V.clean, V.cleans, D.clean, D.cleans, HpClean, Ob.clean, bools_clean]) (hr := ?_)
      repeat (first | refine wk ?_)
      exact t_next (k + 1)
    | false =>
      rw [hb, if_neg (by decide), List.append_nil] at e
      repeat (first | refine wk ?_)
      refine s_call [(14, 901)] (hA := hled) (hcl := by refine Or.inr ⟨?_, ?_⟩ <;> simp [V.clean, V.cleans, D.clean, D.cleans, HpClean, Ob.clean, bools_clean]) (hr := ?_)
      repeat (first | refine wk ?_)
      exact t_next (k + 1)
  · obtain rfl : k = N := by omega
    refine aw_froz 902 rfl ?_
    repeat (first | refine wk ?_)
    exact fin
end Go.Proofs.Ytflgmalhpglklaa
