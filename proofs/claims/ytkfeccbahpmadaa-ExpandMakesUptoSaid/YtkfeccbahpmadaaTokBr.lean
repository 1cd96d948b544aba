/-
  Tokens: the contracts of token.Scan, token.Name, token.Term, said as Sim says them.
-/
import Derived.Test.YtkfeccbahpmadaaTok5
import Derived.Test.YtkfeccbahpmadaaS3
import Derived.Test.YtkfeccbahpmadaaTab
set_option linter.unusedVariables false
set_option linter.unusedSimpArgs false
set_option linter.unusedSectionVars false
namespace Go.Proofs.Ytkfeccbahpmadaa
open Go.RowKit

abbrev Tk := Old.Tk
def tkD (t : Tk) : D := .agg [iD t.kind, iD t.at_, sD t.text]
abbrev tksD (ts : List Tk) : D := .sl false 3 (ts.map tkD)
theorem tkD_size (t : Tk) : (tkD t).size = 3 := rfl
theorem ext_new {w w' : World} (h : Old.Ext [] w w') : Ext NoB w w' := ⟨h.os, h.tape, h.output, h.size, fun k hk _ => h.block k hk (by simp)⟩
theorem tks_reps {M : List Nat} {M' : Bars} {w : World} : ∀ {ts : List Tk} {cs : List Value}, Old.D.Reps M w (ts.map Old.Tk.d) cs → D.Reps M' w (ts.map tkD) cs
  | [], _, h => by simpa only [List.map_nil, Old.D.Reps, D.Reps] using h
  | t :: ts, _, h => by
    simp only [List.map_cons, Old.D.Reps, Old.Tk.d, Old.D.Rep] at h
    obtain ⟨c, r, rfl, ⟨c1, r1, rfl, rfl, c2, r2, rfl, rfl, c3, r3, rfl, rfl, rfl⟩, h2⟩ := h
    simp only [List.map_cons, D.Reps]
    exact ⟨_, r, rfl, by simp [tkD, iD, sD, D.Rep, D.Reps, Value.oneCell'], tks_reps h2⟩
theorem tks_own {w w' : World} {e : Nat} {v : Value} {ts : List Tk} (h : Old.Own w.heap.size [] w' e 3 v (ts.map Old.Tk.d)) {M : Bars} (hM : ∀ b, M false b → b < w.heap.size) : D.Rep M w' (tksD ts) [v] := by
  have hsl := h.sl
  simp only [Old.Sl, Old.D.Rep] at hsl
  obtain ⟨a, cap, us, e1, h1, h2, _, h4, h5⟩ := hsl
  simp only [List.cons.injEq, and_true] at e1
  subst e1
  simp only [tksD, D.Rep]
  refine ⟨a, cap, us, by simp, by simpa using h1, h2, by simp [tkD_size], tks_reps h4, fun hne => ?_⟩
  obtain ⟨b, off, k1, k2, k3, k4⟩ := h5 (by intro e; apply hne; simpa using e)
  refine ⟨b, off, k1, fun hb => ?_, k3, k4⟩
  obtain ⟨_, ⟨a', g1, g2⟩ | ⟨g, cap', cur, es, g1, _, g2, _⟩⟩ := h
  · apply hne; simpa using g2
  · simp only [Value.slice.injEq] at g1
    obtain ⟨g1, _, _⟩ := g1
    rw [k1] at g1
    simp only [Option.some.injEq, Addr.mk.injEq, and_true] at g1
    have := hM b hb
    omega

theorem scan_sim (s : ByteArray) (hs : s.size ≤ maxLen) : ACalls Try.prog 101 [Str s] [] (.tup [.d (tksD (Old.scanR s).1), .d (.agg [iD (Old.scanR s).2.1, iD (Old.scanR s).2.2])]) [] := by
  refine ACalls.of (xs := [.string s]) ⟨_, Try.func101, rfl, rfl⟩ rfl fun w => (Old.scanTok_any s w hs).mono fun e w' ⟨v, h1, h2, h3⟩ => ⟨_, h1, fun E o ho => ?_, ext_new h3⟩
  simp only [V.Rep, V.Reps]
  refine ⟨[v, .agg #[.int .i64 (Old.scanR s).2.1, .int .i64 (Old.scanR s).2.2]], rfl, _, _, rfl, ?_, _, _, rfl, ?_, rfl⟩
  · exact tks_own h2 (fun b hb => by
      rcases hb with ⟨k, hk⟩ | hb
      · simp [blkOf, hget] at hk
      · exact ho _ _ hb)
  · exact ⟨_, rfl, by simp [D.Reps, D.Rep, iD, Value.oneCell']⟩
theorem name_sim (s : ByteArray) (hs : s.size ≤ maxLen) : ACalls Try.prog 91 [Str s] [] (B (Old.nameB s)) [] :=
  ACalls.ofPure (xs := [.string s]) ⟨_, Try.func91, rfl, rfl⟩ rfl fun w => Old.nameTok_any s w hs
theorem term_sim (s : ByteArray) (hs : s.size ≤ maxLen) : ACalls Try.prog 151 [Str s] [] (B (Old.termB s)) [] :=
  ACalls.ofPure (xs := [.string s]) ⟨_, Try.func151, rfl, rfl⟩ rfl fun w => Old.termTok_any s w hs
end Go.Proofs.Ytkfeccbahpmadaa
