/-
  Sim: SyntaxJoins returns true.
-/
import Derived.Test.YtgcagjamjdnglaaJoinR
set_option linter.unusedVariables false
set_option linter.unusedSimpArgs false
set_option linter.unusedSectionVars false
namespace Go.Proofs.Ytgcagjamjdnglaa
open Go.RowKit
set_option maxRecDepth 100000
-- SimX

set_option maxHeartbeats 8000000 in
theorem syntaxJoins_sim (a b : ByteArray) (ha : a.size ≤ 1048576) (hb : b.size ≤ 1048576) : ACalls Try.prog 9 [Str a, Str b] [] (B true) [] := by
  have h1 := parse_sim a (by unfold maxLen; omega)
  have h2 := parse_sim b (by unfold maxLen; omega)
  refine ACalls.intro (n := 105) Try.func9 rfl rfl (by simp) (by rfl) ?_
  simp only [argFr]
  by_cases hbig : 5999 < a.size + b.size
  · repeat (first | refine wk ?_ | refine s_field (hr := ?_))
    refine s_call [] (hA := syntaxBegun_sim) (hr := ?_)
    repeat (first | refine wk ?_ | refine s_field (hr := ?_))
    exact fin
  have hJ := parse_join a b (by omega)
  have fA := parseS_text a
  have fB := parseS_text b
  have fS := parseS_text (a ++ (Old.nlB ++ b))
  have h3 := parse_sim (a ++ (Old.nlB ++ b)) (by rw [Old.jn_size]; unfold maxLen; omega)
  rw [show a ++ (Old.nlB ++ b) = (a ++ ⟨#[10]⟩) ++ b from (ByteArray.append_assoc).symm] at h3 hJ fS
  have k1 : (a ++ ⟨#[10]⟩).size = a.size + 1 := by rw [ByteArray.size_append]; rfl
  unfold prR at h1 h2 h3
  have l1 := (parseS_fit a).1
  have l2 := (parseS_fit b).1
  generalize parseS a = A at *
  generalize parseS b = B' at *
  generalize parseS ((a ++ ⟨#[10]⟩) ++ b) = S at *
  obtain ⟨t, fc, fa⟩ := A
  obtain ⟨u, gc, ga⟩ := B'
  obtain ⟨v, hc, ha'⟩ := S
  unfold Joins at hJ
  dsimp only at *
  obtain ⟨j1, j2, j3, j4⟩ := hJ
  by_cases hf : fc = 0
  rotate_left
  · replace j1 := j1 hf
    by_cases c1 : (a.size : Int) ≤ fa
    · repeat (first | refine wk ?_ | refine s_field (hr := ?_))
      refine s_call [] (hA := syntaxBegun_sim) (hr := ?_)
      repeat (first | refine wk ?_ | refine s_field (hr := ?_))
      refine s_call [] (hA := h1) (hr := ?_)
      repeat (first | refine wk ?_ | refine s_field (hr := ?_))
      refine s_call [] (hA := h2) (hr := ?_)
      repeat (first | refine wk ?_ | refine s_field (hr := ?_))
      refine s_call [] (hA := h3) (hr := ?_)
      (repeat (first | refine wkz ?_ | refine s_field (hr := ?_)))
      exact fin
    by_cases c2 : fc = 1
    · repeat (first | refine wk ?_ | refine s_field (hr := ?_))
      refine s_call [] (hA := syntaxBegun_sim) (hr := ?_)
      repeat (first | refine wk ?_ | refine s_field (hr := ?_))
      refine s_call [] (hA := h1) (hr := ?_)
      repeat (first | refine wk ?_ | refine s_field (hr := ?_))
      refine s_call [] (hA := h2) (hr := ?_)
      repeat (first | refine wk ?_ | refine s_field (hr := ?_))
      refine s_call [] (hA := h3) (hr := ?_)
      (repeat (first | refine wkz ?_ | refine s_field (hr := ?_)))
      exact fin
    by_cases c3 : gc = 1
    · repeat (first | refine wk ?_ | refine s_field (hr := ?_))
      refine s_call [] (hA := syntaxBegun_sim) (hr := ?_)
      repeat (first | refine wk ?_ | refine s_field (hr := ?_))
      refine s_call [] (hA := h1) (hr := ?_)
      repeat (first | refine wk ?_ | refine s_field (hr := ?_))
      refine s_call [] (hA := h2) (hr := ?_)
      repeat (first | refine wk ?_ | refine s_field (hr := ?_))
      refine s_call [] (hA := h3) (hr := ?_)
      (repeat (first | refine wkz ?_ | refine s_field (hr := ?_)))
      exact fin
    by_cases c4 : gc = 2
    · repeat (first | refine wk ?_ | refine s_field (hr := ?_))
      refine s_call [] (hA := syntaxBegun_sim) (hr := ?_)
      repeat (first | refine wk ?_ | refine s_field (hr := ?_))
      refine s_call [] (hA := h1) (hr := ?_)
      repeat (first | refine wk ?_ | refine s_field (hr := ?_))
      refine s_call [] (hA := h2) (hr := ?_)
      repeat (first | refine wk ?_ | refine s_field (hr := ?_))
      refine s_call [] (hA := h3) (hr := ?_)
      (repeat (first | refine wkz ?_ | refine s_field (hr := ?_)))
      exact fin
    have c5 : (⟨hc, ha'⟩ : Fault) = ⟨fc, fa⟩ := by
      rcases j1 with h | h | h | h | h
      · exact absurd h c1
      · exact absurd h c2
      · exact absurd h c3
      · exact absurd h c4
      · exact h
    obtain ⟨rfl, rfl⟩ : hc = fc ∧ ha' = fa := by injection c5 with h1 h2; exact ⟨h1, h2⟩
    have q2 : decide ((⟨hc, ha'⟩ : Fault) = ⟨hc, ha'⟩) = true := decide_eq_true rfl
    repeat (first | refine wk ?_ | refine s_field (hr := ?_))
    refine s_call [] (hA := syntaxBegun_sim) (hr := ?_)
    repeat (first | refine wk ?_ | refine s_field (hr := ?_))
    refine s_call [] (hA := h1) (hr := ?_)
    repeat (first | refine wk ?_ | refine s_field (hr := ?_))
    refine s_call [] (hA := h2) (hr := ?_)
    repeat (first | refine wk ?_ | refine s_field (hr := ?_))
    refine s_call [] (hA := h3) (hr := ?_)
    (repeat (first | refine wkz ?_ | refine s_field (hr := ?_)))
    exact fin
  by_cases hg : gc = 0
  rotate_left
  · rcases j2 hf hg with c1 | c2
    · repeat (first | refine wk ?_ | refine s_field (hr := ?_))
      refine s_call [] (hA := syntaxBegun_sim) (hr := ?_)
      repeat (first | refine wk ?_ | refine s_field (hr := ?_))
      refine s_call [] (hA := h1) (hr := ?_)
      repeat (first | refine wk ?_ | refine s_field (hr := ?_))
      refine s_call [] (hA := h2) (hr := ?_)
      repeat (first | refine wk ?_ | refine s_field (hr := ?_))
      refine s_call [] (hA := h3) (hr := ?_)
      (repeat (first | refine wkz ?_ | refine s_field (hr := ?_)))
      exact fin
    · by_cases c1 : hc = 0
      · repeat (first | refine wk ?_ | refine s_field (hr := ?_))
        refine s_call [] (hA := syntaxBegun_sim) (hr := ?_)
        repeat (first | refine wk ?_ | refine s_field (hr := ?_))
        refine s_call [] (hA := h1) (hr := ?_)
        repeat (first | refine wk ?_ | refine s_field (hr := ?_))
        refine s_call [] (hA := h2) (hr := ?_)
        repeat (first | refine wk ?_ | refine s_field (hr := ?_))
        refine s_call [] (hA := h3) (hr := ?_)
        (repeat (first | refine wkz ?_ | refine s_field (hr := ?_)))
        exact fin
      · repeat (first | refine wk ?_ | refine s_field (hr := ?_))
        refine s_call [] (hA := syntaxBegun_sim) (hr := ?_)
        repeat (first | refine wk ?_ | refine s_field (hr := ?_))
        refine s_call [] (hA := h1) (hr := ?_)
        repeat (first | refine wk ?_ | refine s_field (hr := ?_))
        refine s_call [] (hA := h2) (hr := ?_)
        repeat (first | refine wk ?_ | refine s_field (hr := ?_))
        refine s_call [] (hA := h3) (hr := ?_)
        (repeat (first | refine wkz ?_ | refine s_field (hr := ?_)))
        exact fin
  by_cases h16 : 16 < t.length + u.length
  · have c1 := j3 hf hg h16
    repeat (first | refine wk ?_ | refine s_field (hr := ?_))
    refine s_call [] (hA := syntaxBegun_sim) (hr := ?_)
    repeat (first | refine wk ?_ | refine s_field (hr := ?_))
    refine s_call [] (hA := h1) (hr := ?_)
    repeat (first | refine wk ?_ | refine s_field (hr := ?_))
    refine s_call [] (hA := h2) (hr := ?_)
    repeat (first | refine wk ?_ | refine s_field (hr := ?_))
    refine s_call [] (hA := h3) (hr := ?_)
    repeat (first | refine wk ?_ | refine s_field (hr := ?_))
    exact fin
  obtain ⟨c1, c2⟩ := j4 hf hg (by omega)
  have hsm := same_sim (t := false) (u := false) (a := v) (b := t ++ u) fS ⟨by simp; omega, fun d hd => by rcases List.mem_append.1 hd with h | h; exact fA.ex d h; exact fB.ex d h⟩
  rw [c2] at hsm
  repeat (first | refine wk ?_ | refine s_field (hr := ?_))
  refine s_call [] (hA := syntaxBegun_sim) (hr := ?_)
  repeat (first | refine wk ?_ | refine s_field (hr := ?_))
  refine s_call [] (hA := h1) (hr := ?_)
  repeat (first | refine wk ?_ | refine s_field (hr := ?_))
  refine s_call [] (hA := h2) (hr := ?_)
  repeat (first | refine wk ?_ | refine s_field (hr := ?_))
  refine s_call [] (hA := h3) (hr := ?_)
  iterate 61 (refine wk1 ?_)
  have e : [] ++ t.map (dfnD false) ++ u.map (dfnD false) = (t ++ u).map (dfnD false) := by simp
  rw [e, List.length_map]
  refine aw_froz 92 rfl ?_
  repeat (first | refine wk ?_ | refine s_field (hr := ?_))
  refine s_call [] (hA := hsm) (hr := ?_)
  repeat (first | refine wk ?_ | refine s_field (hr := ?_))
  exact fin
end Go.Proofs.Ytgcagjamjdnglaa
