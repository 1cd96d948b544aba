/-
  The parser, plain: one text behind another: the law.
-/
import Derived.Test.YtgcagjamjdnglaaJoP
import Derived.Test.YtgcagjamjdnglaaSynY
set_option linter.unusedVariables false
set_option linter.unusedSimpArgs false
set_option linter.unusedSectionVars false
namespace Go.Proofs.Ytgcagjamjdnglaa
open Go.RowKit

theorem pDef_err {fin : Int} {n : Nat} {s : PS} {f : Fault} (ho : s.opn = 0) (hn : 5 * s.l.length + 8 ≤ n) (h : pDef fin n s = .error f) : f.code ≠ 0 := by
  cases hs : s.l with
  | nil => rw [pDef_nil hs] at h; cases h; exact gone_ne (by decide)
  | cons t r =>
    by_cases hk : t.kind = 1
    · rw [pDef_eq hs hk] at h
      split at h
      · rename_i g hw
        cases h
        unfold PS.want at hw
        split at hw <;> cases hw
        exact gone_ne (by decide)
      · rename_i s1 hw
        have hl1 := PS.want_l' hw
        have ho1 : s1.opn = s.next.opn := PS.want_o hw
        have ho1' : s1.opn = 0 := ho1.trans ho
        have hps : RS.ps s1.l ⟨0, 0, 0, ⟨0, 0⟩⟩ = ⟨s1.l, s1.opn, 0⟩ := by rw [ho1']; rfl
        have hlen : s1.l.length + 1 = r.length := by
          have : s.next.l.length = r.length := by simp [PS.next, hs]
          omega
        have hR := (rel_all s1.l fin n ⟨0, 0, 0, ⟨0, 0⟩⟩ rfl (by rw [hps, ho1']; exact ⟨Int.le_refl 0, by show (0 : Int) ≤ 40; omega, Int.le_refl 0, by show (0 : Int) ≤ 60; omega⟩)).2.2.2.2 (by rw [hps]; rw [hs, List.length_cons] at hn; dsimp only; omega)
        rw [hps] at hR
        split at h
        · rename_i g ha
          cases h
          rw [ha] at hR
          exact hR.2
        · rename_i x s2 ha
          split at h
          · rename_i g hw2
            cases h
            unfold PS.want at hw2
            split at hw2 <;> cases hw2
            exact gone_ne (by decide)
          · cases h
    · rw [pDef_no hs hk] at h; cases h; exact gone_ne (by decide)
theorem pDefs_err {fin : Int} : ∀ (n : Nat) (s : PS) (acc : List Dfn) (f : Fault), s.l.length + 2 ≤ n → s.opn = 0 → pDefs fin n s acc = .error f → f.code ≠ 0
  | 0, s, acc, f, hn, _, _ => by omega
  | n + 1, s, acc, f, hn, ho, h => by
    rw [pDefs] at h
    split at h
    · split at h
      · cases h; exact gone_ne (by decide)
      · split at h
        · rename_i g hd
          cases h
          exact pDef_err ho (Nat.le_refl _) hd
        · rename_i d s' hd
          have hl := (pDef_len hd).1
          exact pDefs_err n s' _ f (by omega) ((pDef_opn hd).trans ho) h
    · cases h
theorem sameT_sh (k : Nat) : ∀ (t u : List Dfn), sameT false (t ++ u.map (shD k)) (t ++ u) = true
  | [], [] => rfl
  | [], x :: u => by
    have := sameT_sh k [] u
    simp only [List.nil_append] at this
    show sameT false (shD k x :: u.map (shD k)) (x :: u) = true
    rw [sameT, this, eqD, show (shD k x).e = x.e from rfl, eqE_refl]
    simp [shD]
  | x :: t, u => by
    show sameT false (x :: (t ++ u.map (shD k))) (x :: (t ++ u)) = true
    rw [sameT, sameT_sh k t u, eqD, eqE_refl]
    simp
theorem parseS_err {s : ByteArray} {f : Fault} (h0 : (Old.scanR s).2.1 = 0) (h : parseToks s.size (Old.scanR s).1 = .error f) : parseS s = ([], f) := by
  unfold parseS; rw [if_pos h0, h]
theorem parseS_ok {s : ByteArray} {l : List Dfn} (h0 : (Old.scanR s).2.1 = 0) (h : parseToks s.size (Old.scanR s).1 = .ok l) : parseS s = (l, ⟨0, 0⟩) := by
  unfold parseS; rw [if_pos h0, h]
theorem parseS_bad {s : ByteArray} (h0 : (Old.scanR s).2.1 ≠ 0) : parseS s = ([], ⟨(Old.scanR s).2.1, (Old.scanR s).2.2⟩) := by
  unfold parseS; rw [if_neg h0]
/-- What the law asks of three results. -/
def Joins (n : Nat) (A B S : List Dfn × Fault) : Prop :=
  (A.2.code ≠ 0 → (n : Int) ≤ A.2.at_ ∨ A.2.code = 1 ∨ B.2.code = 1 ∨ B.2.code = 2 ∨ S.2 = A.2) ∧
  (A.2.code = 0 → B.2.code ≠ 0 → S.2.code ≠ 0 ∨ B.2.code = 4) ∧
  (A.2.code = 0 → B.2.code = 0 → 16 < A.1.length + B.1.length → S.2.code = 6) ∧
  (A.2.code = 0 → B.2.code = 0 → A.1.length + B.1.length ≤ 16 → S.2.code = 0 ∧ sameT false S.1 (A.1 ++ B.1) = true)
theorem parse_join (a b : ByteArray) (h : a.size + b.size ≤ 5999) : Joins a.size (parseS a) (parseS b) (parseS (a ++ (Old.nlB ++ b))) := by
  rcases Old.scan_join a b h with ⟨T, U, h1, h2, h3⟩ | ⟨T, c, p, h1, hc, h2, h3⟩ | ⟨c, p, hc, h1, h2⟩
  · have a0 : (Old.scanR a).2.1 = 0 := by rw [h1]
    have b0 : (Old.scanR b).2.1 = 0 := by rw [h2]
    have s0 : (Old.scanR (a ++ (Old.nlB ++ b))).2.1 = 0 := by rw [h3]
    generalize hN : (a ++ (Old.nlB ++ b)).size = N
    have hE := ext_defs a.size N (U.map (Old.shTk (a.size + 1))) (T.length + 2) ((T ++ U.map (Old.shTk (a.size + 1))).length + 2) ⟨T, 0, 0⟩ [] (Nat.le_refl _) (by simp)
    have hS : PS.ext (U.map (Old.shTk (a.size + 1))) ⟨T, 0, 0⟩ = ⟨T ++ U.map (Old.shTk (a.size + 1)), 0, 0⟩ := rfl
    rw [hS] at hE
    have pS : parseToks N (T ++ U.map (Old.shTk (a.size + 1))) = pDefs N ((T ++ U.map (Old.shTk (a.size + 1))).length + 2) ⟨T ++ U.map (Old.shTk (a.size + 1)), 0, 0⟩ [] := rfl
    cases hA : pDefs a.size (T.length + 2) ⟨T, 0, 0⟩ [] with
    | error f =>
      have eA : parseS a = ([], f) := parseS_err a0 (by rw [h1]; exact hA)
      have hf := pDefs_err _ _ _ _ (Nat.le_refl _) rfl hA
      rw [hA] at hE
      rw [eA]
      refine ⟨fun _ => ?_, fun h => absurd h hf, fun h => absurd h hf, fun h => absurd h hf⟩
      by_cases hat : (a.size : Int) ≤ f.at_
      · exact .inl hat
      · have := hE (by omega)
        refine .inr (.inr (.inr (.inr ?_)))
        rw [parseS_err s0 (by rw [h3, hN, pS]; exact this)]
    | ok t =>
      have eA : parseS a = (t, ⟨0, 0⟩) := parseS_ok a0 (by rw [h1]; exact hA)
      have ht16 : t.length ≤ 16 := by have := (parseS_fit a).1; rwa [eA] at this
      rw [hA] at hE
      obtain ⟨m', o, p, e1, e2, e3, e4⟩ := hE
      obtain rfl := e3 rfl
      rw [eA]
      by_cases hU : U.length = 0
      · obtain rfl := List.length_eq_zero_iff.1 hU
        have hB : parseToks b.size [] = .error ⟨4, b.size⟩ := rfl
        have eB : parseS b = ([], ⟨4, b.size⟩) := parseS_err b0 (by rw [h2]; exact hB)
        rw [eB]
        exact ⟨fun h => absurd rfl h, fun _ _ => .inr rfl, fun _ h => absurd (show (4 : Int) = 0 from h) (by decide), fun _ h => absurd (show (4 : Int) = 0 from h) (by decide)⟩
      · have hD := sh_defs b.size N (a.size + 1) t ht16 (U.length + 2) m' ⟨U, 0, 0⟩ [] p (Nat.le_refl _) (by simpa using e2) (.inr (by dsimp only; omega)) (by simpa using ht16)
        simp only [List.map_nil, List.append_nil] at hD
        have hsh : (⟨(shP (a.size + 1) ⟨U, 0, 0⟩).l, (⟨U, 0, 0⟩ : PS).opn, p⟩ : PS) = ⟨U.map (Old.shTk (a.size + 1)), 0, p⟩ := rfl
        rw [hsh] at hD
        cases hB : pDefs b.size (U.length + 2) ⟨U, 0, 0⟩ [] with
        | error g =>
          have eB : parseS b = ([], g) := parseS_err b0 (by rw [h2]; exact hB)
          have hg := pDefs_err _ _ _ _ (Nat.le_refl _) rfl hB
          rw [hB] at hD
          obtain ⟨g', g1, g2⟩ := hD
          rw [eB, parseS_err s0 (by rw [h3, hN, pS, e1]; exact g1)]
          exact ⟨fun h => absurd rfl h, fun _ _ => .inl (by dsimp only; omega), fun _ h => absurd h hg, fun _ h => absurd h hg⟩
        | ok u =>
          have eB : parseS b = (u, ⟨0, 0⟩) := parseS_ok b0 (by rw [h2]; exact hB)
          rw [hB] at hD
          rw [eB]
          refine ⟨fun h => absurd rfl h, fun _ h => absurd rfl h, fun _ _ h16 => ?_, fun _ _ h16 => ?_⟩
          · obtain ⟨g', g1, g2⟩ := hD.2 h16
            rw [parseS_err s0 (by rw [h3, hN, pS, e1]; exact g1)]
            exact g2
          · rw [parseS_ok s0 (by rw [h3, hN, pS, e1]; exact hD.1 h16)]
            exact ⟨rfl, sameT_sh _ _ _⟩
  · have eB := parseS_bad (s := b) (by rw [h2]; show c ≠ 0; omega)
    rw [h2] at eB
    have eS := parseS_bad h3
    rw [eB, eS]
    have hc0 : c ≠ 0 := by omega
    exact ⟨fun _ => by dsimp only; omega, fun _ _ => .inl h3, fun _ h => absurd h hc0, fun _ h => absurd h hc0⟩
  · have eA := parseS_bad (s := a) (by rw [h1]; exact hc)
    have eS := parseS_bad (s := a ++ (Old.nlB ++ b)) (by rw [h2]; exact hc)
    rw [h1] at eA
    rw [h2] at eS
    rw [eA, eS]
    exact ⟨fun _ => .inr (.inr (.inr (.inr rfl))), fun h => absurd h hc, fun h => absurd h hc, fun h => absurd h hc⟩
end Go.Proofs.Ytgcagjamjdnglaa
