/-
  Sim: SyntaxParses returns true.
-/
import Derived.Test.YtgcagjamjdnglaaSynX
import Derived.Test.YtgcagjamjdnglaaSynS
import Derived.Test.YtgcagjamjdnglaaS5
set_option linter.unusedVariables false
set_option linter.unusedSimpArgs false
set_option linter.unusedSectionVars false
namespace Go.Proofs.Ytgcagjamjdnglaa
open Go.RowKit
set_option maxRecDepth 100000
-- SimX

theorem one_size (op : Int) (l : List Expr) : esz (one op l) ≤ 1 + eszs l := by
  match l with
  | [] => simp [one, esz, eszs]
  | [x] => simp only [one, eszs]; omega
  | _ :: _ :: _ => simp only [one, esz]; omega
theorem wrap_size (op : Int) (x : Expr) : esz (wrapE op x) ≤ 1 + esz x := by
  unfold wrapE; split
  · omega
  · simp only [esz, eszs]; omega
theorem PS.want_len {fin : Int} {s s' : PS} {x : ByteArray} (h : s.want fin x = .ok s') : s'.l.length + 1 = s.l.length := by
  unfold PS.want at h
  split at h
  · rename_i hs
    cases h
    obtain ⟨t, r, e, _⟩ := PS.sign_cons hs
    simp [PS.next, e]
  · cases h
theorem PS.part_l {fin : Int} {s s' : PS} (h : s.part fin = .ok s') : s'.l = s.l := by
  unfold PS.part at h
  split at h <;> cases h
  rfl
/-- How great what is read is. -/
theorem size_all (fin : Int) : ∀ n,
    (∀ s x s', pItem fin n s = .ok (some x, s') → esz x + 3 * s'.l.length ≤ 3 * s.l.length) ∧
    (∀ s op e x s', 0 < s.l.length → pGroup fin n s op e = .ok (x, s') → esz x + 3 * s'.l.length ≤ 3 * s.l.length) ∧
    (∀ s acc l s', pItems fin n s acc = .ok (l, s') → eszs l + 3 * s'.l.length ≤ eszs acc + 3 * s.l.length) ∧
    (∀ s x s', pRow fin n s = .ok (x, s') → esz x + 3 * s'.l.length ≤ 1 + 3 * s.l.length) ∧
    (∀ s acc l s', pAlts fin n s acc = .ok (l, s') → eszs l + 3 * s'.l.length ≤ eszs acc + 3 * s.l.length) ∧
    (∀ s x s', pAlt fin n s = .ok (x, s') → esz x + 3 * s'.l.length ≤ 2 + 3 * s.l.length)
  | 0 => ⟨fun _ _ _ h => by simp [pItem] at h, fun _ _ _ _ _ _ h => by simp [pGroup] at h, fun _ _ _ _ h => by simp [pItems] at h, fun _ _ _ h => by simp [pRow] at h, fun _ _ _ _ h => by simp [pAlts] at h, fun _ _ _ h => by simp [pAlt] at h⟩
  | n + 1 => by
    obtain ⟨i1, i2, i3, i4, i5, i6⟩ := size_all fin n
    refine ⟨fun s x s' h => ?_, fun s op e x s' hl h => ?_, fun s acc l s' h => ?_, fun s x s' h => ?_, fun s acc l s' h => ?_, fun s x s' h => ?_⟩
    · rw [pItem] at h
      split at h
      · cases h
      · rename_i t r e
        split at h
        · split at h
          · cases h
          · rename_i s1 hp
            cases h
            have hp' := PS.part_l hp
            simp only [esz, eszs, PS.next, hp', e, List.tail_cons, List.length_cons]
            omega
        · split at h
          · cases h
          · rename_i op en hb
            split at h
            · cases h
            · rename_i y s2 hg
              cases h
              exact i2 _ _ _ _ _ (PS.bracket_cons hb) hg
    · rw [pGroup] at h
      split at h
      · cases h
      · split at h
        · cases h
        · rename_i s1 hp
          split at h
          · cases h
          · rename_i y s2 ha
            split at h
            · cases h
            · rename_i s3 hw
              cases h
              have h1 := i6 _ _ _ ha
              have h2 := PS.want_len hw
              have h3 := wrap_size op y
              have h4 : (PS.next ⟨s1.l, s1.opn + 1, s1.parts⟩).l.length + 1 = s.l.length := by
                show s1.l.tail.length + 1 = _
                rw [PS.part_l hp, List.length_tail]; omega
              show esz (wrapE op y) + 3 * s3.l.length ≤ _
              omega
    · rw [pItems] at h
      split at h
      · cases h
      · rename_i s1 hi
        cases h
        have : s'.l.length ≤ s.l.length := by
          cases n with
          | zero => simp [pItem] at hi
          | succ n =>
            rw [pItem] at hi
            split at hi
            · cases hi; exact Nat.le_refl _
            · split at hi
              · split at hi <;> cases hi
              · split at hi
                · cases hi; exact Nat.le_refl _
                · split at hi <;> cases hi
        omega
      · rename_i x s1 hi
        have h1 := i1 _ _ _ hi
        have h2 := i3 _ _ _ _ h
        rw [eszs_append] at h2
        simp only [eszs] at h2
        omega
    · rw [pRow] at h
      split at h
      · cases h
      · rename_i l s1 hi
        cases h
        have h1 := i3 _ _ _ _ hi
        have h2 := one_size 3 l
        simp only [eszs] at h1
        omega
    · rw [pAlts] at h
      split at h
      · rename_i hs
        obtain ⟨t, r, e, _⟩ := PS.sign_cons hs
        split at h
        · cases h
        · rename_i s1 hp
          split at h
          · cases h
          · rename_i x s2 hr
            have h1 := i4 _ _ _ hr
            have h2 := i5 _ _ _ _ h
            rw [eszs_append] at h2
            simp only [eszs] at h2
            have h3 : s1.next.l.length + 1 = s.l.length := by
              show s1.l.tail.length + 1 = _
              rw [PS.part_l hp, e]; rfl
            omega
      · cases h; exact Nat.le_refl _
    · rw [pAlt] at h
      split at h
      · cases h
      · rename_i x1 s1 hr
        split at h
        · cases h
        · rename_i l s2 hq
          cases h
          have h1 := i4 _ _ _ hr
          have h2 := i5 _ _ _ _ hq
          have h3 := one_size 4 l
          simp only [eszs] at h2
          omega
theorem pDef_size {fin : Int} {n : Nat} {s s' : PS} {d : Dfn} (h : pDef fin n s = .ok (d, s')) : esz d.e + 3 * s'.l.length ≤ 3 * s.l.length := by
  unfold pDef at h
  split at h
  · cases h
  · rename_i t r e
    split at h
    · split at h
      · cases h
      · rename_i s1 hw
        split at h
        · cases h
        · rename_i x s2 ha
          split at h
          · cases h
          · rename_i s3 hw2
            cases h
            have h1 := PS.want_len hw
            have h2 := PS.want_len hw2
            have h3 := (size_all fin n).2.2.2.2.2 _ _ _ ha
            have h4 : s.next.l.length + 1 = s.l.length := by simp [PS.next, e]
            dsimp only at h3 ⊢
            omega
    · cases h
theorem pDefs_size {fin : Int} : ∀ (n : Nat) (s : PS) (acc l : List Dfn) (M : Nat), pDefs fin n s acc = .ok l → acc.length ≤ 16 → 3 * s.l.length ≤ M → (∀ d ∈ acc, esz d.e ≤ M) → l.length ≤ 16 ∧ ∀ d ∈ l, esz d.e ≤ M
  | 0, s, acc, l, M, h, _, _, _ => by simp [pDefs] at h
  | n + 1, s, acc, l, M, h, ha, hM, hacc => by
    rw [pDefs] at h
    split at h
    · split at h
      · cases h
      · split at h
        · cases h
        · rename_i d s' hd
          have h1 := pDef_size hd
          refine pDefs_size n s' _ l M h (by simp; omega) (by omega) fun x hx => ?_
          rcases List.mem_append.1 hx with hx | hx
          · exact hacc x hx
          · rw [List.mem_singleton.1 hx]; omega
    · cases h; exact ⟨ha, hacc⟩
theorem parseS_fit (s : ByteArray) : (parseS s).1.length ≤ 16 ∧ ∀ d ∈ (parseS s).1, esz d.e ≤ 18000 := by
  unfold parseS
  split
  · split
    · exact ⟨by simp, by simp⟩
    · rename_i l hp
      refine pDefs_size _ _ _ _ 18000 hp (by simp) ?_ (by simp)
      have := scanR_len s
      dsimp only; omega
  · exact ⟨by simp, by simp⟩
theorem parseS_text (s : ByteArray) : TextFit (parseS s).1 := ⟨by have := (parseS_fit s).1; omega, fun d hd => by have := (parseS_fit s).2 d hd; omega⟩
set_option maxHeartbeats 2000000 in
theorem syntaxParses_sim (s : ByteArray) (hs : s.size ≤ maxLen) : ACalls Try.prog 7 [Str s] [] (B true) [] := by
  refine ACalls.intro (n := 30) Try.func7 rfl rfl (by simp) (by rfl) ?_
  simp only [argFr]
  have hss : (s.size : Int) ≤ 9223372036854775807 := by unfold maxLen at hs; omega
  by_cases hbig : 20000 < s.size
  · repeat (first | refine wk ?_ | refine s_field (hr := ?_))
    refine s_call [] (hA := syntaxBegun_sim) (hr := ?_)
    repeat (first | refine wk ?_ | refine s_field (hr := ?_))
    exact fin
  have h1 := parse_sim s hs
  have h2 := parseRef_sim s hs
  have h3 := sameText_sim (t := false) (u := false) (pl := true) (parseS_text s) (parseS_text s)
  rw [sameT_refl] at h3
  have q2 : decide ((parseS s).2 = (parseS s).2) = true := decide_eq_true rfl
  unfold prR at h1 h2
  generalize parseS s = R at *
  obtain ⟨y, fl⟩ := R
  dsimp only at *
  repeat (first | refine wk ?_ | refine s_field (hr := ?_))
  refine s_call [] (hA := syntaxBegun_sim) (hr := ?_)
  repeat (first | refine wk ?_ | refine s_field (hr := ?_))

  refine s_call [] (hA := h1) (hr := ?_)
  repeat (first | refine wk ?_ | refine s_field (hr := ?_))

  refine s_call [] (hA := h2) (hr := ?_)
  repeat (first | refine wk ?_ | refine s_field (hr := ?_))

  refine s_call [] (hA := h3) (hr := ?_)
  repeat (first | refine wk ?_ | refine s_field (hr := ?_))
  exact fin
end Go.Proofs.Ytgcagjamjdnglaa
