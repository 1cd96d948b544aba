/-
  Sim: the parser as a whole: def.
-/
import Derived.Test.YtkfeccbahpmadaaSynE
set_option linter.unusedVariables false
set_option linter.unusedSimpArgs false
set_option linter.unusedSectionVars false
namespace Go.Proofs.Ytkfeccbahpmadaa
open Go.RowKit
set_option maxRecDepth 100000
-- SimX

theorem parser_all (en : Int) : ∀ n,
    (∀ s : PS, s.Good → s.l.length ≤ 10000 → 5 * s.l.length + 4 ≤ n → Does 163 [.ptr 1000 0] en s (resE (pAlt en n s))) ∧
    (∀ s : PS, s.Good → s.l.length ≤ 10000 → 5 * s.l.length + 3 ≤ n → Does 203 [.ptr 1000 0] en s (resE (pRow en n s))) ∧
    (∀ s : PS, s.Good → s.l.length ≤ 10000 → 5 * s.l.length + 1 ≤ n → Does 220 [.ptr 1000 0] en s (resI (pItem en n s))) ∧
    (∀ (s : PS) (op : Int) (e : ByteArray), s.Good → s.l.length ≤ 10000 → 0 < s.l.length → 5 * s.l.length ≤ n → Does 225 [.ptr 1000 0, I op, Str e] en s (resE (pGroup en n s op e))) := by
  intro n
  induction n using Nat.strongRecOn with
  | _ n ih => exact ⟨alt_of (fun m hm => (ih m hm).2.1), row_of (fun m hm => (ih m hm).2.2.1), item_of (fun m hm => (ih m hm).2.2.2), group_of (fun m hm => (ih m hm).1)⟩
theorem alt_sim {en : Int} {n : Nat} {s : PS} (g : s.Good) (hl : s.l.length ≤ 10000) (hn : 5 * s.l.length + 4 ≤ n) : Does 163 [.ptr 1000 0] en s (resE (pAlt en n s)) := (parser_all en n).1 s g hl hn
def resD : Except Fault (Dfn × PS) → Except Fault (V × PS) := fun r => r.map fun p => (.d (dfnD false p.1), p.2)
theorem pDef_ok {en : Int} {n : Nat} {s s' : PS} {d : Dfn} (g : s.Good) (h : pDef en n s = .ok (d, s')) : s'.Good ∧ s'.l.length + 1 ≤ s.l.length := by
  unfold pDef at h
  split at h
  · cases h
  · rename_i t r e
    split at h
    · split at h
      · cases h
      · rename_i s1 hw
        have t1 := PS.want_ok hw (show s.next.Good from g)
        have hl1 : s1.l.length + 1 ≤ s.l.tail.length := t1.2.2
        rw [e, List.tail_cons] at hl1
        have g1 : (PS.mk s1.l s1.opn 0).Good := by obtain ⟨a, b, _, _⟩ := t1.1; exact ⟨a, b, Int.le_refl 0, by show (0 : Int) ≤ 60; omega⟩
        split at h
        · cases h
        · rename_i x s2 ha
          have t2 := (inv_all en n).2.2.2.2.2.2 _ _ _ g1 ha
          have hl2 : s2.l.length + 0 ≤ s1.l.length := t2.2.2
          split at h
          · cases h
          · rename_i s3 hw2
            cases h
            have t3 := PS.want_ok hw2 t2.1
            have hl3 := t3.2.2
            exact ⟨t3.1, by rw [e, List.length_cons]; omega⟩
    · cases h
set_option maxHeartbeats 4000000 in
theorem def_sim {en : Int} {n : Nat} {s : PS} (g : s.Good) (hl : s.l.length ≤ 10000) (hn : 5 * s.l.length + 8 ≤ n) : Does 104 [.ptr 1000 0] en s (resD (pDef en n s)) := by
  have hf := fail_pan (en := en) (s := s) (code := 3) (by omega)
  obtain ⟨l, opn, parts⟩ := s
  dsimp only at hf hl hn ⊢
  cases l with
  | nil =>
    show APan _ _ _ _ _ _
    refine APan.intro (n := 40) Try.func104 rfl rfl (by simp) (by rfl) rfl ?_
    simp only [argFr]
    repeat (first | refine wk ?_ | refine s_field (hr := ?_))
    refine s_panCall [] [] [] (hA := hf)
  | cons t r =>
    by_cases h1 : t.kind = 1
    rotate_left
    · rw [show pDef en n ⟨t :: r, opn, parts⟩ = .error (PS.gone en 3 ⟨t :: r, opn, parts⟩) by unfold pDef; dsimp only; rw [if_neg h1]]
      show APan _ _ _ _ _ _
      refine APan.intro (n := 40) Try.func104 rfl rfl (by simp) (by rfl) rfl ?_
      simp only [argFr]
      repeat (first | refine wk ?_ | refine s_field (hr := ?_))
      refine s_panCall [] [] [] (hA := hf)
    have hnx := next_sim (en := en) (s := ⟨t :: r, opn, parts⟩) (t := t) (r := r) rfl (by dsimp only; omega)
    have hlen : (PS.next ⟨t :: r, opn, parts⟩).l.length + 1 = (t :: r).length := rfl
    rw [show pDef en n ⟨t :: r, opn, parts⟩ = match (PS.next ⟨t :: r, opn, parts⟩).want en (sgn 61) with
        | .error f => .error f
        | .ok s1 => match pAlt en n ⟨s1.l, s1.opn, 0⟩ with
          | .error f => .error f
          | .ok (x, s2) => match s2.want en (sgn 59) with
            | .error f => .error f
            | .ok s3 => .ok (⟨t.text, t.at_, x⟩, s3) by unfold pDef; dsimp only; rw [if_pos h1]; rfl]
    cases hw : (PS.next ⟨t :: r, opn, parts⟩).want en (sgn 61) with
    | error f =>
      have hwe := want_err (x := sgn 61) (by omega) hw
      show APan _ _ _ _ _ _
      refine APan.intro (n := 40) Try.func104 rfl rfl (by simp) (by rfl) rfl ?_
      simp only [argFr]
      repeat (first | refine wk ?_ | refine s_field (hr := ?_))
      refine s_call [] (hA := hnx) (hr := ?_)
      repeat (first | refine wk ?_ | refine s_field (hr := ?_))
      refine s_panCall [] [] [] (hA := hwe)
    | ok s1 =>
      have hwk := want_okc (x := sgn 61) (by omega) hw
      have t1 := PS.want_ok hw (show (PS.next ⟨t :: r, opn, parts⟩).Good from g)
      have hl1 := t1.2.2
      have g1 : (PS.mk s1.l s1.opn 0).Good := by obtain ⟨a, b, _, _⟩ := t1.1; exact ⟨a, b, Int.le_refl 0, by show (0 : Int) ≤ 60; omega⟩
      have hal := alt_sim (en := en) (n := n) g1 (by dsimp only; omega) (by dsimp only; omega)
      dsimp only
      cases ha : pAlt en n ⟨s1.l, s1.opn, 0⟩ with
      | error f =>
        rw [ha] at hal
        replace hal : APan Try.prog 163 [.ptr 1000 0] (prG en s1.l s1.opn 0) (goneV f) jkH := hal
        show APan _ _ _ _ _ _
        refine APan.intro (n := 40) Try.func104 rfl rfl (by simp) (by rfl) rfl ?_
        simp only [argFr]
        repeat (first | refine wk ?_ | refine s_field (hr := ?_))
        refine s_call [] (hA := hnx) (hr := ?_)
        repeat (first | refine wk ?_ | refine s_field (hr := ?_))
        refine s_call [] (hA := hwk) (hr := ?_)
        repeat (first | refine wk ?_ | refine s_field (hr := ?_))
        refine s_panCallR [] [] [] (hA := hal) (hr := ?_)
        refine d_nev1 35 rfl ?_
        refine wk1 ?_
        refine d_nev1 35 rfl ?_
        refine t_drawn ?_
        exact aw_nev (Nev.slot 35 rfl)
      | ok p2 =>
        obtain ⟨x, s2⟩ := p2
        rw [ha] at hal
        replace hal : ACalls Try.prog 163 [.ptr 1000 0] (prG en s1.l s1.opn 0) (.d (exprA false x)) (prG en s2.l s2.opn s2.parts) := hal
        have t2 := (inv_all en n).2.2.2.2.2.2 _ _ _ g1 ha
        have hl2 : s2.l.length + 0 ≤ s1.l.length := t2.2.2
        dsimp only
        cases hw2 : s2.want en (sgn 59) with
        | error f =>
          have hwe := want_err (x := sgn 59) (by omega) hw2
          show APan _ _ _ _ _ _
          refine APan.intro (n := 40) Try.func104 rfl rfl (by simp) (by rfl) rfl ?_
          simp only [argFr]
          repeat (first | refine wk ?_ | refine s_field (hr := ?_))
          refine s_call [] (hA := hnx) (hr := ?_)
          repeat (first | refine wk ?_ | refine s_field (hr := ?_))
          refine s_call [] (hA := hwk) (hr := ?_)
          repeat (first | refine wk ?_ | refine s_field (hr := ?_))
          refine s_call [] (hA := hal) (hr := ?_)
          repeat (first | refine wk ?_ | refine s_field (hr := ?_))
          refine s_panCall [] [] [] (hA := hwe)
        | ok s3 =>
          have hwk2 := want_okc (x := sgn 59) (by omega) hw2
          show ACalls _ _ _ _ _ _
          refine ACalls.intro (n := 40) Try.func104 rfl rfl (by simp) (by rfl) ?_
          simp only [argFr]
          repeat (first | refine wk ?_ | refine s_field (hr := ?_))
          refine s_call [] (hA := hnx) (hr := ?_)
          repeat (first | refine wk ?_ | refine s_field (hr := ?_))
          refine s_call [] (hA := hwk) (hr := ?_)
          repeat (first | refine wk ?_ | refine s_field (hr := ?_))
          refine s_call [] (hA := hal) (hr := ?_)
          repeat (first | refine wk ?_ | refine s_field (hr := ?_))
          refine s_call [] (hA := hwk2) (hr := ?_)
          repeat (first | refine wk ?_ | refine s_field (hr := ?_))
          --@
          exact fin
end Go.Proofs.Ytkfeccbahpmadaa
