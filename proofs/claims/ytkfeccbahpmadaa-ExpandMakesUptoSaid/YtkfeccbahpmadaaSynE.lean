/-
  Sim: the parser: group, item.
-/
import Derived.Test.YtkfeccbahpmadaaSyA
set_option linter.unusedVariables false
set_option linter.unusedSimpArgs false
set_option linter.unusedSectionVars false
namespace Go.Proofs.Ytkfeccbahpmadaa
open Go.RowKit
set_option maxRecDepth 100000
-- SimX

theorem fldTok2 : FieldRun Try.prog 217 2 3 2 := fieldRun Try.underlying217 rfl rfl rfl Try.underlying9 rfl
set_option maxHeartbeats 4000000 in
theorem group_of {en : Int} {n : Nat} (hA : ∀ m, m < n → ∀ s : PS, s.Good → s.l.length ≤ 10000 → 5 * s.l.length + 4 ≤ m → Does 163 [.ptr 1000 0] en s (resE (pAlt en m s))) :
    ∀ (s : PS) (op : Int) (e : ByteArray), s.Good → s.l.length ≤ 10000 → 0 < s.l.length → 5 * s.l.length ≤ n → Does 225 [.ptr 1000 0, I op, Str e] en s (resE (pGroup en n s op e)) := by
  intro s op e g hl h0 hn
  obtain ⟨k, rfl⟩ : ∃ k, n = k + 1 := ⟨n - 1, by omega⟩
  obtain ⟨tk, r, he⟩ : ∃ tk r, s.l = tk :: r := by
    cases h : s.l with
    | nil => rw [h] at h0; cases h0
    | cons a b => exact ⟨a, b, rfl⟩
  have gg := g
  obtain ⟨g1, g2, g3, g4⟩ := gg
  rw [pGroup]
  by_cases h40 : s.opn = 40
  · rw [if_pos h40]
    have hf := fail_pan (en := en) (s := s) (code := 5) (by omega)
    show APan _ _ _ _ _ _
    refine APan.intro (n := 45) Try.func225 rfl rfl (by simp) (by rfl) rfl ?_
    simp only [argFr]
    repeat (first | refine wk ?_ | refine s_field (hr := ?_))
    refine s_panCall [] [] [] (hA := hf)
  rw [if_neg h40]
  cases hp : s.part en with
  | error f =>
    have hpe := part_err g (by omega) hp
    show APan _ _ _ _ _ _
    refine APan.intro (n := 45) Try.func225 rfl rfl (by simp) (by rfl) rfl ?_
    simp only [argFr]
    repeat (first | refine wk ?_ | refine s_field (hr := ?_))
    refine s_panCall [] [] [] (hA := hpe)
  | ok s1 =>
    have hpk := part_okc g (by omega) hp
    obtain ⟨b1, b2, b3⟩ := PS.part_ok hp g
    have hnx := next_sim (en := en) (s := ⟨s1.l, s1.opn + 1, s1.parts⟩) (t := tk) (r := r) (by show s1.l = _; rw [b3, he]) (by show s1.l.length ≤ _; rw [b3]; omega)
    dsimp only at hnx
    have hlen : (PS.next ⟨s1.l, s1.opn + 1, s1.parts⟩).l.length + 1 = s.l.length := by simp [PS.next, b3, he]
    have gN : (PS.next ⟨s1.l, s1.opn + 1, s1.parts⟩).Good := by
      obtain ⟨a1, a2, a3, a4⟩ := b1
      exact ⟨by show 0 ≤ s1.opn + 1; omega, by show s1.opn + 1 ≤ 40; omega, a3, a4⟩
    have hal := hA k (by omega) _ gN (by omega) (by omega)
    obtain ⟨_, _, _, _, _, _, i7⟩ := inv_all en k
    show Does _ _ _ _ (resE (match pAlt en k (PS.next ⟨s1.l, s1.opn + 1, s1.parts⟩) with | .error f => .error f | .ok (x, s2) => match s2.want en e with | .error f => .error f | .ok s3 => .ok (wrapE op x, ⟨s3.l, s3.opn - 1, s3.parts⟩)))
    cases ha : pAlt en k (PS.next ⟨s1.l, s1.opn + 1, s1.parts⟩) with
    | error f =>
      rw [ha] at hal
      replace hal : APan _ _ _ _ _ _ := hal
      show APan _ _ _ _ _ _
      refine APan.intro (n := 45) Try.func225 rfl rfl (by simp) (by rfl) rfl ?_
      simp only [argFr]
      repeat (first | refine wk ?_ | refine s_field (hr := ?_))
      refine s_call [] (hA := hpk) (hr := ?_)
      repeat (first | refine wk ?_ | refine s_field (hr := ?_))
      refine s_call [] (hA := hnx) (hr := ?_)
      repeat (first | refine wk ?_ | refine s_field (hr := ?_))
      refine s_panCall [] [] [] (hA := hal)
    | ok p2 =>
      obtain ⟨x, s2⟩ := p2
      rw [ha] at hal
      replace hal : ACalls _ _ _ _ _ _ := hal
      have t2 := i7 _ _ _ gN ha
      have hl2 := t2.2.2
      show Does _ _ _ _ (resE (match s2.want en e with | .error f => .error f | .ok s3 => .ok (wrapE op x, ⟨s3.l, s3.opn - 1, s3.parts⟩)))
      cases hw : s2.want en e with
      | error f =>
        have hwe := want_err (x := e) (by omega) hw
        show APan _ _ _ _ _ _
        refine APan.intro (n := 45) Try.func225 rfl rfl (by simp) (by rfl) rfl ?_
        simp only [argFr]
        repeat (first | refine wk ?_ | refine s_field (hr := ?_))
        refine s_call [] (hA := hpk) (hr := ?_)
        repeat (first | refine wk ?_ | refine s_field (hr := ?_))
        refine s_call [] (hA := hnx) (hr := ?_)
        repeat (first | refine wk ?_ | refine s_field (hr := ?_))
        refine s_call [] (hA := hal) (hr := ?_)
        repeat (first | refine wk ?_ | refine s_field (hr := ?_))
        refine s_panCall [] [] [] (hA := hwe)
      | ok s3 =>
        have hwk := want_okc (x := e) (by omega) hw
        have t3 := PS.want_ok hw t2.1
        obtain ⟨q1, q2, q3, q4⟩ := t3.1
        show ACalls _ _ _ _ _ _
        refine ACalls.intro (n := 45) Try.func225 rfl rfl (by simp) (by rfl) ?_
        simp only [argFr]
        by_cases h5 : op = 0
        · rw [show wrapE op x = x from if_pos h5]
          repeat (first | refine wk ?_ | refine s_field (hr := ?_))
          refine s_call [] (hA := hpk) (hr := ?_)
          repeat (first | refine wk ?_ | refine s_field (hr := ?_))
          refine s_call [] (hA := hnx) (hr := ?_)
          repeat (first | refine wk ?_ | refine s_field (hr := ?_))
          refine s_call [] (hA := hal) (hr := ?_)
          repeat (first | refine wk ?_ | refine s_field (hr := ?_))
          refine s_call [] (hA := hwk) (hr := ?_)
          repeat (first | refine wk ?_ | refine s_field (hr := ?_))
          exact fin
        · rw [show wrapE op x = .mk op ⟨#[]⟩ [x] from if_neg h5, show exprA false (Expr.mk op ⟨#[]⟩ [x]) = .agg [iD op, sD ⟨#[]⟩, .sl false 3 [exprA false x]] by simp only [exprA, Expr.op, Expr.name, Expr.l, exprsD, List.map_cons, List.map_nil, exprA_eq]]
          repeat (first | refine wk ?_ | refine s_field (hr := ?_))
          refine s_call [] (hA := hpk) (hr := ?_)
          repeat (first | refine wk ?_ | refine s_field (hr := ?_))
          refine s_call [] (hA := hnx) (hr := ?_)
          repeat (first | refine wk ?_ | refine s_field (hr := ?_))
          refine s_call [] (hA := hal) (hr := ?_)
          repeat (first | refine wk ?_ | refine s_field (hr := ?_))
          refine s_call [] (hA := hwk) (hr := ?_)
          repeat (first | refine wkr ?_ | refine s_field (hr := ?_))
          refine aw_froz 42 rfl ?_
          repeat (first | refine wk ?_ | refine s_field (hr := ?_))
          exact fin
set_option maxHeartbeats 4000000 in
theorem item_of {en : Int} {n : Nat} (hG : ∀ m, m < n → ∀ (s : PS) (op : Int) (e : ByteArray), s.Good → s.l.length ≤ 10000 → 0 < s.l.length → 5 * s.l.length ≤ m → Does 225 [.ptr 1000 0, I op, Str e] en s (resE (pGroup en m s op e))) :
    ∀ s : PS, s.Good → s.l.length ≤ 10000 → 5 * s.l.length + 1 ≤ n → Does 220 [.ptr 1000 0] en s (resI (pItem en n s)) := by
  intro s g hl hn
  obtain ⟨k, rfl⟩ : ∃ k, n = k + 1 := ⟨n - 1, by omega⟩
  rw [pItem]
  obtain ⟨l, opn, parts⟩ := s
  cases l with
  | nil =>
    show ACalls _ _ _ _ _ _
    refine ACalls.intro (n := 55) Try.func220 rfl rfl (by simp) (by rfl) ?_
    simp only [argFr]
    repeat (first | refine wk ?_ | refine s_field (hr := ?_))
    exact Fin.r2 rfl (.aggT TY rfl rfl rfl rfl rfl) (.of_tmp rfl) (Co.tup (by repeat' (first | exact trivial | (refine ⟨?_, ?_⟩) | exact Co.refl _ | exact Co.froz rfl rfl | exact Co.froz rfl (by simp) | exact Co.nil _ _ | exact Co.nil false _ | exact Co.agg (Cos.refl _) | (refine Co.agg ?_)))) (by repeat' (first | exact trivial | exact HElt.of rfl | refine And.intro ?_ ?_)) rfl
  | cons t r =>
    have hG' := hG k (by omega) ⟨t :: r, opn, parts⟩
    have hsg := fun x => sign_sim (en := en) (s := ⟨t :: r, opn, parts⟩) (x := x) (by omega)
    dsimp only at hsg hl ⊢
    generalize hts : t :: r = ts at *
    by_cases h12 : t.kind = 1 ∨ t.kind = 2
    · rw [if_pos h12]
      cases hp : PS.part en ⟨ts, opn, parts⟩ with
      | error f =>
        have hpe := part_err g (by dsimp only; omega) hp
        dsimp only at hpe
        show APan _ _ _ _ _ _
        refine APan.intro (n := 55) Try.func220 rfl rfl (by simp) (by rfl) rfl ?_
        simp only [argFr]
        subst hts
        by_cases h1 : t.kind = 1
        · repeat (first | refine wk ?_ | refine s_field (hr := ?_))
          refine s_panCall [] [] [] (hA := hpe)
        · have h2 : t.kind = 2 := h12.resolve_left h1
          repeat (first | refine wk ?_ | refine s_field (hr := ?_))
          refine s_panCall [] [] [] (hA := hpe)
      | ok s1 =>
        have hpk := part_okc g (by dsimp only; omega) hp
        dsimp only at hpk
        obtain ⟨b1, b2, b3⟩ := PS.part_ok hp g
        have hnx := next_sim (en := en) (s := s1) (t := t) (r := r) (by rw [b3]; exact hts.symm) (by rw [b3]; dsimp only; omega)
        show ACalls _ _ _ _ _ _
        refine ACalls.intro (n := 55) Try.func220 rfl rfl (by simp) (by rfl) ?_
        simp only [argFr]
        subst hts
        dsimp only [Option.getD_some, Option.isSome_some]
        by_cases h2 : t.kind = 2
        · rw [if_pos h2]
          have hk1 : ¬ t.kind = 1 := by omega
          repeat (first | refine wk ?_ | refine s_field (hr := ?_))
          refine s_call [] (hA := hpk) (hr := ?_)
          repeat (first | refine wk ?_ | refine s_field (hr := ?_))
          refine s_call [] (hA := hnx) (hr := ?_)
          repeat (first | refine wk ?_ | refine s_field (hr := ?_))
          refine s_field (hF := fldTok2) (hr := ?_)
          repeat (first | refine wk ?_ | refine s_field (hr := ?_))
          exact Fin.r2 rfl (.aggT TY rfl rfl rfl rfl rfl) (.of_tmp rfl) (Co.tup (by repeat' (first | exact trivial | (refine ⟨?_, ?_⟩) | exact Co.refl _ | exact Co.froz rfl rfl | exact Co.froz rfl (by simp) | exact Co.nil _ _ | exact Co.nil false _ | exact Co.agg (Cos.refl _) | (refine Co.agg ?_)))) (by repeat' (first | exact trivial | exact HElt.of rfl | refine And.intro ?_ ?_)) rfl
        · have h1 : t.kind = 1 := h12.resolve_right h2
          rw [if_neg h2]
          repeat (first | refine wk ?_ | refine s_field (hr := ?_))
          refine s_call [] (hA := hpk) (hr := ?_)
          repeat (first | refine wk ?_ | refine s_field (hr := ?_))
          refine s_call [] (hA := hnx) (hr := ?_)
          repeat (first | refine wk ?_ | refine s_field (hr := ?_))
          refine s_field (hF := fldTok2) (hr := ?_)
          repeat (first | refine wk ?_ | refine s_field (hr := ?_))
          exact Fin.r2 rfl (.aggT TY rfl rfl rfl rfl rfl) (.of_tmp rfl) (Co.tup (by repeat' (first | exact trivial | (refine ⟨?_, ?_⟩) | exact Co.refl _ | exact Co.froz rfl rfl | exact Co.froz rfl (by simp) | exact Co.nil _ _ | exact Co.nil false _ | exact Co.agg (Cos.refl _) | (refine Co.agg ?_)))) (by repeat' (first | exact trivial | exact HElt.of rfl | refine And.intro ?_ ?_)) rfl
    · rw [if_neg h12]
      have hk1 : ¬ t.kind = 1 := fun h => h12 (.inl h)
      have hk2 : ¬ t.kind = 2 := fun h => h12 (.inr h)
      have hts0 : 0 < ts.length := by rw [← hts]; simp
      cases s0 : PS.sign ⟨ts, opn, parts⟩ (sgn 40) with
      | true =>
        have hb : PS.bracket ⟨ts, opn, parts⟩ = some (0, sgn 41) := by unfold PS.bracket; simp [s0]
        rw [hb]
        have hgr := hG k (by omega) ⟨ts, opn, parts⟩ 0 (sgn 41) g hl hts0 (by dsimp only at hn ⊢; omega)
        dsimp only at hgr ⊢
        have c0 := hsg (sgn 40)
        rw [s0] at c0
        cases hgc : pGroup en k ⟨ts, opn, parts⟩ 0 (sgn 41) with
        | error f =>
          rw [hgc] at hgr
          replace hgr : APan _ _ _ _ _ _ := hgr
          show APan _ _ _ _ _ _
          refine APan.intro (n := 55) Try.func220 rfl rfl (by simp) (by rfl) rfl ?_
          simp only [argFr]
          subst hts
          repeat (first | refine wk ?_ | refine s_field (hr := ?_))
          refine s_call [] (hA := c0) (hr := ?_)
          repeat (first | refine wk ?_ | refine s_field (hr := ?_))
          refine s_panCall [] [] [] (hA := hgr)
        | ok p =>
          obtain ⟨x, s1⟩ := p
          rw [hgc] at hgr
          replace hgr : ACalls _ _ _ _ _ _ := hgr
          show ACalls _ _ _ _ _ _
          refine ACalls.intro (n := 55) Try.func220 rfl rfl (by simp) (by rfl) ?_
          simp only [argFr]
          subst hts
          repeat (first | refine wk ?_ | refine s_field (hr := ?_))
          refine s_call [] (hA := c0) (hr := ?_)
          repeat (first | refine wk ?_ | refine s_field (hr := ?_))
          refine s_call [] (hA := hgr) (hr := ?_)
          repeat (first | refine wk ?_ | refine s_field (hr := ?_))
          exact Fin.r2 rfl (.aggT TY rfl rfl rfl rfl rfl) (.of_tmp rfl) (Co.tup (by repeat' (first | exact trivial | (refine ⟨?_, ?_⟩) | exact Co.refl _ | exact Co.froz rfl rfl | exact Co.froz rfl (by simp) | exact Co.nil _ _ | exact Co.nil false _ | exact Co.agg (Cos.refl _) | (refine Co.agg ?_)))) (by repeat' (first | exact trivial | exact HElt.of rfl | refine And.intro ?_ ?_)) rfl
      | false =>
      cases s1 : PS.sign ⟨ts, opn, parts⟩ (sgn 91) with
      | true =>
        have hb : PS.bracket ⟨ts, opn, parts⟩ = some (5, sgn 93) := by unfold PS.bracket; simp [s0, s1]
        rw [hb]
        have hgr := hG k (by omega) ⟨ts, opn, parts⟩ 5 (sgn 93) g hl hts0 (by dsimp only at hn ⊢; omega)
        dsimp only at hgr ⊢
        have c0 := hsg (sgn 40)
        rw [s0] at c0
        have c1 := hsg (sgn 91)
        rw [s1] at c1
        cases hgc : pGroup en k ⟨ts, opn, parts⟩ 5 (sgn 93) with
        | error f =>
          rw [hgc] at hgr
          replace hgr : APan _ _ _ _ _ _ := hgr
          show APan _ _ _ _ _ _
          refine APan.intro (n := 55) Try.func220 rfl rfl (by simp) (by rfl) rfl ?_
          simp only [argFr]
          subst hts
          repeat (first | refine wk ?_ | refine s_field (hr := ?_))
          refine s_call [] (hA := c0) (hr := ?_)
          repeat (first | refine wk ?_ | refine s_field (hr := ?_))
          refine s_call [] (hA := c1) (hr := ?_)
          repeat (first | refine wk ?_ | refine s_field (hr := ?_))
          refine s_panCall [] [] [] (hA := hgr)
        | ok p =>
          obtain ⟨x, s1⟩ := p
          rw [hgc] at hgr
          replace hgr : ACalls _ _ _ _ _ _ := hgr
          show ACalls _ _ _ _ _ _
          refine ACalls.intro (n := 55) Try.func220 rfl rfl (by simp) (by rfl) ?_
          simp only [argFr]
          subst hts
          repeat (first | refine wk ?_ | refine s_field (hr := ?_))
          refine s_call [] (hA := c0) (hr := ?_)
          repeat (first | refine wk ?_ | refine s_field (hr := ?_))
          refine s_call [] (hA := c1) (hr := ?_)
          repeat (first | refine wk ?_ | refine s_field (hr := ?_))
          refine s_call [] (hA := hgr) (hr := ?_)
          repeat (first | refine wk ?_ | refine s_field (hr := ?_))
          exact Fin.r2 rfl (.aggT TY rfl rfl rfl rfl rfl) (.of_tmp rfl) (Co.tup (by repeat' (first | exact trivial | (refine ⟨?_, ?_⟩) | exact Co.refl _ | exact Co.froz rfl rfl | exact Co.froz rfl (by simp) | exact Co.nil _ _ | exact Co.nil false _ | exact Co.agg (Cos.refl _) | (refine Co.agg ?_)))) (by repeat' (first | exact trivial | exact HElt.of rfl | refine And.intro ?_ ?_)) rfl
      | false =>
      cases s2 : PS.sign ⟨ts, opn, parts⟩ (sgn 123) with
      | true =>
        have hb : PS.bracket ⟨ts, opn, parts⟩ = some (6, sgn 125) := by unfold PS.bracket; simp [s0, s1, s2]
        rw [hb]
        have hgr := hG k (by omega) ⟨ts, opn, parts⟩ 6 (sgn 125) g hl hts0 (by dsimp only at hn ⊢; omega)
        dsimp only at hgr ⊢
        have c0 := hsg (sgn 40)
        rw [s0] at c0
        have c1 := hsg (sgn 91)
        rw [s1] at c1
        have c2 := hsg (sgn 123)
        rw [s2] at c2
        cases hgc : pGroup en k ⟨ts, opn, parts⟩ 6 (sgn 125) with
        | error f =>
          rw [hgc] at hgr
          replace hgr : APan _ _ _ _ _ _ := hgr
          show APan _ _ _ _ _ _
          refine APan.intro (n := 55) Try.func220 rfl rfl (by simp) (by rfl) rfl ?_
          simp only [argFr]
          subst hts
          repeat (first | refine wk ?_ | refine s_field (hr := ?_))
          refine s_call [] (hA := c0) (hr := ?_)
          repeat (first | refine wk ?_ | refine s_field (hr := ?_))
          refine s_call [] (hA := c1) (hr := ?_)
          repeat (first | refine wk ?_ | refine s_field (hr := ?_))
          refine s_call [] (hA := c2) (hr := ?_)
          repeat (first | refine wk ?_ | refine s_field (hr := ?_))
          refine s_panCall [] [] [] (hA := hgr)
        | ok p =>
          obtain ⟨x, s1⟩ := p
          rw [hgc] at hgr
          replace hgr : ACalls _ _ _ _ _ _ := hgr
          show ACalls _ _ _ _ _ _
          refine ACalls.intro (n := 55) Try.func220 rfl rfl (by simp) (by rfl) ?_
          simp only [argFr]
          subst hts
          repeat (first | refine wk ?_ | refine s_field (hr := ?_))
          refine s_call [] (hA := c0) (hr := ?_)
          repeat (first | refine wk ?_ | refine s_field (hr := ?_))
          refine s_call [] (hA := c1) (hr := ?_)
          repeat (first | refine wk ?_ | refine s_field (hr := ?_))
          refine s_call [] (hA := c2) (hr := ?_)
          repeat (first | refine wk ?_ | refine s_field (hr := ?_))
          refine s_call [] (hA := hgr) (hr := ?_)
          repeat (first | refine wk ?_ | refine s_field (hr := ?_))
          exact Fin.r2 rfl (.aggT TY rfl rfl rfl rfl rfl) (.of_tmp rfl) (Co.tup (by repeat' (first | exact trivial | (refine ⟨?_, ?_⟩) | exact Co.refl _ | exact Co.froz rfl rfl | exact Co.froz rfl (by simp) | exact Co.nil _ _ | exact Co.nil false _ | exact Co.agg (Cos.refl _) | (refine Co.agg ?_)))) (by repeat' (first | exact trivial | exact HElt.of rfl | refine And.intro ?_ ?_)) rfl
      | false =>
      cases s3 : PS.sign ⟨ts, opn, parts⟩ (sgn 60) with
      | true =>
        have hb : PS.bracket ⟨ts, opn, parts⟩ = some (7, sgn 62) := by unfold PS.bracket; simp [s0, s1, s2, s3]
        rw [hb]
        have hgr := hG k (by omega) ⟨ts, opn, parts⟩ 7 (sgn 62) g hl hts0 (by dsimp only at hn ⊢; omega)
        dsimp only at hgr ⊢
        have c0 := hsg (sgn 40)
        rw [s0] at c0
        have c1 := hsg (sgn 91)
        rw [s1] at c1
        have c2 := hsg (sgn 123)
        rw [s2] at c2
        have c3 := hsg (sgn 60)
        rw [s3] at c3
        cases hgc : pGroup en k ⟨ts, opn, parts⟩ 7 (sgn 62) with
        | error f =>
          rw [hgc] at hgr
          replace hgr : APan _ _ _ _ _ _ := hgr
          show APan _ _ _ _ _ _
          refine APan.intro (n := 55) Try.func220 rfl rfl (by simp) (by rfl) rfl ?_
          simp only [argFr]
          subst hts
          repeat (first | refine wk ?_ | refine s_field (hr := ?_))
          refine s_call [] (hA := c0) (hr := ?_)
          repeat (first | refine wk ?_ | refine s_field (hr := ?_))
          refine s_call [] (hA := c1) (hr := ?_)
          repeat (first | refine wk ?_ | refine s_field (hr := ?_))
          refine s_call [] (hA := c2) (hr := ?_)
          repeat (first | refine wk ?_ | refine s_field (hr := ?_))
          refine s_call [] (hA := c3) (hr := ?_)
          repeat (first | refine wk ?_ | refine s_field (hr := ?_))
          refine s_panCall [] [] [] (hA := hgr)
        | ok p =>
          obtain ⟨x, s1⟩ := p
          rw [hgc] at hgr
          replace hgr : ACalls _ _ _ _ _ _ := hgr
          show ACalls _ _ _ _ _ _
          refine ACalls.intro (n := 55) Try.func220 rfl rfl (by simp) (by rfl) ?_
          simp only [argFr]
          subst hts
          repeat (first | refine wk ?_ | refine s_field (hr := ?_))
          refine s_call [] (hA := c0) (hr := ?_)
          repeat (first | refine wk ?_ | refine s_field (hr := ?_))
          refine s_call [] (hA := c1) (hr := ?_)
          repeat (first | refine wk ?_ | refine s_field (hr := ?_))
          refine s_call [] (hA := c2) (hr := ?_)
          repeat (first | refine wk ?_ | refine s_field (hr := ?_))
          refine s_call [] (hA := c3) (hr := ?_)
          repeat (first | refine wk ?_ | refine s_field (hr := ?_))
          refine s_call [] (hA := hgr) (hr := ?_)
          repeat (first | refine wk ?_ | refine s_field (hr := ?_))
          exact Fin.r2 rfl (.aggT TY rfl rfl rfl rfl rfl) (.of_tmp rfl) (Co.tup (by repeat' (first | exact trivial | (refine ⟨?_, ?_⟩) | exact Co.refl _ | exact Co.froz rfl rfl | exact Co.froz rfl (by simp) | exact Co.nil _ _ | exact Co.nil false _ | exact Co.agg (Cos.refl _) | (refine Co.agg ?_)))) (by repeat' (first | exact trivial | exact HElt.of rfl | refine And.intro ?_ ?_)) rfl
      | false =>
      have hb : PS.bracket ⟨ts, opn, parts⟩ = none := by unfold PS.bracket; simp [s0, s1, s2, s3]
      rw [hb]
      have c0 := hsg (sgn 40)
      rw [s0] at c0
      have c1 := hsg (sgn 91)
      rw [s1] at c1
      have c2 := hsg (sgn 123)
      rw [s2] at c2
      have c3 := hsg (sgn 60)
      rw [s3] at c3
      show ACalls _ _ _ _ _ _
      refine ACalls.intro (n := 55) Try.func220 rfl rfl (by simp) (by rfl) ?_
      simp only [argFr]
      subst hts
      repeat (first | refine wk ?_ | refine s_field (hr := ?_))
      refine s_call [] (hA := c0) (hr := ?_)
      repeat (first | refine wk ?_ | refine s_field (hr := ?_))
      refine s_call [] (hA := c1) (hr := ?_)
      repeat (first | refine wk ?_ | refine s_field (hr := ?_))
      refine s_call [] (hA := c2) (hr := ?_)
      repeat (first | refine wk ?_ | refine s_field (hr := ?_))
      refine s_call [] (hA := c3) (hr := ?_)
      repeat (first | refine wk ?_ | refine s_field (hr := ?_))
      exact Fin.r2 rfl (.aggT TY rfl rfl rfl rfl rfl) (.of_tmp rfl) (Co.tup (by repeat' (first | exact trivial | (refine ⟨?_, ?_⟩) | exact Co.refl _ | exact Co.froz rfl rfl | exact Co.froz rfl (by simp) | exact Co.nil _ _ | exact Co.nil false _ | exact Co.agg (Cos.refl _) | (refine Co.agg ?_)))) (by repeat' (first | exact trivial | exact HElt.of rfl | refine And.intro ?_ ?_)) rfl
end Go.Proofs.Ytkfeccbahpmadaa
