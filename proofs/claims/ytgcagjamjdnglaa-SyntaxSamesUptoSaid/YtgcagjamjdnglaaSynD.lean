/-
  Sim: the parser: alt.
-/
import Derived.Test.YtgcagjamjdnglaaSynC
set_option linter.unusedVariables false
set_option linter.unusedSimpArgs false
set_option linter.unusedSectionVars false
namespace Go.Proofs.Ytgcagjamjdnglaa
open Go.RowKit
set_option maxRecDepth 100000
-- SimX

theorem part_err {en : Int} {s : PS} {f : Fault} (g : s.Good) (hl : s.l.length ≤ 100000000) (h : s.part en = .error f) : APan Try.prog 224 [.ptr 1000 0] (prG en s.l s.opn s.parts) (goneV f) jkH := by
  have := part_sim (en := en) g hl
  rw [h] at this; exact this
theorem part_okc {en : Int} {s s1 : PS} (g : s.Good) (hl : s.l.length ≤ 100000000) (h : s.part en = .ok s1) : ACalls Try.prog 224 [.ptr 1000 0] (prG en s.l s.opn s.parts) (.tup []) (prG en s1.l s1.opn s1.parts) := by
  have := part_sim (en := en) g hl
  rw [h] at this; exact this
theorem want_err {en : Int} {s : PS} {x : ByteArray} {f : Fault} (hl : s.l.length ≤ 100000000) (h : s.want en x = .error f) : APan Try.prog 176 [.ptr 1000 0, Str x] (prG en s.l s.opn s.parts) (goneV f) jkH := by
  have := want_sim (en := en) (x := x) hl
  rw [h] at this; exact this
theorem want_okc {en : Int} {s s1 : PS} {x : ByteArray} (hl : s.l.length ≤ 100000000) (h : s.want en x = .ok s1) : ACalls Try.prog 176 [.ptr 1000 0, Str x] (prG en s.l s.opn s.parts) (.tup []) (prG en s1.l s1.opn s1.parts) := by
  have := want_sim (en := en) (x := x) hl
  rw [h] at this; exact this
set_option maxHeartbeats 4000000 in
theorem alt_of {en : Int} {n : Nat} (hR : ∀ m, m < n → ∀ s : PS, s.Good → s.l.length ≤ 10000 → 5 * s.l.length + 3 ≤ m → Does 223 [.ptr 1000 0] en s (resE (pRow en m s))) :
    ∀ s : PS, s.Good → s.l.length ≤ 10000 → 5 * s.l.length + 4 ≤ n → Does 177 [.ptr 1000 0] en s (resE (pAlt en n s)) := by
  intro s g hl hn
  obtain ⟨k, rfl⟩ : ∃ k, n = k + 1 := ⟨n - 1, by omega⟩
  have hi := hR k (by omega) s g hl (by omega)
  obtain ⟨i1, i2, i3, i4, i5, _⟩ := inv_all en k
  rw [pAlt]
  cases hc : pRow en k s with
  | error f =>
    rw [hc] at hi
    show APan _ _ _ _ _ _
    refine APan.intro (n := 26) Try.func177 rfl rfl (by simp) (by rfl) rfl ?_
    simp only [argFr]
    replace hi : APan _ _ _ _ _ _ := hi
    repeat (first | refine wk ?_ | refine s_field (hr := ?_))
    refine s_panCall [] [] [] (hA := hi)
  | ok p =>
    obtain ⟨x, s1⟩ := p
    rw [hc] at hi
    replace hi : ACalls _ _ _ _ _ _ := hi
    have t1 := i5 _ _ _ g hc
    have hl1 := t1.2.2
    have e0 : [exprA false x] = [x].map (exprD false) := by simp only [List.map_cons, List.map_nil, exprA_eq]
    show Does _ _ _ _ (resE (match pAlts en k s1 [x] with | .error f => .error f | .ok (l, s') => .ok (one 4 l, s')))
    cases hres : pAlts en k s1 [x] with
    | error f =>
      show APan _ _ _ _ _ _
      refine APan.intro (n := 26) Try.func177 rfl rfl (by simp) (by rfl) rfl ?_
      simp only [argFr]
      repeat (first | refine wk ?_ | refine s_field (hr := ?_))
      refine s_call [] (hA := hi) (hr := ?_)
      repeat (first | refine wk ?_ | refine s_field (hr := ?_))
      rw [e0]
      refine t_loop (X := Nat × PS × List Expr) (fun y => pAlts en y.1 y.2.1 y.2.2 = .error f ∧ y.2.1.Good ∧ y.1 ≤ k ∧ 5 * y.2.1.l.length + 1 ≤ y.1 ∧ y.2.2.length + y.2.1.l.length ≤ s.l.length + 1)
        (fun y => [(3, .own 6 y.2.2.length), (2, .ptr 2 0), (0, .ptr 1000 0)]) (fun y => (6, .row 143 3 (y.2.2.map (exprD false))) :: (2, .box 143 [.d (iD 0), .d (sD ⟨#[]⟩), .d (.raw (.slice none 0 0))]) :: prG en y.2.1.l y.2.1.opn y.2.1.parts) (fun y => y.2.1.l.length) (k, s1, [x]) ⟨hres, t1.1, Nat.le_refl _, by dsimp only; omega, by simp only [List.length_singleton]; omega⟩ ?_
      rintro ⟨q, st, acc⟩ ⟨j1, j2, j3, j4, j5⟩
      dsimp only at j1 j2 j3 j4 j5 ⊢
      obtain ⟨q, rfl⟩ : ∃ q', q = q' + 1 := ⟨q - 1, by omega⟩
      have hsg := sign_sim (en := en) (s := st) (x := sgn 124) (by omega)
      rw [pAlts] at j1
      cases hs : st.sign (sgn 124) with
      | false =>
        rw [hs] at j1 hsg
        rw [if_neg (by decide)] at j1
        cases j1
      | true =>
        rw [hs] at j1 hsg
        rw [if_pos rfl] at j1
        obtain ⟨tk, r, he, _⟩ := PS.sign_cons hs
        cases hp : st.part en with
        | error f2 =>
          have hpe := part_err j2 (by omega) hp
          rw [hp] at j1
          obtain rfl : f2 = f := by injection j1
          repeat (first | refine wk ?_ | refine s_field (hr := ?_))
          refine s_call [] (hA := hsg) (hr := ?_)
          repeat (first | refine wk ?_ | refine s_field (hr := ?_))
          refine s_panCall [] [] [] (hA := hpe)
        | ok st1 =>
          have hpk := part_okc j2 (by omega) hp
          obtain ⟨b1, b2, b3⟩ := PS.part_ok hp j2
          rw [hp] at j1
          have hnx := next_sim (en := en) (s := st1) (t := tk) (r := r) (by rw [b3, he]) (by rw [b3]; omega)
          have hlen : st1.next.l.length + 1 = st.l.length := by simp [PS.next, b3, he]
          have hrw := hR q (by omega) st1.next b1 (by omega) (by omega)
          obtain ⟨_, _, _, _, i5', _⟩ := inv_all en q
          cases hr2 : pRow en q st1.next with
          | error f2 =>
            rw [hr2] at hrw
            replace hrw : APan _ _ _ _ _ _ := hrw
            replace j1 : (match pRow en q st1.next with | .error f => Except.error f | .ok (x, s2) => pAlts en q s2 (acc ++ [x])) = .error f := j1
            rw [hr2] at j1
            obtain rfl : f2 = f := by injection j1
            repeat (first | refine wk ?_ | refine s_field (hr := ?_))
            refine s_call [] (hA := hsg) (hr := ?_)
            repeat (first | refine wk ?_ | refine s_field (hr := ?_))
            refine s_call [] (hA := hpk) (hr := ?_)
            refine dops_end ?_
            refine andThen_n ?_
            refine aw_orN ?_
            repeat (first | refine wk ?_ | refine s_field (hr := ?_))
            refine s_call [] (hA := hnx) (hr := ?_)
            repeat (first | refine wk ?_ | refine s_field (hr := ?_))
            refine s_panCall [] [] [] (hA := hrw)
          | ok p2 =>
            obtain ⟨x2, st2⟩ := p2
            rw [hr2] at hrw
            replace hrw : ACalls _ _ _ _ _ _ := hrw
            replace j1 : (match pRow en q st1.next with | .error f => Except.error f | .ok (x, s2) => pAlts en q s2 (acc ++ [x])) = .error f := j1
            rw [hr2] at j1
            have t2 := i5' st1.next _ _ b1 hr2
            have hl2 := t2.2.2
            have e : acc.map (exprD false) ++ [exprA false x2] = (acc ++ [x2]).map (exprD false) := by rw [List.map_append]; simp only [List.map_cons, List.map_nil, exprA_eq]
            dsimp only at j1
            repeat (first | refine wk ?_ | refine s_field (hr := ?_))
            refine s_call [] (hA := hsg) (hr := ?_)
            repeat (first | refine wk ?_ | refine s_field (hr := ?_))
            refine s_call [] (hA := hpk) (hr := ?_)
            repeat (first | refine wk ?_ | refine s_field (hr := ?_))
            refine s_call [] (hA := hnx) (hr := ?_)
            repeat (first | refine wk ?_ | refine s_field (hr := ?_))
            refine s_call [] (hA := hrw) (hr := ?_)
            repeat (first | refine wk ?_ | refine s_field (hr := ?_))
            rw [e, List.length_map]
            exact t_next (q, st2, acc ++ [x2]) (a := ⟨j1, t2.1, by omega, by dsimp only; omega, by dsimp only; simp only [List.length_append, List.length_singleton]; omega⟩) (b := by dsimp only; omega)
    | ok z =>
      obtain ⟨l, s'⟩ := z
      show ACalls _ _ _ _ _ _
      refine ACalls.intro (n := 26) Try.func177 rfl rfl (by simp) (by rfl) ?_
      simp only [argFr]
      repeat (first | refine wk ?_ | refine s_field (hr := ?_))
      refine s_call [] (hA := hi) (hr := ?_)
      repeat (first | refine wk ?_ | refine s_field (hr := ?_))
      rw [e0]
      refine t_loop (X := Nat × PS × List Expr) (fun y => pAlts en y.1 y.2.1 y.2.2 = .ok (l, s') ∧ y.2.1.Good ∧ y.1 ≤ k ∧ 5 * y.2.1.l.length + 1 ≤ y.1 ∧ y.2.2.length + y.2.1.l.length ≤ s.l.length + 1)
        (fun y => [(3, .own 6 y.2.2.length), (2, .ptr 2 0), (0, .ptr 1000 0)]) (fun y => (6, .row 143 3 (y.2.2.map (exprD false))) :: (2, .box 143 [.d (iD 0), .d (sD ⟨#[]⟩), .d (.raw (.slice none 0 0))]) :: prG en y.2.1.l y.2.1.opn y.2.1.parts) (fun y => y.2.1.l.length) (k, s1, [x]) ⟨hres, t1.1, Nat.le_refl _, by dsimp only; omega, by simp only [List.length_singleton]; omega⟩ ?_
      rintro ⟨q, st, acc⟩ ⟨j1, j2, j3, j4, j5⟩
      dsimp only at j1 j2 j3 j4 j5 ⊢
      obtain ⟨q, rfl⟩ : ∃ q', q = q' + 1 := ⟨q - 1, by omega⟩
      have hsg := sign_sim (en := en) (s := st) (x := sgn 124) (by omega)
      rw [pAlts] at j1
      cases hs : st.sign (sgn 124) with
      | false =>
        rw [hs] at j1 hsg
        rw [if_neg (by decide)] at j1
        obtain ⟨rfl, rfl⟩ : acc = l ∧ st = s' := by injection j1 with j1; injection j1 with j1 j2; exact ⟨j1, j2⟩
        rcases one_cases (op := 4) (l := acc) with ⟨x, rfl, e1⟩ | ⟨e0, e1⟩
        · rw [e1]
          repeat (first | refine wk ?_ | refine s_field (hr := ?_))
          refine s_call [] (hA := hsg) (hr := ?_)
          repeat (first | refine wk ?_ | refine s_field (hr := ?_))
          exact fin
        · rw [e1, show exprA false (Expr.mk 4 ⟨#[]⟩ acc) = .agg [iD 4, sD ⟨#[]⟩, exprsD false acc] from rfl]
          refine aw_froz 6 rfl ?_
          repeat (first | refine wk ?_ | refine s_field (hr := ?_))
          refine s_call [] (hA := hsg) (hr := ?_)
          repeat (first | refine wk ?_ | refine s_field (hr := ?_))
          --@
          exact fin
      | true =>
        rw [hs] at j1 hsg
        rw [if_pos rfl] at j1
        obtain ⟨tk, r, he, _⟩ := PS.sign_cons hs
        cases hp : st.part en with
        | error f2 =>
          have hpe := part_err j2 (by omega) hp
          rw [hp] at j1
          cases j1
        | ok st1 =>
          have hpk := part_okc j2 (by omega) hp
          obtain ⟨b1, b2, b3⟩ := PS.part_ok hp j2
          rw [hp] at j1
          have hnx := next_sim (en := en) (s := st1) (t := tk) (r := r) (by rw [b3, he]) (by rw [b3]; omega)
          have hlen : st1.next.l.length + 1 = st.l.length := by simp [PS.next, b3, he]
          have hrw := hR q (by omega) st1.next b1 (by omega) (by omega)
          obtain ⟨_, _, _, _, i5', _⟩ := inv_all en q
          cases hr2 : pRow en q st1.next with
          | error f2 =>
            rw [hr2] at hrw
            replace hrw : APan _ _ _ _ _ _ := hrw
            replace j1 : (match pRow en q st1.next with | .error f => Except.error f | .ok (x, s2) => pAlts en q s2 (acc ++ [x])) = .ok (l, s') := j1
            rw [hr2] at j1
            cases j1
          | ok p2 =>
            obtain ⟨x2, st2⟩ := p2
            rw [hr2] at hrw
            replace hrw : ACalls _ _ _ _ _ _ := hrw
            replace j1 : (match pRow en q st1.next with | .error f => Except.error f | .ok (x, s2) => pAlts en q s2 (acc ++ [x])) = .ok (l, s') := j1
            rw [hr2] at j1
            have t2 := i5' st1.next _ _ b1 hr2
            have hl2 := t2.2.2
            have e : acc.map (exprD false) ++ [exprA false x2] = (acc ++ [x2]).map (exprD false) := by rw [List.map_append]; simp only [List.map_cons, List.map_nil, exprA_eq]
            dsimp only at j1
            repeat (first | refine wk ?_ | refine s_field (hr := ?_))
            refine s_call [] (hA := hsg) (hr := ?_)
            repeat (first | refine wk ?_ | refine s_field (hr := ?_))
            refine s_call [] (hA := hpk) (hr := ?_)
            repeat (first | refine wk ?_ | refine s_field (hr := ?_))
            refine s_call [] (hA := hnx) (hr := ?_)
            repeat (first | refine wk ?_ | refine s_field (hr := ?_))
            refine s_call [] (hA := hrw) (hr := ?_)
            repeat (first | refine wk ?_ | refine s_field (hr := ?_))
            rw [e, List.length_map]
            exact t_next (q, st2, acc ++ [x2]) (a := ⟨j1, t2.1, by omega, by dsimp only; omega, by dsimp only; simp only [List.length_append, List.length_singleton]; omega⟩) (b := by dsimp only; omega)
end Go.Proofs.Ytgcagjamjdnglaa
