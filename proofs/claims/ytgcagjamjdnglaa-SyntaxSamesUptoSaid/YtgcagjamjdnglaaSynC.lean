/-
  Sim: the parser: row.
-/
import Derived.Test.YtgcagjamjdnglaaSynB
import Derived.Test.YtgcagjamjdnglaaS5
set_option linter.unusedVariables false
set_option linter.unusedSimpArgs false
set_option linter.unusedSectionVars false
namespace Go.Proofs.Ytgcagjamjdnglaa
open Go.RowKit
set_option maxRecDepth 100000
-- SimX

def zeroE : Expr := .mk 0 ⟨#[]⟩ []
def resE : Except Fault (Expr × PS) → Except Fault (V × PS) := fun r => r.map fun p => (.d (exprA false p.1), p.2)
def resI : Except Fault (Option Expr × PS) → Except Fault (V × PS) := fun r => r.map fun p => (.tup [.d (exprA false (p.1.getD zeroE)), B p.1.isSome], p.2)
theorem one_cases {op : Int} {l : List Expr} : (∃ x, l = [x] ∧ one op l = x) ∨ (l.length ≠ 1 ∧ one op l = .mk op ⟨#[]⟩ l) := by
  match l with
  | [] => exact .inr ⟨by simp, rfl⟩
  | [x] => exact .inl ⟨x, rfl, rfl⟩
  | _ :: _ :: _ => exact .inr ⟨by simp, rfl⟩
/-- What is to come, once an item is there. -/
def comeI (en : Int) (k : Nat) (o : Option Expr) (s1 : PS) (acc : List Expr) : Except Fault (List Expr × PS) := match o with
  | none => .ok (acc, s1)
  | some x => pItems en k s1 (acc ++ [x])
theorem pItems_come (en : Int) (k : Nat) (s : PS) (acc : List Expr) : pItems en (k + 1) s acc = match pItem en k s with | .error f => .error f | .ok (o, s1) => comeI en k o s1 acc := by
  rw [pItems]
  split <;> simp_all [comeI]
set_option maxHeartbeats 4000000 in
theorem row_of {en : Int} {n : Nat} (hI : ∀ m, m < n → ∀ s : PS, s.Good → s.l.length ≤ 10000 → 5 * s.l.length + 1 ≤ m → Does 241 [.ptr 1000 0] en s (resI (pItem en m s))) :
    ∀ s : PS, s.Good → s.l.length ≤ 10000 → 5 * s.l.length + 3 ≤ n → Does 223 [.ptr 1000 0] en s (resE (pRow en n s)) := by
  intro s g hl hn
  obtain ⟨k, rfl⟩ : ∃ k, n = k + 2 := ⟨n - 2, by omega⟩
  have hi := hI k (by omega) s g hl (by omega)
  obtain ⟨i1, i2, _⟩ := inv_all en k
  rw [pRow, pItems_come]
  cases hc : pItem en k s with
  | error f =>
    rw [hc] at hi
    show APan _ _ _ _ _ _
    refine APan.intro (n := 30) Try.func223 rfl rfl (by simp) (by rfl) rfl ?_
    simp only [argFr]
    replace hi : APan _ _ _ _ _ _ := hi
    repeat (first | refine wk ?_ | refine s_field (hr := ?_))
    refine s_panCall [] [] [] (hA := hi)
  | ok p =>
    obtain ⟨o, s1⟩ := p
    rw [hc] at hi
    replace hi : ACalls _ _ _ _ _ _ := hi
    have hgood : s1.Good ∧ s1.l.length ≤ s.l.length ∧ (∀ x, o = some x → s1.l.length + 1 ≤ s.l.length) := by
      cases o with
      | none => rw [i2 _ _ g hc]; exact ⟨g, Nat.le_refl _, fun x h => by cases h⟩
      | some x => have := i1 _ _ _ g hc; exact ⟨this.1, by have := this.2.2; omega, fun _ _ => this.2.2⟩
    show Does _ _ _ _ (resE (match comeI en k o s1 [] with | .error f => .error f | .ok (l, s') => .ok (one 3 l, s')))
    cases hres : comeI en k o s1 [] with
    | error f =>
      show APan _ _ _ _ _ _
      refine APan.intro (n := 30) Try.func223 rfl rfl (by simp) (by rfl) rfl ?_
      simp only [argFr]
      repeat (first | refine wk ?_ | refine s_field (hr := ?_))
      refine s_call [] (hA := hi) (hr := ?_)
      repeat (first | refine wk ?_ | refine s_field (hr := ?_))
      refine aw_nil 3 900 143 3 rfl rfl rfl ?_
      refine t_loop (X := Nat × Option Expr × PS × List Expr) (fun y => comeI en y.1 y.2.1 y.2.2.1 y.2.2.2 = .error f ∧ y.2.2.1.Good ∧ y.1 ≤ k ∧ (y.2.1.isSome = true → 5 * y.2.2.1.l.length + 2 ≤ y.1) ∧ y.2.2.2.length + y.2.1.isSome.toNat + y.2.2.1.l.length ≤ s.l.length)
        (fun y => [(5, B y.2.1.isSome), (4, .ptr 4 0), (3, .own 900 y.2.2.2.length), (2, .ptr 2 0), (0, .ptr 1000 0)])
        (fun y => (4, .box 143 [.d (iD (y.2.1.getD zeroE).op), .d (sD (y.2.1.getD zeroE).name), .d (exprsD false (y.2.1.getD zeroE).l)]) :: (900, .row 143 3 (y.2.2.2.map (exprD false))) :: (2, .box 143 [.d (iD 0), .d (sD ⟨#[]⟩), .d (.raw (.slice none 0 0))]) :: prG en y.2.2.1.l y.2.2.1.opn y.2.2.1.parts) (fun y => 2 * y.2.2.1.l.length + y.2.1.isSome.toNat) (k, o, s1, []) ⟨hres, hgood.1, Nat.le_refl _, fun h => ?_, ?_⟩ ?_
      · obtain ⟨x, rfl⟩ := Option.isSome_iff_exists.1 h
        have := hgood.2.2 x rfl
        dsimp only; omega
      · cases o with
        | none => have := hgood.2.1; simp; omega
        | some x => have := hgood.2.2 x rfl; simp; omega
      rintro ⟨q, u, st, acc⟩ ⟨j1, j2, j3, j4, j5⟩
      dsimp only at j1 j2 j3 j4 j5 ⊢
      cases u with
      | none =>
        simp only [Option.isSome_none, Option.getD_none, Bool.toNat_false] at *
        cases j1
      | some x =>
        simp only [Option.isSome_some, Option.getD_some, Bool.toNat_true] at *
        obtain ⟨q, rfl⟩ : ∃ q', q = q' + 1 := ⟨q - 1, by have := j4 trivial; omega⟩
        have j4' := j4 trivial
        have hj := hI q (by omega) st j2 (by omega) (by omega)
        obtain ⟨i1', i2', _⟩ := inv_all en q
        have hst : comeI en (q + 1) (some x) st acc = pItems en (q + 1) st (acc ++ [x]) := rfl
        rw [hst, pItems_come] at j1
        have e : acc.map (exprD false) ++ [exprA false x] = (acc ++ [x]).map (exprD false) := by rw [List.map_append]; simp only [List.map_cons, List.map_nil, exprA_eq]
        cases hc2 : pItem en q st with
        | error f2 =>
          rw [hc2] at j1 hj
          replace hj : APan _ _ _ _ _ _ := hj
          obtain rfl : f2 = f := by injection j1
          iterate 22 (refine wk1 ?_)
          refine andThen_n ?_
          rw [e, List.length_map]
          refine aw_weak [(21, .agg [.d (iD x.op), .d (sD x.name), .d (exprsD false x.l)]), (3, .own 900 (acc ++ [x]).length), (2, .ptr 2 0), (0, .ptr 1000 0)] [(900, .row 143 3 ((acc ++ [x]).map (exprD false))), (2, .box 143 [.d (iD 0), .d (sD ⟨#[]⟩), .d (.raw (.slice none 0 0))]), (1000, prB en st.l st.opn st.parts)] (by repeat' (first | exact trivial | exact VLe.refl _ | exact HElt.of rfl | refine And.intro ?_ ?_)) (by repeat' (first | exact trivial | exact VLe.refl _ | exact HElt.of rfl | refine And.intro ?_ ?_)) rfl ?_
          refine aw_orN ?_
          repeat (first | refine wk ?_ | refine s_field (hr := ?_))
          refine Or.inl ?_
          refine andThen_n ?_
          refine aw_orN ?_
          repeat (first | refine wk ?_ | refine s_field (hr := ?_))
          refine s_panCall [] [] [] (hA := hj)
        | ok p2 =>
          obtain ⟨o2, st2⟩ := p2
          rw [hc2] at j1 hj
          replace hj : ACalls _ _ _ _ _ _ := hj
          dsimp only at j1
          have hg2 : st2.Good ∧ st2.l.length + o2.isSome.toNat ≤ st.l.length := by
            cases o2 with
            | none => rw [i2' _ _ j2 hc2]; exact ⟨j2, Nat.le_refl _⟩
            | some x2 => have := i1' _ _ _ j2 hc2; exact ⟨this.1, this.2.2⟩
          iterate 22 (refine wk1 ?_)
          refine andThen_n ?_
          rw [e, List.length_map]
          refine aw_weak [(21, .agg [.d (iD x.op), .d (sD x.name), .d (exprsD false x.l)]), (3, .own 900 (acc ++ [x]).length), (2, .ptr 2 0), (0, .ptr 1000 0)] [(900, .row 143 3 ((acc ++ [x]).map (exprD false))), (2, .box 143 [.d (iD 0), .d (sD ⟨#[]⟩), .d (.raw (.slice none 0 0))]), (1000, prB en st.l st.opn st.parts)] (by repeat' (first | exact trivial | exact VLe.refl _ | exact HElt.of rfl | refine And.intro ?_ ?_)) (by repeat' (first | exact trivial | exact VLe.refl _ | exact HElt.of rfl | refine And.intro ?_ ?_)) rfl ?_
          repeat (first | refine wk ?_ | refine s_field (hr := ?_))
          refine s_call [] (hA := hj) (hr := ?_)
          repeat (first | refine wk ?_ | refine s_field (hr := ?_))
          exact t_next (q, o2, st2, acc ++ [x]) (a := ⟨j1, hg2.1, by omega, fun h => by dsimp only at h ⊢; have h1 : o2.isSome.toNat = 1 := (by rw [h]; rfl); omega, by dsimp only; simp only [List.length_append, List.length_singleton]; omega⟩) (b := by dsimp only; omega)
    | ok z =>
      obtain ⟨l, s'⟩ := z
      show ACalls _ _ _ _ _ _
      refine ACalls.intro (n := 30) Try.func223 rfl rfl (by simp) (by rfl) ?_
      simp only [argFr]
      repeat (first | refine wk ?_ | refine s_field (hr := ?_))
      refine s_call [] (hA := hi) (hr := ?_)
      repeat (first | refine wk ?_ | refine s_field (hr := ?_))
      refine aw_nil 3 900 143 3 rfl rfl rfl ?_
      refine t_loop (X := Nat × Option Expr × PS × List Expr) (fun y => comeI en y.1 y.2.1 y.2.2.1 y.2.2.2 = .ok (l, s') ∧ y.2.2.1.Good ∧ y.1 ≤ k ∧ (y.2.1.isSome = true → 5 * y.2.2.1.l.length + 2 ≤ y.1) ∧ y.2.2.2.length + y.2.1.isSome.toNat + y.2.2.1.l.length ≤ s.l.length)
        (fun y => [(5, B y.2.1.isSome), (4, .ptr 4 0), (3, .own 900 y.2.2.2.length), (2, .ptr 2 0), (0, .ptr 1000 0)])
        (fun y => (4, .box 143 [.d (iD (y.2.1.getD zeroE).op), .d (sD (y.2.1.getD zeroE).name), .d (exprsD false (y.2.1.getD zeroE).l)]) :: (900, .row 143 3 (y.2.2.2.map (exprD false))) :: (2, .box 143 [.d (iD 0), .d (sD ⟨#[]⟩), .d (.raw (.slice none 0 0))]) :: prG en y.2.2.1.l y.2.2.1.opn y.2.2.1.parts) (fun y => 2 * y.2.2.1.l.length + y.2.1.isSome.toNat) (k, o, s1, []) ⟨hres, hgood.1, Nat.le_refl _, fun h => ?_, ?_⟩ ?_
      · obtain ⟨x, rfl⟩ := Option.isSome_iff_exists.1 h
        have := hgood.2.2 x rfl
        dsimp only; omega
      · cases o with
        | none => have := hgood.2.1; simp; omega
        | some x => have := hgood.2.2 x rfl; simp; omega
      rintro ⟨q, u, st, acc⟩ ⟨j1, j2, j3, j4, j5⟩
      dsimp only at j1 j2 j3 j4 j5 ⊢
      cases u with
      | none =>
        simp only [Option.isSome_none, Option.getD_none, Bool.toNat_false] at *
        obtain ⟨rfl, rfl⟩ : acc = l ∧ st = s' := by injection j1 with j1; injection j1 with j1 j2; exact ⟨j1, j2⟩
        rcases one_cases (op := 3) (l := acc) with ⟨x, rfl, e1⟩ | ⟨e0, e1⟩
        · rw [e1]
          repeat (first | refine wk ?_ | refine s_field (hr := ?_))
          exact fin
        · rw [e1, show exprA false (Expr.mk 3 ⟨#[]⟩ acc) = .agg [iD 3, sD ⟨#[]⟩, exprsD false acc] from rfl]
          refine aw_froz 900 rfl ?_
          repeat (first | refine wk ?_ | refine s_field (hr := ?_))
          exact fin
      | some x =>
        simp only [Option.isSome_some, Option.getD_some, Bool.toNat_true] at *
        obtain ⟨q, rfl⟩ : ∃ q', q = q' + 1 := ⟨q - 1, by have := j4 trivial; omega⟩
        have j4' := j4 trivial
        have hj := hI q (by omega) st j2 (by omega) (by omega)
        obtain ⟨i1', i2', _⟩ := inv_all en q
        have hst : comeI en (q + 1) (some x) st acc = pItems en (q + 1) st (acc ++ [x]) := rfl
        rw [hst, pItems_come] at j1
        have e : acc.map (exprD false) ++ [exprA false x] = (acc ++ [x]).map (exprD false) := by rw [List.map_append]; simp only [List.map_cons, List.map_nil, exprA_eq]
        cases hc2 : pItem en q st with
        | error f2 =>
          rw [hc2] at j1 hj
          replace hj : APan _ _ _ _ _ _ := hj
          cases j1
        | ok p2 =>
          obtain ⟨o2, st2⟩ := p2
          rw [hc2] at j1 hj
          replace hj : ACalls _ _ _ _ _ _ := hj
          dsimp only at j1
          have hg2 : st2.Good ∧ st2.l.length + o2.isSome.toNat ≤ st.l.length := by
            cases o2 with
            | none => rw [i2' _ _ j2 hc2]; exact ⟨j2, Nat.le_refl _⟩
            | some x2 => have := i1' _ _ _ j2 hc2; exact ⟨this.1, this.2.2⟩
          iterate 22 (refine wk1 ?_)
          refine andThen_n ?_
          rw [e, List.length_map]
          refine aw_weak [(21, .agg [.d (iD x.op), .d (sD x.name), .d (exprsD false x.l)]), (3, .own 900 (acc ++ [x]).length), (2, .ptr 2 0), (0, .ptr 1000 0)] [(900, .row 143 3 ((acc ++ [x]).map (exprD false))), (2, .box 143 [.d (iD 0), .d (sD ⟨#[]⟩), .d (.raw (.slice none 0 0))]), (1000, prB en st.l st.opn st.parts)] (by repeat' (first | exact trivial | exact VLe.refl _ | exact HElt.of rfl | refine And.intro ?_ ?_)) (by repeat' (first | exact trivial | exact VLe.refl _ | exact HElt.of rfl | refine And.intro ?_ ?_)) rfl ?_
          repeat (first | refine wk ?_ | refine s_field (hr := ?_))
          refine s_call [] (hA := hj) (hr := ?_)
          repeat (first | refine wk ?_ | refine s_field (hr := ?_))
          exact t_next (q, o2, st2, acc ++ [x]) (a := ⟨j1, hg2.1, by omega, fun h => by dsimp only at h ⊢; have h1 : o2.isSome.toNat = 1 := (by rw [h]; rfl); omega, by dsimp only; simp only [List.length_append, List.length_singleton]; omega⟩) (b := by dsimp only; omega)
end Go.Proofs.Ytgcagjamjdnglaa
