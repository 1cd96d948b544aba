/-
  Sim: the maker of rules: right. Sim: the maker of rules: right, all, for every expression that is well made.
-/
import Derived.Test.YtkfeccbahpmadaaExpB
set_option linter.unusedVariables false
set_option linter.unusedSimpArgs false
set_option linter.unusedSectionVars false
namespace Go.Proofs.Ytkfeccbahpmadaa
open Go.RowKit
set_option maxRecDepth 100000
-- SimX

theorem APan.le {P : Program} {f : FuncId} {args args' : List V} {h h' : Hp} {u : Value} (hA : APan P f args' h u h') (hl : VLes args args') : APan P f args h u h' :=
  ⟨hA.ok, fun E w us o H hr hk ho hs => hA.run E w us o H (hl.reps hr) (by rw [← hl.keys]; exact hk) ho hs⟩
theorem DoesX.le {nm tm : List ByteArray} {at_ : Int} {f : FuncId} {args args' : List V} {s : XS} {r : Except XS (V × XS)} (hA : DoesX nm tm at_ f args' s r) (hl : VLes args args') : DoesX nm tm at_ f args s r := by
  cases r with
  | error e => exact APan.le (show APan _ _ _ _ _ _ from hA) hl
  | ok p => exact ACalls.le (show ACalls _ _ _ _ _ _ from hA) hl
theorem plc_in (l : List ByteArray) (s : ByteArray) : -1 ≤ plc l s ∧ plc l s ≤ l.length := by
  rcases plc_cases l s with ⟨_, e⟩ | ⟨_, i, hi, e, _⟩ <;> omega
theorem xRow_len {f : XF} (hf : ∀ y s r s', f y s = .ok (r, s') → r.length ≤ esz y) : ∀ (l : List Expr) (out : List Int) (s : XS) (r : List Int) (s' : XS), xRow f l out s = .ok (r, s') → r.length ≤ out.length + eszs l
  | [], out, s, r, s', h => by cases h; simp [eszs]
  | y :: l, out, s, r, s', h => by
    rw [xRow] at h
    cases hc : f y s with
    | error e => rw [hc] at h; cases h
    | ok p =>
      obtain ⟨r1, s1⟩ := p
      rw [hc] at h
      have h1 := hf _ _ _ _ hc
      have h2 := xRow_len hf l _ _ _ _ h
      rw [List.length_append] at h2
      rw [eszs]; omega
theorem xR_len (tm nm : List ByteArray) : ∀ (n : Nat) (y : Expr) (s : XS) (r : List Int) (s' : XS), xR tm nm n y s = .ok (r, s') → r.length ≤ esz y
  | 0, y, s, r, s', h => by cases h
  | n + 1, y, s, r, s', h => by
    have hp := esz_pos y
    rw [xR] at h
    split at h
    · cases h; simpa using hp
    · split at h
      · cases h; simpa using hp
      · split at h
        · have := xRow_len (xR_len tm nm n) _ _ _ _ _ h
          rw [esz_eq]; simp at this; omega
        · split at h
          · cases h
          · split at h
            · cases h
            · cases h; simpa using hp
theorem xR_good (tm nm : List ByteArray) {n : Nat} {x : Expr} {s s' : XS} {r : List Int} (hx : xF x = 0) (hn : esz x ≤ n) (g : s.Good) (h : xR tm nm n x s = .ok (r, s')) : s'.Good := by
  have := xR_same tm nm n x s hx hn g
  rw [h] at this
  exact this.2
section
variable {nm tm : List ByteArray} {at_ : Int}
theorem fresh_good {s s' : XS} (g : s.Good) (h : s.fresh = .ok s') : s'.Good := by
  obtain ⟨g1, g2, g3⟩ := g
  unfold XS.fresh at h
  split at h
  · cases h
  · cases h; exact ⟨by show 0 ≤ s.vars + 1; omega, by show s.vars + 1 ≤ 64; omega, g3⟩
set_option maxHeartbeats 8000000 in
theorem right_op {t : Bool} {n : Nat} (ih : ∀ x, xF x = 0 → esz x ≤ n → esz x ≤ 500000 → RightOk nm tm at_ t (xR tm nm n) x) (htm : tm.length ≤ 1000000)
    {x : Expr} (hx : xF x = 0) (hn : esz x ≤ n + 1) (hs : esz x ≤ 500000) (h1 : ¬ x.op = 1) (h2 : ¬ x.op = 2) (h3 : ¬ x.op = 3) {s : XS} (hg : s.Good) :
    DoesX nm tm at_ 186 [.ptr 1000 0, .d (exprA t x)] s ((match s.fresh with
      | .error e => .error e
      | .ok s1 => match xIn (xR tm nm n) x s.vars s1 with
        | .error e => .error e
        | .ok s2 => .ok ([s.vars], s2) : Except XS (List Int × XS)).map fun p => (.d (ints false p.1), p.2)) := by
  have hlx : ∀ y ∈ x.l, xF y = 0 ∧ esz y ≤ n := fun y hy => ⟨(xF_zero hx).2.2 y hy, by have := eszs_mem hy; rw [esz_eq] at hn; omega⟩
  have hle : ∀ y ∈ x.l, esz y ≤ 500000 := fun y hy => by have := eszs_mem hy; rw [esz_eq] at hs; omega
  have hl : ∀ y ∈ x.l, RightOk nm tm at_ t (xR tm nm n) y := fun y hy => ih y (hlx y hy).1 (hlx y hy).2 (hle y hy)
  have hxl : x.l.length ≤ 500000 := by have := eszs_len x.l; rw [esz_eq] at hs; omega
  have e12 : ¬ x.op = 1 := h1
  have e22 : ¬ x.op = 2 := h2
  have e32 : ¬ x.op = 3 := h3
  have hfr := xfresh_sim (nm := nm) (tm := tm) (at_ := at_) hg
  cases hfc : s.fresh with
  | error z =>
    rw [hfc] at hfr
    obtain rfl : z = s := by unfold XS.fresh at hfc; split at hfc <;> cases hfc; rfl
    replace hfr : APan Try.prog 214 [.ptr 1000 0] (mkH nm tm at_ z) (goneX at_) (mkH nm tm at_ z) := hfr
    show APan _ _ _ _ _ _
    refine APan.intro (n := 93) Try.func186 rfl rfl (by simp) (by rfl) rfl ?_
    simp only [argFr]
    repeat (first | refine wk ?_ | refine s_field (hr := ?_))
    refine s_panCall [] [] [] (hpn := ?_) (hA := hfr)
    exact (fun fr' h' _ _ => ⟨rfl, ⟨HElt.of rfl, HElt.of rfl, trivial⟩, rfl⟩)
  | ok s1 =>
    have gf := fresh_good hg hfc
    rw [hfc] at hfr
    replace hfr : ACalls Try.prog 214 [.ptr 1000 0] (mkH nm tm at_ s) (I s.vars) (mkH nm tm at_ s1) := hfr
    dsimp only
    by_cases h4 : x.op = 4
    · have ew : waysE x = x.l := by unfold waysE; rw [if_pos h4]
      rw [show xIn (xR tm nm n) x s.vars s1 = xAll (xR tm nm n) s.vars false false (waysE x) s1 by unfold xIn; rw [if_pos h4, ew]]
      have ha := all_of (nm := nm) (tm := tm) (at_ := at_) (t := t) (f := xR tm nm n) (x := x) (v := s.vars) (ag := false) (al := false) (by decide) (by rw [ew]; exact hl) (by rw [ew]; omega) (by omega) (s0 := s1) gf
      cases hac : xAll (xR tm nm n) s.vars false false (waysE x) s1 with
      | error z =>
        rw [hac] at ha
        replace ha : APan Try.prog 134 [.ptr 1000 0, I s.vars, .d (exprA t x), B false, B false] (mkH nm tm at_ s1) (goneX at_) (mkH nm tm at_ z) := ha
        show APan _ _ _ _ _ _
        refine APan.intro (n := 93) Try.func186 rfl rfl (by simp) (by rfl) rfl ?_
        simp only [argFr]
        repeat (first | refine wk ?_ | refine s_field (hr := ?_))
        refine s_call [] (hA := hfr) (hr := ?_)
        repeat (first | refine wk ?_ | refine s_field (hr := ?_))
        refine s_panCall [] [] [] (hpn := ?_) (hA := ha)
        exact (fun fr' h' _ _ => ⟨rfl, ⟨HElt.of rfl, HElt.of rfl, trivial⟩, rfl⟩)
      | ok z =>
        rw [hac] at ha
        replace ha : ACalls Try.prog 134 [.ptr 1000 0, I s.vars, .d (exprA t x), B false, B false] (mkH nm tm at_ s1) (.tup []) (mkH nm tm at_ z) := ha
        show ACalls _ _ _ _ _ _
        refine ACalls.intro (n := 93) Try.func186 rfl rfl (by simp) (by rfl) ?_
        simp only [argFr]
        repeat (first | refine wk ?_ | refine s_field (hr := ?_))
        refine s_call [] (hA := hfr) (hr := ?_)
        repeat (first | refine wk ?_ | refine s_field (hr := ?_))
        refine s_call [] (hA := ha) (hr := ?_)
        repeat (first | refine aw_froz 92 rfl ?_ | refine wk1 ?_ | refine s_field (hr := ?_))
        exact fin
    · obtain ⟨o5, o7, y, ey⟩ : 5 ≤ x.op ∧ x.op ≤ 7 ∧ ∃ y, x.l = [y] := by
        rcases op_cases hx with h | h | h | h | h
        · exact absurd h h1
        · exact absurd h h2
        · exact absurd h h3
        · exact absurd h h4
        · exact h
      have e42 : ¬ x.op = 4 := h4
      have hl1 : x.l.length = 1 := by rw [ey]; rfl
      have hlt : 0 < x.l.length := by omega
      have hy0 : x.l[0] = y := by simp [ey]
      have hhd : hdE x.l = x.l[0] := by rw [hy0, ey]; rfl
      have hyx : xF x.l[0] = 0 ∧ esz x.l[0] ≤ n := hlx _ (List.getElem_mem hlt)
      have hle0 : esz x.l[0] ≤ 500000 := hle _ (List.getElem_mem hlt)
      have hww : ∀ y ∈ waysE x.l[0], RightOk nm tm at_ t (xR tm nm n) y := fun y hy => ih y (waysE_xF hyx.1 y hy) (by have := waysE_esz hy; omega) (by have := waysE_esz hy; omega)
      have hwl : (waysE x.l[0]).length ≤ 1000000 := by
        unfold waysE
        split
        · have := eszs_len x.l[0].l; have := esz_eq x.l[0]; omega
        · simp
      have hwl2 : x.l[0].l.length ≤ 1000000 := by have := eszs_len x.l[0].l; have := esz_eq x.l[0]; omega
      unfold xIn
      rw [if_neg h4, hhd]
      have hru := (xrule_sim (nm := nm) (tm := tm) (at_ := at_) gf (v := s.vars) (r := []) (by simp)).le (args := [.ptr 1000 0, I s.vars, .d (.raw (.slice none 0 0))]) ⟨.refl _, .refl _, .nil _ _, trivial⟩
      by_cases h5 : x.op = 5
      ·
        have d1 : decide (x.op ≠ 5) = false := by rw [h5]; decide
        have d2 : decide (x.op = 7) = false := by rw [h5]; decide
        have e62 : ¬ x.op = 6 := by omega
        have e72 : ¬ x.op = 7 := by omega
        rw [d1, d2]
        unfold xNil
        rw [if_pos (by omega)]
        cases hrc : s1.rule s.vars [] with
        | error z =>
          rw [hrc] at hru
          replace hru : APan Try.prog 187 [.ptr 1000 0, I s.vars, .d (.raw (.slice none 0 0))] (mkH nm tm at_ s1) (goneX at_) (mkH nm tm at_ z) := hru
          show APan _ _ _ _ _ _
          refine APan.intro (n := 93) Try.func186 rfl rfl (by simp) (by rfl) rfl ?_
          simp only [argFr]
          repeat (first | refine wk ?_ | refine s_field (hr := ?_))
          refine s_call [] (hA := hfr) (hr := ?_)
          repeat (first | refine wk ?_ | refine s_field (hr := ?_))
          refine s_panCall [] [] [] (hpn := ?_) (hA := hru)
          exact (fun fr' h' _ _ => ⟨rfl, ⟨HElt.of rfl, HElt.of rfl, trivial⟩, rfl⟩)
        | ok s2 =>
          have g2 := rule_good gf hrc
          rw [hrc] at hru
          replace hru : ACalls Try.prog 187 [.ptr 1000 0, I s.vars, .d (.raw (.slice none 0 0))] (mkH nm tm at_ s1) (.tup []) (mkH nm tm at_ s2) := hru
          dsimp only
          have ha := all_of (nm := nm) (tm := tm) (at_ := at_) (t := t) (f := xR tm nm n) (x := x.l[0]) (v := s.vars) (ag := false) (al := false) (by decide) hww hwl hwl2 (s0 := s2) g2
          cases hac : xAll (xR tm nm n) s.vars false false (waysE x.l[0]) s2 with
          | error z =>
            rw [hac] at ha
            replace ha : APan Try.prog 134 [.ptr 1000 0, I s.vars, .d (exprA t x.l[0]), B false, B false] (mkH nm tm at_ s2) (goneX at_) (mkH nm tm at_ z) := ha
            show APan _ _ _ _ _ _
            refine APan.intro (n := 93) Try.func186 rfl rfl (by simp) (by rfl) rfl ?_
            simp only [argFr]
            repeat (first | refine wk ?_ | refine s_field (hr := ?_))
            refine s_call [] (hA := hfr) (hr := ?_)
            repeat (first | refine wk ?_ | refine s_field (hr := ?_))
            refine s_call [] (hA := hru) (hr := ?_)
            repeat (first | refine wk ?_ | refine s_field (hr := ?_))
            refine s_panCall [] [] [] (hpn := ?_) (hA := ha)
            exact (fun fr' h' _ _ => ⟨rfl, ⟨HElt.of rfl, HElt.of rfl, trivial⟩, rfl⟩)
          | ok z =>
            rw [hac] at ha
            replace ha : ACalls Try.prog 134 [.ptr 1000 0, I s.vars, .d (exprA t x.l[0]), B false, B false] (mkH nm tm at_ s2) (.tup []) (mkH nm tm at_ z) := ha
            show ACalls _ _ _ _ _ _
            refine ACalls.intro (n := 93) Try.func186 rfl rfl (by simp) (by rfl) ?_
            simp only [argFr]
            repeat (first | refine wk ?_ | refine s_field (hr := ?_))
            refine s_call [] (hA := hfr) (hr := ?_)
            repeat (first | refine wk ?_ | refine s_field (hr := ?_))
            refine s_call [] (hA := hru) (hr := ?_)
            repeat (first | refine wk ?_ | refine s_field (hr := ?_))
            refine s_call [] (hA := ha) (hr := ?_)
            repeat (first | refine aw_froz 92 rfl ?_ | refine wk1 ?_ | refine s_field (hr := ?_))
            exact fin
      by_cases h6 : x.op = 6
      ·
        have d1 : decide (x.op ≠ 5) = true := by rw [h6]; decide
        have d2 : decide (x.op = 7) = false := by rw [h6]; decide
        have e52 : ¬ x.op = 5 := by omega
        have e72 : ¬ x.op = 7 := by omega
        rw [d1, d2]
        unfold xNil
        rw [if_pos (by omega)]
        cases hrc : s1.rule s.vars [] with
        | error z =>
          rw [hrc] at hru
          replace hru : APan Try.prog 187 [.ptr 1000 0, I s.vars, .d (.raw (.slice none 0 0))] (mkH nm tm at_ s1) (goneX at_) (mkH nm tm at_ z) := hru
          show APan _ _ _ _ _ _
          refine APan.intro (n := 93) Try.func186 rfl rfl (by simp) (by rfl) rfl ?_
          simp only [argFr]
          repeat (first | refine wk ?_ | refine s_field (hr := ?_))
          refine s_call [] (hA := hfr) (hr := ?_)
          repeat (first | refine wk ?_ | refine s_field (hr := ?_))
          refine s_panCall [] [] [] (hpn := ?_) (hA := hru)
          exact (fun fr' h' _ _ => ⟨rfl, ⟨HElt.of rfl, HElt.of rfl, trivial⟩, rfl⟩)
        | ok s2 =>
          have g2 := rule_good gf hrc
          rw [hrc] at hru
          replace hru : ACalls Try.prog 187 [.ptr 1000 0, I s.vars, .d (.raw (.slice none 0 0))] (mkH nm tm at_ s1) (.tup []) (mkH nm tm at_ s2) := hru
          dsimp only
          have ha := all_of (nm := nm) (tm := tm) (at_ := at_) (t := t) (f := xR tm nm n) (x := x.l[0]) (v := s.vars) (ag := true) (al := false) (by decide) hww hwl hwl2 (s0 := s2) g2
          cases hac : xAll (xR tm nm n) s.vars true false (waysE x.l[0]) s2 with
          | error z =>
            rw [hac] at ha
            replace ha : APan Try.prog 134 [.ptr 1000 0, I s.vars, .d (exprA t x.l[0]), B true, B false] (mkH nm tm at_ s2) (goneX at_) (mkH nm tm at_ z) := ha
            show APan _ _ _ _ _ _
            refine APan.intro (n := 93) Try.func186 rfl rfl (by simp) (by rfl) rfl ?_
            simp only [argFr]
            repeat (first | refine wk ?_ | refine s_field (hr := ?_))
            refine s_call [] (hA := hfr) (hr := ?_)
            repeat (first | refine wk ?_ | refine s_field (hr := ?_))
            refine s_call [] (hA := hru) (hr := ?_)
            repeat (first | refine wk ?_ | refine s_field (hr := ?_))
            refine s_panCall [] [] [] (hpn := ?_) (hA := ha)
            exact (fun fr' h' _ _ => ⟨rfl, ⟨HElt.of rfl, HElt.of rfl, trivial⟩, rfl⟩)
          | ok z =>
            rw [hac] at ha
            replace ha : ACalls Try.prog 134 [.ptr 1000 0, I s.vars, .d (exprA t x.l[0]), B true, B false] (mkH nm tm at_ s2) (.tup []) (mkH nm tm at_ z) := ha
            show ACalls _ _ _ _ _ _
            refine ACalls.intro (n := 93) Try.func186 rfl rfl (by simp) (by rfl) ?_
            simp only [argFr]
            repeat (first | refine wk ?_ | refine s_field (hr := ?_))
            refine s_call [] (hA := hfr) (hr := ?_)
            repeat (first | refine wk ?_ | refine s_field (hr := ?_))
            refine s_call [] (hA := hru) (hr := ?_)
            repeat (first | refine wk ?_ | refine s_field (hr := ?_))
            refine s_call [] (hA := ha) (hr := ?_)
            repeat (first | refine aw_froz 92 rfl ?_ | refine wk1 ?_ | refine s_field (hr := ?_))
            exact fin
      · have h7 : x.op = 7 := by omega
        have d1 : decide (x.op ≠ 5) = true := by rw [h7]; decide
        have d2 : decide (x.op = 7) = true := by rw [h7]; decide
        have e52 : ¬ x.op = 5 := by omega
        have e62 : ¬ x.op = 6 := by omega
        rw [d1, d2]
        unfold xNil
        rw [if_neg (by omega)]
        dsimp only
        have ha := all_of (nm := nm) (tm := tm) (at_ := at_) (t := t) (f := xR tm nm n) (x := x.l[0]) (v := s.vars) (ag := true) (al := true) (by decide) hww hwl hwl2 (s0 := s1) gf
        cases hac : xAll (xR tm nm n) s.vars true true (waysE x.l[0]) s1 with
        | error z =>
          rw [hac] at ha
          replace ha : APan Try.prog 134 [.ptr 1000 0, I s.vars, .d (exprA t x.l[0]), B true, B true] (mkH nm tm at_ s1) (goneX at_) (mkH nm tm at_ z) := ha
          show APan _ _ _ _ _ _
          refine APan.intro (n := 93) Try.func186 rfl rfl (by simp) (by rfl) rfl ?_
          simp only [argFr]
          repeat (first | refine wk ?_ | refine s_field (hr := ?_))
          refine s_call [] (hA := hfr) (hr := ?_)
          repeat (first | refine wk ?_ | refine s_field (hr := ?_))
          refine s_panCall [] [] [] (hpn := ?_) (hA := ha)
          exact (fun fr' h' _ _ => ⟨rfl, ⟨HElt.of rfl, HElt.of rfl, trivial⟩, rfl⟩)
        | ok z =>
          rw [hac] at ha
          replace ha : ACalls Try.prog 134 [.ptr 1000 0, I s.vars, .d (exprA t x.l[0]), B true, B true] (mkH nm tm at_ s1) (.tup []) (mkH nm tm at_ z) := ha
          show ACalls _ _ _ _ _ _
          refine ACalls.intro (n := 93) Try.func186 rfl rfl (by simp) (by rfl) ?_
          simp only [argFr]
          repeat (first | refine wk ?_ | refine s_field (hr := ?_))
          refine s_call [] (hA := hfr) (hr := ?_)
          repeat (first | refine wk ?_ | refine s_field (hr := ?_))
          refine s_call [] (hA := ha) (hr := ?_)
          repeat (first | refine aw_froz 92 rfl ?_ | refine wk1 ?_ | refine s_field (hr := ?_))
          exact fin
set_option maxHeartbeats 4000000 in
theorem right_row {t : Bool} {n : Nat} (ih : ∀ x, xF x = 0 → esz x ≤ n → esz x ≤ 500000 → RightOk nm tm at_ t (xR tm nm n) x)
    {x : Expr} (hx : xF x = 0) (hn : esz x ≤ n + 1) (hs : esz x ≤ 500000) (h3 : x.op = 3) {s0 : XS} (hg : s0.Good) :
    DoesX nm tm at_ 186 [.ptr 1000 0, .d (exprA t x)] s0 ((xRow (xR tm nm n) x.l [] s0).map fun p => (.d (ints false p.1), p.2)) := by
  have hlx : ∀ y ∈ x.l, xF y = 0 ∧ esz y ≤ n := fun y hy => ⟨(xF_zero hx).2.2 y hy, by have := eszs_mem hy; rw [esz_eq] at hn; omega⟩
  have hle : ∀ y ∈ x.l, esz y ≤ 500000 := fun y hy => by have := eszs_mem hy; rw [esz_eq] at hs; omega
  have hl : ∀ y ∈ x.l, RightOk nm tm at_ t (xR tm nm n) y := fun y hy => ih y (hlx y hy).1 (hlx y hy).2 (hle y hy)
  have hxl : x.l.length ≤ 500000 := by have := eszs_len x.l; rw [esz_eq] at hs; omega
  have hes : eszs x.l ≤ 500000 := by rw [esz_eq] at hs; omega
  have hlen := xR_len tm nm n
  have h1 : ¬ x.op = 1 := by omega
  have h2 : ¬ x.op = 2 := by omega
  generalize xR tm nm n = f at *
  cases hres : xRow f x.l [] s0 with
  | error w =>
    show APan _ _ _ _ _ _
    refine APan.intro (n := 93) Try.func186 rfl rfl (by simp) (by rfl) rfl ?_
    simp only [argFr]
    repeat (first | refine wk ?_ | refine s_field (hr := ?_))
    refine aw_nil 5 900 3 1 rfl rfl rfl ?_
    refine t_loop (X := Nat × List Int × XS) (fun y => xRow f (x.l.drop y.1) y.2.1 y.2.2 = .error w ∧ y.2.2.Good ∧ y.1 ≤ x.l.length ∧ y.2.1.length + eszs (x.l.drop y.1) ≤ eszs x.l) (fun y => [(37, I y.1), (36, I x.l.length), (35, .d (exprsD t x.l)), (5, .own 900 y.2.1.length), (0, .ptr 1000 0)])
      (fun y => (900, .row 3 1 (y.2.1.map iD)) :: mkH nm tm at_ y.2.2) (fun y => x.l.length - y.1) (0, [], s0) ⟨hres, hg, Nat.zero_le _, by simp⟩ ?_
    rintro ⟨i, out, s⟩ ⟨j1, j2, j3, j4⟩
    dsimp only at j1 j2 j3 j4 ⊢
    by_cases hlt : i < x.l.length
    rotate_left
    · rw [List.drop_of_length_le (by omega)] at j1
      cases j1
    obtain ⟨hd, hgg⟩ := hl x.l[i] (List.getElem_mem hlt) s j2
    rw [List.drop_eq_getElem_cons hlt, xRow] at j1
    have ed := eszs_drop hlt
    cases hc : f x.l[i] s with
    | error z =>
      rw [hc] at j1 hd
      obtain rfl : z = w := by injection j1
      replace hd : APan Try.prog 186 [.ptr 1000 0, .d (exprA t x.l[i])] (mkH nm tm at_ s) (goneX at_) (mkH nm tm at_ z) := hd
      repeat (first | refine wk ?_ | refine s_field (hr := ?_))
      refine s_panCall [] [] [] (hpn := ?_) (hA := hd)
      exact (fun fr' h' _ _ => ⟨rfl, ⟨HElt.of rfl, HElt.of rfl, trivial⟩, rfl⟩)
    | ok p =>
      obtain ⟨r1, s1⟩ := p
      obtain ⟨g1, _⟩ := hgg r1 s1 hc
      have hrl := hlen _ _ _ _ hc
      rw [hc] at j1 hd
      dsimp only at j1
      replace hd : ACalls Try.prog 186 [.ptr 1000 0, .d (exprA t x.l[i])] (mkH nm tm at_ s) (.d (ints false r1)) (mkH nm tm at_ s1) := hd
      have e : out.map iD ++ r1.map iD = (out ++ r1).map iD := by rw [List.map_append]
      have e2 : (out ++ r1).length = out.length + r1.length := List.length_append
      repeat (first | refine wk ?_ | refine s_field (hr := ?_))
      refine s_call [] (hA := hd) (hr := ?_)
      repeat (first | refine wk ?_ | refine s_field (hr := ?_))
      rw [e, List.length_map]
      exact t_next (i + 1, out ++ r1, s1) (a := ⟨j1, g1, by dsimp only; omega, by dsimp only; omega⟩) (b := by dsimp only; omega)
  | ok p =>
    obtain ⟨r, w⟩ := p
    show ACalls _ _ _ _ _ _
    refine ACalls.intro (n := 93) Try.func186 rfl rfl (by simp) (by rfl) ?_
    simp only [argFr]
    repeat (first | refine wk ?_ | refine s_field (hr := ?_))
    refine aw_nil 5 900 3 1 rfl rfl rfl ?_
    refine t_loop (X := Nat × List Int × XS) (fun y => xRow f (x.l.drop y.1) y.2.1 y.2.2 = .ok (r, w) ∧ y.2.2.Good ∧ y.1 ≤ x.l.length ∧ y.2.1.length + eszs (x.l.drop y.1) ≤ eszs x.l) (fun y => [(37, I y.1), (36, I x.l.length), (35, .d (exprsD t x.l)), (5, .own 900 y.2.1.length), (0, .ptr 1000 0)])
      (fun y => (900, .row 3 1 (y.2.1.map iD)) :: mkH nm tm at_ y.2.2) (fun y => x.l.length - y.1) (0, [], s0) ⟨hres, hg, Nat.zero_le _, by simp⟩ ?_
    rintro ⟨i, out, s⟩ ⟨j1, j2, j3, j4⟩
    dsimp only at j1 j2 j3 j4 ⊢
    by_cases hlt : i < x.l.length
    rotate_left
    · rw [List.drop_of_length_le (by omega)] at j1
      obtain ⟨rfl, rfl⟩ : out = r ∧ s = w := by cases j1; exact ⟨rfl, rfl⟩
      refine aw_froz 900 rfl ?_
      repeat (first | refine wk ?_ | refine s_field (hr := ?_))
      exact fin
    obtain ⟨hd, hgg⟩ := hl x.l[i] (List.getElem_mem hlt) s j2
    rw [List.drop_eq_getElem_cons hlt, xRow] at j1
    have ed := eszs_drop hlt
    cases hc : f x.l[i] s with
    | error z =>
      rw [hc] at j1 hd
      cases j1
    | ok p =>
      obtain ⟨r1, s1⟩ := p
      obtain ⟨g1, _⟩ := hgg r1 s1 hc
      have hrl := hlen _ _ _ _ hc
      rw [hc] at j1 hd
      dsimp only at j1
      replace hd : ACalls Try.prog 186 [.ptr 1000 0, .d (exprA t x.l[i])] (mkH nm tm at_ s) (.d (ints false r1)) (mkH nm tm at_ s1) := hd
      have e : out.map iD ++ r1.map iD = (out ++ r1).map iD := by rw [List.map_append]
      have e2 : (out ++ r1).length = out.length + r1.length := List.length_append
      repeat (first | refine wk ?_ | refine s_field (hr := ?_))
      refine s_call [] (hA := hd) (hr := ?_)
      repeat (first | refine wk ?_ | refine s_field (hr := ?_))
      rw [e, List.length_map]
      exact t_next (i + 1, out ++ r1, s1) (a := ⟨j1, g1, by dsimp only; omega, by dsimp only; omega⟩) (b := by dsimp only; omega)

end
end Go.Proofs.Ytkfeccbahpmadaa
namespace Go.Proofs.Ytkfeccbahpmadaa
open Go.RowKit
set_option maxRecDepth 100000
-- SimX

section
variable {nm tm : List ByteArray} {at_ : Int}
set_option maxHeartbeats 4000000 in
theorem right_leaf1 {t : Bool} {n : Nat} {x : Expr} (h1 : x.op = 1) (htm : tm.length ≤ 1000000) {s : XS} :
    ACalls Try.prog 186 [.ptr 1000 0, .d (exprA t x)] (mkH nm tm at_ s) (.d (ints false [-1 - plc tm x.name])) (mkH nm tm at_ s) := by
  have hi := indexS_sim (t := false) (l := tm) (s := x.name) (by omega)
  obtain ⟨p1, p2⟩ := plc_in tm x.name
  generalize plc tm x.name = p at *
  refine ACalls.intro (n := 93) Try.func186 rfl rfl (by simp) (by rfl) ?_
  simp only [argFr]
  repeat (first | refine wk ?_ | refine s_field (hr := ?_))
  refine s_call [] (hA := hi) (hr := ?_)
  repeat (first | refine aw_froz 21 rfl ?_ | refine wk1 ?_ | refine s_field (hr := ?_))
  exact fin
set_option maxHeartbeats 4000000 in
theorem right_leaf2 {t : Bool} {n : Nat} {x : Expr} (h2 : x.op = 2) (hnm : nm.length ≤ 1000000) {s : XS} :
    ACalls Try.prog 186 [.ptr 1000 0, .d (exprA t x)] (mkH nm tm at_ s) (.d (ints false [plc nm x.name])) (mkH nm tm at_ s) := by
  have hi := indexS_sim (t := false) (l := nm) (s := x.name) (by omega)
  obtain ⟨p1, p2⟩ := plc_in nm x.name
  have h1 : ¬ x.op = 1 := by omega
  generalize plc nm x.name = p at *
  refine ACalls.intro (n := 93) Try.func186 rfl rfl (by simp) (by rfl) ?_
  simp only [argFr]
  repeat (first | refine wk ?_ | refine s_field (hr := ?_))
  refine s_call [] (hA := hi) (hr := ?_)
  repeat (first | refine aw_froz 31 rfl ?_ | refine wk1 ?_ | refine s_field (hr := ?_))
  exact fin
theorem right_gen (hnm : nm.length ≤ 1000000) (htm : tm.length ≤ 1000000) {t : Bool} : ∀ (n : Nat) (x : Expr), xF x = 0 → esz x ≤ n → esz x ≤ 500000 → RightOk nm tm at_ t (xR tm nm n) x
  | 0, x, _, hn, _ => by have := esz_pos x; omega
  | n + 1, x, hx, hn, hs => by
    intro s hg
    refine ⟨?_, fun r s' h => ⟨xR_good tm nm hx hn hg h, Nat.le_trans (xR_len tm nm _ _ _ _ _ h) hs⟩⟩
    have ih := right_gen hnm htm (t := t) n
    rw [xR]
    by_cases h1 : x.op = 1
    · rw [if_pos h1]; exact right_leaf1 (n := n) h1 htm
    rw [if_neg h1]
    by_cases h2 : x.op = 2
    · rw [if_pos h2]; exact right_leaf2 (n := n) h2 hnm
    rw [if_neg h2]
    by_cases h3 : x.op = 3
    · rw [if_pos h3]; exact right_row ih hx hn hs h3 hg
    rw [if_neg h3]
    exact right_op ih htm hx hn hs h1 h2 h3 hg
theorem all_gen (hnm : nm.length ≤ 1000000) (htm : tm.length ≤ 1000000) {t : Bool} {n : Nat} {x : Expr} {v : Int} (hx : xF x = 0) (hn : esz x ≤ n) (hs : esz x ≤ 500000) {s : XS} (g : s.Good) :
    DoesX nm tm at_ 134 [.ptr 1000 0, I v, .d (exprA t x), B false, B false] s ((xAll (xR tm nm n) v false false (waysE x) s).map fun s' => (.tup [], s')) := by
  have hl := eszs_len x.l
  rw [esz_eq] at hs
  refine all_of (.inl ⟨rfl, rfl⟩) (fun y hy => right_gen hnm htm n y (waysE_xF hx y hy) (Nat.le_trans (waysE_esz hy) hn) (by have := waysE_esz hy; rw [esz_eq x] at this; omega)) ?_ (by omega) g
  unfold waysE
  split
  · omega
  · simp
end
end Go.Proofs.Ytkfeccbahpmadaa
