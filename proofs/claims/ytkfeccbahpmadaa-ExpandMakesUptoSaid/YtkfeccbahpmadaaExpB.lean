/-
  Sim: the maker of rules: all.
-/
import Derived.Test.YtkfeccbahpmadaaExA
set_option linter.unusedVariables false
set_option linter.unusedSimpArgs false
set_option linter.unusedSectionVars false
namespace Go.Proofs.Ytkfeccbahpmadaa
open Go.RowKit
set_option maxRecDepth 100000
-- SimX


theorem SameR.good {o : Except XS (List Int × XS)} {p : List Int × YS} (h : SameR o p) {r : List Int} {s : XS} (e : o = .ok (r, s)) : s.Good := by subst e; exact h.2
theorem rule_good {s s' : XS} {v : Int} {r : List Int} (g : s.Good) (h : s.rule v r = .ok s') : s'.Good := by
  have := rule_same g v r
  rw [h] at this; exact this.2
theorem xOne_good {s s' : XS} {v : Int} {ag al : Bool} {r : List Int} (g : s.Good) (h : xOne v ag al r s = .ok s') : s'.Good := by
  unfold xOne at h
  split at h
  · exact rule_good g h
  · cases h; exact g
theorem xTwo_good {s s' : XS} {v : Int} {ag : Bool} {r : List Int} (g : s.Good) (h : xTwo v ag r s = .ok s') : s'.Good := by
  unfold xTwo at h
  split at h
  · exact rule_good g h
  · cases h; exact g
section
variable {nm tm : List ByteArray} {at_ : Int}
/-- What is known of the symbols of an expression: good states, and no more symbols than parts. -/
def RightOk (nm tm : List ByteArray) (at_ : Int) (t : Bool) (f : XF) (y : Expr) : Prop :=
  ∀ s : XS, s.Good → DoesX nm tm at_ 186 [.ptr 1000 0, .d (exprA t y)] s ((f y s).map fun p => (.d (ints false p.1), p.2)) ∧ ∀ r s', f y s = .ok (r, s') → s'.Good ∧ r.length ≤ 500000
set_option maxHeartbeats 4000000 in
theorem all_of {t : Bool} {f : XF} {x : Expr} {v : Int} {ag al : Bool} (hca : (ag = false ∧ al = false) ∨ (ag = true ∧ al = false) ∨ (ag = true ∧ al = true)) (hR : ∀ y ∈ waysE x, RightOk nm tm at_ t f y) (hl : (waysE x).length ≤ 1000000) (hxl : x.l.length ≤ 1000000) {s0 : XS} (g0 : s0.Good) :
    DoesX nm tm at_ 134 [.ptr 1000 0, I v, .d (exprA t x), B ag, B al] s0 ((xAll f v ag al (waysE x) s0).map fun s' => (.tup [], s')) := by
  have hw := ways_sim (t := t) (x := x) (by omega)
  unfold waysD at hw
  generalize waysE x = L at *
  cases hres : xAll f v ag al L s0 with
  | error w =>
    show APan _ _ _ _ _ _
    refine APan.intro (n := 42) Try.func134 rfl rfl (by simp) (by rfl) rfl ?_
    simp only [argFr]
    repeat (first | refine wk ?_ | refine s_field (hr := ?_))
    refine s_call [] (hA := hw) (hr := ?_)
    repeat (first | refine wk ?_ | refine s_field (hr := ?_))
    refine t_loop (X := Nat × XS) (fun y => xAll f v ag al (L.drop y.1) y.2 = .error w ∧ y.2.Good ∧ y.1 ≤ L.length) (fun y => [(16, I y.1), (15, I L.length), (14, .d (.sl (waysT t x) 3 (L.map (exprD t)))), (4, B al), (3, B ag), (1, I v), (0, .ptr 1000 0)])
      (fun y => mkH nm tm at_ y.2) (fun y => L.length - y.1) (0, s0) ⟨hres, g0, Nat.zero_le _⟩ ?_
    rintro ⟨i, s⟩ ⟨j1, j2, j3⟩
    dsimp only at j1 j2 j3 ⊢
    by_cases hlt : i < L.length
    rotate_left
    · rw [List.drop_of_length_le (by omega)] at j1
      cases j1
    obtain ⟨hd, hg⟩ := hR L[i] (List.getElem_mem hlt) s j2
    rw [List.drop_eq_getElem_cons hlt, xAll] at j1
    cases hc : f L[i] s with
    | error z =>
      rw [hc] at j1 hd
      obtain rfl : z = w := by injection j1
      replace hd : APan Try.prog 186 [.ptr 1000 0, .d (exprA t L[i])] (mkH nm tm at_ s) (goneX at_) (mkH nm tm at_ z) := hd
      repeat (first | refine wk ?_ | refine s_field (hr := ?_))
      refine s_panCall [] [] [] (hpn := ?_) (hA := hd)
      exact (fun fr' h' _ _ => ⟨rfl, ⟨HElt.of rfl, HElt.of rfl, trivial⟩, rfl⟩)
    | ok p =>
      obtain ⟨r, s1⟩ := p
      obtain ⟨g1, hrl⟩ := hg r s1 hc
      rw [hc] at j1 hd
      dsimp only at j1
      replace hd : ACalls Try.prog 186 [.ptr 1000 0, .d (exprA t L[i])] (mkH nm tm at_ s) (.d (ints false r)) (mkH nm tm at_ s1) := hd
      have h1 := xrule_sim (nm := nm) (tm := tm) (at_ := at_) g1 (v := v) (r := r) (by omega)
      have hcl := clone_sim (t := false) (xs := r) (by omega)
      have hrl2 : (r.map iD ++ [iD v]).length = r.length + 1 := by simp
      cases hc1 : xOne v ag al r s1 with
      | error z =>
        rw [hc1] at j1
        unfold xOne at hc1
        by_cases hb : (al || !ag) = true
        · rw [if_pos hb] at hc1
          rw [hc1] at h1
          rcases hca with ⟨ea, eb⟩ | ⟨ea, eb⟩ | ⟨ea, eb⟩ <;> subst ea eb
          ·
            obtain rfl : z = w := by injection j1
            replace h1 : APan Try.prog 187 [.ptr 1000 0, I v, .d (ints false r)] (mkH nm tm at_ s1) (goneX at_) (mkH nm tm at_ z) := h1
            repeat (first | refine wk ?_ | refine s_field (hr := ?_))
            refine s_call [] (hA := hd) (hr := ?_)
            repeat (first | refine wk ?_ | refine s_field (hr := ?_))
            refine s_panCall [] [] [] (hpn := ?_) (hA := h1)
            exact (fun fr' h' _ _ => ⟨rfl, ⟨HElt.of rfl, HElt.of rfl, trivial⟩, rfl⟩)
          · cases hb
          ·
            obtain rfl : z = w := by injection j1
            replace h1 : APan Try.prog 187 [.ptr 1000 0, I v, .d (ints false r)] (mkH nm tm at_ s1) (goneX at_) (mkH nm tm at_ z) := h1
            repeat (first | refine wk ?_ | refine s_field (hr := ?_))
            refine s_call [] (hA := hd) (hr := ?_)
            repeat (first | refine wk ?_ | refine s_field (hr := ?_))
            refine s_panCall [] [] [] (hpn := ?_) (hA := h1)
            exact (fun fr' h' _ _ => ⟨rfl, ⟨HElt.of rfl, HElt.of rfl, trivial⟩, rfl⟩)
        · rw [if_neg hb] at hc1; cases hc1
      | ok s2 =>
        rw [hc1] at j1
        dsimp only at j1
        have g2 := xOne_good g1 hc1
        have h2 := xrule_sim (nm := nm) (tm := tm) (at_ := at_) g2 (v := v) (r := r ++ [v]) (by simp; omega)
        rw [show ints false (r ++ [v]) = .sl false 1 (r.map iD ++ [iD v]) by simp [ints]] at h2
        cases hc2 : xTwo v ag r s2 with
        | error z =>
          rw [hc2] at j1
          unfold xOne at hc1
          unfold xTwo at hc2
          by_cases hb : ag = true
          · rw [if_pos hb] at hc2
            rw [hc2] at h2
            rcases hca with ⟨ea, eb⟩ | ⟨ea, eb⟩ | ⟨ea, eb⟩ <;> subst ea eb
            · cases hb
            · rw [if_neg (by decide)] at hc1
              obtain rfl : s1 = s2 := by injection hc1
              obtain rfl : z = w := by injection j1
              replace h2 : APan Try.prog 187 [.ptr 1000 0, I v, .d (.sl false 1 (r.map iD ++ [iD v]))] (mkH nm tm at_ s1) (goneX at_) (mkH nm tm at_ z) := h2
              repeat (first | refine wk ?_ | refine s_field (hr := ?_))
              refine s_call [] (hA := hd) (hr := ?_)
              repeat (first | refine wk ?_ | refine s_field (hr := ?_))
              refine s_call [] (hA := hcl) (hr := ?_)
              repeat (first | refine wk ?_ | refine s_field (hr := ?_))
              refine s_panCall [] [] [] (hpn := ?_) (hA := h2)
              exact (fun fr' h' _ _ => ⟨rfl, ⟨HElt.of rfl, HElt.of rfl, trivial⟩, rfl⟩)
            · rw [if_pos (by decide)] at hc1
              rw [hc1] at h1
              replace h1 : ACalls Try.prog 187 [.ptr 1000 0, I v, .d (ints false r)] (mkH nm tm at_ s1) (.tup []) (mkH nm tm at_ s2) := h1
              obtain rfl : z = w := by injection j1
              replace h2 : APan Try.prog 187 [.ptr 1000 0, I v, .d (.sl false 1 (r.map iD ++ [iD v]))] (mkH nm tm at_ s2) (goneX at_) (mkH nm tm at_ z) := h2
              repeat (first | refine wk ?_ | refine s_field (hr := ?_))
              refine s_call [] (hA := hd) (hr := ?_)
              repeat (first | refine wk ?_ | refine s_field (hr := ?_))
              refine s_call [] (hA := h1) (hr := ?_)
              repeat (first | refine wk ?_ | refine s_field (hr := ?_))
              refine s_call [] (hA := hcl) (hr := ?_)
              repeat (first | refine wk ?_ | refine s_field (hr := ?_))
              refine s_panCall [] [] [] (hpn := ?_) (hA := h2)
              exact (fun fr' h' _ _ => ⟨rfl, ⟨HElt.of rfl, HElt.of rfl, trivial⟩, rfl⟩)
          · rw [if_neg hb] at hc2; cases hc2
        | ok s3 =>
          rw [hc2] at j1
          dsimp only at j1
          have g3 := xTwo_good g2 hc2
          unfold xOne at hc1
          unfold xTwo at hc2
          rcases hca with ⟨ea, eb⟩ | ⟨ea, eb⟩ | ⟨ea, eb⟩ <;> subst ea eb
          · rw [if_pos (by decide)] at hc1
            rw [if_neg (by decide)] at hc2
            obtain rfl : s2 = s3 := by injection hc2
            rw [hc1] at h1
            replace h1 : ACalls Try.prog 187 [.ptr 1000 0, I v, .d (ints false r)] (mkH nm tm at_ s1) (.tup []) (mkH nm tm at_ s2) := h1
            repeat (first | refine wk ?_ | refine s_field (hr := ?_))
            refine s_call [] (hA := hd) (hr := ?_)
            repeat (first | refine wk ?_ | refine s_field (hr := ?_))
            refine s_call [] (hA := h1) (hr := ?_)
            repeat (first | refine wk ?_ | refine s_field (hr := ?_))
            exact t_next (i + 1, s2) (a := ⟨j1, g2, by dsimp only; omega⟩) (b := by dsimp only; omega)
          · rw [if_neg (by decide)] at hc1
            rw [if_pos (by decide)] at hc2
            obtain rfl : s1 = s2 := by injection hc1
            rw [hc2] at h2
            replace h2 : ACalls Try.prog 187 [.ptr 1000 0, I v, .d (.sl false 1 (r.map iD ++ [iD v]))] (mkH nm tm at_ s1) (.tup []) (mkH nm tm at_ s3) := h2
            repeat (first | refine wk ?_ | refine s_field (hr := ?_))
            refine s_call [] (hA := hd) (hr := ?_)
            repeat (first | refine wk ?_ | refine s_field (hr := ?_))
            refine s_call [] (hA := hcl) (hr := ?_)
            repeat (first | refine wk ?_ | refine s_field (hr := ?_))
            refine s_call [] (hA := h2) (hr := ?_)
            repeat (first | refine wk ?_ | refine s_field (hr := ?_))
            exact t_next (i + 1, s3) (a := ⟨j1, g3, by dsimp only; omega⟩) (b := by dsimp only; omega)
          · rw [if_pos (by decide)] at hc1
            rw [if_pos (by decide)] at hc2
            rw [hc1] at h1
            rw [hc2] at h2
            replace h1 : ACalls Try.prog 187 [.ptr 1000 0, I v, .d (ints false r)] (mkH nm tm at_ s1) (.tup []) (mkH nm tm at_ s2) := h1
            replace h2 : ACalls Try.prog 187 [.ptr 1000 0, I v, .d (.sl false 1 (r.map iD ++ [iD v]))] (mkH nm tm at_ s2) (.tup []) (mkH nm tm at_ s3) := h2
            repeat (first | refine wk ?_ | refine s_field (hr := ?_))
            refine s_call [] (hA := hd) (hr := ?_)
            repeat (first | refine wk ?_ | refine s_field (hr := ?_))
            refine s_call [] (hA := h1) (hr := ?_)
            repeat (first | refine wk ?_ | refine s_field (hr := ?_))
            refine s_call [] (hA := hcl) (hr := ?_)
            repeat (first | refine wk ?_ | refine s_field (hr := ?_))
            refine s_call [] (hA := h2) (hr := ?_)
            repeat (first | refine wk ?_ | refine s_field (hr := ?_))
            exact t_next (i + 1, s3) (a := ⟨j1, g3, by dsimp only; omega⟩) (b := by dsimp only; omega)
  | ok w =>
    show ACalls _ _ _ _ _ _
    refine ACalls.intro (n := 42) Try.func134 rfl rfl (by simp) (by rfl) ?_
    simp only [argFr]
    repeat (first | refine wk ?_ | refine s_field (hr := ?_))
    refine s_call [] (hA := hw) (hr := ?_)
    repeat (first | refine wk ?_ | refine s_field (hr := ?_))
    refine t_loop (X := Nat × XS) (fun y => xAll f v ag al (L.drop y.1) y.2 = .ok w ∧ y.2.Good ∧ y.1 ≤ L.length) (fun y => [(16, I y.1), (15, I L.length), (14, .d (.sl (waysT t x) 3 (L.map (exprD t)))), (4, B al), (3, B ag), (1, I v), (0, .ptr 1000 0)])
      (fun y => mkH nm tm at_ y.2) (fun y => L.length - y.1) (0, s0) ⟨hres, g0, Nat.zero_le _⟩ ?_
    rintro ⟨i, s⟩ ⟨j1, j2, j3⟩
    dsimp only at j1 j2 j3 ⊢
    by_cases hlt : i < L.length
    rotate_left
    · rw [List.drop_of_length_le (by omega)] at j1
      obtain rfl : s = w := by injection j1
      repeat (first | refine wk ?_ | refine s_field (hr := ?_))
      exact fin
    obtain ⟨hd, hg⟩ := hR L[i] (List.getElem_mem hlt) s j2
    rw [List.drop_eq_getElem_cons hlt, xAll] at j1
    cases hc : f L[i] s with
    | error z =>
      rw [hc] at j1 hd
      cases j1
    | ok p =>
      obtain ⟨r, s1⟩ := p
      obtain ⟨g1, hrl⟩ := hg r s1 hc
      rw [hc] at j1 hd
      dsimp only at j1
      replace hd : ACalls Try.prog 186 [.ptr 1000 0, .d (exprA t L[i])] (mkH nm tm at_ s) (.d (ints false r)) (mkH nm tm at_ s1) := hd
      have h1 := xrule_sim (nm := nm) (tm := tm) (at_ := at_) g1 (v := v) (r := r) (by omega)
      have hcl := clone_sim (t := false) (xs := r) (by omega)
      have hrl2 : (r.map iD ++ [iD v]).length = r.length + 1 := by simp
      cases hc1 : xOne v ag al r s1 with
      | error z =>
        rw [hc1] at j1
        cases j1
      | ok s2 =>
        rw [hc1] at j1
        dsimp only at j1
        have g2 := xOne_good g1 hc1
        have h2 := xrule_sim (nm := nm) (tm := tm) (at_ := at_) g2 (v := v) (r := r ++ [v]) (by simp; omega)
        rw [show ints false (r ++ [v]) = .sl false 1 (r.map iD ++ [iD v]) by simp [ints]] at h2
        cases hc2 : xTwo v ag r s2 with
        | error z =>
          rw [hc2] at j1
          cases j1
        | ok s3 =>
          rw [hc2] at j1
          dsimp only at j1
          have g3 := xTwo_good g2 hc2
          unfold xOne at hc1
          unfold xTwo at hc2
          rcases hca with ⟨ea, eb⟩ | ⟨ea, eb⟩ | ⟨ea, eb⟩ <;> subst ea eb
          · rw [if_pos (by decide)] at hc1
            rw [if_neg (by decide)] at hc2
            obtain rfl : s2 = s3 := by injection hc2
            rw [hc1] at h1
            replace h1 : ACalls Try.prog 187 [.ptr 1000 0, I v, .d (ints false r)] (mkH nm tm at_ s1) (.tup []) (mkH nm tm at_ s2) := h1
            repeat (first | refine wk ?_ | refine s_field (hr := ?_))
            refine s_call [] (hA := hd) (hr := ?_)
            repeat (first | refine wk ?_ | refine s_field (hr := ?_))
            refine s_call [] (hA := h1) (hr := ?_)
            repeat (first | refine wk ?_ | refine s_field (hr := ?_))
            exact t_next (i + 1, s2) (a := ⟨j1, g2, by dsimp only; omega⟩) (b := by dsimp only; omega)
          · rw [if_neg (by decide)] at hc1
            rw [if_pos (by decide)] at hc2
            obtain rfl : s1 = s2 := by injection hc1
            rw [hc2] at h2
            replace h2 : ACalls Try.prog 187 [.ptr 1000 0, I v, .d (.sl false 1 (r.map iD ++ [iD v]))] (mkH nm tm at_ s1) (.tup []) (mkH nm tm at_ s3) := h2
            repeat (first | refine wk ?_ | refine s_field (hr := ?_))
            refine s_call [] (hA := hd) (hr := ?_)
            repeat (first | refine wk ?_ | refine s_field (hr := ?_))
            refine s_call [] (hA := hcl) (hr := ?_)
            repeat (first | refine wk ?_ | refine s_field (hr := ?_))
            refine s_call [] (hA := h2) (hr := ?_)
            repeat (first | refine wk ?_ | refine s_field (hr := ?_))
            exact t_next (i + 1, s3) (a := ⟨j1, g3, by dsimp only; omega⟩) (b := by dsimp only; omega)
          · rw [if_pos (by decide)] at hc1
            rw [if_pos (by decide)] at hc2
            rw [hc1] at h1
            rw [hc2] at h2
            replace h1 : ACalls Try.prog 187 [.ptr 1000 0, I v, .d (ints false r)] (mkH nm tm at_ s1) (.tup []) (mkH nm tm at_ s2) := h1
            replace h2 : ACalls Try.prog 187 [.ptr 1000 0, I v, .d (.sl false 1 (r.map iD ++ [iD v]))] (mkH nm tm at_ s2) (.tup []) (mkH nm tm at_ s3) := h2
            repeat (first | refine wk ?_ | refine s_field (hr := ?_))
            refine s_call [] (hA := hd) (hr := ?_)
            repeat (first | refine wk ?_ | refine s_field (hr := ?_))
            refine s_call [] (hA := h1) (hr := ?_)
            repeat (first | refine wk ?_ | refine s_field (hr := ?_))
            refine s_call [] (hA := hcl) (hr := ?_)
            repeat (first | refine wk ?_ | refine s_field (hr := ?_))
            refine s_call [] (hA := h2) (hr := ?_)
            repeat (first | refine wk ?_ | refine s_field (hr := ?_))
            exact t_next (i + 1, s3) (a := ⟨j1, g3, by dsimp only; omega⟩) (b := by dsimp only; omega)
end
end Go.Proofs.Ytkfeccbahpmadaa
