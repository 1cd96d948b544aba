/-
  Sim: the reference's spread: rule, put. Sim: the reference's spread: put. Sim: the reference's spread: symbols.
-/
import Derived.Test.YtkfeccbahpmadaaExC
set_option linter.unusedVariables false
set_option linter.unusedSimpArgs false
set_option linter.unusedSectionVars false
namespace Go.Proofs.Ytkfeccbahpmadaa
open Go.RowKit
set_option maxRecDepth 100000
-- SimX

def YS.Good (s : YS) : Prop := 0 ≤ s.vars ∧ s.vars ≤ 64 ∧ s.rules.length ≤ 160
theorem yrule_good {s : YS} (g : s.Good) (v : Int) (r : List Int) : (s.rule v r).Good := by
  obtain ⟨g1, g2, g3⟩ := g
  unfold YS.rule
  split
  · exact ⟨g1, g2, g3⟩
  · exact ⟨g1, g2, by simp only [List.length_append, List.length_singleton]; omega⟩
theorem yOne_good {s : YS} (g : s.Good) (v : Int) (pl : Bool) (r : List Int) : (yOne v pl r s).Good := by
  unfold yOne
  split
  · exact yrule_good g v r
  · exact g
theorem yTwo_good {s : YS} (g : s.Good) (v : Int) (pl : Bool) (r : List Int) : (yTwo v pl r s).Good := by
  unfold yTwo
  split
  · exact yrule_good g v _
  · exact g
theorem yPut_good {f : YF} {v : Int} {pl ag : Bool} (hf : ∀ y s, s.Good → (f y s).2.Good) : ∀ (l : List Expr) (s : YS), s.Good → (yPut f v pl ag l s).Good
  | [], s, g => g
  | y :: l, s, g => by
    rw [yPut]
    split
    · exact g
    · exact yPut_good hf l _ (yTwo_good (yOne_good (hf y s g) _ _ _) _ _ _)
theorem yRow_good {f : YF} (hf : ∀ y s, s.Good → (f y s).2.Good) : ∀ (l : List Expr) (out : List Int) (s : YS), s.Good → (yRow f l out s).2.Good
  | [], _, s, g => g
  | y :: l, out, s, g => by rw [yRow]; exact yRow_good hf l _ _ (hf y s g)
theorem yRow_len {f : YF} (hf : ∀ y s, (f y s).1.length ≤ esz y) : ∀ (l : List Expr) (out : List Int) (s : YS), (yRow f l out s).1.length ≤ out.length + eszs l
  | [], out, s => by simp [yRow]
  | y :: l, out, s => by
    have h1 := hf y s
    have h2 := yRow_len hf l (out ++ (f y s).1) (f y s).2
    rw [List.length_append] at h2
    rw [yRow, eszs]; omega
section
variable (tm nm : List ByteArray)
theorem yR_len : ∀ (n : Nat) (y : Expr) (s : YS), (yR tm nm n y s).1.length ≤ esz y
  | 0, y, s => by simp [yR]
  | n + 1, y, s => by
    have hp := esz_pos y
    rw [yR]
    split
    · simp
    · split
      · simpa using hp
      · split
        · simpa using hp
        · split
          · have := yRow_len (yR_len n) y.l [] s
            simp only [List.length_nil] at this
            rw [esz_eq]; omega
          · split
            · simp
            · simpa using hp
theorem yR_good : ∀ (n : Nat) (y : Expr) (s : YS), s.Good → (yR tm nm n y s).2.Good
  | 0, y, s, g => g
  | n + 1, y, s, g => by
    rw [yR]
    split
    · exact g
    · split
      · exact g
      · split
        · exact g
        · split
          · exact yRow_good (yR_good n) _ _ _ g
          · split
            · exact g
            · rename_i h64
              obtain ⟨g1, g2, g3⟩ := g
              have g' : (YS.mk (s.vars + 1) s.rules s.bad).Good := ⟨by show 0 ≤ s.vars + 1; omega, by show s.vars + 1 ≤ 64; omega, g3⟩
              show (yIn _ _ _ _).Good
              unfold yIn
              split
              · exact yPut_good (yR_good n) _ _ g'
              · refine yPut_good (yR_good n) _ _ ?_
                unfold yNil
                split
                · exact yrule_good g' _ _
                · exact g'
end
abbrev yHr (nm tm : List ByteArray) (v : Int) (n : Nat) (R : List D) (b : Bool) : Hp := [(1000, .box 194 [.d (strs false nm), .d (strs false tm), I v, .own 1001 n, B b]), (1001, .row 41 2 R)]
abbrev yH (nm tm : List ByteArray) (s : YS) : Hp := yHr nm tm s.vars s.rules.length (s.rules.map (ruleD false)) s.bad
section
variable {nm tm : List ByteArray}
theorem yrule_sim {s : YS} (g : s.Good) {v : Int} {r : List Int} (hr : r.length ≤ 1000000) : ACalls Try.prog 189 [.ptr 1000 0, I v, .d (ints false r)] (yH nm tm s) (.tup []) (yH nm tm (s.rule v r)) := by
  obtain ⟨g1, g2, g3⟩ := g
  obtain ⟨vars, R, b⟩ := s
  dsimp only at g1 g2 g3
  refine ACalls.intro (n := 37) Try.func189 rfl rfl (by simp) (by rfl) ?_
  simp only [argFr]
  unfold YS.rule
  by_cases h1 : 160 ≤ R.length
  · rw [if_pos (.inr (.inl h1))]
    repeat (first | refine wk ?_ | refine s_field (hr := ?_))
    exact fin
  by_cases h2 : 10 < r.length
  · rw [if_pos (.inr (.inr h2))]
    repeat (first | refine wk ?_ | refine s_field (hr := ?_))
    exact fin
  cases b with
  | true =>
    rw [if_pos (.inl rfl)]
    repeat (first | refine wk ?_ | refine s_field (hr := ?_))
    exact fin
  | false =>
    rw [if_neg (by dsimp only; simp only [Bool.false_eq_true, false_or]; omega)]
    have e : yH nm tm ⟨vars, R ++ [⟨v, r⟩], false⟩ = yHr nm tm vars (R.map (ruleD false) ++ [D.agg [iD v, ints false r]]).length (R.map (ruleD false) ++ [.agg [iD v, ints false r]]) false := by simp [yH, ruleD]
    dsimp only
    rw [e]
    repeat (first | refine wk ?_ | refine s_field (hr := ?_))
    exact fin
/-- What is known of the symbols of an expression. -/
def SymOk (nm tm : List ByteArray) (t : Bool) (f : YF) (y : Expr) : Prop :=
  ∀ s : YS, s.Good → ACalls Try.prog 188 [.ptr 1000 0, .d (exprA t y)] (yH nm tm s) (.d (ints false (f y s).1)) (yH nm tm (f y s).2) ∧ (f y s).2.Good ∧ (f y s).1.length ≤ 500000
end
end Go.Proofs.Ytkfeccbahpmadaa
namespace Go.Proofs.Ytkfeccbahpmadaa
open Go.RowKit
set_option maxRecDepth 100000
-- SimX

section
variable {nm tm : List ByteArray}
set_option maxHeartbeats 8000000 in
theorem put_of {t : Bool} {f : YF} {x : Expr} {v : Int} {pl ag : Bool} (hR : ∀ y ∈ waysE x, SymOk nm tm t f y) (hl : x.l.length ≤ 1000000) {s0 : YS} (g0 : s0.Good) :
    ACalls Try.prog 135 [.ptr 1000 0, I v, .d (exprA t x), B pl, B ag] (yH nm tm s0) (.tup []) (yH nm tm (yPut f v pl ag (waysE x) s0)) := by
  have key : ∃ L u, waysE x = L ∧ waysD t x = .sl u 3 (L.map (exprD t)) ∧ L.length ≤ 1000000 := ⟨waysE x, waysT t x, rfl, rfl, by unfold waysE; split; omega; simp⟩
  obtain ⟨L, u, hL, hD, hLl⟩ := key
  have hres : ∃ w, yPut f v pl ag L s0 = w := ⟨_, rfl⟩
  obtain ⟨w, hres⟩ := hres
  refine ACalls.intro (n := 55) Try.func135 rfl rfl (by simp) (by rfl) ?_
  simp only [argFr]
  by_cases h4 : x.op = 4
  · have e1 : L = x.l := by rw [← hL]; unfold waysE; rw [if_pos h4]
    have e2 : exprsD t x.l = D.sl u 3 (L.map (exprD t)) := by rw [← hD, waysD, hL, e1]; unfold waysT; rw [if_pos h4]
    rw [hL] at hR ⊢
    rw [hres]
    repeat (first | refine wk ?_ | refine s_field (hr := ?_))
    refine aw_re 10 (v := .d (D.sl u 3 (L.map (exprD t)))) (by rw [← e2]; exact Co.refl _) rfl ?_
    clear e2 e1 hD
    refine t_loop (X := Nat × YS) (fun y => yPut f v pl ag (L.drop y.1) y.2 = w ∧ y.2.Good ∧ y.1 ≤ L.length) (fun y => [(11, I y.1), (10, .d (.sl u 3 (L.map (exprD t)))), (4, B ag), (3, B pl), (1, I v), (0, .ptr 1000 0)])
      (fun y => yH nm tm y.2) (fun y => L.length - y.1) (0, s0) ⟨hres, g0, Nat.zero_le _⟩ ?_
    rintro ⟨i, s⟩ ⟨j1, j2, j3⟩
    dsimp only at j1 j2 j3 ⊢
    by_cases hlt : i < L.length
    rotate_left
    · rw [List.drop_of_length_le (by omega)] at j1
      obtain rfl : s = w := j1
      (repeat (first | refine wkz ?_ | refine s_field (hr := ?_)))
      exact fin
    rw [List.drop_eq_getElem_cons hlt, yPut] at j1
    by_cases hb : s.bad = true
    · rw [if_pos hb] at j1
      subst j1
      (repeat (first | refine wkz ?_ | refine s_field (hr := ?_)))
      exact fin
    rw [if_neg hb] at j1
    have hbf : s.bad = false := by simpa using hb
    obtain ⟨hd, g1, hrl⟩ := hR L[i] (List.getElem_mem hlt) s j2
    generalize f L[i] s = p at *
    obtain ⟨r, s1⟩ := p
    dsimp only at j1 hd g1 hrl
    have hrl2 : (r.map iD ++ [iD v]).length = r.length + 1 := by simp
    have er : r.map iD ++ [iD v] = (r ++ [v]).map iD := by simp
    have h1 := yrule_sim (nm := nm) (tm := tm) g1 (v := v) (r := r) (by omega)
    have g2 := yrule_good g1 v r
    cases pl
    · cases ag
      · rw [show yTwo v false r (yOne v false r s1) = s1 from rfl] at j1
        (repeat (first | refine wkz ?_ | refine s_field (hr := ?_)))
        refine s_call [] (hA := hd) (hr := ?_)
        (repeat (first | refine wkz ?_ | refine s_field (hr := ?_)))
        exact t_next (i + 1, s1) (a := ⟨j1, g1, by dsimp only; omega⟩) (b := by dsimp only; omega)
      · rw [show yTwo v true r (yOne v false r s1) = s1.rule v (r ++ [v]) from rfl] at j1
        have h2 := yrule_sim (nm := nm) (tm := tm) g1 (v := v) (r := r ++ [v]) (by simp; omega)
        have g3 := yrule_good g1 v (r ++ [v])
        rw [show ints false (r ++ [v]) = .sl false 1 (r.map iD ++ [iD v]) by simp [ints]] at h2
        generalize s1.rule v (r ++ [v]) = s2 at *
        (repeat (first | refine wkz ?_ | refine s_field (hr := ?_)))
        refine s_call [] (hA := hd) (hr := ?_)
        repeat (first | refine aw_nil 13 901 3 1 rfl rfl rfl ?_ | refine wk1 ?_ | refine s_field (hr := ?_))
        refine s_call [] (hA := h2) (hr := ?_)
        (repeat (first | refine wkz ?_ | refine s_field (hr := ?_)))
        exact t_next (i + 1, s2) (a := ⟨j1, g3, by dsimp only; omega⟩) (b := by dsimp only; omega)
    · cases ag
      · rw [show yTwo v false r (yOne v true r s1) = s1.rule v r from rfl] at j1
        generalize s1.rule v r = s2 at *
        (repeat (first | refine wkz ?_ | refine s_field (hr := ?_)))
        refine s_call [] (hA := hd) (hr := ?_)
        (repeat (first | refine wkz ?_ | refine s_field (hr := ?_)))
        refine s_call [] (hA := h1) (hr := ?_)
        (repeat (first | refine wkz ?_ | refine s_field (hr := ?_)))
        exact t_next (i + 1, s2) (a := ⟨j1, g2, by dsimp only; omega⟩) (b := by dsimp only; omega)
      · rw [show yTwo v true r (yOne v true r s1) = (s1.rule v r).rule v (r ++ [v]) from rfl] at j1
        generalize s1.rule v r = s2 at *
        have h2 := yrule_sim (nm := nm) (tm := tm) g2 (v := v) (r := r ++ [v]) (by simp; omega)
        have g3 := yrule_good g2 v (r ++ [v])
        rw [show ints false (r ++ [v]) = .sl false 1 (r.map iD ++ [iD v]) by simp [ints]] at h2
        generalize s2.rule v (r ++ [v]) = s3 at *
        (repeat (first | refine wkz ?_ | refine s_field (hr := ?_)))
        refine s_call [] (hA := hd) (hr := ?_)
        (repeat (first | refine wkz ?_ | refine s_field (hr := ?_)))
        refine s_call [] (hA := h1) (hr := ?_)
        repeat (first | refine aw_nil 13 901 3 1 rfl rfl rfl ?_ | refine wk1 ?_ | refine s_field (hr := ?_))
        refine s_call [] (hA := h2) (hr := ?_)
        (repeat (first | refine wkz ?_ | refine s_field (hr := ?_)))
        exact t_next (i + 1, s3) (a := ⟨j1, g3, by dsimp only; omega⟩) (b := by dsimp only; omega)
  · have e1 : L = [x] := by rw [← hL]; unfold waysE; rw [if_neg h4]
    have e2 : D.sl false 3 [exprA t x] = D.sl u 3 (L.map (exprD t)) := by rw [← hD, waysD, hL, e1]; unfold waysT; rw [if_neg h4, List.map_cons, List.map_nil, exprA_eq]
    rw [hL] at hR ⊢
    rw [hres]
    repeat (first | refine aw_froz 15 rfl ?_ | refine wk1 ?_)
    refine aw_re 10 (v := .d (D.sl u 3 (L.map (exprD t)))) (by rw [← e2]; exact Co.froz rfl rfl) rfl ?_
    clear e2 e1 hD
    refine t_loop (X := Nat × YS) (fun y => yPut f v pl ag (L.drop y.1) y.2 = w ∧ y.2.Good ∧ y.1 ≤ L.length) (fun y => [(11, I y.1), (10, .d (.sl u 3 (L.map (exprD t)))), (4, B ag), (3, B pl), (1, I v), (0, .ptr 1000 0)])
      (fun y => yH nm tm y.2) (fun y => L.length - y.1) (0, s0) ⟨hres, g0, Nat.zero_le _⟩ ?_
    rintro ⟨i, s⟩ ⟨j1, j2, j3⟩
    dsimp only at j1 j2 j3 ⊢
    by_cases hlt : i < L.length
    rotate_left
    · rw [List.drop_of_length_le (by omega)] at j1
      obtain rfl : s = w := j1
      (repeat (first | refine wkz ?_ | refine s_field (hr := ?_)))
      exact fin
    rw [List.drop_eq_getElem_cons hlt, yPut] at j1
    by_cases hb : s.bad = true
    · rw [if_pos hb] at j1
      subst j1
      (repeat (first | refine wkz ?_ | refine s_field (hr := ?_)))
      exact fin
    rw [if_neg hb] at j1
    have hbf : s.bad = false := by simpa using hb
    obtain ⟨hd, g1, hrl⟩ := hR L[i] (List.getElem_mem hlt) s j2
    generalize f L[i] s = p at *
    obtain ⟨r, s1⟩ := p
    dsimp only at j1 hd g1 hrl
    have hrl2 : (r.map iD ++ [iD v]).length = r.length + 1 := by simp
    have er : r.map iD ++ [iD v] = (r ++ [v]).map iD := by simp
    have h1 := yrule_sim (nm := nm) (tm := tm) g1 (v := v) (r := r) (by omega)
    have g2 := yrule_good g1 v r
    cases pl
    · cases ag
      · rw [show yTwo v false r (yOne v false r s1) = s1 from rfl] at j1
        (repeat (first | refine wkz ?_ | refine s_field (hr := ?_)))
        refine s_call [] (hA := hd) (hr := ?_)
        (repeat (first | refine wkz ?_ | refine s_field (hr := ?_)))
        exact t_next (i + 1, s1) (a := ⟨j1, g1, by dsimp only; omega⟩) (b := by dsimp only; omega)
      · rw [show yTwo v true r (yOne v false r s1) = s1.rule v (r ++ [v]) from rfl] at j1
        have h2 := yrule_sim (nm := nm) (tm := tm) g1 (v := v) (r := r ++ [v]) (by simp; omega)
        have g3 := yrule_good g1 v (r ++ [v])
        rw [show ints false (r ++ [v]) = .sl false 1 (r.map iD ++ [iD v]) by simp [ints]] at h2
        generalize s1.rule v (r ++ [v]) = s2 at *
        (repeat (first | refine wkz ?_ | refine s_field (hr := ?_)))
        refine s_call [] (hA := hd) (hr := ?_)
        repeat (first | refine aw_nil 13 901 3 1 rfl rfl rfl ?_ | refine wk1 ?_ | refine s_field (hr := ?_))
        refine s_call [] (hA := h2) (hr := ?_)
        (repeat (first | refine wkz ?_ | refine s_field (hr := ?_)))
        exact t_next (i + 1, s2) (a := ⟨j1, g3, by dsimp only; omega⟩) (b := by dsimp only; omega)
    · cases ag
      · rw [show yTwo v false r (yOne v true r s1) = s1.rule v r from rfl] at j1
        generalize s1.rule v r = s2 at *
        (repeat (first | refine wkz ?_ | refine s_field (hr := ?_)))
        refine s_call [] (hA := hd) (hr := ?_)
        (repeat (first | refine wkz ?_ | refine s_field (hr := ?_)))
        refine s_call [] (hA := h1) (hr := ?_)
        (repeat (first | refine wkz ?_ | refine s_field (hr := ?_)))
        exact t_next (i + 1, s2) (a := ⟨j1, g2, by dsimp only; omega⟩) (b := by dsimp only; omega)
      · rw [show yTwo v true r (yOne v true r s1) = (s1.rule v r).rule v (r ++ [v]) from rfl] at j1
        generalize s1.rule v r = s2 at *
        have h2 := yrule_sim (nm := nm) (tm := tm) g2 (v := v) (r := r ++ [v]) (by simp; omega)
        have g3 := yrule_good g2 v (r ++ [v])
        rw [show ints false (r ++ [v]) = .sl false 1 (r.map iD ++ [iD v]) by simp [ints]] at h2
        generalize s2.rule v (r ++ [v]) = s3 at *
        (repeat (first | refine wkz ?_ | refine s_field (hr := ?_)))
        refine s_call [] (hA := hd) (hr := ?_)
        (repeat (first | refine wkz ?_ | refine s_field (hr := ?_)))
        refine s_call [] (hA := h1) (hr := ?_)
        repeat (first | refine aw_nil 13 901 3 1 rfl rfl rfl ?_ | refine wk1 ?_ | refine s_field (hr := ?_))
        refine s_call [] (hA := h2) (hr := ?_)
        (repeat (first | refine wkz ?_ | refine s_field (hr := ?_)))
        exact t_next (i + 1, s3) (a := ⟨j1, g3, by dsimp only; omega⟩) (b := by dsimp only; omega)
end
end Go.Proofs.Ytkfeccbahpmadaa
namespace Go.Proofs.Ytkfeccbahpmadaa
open Go.RowKit
set_option maxRecDepth 100000
-- SimX

section
variable {nm tm : List ByteArray} {t : Bool} {n : Nat} {x : Expr} {s : YS}
set_option maxHeartbeats 8000000 in
theorem sym_bad (hb : s.bad = true) : ACalls Try.prog 188 [.ptr 1000 0, .d (exprA t x)] (yH nm tm s) (.d (ints false [])) (yH nm tm s) := by
  refine ACalls.intro (n := 103) Try.func188 rfl rfl (by simp) (by rfl) ?_
  simp only [argFr]
  repeat (first | refine wk ?_ | refine s_field (hr := ?_))
  exact fin
set_option maxHeartbeats 8000000 in
theorem sym_1 (hb : ¬ s.bad = true) (h1 : x.op = 1) (htm : tm.length ≤ 1000000) : ACalls Try.prog 188 [.ptr 1000 0, .d (exprA t x)] (yH nm tm s) (.d (ints false [-1 - plc tm x.name])) (yH nm tm s) := by
  have hbf : s.bad = false := by simpa using hb
  have hi := placeOf_sim (t := false) (l := tm) (s := x.name) (by omega)
  obtain ⟨p1, p2⟩ := plc_in tm x.name
  generalize plc tm x.name = p at *
  refine ACalls.intro (n := 103) Try.func188 rfl rfl (by simp) (by rfl) ?_
  simp only [argFr]
  repeat (first | refine wk ?_ | refine s_field (hr := ?_))
  refine s_call [] (hA := hi) (hr := ?_)
  repeat (first | refine aw_froz 24 rfl ?_ | refine wk1 ?_ | refine s_field (hr := ?_))
  exact fin
set_option maxHeartbeats 8000000 in
theorem sym_2 (hb : ¬ s.bad = true) (h2 : x.op = 2) (hnm : nm.length ≤ 1000000) : ACalls Try.prog 188 [.ptr 1000 0, .d (exprA t x)] (yH nm tm s) (.d (ints false [plc nm x.name])) (yH nm tm s) := by
  have hbf : s.bad = false := by simpa using hb
  have h1 : ¬ x.op = 1 := by omega
  have hi := placeOf_sim (t := false) (l := nm) (s := x.name) (by omega)
  obtain ⟨p1, p2⟩ := plc_in nm x.name
  generalize plc nm x.name = p at *
  refine ACalls.intro (n := 103) Try.func188 rfl rfl (by simp) (by rfl) ?_
  simp only [argFr]
  repeat (first | refine wk ?_ | refine s_field (hr := ?_))
  refine s_call [] (hA := hi) (hr := ?_)
  repeat (first | refine aw_froz 34 rfl ?_ | refine wk1 ?_ | refine s_field (hr := ?_))
  exact fin
set_option maxHeartbeats 8000000 in
theorem sym_3 (hb : ¬ s.bad = true) (h3 : x.op = 3) (hl : ∀ y ∈ x.l, SymOk nm tm t (yR tm nm n) y) (hes : eszs x.l ≤ 500000) (hg : s.Good) :
    ACalls Try.prog 188 [.ptr 1000 0, .d (exprA t x)] (yH nm tm s) (.d (ints false (yRow (yR tm nm n) x.l [] s).1)) (yH nm tm (yRow (yR tm nm n) x.l [] s).2) := by
  have hbf : s.bad = false := by simpa using hb
  have h1 : ¬ x.op = 1 := by omega
  have h2 : ¬ x.op = 2 := by omega
  have hlen := yR_len tm nm n
  have hxl : x.l.length ≤ 500000 := by have := eszs_len x.l; omega
  obtain ⟨r, w, hres⟩ : ∃ r w, yRow (yR tm nm n) x.l [] s = (r, w) := ⟨_, _, rfl⟩
  rw [hres]
  generalize yR tm nm n = f at *
  refine ACalls.intro (n := 103) Try.func188 rfl rfl (by simp) (by rfl) ?_
  simp only [argFr]
  repeat (first | refine wk ?_ | refine s_field (hr := ?_))
  refine aw_nil 5 900 3 1 rfl rfl rfl ?_
  refine t_loop (X := Nat × List Int × YS) (fun y => yRow f (x.l.drop y.1) y.2.1 y.2.2 = (r, w) ∧ y.2.2.Good ∧ y.1 ≤ x.l.length ∧ y.2.1.length + eszs (x.l.drop y.1) ≤ eszs x.l) (fun y => [(6, I y.1), (3, .ptr 3 0), (5, .own 900 y.2.1.length), (0, .ptr 1000 0)])
    (fun y => (900, .row 3 1 (y.2.1.map iD)) :: (3, .box 85 [.d (iD x.op), .d (sD x.name), .d (exprsD t x.l)]) :: yH nm tm y.2.2) (fun y => x.l.length - y.1) (0, [], s) ⟨hres, hg, Nat.zero_le _, by simp⟩ ?_
  rintro ⟨i, out, s⟩ ⟨j1, j2, j3, j4⟩
  dsimp only at j1 j2 j3 j4 ⊢
  by_cases hlt : i < x.l.length
  rotate_left
  · rw [List.drop_of_length_le (by omega)] at j1
    obtain ⟨rfl, rfl⟩ : out = r ∧ s = w := by cases j1; exact ⟨rfl, rfl⟩
    refine aw_froz 900 rfl ?_
    repeat (first | refine wk ?_ | refine s_field (hr := ?_))
    exact fin
  obtain ⟨hd, g1, _⟩ := hl x.l[i] (List.getElem_mem hlt) s j2
  rw [List.drop_eq_getElem_cons hlt, yRow] at j1
  have ed := eszs_drop hlt
  have hrl := hlen x.l[i] s
  generalize f x.l[i] s = p at *
  obtain ⟨r1, s1⟩ := p
  dsimp only at j1 hd g1 hrl
  have e : out.map iD ++ r1.map iD = (out ++ r1).map iD := by rw [List.map_append]
  have e2 : (out ++ r1).length = out.length + r1.length := List.length_append
  repeat (first | refine wk ?_ | refine s_field (hr := ?_))
  refine s_call [] (hA := hd) (hr := ?_)
  repeat (first | refine wk ?_ | refine s_field (hr := ?_))
  rw [e, List.length_map]
  exact t_next (i + 1, out ++ r1, s1) (a := ⟨j1, g1, by dsimp only; omega, by dsimp only; omega⟩) (b := by dsimp only; omega)
set_option maxHeartbeats 8000000 in
theorem sym_64 (hb : ¬ s.bad = true) (h1 : ¬ x.op = 1) (h2 : ¬ x.op = 2) (h3 : ¬ x.op = 3) (h64 : 64 ≤ s.vars) : ACalls Try.prog 188 [.ptr 1000 0, .d (exprA t x)] (yH nm tm s) (.d (ints false [])) (yH nm tm ⟨s.vars, s.rules, true⟩) := by
  have hbf : s.bad = false := by simpa using hb
  refine ACalls.intro (n := 103) Try.func188 rfl rfl (by simp) (by rfl) ?_
  simp only [argFr]
  repeat (first | refine wk ?_ | refine s_field (hr := ?_))
  exact fin
set_option maxHeartbeats 8000000 in
theorem sym_4 (hb : ¬ s.bad = true) (h4 : x.op = 4) (h64 : ¬ 64 ≤ s.vars) (h0 : 0 ≤ s.vars) {w : YS}
    (hp : ACalls Try.prog 135 [.ptr 1000 0, I s.vars, .d (exprA t x), B true, B false] (yH nm tm ⟨s.vars + 1, s.rules, s.bad⟩) (.tup []) (yH nm tm w)) :
    ACalls Try.prog 188 [.ptr 1000 0, .d (exprA t x)] (yH nm tm s) (.d (ints false [s.vars])) (yH nm tm w) := by
  have hbf : s.bad = false := by simpa using hb
  have h1 : ¬ x.op = 1 := by omega
  have h2 : ¬ x.op = 2 := by omega
  have h3 : ¬ x.op = 3 := by omega
  obtain ⟨v, R, b⟩ := s
  dsimp only at *
  subst hbf
  refine ACalls.intro (n := 103) Try.func188 rfl rfl (by simp) (by rfl) ?_
  simp only [argFr]
  repeat (first | refine wk ?_ | refine s_field (hr := ?_))
  refine s_call [] (hA := hp) (hr := ?_)
  repeat (first | refine aw_froz 81 rfl ?_ | refine wk1 ?_ | refine s_field (hr := ?_))
  exact fin
set_option maxHeartbeats 8000000 in
theorem sym_5 (hb : ¬ s.bad = true) (ho : 5 ≤ x.op ∧ x.op ≤ 7) (hl1 : x.l.length = 1) (hlt : 0 < x.l.length) (hg : s.Good) (h64 : ¬ 64 ≤ s.vars) {w : YS}
    (hp : ACalls Try.prog 135 [.ptr 1000 0, I s.vars, .d (exprA t x.l[0]), B !decide (x.op = 6), B !decide (x.op = 5)] (yH nm tm (yNil x.op s.vars ⟨s.vars + 1, s.rules, s.bad⟩)) (.tup []) (yH nm tm w)) :
    ACalls Try.prog 188 [.ptr 1000 0, .d (exprA t x)] (yH nm tm s) (.d (ints false [s.vars])) (yH nm tm w) := by
  have hbf : s.bad = false := by simpa using hb
  have h1 : ¬ x.op = 1 := by omega
  have h2 : ¬ x.op = 2 := by omega
  have h3 : ¬ x.op = 3 := by omega
  have h4 : ¬ x.op = 4 := by omega
  obtain ⟨g1, g2, g3⟩ := hg
  obtain ⟨v, R, b⟩ := s
  dsimp only at *
  subst hbf
  have gf : (YS.mk (v + 1) R false).Good := ⟨by show 0 ≤ v + 1; omega, by show v + 1 ≤ 64; omega, g3⟩
  have hru := (yrule_sim (nm := nm) (tm := tm) gf (v := v) (r := []) (by simp)).le (args := [.ptr 1000 0, I v, .d (.raw (.slice none 0 0))]) ⟨.refl _, .refl _, .nil _ _, trivial⟩
  unfold yNil at hp
  by_cases h7 : x.op = 7
  · rw [if_neg (by omega)] at hp
    refine ACalls.intro (n := 103) Try.func188 rfl rfl (by simp) (by rfl) ?_
    simp only [argFr]
    repeat (first | refine wk ?_ | refine s_field (hr := ?_))
    refine s_call [] (hA := hp) (hr := ?_)
    repeat (first | refine aw_froz 102 rfl ?_ | refine wk1 ?_ | refine s_field (hr := ?_))
    exact fin
  · rw [if_pos h7] at hp
    have g' := yrule_good gf v []
    generalize (YS.mk (v + 1) R false).rule v [] = s2 at *
    refine ACalls.intro (n := 103) Try.func188 rfl rfl (by simp) (by rfl) ?_
    simp only [argFr]
    repeat (first | refine wk ?_ | refine s_field (hr := ?_))
    refine s_call [] (hA := hru) (hr := ?_)
    repeat (first | refine wk ?_ | refine s_field (hr := ?_))
    refine s_call [] (hA := hp) (hr := ?_)
    repeat (first | refine aw_froz 102 rfl ?_ | refine wk1 ?_ | refine s_field (hr := ?_))
    exact fin
end
end Go.Proofs.Ytkfeccbahpmadaa
