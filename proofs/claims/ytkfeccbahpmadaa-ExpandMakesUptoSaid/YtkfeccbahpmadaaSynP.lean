/-
  The parser of texts, plain: it gives up by a fault.
-/
import Derived.Test.YtkfeccbahpmadaaExprD
set_option linter.unusedVariables false
set_option linter.unusedSimpArgs false
set_option linter.unusedSectionVars false
namespace Go.Proofs.Ytkfeccbahpmadaa
open Go.RowKit

structure PS where
  l : List Tk
  opn : Int
  parts : Int
/-- The fault of giving up here. -/
def PS.gone (fin : Int) (code : Int) (s : PS) : Fault := match s.l with
  | [] => ⟨if code = 3 then 4 else code, fin⟩
  | t :: _ => ⟨code, t.at_⟩
def sgn (b : UInt8) : ByteArray := ⟨#[b]⟩
def PS.sign (s : PS) (x : ByteArray) : Bool := match s.l with
  | [] => false
  | t :: _ => decide (t.kind = 3) && decide (t.text = x)
def PS.next (s : PS) : PS := ⟨s.l.tail, s.opn, s.parts⟩
def PS.want (fin : Int) (s : PS) (x : ByteArray) : Except Fault PS := if s.sign x = true then .ok s.next else .error (s.gone fin 3)
def PS.part (fin : Int) (s : PS) : Except Fault PS := if s.parts = 60 then .error (s.gone fin 6) else .ok ⟨s.l, s.opn, s.parts + 1⟩
/-- What a bracket makes, and its end. -/
def PS.bracket (s : PS) : Option (Int × ByteArray) :=
  if s.sign (sgn 40) = true then some (0, sgn 41) else if s.sign (sgn 91) = true then some (5, sgn 93) else if s.sign (sgn 123) = true then some (6, sgn 125) else if s.sign (sgn 60) = true then some (7, sgn 62) else none
/-- One alone is itself. -/
def one (op : Int) : List Expr → Expr
  | [x] => x
  | l => .mk op ⟨#[]⟩ l
def wrapE (op : Int) (x : Expr) : Expr := if op = 0 then x else .mk op ⟨#[]⟩ [x]
mutual
def pItem (fin : Int) : Nat → PS → Except Fault (Option Expr × PS)
  | 0, _ => .error ⟨0, 0⟩
  | n + 1, s => match s.l with
    | [] => .ok (none, s)
    | t :: _ => if t.kind = 1 ∨ t.kind = 2 then
        match s.part fin with
        | .error f => .error f
        | .ok s1 => .ok (some (.mk (if t.kind = 2 then 1 else 2) t.text []), s1.next)
      else match s.bracket with
        | none => .ok (none, s)
        | some (op, e) => match pGroup fin n s op e with
          | .error f => .error f
          | .ok (x, s') => .ok (some x, s')
def pGroup (fin : Int) : Nat → PS → Int → ByteArray → Except Fault (Expr × PS)
  | 0, _, _, _ => .error ⟨0, 0⟩
  | n + 1, s, op, e => if s.opn = 40 then .error (s.gone fin 5) else
      match s.part fin with
      | .error f => .error f
      | .ok s1 => match pAlt fin n (PS.next ⟨s1.l, s1.opn + 1, s1.parts⟩) with
        | .error f => .error f
        | .ok (x, s2) => match s2.want fin e with
          | .error f => .error f
          | .ok s3 => .ok (wrapE op x, ⟨s3.l, s3.opn - 1, s3.parts⟩)
def pItems (fin : Int) : Nat → PS → List Expr → Except Fault (List Expr × PS)
  | 0, _, _ => .error ⟨0, 0⟩
  | n + 1, s, acc => match pItem fin n s with
    | .error f => .error f
    | .ok (none, s') => .ok (acc, s')
    | .ok (some x, s') => pItems fin n s' (acc ++ [x])
def pRow (fin : Int) : Nat → PS → Except Fault (Expr × PS)
  | 0, _ => .error ⟨0, 0⟩
  | n + 1, s => match pItems fin n s [] with
    | .error f => .error f
    | .ok (l, s') => .ok (one 3 l, s')
def pAlts (fin : Int) : Nat → PS → List Expr → Except Fault (List Expr × PS)
  | 0, _, _ => .error ⟨0, 0⟩
  | n + 1, s, acc => if s.sign (sgn 124) = true then
      match s.part fin with
      | .error f => .error f
      | .ok s1 => match pRow fin n s1.next with
        | .error f => .error f
        | .ok (x, s2) => pAlts fin n s2 (acc ++ [x])
    else .ok (acc, s)
def pAlt (fin : Int) : Nat → PS → Except Fault (Expr × PS)
  | 0, _ => .error ⟨0, 0⟩
  | n + 1, s => match pRow fin n s with
    | .error f => .error f
    | .ok (x, s1) => match pAlts fin n s1 [x] with
      | .error f => .error f
      | .ok (l, s2) => .ok (one 4 l, s2)
end
/-! ### What stays -/
def PS.Good (s : PS) : Prop := 0 ≤ s.opn ∧ s.opn ≤ 40 ∧ 0 ≤ s.parts ∧ s.parts ≤ 60
def PS.To (s s' : PS) (k : Nat) : Prop := s'.Good ∧ s'.opn = s.opn ∧ s'.l.length + k ≤ s.l.length
theorem PS.part_ok {fin : Int} {s s' : PS} (h : s.part fin = .ok s') (g : s.Good) : s'.Good ∧ s'.opn = s.opn ∧ s'.l = s.l := by
  unfold PS.part at h
  split at h
  · cases h
  · cases h
    rename_i hp
    obtain ⟨a, b, c, d⟩ := g
    exact ⟨⟨a, b, by show 0 ≤ s.parts + 1; omega, by show s.parts + 1 ≤ 60; omega⟩, rfl, rfl⟩
theorem PS.sign_cons {s : PS} {x : ByteArray} (h : s.sign x = true) : ∃ t r, s.l = t :: r ∧ t.kind = 3 ∧ t.text = x := by
  unfold PS.sign at h
  split at h
  · cases h
  · rename_i t r e
    simp only [Bool.and_eq_true, decide_eq_true_eq] at h
    exact ⟨t, r, e, h.1, h.2⟩
theorem PS.want_ok {fin : Int} {s s' : PS} {x : ByteArray} (h : s.want fin x = .ok s') (g : s.Good) : s.To s' 1 := by
  unfold PS.want at h
  split at h
  · rename_i hs
    cases h
    obtain ⟨t, r, e, _⟩ := PS.sign_cons hs
    exact ⟨g, rfl, by simp [PS.next, e]⟩
  · cases h
theorem PS.bracket_cons {s : PS} {op : Int} {e : ByteArray} (h : s.bracket = some (op, e)) : 0 < s.l.length := by
  have key : ∀ {x : ByteArray}, s.sign x = true → 0 < s.l.length := fun hx => by obtain ⟨t, r, e, _⟩ := PS.sign_cons hx; simp [e]
  unfold PS.bracket at h
  by_cases h1 : s.sign (sgn 40) = true
  · exact key h1
  by_cases h2 : s.sign (sgn 91) = true
  · exact key h2
  by_cases h3 : s.sign (sgn 123) = true
  · exact key h3
  by_cases h4 : s.sign (sgn 60) = true
  · exact key h4
  rw [if_neg h1, if_neg h2, if_neg h3, if_neg h4] at h; cases h
def Inv (fin : Int) (n : Nat) : Prop :=
  (∀ s x s', s.Good → pItem fin n s = .ok (some x, s') → s.To s' 1) ∧ (∀ s s', s.Good → pItem fin n s = .ok (none, s') → s' = s) ∧
  (∀ s op e x s', s.Good → 0 < s.l.length → pGroup fin n s op e = .ok (x, s') → s.To s' 1) ∧
  (∀ s acc l s', s.Good → pItems fin n s acc = .ok (l, s') → s.To s' 0) ∧ (∀ s x s', s.Good → pRow fin n s = .ok (x, s') → s.To s' 0) ∧
  (∀ s acc l s', s.Good → pAlts fin n s acc = .ok (l, s') → s.To s' 0) ∧ (∀ s x s', s.Good → pAlt fin n s = .ok (x, s') → s.To s' 0)
theorem To.trans {a b c : PS} {i j : Nat} (h1 : a.To b i) (h2 : b.To c j) : a.To c (i + j) := ⟨h2.1, h2.2.1.trans h1.2.1, by have := h1.2.2; have := h2.2.2; omega⟩
theorem To.weak {a b : PS} {i j : Nat} (h1 : a.To b i) (h : j ≤ i) : a.To b j := ⟨h1.1, h1.2.1, by have := h1.2.2; omega⟩
theorem inv_all (fin : Int) : ∀ n, Inv fin n
  | 0 => ⟨fun _ _ _ _ h => by simp [pItem] at h, fun _ _ _ h => by simp [pItem] at h, fun _ _ _ _ _ _ _ h => by simp [pGroup] at h, fun _ _ _ _ _ h => by simp [pItems] at h, fun _ _ _ _ h => by simp [pRow] at h, fun _ _ _ _ _ h => by simp [pAlts] at h, fun _ _ _ _ h => by simp [pAlt] at h⟩
  | n + 1 => by
    obtain ⟨i1, i2, i3, i4, i5, i6, i7⟩ := inv_all fin n
    refine ⟨fun s x s' g h => ?_, fun s s' g h => ?_, fun s op e x s' g hl h => ?_, fun s acc l s' g h => ?_, fun s x s' g h => ?_, fun s acc l s' g h => ?_, fun s x s' g h => ?_⟩
    · rw [pItem] at h
      split at h
      · cases h
      · rename_i t r e
        split at h
        · split at h
          · cases h
          · rename_i s1 hp
            cases h
            obtain ⟨a, b, c⟩ := PS.part_ok hp g
            exact ⟨a, b, by simp [PS.next, c, e]⟩
        · split at h
          · cases h
          · rename_i op en hb
            split at h
            · cases h
            · rename_i y s2 hg
              cases h
              exact i3 _ _ _ _ _ g (PS.bracket_cons hb) hg
    · rw [pItem] at h
      split at h
      · cases h; rfl
      · split at h
        · split at h <;> cases h
        · split at h
          · cases h; rfl
          · split at h <;> cases h
    · rw [pGroup] at h
      split at h
      · cases h
      · rename_i h40
        split at h
        · cases h
        · rename_i s1 hp
          obtain ⟨a, b, c⟩ := PS.part_ok hp g
          split at h
          · cases h
          · rename_i y s2 ha
            have g1 : (PS.next ⟨s1.l, s1.opn + 1, s1.parts⟩).Good := by
              obtain ⟨a1, a2, a3, a4⟩ := a
              obtain ⟨g1, g2, g3, g4⟩ := g
              exact ⟨by show 0 ≤ s1.opn + 1; omega, by show s1.opn + 1 ≤ 40; omega, a3, a4⟩
            have t1 := i7 _ _ _ g1 ha
            split at h
            · cases h
            · rename_i s3 hw
              cases h
              have t2 := PS.want_ok hw t1.1
              have t3 := To.trans t1 t2
              obtain ⟨⟨q1, q2, q3, q4⟩, q5, q6⟩ := t3
              have q5' : s3.opn = s1.opn + 1 := q5
              have q6' : s3.l.length + (0 + 1) ≤ s1.l.tail.length := q6
              obtain ⟨a1, a2, a3, a4⟩ := a
              rw [c, List.length_tail] at q6'
              exact ⟨⟨by show 0 ≤ s3.opn - 1; omega, by show s3.opn - 1 ≤ 40; omega, q3, q4⟩, by show s3.opn - 1 = s.opn; omega, by show s3.l.length + 1 ≤ s.l.length; omega⟩
    · rw [pItems] at h
      split at h
      · cases h
      · rename_i s1 hi
        cases h
        rw [i2 _ _ g hi]; exact ⟨g, rfl, Nat.le_refl _⟩
      · rename_i x s1 hi
        have t1 := i1 _ _ _ g hi
        exact To.weak (To.trans t1 (i4 _ _ _ _ t1.1 h)) (by omega)
    · rw [pRow] at h
      split at h
      · cases h
      · rename_i l s1 hi
        cases h
        exact i4 _ _ _ _ g hi
    · rw [pAlts] at h
      split at h
      · rename_i hs
        split at h
        · cases h
        · rename_i s1 hp
          obtain ⟨a, b, c⟩ := PS.part_ok hp g
          split at h
          · cases h
          · rename_i x s2 hr
            have t1 := i5 _ _ _ (show s1.next.Good from a) hr
            have t2 := To.trans t1 (i6 _ _ _ _ t1.1 h)
            obtain ⟨q1, q2, q3⟩ := t2
            have q2' : s'.opn = s1.opn := q2
            have q3' : s'.l.length + (0 + 0) ≤ s1.l.tail.length := q3
            rw [List.length_tail] at q3'
            exact ⟨q1, by omega, by rw [← c]; omega⟩
      · cases h; exact ⟨g, rfl, Nat.le_refl _⟩
    · rw [pAlt] at h
      split at h
      · cases h
      · rename_i x1 s1 hr
        have t1 := i5 _ _ _ g hr
        split at h
        · cases h
        · rename_i l s2 hq
          cases h
          exact To.trans t1 (i6 _ _ _ _ t1.1 hq)
/-- How a list of so many more grows. -/
theorem pItems_len (fin : Int) : ∀ (n : Nat) (s : PS) (acc l : List Expr) (s' : PS), s.Good → pItems fin n s acc = .ok (l, s') → l.length + s'.l.length ≤ acc.length + s.l.length
  | 0, s, acc, l, s', _, h => by simp [pItems] at h
  | n + 1, s, acc, l, s', g, h => by
    obtain ⟨i1, i2, _⟩ := inv_all fin n
    rw [pItems] at h
    split at h
    · cases h
    · rename_i s1 hi
      cases h
      rw [i2 _ _ g hi]; exact Nat.le_refl _
    · rename_i x s1 hi
      have t1 := i1 _ _ _ g hi
      have := pItems_len fin n _ _ _ _ t1.1 h
      have := t1.2.2
      simp only [List.length_append, List.length_singleton] at *
      omega
def pDef (fin : Int) (n : Nat) (s : PS) : Except Fault (Dfn × PS) := match s.l with
  | [] => .error (s.gone fin 3)
  | t :: _ => if t.kind = 1 then
      match s.next.want fin (sgn 61) with
      | .error f => .error f
      | .ok s1 => match pAlt fin n ⟨s1.l, s1.opn, 0⟩ with
        | .error f => .error f
        | .ok (x, s2) => match s2.want fin (sgn 59) with
          | .error f => .error f
          | .ok s3 => .ok (⟨t.text, t.at_, x⟩, s3)
    else .error (s.gone fin 3)
/-- Definitions, up to the end. -/
def pDefs (fin : Int) : Nat → PS → List Dfn → Except Fault (List Dfn)
  | 0, _, _ => .error ⟨0, 0⟩
  | n + 1, s, acc => if 0 < s.l.length ∨ acc.length = 0 then
      if acc.length = 16 then .error (s.gone fin 6) else
        match pDef fin (5 * s.l.length + 8) s with
        | .error f => .error f
        | .ok (d, s') => pDefs fin n s' (acc ++ [d])
    else .ok acc
def parseToks (fin : Int) (l : List Tk) : Except Fault (List Dfn) := pDefs fin (l.length + 2) ⟨l, 0, 0⟩ []
def parseS (s : ByteArray) : List Dfn × Fault :=
  if (Old.scanR s).2.1 = 0 then
    match parseToks s.size (Old.scanR s).1 with
    | .error f => ([], f)
    | .ok l => (l, ⟨0, 0⟩)
  else ([], ⟨(Old.scanR s).2.1, (Old.scanR s).2.2⟩)
end Go.Proofs.Ytkfeccbahpmadaa
