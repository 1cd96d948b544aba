/-
  Expand, plain: rules of definitions, and that the reference makes the same. Sim: the maker of rules: fail, fresh, rule, ways.
-/
import Derived.Test.YtkfeccbahpmadaaDeA
import Derived.Test.YtkfeccbahpmadaaG1
import Derived.Test.YtkfeccbahpmadaaSyA
import Derived.Test.YtkfeccbahpmadaaGramC
set_option linter.unusedVariables false
set_option linter.unusedSimpArgs false
set_option linter.unusedSectionVars false
namespace Go.Proofs.Ytkfeccbahpmadaa
open Go.RowKit

/-! ### What was made so far -/
structure XS where
  vars : Int
  rules : List Rule
abbrev XF := Expr → XS → Except XS (List Int × XS)
def XS.Good (s : XS) : Prop := 0 ≤ s.vars ∧ s.vars ≤ 64 ∧ s.rules.length ≤ 160
def XS.rule (s : XS) (v : Int) (r : List Int) : Except XS XS := if s.rules.length = 160 ∨ 10 < r.length then .error s else .ok ⟨s.vars, s.rules ++ [⟨v, r⟩]⟩
def XS.fresh (s : XS) : Except XS XS := if s.vars = 64 then .error s else .ok ⟨s.vars + 1, s.rules⟩
def waysE (x : Expr) : List Expr := if x.op = 4 then x.l else [x]
def hdE (l : List Expr) : Expr := l.getD 0 default
def xRow (f : XF) : List Expr → List Int → XS → Except XS (List Int × XS)
  | [], out, s => .ok (out, s)
  | y :: l, out, s => match f y s with
    | .error e => .error e
    | .ok (r, s') => xRow f l (out ++ r) s'
def xOne (v : Int) (ag al : Bool) (r : List Int) (s : XS) : Except XS XS := if (al || !ag) = true then s.rule v r else .ok s
def xTwo (v : Int) (ag : Bool) (r : List Int) (s : XS) : Except XS XS := if ag = true then s.rule v (r ++ [v]) else .ok s
def xAll (f : XF) (v : Int) (ag al : Bool) : List Expr → XS → Except XS XS
  | [], s => .ok s
  | y :: l, s => match f y s with
    | .error e => .error e
    | .ok (r, s1) => match xOne v ag al r s1 with
      | .error e => .error e
      | .ok s2 => match xTwo v ag r s2 with
        | .error e => .error e
        | .ok s3 => xAll f v ag al l s3
def xNil (op : Int) (v : Int) (s : XS) : Except XS XS := if op = 5 ∨ op = 6 then s.rule v [] else .ok s
def xIn (f : XF) (x : Expr) (v : Int) (s : XS) : Except XS XS :=
  if x.op = 4 then xAll f v false false x.l s
  else match xNil x.op v s with
    | .error e => .error e
    | .ok s' => xAll f v (decide (x.op ≠ 5)) (decide (x.op = 7)) (waysE (hdE x.l)) s'
section
variable (tm nm : List ByteArray)
def xR : Nat → XF
  | 0, _, s => .error s
  | n + 1, x, s =>
    if x.op = 1 then .ok ([-1 - plc tm x.name], s)
    else if x.op = 2 then .ok ([plc nm x.name], s)
    else if x.op = 3 then xRow (xR n) x.l [] s
    else match s.fresh with
      | .error e => .error e
      | .ok s1 => match xIn (xR n) x s.vars s1 with
        | .error e => .error e
        | .ok s2 => .ok ([s.vars], s2)
def xDefs (f : XF) : Nat → List Dfn → XS → Except Nat XS
  | _, [], s => .ok s
  | i, d :: l, s => match xAll f i false false (waysE d.e) s with
    | .error _ => .error i
    | .ok s' => xDefs f (i + 1) l s'
end

/-! ### The reference's -/
structure YS where
  vars : Int
  rules : List Rule
  bad : Bool
abbrev YF := Expr → YS → List Int × YS
def YS.rule (s : YS) (v : Int) (r : List Int) : YS := if s.bad = true ∨ 160 ≤ s.rules.length ∨ 10 < r.length then ⟨s.vars, s.rules, true⟩ else ⟨s.vars, s.rules ++ [⟨v, r⟩], false⟩
def yRow (f : YF) : List Expr → List Int → YS → List Int × YS
  | [], out, s => (out, s)
  | y :: l, out, s => yRow f l (out ++ (f y s).1) (f y s).2
def yOne (v : Int) (pl : Bool) (r : List Int) (s : YS) : YS := if pl = true then s.rule v r else s
def yTwo (v : Int) (ag : Bool) (r : List Int) (s : YS) : YS := if ag = true then s.rule v (r ++ [v]) else s
def yPut (f : YF) (v : Int) (pl ag : Bool) : List Expr → YS → YS
  | [], s => s
  | y :: l, s => if s.bad = true then s else yPut f v pl ag l (yTwo v ag (f y s).1 (yOne v pl (f y s).1 (f y s).2))
def yNil (op : Int) (v : Int) (s : YS) : YS := if op ≠ 7 then s.rule v [] else s
def yIn (f : YF) (x : Expr) (v : Int) (s : YS) : YS :=
  if x.op = 4 then yPut f v true false x.l s
  else yPut f v (decide (x.op ≠ 6)) (decide (x.op ≠ 5)) (waysE (hdE x.l)) (yNil x.op v s)
section
variable (tm nm : List ByteArray)
def yR : Nat → YF
  | 0, _, s => ([], ⟨s.vars, s.rules, true⟩)
  | n + 1, x, s =>
    if s.bad = true then ([], s)
    else if x.op = 1 then ([-1 - plc tm x.name], s)
    else if x.op = 2 then ([plc nm x.name], s)
    else if x.op = 3 then yRow (yR n) x.l [] s
    else if 64 ≤ s.vars then ([], ⟨s.vars, s.rules, true⟩)
    else ([s.vars], yIn (yR n) x s.vars ⟨s.vars + 1, s.rules, s.bad⟩)
def yDefs (f : YF) : Nat → List Dfn → YS → Except Nat YS
  | _, [], s => .ok s
  | i, d :: l, s => if (yPut f i true false (waysE d.e) s).bad = true then .error i else yDefs f (i + 1) l (yPut f i true false (waysE d.e) s)
end

/-! ### They are the same -/
def XS.y (s : XS) : YS := ⟨s.vars, s.rules, false⟩
def SameS (o : Except XS XS) (s : YS) : Prop := match o with
  | .error _ => s.bad = true
  | .ok s' => s = s'.y ∧ s'.Good
def SameR (o : Except XS (List Int × XS)) (p : List Int × YS) : Prop := match o with
  | .error _ => p.2.bad = true
  | .ok (r, s') => p = (r, s'.y) ∧ s'.Good
theorem rule_same {s : XS} (g : s.Good) (v : Int) (r : List Int) : SameS (s.rule v r) (s.y.rule v r) := by
  obtain ⟨g1, g2, g3⟩ := g
  unfold XS.rule YS.rule XS.y
  by_cases h : s.rules.length = 160 ∨ 10 < r.length
  · rw [if_pos h, if_pos (by dsimp only; omega)]; rfl
  · rw [if_neg h, if_neg (by dsimp only; simp only [Bool.false_eq_true, false_or]; omega)]
    exact ⟨rfl, g1, g2, by simp only [List.length_append, List.length_singleton]; omega⟩
theorem rule_bad {s : YS} (h : s.bad = true) (v : Int) (r : List Int) : (s.rule v r).bad = true := by
  unfold YS.rule
  rw [if_pos (.inl h)]
theorem yOne_bad {s : YS} (h : s.bad = true) (v : Int) (pl : Bool) (r : List Int) : (yOne v pl r s).bad = true := by
  unfold yOne
  split
  · exact rule_bad h v r
  · exact h
theorem yTwo_bad {s : YS} (h : s.bad = true) (v : Int) (pl : Bool) (r : List Int) : (yTwo v pl r s).bad = true := by
  unfold yTwo
  split
  · exact rule_bad h v _
  · exact h
theorem yPut_bad {f : YF} {v : Int} {pl ag : Bool} {l : List Expr} {s : YS} (h : s.bad = true) : (yPut f v pl ag l s).bad = true := by
  cases l with
  | nil => exact h
  | cons y l => rw [yPut, if_pos h]; exact h
theorem yRow_bad {f : YF} (hf : ∀ y s, s.bad = true → (f y s).2.bad = true) : ∀ (l : List Expr) (out : List Int) (s : YS), s.bad = true → (yRow f l out s).2.bad = true
  | [], _, _, h => h
  | y :: l, out, s, h => by rw [yRow]; exact yRow_bad hf l _ _ (hf y s h)
theorem yR_bad (tm nm : List ByteArray) (n : Nat) (y : Expr) (s : YS) (h : s.bad = true) : (yR tm nm n y s).2.bad = true := by
  cases n with
  | zero => rfl
  | succ n => rw [yR, if_pos h]; exact h
theorem row_same {f : XF} {g : YF} {P : Expr → Prop} (hf : ∀ y s, P y → s.Good → SameR (f y s) (g y s.y)) (hb : ∀ y s, s.bad = true → (g y s).2.bad = true) :
    ∀ (l : List Expr) (out : List Int) (s : XS), (∀ y ∈ l, P y) → s.Good → SameR (xRow f l out s) (yRow g l out s.y)
  | [], out, s, _, hg => ⟨rfl, hg⟩
  | y :: l, out, s, hl, hg => by
    have h1 := hf y s (hl y (by simp)) hg
    rw [xRow, yRow]
    cases hc : f y s with
    | error z =>
      rw [hc] at h1
      exact yRow_bad hb l _ _ h1
    | ok p =>
      obtain ⟨r, s'⟩ := p
      rw [hc] at h1
      obtain ⟨e, g'⟩ := h1
      rw [e]
      exact row_same hf hb l _ s' (fun z hz => hl z (by simp [hz])) g'
theorem all_same {f : XF} {g : YF} {P : Expr → Prop} {v : Int} {ag al pl : Bool} (hp : pl = (al || !ag)) (hf : ∀ y s, P y → s.Good → SameR (f y s) (g y s.y)) :
    ∀ (l : List Expr) (s : XS), (∀ y ∈ l, P y) → s.Good → SameS (xAll f v ag al l s) (yPut g v pl ag l s.y)
  | [], s, _, hg => ⟨rfl, hg⟩
  | y :: l, s, hl, hg => by
    have h1 := hf y s (hl y (by simp)) hg
    rw [xAll, yPut, if_neg (by show ¬ (false = true); decide)]
    cases hc : f y s with
    | error z =>
      rw [hc] at h1
      exact yPut_bad (yTwo_bad (yOne_bad h1 _ _ _) _ _ _)
    | ok p =>
      obtain ⟨r, s'⟩ := p
      rw [hc] at h1
      obtain ⟨e, g'⟩ := h1
      rw [e]
      dsimp only
      have h2 : SameS (xOne v ag al r s') (yOne v pl r s'.y) := by
        unfold xOne yOne
        rw [hp]
        split
        · exact rule_same g' v r
        · exact ⟨rfl, g'⟩
      cases hc2 : xOne v ag al r s' with
      | error z =>
        rw [hc2] at h2
        exact yPut_bad (yTwo_bad h2 _ _ _)
      | ok s2 =>
        rw [hc2] at h2
        obtain ⟨e2, g2⟩ := h2
        rw [e2]
        dsimp only
        have h3 : SameS (xTwo v ag r s2) (yTwo v ag r s2.y) := by
          unfold xTwo yTwo
          split
          · exact rule_same g2 v _
          · exact ⟨rfl, g2⟩
        cases hc3 : xTwo v ag r s2 with
        | error z =>
          rw [hc3] at h3
          exact yPut_bad h3
        | ok s3 =>
          rw [hc3] at h3
          obtain ⟨e3, g3⟩ := h3
          rw [e3]
          exact all_same hp hf l s3 (fun z hz => hl z (by simp [hz])) g3
theorem waysE_xF {x : Expr} (h : xF x = 0) : ∀ y ∈ waysE x, xF y = 0 := by
  intro y hy
  unfold waysE at hy
  split at hy
  · exact (xF_zero h).2.2 y hy
  · rw [List.mem_singleton.1 hy]; exact h
theorem waysE_esz {x y : Expr} (hy : y ∈ waysE x) : esz y ≤ esz x := by
  unfold waysE at hy
  split at hy
  · have := eszs_mem hy
    rw [esz_eq x]; omega
  · rw [List.mem_singleton.1 hy]; exact Nat.le_refl _
/-- An expression that is well made: its kind, and how many it has. -/
theorem op_cases {x : Expr} (h : xF x = 0) : x.op = 1 ∨ x.op = 2 ∨ x.op = 3 ∨ x.op = 4 ∨ (5 ≤ x.op ∧ x.op ≤ 7 ∧ ∃ y, x.l = [y]) := by
  have hf := (xF_zero h).1
  unfold fOk at hf
  by_cases h12 : x.op = 1 ∨ x.op = 2
  · omega
  · rw [if_neg h12] at hf
    by_cases h3 : x.op = 3
    · omega
    · rw [if_neg h3] at hf
      by_cases h4 : x.op = 4
      · omega
      · rw [if_neg h4] at hf
        by_cases h5 : 5 ≤ x.op ∧ x.op ≤ 7
        · rw [if_pos h5] at hf
          simp only [Bool.and_eq_true, decide_eq_true_eq] at hf
          exact .inr (.inr (.inr (.inr ⟨h5.1, h5.2, List.length_eq_one_iff.1 hf.1⟩)))
        · rw [if_neg h5] at hf; cases hf
theorem xR_same (tm nm : List ByteArray) : ∀ (n : Nat) (x : Expr) (s : XS), xF x = 0 → esz x ≤ n → s.Good → SameR (xR tm nm n x s) (yR tm nm n x s.y)
  | 0, x, s, _, hn, _ => by have := esz_pos x; omega
  | n + 1, x, s, hx, hn, hg => by
    have ih := xR_same tm nm n
    have hf : ∀ y s, (xF y = 0 ∧ esz y ≤ n) → s.Good → SameR (xR tm nm n y s) (yR tm nm n y s.y) := fun y s h g => ih y s h.1 h.2 g
    have hl : ∀ y ∈ x.l, xF y = 0 ∧ esz y ≤ n := fun y hy => ⟨(xF_zero hx).2.2 y hy, by have := eszs_mem hy; rw [esz_eq] at hn; omega⟩
    rw [xR, yR, if_neg (show ¬ s.y.bad = true by show ¬ (false = true); decide)]
    by_cases h1 : x.op = 1
    · rw [if_pos h1, if_pos h1]; exact ⟨rfl, hg⟩
    rw [if_neg h1, if_neg h1]
    by_cases h2 : x.op = 2
    · rw [if_pos h2, if_pos h2]; exact ⟨rfl, hg⟩
    rw [if_neg h2, if_neg h2]
    by_cases h3 : x.op = 3
    · rw [if_pos h3, if_pos h3]; exact row_same hf (yR_bad tm nm n) x.l [] s hl hg
    rw [if_neg h3, if_neg h3]
    obtain ⟨g1, g2, g3⟩ := hg
    unfold XS.fresh
    by_cases h64 : s.vars = 64
    · rw [if_pos h64, if_pos (by show 64 ≤ s.vars; omega)]; rfl
    rw [if_neg h64, if_neg (by show ¬ 64 ≤ s.vars; omega)]
    dsimp only
    have gf : (XS.mk (s.vars + 1) s.rules).Good := ⟨by show 0 ≤ s.vars + 1; omega, by show s.vars + 1 ≤ 64; omega, g3⟩
    have hin : SameS (xIn (xR tm nm n) x s.vars ⟨s.vars + 1, s.rules⟩) (yIn (yR tm nm n) x s.vars (XS.mk (s.vars + 1) s.rules).y) := by
      unfold xIn yIn
      by_cases h4 : x.op = 4
      · rw [if_pos h4, if_pos h4]; exact all_same rfl hf x.l _ hl gf
      rw [if_neg h4, if_neg h4]
      obtain ⟨y, ey⟩ : 5 ≤ x.op ∧ x.op ≤ 7 ∧ ∃ y, x.l = [y] := by
        rcases op_cases hx with h | h | h | h | h
        · exact absurd h h1
        · exact absurd h h2
        · exact absurd h h3
        · exact absurd h h4
        · exact h
      obtain ⟨o7, z, ez⟩ := ey
      have hz : hdE x.l = z := by rw [ez]; rfl
      rw [hz]
      have hw : ∀ y ∈ waysE z, xF y = 0 ∧ esz y ≤ n := fun y hy => by
        obtain ⟨q1, q2⟩ := hl z (by rw [ez]; simp)
        exact ⟨waysE_xF q1 y hy, Nat.le_trans (waysE_esz hy) q2⟩
      have hni : SameS (xNil x.op s.vars ⟨s.vars + 1, s.rules⟩) (yNil x.op s.vars (XS.mk (s.vars + 1) s.rules).y) := by
        unfold xNil yNil
        by_cases h7 : x.op = 7
        · rw [if_neg (by omega), if_neg (by omega)]; exact ⟨rfl, gf⟩
        · rw [if_pos (by omega), if_pos h7]; exact rule_same gf _ _
      cases hc : xNil x.op s.vars ⟨s.vars + 1, s.rules⟩ with
      | error z =>
        rw [hc] at hni
        exact yPut_bad hni
      | ok s' =>
        rw [hc] at hni
        obtain ⟨e, g'⟩ := hni
        rw [e]
        have hpp : decide (x.op ≠ 6) = (decide (x.op = 7) || !decide (x.op ≠ 5)) := by
          rcases (by omega : x.op = 5 ∨ x.op = 6 ∨ x.op = 7) with h | h | h <;> rw [h] <;> decide
        exact all_same hpp hf _ s' hw g'
    cases hc : xIn (xR tm nm n) x s.vars ⟨s.vars + 1, s.rules⟩ with
    | error z =>
      rw [hc] at hin
      exact hin
    | ok s' =>
      rw [hc] at hin
      obtain ⟨e, g'⟩ := hin
      refine ⟨?_, g'⟩
      show (_, yIn _ _ _ _) = _
      rw [← e]; rfl
end Go.Proofs.Ytkfeccbahpmadaa
namespace Go.Proofs.Ytkfeccbahpmadaa
open Go.RowKit
set_option maxRecDepth 100000
-- SimX

abbrev mkBr (nm tm : List ByteArray) (at_ v : Int) (n : Nat) : Ob := .box 190 [.d (strs false nm), .d (strs false tm), I v, I tm.length, I 0, .own 1001 n, I at_]
abbrev mkHr (nm tm : List ByteArray) (at_ v : Int) (n : Nat) (R : List D) : Hp := [(1000, mkBr nm tm at_ v n), (1001, .row 41 2 R)]
abbrev mkH (nm tm : List ByteArray) (at_ : Int) (s : XS) : Hp := mkHr nm tm at_ s.vars s.rules.length (s.rules.map (ruleD false))
def goneX (at_ : Int) : Value := .iface 186 (.agg #[.int .i64 6, .int .i64 at_])
/-- What a maker's function does: it returns, or it gives up. -/
def DoesX (nm tm : List ByteArray) (at_ : Int) (f : FuncId) (args : List V) (s : XS) : Except XS (V × XS) → Prop
  | .ok (v, s') => ACalls Try.prog f args (mkH nm tm at_ s) v (mkH nm tm at_ s')
  | .error e => APan Try.prog f args (mkH nm tm at_ s) (goneX at_) (mkH nm tm at_ e)
def waysT (t : Bool) (x : Expr) : Bool := if x.op = 4 then t else false
abbrev waysD (t : Bool) (x : Expr) : D := .sl (waysT t x) 3 ((waysE x).map (exprD t))
section
variable {nm tm : List ByteArray} {at_ : Int}
theorem xfail_pan {s : XS} : APan Try.prog 215 [.ptr 1000 0] (mkH nm tm at_ s) (goneX at_) (mkH nm tm at_ s) := by
  refine APan.intro (n := 8) Try.func215 rfl rfl (by simp) (by rfl) rfl ?_
  simp only [argFr]
  obtain ⟨v, R⟩ := s
  repeat (first | refine wk ?_ | refine s_field (hr := ?_))
  refine d_iface rfl gOk_none rfl rfl rfl Try.underlying186 rfl ?_
  refine d_panic [(1000, some (mkBr nm tm at_ v R.length)), (1001, some (.row 41 2 (R.map (ruleD false))))] 999 gOk_none rfl (fun p hp => by rcases List.mem_cons.1 hp with rfl | hp; exact rfl; rw [List.mem_singleton.1 hp]; rfl) (fun fr' h' ho => ⟨rfl, ⟨HElt.of (ho _ List.mem_cons_self), HElt.of (ho _ (List.mem_cons_of_mem _ (List.mem_singleton.2 rfl))), trivial⟩, rfl⟩) ?_
  exact dops_end (Nev.obj 999 rfl)
theorem ways_sim {t : Bool} {x : Expr} (hl : x.l.length ≤ 100000000 := by ((try simp only [List.length_map, List.length_append, List.length_cons, List.length_nil, List.length_replicate, List.length_set, List.length_take, List.length_drop]); first | omega | assumption)) : ACalls Try.prog 185 [.d (exprA t x)] [] (.d (waysD t x)) [] := by
  refine ACalls.intro (n := 10) Try.func185 rfl rfl (by simp) (by rfl) ?_
  simp only [argFr]
  by_cases h : x.op = 4
  · rw [waysD, show waysE x = x.l by unfold waysE; rw [if_pos h], show waysT t x = t by unfold waysT; rw [if_pos h]]
    repeat (first | refine wk ?_ | refine s_field (hr := ?_))
    exact fin
  · rw [waysD, show waysE x = [x] by unfold waysE; rw [if_neg h], show waysT t x = false by unfold waysT; rw [if_neg h], List.map_cons, List.map_nil, exprA_eq]
    iterate 22 (refine wk1 ?_)
    refine aw_froz 9 rfl ?_
    repeat (first | refine wk ?_ | refine s_field (hr := ?_))
    exact fin
theorem xfresh_sim {s : XS} (g : s.Good) : DoesX nm tm at_ 214 [.ptr 1000 0] s (s.fresh.map fun s' => (I s.vars, s')) := by
  obtain ⟨g1, g2, g3⟩ := g
  unfold XS.fresh
  by_cases h : s.vars = 64
  · rw [if_pos h]
    have hf := xfail_pan (nm := nm) (tm := tm) (at_ := at_) (s := s)
    show APan _ _ _ _ _ _
    refine APan.intro (n := 26) Try.func214 rfl rfl (by simp) (by rfl) rfl ?_
    simp only [argFr]
    repeat (first | refine wk ?_ | refine s_field (hr := ?_))
    refine s_panCall [] [] [] (hpn := by exact (fun fr' h' _ _ => ⟨rfl, ⟨HElt.of rfl, HElt.of rfl, trivial⟩, rfl⟩)) (hA := hf)
  · rw [if_neg h]
    show ACalls _ _ _ _ _ _
    have e0 : s.vars + 1 - 1 = s.vars := by omega
    refine ACalls.intro (n := 26) Try.func214 rfl rfl (by simp) (by rfl) ?_
    simp only [argFr]
    repeat (first | refine wk ?_ | refine s_field (hr := ?_))
    exact fin
theorem xrule_sim {s : XS} (g : s.Good) {v : Int} {r : List Int} (hr : r.length ≤ 1000000) : DoesX nm tm at_ 187 [.ptr 1000 0, I v, .d (ints false r)] s ((s.rule v r).map fun s' => (.tup [], s')) := by
  obtain ⟨g1, g2, g3⟩ := g
  unfold XS.rule
  by_cases h : s.rules.length = 160 ∨ 10 < r.length
  · rw [if_pos h]
    have hf := xfail_pan (nm := nm) (tm := tm) (at_ := at_) (s := s)
    show APan _ _ _ _ _ _
    refine APan.intro (n := 35) Try.func187 rfl rfl (by simp) (by rfl) rfl ?_
    simp only [argFr]
    by_cases h1 : s.rules.length = 160
    · repeat (first | refine wk ?_ | refine s_field (hr := ?_))
      refine s_panCall [] [] [] (hpn := by exact (fun fr' h' _ _ => ⟨rfl, ⟨HElt.of rfl, HElt.of rfl, trivial⟩, rfl⟩)) (hA := hf)
    · have h2 : 10 < r.length := by omega
      repeat (first | refine wk ?_ | refine s_field (hr := ?_))
      refine s_panCall [] [] [] (hpn := by exact (fun fr' h' _ _ => ⟨rfl, ⟨HElt.of rfl, HElt.of rfl, trivial⟩, rfl⟩)) (hA := hf)
  · rw [if_neg h]
    show ACalls _ _ _ _ _ _
    have h1 : ¬ s.rules.length = 160 := fun e => h (.inl e)
    have h2 : ¬ 10 < r.length := fun e => h (.inr e)
    have e : mkH nm tm at_ ⟨s.vars, s.rules ++ [⟨v, r⟩]⟩ = mkHr nm tm at_ s.vars (s.rules.map (ruleD false) ++ [D.agg [iD v, ints false r]]).length (s.rules.map (ruleD false) ++ [.agg [iD v, ints false r]]) := by simp [mkH, ruleD]
    rw [e]
    refine ACalls.intro (n := 35) Try.func187 rfl rfl (by simp) (by rfl) ?_
    simp only [argFr]
    repeat (first | refine wk ?_ | refine s_field (hr := ?_))
    refine s_call [] (hA := clone_sim (xs := r)) (hr := ?_)
    repeat (first | refine wk ?_ | refine s_field (hr := ?_))
    exact fin
end
end Go.Proofs.Ytkfeccbahpmadaa
