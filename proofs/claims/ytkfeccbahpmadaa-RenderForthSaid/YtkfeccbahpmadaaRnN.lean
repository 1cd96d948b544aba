/-
  Render, plain: what was read may be printed, but for its length. Sim: RenderForth returns true.
-/
import Derived.Test.YtkfeccbahpmadaaRnL
set_option linter.unusedVariables false
set_option linter.unusedSimpArgs false
set_option linter.unusedSectionVars false
namespace Go.Proofs.Ytkfeccbahpmadaa
open Go.RowKit

def TG (T : List Tk) : Prop := ∀ t ∈ T, Old.GoodTk t
def c34 (x : Expr) : Nat := b1 (brkO 3 x.op)
def c4 (x : Expr) : Nat := b1 (brkO 4 x.op)
theorem c4_le (x : Expr) : c4 x ≤ c34 x := by
  unfold c4 c34
  rw [brkO_1, brkO_2]
  by_cases h : x.op = 4
  · simp [h]
  · rw [decide_eq_false h]; simp [b1]
theorem c34_le (x : Expr) : c34 x ≤ 1 := by unfold c34; cases brkO 3 x.op <;> simp [b1]
theorem c34_no {x : Expr} (h3 : x.op ≠ 3) (h4 : x.op ≠ 4) : c34 x = 0 := by unfold c34; rw [brkO_1, decide_eq_false h3, decide_eq_false h4]; rfl
/-- What came of s, of an expression: no fault, and as much was counted. -/
structure Got (s s' : PS) (x : Expr) (c : Nat) : Prop where
  f : xF x = 0
  p : s.parts + (prt x + c : Nat) ≤ s'.parts
  o : s.opn + (opn x + c : Nat) ≤ 40
  t : TG s'.l
  e : s'.opn = s.opn
structure Gots (k : Int) (s s' : PS) (l : List Expr) (c : Nat) : Prop where
  f : ∀ y ∈ l, xF y = 0
  p : s.parts + (prts k l + c : Nat) ≤ s'.parts
  o : s.opn + (opns k l : Nat) ≤ 40
  t : TG s'.l
  e : s'.opn = s.opn
theorem part_eq {fin : Int} {s s1 : PS} (h : s.part fin = .ok s1) : s1 = ⟨s.l, s.opn, s.parts + 1⟩ := by
  unfold PS.part at h
  split at h
  · cases h
  · cases h; rfl
theorem want_eq {fin : Int} {s s1 : PS} {x : ByteArray} (h : s.want fin x = .ok s1) : s1 = s.next := by
  unfold PS.want at h
  split at h
  · cases h; rfl
  · cases h
theorem TG.tail {T : List Tk} (h : TG T) : TG T.tail := fun t ht => h t (List.mem_of_mem_tail ht)
theorem br_op {s : PS} {op : Int} {e : ByteArray} (h : s.bracket = some (op, e)) : op = 0 ∨ op = 5 ∨ op = 6 ∨ op = 7 := by
  unfold PS.bracket at h
  split at h
  · simp only [Option.some.injEq, Prod.mk.injEq] at h; omega
  · split at h
    · simp only [Option.some.injEq, Prod.mk.injEq] at h; omega
    · split at h
      · simp only [Option.some.injEq, Prod.mk.injEq] at h; omega
      · split at h
        · simp only [Option.some.injEq, Prod.mk.injEq] at h; omega
        · cases h
theorem leaf_got {t : Tk} (ht : Old.GoodTk t) (hk : t.kind = 1 ∨ t.kind = 2) : xF (.mk (if t.kind = 2 then 1 else 2) t.text []) = 0 ∧ prt (.mk (if t.kind = 2 then 1 else 2) t.text []) = 1 ∧ opn (.mk (if t.kind = 2 then 1 else 2) t.text []) = 0 ∧ c34 (.mk (if t.kind = 2 then 1 else 2) t.text []) = 0 := by
  rcases hk with hk | hk
  · rw [if_neg (by omega)]
    have hn : Old.nameB t.text = true := by
      rcases ht with ⟨_, h1, h2, h3, h4⟩ | ⟨h, _⟩ | ⟨h, _⟩
      · exact decide_eq_true ⟨h1, h2, h3, h4⟩
      · omega
      · omega
    refine ⟨?_, by simp [prt, prts, ownP], by simp [opn, opns], c34_no (by simp [Expr.op]) (by simp [Expr.op])⟩
    rw [xF]
    simp [fOk, fNm, hn, xFs]
  · rw [if_pos hk]
    have hn : Old.termB t.text = true := by
      rcases ht with ⟨h, _⟩ | ⟨_, h⟩ | ⟨h, _⟩
      · omega
      · exact decide_eq_true h
      · omega
    refine ⟨?_, by simp [prt, prts, ownP], by simp [opn, opns], c34_no (by simp [Expr.op]) (by simp [Expr.op])⟩
    rw [xF]
    simp [fOk, fNm, hn, xFs]
theorem xFs_of {l : List Expr} (h : ∀ y ∈ l, xF y = 0) : xFs l = 0 := by
  induction l with
  | nil => rfl
  | cons y l ih => rw [xFs, if_pos (h y (by simp))]; exact ih (fun z hz => h z (by simp [hz]))
theorem mk_got {k : Int} {l : List Expr} (h : ∀ y ∈ l, xF y = 0) (hf : fOk k ⟨#[]⟩ l.length = true) (hk : 3 ≤ k) : xF (.mk k ⟨#[]⟩ l) = 0 := by
  have hn : fNm k ⟨#[]⟩ = true := by unfold fNm; rw [if_neg (by omega), if_neg (by omega)]
  rw [xF, hf, hn]
  simpa using xFs_of h
theorem prts_app (o : Int) : ∀ (a b : List Expr), prts o (a ++ b) = prts o a + prts o b
  | [], b => by simp [prts]
  | x :: a, b => by rw [List.cons_append, prts, prts, prts_app o a b]; omega
theorem opns_app (o : Int) : ∀ (a b : List Expr), opns o (a ++ b) = max (opns o a) (opns o b)
  | [], b => by simp [opns]
  | x :: a, b => by rw [List.cons_append, opns, opns, opns_app o a b]; omega
theorem prts_one (o : Int) (y : Expr) : prts o [y] = prt y + b1 (brkO o y.op) := by simp [prts]
theorem opns_one3 (y : Expr) : opns 3 [y] = opn y + c34 y := by rw [opns, opns, opB_3]; simp [c34]
theorem opns_one4 (y : Expr) : opns 4 [y] = opn y + c4 y := by rw [opns, opns, opB_4]; simp [c4]
def PI (fin : Int) (n : Nat) : Prop :=
  (∀ s x s', TG s.l → s.opn ≤ 40 → pItem fin n s = .ok (some x, s') → Got s s' x (c34 x)) ∧ (∀ s s', pItem fin n s = .ok (none, s') → s' = s) ∧
  (∀ s op e x s', (op = 0 ∨ op = 5 ∨ op = 6 ∨ op = 7) → TG s.l → s.opn ≤ 40 → pGroup fin n s op e = .ok (x, s') → Got s s' x (c34 x)) ∧
  (∀ s acc l s', TG s.l → s.opn ≤ 40 → pItems fin n s acc = .ok (l, s') → ∃ l2, l = acc ++ l2 ∧ Gots 3 s s' l2 0) ∧
  (∀ s x s', TG s.l → s.opn ≤ 40 → pRow fin n s = .ok (x, s') → Got s s' x (c4 x)) ∧
  (∀ s acc l s', TG s.l → s.opn ≤ 40 → pAlts fin n s acc = .ok (l, s') → ∃ l2, l = acc ++ l2 ∧ Gots 4 s s' l2 l2.length) ∧
  (∀ s x s', TG s.l → s.opn ≤ 40 → pAlt fin n s = .ok (x, s') → Got s s' x 0)
theorem pi_all (fin : Int) : ∀ n, PI fin n
  | 0 => ⟨fun _ _ _ _ _ h => by simp [pItem] at h, fun _ _ h => by simp [pItem] at h, fun _ _ _ _ _ _ _ _ h => by simp [pGroup] at h, fun _ _ _ _ _ _ h => by simp [pItems] at h, fun _ _ _ _ _ h => by simp [pRow] at h, fun _ _ _ _ _ _ h => by simp [pAlts] at h, fun _ _ _ _ _ h => by simp [pAlt] at h⟩
  | n + 1 => by
    obtain ⟨i1, i2, i3, i4, i5, i6, i7⟩ := pi_all fin n
    refine ⟨fun s x s' ht ho h => ?_, fun s s' h => ?_, fun s op e x s' hop ht ho h => ?_, fun s acc l s' ht ho h => ?_, fun s x s' ht ho h => ?_, fun s acc l s' ht ho h => ?_, fun s x s' ht ho h => ?_⟩
    · rw [pItem] at h
      split at h
      · cases h
      · rename_i t r e
        split at h
        · rename_i hk
          split at h
          · cases h
          · rename_i s1 hp
            cases h
            have := part_eq hp
            subst this
            obtain ⟨g1, g2, g3, g4⟩ := leaf_got (ht t (by rw [e]; simp)) hk
            refine ⟨g1, ?_, ?_, ht.tail, rfl⟩
            · rw [g2, g4]; show s.parts + _ ≤ s.parts + 1; simp
            · rw [g3, g4]; simpa using ho
        · split at h
          · cases h
          · rename_i op en hb
            split at h
            · cases h
            · rename_i y s2 hg
              cases h
              exact i3 _ _ _ _ _ (br_op hb) ht ho hg
    · rw [pItem] at h
      split at h
      · cases h; rfl
      · split at h
        · split at h <;> cases h
        · split at h
          · cases h; rfl
          · split at h <;> cases h
    · rw [pGroup] at h
      split at h
      · cases h
      · rename_i h40
        split at h
        · cases h
        · rename_i s1 hp
          have := part_eq hp
          subst this
          split at h
          · cases h
          · rename_i y s2 ha
            have g := i7 (PS.next ⟨s.l, s.opn + 1, s.parts + 1⟩) _ _ ht.tail (by show s.opn + 1 ≤ 40; omega) ha
            split at h
            · cases h
            · rename_i s3 hw
              cases h
              have := want_eq hw
              subst this
              obtain ⟨q1, q2, q3, q4, q5⟩ := g
              have q2' : s.parts + 1 + (prt y + 0 : Nat) ≤ s2.parts := q2
              have q3' : s.opn + 1 + (opn y + 0 : Nat) ≤ 40 := q3
              have q5' : s2.opn = s.opn + 1 := q5
              have hc := c34_le y
              have hto : s2.next.opn - 1 = s.opn := by show s2.opn - 1 = s.opn; omega
              rcases hop with rfl | hop
              · exact ⟨q1, by show s.parts + _ ≤ s2.parts; show s.parts + ((prt y + c34 y : Nat) : Int) ≤ s2.parts; omega, by show s.opn + ((opn y + c34 y : Nat) : Int) ≤ 40; omega, q4.tail, hto⟩
              · have hw : wrapE op y = .mk op ⟨#[]⟩ [y] := by unfold wrapE; rw [if_neg (by omega)]
                have h3 : op ≠ 3 := by omega
                have h4 : op ≠ 4 := by omega
                have hpx : prt (.mk op ⟨#[]⟩ [y]) = 1 + prt y := by
                  rw [prt, prts, prts, brkO_3 h3 h4]
                  unfold ownP
                  rw [if_neg h3, if_neg h4]; simp [b1]
                have hox : opn (.mk op ⟨#[]⟩ [y]) = 1 + opn y := by
                  rw [opn, opns, opns, opB_1 (by omega)]; simp [b1]; omega
                have hcx : c34 (.mk op ⟨#[]⟩ [y]) = 0 := c34_no h3 h4
                rw [hw]
                refine ⟨mk_got (fun z hz => by rw [List.mem_singleton.1 hz]; exact q1) ?_ (by omega), ?_, ?_, q4.tail, hto⟩
                · unfold fOk
                  rw [if_neg (by omega), if_neg h3, if_neg h4, if_pos (by omega)]; simp
                · rw [hpx, hcx]; show s.parts + _ ≤ s2.parts; omega
                · rw [hox, hcx]; omega
    · rw [pItems] at h
      split at h
      · cases h
      · rename_i s1 hi
        cases h
        rw [i2 _ _ hi]
        exact ⟨[], by rw [List.append_nil], fun _ h => by simp at h, by simp [prts], by simpa [opns] using ho, ht, rfl⟩
      · rename_i x s1 hi
        have g := i1 _ _ _ ht ho hi
        obtain ⟨l2, rfl, g2⟩ := i4 _ _ _ _ g.t (by rw [g.e]; exact ho) h
        refine ⟨x :: l2, by simp, fun y hy => ?_, ?_, ?_, g2.t, g2.e.trans g.e⟩
        · rcases List.mem_cons.1 hy with rfl | hy
          · exact g.f
          · exact g2.f y hy
        · have h1 := g.p
          have h2 := g2.p
          unfold c34 at h1
          rw [prts]; omega
        · have h1 := g.o
          have h2 := g2.o
          rw [g.e] at h2
          unfold c34 at h1
          rw [opns, opB_3]; omega
    · rw [pRow] at h
      split at h
      · cases h
      · rename_i l s1 hi
        cases h
        obtain ⟨l2, e, g⟩ := i4 _ _ _ _ ht ho hi
        rw [List.nil_append] at e
        subst e
        match l, g with
        | [x], g =>
          have hc := c4_le x
          have h1 := g.p
          have h2 := g.o
          rw [prts_one] at h1
          rw [opns_one3] at h2
          have hcc : c34 x = b1 (brkO 3 x.op) := rfl
          exact ⟨g.f x (by simp), by show s.parts + ((prt x + c4 x : Nat) : Int) ≤ _; omega, by show s.opn + ((opn x + c4 x : Nat) : Int) ≤ 40; omega, g.t, g.e⟩
        | [], g =>
          refine ⟨mk_got g.f (by decide) (by decide), ?_, ?_, g.t, g.e⟩
          · have := g.p; simpa [one, prt, prts, ownP, c4, brkO, Expr.op, b1] using this
          · have := g.o; simpa [one, opn, opns, c4, brkO, Expr.op, b1] using this
        | x :: y :: l, g =>
          have e1 : one 3 (x :: y :: l) = .mk 3 ⟨#[]⟩ (x :: y :: l) := rfl
          rw [e1]
          have hc : c4 (.mk 3 ⟨#[]⟩ (x :: y :: l)) = 0 := by simp [c4, brkO, Expr.op, b1]
          refine ⟨mk_got g.f (by simp [fOk]) (by decide), ?_, ?_, g.t, g.e⟩
          · rw [hc, prt, show ownP 3 (x :: y :: l).length = 0 by simp [ownP], Nat.zero_add]; exact g.p
          · rw [hc, opn]; exact g.o
    · rw [pAlts] at h
      split at h
      · split at h
        · cases h
        · rename_i s1 hp
          have := part_eq hp
          subst this
          split at h
          · cases h
          · rename_i x s2 hr
            have g := i5 (PS.next ⟨s.l, s.opn, s.parts + 1⟩) _ _ ht.tail ho hr
            have ge : s2.opn = s.opn := g.e
            have gp : s.parts + 1 + (prt x + c4 x : Nat) ≤ s2.parts := g.p
            have go : s.opn + (opn x + c4 x : Nat) ≤ 40 := g.o
            obtain ⟨l2, rfl, g2⟩ := i6 _ _ _ _ g.t (by rw [ge]; exact ho) h
            refine ⟨x :: l2, by simp, fun y hy => ?_, ?_, ?_, g2.t, g2.e.trans ge⟩
            · rcases List.mem_cons.1 hy with rfl | hy
              · exact g.f
              · exact g2.f y hy
            · have h2 := g2.p
              unfold c4 at gp
              rw [prts, List.length_cons]; omega
            · have h2 := g2.o
              rw [ge] at h2
              unfold c4 at go
              rw [opns, opB_4]; omega
      · cases h
        exact ⟨[], by rw [List.append_nil], fun _ h => by simp at h, by simp [prts], by simpa [opns] using ho, ht, rfl⟩
    · rw [pAlt] at h
      split at h
      · cases h
      · rename_i x1 s1 hr
        have g := i5 _ _ _ ht ho hr
        split at h
        · cases h
        · rename_i l s2 hq
          cases h
          obtain ⟨l2, rfl, g2⟩ := i6 _ _ _ _ g.t (by rw [g.e]; exact ho) hq
          have gp := g.p
          have go := g.o
          have hp2 := g2.p
          have ho2 := g2.o
          rw [g.e] at ho2
          match l2, g2, hp2, ho2 with
          | [], g2, hp2, ho2 =>
            have e1 : one 4 ([x1] ++ []) = x1 := rfl
            rw [e1]
            simp only [prts, List.length_nil] at hp2
            exact ⟨g.f, by omega, by omega, g2.t, g2.e.trans g.e⟩
          | y :: l, g2, hp2, ho2 =>
            have e1 : one 4 ([x1] ++ y :: l) = .mk 4 ⟨#[]⟩ (x1 :: y :: l) := rfl
            rw [e1]
            refine ⟨mk_got (fun z hz => ?_) (by simp [fOk]) (by decide), ?_, ?_, g2.t, g2.e.trans g.e⟩
            · rcases List.mem_cons.1 hz with rfl | hz
              · exact g.f
              · exact g2.f z hz
            · have hcc : c4 x1 = b1 (brkO 4 x1.op) := rfl
              have hpp : prt (.mk 4 ⟨#[]⟩ (x1 :: y :: l)) = (y :: l).length + (prt x1 + c4 x1 + prts 4 (y :: l)) := by
                rw [prt, prts, ← hcc]; simp [ownP]
              rw [hpp]; omega
            · have hcc : c4 x1 = b1 (brkO 4 x1.op) := rfl
              have hoo : opn (.mk 4 ⟨#[]⟩ (x1 :: y :: l)) = max (opn x1 + c4 x1) (opns 4 (y :: l)) := by
                rw [opn, opns, opB_4, ← hcc]
              rw [hoo]; omega
theorem defN_ok {fin : Int} {n : Nat} {s s' : PS} {d : Dfn} (ht : TG s.l) (ho : s.opn = 0) (h : pDef fin n s = .ok (d, s')) : defF d = 0 ∧ TG s'.l ∧ s'.opn = 0 := by
  unfold pDef at h
  split at h
  · cases h
  · rename_i t r e
    split at h
    · rename_i hk
      split at h
      · cases h
      · rename_i s1 hw
        have := want_eq hw
        subst this
        split at h
        · cases h
        · rename_i x s2 ha
          have htt : TG s.next.next.l := (TG.tail (T := s.next.l) (TG.tail ht))
          have hoo : s.next.next.opn = 0 := ho
          have ha : pAlt fin n ⟨s.next.next.l, s.next.next.opn, 0⟩ = .ok (x, s2) := ha
          have g := (pi_all fin n).2.2.2.2.2.2 ⟨s.next.next.l, s.next.next.opn, 0⟩ _ _ htt (by show s.next.next.opn ≤ 40; omega) ha
          have gi := (inv_all fin n).2.2.2.2.2.2 ⟨s.next.next.l, s.next.next.opn, 0⟩ _ _ ⟨by show 0 ≤ s.next.next.opn; omega, by show s.next.next.opn ≤ 40; omega, Int.le_refl _, by show (0:Int) ≤ 60; decide⟩ ha
          obtain ⟨⟨_, _, _, g60⟩, _, _⟩ := gi
          split at h
          · cases h
          · rename_i s3 hw2
            have := want_eq hw2
            subst this
            cases h
            have gp : (0 : Int) + (prt x + 0 : Nat) ≤ s2.parts := g.p
            have go : s.next.next.opn + (opn x + 0 : Nat) ≤ 40 := g.o
            have ge : s2.opn = s.next.next.opn := g.e
            have hn : Old.nameB t.text = true := by
              rcases ht t (by rw [e]; simp) with ⟨_, h1, h2, h3, h4⟩ | ⟨h, _⟩ | ⟨h, _⟩
              · exact decide_eq_true ⟨h1, h2, h3, h4⟩
              · omega
              · omega
            refine ⟨?_, TG.tail g.t, by show s2.opn = 0; omega⟩
            unfold defF
            dsimp only
            rw [hn, if_neg (by decide), if_neg (by omega), if_neg (by omega)]
            exact g.f
    · cases h
theorem defsN_ok {fin : Int} : ∀ (n : Nat) (s : PS) (acc l : List Dfn), TG s.l → s.opn = 0 → (∀ d ∈ acc, defF d = 0) → pDefs fin n s acc = .ok l → ∀ d ∈ l, defF d = 0
  | 0, s, acc, l, _, _, _, h => by simp [pDefs] at h
  | n + 1, s, acc, l, ht, ho, ha, h => by
    rw [pDefs] at h
    split at h
    · split at h
      · cases h
      · split at h
        · cases h
        · rename_i d s' hd
          obtain ⟨h1, h2, h3⟩ := defN_ok ht ho hd
          refine defsN_ok n s' _ l h2 h3 (fun x hx => ?_) h
          rcases List.mem_append.1 hx with hx | hx
          · exact ha x hx
          · rw [List.mem_singleton.1 hx]; exact h1
    · cases h; exact ha
theorem forth_ok {s : ByteArray} (h : (parseS s).2.code = 0) : 0 < (parseS s).1.length ∧ (parseS s).1.length ≤ 16 ∧ ∀ d ∈ (parseS s).1, defF d = 0 := by
  have hfit := (parseS_fit s).1
  have hg := (Old.scanR_good s).1
  unfold parseS at h hfit ⊢
  split at h
  · rename_i h0
    rw [if_pos h0] at hfit ⊢
    split at h
    · rename_i f he
      dsimp only at h
      exact absurd h (pDefs_err _ ⟨_, 0, 0⟩ _ _ (by show _ + 2 ≤ _ + 2; exact Nat.le_refl _) rfl he)
    · rename_i l hp
      rw [hp] at hfit
      dsimp only at hfit ⊢
      have hm := defs_more _ _ _ _ hp
      refine ⟨?_, hfit, defsN_ok _ ⟨_, 0, 0⟩ _ _ (fun t ht => (hg t ht).1) rfl (fun d hd => by simp at hd) hp⟩
      by_cases hl : 0 < (Old.scanR s).1.length
      · have := hm.2 hl; simpa using this
      · have e : (Old.scanR s).1 = [] := List.length_eq_zero_iff.1 (by omega)
        rw [parseToks, e, pDefs] at hp
        simp only [List.length_nil, Nat.lt_irrefl, or_true, if_true] at hp
        rw [if_neg (by decide)] at hp
        rw [pDef_nil rfl] at hp
        cases hp
  · exact absurd h (by rename_i h0; exact h0)
end Go.Proofs.Ytkfeccbahpmadaa
namespace Go.Proofs.Ytkfeccbahpmadaa
open Go.RowKit
set_option maxRecDepth 100000
-- SimX

theorem xF_name {x : Expr} (h : xF x = 0) : x.name.size ≤ 12 := by
  obtain ⟨h1, h2, _⟩ := xF_zero h
  unfold fNm at h2
  by_cases a2 : x.op = 2
  · rw [if_pos a2] at h2
    exact (of_decide_eq_true h2 : Old.NameP x.name).2.1
  · rw [if_neg a2] at h2
    by_cases a1 : x.op = 1
    · rw [if_pos a1] at h2
      exact (of_decide_eq_true h2 : Old.TermP x.name).2.1
    · unfold fOk at h1
      have e : x.name = ⟨#[]⟩ := by
        by_cases a3 : x.op = 3
        · simp [a3] at h1; exact h1.2
        · by_cases a4 : x.op = 4
          · simp [a4] at h1; exact h1.2
          · by_cases a5 : 5 ≤ x.op ∧ x.op ≤ 7
            · rw [if_neg (by omega), if_neg a3, if_neg a4, if_pos a5] at h1
              simp at h1; exact h1.2
            · rw [if_neg (by omega), if_neg a3, if_neg a4, if_neg a5] at h1; cases h1
      rw [e]; show 0 ≤ 12; omega
theorem xF_short : ∀ (N : Nat) (x : Expr), esz x < N → xF x = 0 → longE x = false
  | 0, _, h, _ => by omega
  | N + 1, x, h, h0 => by
    rw [longE_eq, Bool.or_eq_false_iff, longEs_any, List.any_eq_false]
    refine ⟨decide_eq_false (by have := xF_name h0; omega), fun y hy => ?_⟩
    have h2 := eszs_mem hy
    rw [esz_eq] at h
    rw [xF_short N y (by omega) ((xF_zero h0).2.2 y hy)]
    decide
theorem forth_fit {s : ByteArray} (h : (parseS s).2.code = 0) : ChkFit (parseS s).1 := by
  obtain ⟨_, h2, h3⟩ := forth_ok h
  have hf := (parseS_fit s).2
  exact ⟨by omega, fun d hd => by have := hf d hd; omega, fun d hd => by
    have := of_decide_eq_true (p := Old.NameP d.name) (defF_zero (h3 d hd)).1
    have := this.2.1
    omega, fun d hd => xF_short _ _ (Nat.lt_succ_self _) (defF_zero (h3 d hd)).2.2.2⟩
theorem forth_ren {s : ByteArray} (h : (parseS s).2.code = 0) (h0 : ¬ (renF (parseS s).1).code = 0) : renF (parseS s).1 = ⟨6, -1⟩ := by
  obtain ⟨h1, h2, h3⟩ := forth_ok h
  have e := renF_ok h1 h2 (fun j hj => h3 _ (List.getElem_mem hj))
  by_cases hs : 6000 < (txT (parseS s).1).size
  · rw [e, if_pos hs]
  · rw [if_neg hs] at e
    rw [e] at h0
    exact absurd rfl h0
set_option maxHeartbeats 4000000 in
theorem renderForth_sim (s : ByteArray) (hs : s.size ≤ maxLen) : ACalls Try.prog 11 [Str s] [] (B true) [] := by
  refine ACalls.intro (n := 46) Try.func11 rfl rfl (by simp) (by rfl) ?_
  simp only [argFr]
  have hss : (s.size : Int) ≤ 9223372036854775807 := by unfold maxLen at hs; omega
  by_cases hbig : 6000 < s.size
  · repeat (first | refine wk ?_ | refine s_field (hr := ?_))
    refine s_call [] (hA := renderBegun_sim) (hr := ?_)
    repeat (first | refine wk ?_ | refine s_field (hr := ?_))
    exact fin
  have h1 := parse_sim s hs
  unfold prR at h1
  by_cases hc : (parseS s).2.code = 0
  rotate_left
  · generalize parseS s = R at *
    obtain ⟨y, fl⟩ := R
    dsimp only at *
    repeat (first | refine wk ?_ | refine s_field (hr := ?_))
    refine s_call [] (hA := renderBegun_sim) (hr := ?_)
    repeat (first | refine wk ?_ | refine s_field (hr := ?_))
    refine s_call [] (hA := h1) (hr := ?_)
    repeat (first | refine wk ?_ | refine s_field (hr := ?_))
    exact fin
  have hfit := forth_fit hc
  have h2 := print_sim (t := false) hfit
  by_cases h0 : (renF (parseS s).1).code = 0
  rotate_left
  · have e := forth_ren hc h0
    have e6 : decide (renF (parseS s).1 = ⟨6, -1⟩) = true := decide_eq_true e
    rw [show printT (parseS s).1 = bs [] by unfold printT; rw [if_neg h0]] at h2
    clear e
    generalize renF (parseS s).1 = rf at *
    generalize parseS s = R at *
    obtain ⟨y, fl⟩ := R
    dsimp only at *
    repeat (first | refine wk ?_ | refine s_field (hr := ?_))
    refine s_call [] (hA := renderBegun_sim) (hr := ?_)
    repeat (first | refine wk ?_ | refine s_field (hr := ?_))
    refine s_call [] (hA := h1) (hr := ?_)
    repeat (first | refine wk ?_ | refine s_field (hr := ?_))
    refine s_call [] (hA := h2) (hr := ?_)
    repeat (first | refine wk ?_ | refine s_field (hr := ?_))
    exact fin
  obtain ⟨l', b1, b2⟩ := back_ok h0
  obtain ⟨g1, _, _, _, g5⟩ := renF_good h0
  have hp := parse_sim (txT (parseS s).1) (by unfold maxLen; omega)
  unfold prR at hp
  rw [b1] at hp
  dsimp only at hp
  rw [show printT (parseS s).1 = txT (parseS s).1 by unfold printT; rw [if_pos h0], g1] at h2
  have h3 := same_sim (t := false) (u := false) hfit.text (fit_nE b2 hfit).text
  rw [(same_iff (parseS s).1 l').2 b2.symm] at h3
  clear b1 b2 g1 g5 h0 hfit
  generalize txT (parseS s).1 = T at *
  generalize parseS s = R at *
  obtain ⟨y, fl⟩ := R
  dsimp only at *
  (repeat (first | refine wkz ?_ | refine s_field (hr := ?_)))
  refine s_call [] (hA := renderBegun_sim) (hr := ?_)
  (repeat (first | refine wkz ?_ | refine s_field (hr := ?_)))
  refine s_call [] (hA := h1) (hr := ?_)
  (repeat (first | refine wkz ?_ | refine s_field (hr := ?_)))
  refine s_call [] (hA := h2) (hr := ?_)
  (repeat (first | refine wkz ?_ | refine s_field (hr := ?_)))
  refine s_call [] (hA := hp) (hr := ?_)
  (repeat (first | refine wkz ?_ | refine s_field (hr := ?_)))
  refine s_call [] (hA := h3) (hr := ?_)
  (repeat (first | refine wkz ?_ | refine s_field (hr := ?_)))
  exact fin
end Go.Proofs.Ytkfeccbahpmadaa
