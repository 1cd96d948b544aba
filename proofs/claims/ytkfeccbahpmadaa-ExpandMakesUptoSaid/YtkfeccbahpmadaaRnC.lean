/-
  Sim: faults of expressions (render and the reference). Sim: faults of expressions: the reference's exprFault.
-/
import Derived.Test.YtkfeccbahpmadaaRnA
import Derived.Test.YtkfeccbahpmadaaSyN
import Derived.Test.YtkfeccbahpmadaaG1
set_option linter.unusedVariables false
set_option linter.unusedSimpArgs false
set_option linter.unusedSectionVars false
namespace Go.Proofs.Ytkfeccbahpmadaa
open Go.RowKit
set_option maxRecDepth 100000
-- SimX

abbrev wkB (f : Fault) (a : Int) : Ob := .box 127 [I f.code, I f.at_, I a]
abbrev wkG (f : Fault) (a : Int) : Hp := [(1000, wkB f a)]
def failW (f : Fault) (a : Int) (b : Bool) (code : Int) : Fault := if b = true ∧ f.code = 0 then ⟨code, a⟩ else f
theorem wFail_sim {f : Fault} {a code : Int} {b : Bool} : ACalls Try.prog 90 [.ptr 1000 0, B b, I code] (wkG f a) (.tup []) (wkG (failW f a b code) a) := by
  refine ACalls.intro (n := 24) Try.func90 rfl rfl (by simp) (by rfl) ?_
  simp only [argFr]
  obtain ⟨c, ca⟩ := f
  simp only [wkG, wkB, failW]
  cases b with
  | false =>
    rw [if_neg (by simp)]
    (repeat (first | refine wkz ?_ | refine s_field (hr := ?_)))
    exact fin
  | true =>
    by_cases hc : c = 0
    · rw [if_pos ⟨rfl, hc⟩]
      repeat (first | refine wk ?_ | refine s_field (hr := ?_))
      exact fin
    · rw [if_neg (fun h => hc h.2)]
      repeat (first | refine wk ?_ | refine s_field (hr := ?_))
      exact fin
theorem isName_sim (s : ByteArray) (hs : s.size ≤ maxLen) : ACalls Try.prog 96 [Str s] [] (B (Old.nameB s)) [] :=
  ACalls.ofPure (xs := [.string s]) ⟨_, Try.func96, rfl, rfl⟩ rfl fun w => Old.isName_any s w hs
theorem isTerm_sim (s : ByteArray) (hs : s.size ≤ maxLen) : ACalls Try.prog 158 [Str s] [] (B (Old.termB s)) [] :=
  ACalls.ofPure (xs := [.string s]) ⟨_, Try.func158, rfl, rfl⟩ rfl fun w => Old.isTerm_any s w hs
def wkE (x : Expr) (f : Fault) (a : Int) : Fault := if f.code = 0 then (if xF x = 0 then f else ⟨xF x, a⟩) else f
def wkL (l : List Expr) (f : Fault) (a : Int) : Fault := if f.code = 0 then (if xFs l = 0 then f else ⟨xFs l, a⟩) else f
theorem wkL_step {l : List Expr} {i : Nat} {f : Fault} {a : Int} (h : i < l.length) : wkL (l.drop i) f a = wkL (l.drop (i + 1)) (wkE l[i] f a) a := by
  rw [List.drop_eq_getElem_cons h]
  unfold wkL wkE
  rw [xFs]
  by_cases hc : f.code = 0
  · rw [if_pos hc, if_pos hc]
    by_cases h0 : xF l[i] = 0
    · rw [if_pos h0, if_pos h0, if_pos hc]
    · rw [if_neg h0, if_neg h0, if_neg h0]
  · rw [if_neg hc, if_neg hc, if_neg hc]
theorem wkL_end {l : List Expr} {i : Nat} {f : Fault} {a : Int} (h : ¬ i < l.length) : wkL (l.drop i) f a = f := by
  rw [List.drop_of_length_le (by omega)]
  unfold wkL
  rw [xFs, if_pos rfl]
  split <;> rfl
theorem long_no {x : Expr} (h : longE x = false) : x.name.size ≤ 5000 ∧ ∀ y ∈ x.l, longE y = false := by
  rw [longE_eq, Bool.or_eq_false_iff, longEs_any, List.any_eq_false] at h
  exact ⟨by have := of_decide_eq_false h.1; omega, fun y hy => by simpa using h.2 y hy⟩
/-- Two pieces of code, and what follows. -/
theorem aw_cutS {P : Program} {n : Nat} {Q : Exit → Fr → Hp → Prop} {fr : Fr} {h : Hp} {a b y : Code} (F0 : Fr) (H0 : Hp) (hi : (frIn H0 F0 && hpIn H0 H0) = true)
    (h1 : aw P n a (andThen (aw P n b (andThen (Meet F0 H0) Q)) Q) fr h) (h2 : aw P n y Q F0 H0) : aw P n (.seq a (.seq b y)) Q fr h :=
  aw_seq (aw_mono h1 (fun e fr h q => by
    cases e with
    | normal => exact aw_cut F0 H0 hi q h2
    | _ => exact q))
def lOk (o : Int) (len : Nat) : Bool := if o = 1 ∨ o = 2 then decide (len = 0) else if o = 3 then decide (len ≠ 1) else if o = 4 then decide (2 ≤ len) else if 5 ≤ o ∧ o ≤ 7 then decide (len = 1) else false
abbrev oneO (o : Int) : Bool := decide (o = 1 ∨ o = 2)
theorem fOk_eq (o : Int) (n : ByteArray) (len : Nat) : fOk o n len = (lOk o len && (oneO o || decide (n = ⟨#[]⟩))) := by
  unfold fOk lOk oneO
  by_cases h : o = 1 ∨ o = 2
  · rw [if_pos h, if_pos h, decide_eq_true h, Bool.true_or, Bool.and_true]
  · rw [if_neg h, if_neg h, decide_eq_false h, Bool.false_or]
    by_cases h3 : o = 3
    · rw [if_pos h3, if_pos h3]
    · rw [if_neg h3, if_neg h3]
      by_cases h4 : o = 4
      · rw [if_pos h4, if_pos h4]
      · rw [if_neg h4, if_neg h4]
        by_cases h5 : 5 ≤ o ∧ o ≤ 7
        · rw [if_pos h5, if_pos h5]
        · rw [if_neg h5, if_neg h5, Bool.false_and]
set_option maxHeartbeats 4000000 in
theorem wExpr_gen : ∀ (N : Nat) {t : Bool} {x : Expr} {f : Fault} {a : Int}, esz x < N → esz x ≤ 100000000 → longE x = false →
    ACalls Try.prog 94 [.ptr 1000 0, .d (exprA t x)] (wkG f a) (.tup []) (wkG (wkE x f a) a) := by
  intro N
  induction N with
  | zero => intro t x f a h; omega
  | succ N ih =>
  intro t x f a hn hN hg
  refine ACalls.intro (n := 113) Try.func94 rfl rfl (by simp) (by rfl) ?_
  simp only [argFr]
  have hx := esz_eq x
  have hl := eszs_len x.l
  obtain ⟨g1, g2⟩ := long_no hg
  obtain ⟨c, ca⟩ := f
  simp only [wkG, wkB]
  repeat (first | refine wk ?_ | refine s_field (hr := ?_))
  by_cases hc : c = 0
  rotate_left
  · rw [show wkE x ⟨c, ca⟩ a = ⟨c, ca⟩ by unfold wkE; rw [if_neg hc]]
    repeat (first | refine wk ?_ | refine s_field (hr := ?_))
    exact fin
  subst hc
  refine aw_cut1 [(3, .ptr 3 0), (0, .ptr 1000 0)] [(3, exprBox t x), (1000, wkB ⟨0, ca⟩ a)] rfl ?_ ?_
  · repeat (first | refine wk ?_ | refine s_field (hr := ?_))
    exact meet
  refine aw_cutS [(4, B (oneO x.op)), (5, B (lOk x.op x.l.length)), (3, .ptr 3 0), (0, .ptr 1000 0)] [(3, exprBox t x), (1000, wkB ⟨0, ca⟩ a)] rfl ?_ ?_
  · by_cases h1 : x.op = 1
    · by_cases h0 : x.l.length = 0
      · (repeat (first | refine wkz ?_ | refine s_field (hr := ?_)))
        (exact meet (hf := ⟨bool_eq rfl (by simp [oneO, *] <;> omega), bool_eq rfl (by simp [lOk, *] <;> omega), .of rfl, .of rfl, trivial⟩))
      · (repeat (first | refine wkz ?_ | refine s_field (hr := ?_)))
        (exact meet (hf := ⟨bool_eq rfl (by simp [oneO, *] <;> omega), bool_eq rfl (by simp [lOk, *] <;> omega), .of rfl, .of rfl, trivial⟩))
    · by_cases h2 : x.op = 2
      · by_cases h0 : x.l.length = 0
        · (repeat (first | refine wkz ?_ | refine s_field (hr := ?_)))
          (exact meet (hf := ⟨bool_eq rfl (by simp [oneO, *] <;> omega), bool_eq rfl (by simp [lOk, *] <;> omega), .of rfl, .of rfl, trivial⟩))
        · (repeat (first | refine wkz ?_ | refine s_field (hr := ?_)))
          (exact meet (hf := ⟨bool_eq rfl (by simp [oneO, *] <;> omega), bool_eq rfl (by simp [lOk, *] <;> omega), .of rfl, .of rfl, trivial⟩))
      · by_cases h3 : x.op = 3
        · by_cases h0 : x.l.length = 1
          · (repeat (first | refine wkz ?_ | refine s_field (hr := ?_)))
            (exact meet (hf := ⟨bool_eq rfl (by simp [oneO, *] <;> omega), bool_eq rfl (by simp [lOk, *] <;> omega), .of rfl, .of rfl, trivial⟩))
          · (repeat (first | refine wkz ?_ | refine s_field (hr := ?_)))
            (exact meet (hf := ⟨bool_eq rfl (by simp [oneO, *] <;> omega), bool_eq rfl (by simp [lOk, *] <;> omega), .of rfl, .of rfl, trivial⟩))
        · by_cases h4 : x.op = 4
          · by_cases h0 : 2 ≤ x.l.length
            · (repeat (first | refine wkz ?_ | refine s_field (hr := ?_)))
              (exact meet (hf := ⟨bool_eq rfl (by simp [oneO, *] <;> omega), bool_eq rfl (by simp [lOk, *] <;> omega), .of rfl, .of rfl, trivial⟩))
            · (repeat (first | refine wkz ?_ | refine s_field (hr := ?_)))
              (exact meet (hf := ⟨bool_eq rfl (by simp [oneO, *] <;> omega), bool_eq rfl (by simp [lOk, *] <;> omega), .of rfl, .of rfl, trivial⟩))
          · by_cases h5 : 5 ≤ x.op
            · by_cases h7 : x.op ≤ 7
              · (repeat (first | refine wkz ?_ | refine s_field (hr := ?_)))
                (exact meet (hf := ⟨bool_eq rfl (by simp [oneO, *] <;> omega), bool_eq rfl (by simp [lOk, *] <;> omega), .of rfl, .of rfl, trivial⟩))
              · (repeat (first | refine wkz ?_ | refine s_field (hr := ?_)))
                (exact meet (hf := ⟨bool_eq rfl (by simp [oneO, *] <;> omega), bool_eq rfl (by simp [lOk, *] <;> omega), .of rfl, .of rfl, trivial⟩))
            · (repeat (first | refine wkz ?_ | refine s_field (hr := ?_)))
              (exact meet (hf := ⟨bool_eq rfl (by simp [oneO, *] <;> omega), bool_eq rfl (by simp [lOk, *] <;> omega), .of rfl, .of rfl, trivial⟩))
  have hw : wkE x ⟨0, ca⟩ a = wkL x.l (failW (failW ⟨0, ca⟩ a (!fOk x.op x.name x.l.length) 3) a (!fNm x.op x.name) 2) a := by
    unfold wkE wkL failW
    rw [xF_eq]
    cases fOk x.op x.name x.l.length <;> cases fNm x.op x.name <;> simp
  rw [hw]
  have hfo := fOk_eq x.op x.name x.l.length
  refine aw_cut [(3, .ptr 3 0), (0, .ptr 1000 0)] [(3, exprBox t x), (1000, wkB (failW ⟨0, ca⟩ a (!fOk x.op x.name x.l.length) 3) a)] rfl ?_ ?_
  · have hf1 := fun b => wFail_sim (f := ⟨0, ca⟩) (a := a) (code := 3) (b := b)
    simp only [wkG, wkB] at hf1 ⊢
    cases hlk : lOk x.op x.l.length with
    | false =>
      rw [hlk, Bool.false_and] at hfo
      rw [hfo]
      (repeat (first | refine wkz ?_ | refine s_field (hr := ?_)))
      refine s_call [] (hA := hf1 true) (hr := ?_)
      (repeat (first | refine wkz ?_ | refine s_field (hr := ?_)))
      exact meet
    | true =>
      rw [hlk, Bool.true_and] at hfo
      cases hon : oneO x.op with
      | true =>
        rw [hon, Bool.true_or] at hfo
        rw [hfo]
        (repeat (first | refine wkz ?_ | refine s_field (hr := ?_)))
        refine s_call [] (hA := hf1 false) (hr := ?_)
        (repeat (first | refine wkz ?_ | refine s_field (hr := ?_)))
        exact meet
      | false =>
        rw [hon, Bool.false_or] at hfo
        rw [hfo]
        (repeat (first | refine wkz ?_ | refine s_field (hr := ?_)))
        refine s_call [] (hA := hf1 (!decide (x.name = ⟨#[]⟩))) (hr := ?_)
        (repeat (first | refine wkz ?_ | refine s_field (hr := ?_)))
        exact meet
  generalize hf1 : failW ⟨0, ca⟩ a (!fOk x.op x.name x.l.length) 3 = f1 at *
  obtain ⟨c1, ca1⟩ := f1
  refine aw_cut [(3, .ptr 3 0), (0, .ptr 1000 0)] [(3, exprBox t x), (1000, wkB (failW ⟨c1, ca1⟩ a (!fNm x.op x.name) 2) a)] rfl ?_ ?_
  · have hf2 := fun b => wFail_sim (f := ⟨c1, ca1⟩) (a := a) (code := 2) (b := b)
    have hnm := name_sim x.name (by unfold maxLen; omega)
    have htm := term_sim x.name (by unfold maxLen; omega)
    simp only [wkG, wkB] at hf2 ⊢
    by_cases h2 : x.op = 2
    · rw [show fNm x.op x.name = Old.nameB x.name by unfold fNm; rw [if_pos h2]]
      cases hnb : Old.nameB x.name with
      | true =>
        rw [hnb] at hnm
        (repeat (first | refine wkz ?_ | refine s_field (hr := ?_)))
        refine s_call [] (hA := hnm) (hr := ?_)
        (repeat (first | refine wkz ?_ | refine s_field (hr := ?_)))
        refine s_call [] (hA := hf2 false) (hr := ?_)
        (repeat (first | refine wkz ?_ | refine s_field (hr := ?_)))
        exact meet
      | false =>
        rw [hnb] at hnm
        (repeat (first | refine wkz ?_ | refine s_field (hr := ?_)))
        refine s_call [] (hA := hnm) (hr := ?_)
        (repeat (first | refine wkz ?_ | refine s_field (hr := ?_)))
        refine s_call [] (hA := hf2 true) (hr := ?_)
        (repeat (first | refine wkz ?_ | refine s_field (hr := ?_)))
        exact meet
    · by_cases h1 : x.op = 1
      · rw [show fNm x.op x.name = Old.termB x.name by unfold fNm; rw [if_neg h2, if_pos h1]]
        cases hnb : Old.termB x.name with
        | true =>
          rw [hnb] at htm
          (repeat (first | refine wkz ?_ | refine s_field (hr := ?_)))
          refine s_call [] (hA := htm) (hr := ?_)
          (repeat (first | refine wkz ?_ | refine s_field (hr := ?_)))
          refine s_call [] (hA := hf2 false) (hr := ?_)
          (repeat (first | refine wkz ?_ | refine s_field (hr := ?_)))
          exact meet
        | false =>
          rw [hnb] at htm
          (repeat (first | refine wkz ?_ | refine s_field (hr := ?_)))
          refine s_call [] (hA := htm) (hr := ?_)
          (repeat (first | refine wkz ?_ | refine s_field (hr := ?_)))
          refine s_call [] (hA := hf2 true) (hr := ?_)
          (repeat (first | refine wkz ?_ | refine s_field (hr := ?_)))
          exact meet
      · rw [show fNm x.op x.name = true by unfold fNm; rw [if_neg h2, if_neg h1]]
        (repeat (first | refine wkz ?_ | refine s_field (hr := ?_)))
        refine s_call [] (hA := hf2 false) (hr := ?_)
        (repeat (first | refine wkz ?_ | refine s_field (hr := ?_)))
        exact meet
  generalize failW ⟨c1, ca1⟩ a (!fNm x.op x.name) 2 = f2 at *
  obtain ⟨c2, ca2⟩ := f2
  simp only [wkB]
  repeat (first | refine wk ?_ | refine s_field (hr := ?_))
  refine t_loop (X := Nat × Int × Int) (fun s => s.1 ≤ x.l.length ∧ wkL x.l ⟨c2, ca2⟩ a = wkL (x.l.drop s.1) ⟨s.2.1, s.2.2⟩ a) (fun s => [(105, I s.1), (104, I x.l.length), (103, .d (exprsD t x.l)), (3, .ptr 3 0), (0, .ptr 1000 0)]) (fun s => [(3, exprBox t x), (1000, .box 127 [I s.2.1, I s.2.2, I a])]) (fun s => x.l.length - s.1) (0, c2, ca2) ⟨Nat.zero_le _, rfl⟩ ?_
  rintro ⟨i, c3, ca3⟩ ⟨h1, h2⟩
  dsimp only at h1 h2 ⊢
  by_cases hlt : i < x.l.length
  · have hm := eszs_mem (List.getElem_mem hlt)
    have hih := ih (t := t) (x := x.l[i]) (f := ⟨c3, ca3⟩) (a := a) (by omega) (by omega) (g2 _ (List.getElem_mem hlt))
    rw [wkL_step hlt] at h2
    generalize wkE x.l[i] ⟨c3, ca3⟩ a = f4 at *
    obtain ⟨c4, ca4⟩ := f4
    simp only [wkG, wkB] at hih
    repeat (first | refine wk ?_ | refine s_field (hr := ?_))
    refine s_call [] (hA := hih) (hr := ?_)
    repeat (first | refine wk ?_ | refine s_field (hr := ?_))
    exact t_next (i + 1, c4, ca4) (a := ⟨by omega, h2⟩) (b := by dsimp only; omega)
  · rw [h2, wkL_end hlt]
    simp only [wkG, wkB]
    repeat (first | refine wk ?_ | refine s_field (hr := ?_))
    exact fin
end Go.Proofs.Ytkfeccbahpmadaa
namespace Go.Proofs.Ytkfeccbahpmadaa
open Go.RowKit
set_option maxRecDepth 100000
-- SimX

theorem aw_cutC {P : Program} {n : Nat} {Q : Exit → Fr → Hp → Prop} {fr : Fr} {h : Hp} {x z y : Code} {id : Nat} (F0 : Fr) (H0 : Hp) (hi : (frIn H0 F0 && hpIn H0 H0) = true)
    (h1 : aw P n x (andThen (aw P n z (inBlock id (andThen (Meet F0 H0) Q))) (inBlock id (andThen (Meet F0 H0) Q))) fr h) (h2 : aw P n y Q F0 H0) : aw P n x (andThen (aw P n z (inBlock id (andThen (aw P n y Q) Q))) (inBlock id (andThen (aw P n y Q) Q))) fr h := by
  have key : ∀ e fr h, andThen (Meet F0 H0) Q e fr h → andThen (aw P n y Q) Q e fr h := fun e fr h q => by
    cases e with
    | normal => exact aw_weak F0 H0 q.1 q.2 hi h2
    | _ => exact q
  have kb : ∀ e fr h, inBlock id (andThen (Meet F0 H0) Q) e fr h → inBlock id (andThen (aw P n y Q) Q) e fr h := fun e fr h q => by
    cases e with
    | exit id' =>
      simp only [inBlock] at q ⊢
      cases hb : Nat.beq id' id with
      | true => rw [hb] at q; exact key .normal _ _ q
      | false => rw [hb] at q; exact key (.exit id') _ _ q
    | normal => exact key .normal _ _ q
    | ret => exact key .ret _ _ q
    | goto _ => exact key (.goto _) _ _ q
    | panic _ => exact key (.panic _) _ _ q
    | outgrown => exact key .outgrown _ _ q
  refine aw_mono h1 (fun e fr h q => ?_)
  cases e with
  | normal => exact aw_mono q kb
  | exit i => exact kb (.exit i) _ _ q
  | ret => exact kb .ret _ _ q
  | goto i => exact kb (.goto i) _ _ q
  | panic i => exact kb (.panic i) _ _ q
  | outgrown => exact kb .outgrown _ _ q
theorem xFs_step {l : List Expr} {i : Nat} (h : i < l.length) : xFs (l.drop i) = if xF l[i] = 0 then xFs (l.drop (i + 1)) else xF l[i] := by
  rw [List.drop_eq_getElem_cons h, xFs]
set_option maxHeartbeats 4000000 in
theorem exprFault_gen : ∀ (N : Nat) {t : Bool} {x : Expr}, esz x < N → esz x ≤ 100000000 → longE x = false →
    ACalls Try.prog 99 [.d (exprA t x)] [] (I (xF x)) [] := by
  intro N
  induction N with
  | zero => intro t x h; omega
  | succ N ih =>
  intro t x hn hN hg
  refine ACalls.intro (n := 82) Try.func99 rfl rfl (by simp) (by rfl) ?_
  simp only [argFr]
  have hx := esz_eq x
  have hl := eszs_len x.l
  obtain ⟨g1, g2⟩ := long_no hg
  repeat (first | refine wk ?_ | refine s_field (hr := ?_))
  refine aw_cutC [(4, B (fOk x.op x.name x.l.length)), (3, I x.l.length), (1, .ptr 1 0)] [(1, exprBox t x)] rfl ?_ ?_
  · by_cases h1 : x.op = 1
    · repeat (first | refine wk ?_ | refine s_field (hr := ?_))
      (exact meet (hf := ⟨bool_eq rfl (by simp [fOk, *] <;> omega), .of rfl, .of rfl, trivial⟩))
    · by_cases h2 : x.op = 2
      · repeat (first | refine wk ?_ | refine s_field (hr := ?_))
        (exact meet (hf := ⟨bool_eq rfl (by simp [fOk, *] <;> omega), .of rfl, .of rfl, trivial⟩))
      · by_cases h3 : x.op = 3
        · by_cases h0 : x.l.length = 1
          · (repeat (first | refine wkz ?_ | refine s_field (hr := ?_)))
            (exact meet (hf := ⟨bool_eq rfl (by simp [fOk, *] <;> omega), .of rfl, .of rfl, trivial⟩))
          · (repeat (first | refine wkz ?_ | refine s_field (hr := ?_)))
            (exact meet (hf := ⟨bool_eq rfl (by simp [fOk, *] <;> omega), .of rfl, .of rfl, trivial⟩))
        · by_cases h4 : x.op = 4
          · by_cases h0 : 2 ≤ x.l.length
            · (repeat (first | refine wkz ?_ | refine s_field (hr := ?_)))
              (exact meet (hf := ⟨bool_eq rfl (by simp [fOk, *] <;> omega), .of rfl, .of rfl, trivial⟩))
            · (repeat (first | refine wkz ?_ | refine s_field (hr := ?_)))
              (exact meet (hf := ⟨bool_eq rfl (by simp [fOk, *] <;> omega), .of rfl, .of rfl, trivial⟩))
          · by_cases h5 : 5 ≤ x.op ∧ x.op ≤ 7
            · by_cases h50 : x.op = 5
              · by_cases h0 : x.l.length = 1
                · (repeat (first | refine wkz ?_ | refine s_field (hr := ?_)))
                  (exact meet (hf := ⟨bool_eq rfl (by simp [fOk, *] <;> omega), .of rfl, .of rfl, trivial⟩))
                · (repeat (first | refine wkz ?_ | refine s_field (hr := ?_)))
                  (exact meet (hf := ⟨bool_eq rfl (by simp [fOk, *] <;> omega), .of rfl, .of rfl, trivial⟩))
              · by_cases h60 : x.op = 6
                · by_cases h0 : x.l.length = 1
                  · (repeat (first | refine wkz ?_ | refine s_field (hr := ?_)))
                    (exact meet (hf := ⟨bool_eq rfl (by simp [fOk, *] <;> omega), .of rfl, .of rfl, trivial⟩))
                  · (repeat (first | refine wkz ?_ | refine s_field (hr := ?_)))
                    (exact meet (hf := ⟨bool_eq rfl (by simp [fOk, *] <;> omega), .of rfl, .of rfl, trivial⟩))
                · have h70 : x.op = 7 := by omega
                  by_cases h0 : x.l.length = 1
                  · (repeat (first | refine wkz ?_ | refine s_field (hr := ?_)))
                    (exact meet (hf := ⟨bool_eq rfl (by simp [fOk, *] <;> omega), .of rfl, .of rfl, trivial⟩))
                  · (repeat (first | refine wkz ?_ | refine s_field (hr := ?_)))
                    (exact meet (hf := ⟨bool_eq rfl (by simp [fOk, *] <;> omega), .of rfl, .of rfl, trivial⟩))
            · have h50 : ¬ x.op = 5 := by omega
              have h60 : ¬ x.op = 6 := by omega
              have h70 : ¬ x.op = 7 := by omega
              (repeat (first | refine wkz ?_ | refine s_field (hr := ?_)))
              (exact meet (hf := ⟨bool_eq rfl (by simp [fOk, *] <;> omega), .of rfl, .of rfl, trivial⟩))
  rw [xF_eq]
  cases hfo : fOk x.op x.name x.l.length with
  | false =>
    rw [if_pos rfl]
    repeat (first | refine wk ?_ | refine s_field (hr := ?_))
    exact fin
  | true =>
  rw [if_neg (by decide)]
  have hnm := isName_sim x.name (by unfold maxLen; omega)
  have htm := isTerm_sim x.name (by unfold maxLen; omega)
  refine aw_cut [(3, I x.l.length), (1, .ptr 1 0)] [(1, exprBox t x)] rfl ?_ ?_
  · repeat (first | refine wk ?_ | refine s_field (hr := ?_))
    exact meet
  cases hfn : fNm x.op x.name with
  | false =>
    rw [if_pos rfl]
    by_cases h2 : x.op = 2
    · have e : Old.nameB x.name = false := by rw [← hfn]; unfold fNm; rw [if_pos h2]
      rw [e] at hnm
      (repeat (first | refine wkz ?_ | refine s_field (hr := ?_)))
      refine s_call [] (hA := hnm) (hr := ?_)
      (repeat (first | refine wkz ?_ | refine s_field (hr := ?_)))
      exact fin
    · by_cases h1 : x.op = 1
      · have e : Old.termB x.name = false := by rw [← hfn]; unfold fNm; rw [if_neg h2, if_pos h1]
        rw [e] at htm
        (repeat (first | refine wkz ?_ | refine s_field (hr := ?_)))
        refine s_call [] (hA := htm) (hr := ?_)
        (repeat (first | refine wkz ?_ | refine s_field (hr := ?_)))
        exact fin
      · unfold fNm at hfn
        rw [if_neg h2, if_neg h1] at hfn
        cases hfn
  | true =>
  rw [if_neg (by decide)]
  refine aw_cut [(3, I x.l.length), (1, .ptr 1 0)] [(1, exprBox t x)] rfl ?_ ?_
  · by_cases h2 : x.op = 2
    · have e : Old.nameB x.name = true := by rw [← hfn]; unfold fNm; rw [if_pos h2]
      rw [e] at hnm
      (repeat (first | refine wkz ?_ | refine s_field (hr := ?_)))
      refine s_call [] (hA := hnm) (hr := ?_)
      (repeat (first | refine wkz ?_ | refine s_field (hr := ?_)))
      exact meet
    · by_cases h1 : x.op = 1
      · have e : Old.termB x.name = true := by rw [← hfn]; unfold fNm; rw [if_neg h2, if_pos h1]
        rw [e] at htm
        (repeat (first | refine wkz ?_ | refine s_field (hr := ?_)))
        refine s_call [] (hA := htm) (hr := ?_)
        (repeat (first | refine wkz ?_ | refine s_field (hr := ?_)))
        exact meet
      · (repeat (first | refine wkz ?_ | refine s_field (hr := ?_)))
        exact meet
  repeat (first | refine wk ?_ | refine s_field (hr := ?_))
  refine t_loop (X := Nat) (fun i => i ≤ x.l.length ∧ xFs x.l = xFs (x.l.drop i)) (fun i => [(5, I i), (3, I x.l.length), (1, .ptr 1 0)]) (fun _ => [(1, exprBox t x)]) (fun i => x.l.length - i) 0 ⟨Nat.zero_le _, rfl⟩ ?_
  rintro i ⟨h1, h2⟩
  by_cases hlt : i < x.l.length
  · have hm := eszs_mem (List.getElem_mem hlt)
    have hih := ih (t := t) (x := x.l[i]) (by omega) (by omega) (g2 _ (List.getElem_mem hlt))
    rw [xFs_step hlt] at h2
    by_cases h0 : xF x.l[i] = 0
    · rw [if_pos h0] at h2
      rw [h0] at hih
      repeat (first | refine wk ?_ | refine s_field (hr := ?_))
      refine s_call [] (hA := hih) (hr := ?_)
      repeat (first | refine wk ?_ | refine s_field (hr := ?_))
      exact t_next (i + 1) (a := ⟨by omega, h2⟩)
    · rw [if_neg h0] at h2
      rw [h2]
      repeat (first | refine wk ?_ | refine s_field (hr := ?_))
      refine s_call [] (hA := hih) (hr := ?_)
      repeat (first | refine wk ?_ | refine s_field (hr := ?_))
      exact fin
  · rw [h2, List.drop_of_length_le (by omega), xFs]
    repeat (first | refine wk ?_ | refine s_field (hr := ?_))
    exact fin
end Go.Proofs.Ytkfeccbahpmadaa
