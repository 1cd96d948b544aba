/-
  Sim: the reference's Parse: as the parser.
-/
import Derived.Test.YtgcagjamjdnglaaSyU
import Derived.Test.YtgcagjamjdnglaaSynG
import Derived.Test.YtgcagjamjdnglaaTokRf
set_option linter.unusedVariables false
set_option linter.unusedSimpArgs false
set_option linter.unusedSectionVars false
namespace Go.Proofs.Ytgcagjamjdnglaa
open Go.RowKit
set_option maxRecDepth 100000
-- SimX

def RS.zero (r : RS) : RS := ⟨r.at_, r.opn, 0, r.f⟩
def rMid (L : List Tk) (en : Int) (n : Nat) (r : RS) : Expr × RS := if (r.adv.must L en (sgn 61)).zero.ok = true then rAlt L en n (r.adv.must L en (sgn 61)).zero else (zeroX, (r.adv.must L en (sgn 61)).zero)
section
variable {L : List Tk} {en : Int}
theorem kind_cons {r : RS} {t : Tk} {q : List Tk} (h0 : r.f.code = 0) (h : L.drop r.at_ = t :: q) : r.kind L = t.kind := by rw [RS.kind, RS.ok, if_pos (decide_eq_true h0), h]
theorem pgood {r : RS} (g : RGood L r) (h : r.f.code = 0) : (r.ps L).Good := ⟨g.2.1, g.2.2.1, g.2.2.2.1, g.2.2.2.2.2 h⟩
theorem zero_to {r : RS} (g : RGood L r) : RTo L r r.zero 0 := ⟨⟨g.1, g.2.1, g.2.2.1, Int.le_refl 0, by show (0 : Int) ≤ 61; decide, fun _ => by show (0 : Int) ≤ 60; decide⟩, rfl, Nat.le_refl _⟩
theorem rMid_to {n : Nat} {r : RS} (g : RGood L r) (h : r.at_ < L.length) : RTo L r (rMid L en n r).2 1 := by
  have a1 := adv_to g h
  have a2 := RTo.trans a1 (must_to (en := en) (x := sgn 61) a1.1)
  have a3 := RTo.trans a2 (zero_to a2.1)
  unfold rMid
  split
  · exact RTo.weak (RTo.trans a3 (rinv_all L en n _ a3.1).2.2.2.2) (by omega)
  · exact RTo.weak a3 (by omega)
theorem pDef_rel {n : Nat} {r : RS} (g : RGood L r) (h0 : r.f.code = 0) {t : Tk} {q : List Tk} (hl : L.drop r.at_ = t :: q) (hk : t.kind = 1) (hn : 5 * (t :: q).length + 8 ≤ n) : match pDef en n (r.ps L) with
    | .ok (d, s') => d = ⟨t.text, t.at_, (rMid L en n r).1⟩ ∧ ((rMid L en n r).2.must L en (sgn 59)).f.code = 0 ∧ ((rMid L en n r).2.must L en (sgn 59)).ps L = s'
    | .error f => ((rMid L en n r).2.must L en (sgn 59)).f = f ∧ f.code ≠ 0 := by
  have hlt : r.at_ < L.length := by
    have : (L.drop r.at_).length = (t :: q).length := by rw [hl]
    rw [List.length_drop, List.length_cons] at this; omega
  have a1 := adv_to g hlt
  have hp : pDef en n (r.ps L) = match (r.ps L).next.want en (sgn 61) with
      | .error f => .error f
      | .ok s1 => match pAlt en n ⟨s1.l, s1.opn, 0⟩ with
        | .error f => .error f
        | .ok (x, s2) => match s2.want en (sgn 59) with
          | .error f => .error f
          | .ok s3 => .ok (⟨t.text, t.at_, x⟩, s3) := by
    unfold pDef
    rw [show (r.ps L).l = t :: q from hl]
    dsimp only
    rw [if_pos hk]
    rfl
  rw [hp]
  have hm := must_rel (L := L) (en := en) (r := r.adv) h0 (sgn 61)
  rw [adv_ps] at hm
  have a2 := must_to (en := en) (x := sgn 61) a1.1
  have hat : r.at_ + 1 ≤ (r.adv.must L en (sgn 61)).at_ := a2.2.2
  have hlen : q.length = L.length - r.at_ - 1 := by
    have : (L.drop r.at_).length = (t :: q).length := by rw [hl]
    rw [List.length_drop, List.length_cons] at this; omega
  unfold rMid
  generalize r.adv.must L en (sgn 61) = r1 at *
  cases hw : (r.ps L).next.want en (sgn 61) with
  | error f =>
    rw [hw] at hm
    obtain ⟨m1, m2⟩ := hm
    have hb : r1.zero.f.code ≠ 0 := by show r1.f.code ≠ 0; rw [m1]; exact m2
    rw [RS.not_ok hb, if_neg (show ¬ (false = true) by decide)]
    dsimp only
    rw [RS.must_bad hb]
    exact ⟨m1, m2⟩
  | ok s1 =>
    rw [hw] at hm
    obtain ⟨m1, rfl⟩ := hm
    have hz : r1.zero.f.code = 0 := m1
    have hzok : r1.zero.ok = true := decide_eq_true hz
    have gz := (zero_to a2.1).1
    rw [hzok, if_pos rfl]
    have hps : r1.zero.ps L = ⟨(r1.ps L).l, (r1.ps L).opn, 0⟩ := rfl
    have hA := (rel_all L en n r1.zero hz (pgood gz hz)).2.2.2.2 (by show 5 * (L.drop r1.at_).length + 4 ≤ n; rw [List.length_drop]; simp only [List.length_cons] at hn; omega)
    have hgo := (rinv_all L en n _ gz).2.2.2.2
    rw [hps] at hA
    dsimp only
    generalize rAlt L en n r1.zero = z at *
    obtain ⟨x, r2⟩ := z
    dsimp only at hA ⊢
    cases ha : pAlt en n ⟨(r1.ps L).l, (r1.ps L).opn, 0⟩ with
    | error f =>
      rw [ha] at hA
      obtain ⟨q1, q2⟩ := hA
      have hb : r2.f.code ≠ 0 := by rw [q1]; exact q2
      dsimp only
      rw [RS.must_bad hb]
      exact ⟨q1, q2⟩
    | ok p =>
      obtain ⟨y, s2⟩ := p
      rw [ha] at hA
      obtain ⟨rfl, q1, rfl⟩ := hA
      have hm2 := must_rel (L := L) (en := en) q1 (sgn 59)
      dsimp only
      cases hw2 : (r2.ps L).want en (sgn 59) with
      | error f => rw [hw2] at hm2; exact hm2
      | ok s3 => rw [hw2] at hm2; exact ⟨rfl, hm2.1, hm2.2⟩
abbrev rdx (L : List Tk) (en : Int) (r : RS) : Ob := rdB L en r.at_ r.opn r.parts r.f.code r.f.at_
set_option maxHeartbeats 8000000 in
theorem parseRef_sim (s : ByteArray) (hs : s.size ≤ maxLen) : ACalls Try.prog 37 [Str s] [] (prR s) [] := by
  have hsc := scanRef_sim s hs
  have hlen : (Old.scanR s).1.length ≤ 6000 := scanR_len s
  refine ACalls.intro (n := 104) Try.func37 rfl rfl (by simp) (by rfl) ?_
  simp only [argFr]
  unfold prR parseS
  by_cases hf : (Old.scanR s).2.1 = 0
  rotate_left
  · rw [if_neg hf]
    generalize (Old.scanR s).1 = toks at *
    generalize (Old.scanR s).2.1 = fc at *
    generalize (Old.scanR s).2.2 = fat at *
    repeat (first | refine wk ?_ | refine s_field (hr := ?_))
    refine s_call [] (hA := hsc) (hr := ?_)
    repeat (first | refine wk ?_ | refine s_field (hr := ?_))
    exact Fin.r2 rfl (.aggT TY rfl rfl rfl rfl rfl) (.aggT TY rfl rfl rfl rfl rfl) (Co.tup ⟨Co.agg ⟨Co.nil false 5, trivial⟩, Co.agg (Cos.refl _), trivial⟩) (by repeat' (first | exact trivial | exact HElt.of rfl | refine And.intro ?_ ?_)) rfl
  rw [if_pos hf]
  unfold parseToks
  generalize (Old.scanR s).1 = toks at *
  rw [hf] at hsc
  generalize (Old.scanR s).2.2 = fat at *
  obtain ⟨R, hR⟩ : ∃ R, pDefs s.size (toks.length + 2) ⟨toks, 0, 0⟩ [] = R := ⟨_, rfl⟩
  rw [hR]
  have hss : (s.size : Int) ≤ 9223372036854775807 := by unfold maxLen at hs; omega
  repeat (first | refine wk ?_ | refine s_field (hr := ?_))
  refine s_call [] (hA := hsc) (hr := ?_)
  repeat (first | refine wk ?_ | refine s_field (hr := ?_))
  have g0 : RGood toks ⟨0, 0, 0, ⟨0, 0⟩⟩ := ⟨Nat.zero_le _, Int.le_refl 0, by show (0 : Int) ≤ 40; omega, Int.le_refl 0, by show (0 : Int) ≤ 61; omega, fun _ => by show (0 : Int) ≤ 60; omega⟩
  refine aw_nilCell 7 0 900 145 5 rfl rfl rfl rfl ?_
  refine t_loop (X := Nat × RS × List Dfn) (fun y => RGood toks y.2.1 ∧ y.2.2.length ≤ 16 ∧ ((y.2.1.f.code = 0 ∧ pDefs s.size y.1 (y.2.1.ps toks) y.2.2 = R ∧ (toks.length - y.2.1.at_) + 1 ≤ y.1) ∨ (∃ f, R = .error f ∧ y.2.1.f = f ∧ f.code ≠ 0)))
    (fun y => [(7, .ptr 7 0), (6, .ptr 23 0), (4, .d (tksD toks)), (3, .ptr 3 0), (2, .ptr 2 0)])
    (fun y => [(900, .row 145 5 (y.2.2.map (dfnD false))), (7, bxT (.own 900 y.2.2.length)), (23, rdx toks s.size y.2.1), (3, bxF (.d (iD 0)) (.d (iD 0))), (2, bxT (.d (.raw (.slice none 0 0))))]) (fun y => 2 * (toks.length - y.2.1.at_) + (decide (y.2.1.f.code = 0)).toNat) (toks.length + 2, ⟨0, 0, 0, ⟨0, 0⟩⟩, []) ⟨g0, Nat.zero_le _, .inl ⟨rfl, hR, by show toks.length - 0 + 1 ≤ toks.length + 2; omega⟩⟩ ?_
  rintro ⟨q, st, acc⟩ ⟨j1, j2, j3⟩
  dsimp only at j1 j2 j3 ⊢
  have co := rOk_sim (L := toks) (en := s.size) (r := st)
  rcases j3 with ⟨h0, hq, hqn⟩ | ⟨f, rfl, hff, hfn⟩
  rotate_left
  · have hno : st.ok = false := RS.not_ok (by rw [hff]; exact hfn)
    rw [hno] at co
    obtain ⟨ta, to, tp, tc, tca⟩ := st
    obtain rfl : f = ⟨tc, tca⟩ := hff.symm
    simp only [rdG] at co
    dsimp only [rdx]
    repeat (first | refine wk ?_ | refine s_field (hr := ?_))
    refine s_call [(1000, 23)] (hA := co) (hr := ?_)
    (repeat (first | refine wkz ?_ | refine s_field (hr := ?_)))
    refine s_call [(1000, 23)] (hA := co) (hr := ?_)
    (repeat (first | refine wkz ?_ | refine s_field (hr := ?_)))
    exact Fin.r2 rfl (.aggT TY rfl rfl rfl rfl rfl) (.aggT TY rfl rfl rfl rfl rfl) (Co.tup ⟨Co.agg ⟨Co.nil false 5, trivial⟩, Co.agg (Cos.refl _), trivial⟩) (by repeat' (first | exact trivial | exact HElt.of rfl | refine And.intro ?_ ?_)) rfl
  · have hyes : st.ok = true := decide_eq_true h0
    rw [hyes] at co
    obtain ⟨q, rfl⟩ : ∃ q', q = q' + 1 := ⟨q - 1, by omega⟩
    rw [pDefs] at hq
    have hpl : (st.ps toks).l.length = toks.length - st.at_ := List.length_drop ..
    rw [hpl] at hq
    have hat := j1.1
    by_cases hgo : 0 < toks.length - st.at_ ∨ acc.length = 0
    · rw [if_pos hgo] at hq
      by_cases h16 : acc.length = 16
      · rw [if_pos h16] at hq
        subst hq
        have cw := rWrong_sim (L := toks) (en := s.size) (r := st) (code := 6) (by omega)
        have co2 := rOk_sim (L := toks) (en := s.size) (r := st.wrong toks s.size 6)
        have hwf : (st.wrong toks s.size 6).f = (st.ps toks).gone s.size 6 := by rw [wrong_ok h0]
        have hno : (st.wrong toks s.size 6).ok = false := RS.not_ok (wrong_to j1 (by decide)).2.2.2
        rw [hno] at co2
        generalize (st.ps toks).gone s.size 6 = f at *
        generalize st.wrong toks s.size 6 = u at *
        have hlt : 0 < toks.length - st.at_ := by omega
        obtain ⟨ta, to, tp, tc, tca⟩ := st
        obtain ⟨ua, uo, up, uc, uca⟩ := u
        obtain rfl : f = ⟨uc, uca⟩ := hwf.symm
        simp only [rdG] at co cw co2
        dsimp only [rdx] at *
        repeat (first | refine wk ?_ | refine s_field (hr := ?_))
        refine s_call [(1000, 23)] (hA := co) (hr := ?_)
        repeat (first | refine wk ?_ | refine s_field (hr := ?_))
        --@
        refine s_call [(1000, 23)] (hA := cw) (hr := ?_)
        repeat (first | refine wk ?_ | refine s_field (hr := ?_))
        refine s_call [(1000, 23)] (hA := co2) (hr := ?_)
        repeat (first | refine wk ?_ | refine s_field (hr := ?_))
        exact Fin.r2 rfl (.aggT TY rfl rfl rfl rfl rfl) (.aggT TY rfl rfl rfl rfl rfl) (Co.tup ⟨Co.agg ⟨Co.nil false 5, trivial⟩, Co.agg (Cos.refl _), trivial⟩) (by repeat' (first | exact trivial | exact HElt.of rfl | refine And.intro ?_ ?_)) rfl
      rw [if_neg h16] at hq
      have ck := rKind_sim (L := toks) (en := s.size) (r := st) (by omega)
      by_cases hk1 : st.kind toks = 1
      rotate_left
      · have hpd : ∀ n, pDef s.size n (st.ps toks) = .error ((st.ps toks).gone s.size 3) := by
          intro n
          unfold pDef
          rw [show (st.ps toks).l = toks.drop st.at_ from rfl]
          rcases at_cases toks st.at_ with ⟨_, e⟩ | ⟨hlt, e⟩
          · rw [e]
          · rw [e]
            dsimp only
            rw [if_neg (by rw [← kind_cons h0 e]; exact hk1)]
        rw [hpd] at hq
        dsimp only at hq
        subst hq
        have cw := rWrong_sim (L := toks) (en := s.size) (r := st) (code := 3) (by omega)
        have co2 := rOk_sim (L := toks) (en := s.size) (r := st.wrong toks s.size 3)
        have hwf : (st.wrong toks s.size 3).f = (st.ps toks).gone s.size 3 := by rw [wrong_ok h0]
        have hno : (st.wrong toks s.size 3).ok = false := RS.not_ok (wrong_to j1 (by decide)).2.2.2
        rw [hno] at co2
        clear hpd
        generalize st.kind toks = k at *
        generalize (st.ps toks).gone s.size 3 = f at *
        generalize st.wrong toks s.size 3 = u at *
        obtain ⟨ta, to, tp, tc, tca⟩ := st
        obtain ⟨ua, uo, up, uc, uca⟩ := u
        obtain rfl : f = ⟨uc, uca⟩ := hwf.symm
        simp only [rdG] at co cw co2 ck
        dsimp only [rdx] at *
        rcases hgo with hlt | ha0
        · repeat (first | refine wk ?_ | refine s_field (hr := ?_))
          refine s_call [(1000, 23)] (hA := co) (hr := ?_)
          repeat (first | refine wk ?_ | refine s_field (hr := ?_))
          refine s_call [(1000, 23)] (hA := ck) (hr := ?_)
          repeat (first | refine wk ?_ | refine s_field (hr := ?_))
          refine s_call [(1000, 23)] (hA := cw) (hr := ?_)
          repeat (first | refine wk ?_ | refine s_field (hr := ?_))
          refine s_call [(1000, 23)] (hA := co2) (hr := ?_)
          repeat (first | refine wk ?_ | refine s_field (hr := ?_))
          exact Fin.r2 rfl (.aggT TY rfl rfl rfl rfl rfl) (.aggT TY rfl rfl rfl rfl rfl) (Co.tup ⟨Co.agg ⟨Co.nil false 5, trivial⟩, Co.agg (Cos.refl _), trivial⟩) (by repeat' (first | exact trivial | exact HElt.of rfl | refine And.intro ?_ ?_)) rfl
        · by_cases hlt : 0 < toks.length - ta
          · repeat (first | refine wk ?_ | refine s_field (hr := ?_))
            refine s_call [(1000, 23)] (hA := co) (hr := ?_)
            repeat (first | refine wk ?_ | refine s_field (hr := ?_))
            refine s_call [(1000, 23)] (hA := ck) (hr := ?_)
            repeat (first | refine wk ?_ | refine s_field (hr := ?_))
            refine s_call [(1000, 23)] (hA := cw) (hr := ?_)
            repeat (first | refine wk ?_ | refine s_field (hr := ?_))
            refine s_call [(1000, 23)] (hA := co2) (hr := ?_)
            repeat (first | refine wk ?_ | refine s_field (hr := ?_))
            exact Fin.r2 rfl (.aggT TY rfl rfl rfl rfl rfl) (.aggT TY rfl rfl rfl rfl rfl) (Co.tup ⟨Co.agg ⟨Co.nil false 5, trivial⟩, Co.agg (Cos.refl _), trivial⟩) (by repeat' (first | exact trivial | exact HElt.of rfl | refine And.intro ?_ ?_)) rfl
          · repeat (first | refine wk ?_ | refine s_field (hr := ?_))
            refine s_call [(1000, 23)] (hA := co) (hr := ?_)
            repeat (first | refine wk ?_ | refine s_field (hr := ?_))
            refine s_call [(1000, 23)] (hA := ck) (hr := ?_)
            repeat (first | refine wk ?_ | refine s_field (hr := ?_))
            refine s_call [(1000, 23)] (hA := cw) (hr := ?_)
            repeat (first | refine wk ?_ | refine s_field (hr := ?_))
            refine s_call [(1000, 23)] (hA := co2) (hr := ?_)
            repeat (first | refine wk ?_ | refine s_field (hr := ?_))
            exact Fin.r2 rfl (.aggT TY rfl rfl rfl rfl rfl) (.aggT TY rfl rfl rfl rfl rfl) (Co.tup ⟨Co.agg ⟨Co.nil false 5, trivial⟩, Co.agg (Cos.refl _), trivial⟩) (by repeat' (first | exact trivial | exact HElt.of rfl | refine And.intro ?_ ?_)) rfl
      · have hlt : st.at_ < toks.length := (kind_lt (L := toks) (r := st) (by omega)).1
        have hdr := List.drop_eq_getElem_cons hlt
        have hkt : toks[st.at_].kind = 1 := by rw [← kind_cons h0 hdr]; exact hk1
        have hrel := pDef_rel (L := toks) (en := s.size) (n := 5 * (toks.length - st.at_) + 8) j1 h0 hdr hkt (by simp only [List.length_cons, List.length_drop]; omega)
        have tm := rMid_to (L := toks) (en := s.size) (n := 5 * (toks.length - st.at_) + 8) j1 hlt
        have tf := RTo.trans tm (must_to (en := s.size) (x := sgn 59) tm.1)
        have a1 := adv_to j1 hlt
        have a2 := must_to (en := s.size) (x := sgn 61) a1.1
        have hat1 : st.at_ + 1 + 0 ≤ (st.adv.must toks s.size (sgn 61)).at_ := a2.2.2
        have cm1 := rMust_sim (L := toks) (en := s.size) (r := st.adv) (x := sgn 61) (by omega)
        have cz := rOk_sim (L := toks) (en := s.size) (r := (st.adv.must toks s.size (sgn 61)).zero)
        have cal := (rParser_all (L := toks) (en := s.size) (by omega) (5 * (toks.length - st.at_) + 8)).2.2 _ (zero_to a2.1).1 (by show 5 * (toks.length - (st.adv.must toks s.size (sgn 61)).at_) + 4 ≤ _; omega)
        unfold AltC at cal
        have cm2 := rMust_sim (L := toks) (en := s.size) (r := (rMid toks s.size (5 * (toks.length - st.at_) + 8) st).2) (x := sgn 59) (by omega)
        have hnext : ((((rMid toks s.size (5 * (toks.length - st.at_) + 8) st).2.must toks s.size (sgn 59)).f.code = 0 ∧ pDefs s.size q (((rMid toks s.size (5 * (toks.length - st.at_) + 8) st).2.must toks s.size (sgn 59)).ps toks) (acc ++ [⟨toks[st.at_].text, toks[st.at_].at_, (rMid toks s.size (5 * (toks.length - st.at_) + 8) st).1⟩]) = R ∧ (toks.length - ((rMid toks s.size (5 * (toks.length - st.at_) + 8) st).2.must toks s.size (sgn 59)).at_) + 1 ≤ q) ∨ (∃ f, R = .error f ∧ ((rMid toks s.size (5 * (toks.length - st.at_) + 8) st).2.must toks s.size (sgn 59)).f = f ∧ f.code ≠ 0)) := by
          have tfat : st.at_ + (1 + 0) ≤ ((rMid toks s.size (5 * (toks.length - st.at_) + 8) st).2.must toks s.size (sgn 59)).at_ := tf.2.2
          cases hpd : pDef s.size (5 * (toks.length - st.at_) + 8) (st.ps toks) with
          | error f =>
            rw [hpd] at hq hrel
            exact .inr ⟨f, hq.symm, hrel.1, hrel.2⟩
          | ok p =>
            obtain ⟨d, s'⟩ := p
            rw [hpd] at hq hrel
            obtain ⟨rfl, r2, rfl⟩ := hrel
            exact .inl ⟨r2, hq, by omega⟩
        have hgood := tf.1
        have hmeas : st.at_ + (1 + 0) ≤ ((rMid toks s.size (5 * (toks.length - st.at_) + 8) st).2.must toks s.size (sgn 59)).at_ := tf.2.2
        clear hq hrel tf tm a1 a2 hdr hkt hat1
        rw [hk1] at ck
        unfold rMid at hnext cm2 hgood hmeas
        generalize 5 * (toks.length - st.at_) + 8 = N at *
        generalize hNM : toks[st.at_].text = nm at *
        generalize hPL : toks[st.at_].at_ = pl at *
        have hfr : (st.adv.must toks s.size (sgn 61)).zero.ok = true ∨ (st.adv.must toks s.size (sgn 61)).zero.ok = false := by cases (st.adv.must toks s.size (sgn 61)).zero.ok <;> simp
        rcases hfr with hzo | hzo
        · rw [hzo] at cz
          rw [hzo, if_pos rfl] at hnext cm2 hgood hmeas
          generalize hA : rAlt toks s.size N (st.adv.must toks s.size (sgn 61)).zero = A at *
          clear hA hzo
          obtain ⟨x, al⟩ := A
          dsimp only at hnext cm2 hgood hmeas cal
          generalize al.must toks s.size (sgn 59) = m at *
          generalize st.adv.must toks s.size (sgn 61) = r1 at *
          obtain ⟨ta, to, tp, tc, tca⟩ := st
          obtain ⟨a1, o1, p1, c1, ca1⟩ := r1
          obtain ⟨aa, ao, ap, ac, aca⟩ := al
          obtain ⟨ma, mo, mp, mc, mca⟩ := m
          replace hlt : ta < toks.length := hlt
          replace hmeas : ta + (1 + 0) ≤ ma := hmeas
          have hma : ma ≤ toks.length := hgood.1
          replace hat : ta ≤ toks.length := hat
          have hlt0 : 0 < toks.length - ta := by omega
          replace hNM : (toks[ta]'hlt).text = nm := hNM
          replace hPL : (toks[ta]'hlt).at_ = pl := hPL
          simp only [rdG, RS.adv, RS.zero] at co ck cm1 cz cal cm2
          dsimp only [rdx]
          have e : acc.map (dfnD false) ++ [.agg [sD nm, iD pl, iD x.op, sD x.name, exprsD false x.l]] = (acc ++ [(⟨nm, pl, x⟩ : Dfn)]).map (dfnD false) := by rw [List.map_append]; rfl
          repeat (first | refine wk ?_ | refine s_field (hr := ?_))
          refine s_call [(1000, 23)] (hA := co) (hr := ?_)
          repeat (first | refine wk ?_ | refine s_field (hr := ?_))
          refine s_call [(1000, 23)] (hA := ck) (hr := ?_)
          repeat (first | refine wk ?_ | refine s_field (hr := ?_))
          refine s_call [(1000, 23)] (hA := cm1) (hr := ?_)
          repeat (first | refine wk ?_ | refine s_field (hr := ?_))
          refine s_call [(1000, 23)] (hA := cz) (hr := ?_)
          repeat (first | refine wk ?_ | refine s_field (hr := ?_))
          refine s_call [(1000, 23)] (hA := cal) (hr := ?_)
          repeat (first | refine wk ?_ | refine s_field (hr := ?_))
          refine s_call [(1000, 23)] (hA := cm2) (hr := ?_)
          repeat (first | refine wk ?_ | refine s_field (hr := ?_))
          --@
          rw [hNM, hPL, e, List.length_map]
          exact t_next (q, ⟨ma, mo, mp, ⟨mc, mca⟩⟩, acc ++ [(⟨nm, pl, x⟩ : Dfn)]) (a := ⟨hgood, by simp only [List.length_append, List.length_singleton]; omega, hnext⟩) (b := by dsimp only; have : (decide (mc = 0)).toNat ≤ 1 := Bool.toNat_le _; omega)
        · rw [hzo] at cz
          rw [hzo, if_neg (show ¬ (false = true) by decide)] at hnext cm2 hgood hmeas
          clear hzo cal
          dsimp only at hnext cm2 hgood hmeas
          generalize (st.adv.must toks s.size (sgn 61)).zero.must toks s.size (sgn 59) = m at *
          generalize st.adv.must toks s.size (sgn 61) = r1 at *
          obtain ⟨ta, to, tp, tc, tca⟩ := st
          obtain ⟨a1, o1, p1, c1, ca1⟩ := r1
          obtain ⟨ma, mo, mp, mc, mca⟩ := m
          replace hlt : ta < toks.length := hlt
          replace hmeas : ta + (1 + 0) ≤ ma := hmeas
          have hma : ma ≤ toks.length := hgood.1
          replace hat : ta ≤ toks.length := hat
          have hlt0 : 0 < toks.length - ta := by omega
          replace hNM : (toks[ta]'hlt).text = nm := hNM
          replace hPL : (toks[ta]'hlt).at_ = pl := hPL
          simp only [rdG, RS.adv, RS.zero] at co ck cm1 cz cm2
          dsimp only [rdx]
          have e : acc.map (dfnD false) ++ [.agg [sD nm, iD pl, iD 0, sD ⟨#[]⟩, .sl false 3 []]] = (acc ++ [(⟨nm, pl, zeroX⟩ : Dfn)]).map (dfnD false) := by rw [List.map_append]; rfl
          repeat (first | refine wk ?_ | refine s_field (hr := ?_))
          refine s_call [(1000, 23)] (hA := co) (hr := ?_)
          repeat (first | refine wk ?_ | refine s_field (hr := ?_))
          refine s_call [(1000, 23)] (hA := ck) (hr := ?_)
          repeat (first | refine wk ?_ | refine s_field (hr := ?_))
          refine s_call [(1000, 23)] (hA := cm1) (hr := ?_)
          repeat (first | refine wk ?_ | refine s_field (hr := ?_))
          refine s_call [(1000, 23)] (hA := cz) (hr := ?_)
          refine dops_end ?_
          refine andThen_n ?_
          rw [hNM, hPL]
          refine aw_weak [(82, B false), (8, .ptr 8 0), (7, .ptr 7 0), (6, .ptr 23 0), (4, .d (tksD toks)), (3, .ptr 3 0), (2, .ptr 2 0)] [(8, .box 145 [.d (sD nm), .d (iD pl), .d (iD 0), .d (sD ⟨#[]⟩), .d (.sl false 3 [])]), (900, .row 145 5 (acc.map (dfnD false))), (7, bxT (.own 900 acc.length)), (23, rdB toks s.size a1 o1 0 c1 ca1), (3, bxF (.d (iD 0)) (.d (iD 0))), (2, bxT (.d (.raw (.slice none 0 0))))] (by repeat' (first | exact trivial | exact VLe.refl _ | exact HElt.of rfl | refine And.intro ?_ ?_)) ⟨⟨_, rfl, .box ⟨VLe.refl _, VLe.refl _, VLe.refl _, VLe.refl _, VLe.nil _ _, trivial⟩⟩, HElt.of rfl, HElt.of rfl, HElt.of rfl, HElt.of rfl, HElt.of rfl, trivial⟩ rfl ?_
          repeat (first | refine wk ?_ | refine s_field (hr := ?_))
          refine s_call [(1000, 23)] (hA := cm2) (hr := ?_)
          repeat (first | refine wk ?_ | refine s_field (hr := ?_))
          --@
          rw [e, List.length_map]
          exact t_next (q, ⟨ma, mo, mp, ⟨mc, mca⟩⟩, acc ++ [(⟨nm, pl, zeroX⟩ : Dfn)]) (a := ⟨hgood, by simp only [List.length_append, List.length_singleton]; omega, hnext⟩) (b := by dsimp only; have : (decide (mc = 0)).toNat ≤ 1 := Bool.toNat_le _; omega)
    · rw [if_neg hgo] at hq
      subst hq
      obtain ⟨ta, to, tp, tc, tca⟩ := st
      simp only [rdG] at co
      dsimp only [rdx] at *
      refine aw_froz 900 rfl ?_
      repeat (first | refine wk ?_ | refine s_field (hr := ?_))
      refine s_call [(1000, 23)] (hA := co) (hr := ?_)
      repeat (first | refine wk ?_ | refine s_field (hr := ?_))
      refine s_call [(1000, 23)] (hA := co) (hr := ?_)
      repeat (first | refine wk ?_ | refine s_field (hr := ?_))
      --@
      exact Fin.r2 rfl (.aggT TY rfl rfl rfl rfl rfl) (.aggT TY rfl rfl rfl rfl rfl) (Co.tup ⟨Co.agg ⟨Co.froz rfl (by simp), trivial⟩, Co.agg (Cos.refl _), trivial⟩) (by repeat' (first | exact trivial | exact HElt.of rfl | refine And.intro ?_ ?_)) rfl
end
end Go.Proofs.Ytgcagjamjdnglaa
