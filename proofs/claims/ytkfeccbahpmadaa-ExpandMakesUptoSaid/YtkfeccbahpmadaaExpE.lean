/-
  Sim: expand.Make.
-/
import Derived.Test.YtkfeccbahpmadaaExC
import Derived.Test.YtkfeccbahpmadaaDeD
import Derived.Test.YtkfeccbahpmadaaDefsF
import Derived.Test.YtkfeccbahpmadaaSynG
set_option linter.unusedVariables false
set_option linter.unusedSimpArgs false
set_option linter.unusedSectionVars false
namespace Go.Proofs.Ytkfeccbahpmadaa
open Go.RowKit
set_option maxRecDepth 100000
-- SimX

structure Made where
  vars : Int
  terms : Int
  rules : List Rule
  nm : List ByteArray
  tm : List ByteArray
def madeD (m : Made) : D := .agg [iD m.vars, iD m.terms, iD 0, rulesD false m.rules, strs false m.nm, strs false m.tm]
def noMade : Made := ⟨0, 0, [], [], []⟩
def expS (l : List Dfn) : Except Nat XS := xDefs (xR (trms l) (nms l) (dszs l)) 0 l ⟨l.length, []⟩
def expM (l : List Dfn) : Made × Fault :=
  if (defsF l).code = 0 then
    match expS l with
    | .error i => (noMade, ⟨6, i⟩)
    | .ok s => (⟨s.vars, (trms l).length, s.rules, nms l, trms l⟩, ⟨0, 0⟩)
  else (noMade, defsF l)
abbrev bxM (cs : List V) : Ob := .box 73 cs
abbrev zM : List V := [I 0, I 0, I 0, .d (.raw (.slice none 0 0)), .d (.raw (.slice none 0 0)), .d (.raw (.slice none 0 0))]
/-- The deferred call, where nothing went wrong. -/
theorem xclosN {a b c e f g k : D} {m sz : Nat} {xs : List D} : ADefer Try.prog 133 (ptrs [1002, 1003]) [(1002, bxM [.d a, .d b, .d c, .own 900 m, .d e, .d f]), (1003, bxF (.d g) (.d k)), (900, .froz sz xs)] .returning .returning [(1002, bxM [.d a, .d b, .d c, .own 900 m, .d e, .d f]), (1003, bxF (.d g) (.d k)), (900, .froz sz xs)] := by
  refine ADefer.intro (v := .nilIface) (n := 18) (d1 := 5) (d2 := 2) Try.func133 rfl rfl (by simp [ptrs]) (fun ρ w => rfl) (fun ρ w => rfl) rfl rfl .nil rfl rfl ?_
  simp only [ptrs, List.map_cons, List.map_nil, argFr]
  repeat (first | refine wk ?_ | refine s_field (hr := ?_))
  refine d_neNil (u := .nilIface) (b := true) rfl gOk_none rfl rfl Try.underlying20 ?_
  repeat (first | refine wk ?_ | refine s_field (hr := ?_))
  exact fin
theorem xclosP {at_ : Int} : ADefer Try.prog 133 (ptrs [1002, 1003]) [(1002, bxM zM), (1003, bxF (.d (iD 0)) (.d (iD 0)))] (.panicking [{ v := goneX at_, recovered := false }]) (.panicking [{ v := goneX at_, recovered := true }]) [(1002, bxM zM), (1003, bxF (I 6) (I at_))] := by
  refine ADefer.intro (v := goneX at_) (n := 18) (d1 := 5) (d2 := 2) Try.func133 rfl rfl (by simp [ptrs]) (fun ρ w => rfl) (fun ρ w => rfl) rfl rfl (.pan _) rfl rfl ?_
  simp only [ptrs, List.map_cons, List.map_nil, argFr]
  repeat (first | refine wk ?_ | refine s_field (hr := ?_))
  refine d_neNil (u := goneX at_) (b := false) rfl gOk_none rfl rfl Try.underlying20 ?_
  repeat (first | refine wk ?_ | refine s_field (hr := ?_))
  refine d_assert (us := [.int .i64 6, .int .i64 at_]) rfl gOk_none rfl Try.underlying186 rfl rfl rfl ?_
  repeat (first | refine wk ?_ | refine s_field (hr := ?_))
  exact fin
theorem xDefs_at {f : XF} : ∀ {l : List Dfn} {i : Nat} {s : XS}, (∀ s', xDefs f i l s = .ok s' → s.Good → (∀ d ∈ l, ∀ s v s', s.Good → xAll f v false false (waysE d.e) s = .ok s' → s'.Good) → s'.Good)
  | [], _, _ => fun s' h g _ => by cases h; exact g
  | d :: l, i, s => fun s' h g hd => by
    rw [xDefs] at h
    cases hc : xAll f i false false (waysE d.e) s with
    | error e => rw [hc] at h; cases h
    | ok s1 =>
      rw [hc] at h
      exact xDefs_at s' h (hd d (by simp) _ _ _ g hc) (fun d' hd' => hd d' (by simp [hd']))
theorem xAll_good (tm nm : List ByteArray) {n : Nat} {x : Expr} {v : Int} {s s' : XS} (hx : xF x = 0) (hn : esz x ≤ n) (g : s.Good) (h : xAll (xR tm nm n) v false false (waysE x) s = .ok s') : s'.Good := by
  have := all_same (f := xR tm nm n) (g := yR tm nm n) (P := fun y => xF y = 0 ∧ esz y ≤ n) (v := v) (ag := false) (al := false) (pl := true) rfl (fun y s h g => xR_same tm nm n y s h.1 h.2 g) (waysE x) s (fun y hy => ⟨waysE_xF hx y hy, Nat.le_trans (waysE_esz hy) hn⟩) g
  rw [h] at this
  exact this.2
theorem defs_ren {l : List Dfn} (h : (defsF l).code = 0) : (renF l).code = 0 := by
  unfold defsF at h
  split at h
  · rename_i h0; exact h0
  · exact h
theorem defs_ok {l : List Dfn} (h : (defsF l).code = 0) : l.length ≤ 16 ∧ ∀ d ∈ l, xF d.e = 0 := by
  obtain ⟨_, _, h2, h3, _⟩ := renF_good (defs_ren h)
  refine ⟨h2, fun d hd => ?_⟩
  obtain ⟨j, hj, rfl⟩ := List.getElem_of_mem hd
  exact (defF_zero (h3 j hj)).2.2.2
set_option maxHeartbeats 16000000 in
theorem make_sim {t : Bool} {l : List Dfn} (hf : DefFit l) : ACalls Try.prog 58 [.d (textD t l)] [] (.tup [.d (madeD (expM l).1), .d (faultD (expM l).2)]) [] := by
  have hck := defsCheck_sim (t := t) hf
  refine ACalls.introD (n := 66) Try.func58 rfl rfl (by simp) (by rfl) rfl ?_
  rintro ⟨n, w0, S, E0, h0, o, df⟩ hn hd
  dsimp only at hn hd
  subst hn
  subst hd
  simp only [argFr]
  by_cases hc : (defsF l).code = 0
  rotate_left
  · rw [show expM l = (noMade, defsF l) by unfold expM; rw [if_neg hc]]
    dsimp only
    generalize defsF l = F at *
    refine awT_seq rfl rfl ?_
    repeat (first | refine wk ?_ | refine s_field (hr := ?_))
    refine awT_seq rfl rfl ?_
    repeat (first | refine wk ?_ | refine s_field (hr := ?_))
    refine s_call [] (hA := hck) (hr := ?_)
    repeat (first | refine wk ?_ | refine s_field (hr := ?_))
    exact fin2
  have hl100 := hf.l100
  have hnm := names_sim (t := t) (l := l) (by omega)
  have htm := terms_sim (t := t) hl100 hf.e5
  have hnl : (nms l).length ≤ 100 := by simp [nms]; omega
  have htl : (trms l).length ≤ 1000 := by
    have := ((defsF_iff (defs_ren hc)).1 hc).2.2; omega
  have hl16 : l.length ≤ 16 := (defs_ok hc).1
  have hgood := (fun (d : Dfn) (hd : d ∈ l) => (⟨(defs_ok hc).2 d hd, dszs_mem hd, by have := hf.e5 d hd; omega⟩ : xF d.e = 0 ∧ esz d.e ≤ dszs l ∧ esz d.e ≤ 500000))
  cases hres : expS l with
  | error q =>
    rw [show expM l = (noMade, ⟨6, q⟩) by unfold expM; rw [if_pos hc, hres]]
    unfold expS at hres
    have hgw := fun (d : Dfn) (hd : d ∈ l) => hgood d hd
    generalize trms l = tm at *
    generalize nms l = nm at *
    dsimp only
    refine awT_seq rfl rfl ?_
    repeat (first | refine wk ?_ | refine s_field (hr := ?_))
    refine awT_seq rfl rfl ?_
    repeat (first | refine wk ?_ | refine s_field (hr := ?_))
    refine s_call [] (hA := hck) (hr := ?_)
    repeat (first | refine wk ?_ | refine s_field (hr := ?_))
    refine awT_defer (d1 := 15) (fd := 133) (xs := [.tmp 2, .tmp 3]) [(1002, 2), (1003, 3), (1004, 1)] [(1002, bxM zM), (1003, bxF (.d (iD 0)) (.d (iD 0))), (1004, .box 44 [.d (dfnsD t l)])] [(2, .ptr 1002 0), (3, .ptr 1003 0), (1, .ptr 1004 0)] [1002, 1003] (.panicking [{ v := goneX q, recovered := false }]) (.panicking [{ v := goneX q, recovered := true }]) [(2, 1002), (3, 1003)] [(1002, bxM zM), (1003, bxF (.d (iD 0)) (.d (iD 0)))] [(1002, bxM zM), (1003, bxF (I 6) (I q))]
      rfl rfl rfl ⟨rfl, rfl, trivial⟩ rfl rfl rfl (fun ρ cs w h => by simp [execOp, resolve, Deferred.ofValue, h]) ⟨_, Try.func133, rfl, rfl⟩ ⟨rfl, rfl, rfl, trivial⟩ rfl rfl rfl ⟨⟨rfl, rfl⟩, ⟨rfl, rfl⟩, ⟨rfl, rfl⟩, trivial⟩ rfl rfl rfl rfl rfl rfl rfl (by intro h; cases h) xclosP
      (vs := [.agg zM, .agg [I 6, I q]]) ⟨.aggT TY rfl rfl rfl rfl rfl, .aggT TY rfl rfl rfl rfl rfl, trivial⟩ (Co.tup ⟨Co.agg ⟨Co.refl _, Co.refl _, Co.refl _, Co.nil false 2, Co.nil false 1, Co.nil false 1, trivial⟩, Co.agg (Cos.refl _), trivial⟩) rfl ?_
    repeat (first | refine wk ?_ | refine s_field (hr := ?_))
    refine s_call [] (hA := hnm) (hr := ?_)
    repeat (first | refine wk ?_ | refine s_field (hr := ?_))
    refine s_call [] (hA := htm) (hr := ?_)
    repeat (first | refine wk ?_ | refine s_field (hr := ?_))
    refine aw_nilCell 21 5 900 41 2 rfl rfl rfl rfl ?_
    refine t_loop (X := Nat × XS × Int) (fun y => xDefs (xR tm nm (dszs l)) y.1 (l.drop y.1) y.2.1 = .error q ∧ y.2.1.Good ∧ y.1 ≤ l.length) (fun y => [(37, I y.1), (36, I l.length), (35, .d (dfnsD t l)), (5, .ptr 21 0), (2, .ptr 1002 0), (3, .ptr 1003 0)])
      (fun y => [(21, .box 190 [.d (strs false nm), .d (strs false tm), I y.2.1.vars, I tm.length, I 0, .own 900 y.2.1.rules.length, I y.2.2]), (900, .row 41 2 (y.2.1.rules.map (ruleD false))), (1002, bxM zM), (1003, bxF (.d (iD 0)) (.d (iD 0)))]) (fun y => l.length - y.1) (0, ⟨l.length, []⟩, 0) ⟨hres, ⟨by dsimp only; omega, by dsimp only; omega, by simp⟩, Nat.zero_le _⟩ ?_
    rintro ⟨i, s, a⟩ ⟨j1, j2, j3⟩
    dsimp only at j1 j2 j3 ⊢
    by_cases hlt : i < l.length
    rotate_left
    · rw [List.drop_of_length_le (by omega), xDefs] at j1
      cases j1
    rw [List.drop_eq_getElem_cons hlt, xDefs] at j1
    obtain ⟨q1, q2, q3⟩ := hgw l[i] (List.getElem_mem hlt)
    have ha := all_gen (nm := nm) (tm := tm) (at_ := (i : Int)) (t := t) (n := dszs l) (x := l[i].e) (v := (i : Int)) (by omega) (by omega) q1 q2 q3 j2
    have hgd := fun s' => xAll_good tm nm (n := dszs l) (x := l[i].e) (v := (i : Int)) (s' := s') q1 q2 j2
    cases hac : xAll (xR tm nm (dszs l)) (i : Int) false false (waysE l[i].e) s with
    | error z =>
      rw [hac] at j1 ha
      obtain rfl : i = q := by injection j1
      replace ha : APan Try.prog 134 [.ptr 1000 0, I i, .d (exprA t l[i].e), B false, B false] (mkH nm tm i s) (goneX i) (mkH nm tm i z) := ha
      repeat (first | refine wk ?_ | refine s_field (hr := ?_))
      refine s_panCall [(1000, 21), (1001, 900)] [(2, .ptr 1002 0), (3, .ptr 1003 0)] [(1002, some (bxM zM)), (1003, some (bxF (.d (iD 0)) (.d (iD 0))))] (hpn := ?_) (hA := ha)
      exact (fun fr' h' h1 h2 => ⟨rfl, ⟨VLe.of (h1 _ List.mem_cons_self), VLe.of (h1 _ (List.mem_cons_of_mem _ List.mem_cons_self)), trivial⟩, ⟨HElt.of (h2 _ List.mem_cons_self), HElt.of (h2 _ (List.mem_cons_of_mem _ List.mem_cons_self)), trivial⟩⟩)
    | ok z =>
      rw [hac] at j1 ha
      replace ha : ACalls Try.prog 134 [.ptr 1000 0, I i, .d (exprA t l[i].e), B false, B false] (mkH nm tm i s) (.tup []) (mkH nm tm i z) := ha
      have g' := hgd z hac
      repeat (first | refine wk ?_ | refine s_field (hr := ?_))
      refine s_call [(1000, 21), (1001, 900)] (hA := ha) (hr := ?_)
      repeat (first | refine wk ?_ | refine s_field (hr := ?_))
      exact t_next (i + 1, z, (i : Int)) (a := ⟨j1, g', by dsimp only; omega⟩) (b := by dsimp only; omega)
  | ok w =>
    rw [show expM l = (⟨w.vars, (trms l).length, w.rules, nms l, trms l⟩, ⟨0, 0⟩) by unfold expM; rw [if_pos hc, hres]]
    unfold expS at hres
    have hgw := fun (d : Dfn) (hd : d ∈ l) => hgood d hd
    generalize trms l = tm at *
    generalize nms l = nm at *
    dsimp only
    refine awT_seq rfl rfl ?_
    repeat (first | refine wk ?_ | refine s_field (hr := ?_))
    refine awT_seq rfl rfl ?_
    repeat (first | refine wk ?_ | refine s_field (hr := ?_))
    refine s_call [] (hA := hck) (hr := ?_)
    repeat (first | refine wk ?_ | refine s_field (hr := ?_))
    refine awT_defer (d1 := 15) (fd := 133) (xs := [.tmp 2, .tmp 3]) [(1002, 2), (1003, 3), (1004, 1)] [(1002, bxM zM), (1003, bxF (.d (iD 0)) (.d (iD 0))), (1004, .box 44 [.d (dfnsD t l)])] [(2, .ptr 1002 0), (3, .ptr 1003 0), (1, .ptr 1004 0)] [1002, 1003] .returning .returning [(2, 1002), (3, 1003)] [(1002, bxM [I w.vars, I tm.length, I 0, .own 900 w.rules.length, .d (strs false nm), .d (strs false tm)]), (1003, bxF (.d (iD 0)) (.d (iD 0))), (900, .froz 2 (w.rules.map (ruleD false)))] [(1002, bxM [I w.vars, I tm.length, I 0, .own 900 w.rules.length, .d (strs false nm), .d (strs false tm)]), (1003, bxF (.d (iD 0)) (.d (iD 0))), (900, .froz 2 (w.rules.map (ruleD false)))]
      rfl rfl rfl ⟨rfl, rfl, trivial⟩ rfl rfl rfl (fun ρ cs w h => by simp [execOp, resolve, Deferred.ofValue, h]) ⟨_, Try.func133, rfl, rfl⟩ ⟨rfl, rfl, rfl, trivial⟩ rfl rfl rfl ⟨⟨rfl, rfl⟩, ⟨rfl, rfl⟩, ⟨rfl, rfl⟩, trivial⟩ rfl rfl rfl rfl rfl rfl rfl (by intro h; cases h) xclosN
      (vs := [.agg [I w.vars, I tm.length, I 0, .own 900 w.rules.length, .d (strs false nm), .d (strs false tm)], .agg [.d (iD 0), .d (iD 0)]]) ⟨.aggT TY rfl rfl rfl rfl rfl, .aggT TY rfl rfl rfl rfl rfl, trivial⟩ (Co.tup ⟨Co.agg ⟨Co.refl _, Co.refl _, Co.refl _, Co.froz rfl (by simp), Co.refl _, Co.refl _, trivial⟩, Co.agg (Cos.refl _), trivial⟩) rfl ?_
    repeat (first | refine wk ?_ | refine s_field (hr := ?_))
    refine s_call [] (hA := hnm) (hr := ?_)
    repeat (first | refine wk ?_ | refine s_field (hr := ?_))
    refine s_call [] (hA := htm) (hr := ?_)
    repeat (first | refine wk ?_ | refine s_field (hr := ?_))
    refine aw_nilCell 21 5 900 41 2 rfl rfl rfl rfl ?_
    refine t_loop (X := Nat × XS × Int) (fun y => xDefs (xR tm nm (dszs l)) y.1 (l.drop y.1) y.2.1 = .ok w ∧ y.2.1.Good ∧ y.1 ≤ l.length) (fun y => [(37, I y.1), (36, I l.length), (35, .d (dfnsD t l)), (5, .ptr 21 0), (2, .ptr 1002 0), (3, .ptr 1003 0)])
      (fun y => [(21, .box 190 [.d (strs false nm), .d (strs false tm), I y.2.1.vars, I tm.length, I 0, .own 900 y.2.1.rules.length, I y.2.2]), (900, .row 41 2 (y.2.1.rules.map (ruleD false))), (1002, bxM zM), (1003, bxF (.d (iD 0)) (.d (iD 0)))]) (fun y => l.length - y.1) (0, ⟨l.length, []⟩, 0) ⟨hres, ⟨by dsimp only; omega, by dsimp only; omega, by simp⟩, Nat.zero_le _⟩ ?_
    rintro ⟨i, s, a⟩ ⟨j1, j2, j3⟩
    dsimp only at j1 j2 j3 ⊢
    by_cases hlt : i < l.length
    rotate_left
    · rw [List.drop_of_length_le (by omega), xDefs] at j1
      obtain rfl : s = w := by injection j1
      refine aw_froz 900 rfl ?_
      repeat (first | refine wk ?_ | refine s_field (hr := ?_))
      exact Or.inr ⟨rfl, ⟨VLe.refl _, VLe.refl _, trivial⟩, ⟨HElt.of rfl, HElt.of rfl, HElt.of rfl, trivial⟩⟩
    rw [List.drop_eq_getElem_cons hlt, xDefs] at j1
    obtain ⟨q1, q2, q3⟩ := hgw l[i] (List.getElem_mem hlt)
    have ha := all_gen (nm := nm) (tm := tm) (at_ := (i : Int)) (t := t) (n := dszs l) (x := l[i].e) (v := (i : Int)) (by omega) (by omega) q1 q2 q3 j2
    have hgd := fun s' => xAll_good tm nm (n := dszs l) (x := l[i].e) (v := (i : Int)) (s' := s') q1 q2 j2
    cases hac : xAll (xR tm nm (dszs l)) (i : Int) false false (waysE l[i].e) s with
    | error z =>
      rw [hac] at j1 ha
      cases j1
    | ok z =>
      rw [hac] at j1 ha
      replace ha : ACalls Try.prog 134 [.ptr 1000 0, I i, .d (exprA t l[i].e), B false, B false] (mkH nm tm i s) (.tup []) (mkH nm tm i z) := ha
      have g' := hgd z hac
      repeat (first | refine wk ?_ | refine s_field (hr := ?_))
      refine s_call [(1000, 21), (1001, 900)] (hA := ha) (hr := ?_)
      repeat (first | refine wk ?_ | refine s_field (hr := ?_))
      exact t_next (i + 1, z, (i : Int)) (a := ⟨j1, g', by dsimp only; omega⟩) (b := by dsimp only; omega)
end Go.Proofs.Ytkfeccbahpmadaa
