/-
  Sim: the reference's Expanded. Expand, plain: the reference's grammar is the same, and nothing is wrong with it.
-/
import Derived.Test.YtkfeccbahpmadaaExF
import Derived.Test.YtkfeccbahpmadaaExpE
set_option linter.unusedVariables false
set_option linter.unusedSimpArgs false
set_option linter.unusedSectionVars false
namespace Go.Proofs.Ytkfeccbahpmadaa
open Go.RowKit
set_option maxRecDepth 100000
-- SimX

section
variable {nm tm : List ByteArray}
theorem sym_gen (hnm : nm.length ≤ 1000000) (htm : tm.length ≤ 1000000) {t : Bool} : ∀ (n : Nat) (x : Expr), xF x = 0 → esz x ≤ n → esz x ≤ 500000 → SymOk nm tm t (yR tm nm n) x
  | 0, x, _, hn, _ => by have := esz_pos x; omega
  | n + 1, x, hx, hn, hs => by
    intro s hg
    refine ⟨?_, yR_good tm nm _ _ _ hg, Nat.le_trans (yR_len tm nm _ _ _) hs⟩
    have ih := sym_gen hnm htm (t := t) n
    have hlx : ∀ y ∈ x.l, xF y = 0 ∧ esz y ≤ n := fun y hy => ⟨(xF_zero hx).2.2 y hy, by have := eszs_mem hy; rw [esz_eq] at hn; omega⟩
    have hle : ∀ y ∈ x.l, esz y ≤ 500000 := fun y hy => by have := eszs_mem hy; rw [esz_eq] at hs; omega
    have hl : ∀ y ∈ x.l, SymOk nm tm t (yR tm nm n) y := fun y hy => ih y (hlx y hy).1 (hlx y hy).2 (hle y hy)
    have hes : eszs x.l ≤ 500000 := by rw [esz_eq] at hs; omega
    have hxl : x.l.length ≤ 500000 := by have := eszs_len x.l; omega
    rw [yR]
    by_cases hb : s.bad = true
    · rw [if_pos hb]; exact sym_bad hb
    rw [if_neg hb]
    by_cases h1 : x.op = 1
    · rw [if_pos h1]; exact sym_1 hb h1 htm
    rw [if_neg h1]
    by_cases h2 : x.op = 2
    · rw [if_pos h2]; exact sym_2 hb h2 hnm
    rw [if_neg h2]
    by_cases h3 : x.op = 3
    · rw [if_pos h3]; exact sym_3 hb h3 hl hes hg
    rw [if_neg h3]
    by_cases h64 : 64 ≤ s.vars
    · rw [if_pos h64]; exact sym_64 hb h1 h2 h3 h64
    rw [if_neg h64]
    dsimp only
    obtain ⟨g1, g2, g3⟩ := hg
    have gf : (YS.mk (s.vars + 1) s.rules s.bad).Good := ⟨by show 0 ≤ s.vars + 1; omega, by show s.vars + 1 ≤ 64; omega, g3⟩
    unfold yIn
    by_cases h4 : x.op = 4
    · rw [if_pos h4]
      have ew : waysE x = x.l := by unfold waysE; rw [if_pos h4]
      have := put_of (nm := nm) (tm := tm) (t := t) (f := yR tm nm n) (x := x) (v := s.vars) (pl := true) (ag := false) (by rw [ew]; exact hl) (by omega) gf
      rw [ew] at this
      exact sym_4 hb h4 h64 g1 this
    rw [if_neg h4]
    obtain ⟨o5, o7, y, ey⟩ : 5 ≤ x.op ∧ x.op ≤ 7 ∧ ∃ y, x.l = [y] := by
      rcases op_cases hx with h | h | h | h | h
      · exact absurd h h1
      · exact absurd h h2
      · exact absurd h h3
      · exact absurd h h4
      · exact h
    have hl1 : x.l.length = 1 := by rw [ey]; rfl
    have hlt : 0 < x.l.length := by omega
    have hy0 : x.l[0] = y := by simp [ey]
    have hhd : hdE x.l = x.l[0] := by rw [hy0, ey]; rfl
    have hyx : xF x.l[0] = 0 ∧ esz x.l[0] ≤ n := hlx _ (List.getElem_mem hlt)
    have hle0 : esz x.l[0] ≤ 500000 := hle _ (List.getElem_mem hlt)
    have hww : ∀ y ∈ waysE x.l[0], SymOk nm tm t (yR tm nm n) y := fun y hy => ih y (waysE_xF hyx.1 y hy) (by have := waysE_esz hy; omega) (by have := waysE_esz hy; omega)
    have hwl2 : x.l[0].l.length ≤ 1000000 := by have := eszs_len x.l[0].l; have := esz_eq x.l[0]; omega
    have gn : (yNil x.op s.vars ⟨s.vars + 1, s.rules, s.bad⟩).Good := by
      unfold yNil
      split
      · exact yrule_good gf _ _
      · exact gf
    rw [hhd, show decide (x.op ≠ 6) = !decide (x.op = 6) from decide_not, show decide (x.op ≠ 5) = !decide (x.op = 5) from decide_not]
    exact sym_5 hb ⟨o5, o7⟩ hl1 hlt ⟨g1, g2, g3⟩ h64 (put_of hww hwl2 gn)
theorem put_gen (hnm : nm.length ≤ 1000000) (htm : tm.length ≤ 1000000) {t : Bool} {n : Nat} {x : Expr} {v : Int} (hx : xF x = 0) (hn : esz x ≤ n) (hs : esz x ≤ 500000) {s : YS} (g : s.Good) :
    ACalls Try.prog 135 [.ptr 1000 0, I v, .d (exprA t x), B true, B false] (yH nm tm s) (.tup []) (yH nm tm (yPut (yR tm nm n) v true false (waysE x) s)) := by
  refine put_of (fun y hy => sym_gen hnm htm n y (waysE_xF hx y hy) (Nat.le_trans (waysE_esz hy) hn) (Nat.le_trans (waysE_esz hy) hs)) ?_ g
  have hl := eszs_len x.l
  rw [esz_eq] at hs
  omega
end
def noGram : Gram := ⟨0, 0, 0, []⟩
def expT (l : List Dfn) : Except Nat YS := yDefs (yR (trms l) (nms l) (dszs l)) 0 l ⟨l.length, [], false⟩
def expG (l : List Dfn) : Gram × Fault :=
  if (defsF l).code = 0 then
    match expT l with
    | .error i => (noGram, ⟨6, i⟩)
    | .ok s => (⟨s.vars, (trms l).length, 0, s.rules⟩, ⟨0, 0⟩)
  else (noGram, defsF l)
set_option maxHeartbeats 16000000 in
theorem expanded_sim {t : Bool} {l : List Dfn} (hf : DefFit l) : ACalls Try.prog 59 [.d (textD t l)] [] (.tup [.d (gramD false (expG l).1), .d (faultD (expG l).2)]) [] := by
  have hck := defsFault_sim (t := t) hf
  refine ACalls.intro (n := 61) Try.func59 rfl rfl (by simp) (by rfl) ?_
  simp only [argFr]
  by_cases hc : (defsF l).code = 0
  rotate_left
  · rw [show expG l = (noGram, defsF l) by unfold expG; rw [if_neg hc]]
    generalize defsF l = F at *
    repeat (first | refine wk ?_ | refine s_field (hr := ?_))
    refine s_call [] (hA := hck) (hr := ?_)
    repeat (first | refine wk ?_ | refine s_field (hr := ?_))
    exact fin2
  have hl100 := hf.l100
  have hnm := namesOf_sim (t := t) (l := l) (by omega)
  have htm := termsOf_sim (t := t) hl100 hf.e5
  have hnl : (nms l).length ≤ 100 := by simp [nms]; omega
  have htl : (trms l).length ≤ 1000 := by
    have := ((defsF_iff (defs_ren hc)).1 hc).2.2; omega
  have hl16 : l.length ≤ 16 := (defs_ok hc).1
  have hgood := (fun (d : Dfn) (hd : d ∈ l) => (⟨(defs_ok hc).2 d hd, dszs_mem hd, by have := hf.e5 d hd; omega⟩ : xF d.e = 0 ∧ esz d.e ≤ dszs l ∧ esz d.e ≤ 500000))
  obtain ⟨R, hR⟩ : ∃ R, expG l = R := ⟨_, rfl⟩
  have hR' := hR
  unfold expG at hR'
  rw [if_pos hc] at hR'
  obtain ⟨T, hT⟩ : ∃ T, expT l = T := ⟨_, rfl⟩
  rw [hT] at hR'
  rw [hR]
  unfold expT at hT
  generalize trms l = tm at *
  generalize nms l = nm at *
  generalize dszs l = dz at *
  clear hR
  repeat (first | refine wk ?_ | refine s_field (hr := ?_))
  refine s_call [] (hA := hck) (hr := ?_)
  repeat (first | refine wk ?_ | refine s_field (hr := ?_))
  refine s_call [] (hA := hnm) (hr := ?_)
  repeat (first | refine wk ?_ | refine s_field (hr := ?_))
  refine s_call [] (hA := htm) (hr := ?_)
  repeat (first | refine aw_nilCell 22 3 900 41 2 rfl rfl rfl rfl ?_ | refine wk1 ?_ | refine s_field (hr := ?_))
  refine t_loop (X := Nat × YS) (fun y => yDefs (yR tm nm dz) y.1 (l.drop y.1) y.2 = T ∧ y.2.Good ∧ y.2.bad = false ∧ y.1 ≤ l.length) (fun y => [(6, I y.1), (5, .ptr 22 0), (1, .ptr 1 0), (2, .ptr 2 0), (3, .ptr 3 0)])
    (fun y => [(22, .box 194 [.d (strs false nm), .d (strs false tm), I y.2.vars, .own 900 y.2.rules.length, B false]), (900, .row 41 2 (y.2.rules.map (ruleD false))), (1, .box 44 [.d (dfnsD t l)]), (2, .box 24 [I 0, I 0, I 0, .d (.raw (.slice none 0 0))]), (3, .box 33 [I 0, I 0])]) (fun y => l.length - y.1) (0, ⟨l.length, [], false⟩) ⟨hT, ⟨by dsimp only; omega, by dsimp only; omega, by simp⟩, rfl, Nat.zero_le _⟩ ?_
  rintro ⟨i, s⟩ ⟨j1, j2, jb, j3⟩
  dsimp only at j1 j2 jb j3 ⊢
  by_cases hlt : i < l.length
  rotate_left
  · rw [List.drop_of_length_le (by omega), yDefs] at j1
    subst j1
    subst hR'
    refine aw_froz 900 rfl ?_
    repeat (first | refine wk ?_ | refine s_field (hr := ?_))
    exact fin2
  rw [List.drop_eq_getElem_cons hlt, yDefs] at j1
  obtain ⟨q1, q2, q3⟩ := hgood l[i] (List.getElem_mem hlt)
  have ha := put_gen (nm := nm) (tm := tm) (t := t) (n := dz) (x := l[i].e) (v := (i : Int)) (by omega) (by omega) q1 q2 q3 j2
  have hgd := yPut_good (f := yR tm nm dz) (v := (i : Int)) (pl := true) (ag := false) (fun y s g => yR_good tm nm dz y s g) (waysE l[i].e) s j2
  generalize yPut (yR tm nm dz) (i : Int) true false (waysE l[i].e) s = s1 at *
  obtain ⟨sv, sr, sb⟩ := s
  dsimp only at jb
  subst jb
  obtain ⟨v1, r1, b1⟩ := s1
  dsimp only at j1
  cases b1 with
  | true =>
    rw [if_pos rfl] at j1
    subst j1
    subst hR'
    repeat (first | refine wk ?_ | refine s_field (hr := ?_))
    refine d_loadEP TY rfl gOk_none rfl (IsElt.dfnP hlt) rfl rfl rfl rfl ?_
    repeat (first | refine wk ?_ | refine s_field (hr := ?_))
    refine s_call [(1000, 22), (1001, 900)] (hA := ha) (hr := ?_)
    repeat (first | refine wk ?_ | refine s_field (hr := ?_))
    refine s_call [] (hA := f_sim) (hr := ?_)
    repeat (first | refine wk ?_ | refine s_field (hr := ?_))
    exact fin2
  | false =>
    rw [if_neg (by decide)] at j1
    repeat (first | refine wk ?_ | refine s_field (hr := ?_))
    refine d_loadEP TY rfl gOk_none rfl (IsElt.dfnP hlt) rfl rfl rfl rfl ?_
    repeat (first | refine wk ?_ | refine s_field (hr := ?_))
    refine s_call [(1000, 22), (1001, 900)] (hA := ha) (hr := ?_)
    repeat (first | refine wk ?_ | refine s_field (hr := ?_))
    exact t_next (i + 1, ⟨v1, r1, false⟩) (a := ⟨j1, hgd, rfl, by dsimp only; omega⟩) (b := by dsimp only; omega)
end Go.Proofs.Ytkfeccbahpmadaa
namespace Go.Proofs.Ytkfeccbahpmadaa
open Go.RowKit

theorem defs_same {tm nm : List ByteArray} {n : Nat} : ∀ (l : List Dfn) (i : Nat) (s : XS), (∀ d ∈ l, xF d.e = 0 ∧ esz d.e ≤ n) → s.Good →
    match xDefs (xR tm nm n) i l s with
    | .error j => yDefs (yR tm nm n) i l s.y = .error j
    | .ok s' => yDefs (yR tm nm n) i l s.y = .ok s'.y
  | [], i, s, _, _ => rfl
  | d :: l, i, s, hd, g => by
    obtain ⟨q1, q2⟩ := hd d (by simp)
    have h := all_same (f := xR tm nm n) (g := yR tm nm n) (P := fun y => xF y = 0 ∧ esz y ≤ n) (v := (i : Int)) (ag := false) (al := false) (pl := true) rfl (fun y s h g => xR_same tm nm n y s h.1 h.2 g) (waysE d.e) s (fun y hy => ⟨waysE_xF q1 y hy, Nat.le_trans (waysE_esz hy) q2⟩) g
    rw [xDefs, yDefs]
    cases hc : xAll (xR tm nm n) (i : Int) false false (waysE d.e) s with
    | error z =>
      rw [hc] at h
      exact if_pos h
    | ok z =>
      rw [hc] at h
      obtain ⟨e, gz⟩ := h
      have ih := defs_same (tm := tm) (nm := nm) l (i + 1) z (fun d' hd' => hd d' (by simp [hd'])) gz
      dsimp only
      rw [e, if_neg (by show ¬ (false = true); decide)]
      exact ih
theorem start_good {l : List Dfn} (h : l.length ≤ 16) : (XS.mk l.length []).Good := ⟨by dsimp only; omega, by dsimp only; omega, by simp⟩
theorem exp_same {l : List Dfn} : expG l = (⟨(expM l).1.vars, (expM l).1.terms, 0, (expM l).1.rules⟩, (expM l).2) := by
  unfold expG expM
  by_cases hc : (defsF l).code = 0
  · rw [if_pos hc, if_pos hc]
    have hl16 := (defs_ok hc).1
    have h := defs_same (tm := trms l) (nm := nms l) (n := dszs l) l 0 ⟨l.length, []⟩ (fun d hd => ⟨(defs_ok hc).2 d hd, dszs_mem hd⟩) (start_good hl16)
    unfold expT expS
    change match xDefs (xR (trms l) (nms l) (dszs l)) 0 l ⟨l.length, []⟩ with
      | .error j => yDefs (yR (trms l) (nms l) (dszs l)) 0 l ⟨l.length, [], false⟩ = .error j
      | .ok s' => yDefs (yR (trms l) (nms l) (dszs l)) 0 l ⟨l.length, [], false⟩ = .ok s'.y at h
    cases hx : xDefs (xR (trms l) (nms l) (dszs l)) 0 l ⟨l.length, []⟩ with
    | error j =>
      rw [hx] at h
      dsimp only at h ⊢
      rw [h]; rfl
    | ok s =>
      rw [hx] at h
      dsimp only at h ⊢
      rw [h]; rfl
  · rw [if_neg hc, if_neg hc]; rfl

/-! ### Nothing is wrong with it -/
def SymIn (nt V x : Int) : Prop := -nt ≤ x ∧ x < V
def RulIn (nt V : Int) (r : Rule) : Prop := 0 ≤ r.left ∧ r.left < V ∧ r.right.length ≤ 10 ∧ ∀ x ∈ r.right, SymIn nt V x
structure XS.Fine (nt : Int) (s : XS) : Prop where
  g : s.Good
  r : ∀ r ∈ s.rules, RulIn nt s.vars r
theorem SymIn.mono {nt V V' x : Int} (h : SymIn nt V x) (hv : V ≤ V') : SymIn nt V' x := ⟨h.1, by have := h.2; omega⟩
theorem RulIn.mono {nt V V' : Int} {r : Rule} (h : RulIn nt V r) (hv : V ≤ V') : RulIn nt V' r := ⟨h.1, by have := h.2.1; omega, h.2.2.1, fun x hx => (h.2.2.2 x hx).mono hv⟩
theorem rule_fine {nt : Int} {s s' : XS} {v : Int} {r : List Int} (f : s.Fine nt) (hv : 0 ≤ v ∧ v < s.vars) (hr : ∀ x ∈ r, SymIn nt s.vars x) (h : s.rule v r = .ok s') : s'.Fine nt ∧ s'.vars = s.vars := by
  have g := rule_good f.g h
  unfold XS.rule at h
  split at h
  · cases h
  · rename_i hn
    cases h
    refine ⟨⟨g, fun q hq => ?_⟩, rfl⟩
    rcases List.mem_append.1 hq with hq | hq
    · exact f.r q hq
    · rw [List.mem_singleton.1 hq]; exact ⟨hv.1, hv.2, by dsimp only; omega, hr⟩
theorem xOne_fine {nt : Int} {s s' : XS} {v : Int} {ag al : Bool} {r : List Int} (f : s.Fine nt) (hv : 0 ≤ v ∧ v < s.vars) (hr : ∀ x ∈ r, SymIn nt s.vars x) (h : xOne v ag al r s = .ok s') : s'.Fine nt ∧ s'.vars = s.vars := by
  unfold xOne at h
  split at h
  · exact rule_fine f hv hr h
  · cases h; exact ⟨f, rfl⟩
theorem xTwo_fine {nt : Int} {s s' : XS} {v : Int} {ag : Bool} {r : List Int} (f : s.Fine nt) (hnt : 0 ≤ nt) (hv : 0 ≤ v ∧ v < s.vars) (hr : ∀ x ∈ r, SymIn nt s.vars x) (h : xTwo v ag r s = .ok s') : s'.Fine nt ∧ s'.vars = s.vars := by
  unfold xTwo at h
  split at h
  · refine rule_fine f hv (fun x hx => ?_) h
    rcases List.mem_append.1 hx with hx | hx
    · exact hr x hx
    · rw [List.mem_singleton.1 hx]; exact ⟨by omega, hv.2⟩
  · cases h; exact ⟨f, rfl⟩
/-- What is known of f at y: it keeps what is fine, and tells symbols that are. -/
def FineAt (nt : Int) (m : Int) (f : XF) (y : Expr) : Prop := ∀ s r s', s.Fine nt → m ≤ s.vars → f y s = .ok (r, s') → s'.Fine nt ∧ s.vars ≤ s'.vars ∧ ∀ x ∈ r, SymIn nt s'.vars x
theorem xRow_fine {nt m : Int} {f : XF} : ∀ (l : List Expr) (out : List Int) (s : XS) (r : List Int) (s' : XS), (∀ y ∈ l, FineAt nt m f y) → s.Fine nt → m ≤ s.vars → (∀ x ∈ out, SymIn nt s.vars x) → xRow f l out s = .ok (r, s') → s'.Fine nt ∧ s.vars ≤ s'.vars ∧ ∀ x ∈ r, SymIn nt s'.vars x
  | [], out, s, r, s', _, hf, _, ho, h => by cases h; exact ⟨hf, Int.le_refl _, ho⟩
  | y :: l, out, s, r, s', hl, hf, hm, ho, h => by
    rw [xRow] at h
    cases hc : f y s with
    | error e => rw [hc] at h; cases h
    | ok p =>
      obtain ⟨r1, s1⟩ := p
      rw [hc] at h
      obtain ⟨a, b, c⟩ := hl y (by simp) _ _ _ hf hm hc
      obtain ⟨a2, b2, c2⟩ := xRow_fine l _ _ _ _ (fun z hz => hl z (by simp [hz])) a (by omega) (fun x hx => (List.mem_append.1 hx).elim (fun hx => (ho x hx).mono b) (c x)) h
      exact ⟨a2, by omega, c2⟩
theorem xAll_fine {nt m : Int} {f : XF} (hnt : 0 ≤ nt) {v : Int} {ag al : Bool} : ∀ (l : List Expr) (s s' : XS), (∀ y ∈ l, FineAt nt m f y) → s.Fine nt → m ≤ s.vars → (0 ≤ v ∧ v < s.vars) → xAll f v ag al l s = .ok s' → s'.Fine nt ∧ s.vars ≤ s'.vars
  | [], s, s', _, hf, _, _, h => by cases h; exact ⟨hf, Int.le_refl _⟩
  | y :: l, s, s', hl, hf, hm, hv, h => by
    rw [xAll] at h
    cases hc : f y s with
    | error e => rw [hc] at h; cases h
    | ok p =>
      obtain ⟨r1, s1⟩ := p
      rw [hc] at h
      dsimp only at h
      obtain ⟨a, b, c⟩ := hl y (by simp) _ _ _ hf hm hc
      cases hc1 : xOne v ag al r1 s1 with
      | error e => rw [hc1] at h; cases h
      | ok s2 =>
        rw [hc1] at h
        dsimp only at h
        obtain ⟨a2, b2⟩ := xOne_fine a ⟨hv.1, by omega⟩ c hc1
        cases hc2 : xTwo v ag r1 s2 with
        | error e => rw [hc2] at h; cases h
        | ok s3 =>
          rw [hc2] at h
          obtain ⟨a3, b3⟩ := xTwo_fine a2 hnt ⟨hv.1, by omega⟩ (fun x hx => (c x hx).mono (by omega)) hc2
          obtain ⟨a4, b4⟩ := xAll_fine hnt l s3 s' (fun z hz => hl z (by simp [hz])) a3 (by omega) ⟨hv.1, by omega⟩ h
          exact ⟨a4, by omega⟩
theorem atL_mem {y z : Expr} : ∀ {l : List Expr}, y ∈ l → z ∈ atE y → z ∈ atL l
  | x :: l, hy, hz => by
    rw [atL]
    rcases List.mem_cons.1 hy with rfl | hy
    · exact List.mem_append.2 (.inl hz)
    · exact List.mem_append.2 (.inr (atL_mem hy hz))
theorem nmds_mem {op : Int} {y : Expr} {l : List Expr} {s : ByteArray} (hy : y ∈ l) (hs : s ∈ nmd op y) : s ∈ nmds op l := by
  unfold nmd at hs
  obtain ⟨z, hz, rfl⟩ := List.mem_map.1 hs
  obtain ⟨h1, h2⟩ := List.mem_filter.1 hz
  exact List.mem_map.2 ⟨z, List.mem_filter.2 ⟨atL_mem hy h1, h2⟩, rfl⟩
def Known (nm tm : List ByteArray) (x : Expr) : Prop := (∀ s ∈ nmd 2 x, s ∈ nm) ∧ (∀ s ∈ nmd 1 x, s ∈ tm)
theorem Known.sub {nm tm : List ByteArray} {x y : Expr} (h : Known nm tm x) (hy : y ∈ x.l) : Known nm tm y :=
  ⟨fun s hs => h.1 s (by rw [nmd_eq (.inr rfl)]; exact List.mem_append.2 (.inr (nmds_mem hy hs))), fun s hs => h.2 s (by rw [nmd_eq (.inl rfl)]; exact List.mem_append.2 (.inr (nmds_mem hy hs)))⟩
theorem Known.ways {nm tm : List ByteArray} {x : Expr} (h : Known nm tm x) : ∀ y ∈ waysE x, Known nm tm y := by
  intro y hy
  unfold waysE at hy
  split at hy
  · exact h.sub hy
  · rw [List.mem_singleton.1 hy]; exact h
theorem xR_fine {nm tm : List ByteArray} : ∀ (n : Nat) (x : Expr), xF x = 0 → Known nm tm x → FineAt tm.length nm.length (xR tm nm n) x
  | 0, x, _, _ => fun s r s' _ _ h => by cases h
  | n + 1, x, hx, hk => by
    intro s r s' f hm h
    have hnt : (0 : Int) ≤ tm.length := by omega
    have hl : ∀ y ∈ x.l, FineAt tm.length nm.length (xR tm nm n) y := fun y hy => xR_fine n y ((xF_zero hx).2.2 y hy) (hk.sub hy)
    rw [xR] at h
    by_cases h1 : x.op = 1
    · rw [if_pos h1] at h
      cases h
      refine ⟨f, Int.le_refl _, fun z hz => ?_⟩
      rw [List.mem_singleton.1 hz]
      have hn : x.name ∈ tm := hk.2 _ (by rw [nmd_eq (.inl rfl), if_pos h1]; simp)
      rcases plc_cases tm x.name with ⟨a, _⟩ | ⟨_, i, hi, e, _⟩
      · exact absurd hn a
      · have := f.g.1; exact ⟨by omega, by omega⟩
    rw [if_neg h1] at h
    by_cases h2 : x.op = 2
    · rw [if_pos h2] at h
      cases h
      refine ⟨f, Int.le_refl _, fun z hz => ?_⟩
      rw [List.mem_singleton.1 hz]
      have hn : x.name ∈ nm := hk.1 _ (by rw [nmd_eq (.inr rfl), if_pos h2]; simp)
      rcases plc_cases nm x.name with ⟨a, _⟩ | ⟨_, i, hi, e, _⟩
      · exact absurd hn a
      · exact ⟨by omega, by omega⟩
    rw [if_neg h2] at h
    by_cases h3 : x.op = 3
    · rw [if_pos h3] at h
      exact xRow_fine x.l [] s r s' hl f hm (fun x hx => by simp at hx) h
    rw [if_neg h3] at h
    cases hfc : s.fresh with
    | error e => rw [hfc] at h; cases h
    | ok s1 =>
      rw [hfc] at h
      dsimp only at h
      have g1 := fresh_good f.g hfc
      have e1 : s1.vars = s.vars + 1 ∧ s1.rules = s.rules := by
        unfold XS.fresh at hfc
        split at hfc
        · cases hfc
        · cases hfc; exact ⟨rfl, rfl⟩
      have f1 : s1.Fine tm.length := ⟨g1, fun q hq => by rw [e1.2] at hq; exact (f.r q hq).mono (by omega)⟩
      have hv : 0 ≤ s.vars ∧ s.vars < s1.vars := ⟨f.g.1, by omega⟩
      cases hin : xIn (xR tm nm n) x s.vars s1 with
      | error e => rw [hin] at h; cases h
      | ok s2 =>
        rw [hin] at h
        obtain ⟨rfl, rfl⟩ : [s.vars] = r ∧ s2 = s' := by cases h; exact ⟨rfl, rfl⟩
        suffices hs : s2.Fine tm.length ∧ s1.vars ≤ s2.vars by
          exact ⟨hs.1, by omega, fun z hz => by rw [List.mem_singleton.1 hz]; exact ⟨by omega, by omega⟩⟩
        unfold xIn at hin
        by_cases h4 : x.op = 4
        · rw [if_pos h4] at hin
          exact xAll_fine hnt x.l _ _ hl f1 (by omega) hv hin
        rw [if_neg h4] at hin
        obtain ⟨o5, o7, y, ey⟩ : 5 ≤ x.op ∧ x.op ≤ 7 ∧ ∃ y, x.l = [y] := by
          rcases op_cases hx with h | h | h | h | h
          · exact absurd h h1
          · exact absurd h h2
          · exact absurd h h3
          · exact absurd h h4
          · exact h
        have hhd : hdE x.l = y := by rw [ey]; rfl
        have hyl : y ∈ x.l := by rw [ey]; simp
        have hw : ∀ z ∈ waysE y, FineAt tm.length nm.length (xR tm nm n) z := fun z hz => xR_fine n z (waysE_xF ((xF_zero hx).2.2 y hyl) z hz) ((hk.sub hyl).ways z hz)
        rw [hhd] at hin
        cases hnc : xNil x.op s.vars s1 with
        | error e => rw [hnc] at hin; cases hin
        | ok s3 =>
          rw [hnc] at hin
          have f3 : s3.Fine tm.length ∧ s3.vars = s1.vars := by
            unfold xNil at hnc
            split at hnc
            · exact rule_fine f1 hv (fun x hx => by simp at hx) hnc
            · cases hnc; exact ⟨f1, rfl⟩
          obtain ⟨a, b⟩ := xAll_fine hnt (waysE y) s3 s2 hw f3.1 (by omega) ⟨hv.1, by omega⟩ hin
          exact ⟨a, by omega⟩
theorem xDefs_fine {nm tm : List ByteArray} {n : Nat} : ∀ (l : List Dfn) (i : Nat) (s s' : XS), (∀ d ∈ l, xF d.e = 0 ∧ Known nm tm d.e) → s.Fine tm.length → nm.length ≤ s.vars → ((i + l.length : Nat) : Int) ≤ s.vars → xDefs (xR tm nm n) i l s = .ok s' → s'.Fine tm.length ∧ s.vars ≤ s'.vars
  | [], i, s, s', _, f, _, _, h => by cases h; exact ⟨f, Int.le_refl _⟩
  | d :: l, i, s, s', hd, f, hm, hi, h => by
    rw [xDefs] at h
    obtain ⟨q1, q2⟩ := hd d (by simp)
    cases hc : xAll (xR tm nm n) (i : Int) false false (waysE d.e) s with
    | error e => rw [hc] at h; cases h
    | ok s1 =>
      rw [hc] at h
      dsimp only at h
      simp only [List.length_cons] at hi
      obtain ⟨a, b⟩ := xAll_fine (m := nm.length) (by omega) (waysE d.e) s s1 (fun y hy => xR_fine n y (waysE_xF q1 y hy) (q2.ways y hy)) f hm ⟨by omega, by omega⟩ hc
      obtain ⟨a2, b2⟩ := xDefs_fine l (i + 1) s1 s' (fun d' hd' => hd d' (by simp [hd'])) a (by omega) (by omega) h
      exact ⟨a2, by omega⟩
theorem ffirst_fine {g : Gram} : ∀ (l : List Rule) (i : Nat), (∀ r ∈ l, RulIn g.terms g.vars r) → ffirst g l i = ⟨0, 0⟩
  | [], i, _ => rfl
  | r :: l, i, h => by
    obtain ⟨a, b, c, d⟩ := h r (by simp)
    have e : ruleFault g r = 0 := by
      unfold ruleFault
      rw [if_neg (by omega), if_neg]
      rintro (h | h | h)
      · omega
      · omega
      · obtain ⟨x, hx, hb⟩ := List.any_eq_true.1 h
        have := d x hx
        unfold badSym at hb
        unfold SymIn at this
        simp only [Bool.or_eq_true, decide_eq_true_eq] at hb
        omega
    rw [ffirst, if_pos e]
    exact ffirst_fine l (i + 1) (fun q hq => h q (by simp [hq]))
theorem exp_fine {l : List Dfn} (h : (expM l).2.code = 0) : gramFault (expG l).1 = ⟨0, 0⟩ ∧ (expG l).1.rules.length ≤ 160 ∧ ∀ r ∈ (expG l).1.rules, r.right.length ≤ 10 := by
  have hs := exp_same (l := l)
  unfold expM at h hs
  by_cases hc : (defsF l).code = 0
  · rw [if_pos hc] at h hs
    have hl16 := (defs_ok hc).1
    have h0 := (renF_good (defs_ren hc)).2.1
    obtain ⟨_, h2, h3⟩ := (defsF_iff (defs_ren hc)).1 hc
    unfold expS at h hs
    cases hx : xDefs (xR (trms l) (nms l) (dszs l)) 0 l ⟨l.length, []⟩ with
    | error j =>
      rw [hx] at h
      cases h
    | ok s =>
      rw [hx] at hs
      dsimp only at hs
      rw [hs]
      have hnl : (nms l).length = l.length := by simp [nms]
      obtain ⟨f, hv⟩ := xDefs_fine (nm := nms l) (tm := trms l) l 0 ⟨l.length, []⟩ s (fun d hd => ⟨(defs_ok hc).2 d hd, fun x hx => by
        have := h2 d hd
        unfold unkn at this
        rw [List.any_eq_false] at this
        simpa using this x hx, fun x hx => trms_mem.2 ⟨d, hd, hx⟩⟩) ⟨start_good hl16, fun r hr => by simp at hr⟩ (by dsimp only; omega) (by dsimp only; omega) hx
      obtain ⟨g1, g2, g3⟩ := f.g
      dsimp only at hv
      refine ⟨?_, g3, fun r hr => (f.r r hr).2.2.1⟩
      unfold gramFault
      rw [if_pos (show headOk _ from ⟨by dsimp only; omega, g2, by dsimp only; omega, by dsimp only; omega, by dsimp only; omega, by dsimp only; omega⟩), if_neg (by dsimp only; omega)]
      exact ffirst_fine _ 0 f.r
  · rw [if_neg hc] at h
    exact absurd h hc
theorem exp_parts {l : List Dfn} : ((expM l).2.code = 0 → (expM l).1.nm = nms l ∧ (expM l).1.tm = trms l) ∧ ((expM l).2.code ≠ 0 → (expM l).1 = noMade) := by
  unfold expM
  by_cases hc : (defsF l).code = 0
  · rw [if_pos hc]
    cases expS l with
    | error j => exact ⟨fun h => absurd h (by show ¬ (6 : Int) = 0; decide), fun _ => rfl⟩
    | ok s => exact ⟨fun _ => ⟨rfl, rfl⟩, fun h => absurd rfl h⟩
  · rw [if_neg hc]
    exact ⟨fun h => absurd h hc, fun _ => rfl⟩
end Go.Proofs.Ytkfeccbahpmadaa
