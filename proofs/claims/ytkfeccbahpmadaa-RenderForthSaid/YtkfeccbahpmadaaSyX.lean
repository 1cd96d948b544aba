/-
  Tokens: the contract of the reference's Scan, said as Sim says it. Sim: the reference's Parse: as the parser. Sim: SyntaxParses returns true. The parser, plain: one text behind another: the law.
-/
import Derived.Test.YtkfeccbahpmadaaTkB
import Derived.Test.YtkfeccbahpmadaaTokBr
import Derived.Test.YtkfeccbahpmadaaSyU
import Derived.Test.YtkfeccbahpmadaaSynG
import Derived.Test.YtkfeccbahpmadaaSynS
import Derived.Test.YtkfeccbahpmadaaS5
import Derived.Test.YtkfeccbahpmadaaJoP
set_option linter.unusedVariables false
set_option linter.unusedSimpArgs false
set_option linter.unusedSectionVars false
namespace Go.Proofs.Ytkfeccbahpmadaa
open Go.RowKit

end Go.Proofs.Ytkfeccbahpmadaa
namespace Go.Proofs.Ytkfeccbahpmadaa
open Go.RowKit
set_option maxRecDepth 100000
-- SimX

def RS.zero (r : RS) : RS := ⟨r.at_, r.opn, 0, r.f⟩
def rMid (L : List Tk) (en : Int) (n : Nat) (r : RS) : Expr × RS := if (r.adv.must L en (sgn 61)).zero.ok = true then rAlt L en n (r.adv.must L en (sgn 61)).zero else (zeroX, (r.adv.must L en (sgn 61)).zero)
section
variable {L : List Tk} {en : Int}
theorem kind_cons {r : RS} {t : Tk} {q : List Tk} (h0 : r.f.code = 0) (h : L.drop r.at_ = t :: q) : r.kind L = t.kind := by rw [RS.kind, RS.ok, if_pos (decide_eq_true h0), h]
theorem pgood {r : RS} (g : RGood L r) (h : r.f.code = 0) : (r.ps L).Good := ⟨g.2.1, g.2.2.1, g.2.2.2.1, g.2.2.2.2.2 h⟩
theorem zero_to {r : RS} (g : RGood L r) : RTo L r r.zero 0 := ⟨⟨g.1, g.2.1, g.2.2.1, Int.le_refl 0, by show (0 : Int) ≤ 61; decide, fun _ => by show (0 : Int) ≤ 60; decide⟩, rfl, Nat.le_refl _⟩
theorem rMid_to {n : Nat} {r : RS} (g : RGood L r) (h : r.at_ < L.length) : RTo L r (rMid L en n r).2 1 := by
  have a1 := adv_to g h
  have a2 := RTo.trans a1 (must_to (en := en) (x := sgn 61) a1.1)
  have a3 := RTo.trans a2 (zero_to a2.1)
  unfold rMid
  split
  · exact RTo.weak (RTo.trans a3 (rinv_all L en n _ a3.1).2.2.2.2) (by omega)
  · exact RTo.weak a3 (by omega)
theorem pDef_rel {n : Nat} {r : RS} (g : RGood L r) (h0 : r.f.code = 0) {t : Tk} {q : List Tk} (hl : L.drop r.at_ = t :: q) (hk : t.kind = 1) (hn : 5 * (t :: q).length + 8 ≤ n) : match pDef en n (r.ps L) with
    | .ok (d, s') => d = ⟨t.text, t.at_, (rMid L en n r).1⟩ ∧ ((rMid L en n r).2.must L en (sgn 59)).f.code = 0 ∧ ((rMid L en n r).2.must L en (sgn 59)).ps L = s'
    | .error f => ((rMid L en n r).2.must L en (sgn 59)).f = f ∧ f.code ≠ 0 := by
  have hlt : r.at_ < L.length := by
    have : (L.drop r.at_).length = (t :: q).length := by rw [hl]
    rw [List.length_drop, List.length_cons] at this; omega
  have a1 := adv_to g hlt
  have hp : pDef en n (r.ps L) = match (r.ps L).next.want en (sgn 61) with
      | .error f => .error f
      | .ok s1 => match pAlt en n ⟨s1.l, s1.opn, 0⟩ with
        | .error f => .error f
        | .ok (x, s2) => match s2.want en (sgn 59) with
          | .error f => .error f
          | .ok s3 => .ok (⟨t.text, t.at_, x⟩, s3) := by
    unfold pDef
    rw [show (r.ps L).l = t :: q from hl]
    dsimp only
    rw [if_pos hk]
    rfl
  rw [hp]
  have hm := must_rel (L := L) (en := en) (r := r.adv) h0 (sgn 61)
  rw [adv_ps] at hm
  have a2 := must_to (en := en) (x := sgn 61) a1.1
  have hat : r.at_ + 1 ≤ (r.adv.must L en (sgn 61)).at_ := a2.2.2
  have hlen : q.length = L.length - r.at_ - 1 := by
    have : (L.drop r.at_).length = (t :: q).length := by rw [hl]
    rw [List.length_drop, List.length_cons] at this; omega
  unfold rMid
  generalize r.adv.must L en (sgn 61) = r1 at *
  cases hw : (r.ps L).next.want en (sgn 61) with
  | error f =>
    rw [hw] at hm
    obtain ⟨m1, m2⟩ := hm
    have hb : r1.zero.f.code ≠ 0 := by show r1.f.code ≠ 0; rw [m1]; exact m2
    rw [RS.not_ok hb, if_neg (show ¬ (false = true) by decide)]
    dsimp only
    rw [RS.must_bad hb]
    exact ⟨m1, m2⟩
  | ok s1 =>
    rw [hw] at hm
    obtain ⟨m1, rfl⟩ := hm
    have hz : r1.zero.f.code = 0 := m1
    have hzok : r1.zero.ok = true := decide_eq_true hz
    have gz := (zero_to a2.1).1
    rw [hzok, if_pos rfl]
    have hps : r1.zero.ps L = ⟨(r1.ps L).l, (r1.ps L).opn, 0⟩ := rfl
    have hA := (rel_all L en n r1.zero hz (pgood gz hz)).2.2.2.2 (by show 5 * (L.drop r1.at_).length + 4 ≤ n; rw [List.length_drop]; simp only [List.length_cons] at hn; omega)
    have hgo := (rinv_all L en n _ gz).2.2.2.2
    rw [hps] at hA
    dsimp only
    generalize rAlt L en n r1.zero = z at *
    obtain ⟨x, r2⟩ := z
    dsimp only at hA ⊢
    cases ha : pAlt en n ⟨(r1.ps L).l, (r1.ps L).opn, 0⟩ with
    | error f =>
      rw [ha] at hA
      obtain ⟨q1, q2⟩ := hA
      have hb : r2.f.code ≠ 0 := by rw [q1]; exact q2
      dsimp only
      rw [RS.must_bad hb]
      exact ⟨q1, q2⟩
    | ok p =>
      obtain ⟨y, s2⟩ := p
      rw [ha] at hA
      obtain ⟨rfl, q1, rfl⟩ := hA
      have hm2 := must_rel (L := L) (en := en) q1 (sgn 59)
      dsimp only
      cases hw2 : (r2.ps L).want en (sgn 59) with
      | error f => rw [hw2] at hm2; exact hm2
      | ok s3 => rw [hw2] at hm2; exact ⟨rfl, hm2.1, hm2.2⟩
end
end Go.Proofs.Ytkfeccbahpmadaa
namespace Go.Proofs.Ytkfeccbahpmadaa
open Go.RowKit
set_option maxRecDepth 100000
-- SimX

theorem one_size (op : Int) (l : List Expr) : esz (one op l) ≤ 1 + eszs l := by
  match l with
  | [] => simp [one, esz, eszs]
  | [x] => simp only [one, eszs]; omega
  | _ :: _ :: _ => simp only [one, esz]; omega
theorem wrap_size (op : Int) (x : Expr) : esz (wrapE op x) ≤ 1 + esz x := by
  unfold wrapE; split
  · omega
  · simp only [esz, eszs]; omega
theorem PS.want_len {fin : Int} {s s' : PS} {x : ByteArray} (h : s.want fin x = .ok s') : s'.l.length + 1 = s.l.length := by
  unfold PS.want at h
  split at h
  · rename_i hs
    cases h
    obtain ⟨t, r, e, _⟩ := PS.sign_cons hs
    simp [PS.next, e]
  · cases h
theorem PS.part_l {fin : Int} {s s' : PS} (h : s.part fin = .ok s') : s'.l = s.l := by
  unfold PS.part at h
  split at h <;> cases h
  rfl
/-- How great what is read is. -/
theorem size_all (fin : Int) : ∀ n,
    (∀ s x s', pItem fin n s = .ok (some x, s') → esz x + 3 * s'.l.length ≤ 3 * s.l.length) ∧
    (∀ s op e x s', 0 < s.l.length → pGroup fin n s op e = .ok (x, s') → esz x + 3 * s'.l.length ≤ 3 * s.l.length) ∧
    (∀ s acc l s', pItems fin n s acc = .ok (l, s') → eszs l + 3 * s'.l.length ≤ eszs acc + 3 * s.l.length) ∧
    (∀ s x s', pRow fin n s = .ok (x, s') → esz x + 3 * s'.l.length ≤ 1 + 3 * s.l.length) ∧
    (∀ s acc l s', pAlts fin n s acc = .ok (l, s') → eszs l + 3 * s'.l.length ≤ eszs acc + 3 * s.l.length) ∧
    (∀ s x s', pAlt fin n s = .ok (x, s') → esz x + 3 * s'.l.length ≤ 2 + 3 * s.l.length)
  | 0 => ⟨fun _ _ _ h => by simp [pItem] at h, fun _ _ _ _ _ _ h => by simp [pGroup] at h, fun _ _ _ _ h => by simp [pItems] at h, fun _ _ _ h => by simp [pRow] at h, fun _ _ _ _ h => by simp [pAlts] at h, fun _ _ _ h => by simp [pAlt] at h⟩
  | n + 1 => by
    obtain ⟨i1, i2, i3, i4, i5, i6⟩ := size_all fin n
    refine ⟨fun s x s' h => ?_, fun s op e x s' hl h => ?_, fun s acc l s' h => ?_, fun s x s' h => ?_, fun s acc l s' h => ?_, fun s x s' h => ?_⟩
    · rw [pItem] at h
      split at h
      · cases h
      · rename_i t r e
        split at h
        · split at h
          · cases h
          · rename_i s1 hp
            cases h
            have hp' := PS.part_l hp
            simp only [esz, eszs, PS.next, hp', e, List.tail_cons, List.length_cons]
            omega
        · split at h
          · cases h
          · rename_i op en hb
            split at h
            · cases h
            · rename_i y s2 hg
              cases h
              exact i2 _ _ _ _ _ (PS.bracket_cons hb) hg
    · rw [pGroup] at h
      split at h
      · cases h
      · split at h
        · cases h
        · rename_i s1 hp
          split at h
          · cases h
          · rename_i y s2 ha
            split at h
            · cases h
            · rename_i s3 hw
              cases h
              have h1 := i6 _ _ _ ha
              have h2 := PS.want_len hw
              have h3 := wrap_size op y
              have h4 : (PS.next ⟨s1.l, s1.opn + 1, s1.parts⟩).l.length + 1 = s.l.length := by
                show s1.l.tail.length + 1 = _
                rw [PS.part_l hp, List.length_tail]; omega
              show esz (wrapE op y) + 3 * s3.l.length ≤ _
              omega
    · rw [pItems] at h
      split at h
      · cases h
      · rename_i s1 hi
        cases h
        have : s'.l.length ≤ s.l.length := by
          cases n with
          | zero => simp [pItem] at hi
          | succ n =>
            rw [pItem] at hi
            split at hi
            · cases hi; exact Nat.le_refl _
            · split at hi
              · split at hi <;> cases hi
              · split at hi
                · cases hi; exact Nat.le_refl _
                · split at hi <;> cases hi
        omega
      · rename_i x s1 hi
        have h1 := i1 _ _ _ hi
        have h2 := i3 _ _ _ _ h
        rw [eszs_append] at h2
        simp only [eszs] at h2
        omega
    · rw [pRow] at h
      split at h
      · cases h
      · rename_i l s1 hi
        cases h
        have h1 := i3 _ _ _ _ hi
        have h2 := one_size 3 l
        simp only [eszs] at h1
        omega
    · rw [pAlts] at h
      split at h
      · rename_i hs
        obtain ⟨t, r, e, _⟩ := PS.sign_cons hs
        split at h
        · cases h
        · rename_i s1 hp
          split at h
          · cases h
          · rename_i x s2 hr
            have h1 := i4 _ _ _ hr
            have h2 := i5 _ _ _ _ h
            rw [eszs_append] at h2
            simp only [eszs] at h2
            have h3 : s1.next.l.length + 1 = s.l.length := by
              show s1.l.tail.length + 1 = _
              rw [PS.part_l hp, e]; rfl
            omega
      · cases h; exact Nat.le_refl _
    · rw [pAlt] at h
      split at h
      · cases h
      · rename_i x1 s1 hr
        split at h
        · cases h
        · rename_i l s2 hq
          cases h
          have h1 := i4 _ _ _ hr
          have h2 := i5 _ _ _ _ hq
          have h3 := one_size 4 l
          simp only [eszs] at h2
          omega
theorem pDef_size {fin : Int} {n : Nat} {s s' : PS} {d : Dfn} (h : pDef fin n s = .ok (d, s')) : esz d.e + 3 * s'.l.length ≤ 3 * s.l.length := by
  unfold pDef at h
  split at h
  · cases h
  · rename_i t r e
    split at h
    · split at h
      · cases h
      · rename_i s1 hw
        split at h
        · cases h
        · rename_i x s2 ha
          split at h
          · cases h
          · rename_i s3 hw2
            cases h
            have h1 := PS.want_len hw
            have h2 := PS.want_len hw2
            have h3 := (size_all fin n).2.2.2.2.2 _ _ _ ha
            have h4 : s.next.l.length + 1 = s.l.length := by simp [PS.next, e]
            dsimp only at h3 ⊢
            omega
    · cases h
theorem pDefs_size {fin : Int} : ∀ (n : Nat) (s : PS) (acc l : List Dfn) (M : Nat), pDefs fin n s acc = .ok l → acc.length ≤ 16 → 3 * s.l.length ≤ M → (∀ d ∈ acc, esz d.e ≤ M) → l.length ≤ 16 ∧ ∀ d ∈ l, esz d.e ≤ M
  | 0, s, acc, l, M, h, _, _, _ => by simp [pDefs] at h
  | n + 1, s, acc, l, M, h, ha, hM, hacc => by
    rw [pDefs] at h
    split at h
    · split at h
      · cases h
      · split at h
        · cases h
        · rename_i d s' hd
          have h1 := pDef_size hd
          refine pDefs_size n s' _ l M h (by simp; omega) (by omega) fun x hx => ?_
          rcases List.mem_append.1 hx with hx | hx
          · exact hacc x hx
          · rw [List.mem_singleton.1 hx]; omega
    · cases h; exact ⟨ha, hacc⟩
theorem parseS_fit (s : ByteArray) : (parseS s).1.length ≤ 16 ∧ ∀ d ∈ (parseS s).1, esz d.e ≤ 18000 := by
  unfold parseS
  split
  · split
    · exact ⟨by simp, by simp⟩
    · rename_i l hp
      refine pDefs_size _ _ _ _ 18000 hp (by simp) ?_ (by simp)
      have := scanR_len s
      dsimp only; omega
  · exact ⟨by simp, by simp⟩
theorem parseS_text (s : ByteArray) : TextFit (parseS s).1 := ⟨by have := (parseS_fit s).1; omega, fun d hd => by have := (parseS_fit s).2 d hd; omega⟩
end Go.Proofs.Ytkfeccbahpmadaa
namespace Go.Proofs.Ytkfeccbahpmadaa
open Go.RowKit

theorem pDef_err {fin : Int} {n : Nat} {s : PS} {f : Fault} (ho : s.opn = 0) (hn : 5 * s.l.length + 8 ≤ n) (h : pDef fin n s = .error f) : f.code ≠ 0 := by
  cases hs : s.l with
  | nil => rw [pDef_nil hs] at h; cases h; exact gone_ne (by decide)
  | cons t r =>
    by_cases hk : t.kind = 1
    · rw [pDef_eq hs hk] at h
      split at h
      · rename_i g hw
        cases h
        unfold PS.want at hw
        split at hw <;> cases hw
        exact gone_ne (by decide)
      · rename_i s1 hw
        have hl1 := PS.want_l' hw
        have ho1 : s1.opn = s.next.opn := PS.want_o hw
        have ho1' : s1.opn = 0 := ho1.trans ho
        have hps : RS.ps s1.l ⟨0, 0, 0, ⟨0, 0⟩⟩ = ⟨s1.l, s1.opn, 0⟩ := by rw [ho1']; rfl
        have hlen : s1.l.length + 1 = r.length := by
          have : s.next.l.length = r.length := by simp [PS.next, hs]
          omega
        have hR := (rel_all s1.l fin n ⟨0, 0, 0, ⟨0, 0⟩⟩ rfl (by rw [hps, ho1']; exact ⟨Int.le_refl 0, by show (0 : Int) ≤ 40; omega, Int.le_refl 0, by show (0 : Int) ≤ 60; omega⟩)).2.2.2.2 (by rw [hps]; rw [hs, List.length_cons] at hn; dsimp only; omega)
        rw [hps] at hR
        split at h
        · rename_i g ha
          cases h
          rw [ha] at hR
          exact hR.2
        · rename_i x s2 ha
          split at h
          · rename_i g hw2
            cases h
            unfold PS.want at hw2
            split at hw2 <;> cases hw2
            exact gone_ne (by decide)
          · cases h
    · rw [pDef_no hs hk] at h; cases h; exact gone_ne (by decide)
theorem pDefs_err {fin : Int} : ∀ (n : Nat) (s : PS) (acc : List Dfn) (f : Fault), s.l.length + 2 ≤ n → s.opn = 0 → pDefs fin n s acc = .error f → f.code ≠ 0
  | 0, s, acc, f, hn, _, _ => by omega
  | n + 1, s, acc, f, hn, ho, h => by
    rw [pDefs] at h
    split at h
    · split at h
      · cases h; exact gone_ne (by decide)
      · split at h
        · rename_i g hd
          cases h
          exact pDef_err ho (Nat.le_refl _) hd
        · rename_i d s' hd
          have hl := (pDef_len hd).1
          exact pDefs_err n s' _ f (by omega) ((pDef_opn hd).trans ho) h
    · cases h
theorem sameT_sh (k : Nat) : ∀ (t u : List Dfn), sameT false (t ++ u.map (shD k)) (t ++ u) = true
  | [], [] => rfl
  | [], x :: u => by
    have := sameT_sh k [] u
    simp only [List.nil_append] at this
    show sameT false (shD k x :: u.map (shD k)) (x :: u) = true
    rw [sameT, this, eqD, show (shD k x).e = x.e from rfl, eqE_refl]
    simp [shD]
  | x :: t, u => by
    show sameT false (x :: (t ++ u.map (shD k))) (x :: (t ++ u)) = true
    rw [sameT, sameT_sh k t u, eqD, eqE_refl]
    simp
theorem parseS_err {s : ByteArray} {f : Fault} (h0 : (Old.scanR s).2.1 = 0) (h : parseToks s.size (Old.scanR s).1 = .error f) : parseS s = ([], f) := by
  unfold parseS; rw [if_pos h0, h]
theorem parseS_ok {s : ByteArray} {l : List Dfn} (h0 : (Old.scanR s).2.1 = 0) (h : parseToks s.size (Old.scanR s).1 = .ok l) : parseS s = (l, ⟨0, 0⟩) := by
  unfold parseS; rw [if_pos h0, h]
theorem parseS_bad {s : ByteArray} (h0 : (Old.scanR s).2.1 ≠ 0) : parseS s = ([], ⟨(Old.scanR s).2.1, (Old.scanR s).2.2⟩) := by
  unfold parseS; rw [if_neg h0]
/-- What the law asks of three results. -/
def Joins (n : Nat) (A B S : List Dfn × Fault) : Prop :=
  (A.2.code ≠ 0 → (n : Int) ≤ A.2.at_ ∨ A.2.code = 1 ∨ B.2.code = 1 ∨ B.2.code = 2 ∨ S.2 = A.2) ∧
  (A.2.code = 0 → B.2.code ≠ 0 → S.2.code ≠ 0 ∨ B.2.code = 4) ∧
  (A.2.code = 0 → B.2.code = 0 → 16 < A.1.length + B.1.length → S.2.code = 6) ∧
  (A.2.code = 0 → B.2.code = 0 → A.1.length + B.1.length ≤ 16 → S.2.code = 0 ∧ sameT false S.1 (A.1 ++ B.1) = true)
theorem parse_join (a b : ByteArray) (h : a.size + b.size ≤ 5999) : Joins a.size (parseS a) (parseS b) (parseS (a ++ (Old.nlB ++ b))) := by
  rcases Old.scan_join a b h with ⟨T, U, h1, h2, h3⟩ | ⟨T, c, p, h1, hc, h2, h3⟩ | ⟨c, p, hc, h1, h2⟩
  · have a0 : (Old.scanR a).2.1 = 0 := by rw [h1]
    have b0 : (Old.scanR b).2.1 = 0 := by rw [h2]
    have s0 : (Old.scanR (a ++ (Old.nlB ++ b))).2.1 = 0 := by rw [h3]
    generalize hN : (a ++ (Old.nlB ++ b)).size = N
    have hE := ext_defs a.size N (U.map (Old.shTk (a.size + 1))) (T.length + 2) ((T ++ U.map (Old.shTk (a.size + 1))).length + 2) ⟨T, 0, 0⟩ [] (Nat.le_refl _) (by simp)
    have hS : PS.ext (U.map (Old.shTk (a.size + 1))) ⟨T, 0, 0⟩ = ⟨T ++ U.map (Old.shTk (a.size + 1)), 0, 0⟩ := rfl
    rw [hS] at hE
    have pS : parseToks N (T ++ U.map (Old.shTk (a.size + 1))) = pDefs N ((T ++ U.map (Old.shTk (a.size + 1))).length + 2) ⟨T ++ U.map (Old.shTk (a.size + 1)), 0, 0⟩ [] := rfl
    cases hA : pDefs a.size (T.length + 2) ⟨T, 0, 0⟩ [] with
    | error f =>
      have eA : parseS a = ([], f) := parseS_err a0 (by rw [h1]; exact hA)
      have hf := pDefs_err _ _ _ _ (Nat.le_refl _) rfl hA
      rw [hA] at hE
      rw [eA]
      refine ⟨fun _ => ?_, fun h => absurd h hf, fun h => absurd h hf, fun h => absurd h hf⟩
      by_cases hat : (a.size : Int) ≤ f.at_
      · exact .inl hat
      · have := hE (by omega)
        refine .inr (.inr (.inr (.inr ?_)))
        rw [parseS_err s0 (by rw [h3, hN, pS]; exact this)]
    | ok t =>
      have eA : parseS a = (t, ⟨0, 0⟩) := parseS_ok a0 (by rw [h1]; exact hA)
      have ht16 : t.length ≤ 16 := by have := (parseS_fit a).1; rwa [eA] at this
      rw [hA] at hE
      obtain ⟨m', o, p, e1, e2, e3, e4⟩ := hE
      obtain rfl := e3 rfl
      rw [eA]
      by_cases hU : U.length = 0
      · obtain rfl := List.length_eq_zero_iff.1 hU
        have hB : parseToks b.size [] = .error ⟨4, b.size⟩ := rfl
        have eB : parseS b = ([], ⟨4, b.size⟩) := parseS_err b0 (by rw [h2]; exact hB)
        rw [eB]
        exact ⟨fun h => absurd rfl h, fun _ _ => .inr rfl, fun _ h => absurd (show (4 : Int) = 0 from h) (by decide), fun _ h => absurd (show (4 : Int) = 0 from h) (by decide)⟩
      · have hD := sh_defs b.size N (a.size + 1) t ht16 (U.length + 2) m' ⟨U, 0, 0⟩ [] p (Nat.le_refl _) (by simpa using e2) (.inr (by dsimp only; omega)) (by simpa using ht16)
        simp only [List.map_nil, List.append_nil] at hD
        have hsh : (⟨(shP (a.size + 1) ⟨U, 0, 0⟩).l, (⟨U, 0, 0⟩ : PS).opn, p⟩ : PS) = ⟨U.map (Old.shTk (a.size + 1)), 0, p⟩ := rfl
        rw [hsh] at hD
        cases hB : pDefs b.size (U.length + 2) ⟨U, 0, 0⟩ [] with
        | error g =>
          have eB : parseS b = ([], g) := parseS_err b0 (by rw [h2]; exact hB)
          have hg := pDefs_err _ _ _ _ (Nat.le_refl _) rfl hB
          rw [hB] at hD
          obtain ⟨g', g1, g2⟩ := hD
          rw [eB, parseS_err s0 (by rw [h3, hN, pS, e1]; exact g1)]
          exact ⟨fun h => absurd rfl h, fun _ _ => .inl (by dsimp only; omega), fun _ h => absurd h hg, fun _ h => absurd h hg⟩
        | ok u =>
          have eB : parseS b = (u, ⟨0, 0⟩) := parseS_ok b0 (by rw [h2]; exact hB)
          rw [hB] at hD
          rw [eB]
          refine ⟨fun h => absurd rfl h, fun _ h => absurd rfl h, fun _ _ h16 => ?_, fun _ _ h16 => ?_⟩
          · obtain ⟨g', g1, g2⟩ := hD.2 h16
            rw [parseS_err s0 (by rw [h3, hN, pS, e1]; exact g1)]
            exact g2
          · rw [parseS_ok s0 (by rw [h3, hN, pS, e1]; exact hD.1 h16)]
            exact ⟨rfl, sameT_sh _ _ _⟩
  · have eB := parseS_bad (s := b) (by rw [h2]; show c ≠ 0; omega)
    rw [h2] at eB
    have eS := parseS_bad h3
    rw [eB, eS]
    have hc0 : c ≠ 0 := by omega
    exact ⟨fun _ => by dsimp only; omega, fun _ _ => .inl h3, fun _ h => absurd h hc0, fun _ h => absurd h hc0⟩
  · have eA := parseS_bad (s := a) (by rw [h1]; exact hc)
    have eS := parseS_bad (s := a ++ (Old.nlB ++ b)) (by rw [h2]; exact hc)
    rw [h1] at eA
    rw [h2] at eS
    rw [eA, eS]
    exact ⟨fun _ => .inr (.inr (.inr (.inr rfl))), fun h => absurd h hc, fun h => absurd h hc, fun h => absurd h hc⟩
end Go.Proofs.Ytkfeccbahpmadaa
