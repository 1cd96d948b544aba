/-
  The reference's parser of texts, plain: it goes on, and keeps the first fault; it says what the parser says. The reference's parser of texts, plain: what stays.
-/
import Derived.Test.YtkfeccbahpmadaaSynP
set_option linter.unusedVariables false
set_option linter.unusedSimpArgs false
set_option linter.unusedSectionVars false
namespace Go.Proofs.Ytkfeccbahpmadaa
open Go.RowKit

def zeroX : Expr := .mk 0 ⟨#[]⟩ []
structure RS where
  at_ : Nat
  opn : Int
  parts : Int
  f : Fault
def RS.ps (L : List Tk) (r : RS) : PS := ⟨L.drop r.at_, r.opn, r.parts⟩
def RS.ok (r : RS) : Bool := decide (r.f.code = 0)
def RS.wrong (L : List Tk) (en : Int) (r : RS) (code : Int) : RS := if r.ok = true then ⟨r.at_, r.opn, r.parts, (r.ps L).gone en code⟩ else r
def RS.is (L : List Tk) (r : RS) (x : ByteArray) : Bool := r.ok && (r.ps L).sign x
def RS.kind (L : List Tk) (r : RS) : Int := if r.ok = true then (match L.drop r.at_ with | [] => 0 | t :: _ => t.kind) else 0
def RS.txt (L : List Tk) (r : RS) : ByteArray := match L.drop r.at_ with | [] => ⟨#[]⟩ | t :: _ => t.text
def RS.adv (r : RS) : RS := ⟨r.at_ + 1, r.opn, r.parts, r.f⟩
def RS.must (L : List Tk) (en : Int) (r : RS) (x : ByteArray) : RS := if r.is L x = true then r.adv else r.wrong L en 3
def RS.more (r : RS) : RS := ⟨r.at_, r.opn, r.parts + 1, r.f⟩
def RS.part (L : List Tk) (en : Int) (r : RS) : RS := if 60 ≤ r.parts then (r.wrong L en 6).more else r.more
def RS.deep (L : List Tk) (en : Int) (r : RS) : RS := if 40 ≤ r.opn then r.wrong L en 5 else r
def RS.opened (L : List Tk) (r : RS) : Option (Int × ByteArray) := if r.ok = true then (r.ps L).bracket else none
def RS.shut (r : RS) : RS := ⟨r.at_, r.opn - 1, r.parts, r.f⟩
def RS.into (r : RS) : RS := ⟨r.at_ + 1, r.opn + 1, r.parts, r.f⟩
mutual
def rItem (L : List Tk) (en : Int) : Nat → RS → Expr × Bool × RS
  | 0, r => (zeroX, false, r)
  | 1, r => (zeroX, false, r)
  | n + 2, r =>
    if r.kind L = 1 ∨ r.kind L = 2 then
      if (r.part L en).ok = true then (.mk (if r.kind L = 2 then 1 else 2) ((r.part L en).txt L) [], true, (r.part L en).adv) else (zeroX, false, r.part L en)
    else match r.opened L with
      | none => (zeroX, false, r)
      | some (op, e) =>
        if ((r.deep L en).part L en).ok = true then
          (wrapE op (rAlt L en n ((r.deep L en).part L en).into).1, ((rAlt L en n ((r.deep L en).part L en).into).2.must L en e).ok, ((rAlt L en n ((r.deep L en).part L en).into).2.must L en e).shut)
        else (zeroX, false, (r.deep L en).part L en)
def rItems (L : List Tk) (en : Int) : Nat → RS → List Expr → List Expr × RS
  | 0, r, acc => (acc, r)
  | n + 1, r, acc => if (rItem L en n r).2.1 = true then rItems L en n (rItem L en n r).2.2 (acc ++ [(rItem L en n r).1]) else (acc, (rItem L en n r).2.2)
def rRow (L : List Tk) (en : Int) : Nat → RS → Expr × RS
  | 0, r => (zeroX, r)
  | n + 1, r => (one 3 (rItems L en n r []).1, (rItems L en n r []).2)
def rAlts (L : List Tk) (en : Int) : Nat → RS → List Expr → List Expr × RS
  | 0, r, acc => (acc, r)
  | n + 1, r, acc => if r.is L (sgn 124) = true then
      if (r.part L en).ok = true then rAlts L en n (rRow L en n (r.part L en).adv).2 (acc ++ [(rRow L en n (r.part L en).adv).1]) else (acc, r.part L en)
    else (acc, r)
def rAlt (L : List Tk) (en : Int) : Nat → RS → Expr × RS
  | 0, r => (zeroX, r)
  | n + 1, r => if (rRow L en n r).2.is L (sgn 124) = true then (.mk 4 ⟨#[]⟩ (rAlts L en n (rRow L en n r).2 [(rRow L en n r).1]).1, (rAlts L en n (rRow L en n r).2 [(rRow L en n r).1]).2) else rRow L en n r
end
/-! ### Once there is a fault -/
section
variable {L : List Tk} {en : Int} {r : RS}
theorem RS.not_ok (h : r.f.code ≠ 0) : r.ok = false := decide_eq_false h
theorem RS.is_bad (h : r.f.code ≠ 0) (x : ByteArray) : r.is L x = false := by rw [RS.is, RS.not_ok h]; rfl
theorem RS.kind_bad (h : r.f.code ≠ 0) : r.kind L = 0 := by rw [RS.kind, RS.not_ok h]; rfl
theorem RS.wrong_bad (h : r.f.code ≠ 0) (c : Int) : r.wrong L en c = r := by rw [RS.wrong, RS.not_ok h]; rfl
theorem RS.must_bad (h : r.f.code ≠ 0) (x : ByteArray) : r.must L en x = r := by rw [RS.must, RS.is_bad h, if_neg (by decide), RS.wrong_bad h]
theorem rItem_bad (h : r.f.code ≠ 0) : ∀ n, rItem L en n r = (zeroX, false, r)
  | 0 => by rw [rItem]
  | 1 => by rw [rItem]
  | n + 2 => by rw [rItem, RS.kind_bad h, if_neg (by decide), RS.opened, RS.not_ok h]; rfl
theorem rItems_bad (h : r.f.code ≠ 0) (acc : List Expr) : ∀ n, rItems L en n r acc = (acc, r)
  | 0 => by rw [rItems]
  | n + 1 => by rw [rItems, rItem_bad h]; rfl
theorem rRow_bad (h : r.f.code ≠ 0) : ∀ n, (rRow L en n r).2 = r
  | 0 => by rw [rRow]
  | n + 1 => by rw [rRow, rItems_bad h]
theorem rAlts_bad (h : r.f.code ≠ 0) (acc : List Expr) : ∀ n, rAlts L en n r acc = (acc, r)
  | 0 => by rw [rAlts]
  | n + 1 => by rw [rAlts, RS.is_bad h]; rfl
theorem rAlt_bad (h : r.f.code ≠ 0) : ∀ n, (rAlt L en n r).2 = r
  | 0 => by rw [rAlt]
  | n + 1 => by rw [rAlt, rRow_bad h, RS.is_bad h]; exact rRow_bad h n
end
/-! ### As the parser -/
section
variable {L : List Tk} {en : Int}
def Rel (L : List Tk) {α : Type} (res : Except Fault (α × PS)) (x : α) (r : RS) : Prop := match res with
  | .ok (y, s) => x = y ∧ r.f.code = 0 ∧ r.ps L = s
  | .error f => r.f = f ∧ f.code ≠ 0
theorem gone_ne {s : PS} {en : Int} {c : Int} (h : c ≠ 0) : (s.gone en c).code ≠ 0 := by
  unfold PS.gone
  split
  · show (if c = 3 then (4 : Int) else c) ≠ 0
    split <;> omega
  · exact h
theorem wrong_ok {r : RS} (h : r.f.code = 0) (c : Int) : r.wrong L en c = ⟨r.at_, r.opn, r.parts, (r.ps L).gone en c⟩ := by rw [RS.wrong, RS.ok, if_pos (decide_eq_true h)]
theorem must_rel {r : RS} (h : r.f.code = 0) (x : ByteArray) : match (r.ps L).want en x with | .ok s => (r.must L en x).f.code = 0 ∧ (r.must L en x).ps L = s | .error f => (r.must L en x).f = f ∧ f.code ≠ 0 := by
  have hok : r.ok = true := decide_eq_true h
  unfold PS.want RS.must RS.is
  rw [hok, Bool.true_and]
  by_cases hs : (r.ps L).sign x = true
  · rw [if_pos hs, if_pos hs]
    exact ⟨h, by simp [RS.adv, RS.ps, PS.next, List.tail_drop]⟩
  · rw [if_neg hs, if_neg hs, wrong_ok h]
    exact ⟨rfl, gone_ne (by decide)⟩
theorem part_rel {r : RS} (h : r.f.code = 0) (hp : r.parts ≤ 60) : match (r.ps L).part en with | .ok s => (r.part L en).f.code = 0 ∧ (r.part L en).ps L = s ∧ r.part L en = r.more | .error f => (r.part L en).f = f ∧ f.code ≠ 0 := by
  unfold PS.part RS.part
  by_cases h60 : r.parts = 60
  · rw [if_pos (show (r.ps L).parts = 60 from h60), if_pos (show 60 ≤ r.parts by omega), wrong_ok h]
    exact ⟨rfl, gone_ne (by decide)⟩
  · rw [if_neg (show ¬ (r.ps L).parts = 60 from h60), if_neg (show ¬ 60 ≤ r.parts by omega)]
    exact ⟨h, rfl, rfl⟩
theorem adv_ps (r : RS) : r.adv.ps L = (r.ps L).next := by simp [RS.adv, RS.ps, PS.next, List.tail_drop]
theorem into_ps (r : RS) : r.into.ps L = PS.next ⟨(r.ps L).l, (r.ps L).opn + 1, (r.ps L).parts⟩ := by simp [RS.into, RS.ps, PS.next, List.tail_drop]
theorem one_many {op : Int} {l : List Expr} (h : l.length ≠ 1) : one op l = .mk op ⟨#[]⟩ l := by
  match l, h with
  | [], _ => rfl
  | [x], h => exact absurd rfl h
  | _ :: _ :: _, _ => rfl
theorem pAlts_len (fin : Int) : ∀ (n : Nat) (s : PS) (acc l : List Expr) (s' : PS), pAlts fin n s acc = .ok (l, s') → acc.length ≤ l.length
  | 0, s, acc, l, s', h => by simp [pAlts] at h
  | n + 1, s, acc, l, s', h => by
    rw [pAlts] at h
    split at h
    · split at h
      · cases h
      · split at h
        · cases h
        · have := pAlts_len fin n _ _ _ _ h
          simp only [List.length_append, List.length_singleton] at this
          omega
    · cases h; exact Nat.le_refl _
def RelI (L : List Tk) (res : Except Fault (Option Expr × PS)) (x : Expr) (b : Bool) (r : RS) : Prop := match res with
  | .ok (some y, s) => x = y ∧ b = true ∧ r.f.code = 0 ∧ r.ps L = s
  | .ok (none, s) => x = zeroX ∧ b = false ∧ r.f.code = 0 ∧ r.ps L = s
  | .error f => b = false ∧ r.f = f ∧ f.code ≠ 0
theorem rel_all (L : List Tk) (en : Int) : ∀ n, ∀ r : RS, r.f.code = 0 → (r.ps L).Good →
    (5 * (r.ps L).l.length + 1 ≤ n → RelI L (pItem en n (r.ps L)) (rItem L en n r).1 (rItem L en n r).2.1 (rItem L en n r).2.2) ∧
    (∀ acc, 5 * (r.ps L).l.length + 2 ≤ n → Rel L (pItems en n (r.ps L) acc) (rItems L en n r acc).1 (rItems L en n r acc).2) ∧
    (5 * (r.ps L).l.length + 3 ≤ n → Rel L (pRow en n (r.ps L)) (rRow L en n r).1 (rRow L en n r).2) ∧
    (∀ acc, 5 * (r.ps L).l.length + 1 ≤ n → Rel L (pAlts en n (r.ps L) acc) (rAlts L en n r acc).1 (rAlts L en n r acc).2) ∧
    (5 * (r.ps L).l.length + 4 ≤ n → Rel L (pAlt en n (r.ps L)) (rAlt L en n r).1 (rAlt L en n r).2) := by
  intro n
  induction n using Nat.strongRecOn with
  | _ n ih =>
  intro r h0 hg
  have hok : r.ok = true := decide_eq_true h0
  refine ⟨fun hn => ?_, fun acc hn => ?_, fun hn => ?_, fun acc hn => ?_, fun hn => ?_⟩
  · -- item
    match n, hn, ih with
    | 1, hn, _ =>
      have hl : (r.ps L).l = [] := List.length_eq_zero_iff.1 (by omega)
      rw [pItem, rItem, hl]
      exact ⟨rfl, rfl, h0, rfl⟩
    | n + 2, hn, ih =>
      rw [pItem, rItem]
      have hk : r.kind L = match (r.ps L).l with | [] => 0 | t :: _ => t.kind := by rw [RS.kind, if_pos hok]; rfl
      have ho : r.opened L = (r.ps L).bracket := by rw [RS.opened, if_pos hok]
      cases hl : (r.ps L).l with
      | nil =>
        rw [hl] at hk
        have hb : (r.ps L).bracket = none := by simp [PS.bracket, PS.sign, hl]
        rw [hk, if_neg (by decide), ho, hb]
        exact ⟨rfl, rfl, h0, rfl⟩
      | cons t q =>
        rw [hl] at hk
        dsimp only at hk ⊢
        rw [hk, ho]
        by_cases hkind : t.kind = 1 ∨ t.kind = 2
        · rw [if_pos hkind, if_pos hkind]
          have hp := part_rel (L := L) (en := en) h0 hg.2.2.2
          cases hc : (r.ps L).part en with
          | error f =>
            rw [hc] at hp
            obtain ⟨p1, p2⟩ := hp
            rw [show (r.part L en).ok = false from RS.not_ok (by rw [p1]; exact p2), if_neg (show ¬ (false = true) by decide)]
            exact ⟨rfl, p1, p2⟩
          | ok s1 =>
            rw [hc] at hp
            obtain ⟨p1, p2, p3⟩ := hp
            rw [if_pos (show (r.part L en).ok = true from decide_eq_true p1)]
            refine ⟨?_, rfl, p1, by rw [adv_ps, p2]⟩
            have : (r.part L en).txt L = t.text := by rw [p3]; unfold RS.txt RS.more; have : L.drop r.at_ = t :: q := hl; rw [this]
            rw [this]
        · rw [if_neg hkind, if_neg hkind]
          cases hb : (r.ps L).bracket with
          | none => exact ⟨rfl, rfl, h0, rfl⟩
          | some p =>
            obtain ⟨op, e⟩ := p
            dsimp only
            rw [pGroup]
            by_cases h40 : (r.ps L).opn = 40
            · have h40' : r.opn = 40 := h40
              have hd : r.deep L en = ⟨r.at_, r.opn, r.parts, (r.ps L).gone en 5⟩ := by rw [RS.deep, if_pos (by omega), wrong_ok h0]
              rw [if_pos h40, hd]
              have hbad : ((RS.part L en ⟨r.at_, r.opn, r.parts, (r.ps L).gone en 5⟩)).f = (r.ps L).gone en 5 := by
                unfold RS.part
                split
                · rw [RS.wrong_bad (by exact gone_ne (by decide))]; rfl
                · rfl
              rw [show (RS.part L en ⟨r.at_, r.opn, r.parts, (r.ps L).gone en 5⟩).ok = false from RS.not_ok (by rw [hbad]; exact gone_ne (by decide)), if_neg (show ¬ (false = true) by decide)]
              exact ⟨rfl, hbad, gone_ne (by decide)⟩
            · have h40' : ¬ r.opn = 40 := h40
              have hle : r.opn ≤ 40 := hg.2.1
              have hd : r.deep L en = r := by rw [RS.deep, if_neg (by omega)]
              rw [if_neg h40, hd]
              have hp := part_rel (L := L) (en := en) h0 hg.2.2.2
              cases hc : (r.ps L).part en with
              | error f =>
                rw [hc] at hp
                obtain ⟨p1, p2⟩ := hp
                rw [show (r.part L en).ok = false from RS.not_ok (by rw [p1]; exact p2), if_neg (show ¬ (false = true) by decide)]
                exact ⟨rfl, p1, p2⟩
              | ok s1 =>
                rw [hc] at hp
                obtain ⟨p1, p2, p3⟩ := hp
                rw [if_pos (show (r.part L en).ok = true from decide_eq_true p1)]
                obtain ⟨a, b, c⟩ := PS.part_ok hc hg
                have g1 : (PS.next ⟨s1.l, s1.opn + 1, s1.parts⟩).Good := by
                  obtain ⟨a1, a2, a3, a4⟩ := a
                  have b' : s1.opn = r.opn := b
                  have : 0 ≤ r.opn := hg.1
                  exact ⟨by show 0 ≤ s1.opn + 1; omega, by show s1.opn + 1 ≤ 40; omega, a3, a4⟩
                have hps : (r.part L en).into.ps L = PS.next ⟨s1.l, s1.opn + 1, s1.parts⟩ := by rw [into_ps, p2]
                have hlen : (PS.next ⟨s1.l, s1.opn + 1, s1.parts⟩).l.length + 1 = (r.ps L).l.length := by
                  show s1.l.tail.length + 1 = _
                  rw [c, hl]; rfl
                have hA := (ih n (by omega) (r.part L en).into p1 (by rw [hps]; exact g1)).2.2.2.2 (by rw [hps]; omega)
                rw [hps] at hA
                generalize rAlt L en n (r.part L en).into = A at hA ⊢
                obtain ⟨x, r2⟩ := A
                dsimp only at hA ⊢
                cases hq : pAlt en n (PS.next ⟨s1.l, s1.opn + 1, s1.parts⟩) with
                | error f =>
                  rw [hq] at hA
                  obtain ⟨q1, q2⟩ := hA
                  have hb2 : r2.f.code ≠ 0 := by rw [q1]; exact q2
                  rw [RS.must_bad hb2]
                  exact ⟨RS.not_ok hb2, q1, q2⟩
                | ok z =>
                  obtain ⟨y, s2⟩ := z
                  rw [hq] at hA
                  obtain ⟨rfl, q2, q3⟩ := hA
                  have hm := must_rel (L := L) (en := en) q2 e
                  rw [q3] at hm
                  dsimp only
                  cases hw : s2.want en e with
                  | error f =>
                    rw [hw] at hm
                    obtain ⟨w1, w2⟩ := hm
                    exact ⟨decide_eq_false (by rw [w1]; exact w2), w1, w2⟩
                  | ok s3 =>
                    rw [hw] at hm
                    obtain ⟨w1, rfl⟩ := hm
                    exact ⟨rfl, decide_eq_true w1, w1, rfl⟩
  · -- items
    obtain ⟨n, rfl⟩ : ∃ m, n = m + 1 := ⟨n - 1, by omega⟩
    rw [pItems, rItems]
    have hI := (ih n (by omega) r h0 hg).1 (by omega)
    have hinv := inv_all en n
    generalize rItem L en n r = A at hI ⊢
    obtain ⟨x, b, r1⟩ := A
    dsimp only at hI ⊢
    cases hq : pItem en n (r.ps L) with
    | error f =>
      rw [hq] at hI
      obtain ⟨rfl, q1, q2⟩ := hI
      exact ⟨q1, q2⟩
    | ok z =>
      obtain ⟨o, s1⟩ := z
      cases o with
      | none =>
        rw [hq] at hI
        obtain ⟨_, rfl, q1, q2⟩ := hI
        exact ⟨rfl, q1, q2⟩
      | some y =>
        rw [hq] at hI
        obtain ⟨rfl, rfl, q1, rfl⟩ := hI
        have ht := hinv.1 _ _ _ hg hq
        exact (ih n (by omega) r1 q1 ht.1).2.1 _ (by have := ht.2.2; omega)
  · -- row
    obtain ⟨n, rfl⟩ : ∃ m, n = m + 1 := ⟨n - 1, by omega⟩
    rw [pRow, rRow]
    have hI := (ih n (by omega) r h0 hg).2.1 [] (by omega)
    generalize rItems L en n r [] = A at hI ⊢
    obtain ⟨x, r1⟩ := A
    dsimp only at hI ⊢
    cases hq : pItems en n (r.ps L) [] with
    | error f => rw [hq] at hI; exact hI
    | ok z =>
      rw [hq] at hI
      obtain ⟨rfl, q1, q2⟩ := hI
      exact ⟨rfl, q1, q2⟩
  · -- alts
    obtain ⟨n, rfl⟩ : ∃ m, n = m + 1 := ⟨n - 1, by omega⟩
    rw [pAlts, rAlts, RS.is, hok, Bool.true_and]
    by_cases hs : (r.ps L).sign (sgn 124) = true
    · rw [if_pos hs, if_pos hs]
      obtain ⟨t, q, hl, _⟩ := PS.sign_cons hs
      have hp := part_rel (L := L) (en := en) h0 hg.2.2.2
      cases hc : (r.ps L).part en with
      | error f =>
        rw [hc] at hp
        obtain ⟨p1, p2⟩ := hp
        rw [show (r.part L en).ok = false from RS.not_ok (by rw [p1]; exact p2), if_neg (show ¬ (false = true) by decide)]
        exact ⟨p1, p2⟩
      | ok s1 =>
        rw [hc] at hp
        obtain ⟨p1, p2, p3⟩ := hp
        rw [if_pos (show (r.part L en).ok = true from decide_eq_true p1)]
        obtain ⟨a, b, c⟩ := PS.part_ok hc hg
        have hps : (r.part L en).adv.ps L = s1.next := by rw [adv_ps, p2]
        have hlen : s1.next.l.length + 1 = (r.ps L).l.length := by
          show s1.l.tail.length + 1 = _
          rw [c, hl]; rfl
        have hR := (ih n (by omega) (r.part L en).adv p1 (by rw [hps]; exact a)).2.2.1 (by rw [hps]; omega)
        rw [hps] at hR
        have hinv := inv_all en n
        generalize rRow L en n (r.part L en).adv = A at hR ⊢
        obtain ⟨x, r2⟩ := A
        dsimp only at hR ⊢
        cases hq : pRow en n s1.next with
        | error f =>
          rw [hq] at hR
          obtain ⟨q1, q2⟩ := hR
          rw [rAlts_bad (by rw [q1]; exact q2)]
          exact ⟨q1, q2⟩
        | ok z =>
          obtain ⟨y, s2⟩ := z
          rw [hq] at hR
          obtain ⟨rfl, q1, rfl⟩ := hR
          have ht := hinv.2.2.2.2.1 _ _ _ (show s1.next.Good from a) hq
          exact (ih n (by omega) r2 q1 ht.1).2.2.2.1 _ (by have := ht.2.2; omega)
    · rw [if_neg hs, if_neg hs]
      exact ⟨rfl, h0, rfl⟩
  · -- alt
    obtain ⟨n, rfl⟩ : ∃ m, n = m + 1 := ⟨n - 1, by omega⟩
    rw [pAlt, rAlt]
    have hR := (ih n (by omega) r h0 hg).2.2.1 (by omega)
    have hinv := inv_all en n
    generalize rRow L en n r = A at hR ⊢
    obtain ⟨x, r2⟩ := A
    dsimp only at hR ⊢
    cases hq : pRow en n (r.ps L) with
    | error f =>
      rw [hq] at hR
      obtain ⟨q1, q2⟩ := hR
      rw [RS.is_bad (by rw [q1]; exact q2), if_neg (by decide)]
      exact ⟨q1, q2⟩
    | ok z =>
      obtain ⟨y, s2⟩ := z
      rw [hq] at hR
      obtain ⟨rfl, q1, rfl⟩ := hR
      have ht := hinv.2.2.2.2.1 _ _ _ hg hq
      have hA := (ih n (by omega) r2 q1 ht.1).2.2.2.1 [x] (by have := ht.2.2; omega)
      have hok2 : r2.ok = true := decide_eq_true q1
      rw [RS.is, hok2, Bool.true_and]
      dsimp only
      by_cases hs : (r2.ps L).sign (sgn 124) = true
      · rw [if_pos hs]
        obtain ⟨k, rfl⟩ : ∃ m, n = m + 1 := ⟨n - 1, by omega⟩
        generalize rAlts L en (k + 1) r2 [x] = A at hA ⊢
        obtain ⟨l, r3⟩ := A
        dsimp only at hA ⊢
        cases hq2 : pAlts en (k + 1) (r2.ps L) [x] with
        | error f => rw [hq2] at hA; exact hA
        | ok z2 =>
          obtain ⟨l2, s3⟩ := z2
          rw [hq2] at hA
          obtain ⟨rfl, q4, q5⟩ := hA
          refine ⟨?_, q4, q5⟩
          rw [pAlts, if_pos hs] at hq2
          split at hq2
          · cases hq2
          · split at hq2
            · cases hq2
            · have := pAlts_len en k _ _ _ _ hq2
              simp only [List.length_append, List.length_singleton] at this
              exact (one_many (by omega)).symm
      · obtain ⟨k, rfl⟩ : ∃ m, n = m + 1 := ⟨n - 1, by omega⟩
        rw [if_neg hs, pAlts, if_neg hs]
        exact ⟨rfl, q1, rfl⟩
end
end Go.Proofs.Ytkfeccbahpmadaa
namespace Go.Proofs.Ytkfeccbahpmadaa
open Go.RowKit

def RGood (L : List Tk) (r : RS) : Prop := r.at_ ≤ L.length ∧ 0 ≤ r.opn ∧ r.opn ≤ 40 ∧ 0 ≤ r.parts ∧ r.parts ≤ 61 ∧ (r.f.code = 0 → r.parts ≤ 60)
def RTo (L : List Tk) (r r' : RS) (k : Nat) : Prop := RGood L r' ∧ r'.opn = r.opn ∧ r.at_ + k ≤ r'.at_
section
variable {L : List Tk} {en : Int} {r : RS}
theorem RTo.refl (g : RGood L r) : RTo L r r 0 := ⟨g, rfl, Nat.le_refl _⟩
theorem RTo.trans {a b c : RS} {i j : Nat} (h1 : RTo L a b i) (h2 : RTo L b c j) : RTo L a c (i + j) := ⟨h2.1, h2.2.1.trans h1.2.1, by have := h1.2.2; have := h2.2.2; omega⟩
theorem RTo.weak {a b : RS} {i j : Nat} (h1 : RTo L a b i) (h : j ≤ i) : RTo L a b j := ⟨h1.1, h1.2.1, by have := h1.2.2; omega⟩
theorem wrong_to (g : RGood L r) {c : Int} (hc : c ≠ 0) : RTo L r (r.wrong L en c) 0 ∧ (r.wrong L en c).at_ = r.at_ ∧ (r.wrong L en c).parts = r.parts ∧ (r.wrong L en c).f.code ≠ 0 := by
  by_cases h : r.f.code = 0
  · rw [wrong_ok h]
    obtain ⟨g1, g2, g3, g4, g5, g6⟩ := g
    exact ⟨⟨⟨g1, g2, g3, g4, g5, fun h => absurd h (gone_ne hc)⟩, rfl, Nat.le_refl _⟩, rfl, rfl, gone_ne hc⟩
  · rw [RS.wrong_bad h]
    exact ⟨RTo.refl g, rfl, rfl, h⟩
theorem sign_lt {x : ByteArray} (h : (r.ps L).sign x = true) : r.at_ < L.length := by
  obtain ⟨t, q, hl, _⟩ := PS.sign_cons h
  have : (L.drop r.at_).length = (t :: q).length := by rw [show L.drop r.at_ = t :: q from hl]
  rw [List.length_drop, List.length_cons] at this
  omega
theorem is_lt {x : ByteArray} (h : r.is L x = true) : r.at_ < L.length ∧ r.f.code = 0 := by
  rw [RS.is, Bool.and_eq_true] at h
  exact ⟨sign_lt h.2, of_decide_eq_true h.1⟩
theorem kind_lt (h : r.kind L ≠ 0) : r.at_ < L.length ∧ r.f.code = 0 := by
  unfold RS.kind at h
  split at h
  · rename_i hok
    split at h
    · exact absurd rfl h
    · rename_i t q hl
      have : (L.drop r.at_).length = (t :: q).length := by rw [hl]
      rw [List.length_drop, List.length_cons] at this
      exact ⟨by omega, of_decide_eq_true hok⟩
  · exact absurd rfl h
theorem opened_lt {p : Int × ByteArray} (h : r.opened L = some p) : r.at_ < L.length ∧ r.f.code = 0 := by
  unfold RS.opened at h
  split at h
  · rename_i hok
    have := PS.bracket_cons (op := p.1) (e := p.2) h
    have hl : (r.ps L).l.length = L.length - r.at_ := List.length_drop ..
    exact ⟨by omega, of_decide_eq_true hok⟩
  · cases h
theorem adv_to (g : RGood L r) (h : r.at_ < L.length) : RTo L r r.adv 1 := by
  obtain ⟨g1, g2, g3, g4, g5, g6⟩ := g
  exact ⟨⟨h, g2, g3, g4, g5, g6⟩, rfl, Nat.le_refl _⟩
theorem must_to (g : RGood L r) {x : ByteArray} : RTo L r (r.must L en x) 0 := by
  unfold RS.must
  split
  · rename_i h; exact RTo.weak (adv_to g (is_lt h).1) (by omega)
  · exact (wrong_to g (by decide)).1
theorem part_to (g : RGood L r) (h : r.parts ≤ 60) : RTo L r (r.part L en) 0 ∧ (r.part L en).at_ = r.at_ := by
  unfold RS.part
  split
  · obtain ⟨⟨⟨g1, g2, g3, g4, g5, g6⟩, b, c⟩, e1, e2, e3⟩ := wrong_to (en := en) g (c := 6) (by decide)
    exact ⟨⟨⟨g1, g2, g3, by show 0 ≤ (r.wrong L en 6).parts + 1; omega, by show (r.wrong L en 6).parts + 1 ≤ 61; omega, fun h => absurd h e3⟩, b, c⟩, e1⟩
  · obtain ⟨g1, g2, g3, g4, g5, g6⟩ := g
    exact ⟨⟨⟨g1, g2, g3, by show 0 ≤ r.parts + 1; omega, by show r.parts + 1 ≤ 61; omega, fun _ => by show r.parts + 1 ≤ 60; omega⟩, rfl, Nat.le_refl _⟩, rfl⟩
theorem deep_to (g : RGood L r) : RTo L r (r.deep L en) 0 ∧ (r.deep L en).at_ = r.at_ ∧ (r.deep L en).parts = r.parts ∧ ((r.deep L en).f.code = 0 → r.opn < 40) := by
  unfold RS.deep
  split
  · obtain ⟨a, b, c, d⟩ := wrong_to (en := en) g (c := 5) (by decide)
    exact ⟨a, b, c, fun h => absurd h d⟩
  · exact ⟨RTo.refl g, rfl, rfl, fun _ => by omega⟩
theorem part_ok_of (h : (r.part L en).f.code = 0) : r.f.code = 0 := by
  unfold RS.part at h
  split at h
  · by_cases h0 : r.f.code = 0
    · exact h0
    · rw [RS.wrong_bad h0] at h; exact absurd h h0
  · exact h
end
theorem rinv_all (L : List Tk) (en : Int) : ∀ n, ∀ r : RS, RGood L r →
    (RTo L r (rItem L en n r).2.2 0 ∧ ((rItem L en n r).2.1 = true → RTo L r (rItem L en n r).2.2 1)) ∧
    (∀ acc, RTo L r (rItems L en n r acc).2 0) ∧ RTo L r (rRow L en n r).2 0 ∧ (∀ acc, RTo L r (rAlts L en n r acc).2 0) ∧ RTo L r (rAlt L en n r).2 0 := by
  intro n
  induction n using Nat.strongRecOn with
  | _ n ih =>
  intro r g
  match n, ih with
  | 0, _ => simp only [rItem, rItems, rRow, rAlts, rAlt]; exact ⟨⟨RTo.refl g, by simp⟩, fun _ => RTo.refl g, RTo.refl g, fun _ => RTo.refl g, RTo.refl g⟩
  | n + 1, ih =>
    refine ⟨?_, fun acc => ?_, ?_, fun acc => ?_, ?_⟩
    · match n, ih with
      | 0, _ => simp only [rItem]; exact ⟨RTo.refl g, by simp⟩
      | n + 1, ih =>
        rw [rItem]
        by_cases hk : r.kind L = 1 ∨ r.kind L = 2
        · rw [if_pos hk]
          obtain ⟨k1, k2⟩ := kind_lt (L := L) (r := r) (by omega)
          obtain ⟨p1, p2⟩ := part_to (en := en) g (g.2.2.2.2.2 k2)
          split
          · have := RTo.trans p1 (adv_to p1.1 (by omega))
            exact ⟨RTo.weak this (by omega), fun _ => RTo.weak this (by omega)⟩
          · exact ⟨p1, by simp⟩
        · rw [if_neg hk]
          cases ho : r.opened L with
          | none => exact ⟨RTo.refl g, by simp⟩
          | some p =>
            obtain ⟨op, e⟩ := p
            dsimp only
            obtain ⟨k1, k2⟩ := opened_lt ho
            obtain ⟨d1, d2, d3, d4⟩ := deep_to (en := en) g
            have h60 := g.2.2.2.2.2 k2
            obtain ⟨p1, p2⟩ := part_to (en := en) d1.1 (by omega)
            split
            · rename_i hok
              have hok' : ((r.deep L en).part L en).f.code = 0 := of_decide_eq_true hok
              have h40 := d4 (part_ok_of hok')
              have ho1 : ((r.deep L en).part L en).opn = r.opn := p1.2.1.trans d1.2.1
              have gi : RGood L ((r.deep L en).part L en).into := by
                obtain ⟨g1, g2, g3, g4, g5, g6⟩ := p1.1
                exact ⟨by show ((r.deep L en).part L en).at_ + 1 ≤ _; omega, by show 0 ≤ ((r.deep L en).part L en).opn + 1; omega, by show ((r.deep L en).part L en).opn + 1 ≤ 40; omega, g4, g5, g6⟩
              have hA := (ih n (by omega) _ gi).2.2.2.2
              have hB := RTo.trans hA (must_to (en := en) (x := e) hA.1)
              obtain ⟨⟨g1, g2, g3, g4, g5, g6⟩, b, c⟩ := hB
              have b' : ((rAlt L en n ((r.deep L en).part L en).into).2.must L en e).opn = ((r.deep L en).part L en).opn + 1 := b
              have c' : ((r.deep L en).part L en).at_ + 1 + (0 + 0) ≤ ((rAlt L en n ((r.deep L en).part L en).into).2.must L en e).at_ := c
              have key : RTo L r ((rAlt L en n ((r.deep L en).part L en).into).2.must L en e).shut 1 := by
                refine ⟨⟨g1, ?_, ?_, g4, g5, g6⟩, ?_, ?_⟩
                · show 0 ≤ ((rAlt L en n ((r.deep L en).part L en).into).2.must L en e).opn - 1
                  have := g.2.1; omega
                · show ((rAlt L en n ((r.deep L en).part L en).into).2.must L en e).opn - 1 ≤ 40
                  omega
                · show ((rAlt L en n ((r.deep L en).part L en).into).2.must L en e).opn - 1 = r.opn
                  omega
                · show r.at_ + 1 ≤ ((rAlt L en n ((r.deep L en).part L en).into).2.must L en e).at_
                  omega
              exact ⟨RTo.weak key (by omega), fun _ => key⟩
            · exact ⟨RTo.weak (RTo.trans d1 p1) (by omega), by simp⟩
    · rw [rItems]
      obtain ⟨i1, i2⟩ := (ih n (by omega) r g).1
      split
      · exact RTo.weak (RTo.trans i1 ((ih n (by omega) _ i1.1).2.1 _)) (by omega)
      · exact i1
    · rw [rRow]; exact (ih n (by omega) r g).2.1 _
    · rw [rAlts]
      split
      · rename_i hs
        obtain ⟨k1, k2⟩ := is_lt hs
        obtain ⟨p1, p2⟩ := part_to (en := en) g (g.2.2.2.2.2 k2)
        split
        · have a1 := adv_to p1.1 (by omega)
          have hR := (ih n (by omega) _ a1.1).2.2.1
          exact RTo.weak (RTo.trans (RTo.trans p1 a1) (RTo.trans hR ((ih n (by omega) _ hR.1).2.2.2.1 _))) (by omega)
        · exact p1
      · exact RTo.refl g
    · rw [rAlt]
      have hR := (ih n (by omega) r g).2.2.1
      split
      · exact RTo.weak (RTo.trans hR ((ih n (by omega) _ hR.1).2.2.2.1 _)) (by omega)
      · exact hR
end Go.Proofs.Ytkfeccbahpmadaa
