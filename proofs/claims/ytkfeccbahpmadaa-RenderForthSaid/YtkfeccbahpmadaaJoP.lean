/-
  Tokens: the plain law of one text behind another: its tokens. The parser, plain: one text behind another. The parser, plain: tokens at other places; definitions; one text behind another.
-/
import Derived.Test.YtkfeccbahpmadaaTkB
import Derived.Test.YtkfeccbahpmadaaSyH
import Derived.Test.YtkfeccbahpmadaaSynS
set_option linter.unusedVariables false
set_option linter.unusedSimpArgs false
set_option linter.unusedSectionVars false
namespace Go.Proofs.Ytkfeccbahpmadaa.Old
open Go.RowKit

def nlB : ByteArray := ⟨#[10]⟩
theorem nlB_size : nlB.size = 1 := rfl
theorem nlB_at : bt nlB 0 = 10 := by decide
/-! ### Behind -/
section
variable (P b : ByteArray)
theorem sh_run (p : Int → Bool) (i : Nat) (hi : i ≤ b.size) : run p (P ++ b) (P.size + i) = P.size + run p b i := by
  have hs : (P ++ b).size = P.size + b.size := ByteArray.size_append
  fun_induction run p b i with
  | case1 i h hp ih => rw [run_yes (by omega) (by rw [bt_right]; exact hp)]; exact ih (by omega)
  | case2 i h hp => rw [run_no (by omega) (by rw [bt_right]; simpa using hp)]
  | case3 i h => rw [run_end (by omega)]
theorem sh_skp (r : Bool) (i : Nat) (hi : i ≤ b.size) : skp (P ++ b) (P.size + i) r = P.size + skp b i r := by
  have hs : (P ++ b).size = P.size + b.size := ByteArray.size_append
  fun_induction skp b i r with
  | case1 i r h hc ih => rw [skp_nl (by omega) (by rw [bt_right]; exact hc)]; exact ih (by omega)
  | case2 i r h hc h2 ih => rw [skp_on (by omega) (by rw [bt_right]; exact hc) (by rw [bt_right]; exact h2)]; exact ih (by omega)
  | case3 i r h hc h2 h3 ih =>
    have hr : r = false := by cases r <;> simp_all
    subst hr
    rw [skp_rem (by omega) (by rw [bt_right]; exact h3)]; exact ih (by omega)
  | case4 i r h hc h2 h3 =>
    have hr : r = false := by cases r <;> simp_all
    subst hr
    simp only [Bool.false_eq_true, false_or, not_or] at h2
    exact skp_stop (by omega) (by rw [bt_right]; exact hc) (by rw [bt_right]; exact h2.1) (by rw [bt_right]; exact h2.2.1) (by rw [bt_right]; exact h2.2.2) (by rw [bt_right]; exact h3)
  | case5 i r h => exact skp_end (by omega)
theorem sh_extract (i j : Nat) (hj : j ≤ b.size) : (P ++ b).extract (P.size + i) (P.size + j) = b.extract i j := by
  have hs : (P ++ b).size = P.size + b.size := ByteArray.size_append
  refine ext_bt (by rw [ByteArray.size_extract, ByteArray.size_extract]; omega) fun k hk => ?_
  rw [ByteArray.size_extract] at hk
  rw [bt_extract _ _ _ _ (by omega) (by omega), bt_extract _ _ _ _ (by omega) (by omega), Nat.add_assoc, bt_right]
def shTk (n : Nat) (t : Tk) : Tk := ⟨t.kind, n + t.at_, t.text⟩
def shSt (n : Nat) : St → St
  | .tok t j => .tok (shTk n t) (n + j)
  | .bad c => .bad c
theorem sh_stp (k : Nat) (hk : k < b.size) : stp (P ++ b) (P.size + k) = shSt P.size (stp b k) := by
  have hs : (P ++ b).size = P.size + b.size := ByteArray.size_append
  have r1 := run_le wordP b k (by omega)
  have r2 := run_le quoteP b (k + 1) (by omega)
  unfold stp
  rw [bt_right, sh_run P b wordP k (by omega), Nat.add_assoc, sh_run P b quoteP (k + 1) (by omega), sh_extract P b k _ r1, sh_extract P b (k + 1) _ r2, bt_right, sh_extract P b k (k + 1) (by omega), hs]
  by_cases h1 : isLet (bt b k) = true
  · rw [if_pos h1, if_pos h1]
    split <;> rfl
  · rw [if_neg h1, if_neg h1]
    by_cases h2 : bt b k = 34
    · rw [if_pos h2, if_pos h2]
      by_cases h3 : run quoteP b (k + 1) = b.size ∨ bt b (run quoteP b (k + 1)) ≠ 34 ∨ termB (b.extract (k + 1) (run quoteP b (k + 1))) = false
      · rw [if_pos h3, if_pos (h3.imp (fun h => by omega) id)]; rfl
      · rw [if_neg h3, if_neg (fun h => h3 (h.imp (fun h => by omega) id))]
        simp only [shSt, shTk, Nat.add_assoc]
    · rw [if_neg h2, if_neg h2]
      split
      · simp only [shSt, shTk]
      · rfl
/-- The tokens of what stands behind. -/
theorem sh_scan : ∀ (n m K : Nat) (k0 : Nat) (r : Bool), k0 ≤ b.size → K = skp b k0 r → b.size < n + K → (P ++ b).size < m + (P.size + K) →
    (∃ T, (∀ acc, scanG n b K acc = (acc ++ T, 0, 0)) ∧ ∀ acc, scanG m (P ++ b) (P.size + K) acc = (acc ++ T.map (shTk P.size), 0, 0)) ∨
    (∃ (c : Int) (p : Nat), (c = 1 ∨ c = 2) ∧ (∀ acc, scanG n b K acc = ([], c, (p : Int))) ∧ ∀ acc, scanG m (P ++ b) (P.size + K) acc = ([], c, ((P.size + p : Nat) : Int)))
  | 0, m, K, k0, r, h0, hK, hn, hm => by
    have := skp_le b k0 r h0
    omega
  | n + 1, m, K, k0, r, h0, hK, hn, hm => by
    have hs : (P ++ b).size = P.size + b.size := ByteArray.size_append
    have hle := skp_le b k0 r h0
    rw [← hK] at hle
    obtain ⟨m, rfl⟩ : ∃ m', m = m' + 1 := ⟨m - 1, by omega⟩
    by_cases hk : K < b.size
    · have hst := sh_stp P b K hk
      cases ht : stp b K with
      | tok t j =>
        rw [ht] at hst
        obtain ⟨g1, g2⟩ := stp_gt hk ht
        have g3 := skp_ge b j false
        rcases sh_scan n m (skp b j false) j false g2 rfl (by omega) (by omega) with ⟨T, t1, t2⟩ | ⟨c, p, c0, t1, t2⟩
        · refine .inl ⟨t :: T, fun acc => ?_, fun acc => ?_⟩
          · rw [scanG_tok hk ht, t1]; simp
          · rw [scanG_tok (by omega) hst, sh_skp P b false j g2, t2]; simp
        · refine .inr ⟨c, p, c0, fun acc => ?_, fun acc => ?_⟩
          · rw [scanG_tok hk ht, t1]
          · rw [scanG_tok (by omega) hst, sh_skp P b false j g2, t2]
      | bad c =>
        rw [ht] at hst
        refine .inr ⟨c, K, stp_bad ht, fun acc => ?_, fun acc => ?_⟩
        · rw [scanG_bad hk ht]
        · rw [scanG_bad (by omega) hst]
    · refine .inl ⟨[], fun acc => ?_, fun acc => ?_⟩
      · rw [scanG_end hk]; simp
      · rw [scanG_end (by omega)]; simp
end
/-! ### Ahead -/
section
variable (a b : ByteArray)
theorem jn_size : (a ++ (nlB ++ b)).size = a.size + (1 + b.size) := by simp only [ByteArray.size_append, nlB_size]
theorem jn_at {i : Nat} (h : i < a.size) : bt (a ++ (nlB ++ b)) i = bt a i := bt_left _ _ h
theorem jn_nl : bt (a ++ (nlB ++ b)) a.size = 10 := by
  have := bt_right a (nlB ++ b) 0
  rw [Nat.add_zero] at this
  rw [this, bt_left _ _ (by rw [nlB_size]; omega)]; exact nlB_at
theorem jn_run (p : Int → Bool) (hp : p 10 = false) (k : Nat) (hk : k ≤ a.size) : run p (a ++ (nlB ++ b)) k = run p a k := by
  have hs := jn_size a b
  fun_induction run p a k with
  | case1 i h hp ih => rw [run_yes (by omega) (by rw [jn_at a b h]; exact hp)]; exact ih (by omega)
  | case2 i h hp => rw [run_no (by omega) (by rw [jn_at a b h]; simpa using hp)]
  | case3 i h =>
    obtain rfl : i = a.size := by omega
    rw [run_no (by omega) (by rw [jn_nl]; exact hp)]
theorem jn_skp (r : Bool) (k : Nat) (hk : k ≤ a.size) : skp (a ++ (nlB ++ b)) k r = if skp a k r < a.size then skp a k r else skp (a ++ (nlB ++ b)) (a.size + 1) false := by
  have hs := jn_size a b
  fun_induction skp a k r with
  | case1 i r h hc ih => rw [skp_nl (by omega) (by rw [jn_at a b h]; exact hc)]; exact ih (by omega)
  | case2 i r h hc h2 ih => rw [skp_on (by omega) (by rw [jn_at a b h]; exact hc) (by rw [jn_at a b h]; exact h2)]; exact ih (by omega)
  | case3 i r h hc h2 h3 ih =>
    have hr : r = false := by cases r <;> simp_all
    subst hr
    rw [skp_rem (by omega) (by rw [jn_at a b h]; exact h3)]; exact ih (by omega)
  | case4 i r h hc h2 h3 =>
    have hr : r = false := by cases r <;> simp_all
    subst hr
    simp only [Bool.false_eq_true, false_or, not_or] at h2
    rw [if_pos h]
    exact skp_stop (by omega) (by rw [jn_at a b h]; exact hc) (by rw [jn_at a b h]; exact h2.1) (by rw [jn_at a b h]; exact h2.2.1) (by rw [jn_at a b h]; exact h2.2.2) (by rw [jn_at a b h]; exact h3)
  | case5 i r h =>
    rw [if_neg h]
    obtain rfl : i = a.size := by omega
    exact skp_nl (by omega) (jn_nl a b)
theorem jn_extract (i j : Nat) (hj : j ≤ a.size) : (a ++ (nlB ++ b)).extract i j = a.extract i j := by
  have hs := jn_size a b
  refine ext_bt (by rw [ByteArray.size_extract, ByteArray.size_extract]; omega) fun k hk => ?_
  rw [ByteArray.size_extract] at hk
  rw [bt_extract _ _ _ _ (by omega) (by omega), bt_extract _ _ _ _ (by omega) (by omega), jn_at a b (by omega)]
theorem jn_stp (k : Nat) (hk : k < a.size) : stp (a ++ (nlB ++ b)) k = stp a k := by
  have hs := jn_size a b
  have r1 := run_le wordP a k (by omega)
  have r2 := run_le quoteP a (k + 1) (by omega)
  unfold stp
  rw [jn_at a b hk, jn_run a b wordP (by decide) k (by omega), jn_run a b quoteP (by decide) (k + 1) (by omega), jn_extract a b k _ r1, jn_extract a b (k + 1) _ r2, jn_extract a b k (k + 1) (by omega), hs]
  by_cases h1 : isLet (bt a k) = true
  · rw [if_pos h1, if_pos h1]
  · rw [if_neg h1, if_neg h1]
    by_cases h2 : bt a k = 34
    · rw [if_pos h2, if_pos h2]
      by_cases h3 : run quoteP a (k + 1) = a.size
      · rw [if_pos (.inr (.inl (by rw [h3, jn_nl]; decide))), if_pos (.inl h3)]
      · have h4 : ¬ run quoteP a (k + 1) = a.size + (1 + b.size) := by omega
        rw [jn_at a b (by omega)]
        simp only [h3, h4, false_or]
    · rw [if_neg h2, if_neg h2]
/-- The tokens of what stands ahead. -/
theorem jn_scan : ∀ (n m : Nat) (k0 : Nat) (r : Bool) (acc : List Tk), k0 ≤ a.size → a.size < n + skp a k0 r → (a ++ (nlB ++ b)).size < m + skp (a ++ (nlB ++ b)) k0 r →
    (∃ T m', scanG n a (skp a k0 r) acc = (T, 0, 0) ∧ (a ++ (nlB ++ b)).size < m' + skp (a ++ (nlB ++ b)) (a.size + 1) false ∧ scanG m (a ++ (nlB ++ b)) (skp (a ++ (nlB ++ b)) k0 r) acc = scanG m' (a ++ (nlB ++ b)) (skp (a ++ (nlB ++ b)) (a.size + 1) false) T) ∨
    (∃ (c p : Int), c ≠ 0 ∧ scanG n a (skp a k0 r) acc = ([], c, p) ∧ scanG m (a ++ (nlB ++ b)) (skp (a ++ (nlB ++ b)) k0 r) acc = ([], c, p))
  | 0, m, k0, r, acc, h0, hn, hm => by
    have := skp_le a k0 r h0
    omega
  | n + 1, m, k0, r, acc, h0, hn, hm => by
    have hs := jn_size a b
    have hle := skp_le a k0 r h0
    have hsk := jn_skp a b r k0 h0
    by_cases hk : skp a k0 r < a.size
    · rw [if_pos hk] at hsk
      rw [hsk] at hm ⊢
      obtain ⟨m, rfl⟩ : ∃ m', m = m' + 1 := ⟨m - 1, by omega⟩
      have hst := jn_stp a b _ hk
      cases ht : stp a (skp a k0 r) with
      | tok t j =>
        rw [ht] at hst
        obtain ⟨g1, g2⟩ := stp_gt hk ht
        have g3 := skp_ge a j false
        have g4 := skp_ge (a ++ (nlB ++ b)) j false
        rw [scanG_tok hk ht, scanG_tok (by omega) hst]
        exact jn_scan n m j false (acc ++ [t]) g2 (by omega) (by omega)
      | bad c =>
        rw [ht] at hst
        refine .inr ⟨c, _, by rcases stp_bad ht with h | h <;> omega, scanG_bad hk ht, scanG_bad (by omega) hst⟩
    · rw [if_neg hk] at hsk
      rw [hsk] at hm ⊢
      exact .inl ⟨acc, m, scanG_end hk, hm, rfl⟩
/-- The tokens of a text behind another. -/
theorem scan_join (h : a.size + b.size ≤ 5999) :
    (∃ T U, scanR a = (T, 0, 0) ∧ scanR b = (U, 0, 0) ∧ scanR (a ++ (nlB ++ b)) = (T ++ U.map (shTk (a.size + 1)), 0, 0)) ∨
    (∃ T c p, scanR a = (T, 0, 0) ∧ (c = 1 ∨ c = 2) ∧ (scanR b).2 = (c, p) ∧ (scanR (a ++ (nlB ++ b))).2.1 ≠ 0) ∨
    (∃ (c p : Int), c ≠ 0 ∧ scanR a = ([], c, p) ∧ scanR (a ++ (nlB ++ b)) = ([], c, p)) := by
  have hs := jn_size a b
  unfold scanR
  rw [if_neg (by omega), if_neg (by omega), if_neg (by omega)]
  have g1 := skp_le a 0 false (Nat.zero_le _)
  have g2 := skp_le (a ++ (nlB ++ b)) 0 false (Nat.zero_le _)
  rcases jn_scan a b (a.size + 1) ((a ++ (nlB ++ b)).size + 1) 0 false [] (Nat.zero_le _) (by omega) (by omega) with ⟨T, m', t1, t2, t3⟩ | ⟨c, p, c0, t1, t2⟩
  · rw [t1, t3]
    have e : a ++ (nlB ++ b) = (a ++ nlB) ++ b := (ByteArray.append_assoc).symm
    have hP : (a ++ nlB).size = a.size + 1 := by rw [ByteArray.size_append, nlB_size]
    have hsk := sh_skp (a ++ nlB) b false 0 (Nat.zero_le _)
    rw [hP, Nat.add_zero] at hsk
    rw [e] at t2 ⊢
    rw [hsk] at t2 ⊢
    have hsb : ((a ++ nlB) ++ b).size = a.size + 1 + b.size := by rw [ByteArray.size_append, hP]
    rcases sh_scan (a ++ nlB) b (b.size + 1) m' (skp b 0 false) 0 false (Nat.zero_le _) rfl (by omega) (by rw [hP]; exact t2) with ⟨U, u1, u2⟩ | ⟨c, p, c0, u1, u2⟩
    · refine .inl ⟨T, U, rfl, by rw [u1]; rfl, ?_⟩
      rw [← hP, u2]
    · refine .inr (.inl ⟨T, c, p, rfl, c0, by rw [u1], ?_⟩)
      have := u2 T
      rw [hP] at this
      rw [this]; show c ≠ 0; omega
  · exact .inr (.inr ⟨c, p, c0, t1, t2⟩)
end
end Go.Proofs.Ytkfeccbahpmadaa.Old
namespace Go.Proofs.Ytkfeccbahpmadaa
open Go.RowKit

/-! ### At the end -/
section
variable {fin : Int} {s : PS}
theorem nil_sign (h : s.l = []) (x : ByteArray) : s.sign x = false := by unfold PS.sign; rw [h]
theorem nil_gone (h : s.l = []) (c : Int) : (s.gone fin c).at_ = fin := by unfold PS.gone; rw [h]
theorem nil_item (h : s.l = []) : ∀ n, 1 ≤ n → pItem fin n s = .ok (none, s)
  | n + 1, _ => by rw [pItem, h]
theorem nil_items (h : s.l = []) (acc : List Expr) : ∀ n, 2 ≤ n → pItems fin n s acc = .ok (acc, s)
  | n + 1, hn => by rw [pItems, nil_item h n (by omega)]
theorem nil_row (h : s.l = []) : ∀ n, 3 ≤ n → pRow fin n s = .ok (one 3 [], s)
  | n + 1, hn => by rw [pRow, nil_items h [] n (by omega)]
theorem nil_alts (h : s.l = []) (acc : List Expr) : ∀ n, 1 ≤ n → pAlts fin n s acc = .ok (acc, s)
  | n + 1, _ => by rw [pAlts, nil_sign h, if_neg (by decide)]
theorem nil_alt (h : s.l = []) : ∀ n, 4 ≤ n → pAlt fin n s = .ok (one 4 [one 3 []], s)
  | n + 1, hn => by
    rw [pAlt, nil_row h n (by omega)]
    dsimp only
    rw [nil_alts h _ n (by omega)]
theorem nil_want (h : s.l = []) (x : ByteArray) : ∃ f, s.want fin x = .error f ∧ f.at_ = fin := by
  unfold PS.want
  rw [nil_sign h, if_neg (by decide)]
  exact ⟨_, rfl, nil_gone h _⟩
end
/-! ### More tokens behind -/
def PS.ext (T : List Tk) (s : PS) : PS := ⟨s.l ++ T, s.opn, s.parts⟩
section
variable {fin fin2 : Int} {T : List Tk} {s : PS}
theorem ext_sign (h : s.l ≠ []) (x : ByteArray) : (s.ext T).sign x = s.sign x := by
  unfold PS.sign PS.ext
  cases hl : s.l with
  | nil => exact absurd hl h
  | cons t r => rfl
theorem ext_gone (h : s.l ≠ []) (c : Int) : (s.ext T).gone fin2 c = s.gone fin c := by
  unfold PS.gone PS.ext
  cases hl : s.l with
  | nil => exact absurd hl h
  | cons t r => rfl
theorem ext_next (h : s.l ≠ []) : (s.ext T).next = s.next.ext T := by
  unfold PS.next PS.ext
  cases hl : s.l with
  | nil => exact absurd hl h
  | cons t r => rfl
theorem ext_bracket (h : s.l ≠ []) : (s.ext T).bracket = s.bracket := by
  unfold PS.bracket
  simp only [ext_sign h]
theorem ext_want (h : s.l ≠ []) (x : ByteArray) : (s.ext T).want fin2 x = match s.want fin x with | .ok s1 => .ok (s1.ext T) | .error f => .error f := by
  unfold PS.want
  rw [ext_sign h, ext_gone (fin := fin) h, ext_next h]
  split <;> rfl
theorem ext_part (h : s.l ≠ []) : (s.ext T).part fin2 = match s.part fin with | .ok s1 => .ok (s1.ext T) | .error f => .error f := by
  unfold PS.part
  rw [ext_gone (fin := fin) h]
  show (if s.parts = 60 then _ else _) = _
  split <;> rfl
end
theorem PS.part_l' {fin : Int} {s s' : PS} (h : s.part fin = .ok s') : s'.l = s.l := by
  unfold PS.part at h
  split at h <;> cases h
  rfl
theorem PS.want_l' {fin : Int} {s s' : PS} {x : ByteArray} (h : s.want fin x = .ok s') : s'.l.length + 1 = s.l.length := by
  unfold PS.want at h
  split at h
  · rename_i hs
    cases h
    obtain ⟨t, r, e, _⟩ := PS.sign_cons hs
    simp [PS.next, e]
  · cases h
/-- How far it goes. -/
theorem len_all (fin : Int) : ∀ n, ∀ s : PS,
    (∀ x s', pItem fin n s = .ok (some x, s') → s'.l.length + 1 ≤ s.l.length) ∧ (∀ s', pItem fin n s = .ok (none, s') → s' = s) ∧
    (∀ op e x s', 0 < s.l.length → pGroup fin n s op e = .ok (x, s') → s'.l.length + 1 ≤ s.l.length) ∧ (∀ acc l s', pItems fin n s acc = .ok (l, s') → s'.l.length ≤ s.l.length) ∧
    (∀ x s', pRow fin n s = .ok (x, s') → s'.l.length ≤ s.l.length) ∧ (∀ acc l s', pAlts fin n s acc = .ok (l, s') → s'.l.length ≤ s.l.length) ∧ (∀ x s', pAlt fin n s = .ok (x, s') → s'.l.length ≤ s.l.length)
  | 0, s => ⟨fun _ _ h => by simp [pItem] at h, fun _ h => by simp [pItem] at h, fun _ _ _ _ _ h => by simp [pGroup] at h, fun _ _ _ h => by simp [pItems] at h, fun _ _ h => by simp [pRow] at h, fun _ _ _ h => by simp [pAlts] at h, fun _ _ h => by simp [pAlt] at h⟩
  | n + 1, s => by
    have ih := len_all fin n
    refine ⟨fun x s' h => ?_, fun s' h => ?_, fun op e x s' hl h => ?_, fun acc l s' h => ?_, fun x s' h => ?_, fun acc l s' h => ?_, fun x s' h => ?_⟩
    · rw [pItem] at h
      split at h
      · cases h
      · rename_i t r e
        split at h
        · split at h
          · cases h
          · rename_i s1 hp
            cases h
            simp [PS.next, PS.part_l' hp, e]
        · split at h
          · cases h
          · rename_i op en hb
            split at h
            · cases h
            · rename_i y s2 hg
              cases h
              exact (ih s).2.2.1 _ _ _ _ (PS.bracket_cons hb) hg
    · rw [pItem] at h
      split at h
      · cases h; rfl
      · split at h
        · split at h <;> cases h
        · split at h
          · cases h; rfl
          · split at h <;> cases h
    · rw [pGroup] at h
      split at h
      · cases h
      · split at h
        · cases h
        · rename_i s1 hp
          split at h
          · cases h
          · rename_i y s2 ha
            split at h
            · cases h
            · rename_i s3 hw
              cases h
              have h1 := (ih _).2.2.2.2.2.2 _ _ ha
              have h2 := PS.want_l' hw
              have h4 : (PS.next ⟨s1.l, s1.opn + 1, s1.parts⟩).l.length + 1 = s.l.length := by
                show s1.l.tail.length + 1 = _
                rw [PS.part_l' hp, List.length_tail]; omega
              show s3.l.length + 1 ≤ _
              omega
    · rw [pItems] at h
      split at h
      · cases h
      · rename_i s1 hi
        cases h
        rw [(ih s).2.1 _ hi]; exact Nat.le_refl _
      · rename_i x s1 hi
        have h1 := (ih s).1 _ _ hi
        have h2 := (ih _).2.2.2.1 _ _ _ h
        omega
    · rw [pRow] at h
      split at h
      · cases h
      · rename_i l s1 hi
        cases h
        exact (ih s).2.2.2.1 _ _ _ hi
    · rw [pAlts] at h
      split at h
      · rename_i hs
        obtain ⟨t, r, e, _⟩ := PS.sign_cons hs
        split at h
        · cases h
        · rename_i s1 hp
          split at h
          · cases h
          · rename_i x s2 hr
            have h1 := (ih _).2.2.2.2.1 _ _ hr
            have h2 := (ih _).2.2.2.2.2.1 _ _ _ h
            have h3 : s1.next.l.length + 1 = s.l.length := by
              show s1.l.tail.length + 1 = _
              rw [PS.part_l' hp, e]; rfl
            omega
      · cases h; exact Nat.le_refl _
    · rw [pAlt] at h
      split at h
      · cases h
      · rename_i x1 s1 hr
        split at h
        · cases h
        · rename_i l s2 hq
          cases h
          have h1 := (ih s).2.2.2.2.1 _ _ hr
          have h2 := (ih _).2.2.2.2.2.1 _ _ _ hq
          omega
theorem inv_all' (fin : Int) (n : Nat) (s : PS) : ∀ x s', pItem fin n s = .ok (some x, s') → s'.l.length + 1 ≤ s.l.length := (len_all fin n s).1
theorem row_len (fin : Int) (n : Nat) (s : PS) : ∀ x s', pRow fin n s = .ok (x, s') → s'.l.length ≤ s.l.length := (len_all fin n s).2.2.2.2.1
def ExtR (fin : Int) (T : List Tk) (c : PS → Prop) {α : Type} (a b : Except Fault (α × PS)) : Prop := match a with
  | .ok (x, s1) => c s1 → b = .ok (x, s1.ext T)
  | .error f => f.at_ ≠ fin → b = .error f
abbrev Non (s : PS) : Prop := s.l ≠ []
theorem ext_all (fin fin2 : Int) (T : List Tk) : ∀ n m, ∀ s : PS, s.l ≠ [] →
    (5 * s.l.length + 1 ≤ n → 5 * (s.l.length + T.length) + 1 ≤ m → ExtR fin T (fun _ => True) (pItem fin n s) (pItem fin2 m (s.ext T))) ∧
    (∀ op e, 5 * s.l.length ≤ n → 5 * (s.l.length + T.length) ≤ m → ExtR fin T (fun _ => True) (pGroup fin n s op e) (pGroup fin2 m (s.ext T) op e)) ∧
    (∀ acc, 5 * s.l.length + 2 ≤ n → 5 * (s.l.length + T.length) + 2 ≤ m → ExtR fin T Non (pItems fin n s acc) (pItems fin2 m (s.ext T) acc)) ∧
    (5 * s.l.length + 3 ≤ n → 5 * (s.l.length + T.length) + 3 ≤ m → ExtR fin T Non (pRow fin n s) (pRow fin2 m (s.ext T))) ∧
    (∀ acc, 5 * s.l.length + 1 ≤ n → 5 * (s.l.length + T.length) + 1 ≤ m → ExtR fin T Non (pAlts fin n s acc) (pAlts fin2 m (s.ext T) acc)) ∧
    (5 * s.l.length + 4 ≤ n → 5 * (s.l.length + T.length) + 4 ≤ m → ExtR fin T Non (pAlt fin n s) (pAlt fin2 m (s.ext T))) := by
  intro n
  induction n with
  | zero =>
    intro m s h
    have : 0 < s.l.length := List.length_pos_iff.2 h
    exact ⟨fun h => by omega, fun _ _ h => by omega, fun _ h => by omega, fun h => by omega, fun _ h => by omega, fun h => by omega⟩
  | succ n ih =>
    intro m s h
    have hpos : 0 < s.l.length := List.length_pos_iff.2 h
    refine ⟨fun h1 h2 => ?_, fun op e h1 h2 => ?_, fun acc h1 h2 => ?_, fun h1 h2 => ?_, fun acc h1 h2 => ?_, fun h1 h2 => ?_⟩ <;> obtain ⟨m, rfl⟩ : ∃ m', m = m' + 1 := ⟨m - 1, by omega⟩
    · -- item
      rw [pItem, pItem, ext_bracket h, ext_part (fin := fin) h]
      have hl : (s.ext T).l = s.l ++ T := rfl
      rw [hl]
      cases hs : s.l with
      | nil => exact absurd hs h
      | cons t r =>
        dsimp only [List.cons_append]
        by_cases hk : t.kind = 1 ∨ t.kind = 2
        · rw [if_pos hk, if_pos hk]
          cases hp : s.part fin with
          | error f => exact fun _ => rfl
          | ok s1 => exact fun _ => by dsimp only; rw [ext_next (by rw [PS.part_l' hp]; exact h)]
        · rw [if_neg hk, if_neg hk]
          cases hb : s.bracket with
          | none => exact fun _ => rfl
          | some q =>
            obtain ⟨op, e⟩ := q
            dsimp only
            have hg := (ih m s h).2.1 op e (by omega) (by omega)
            cases hc : pGroup fin n s op e with
            | error f =>
              rw [hc] at hg
              intro hf
              rw [hg hf]
            | ok q =>
              obtain ⟨x, s1⟩ := q
              rw [hc] at hg
              intro _
              rw [hg trivial]
    · -- group
      rw [pGroup, pGroup, ext_gone (fin := fin) h, ext_part (fin := fin) h]
      by_cases h40 : s.opn = 40
      · rw [if_pos h40, if_pos (show (s.ext T).opn = 40 from h40)]
        exact fun _ => rfl
      · rw [if_neg h40, if_neg (show ¬ (s.ext T).opn = 40 from h40)]
        cases hp : s.part fin with
        | error f => exact fun _ => rfl
        | ok s1 =>
          dsimp only
          have hl1 := PS.part_l' hp
          have hn : PS.next ⟨(s1.ext T).l, (s1.ext T).opn + 1, (s1.ext T).parts⟩ = (PS.next ⟨s1.l, s1.opn + 1, s1.parts⟩).ext T := ext_next (s := ⟨s1.l, s1.opn + 1, s1.parts⟩) (by show s1.l ≠ []; rw [hl1]; exact h)
          rw [hn]
          have hlen : (PS.next ⟨s1.l, s1.opn + 1, s1.parts⟩).l.length + 1 = s.l.length := by
            show s1.l.tail.length + 1 = _
            rw [hl1, List.length_tail]; omega
          generalize PS.next ⟨s1.l, s1.opn + 1, s1.parts⟩ = u at *
          by_cases hu : u.l = []
          · rw [nil_alt hu n (by omega)]
            dsimp only
            obtain ⟨f, hf, hfa⟩ := nil_want (fin := fin) hu e
            rw [hf]
            exact fun hne => absurd hfa hne
          · have hA := (ih m u hu).2.2.2.2.2 (by omega) (by omega)
            cases ha : pAlt fin n u with
            | error f =>
              rw [ha] at hA
              intro hf
              rw [hA hf]
            | ok q =>
              obtain ⟨x, s2⟩ := q
              rw [ha] at hA
              dsimp only at hA ⊢
              by_cases h2n : s2.l = []
              · obtain ⟨f, hf, hfa⟩ := nil_want (fin := fin) h2n e
                rw [hf]
                exact fun hne => absurd hfa hne
              · rw [hA h2n]
                dsimp only
                rw [ext_want (fin := fin) h2n]
                cases hw : s2.want fin e with
                | error f => exact fun _ => rfl
                | ok s3 => exact fun _ => rfl
    · -- items
      rw [pItems, pItems]
      have hI := (ih m s h).1 (by omega) (by omega)
      have hinv := (inv_all' fin n s)
      cases hi : pItem fin n s with
      | error f =>
        rw [hi] at hI
        intro hf
        rw [hI hf]
      | ok q =>
        obtain ⟨o, s1⟩ := q
        rw [hi] at hI hinv
        rw [hI trivial]
        cases o with
        | none => exact fun _ => rfl
        | some x =>
          dsimp only
          have hlt := hinv x s1 rfl
          by_cases h1n : s1.l = []
          · rw [nil_items h1n _ n (by omega)]
            exact fun hc => absurd h1n hc
          · exact (ih m s1 h1n).2.2.1 _ (by omega) (by omega)
    · -- row
      rw [pRow, pRow]
      have hI := (ih m s h).2.2.1 [] (by omega) (by omega)
      cases hi : pItems fin n s [] with
      | error f =>
        rw [hi] at hI
        intro hf
        rw [hI hf]
      | ok q =>
        obtain ⟨l, s1⟩ := q
        rw [hi] at hI
        intro hc
        rw [hI hc]
    · -- alts
      rw [pAlts, pAlts, ext_sign h, ext_part (fin := fin) h]
      by_cases hs : s.sign (sgn 124) = true
      · rw [if_pos hs, if_pos hs]
        cases hp : s.part fin with
        | error f => exact fun _ => rfl
        | ok s1 =>
          dsimp only
          have hl1 := PS.part_l' hp
          rw [ext_next (by rw [hl1]; exact h)]
          have hlen : s1.next.l.length + 1 = s.l.length := by
            show s1.l.tail.length + 1 = _
            rw [hl1, List.length_tail]; omega
          generalize s1.next = u at *
          by_cases hu : u.l = []
          · rw [nil_row hu n (by omega)]
            dsimp only
            rw [nil_alts hu _ n (by omega)]
            exact fun hc => absurd hu hc
          · have hR := (ih m u hu).2.2.2.1 (by omega) (by omega)
            have hinv := row_len fin n u
            cases hr : pRow fin n u with
            | error f =>
              rw [hr] at hR
              intro hf
              rw [hR hf]
            | ok q =>
              obtain ⟨x, s2⟩ := q
              rw [hr] at hR hinv
              have hle := hinv x s2 rfl
              dsimp only at hR ⊢
              by_cases h2n : s2.l = []
              · rw [nil_alts h2n _ n (by omega)]
                exact fun hc => absurd h2n hc
              · rw [hR h2n]
                exact (ih m s2 h2n).2.2.2.2.1 _ (by omega) (by omega)
      · rw [if_neg hs, if_neg hs]
        exact fun _ => rfl
    · -- alt
      rw [pAlt, pAlt]
      have hR := (ih m s h).2.2.2.1 (by omega) (by omega)
      have hinv := row_len fin n s
      cases hr : pRow fin n s with
      | error f =>
        rw [hr] at hR
        intro hf
        rw [hR hf]
      | ok q =>
        obtain ⟨x, s2⟩ := q
        rw [hr] at hR hinv
        have hle := hinv x s2 rfl
        dsimp only at hR ⊢
        by_cases h2n : s2.l = []
        · rw [nil_alts h2n _ n (by omega)]
          exact fun hc => absurd h2n hc
        · rw [hR h2n]
          have hA := (ih m s2 h2n).2.2.2.2.1 [x] (by omega) (by omega)
          dsimp only
          cases ha : pAlts fin n s2 [x] with
          | error f =>
            rw [ha] at hA
            intro hf
            rw [hA hf]
          | ok q =>
            obtain ⟨l, s3⟩ := q
            rw [ha] at hA
            intro hc
            rw [hA hc]
end Go.Proofs.Ytkfeccbahpmadaa
namespace Go.Proofs.Ytkfeccbahpmadaa
open Go.RowKit

/-! ### Tokens at other places -/
def shP (k : Nat) (s : PS) : PS := ⟨s.l.map (Old.shTk k), s.opn, s.parts⟩
section
variable {fin fin2 : Int} {k : Nat} {s : PS}
theorem sh_sign (x : ByteArray) : (shP k s).sign x = s.sign x := by
  unfold PS.sign shP
  cases s.l with
  | nil => rfl
  | cons t r => rfl
theorem sh_gone (c : Int) : ((shP k s).gone fin2 c).code = (s.gone fin c).code := by
  unfold PS.gone shP
  cases s.l with
  | nil => rfl
  | cons t r => rfl
theorem sh_next : (shP k s).next = shP k s.next := by
  unfold PS.next shP
  cases s.l with
  | nil => rfl
  | cons t r => rfl
theorem sh_bracket : (shP k s).bracket = s.bracket := by
  unfold PS.bracket
  simp only [sh_sign]
end
def ShR (k : Nat) {α : Type} (a b : Except Fault (α × PS)) : Prop := match a with
  | .ok (x, s1) => b = .ok (x, shP k s1)
  | .error f => ∃ g, b = .error g ∧ g.code = f.code
theorem sh_want {fin fin2 : Int} {k : Nat} (s : PS) (x : ByteArray) : match s.want fin x with | .ok s1 => (shP k s).want fin2 x = .ok (shP k s1) | .error f => ∃ g, (shP k s).want fin2 x = .error g ∧ g.code = f.code := by
  unfold PS.want
  rw [sh_sign]
  by_cases h : s.sign x = true
  · rw [if_pos h, if_pos h, sh_next]
  · rw [if_neg h, if_neg h]; exact ⟨_, rfl, sh_gone _⟩
theorem sh_part {fin fin2 : Int} {k : Nat} (s : PS) : match s.part fin with | .ok s1 => (shP k s).part fin2 = .ok (shP k s1) | .error f => ∃ g, (shP k s).part fin2 = .error g ∧ g.code = f.code := by
  unfold PS.part
  by_cases h : s.parts = 60
  · rw [if_pos h, if_pos (show (shP k s).parts = 60 from h)]; exact ⟨_, rfl, sh_gone _⟩
  · rw [if_neg h, if_neg (show ¬ (shP k s).parts = 60 from h)]; rfl
theorem sh_all (fin fin2 : Int) (k : Nat) : ∀ n, ∀ s : PS,
    ShR k (pItem fin n s) (pItem fin2 n (shP k s)) ∧ (∀ op e, ShR k (pGroup fin n s op e) (pGroup fin2 n (shP k s) op e)) ∧ (∀ acc, ShR k (pItems fin n s acc) (pItems fin2 n (shP k s) acc)) ∧
    ShR k (pRow fin n s) (pRow fin2 n (shP k s)) ∧ (∀ acc, ShR k (pAlts fin n s acc) (pAlts fin2 n (shP k s) acc)) ∧ ShR k (pAlt fin n s) (pAlt fin2 n (shP k s)) := by
  intro n
  induction n with
  | zero => intro s; simp only [pItem, pGroup, pItems, pRow, pAlts, pAlt]; exact ⟨⟨_, rfl, rfl⟩, fun _ _ => ⟨_, rfl, rfl⟩, fun _ => ⟨_, rfl, rfl⟩, ⟨_, rfl, rfl⟩, fun _ => ⟨_, rfl, rfl⟩, ⟨_, rfl, rfl⟩⟩
  | succ n ih =>
    intro s
    have hP := sh_part (fin := fin) (fin2 := fin2) (k := k) s
    refine ⟨?_, fun op e => ?_, fun acc => ?_, ?_, fun acc => ?_, ?_⟩
    · rw [pItem, pItem, sh_bracket]
      have hl : (shP k s).l = s.l.map (Old.shTk k) := rfl
      rw [hl]
      cases hs : s.l with
      | nil => exact rfl
      | cons t r =>
        rw [List.map_cons]
        dsimp only
        have e1 : (Old.shTk k t).kind = t.kind := rfl
        have e2 : (Old.shTk k t).text = t.text := rfl
        rw [e1, e2]
        by_cases hk : t.kind = 1 ∨ t.kind = 2
        · rw [if_pos hk, if_pos hk]
          cases hp : s.part fin with
          | error f => rw [hp] at hP; obtain ⟨g, h1, h2⟩ := hP; rw [h1]; exact ⟨g, rfl, h2⟩
          | ok s1 => rw [hp] at hP; rw [hP]; dsimp only; rw [sh_next]; exact rfl
        · rw [if_neg hk, if_neg hk]
          cases hb : s.bracket with
          | none => exact rfl
          | some q =>
            obtain ⟨op, e⟩ := q
            dsimp only
            have hg := (ih s).2.1 op e
            cases hc : pGroup fin n s op e with
            | error f => rw [hc] at hg; obtain ⟨g, h1, h2⟩ := hg; rw [h1]; exact ⟨g, rfl, h2⟩
            | ok q => rw [hc] at hg; obtain ⟨x, s1⟩ := q; rw [show pGroup fin2 n (shP k s) op e = _ from hg]; exact rfl
    · rw [pGroup, pGroup]
      by_cases h40 : s.opn = 40
      · rw [if_pos h40, if_pos (show (shP k s).opn = 40 from h40)]; exact ⟨_, rfl, sh_gone _⟩
      · rw [if_neg h40, if_neg (show ¬ (shP k s).opn = 40 from h40)]
        cases hp : s.part fin with
        | error f => rw [hp] at hP; obtain ⟨g, h1, h2⟩ := hP; rw [h1]; exact ⟨g, rfl, h2⟩
        | ok s1 =>
          rw [hp] at hP
          rw [hP]
          dsimp only
          have hn : PS.next ⟨(shP k s1).l, (shP k s1).opn + 1, (shP k s1).parts⟩ = shP k (PS.next ⟨s1.l, s1.opn + 1, s1.parts⟩) := sh_next (s := ⟨s1.l, s1.opn + 1, s1.parts⟩)
          rw [hn]
          have hA := (ih (PS.next ⟨s1.l, s1.opn + 1, s1.parts⟩)).2.2.2.2.2
          cases ha : pAlt fin n (PS.next ⟨s1.l, s1.opn + 1, s1.parts⟩) with
          | error f => rw [ha] at hA; obtain ⟨g, h1, h2⟩ := hA; rw [h1]; exact ⟨g, rfl, h2⟩
          | ok q =>
            obtain ⟨x, s2⟩ := q
            rw [ha] at hA
            rw [show pAlt fin2 n (shP k (PS.next ⟨s1.l, s1.opn + 1, s1.parts⟩)) = _ from hA]
            dsimp only
            have hW := sh_want (fin := fin) (fin2 := fin2) (k := k) s2 e
            cases hw : s2.want fin e with
            | error f => rw [hw] at hW; obtain ⟨g, h1, h2⟩ := hW; rw [h1]; exact ⟨g, rfl, h2⟩
            | ok s3 => rw [hw] at hW; rw [hW]; exact rfl
    · rw [pItems, pItems]
      have hI := (ih s).1
      cases hi : pItem fin n s with
      | error f => rw [hi] at hI; obtain ⟨g, h1, h2⟩ := hI; rw [h1]; exact ⟨g, rfl, h2⟩
      | ok q =>
        obtain ⟨o, s1⟩ := q
        rw [hi] at hI
        rw [show pItem fin2 n (shP k s) = _ from hI]
        cases o with
        | none => exact rfl
        | some x => exact (ih s1).2.2.1 _
    · rw [pRow, pRow]
      have hI := (ih s).2.2.1 []
      cases hi : pItems fin n s [] with
      | error f => rw [hi] at hI; obtain ⟨g, h1, h2⟩ := hI; rw [h1]; exact ⟨g, rfl, h2⟩
      | ok q => obtain ⟨l, s1⟩ := q; rw [hi] at hI; rw [show pItems fin2 n (shP k s) [] = _ from hI]; exact rfl
    · rw [pAlts, pAlts, sh_sign]
      by_cases hs : s.sign (sgn 124) = true
      · rw [if_pos hs, if_pos hs]
        cases hp : s.part fin with
        | error f => rw [hp] at hP; obtain ⟨g, h1, h2⟩ := hP; rw [h1]; exact ⟨g, rfl, h2⟩
        | ok s1 =>
          rw [hp] at hP
          rw [hP]
          dsimp only
          rw [sh_next]
          have hR := (ih s1.next).2.2.2.1
          cases hr : pRow fin n s1.next with
          | error f => rw [hr] at hR; obtain ⟨g, h1, h2⟩ := hR; rw [h1]; exact ⟨g, rfl, h2⟩
          | ok q =>
            obtain ⟨x, s2⟩ := q
            rw [hr] at hR
            rw [show pRow fin2 n (shP k s1.next) = _ from hR]
            exact (ih s2).2.2.2.2.1 _
      · rw [if_neg hs, if_neg hs]; exact rfl
    · rw [pAlt, pAlt]
      have hR := (ih s).2.2.2.1
      cases hr : pRow fin n s with
      | error f => rw [hr] at hR; obtain ⟨g, h1, h2⟩ := hR; rw [h1]; exact ⟨g, rfl, h2⟩
      | ok q =>
        obtain ⟨x, s2⟩ := q
        rw [hr] at hR
        rw [show pRow fin2 n (shP k s) = _ from hR]
        dsimp only
        have hA := (ih s2).2.2.2.2.1 [x]
        cases ha : pAlts fin n s2 [x] with
        | error f => rw [ha] at hA; obtain ⟨g, h1, h2⟩ := hA; rw [h1]; exact ⟨g, rfl, h2⟩
        | ok q => obtain ⟨l, s3⟩ := q; rw [ha] at hA; rw [show pAlts fin2 n (shP k s2) [x] = _ from hA]; exact rfl
/-! ### A definition -/
theorem pDef_eq {fin : Int} {n : Nat} {s : PS} {t : Tk} {r : List Tk} (hs : s.l = t :: r) (hk : t.kind = 1) : pDef fin n s = match s.next.want fin (sgn 61) with
      | .error f => .error f
      | .ok s1 => match pAlt fin n ⟨s1.l, s1.opn, 0⟩ with
        | .error f => .error f
        | .ok (x, s2) => match s2.want fin (sgn 59) with
          | .error f => .error f
          | .ok s3 => .ok (⟨t.text, t.at_, x⟩, s3) := by
  unfold pDef
  rw [hs]
  dsimp only
  rw [if_pos hk]
  rfl
theorem pDef_no {fin : Int} {n : Nat} {s : PS} {t : Tk} {r : List Tk} (hs : s.l = t :: r) (hk : ¬ t.kind = 1) : pDef fin n s = .error (s.gone fin 3) := by
  unfold pDef
  rw [hs]
  dsimp only
  rw [if_neg hk]
theorem pDef_nil {fin : Int} {n : Nat} {s : PS} (hs : s.l = []) : pDef fin n s = .error (s.gone fin 3) := by
  unfold pDef
  rw [hs]
theorem PS.part_o {fin : Int} {s s' : PS} (h : s.part fin = .ok s') : s'.opn = s.opn := by
  unfold PS.part at h
  split at h <;> cases h
  rfl
theorem PS.want_o {fin : Int} {s s' : PS} {x : ByteArray} (h : s.want fin x = .ok s') : s'.opn = s.opn := by
  unfold PS.want at h
  split at h <;> cases h
  rfl
theorem pDef_len {fin : Int} {n : Nat} {s s' : PS} {d : Dfn} (h : pDef fin n s = .ok (d, s')) : s'.l.length + 1 ≤ s.l.length ∧ True := by
  cases hs : s.l with
  | nil => rw [pDef_nil hs] at h; cases h
  | cons t r =>
    by_cases hk : t.kind = 1
    · rw [pDef_eq hs hk] at h
      split at h
      · cases h
      · rename_i s1 hw
        split at h
        · cases h
        · rename_i x s2 ha
          split at h
          · cases h
          · rename_i s3 hw2
            cases h
            have h1 := PS.want_l' hw
            have h2 := PS.want_l' hw2
            have h3 := (len_all fin n _).2.2.2.2.2.2 _ _ ha
            have h4 : s.next.l.length = r.length := by simp [PS.next, hs]
            dsimp only at h3
            exact ⟨by simp only [List.length_cons]; omega, trivial⟩
    · rw [pDef_no hs hk] at h; cases h
theorem opn_all (fin : Int) : ∀ n, ∀ s : PS,
    (∀ o s', pItem fin n s = .ok (o, s') → s'.opn = s.opn) ∧ (∀ op e x s', pGroup fin n s op e = .ok (x, s') → s'.opn = s.opn) ∧ (∀ acc l s', pItems fin n s acc = .ok (l, s') → s'.opn = s.opn) ∧
    (∀ x s', pRow fin n s = .ok (x, s') → s'.opn = s.opn) ∧ (∀ acc l s', pAlts fin n s acc = .ok (l, s') → s'.opn = s.opn) ∧ (∀ x s', pAlt fin n s = .ok (x, s') → s'.opn = s.opn)
  | 0, s => ⟨fun _ _ h => by simp [pItem] at h, fun _ _ _ _ h => by simp [pGroup] at h, fun _ _ _ h => by simp [pItems] at h, fun _ _ h => by simp [pRow] at h, fun _ _ _ h => by simp [pAlts] at h, fun _ _ h => by simp [pAlt] at h⟩
  | n + 1, s => by
    have ih := opn_all fin n
    refine ⟨fun o s' h => ?_, fun op e x s' h => ?_, fun acc l s' h => ?_, fun x s' h => ?_, fun acc l s' h => ?_, fun x s' h => ?_⟩
    · rw [pItem] at h
      split at h
      · cases h; rfl
      · split at h
        · split at h
          · cases h
          · rename_i s1 hp
            cases h
            exact (show s1.opn = s.opn from PS.part_o hp)
        · split at h
          · cases h; rfl
          · split at h
            · cases h
            · rename_i hg
              cases h
              exact (ih s).2.1 _ _ _ _ hg
    · rw [pGroup] at h
      split at h
      · cases h
      · split at h
        · cases h
        · rename_i s1 hp
          split at h
          · cases h
          · rename_i y s2 ha
            split at h
            · cases h
            · rename_i s3 hw
              cases h
              have h1 := (ih _).2.2.2.2.2 _ _ ha
              have h2 := PS.want_o hw
              have h3 := PS.part_o hp
              have h1' : s2.opn = s1.opn + 1 := h1
              show s3.opn - 1 = s.opn
              omega
    · rw [pItems] at h
      split at h
      · cases h
      · rename_i s1 hi
        cases h
        exact (ih s).1 _ _ hi
      · rename_i x s1 hi
        exact ((ih _).2.2.1 _ _ _ h).trans ((ih s).1 _ _ hi)
    · rw [pRow] at h
      split at h
      · cases h
      · rename_i l s1 hi
        cases h
        exact (ih s).2.2.1 _ _ _ hi
    · rw [pAlts] at h
      split at h
      · split at h
        · cases h
        · rename_i s1 hp
          split at h
          · cases h
          · rename_i x s2 hr
            have h1 : s2.opn = s1.next.opn := (ih _).2.2.2.1 _ _ hr
            exact ((ih _).2.2.2.2.1 _ _ _ h).trans (h1.trans (show s1.opn = s.opn from PS.part_o hp))
      · cases h; rfl
    · rw [pAlt] at h
      split at h
      · cases h
      · rename_i x1 s1 hr
        split at h
        · cases h
        · rename_i l s2 hq
          cases h
          exact ((ih _).2.2.2.2.1 _ _ _ hq).trans ((ih s).2.2.2.1 _ _ hr)
theorem pDef_opn {fin : Int} {n : Nat} {s s' : PS} {d : Dfn} (h : pDef fin n s = .ok (d, s')) : s'.opn = s.opn := by
  cases hs : s.l with
  | nil => rw [pDef_nil hs] at h; cases h
  | cons t r =>
    by_cases hk : t.kind = 1
    · rw [pDef_eq hs hk] at h
      split at h
      · cases h
      · rename_i s1 hw
        split at h
        · cases h
        · rename_i x s2 ha
          split at h
          · cases h
          · rename_i s3 hw2
            cases h
            have h1 : s1.opn = s.next.opn := PS.want_o hw
            have h2 : s2.opn = (PS.mk s1.l s1.opn 0).opn := (opn_all fin n _).2.2.2.2.2 _ _ ha
            exact (PS.want_o hw2).trans (h2.trans h1)
    · rw [pDef_no hs hk] at h; cases h
theorem ext_def (fin fin2 : Int) (T : List Tk) (n m : Nat) (s : PS) (h : s.l ≠ []) (hn : 5 * s.l.length + 8 ≤ n) (hm : 5 * (s.l.length + T.length) + 8 ≤ m) : ExtR fin T (fun _ => True) (pDef fin n s) (pDef fin2 m (s.ext T)) := by
  cases hs : s.l with
  | nil => exact absurd hs h
  | cons t r =>
    have he : (s.ext T).l = t :: (r ++ T) := by show s.l ++ T = _; rw [hs]; rfl
    by_cases hk : t.kind = 1
    · rw [pDef_eq hs hk, pDef_eq he hk, ext_next h]
      have hlen : s.next.l.length + 1 = s.l.length := by simp [PS.next, hs]
      generalize s.next = u at *
      by_cases hu : u.l = []
      · obtain ⟨f, hf, hfa⟩ := nil_want (fin := fin) hu (sgn 61)
        rw [hf]
        exact fun hne => absurd hfa hne
      · rw [ext_want (fin := fin) hu]
        cases hw : u.want fin (sgn 61) with
        | error f => exact fun _ => rfl
        | ok s1 =>
          dsimp only
          have hl1 := PS.want_l' hw
          by_cases h1n : s1.l = []
          · rw [nil_alt (s := ⟨s1.l, s1.opn, 0⟩) h1n n (by omega)]
            dsimp only
            obtain ⟨f, hf, hfa⟩ := nil_want (fin := fin) (s := ⟨s1.l, s1.opn, 0⟩) h1n (sgn 59)
            rw [hf]
            exact fun hne => absurd hfa hne
          · have hA := (ext_all fin fin2 T n m ⟨s1.l, s1.opn, 0⟩ h1n).2.2.2.2.2 (by dsimp only; omega) (by dsimp only; omega)
            have e : (⟨(s1.ext T).l, (s1.ext T).opn, 0⟩ : PS) = PS.ext T ⟨s1.l, s1.opn, 0⟩ := rfl
            rw [e]
            cases ha : pAlt fin n ⟨s1.l, s1.opn, 0⟩ with
            | error f =>
              rw [ha] at hA
              intro hf
              rw [hA hf]
            | ok q =>
              obtain ⟨x, s2⟩ := q
              rw [ha] at hA
              dsimp only
              by_cases h2n : s2.l = []
              · obtain ⟨f, hf, hfa⟩ := nil_want (fin := fin) h2n (sgn 59)
                rw [hf]
                exact fun hne => absurd hfa hne
              · rw [hA h2n]
                dsimp only
                rw [ext_want (fin := fin) h2n]
                cases hw2 : s2.want fin (sgn 59) with
                | error f => exact fun _ => rfl
                | ok s3 => exact fun _ => rfl
    · rw [pDef_no hs hk, pDef_no he hk, ext_gone (fin := fin) h]
      exact fun _ => rfl
def shD (k : Nat) (d : Dfn) : Dfn := ⟨d.name, k + d.at_, d.e⟩
theorem sh_def (fin fin2 : Int) (k : Nat) (n : Nat) (s : PS) (p : Int) : match pDef fin n s with
    | .ok (d, s1) => ∃ q, pDef fin2 n ⟨(shP k s).l, s.opn, p⟩ = .ok (shD k d, ⟨(shP k s1).l, s1.opn, q⟩)
    | .error f => ∃ g, pDef fin2 n ⟨(shP k s).l, s.opn, p⟩ = .error g ∧ g.code = f.code := by
  cases hs : s.l with
  | nil =>
    have he : (PS.mk (shP k s).l s.opn p).l = [] := by show s.l.map _ = []; rw [hs]; rfl
    rw [pDef_nil hs, pDef_nil he]
    refine ⟨_, rfl, ?_⟩
    unfold PS.gone; rw [hs, he]
  | cons t r =>
    have he : (PS.mk (shP k s).l s.opn p).l = Old.shTk k t :: r.map (Old.shTk k) := by show s.l.map _ = _; rw [hs]; rfl
    by_cases hk : t.kind = 1
    · rw [pDef_eq hs hk, pDef_eq he (show (Old.shTk k t).kind = 1 from hk)]
      have hW := sh_want (fin := fin) (fin2 := fin2) (k := k) s.next (sgn 61)
      have hW2 : ∀ x, (PS.next ⟨(shP k s).l, s.opn, p⟩).want fin2 x = match (shP k s.next).want fin2 x with | .ok u => .ok ⟨u.l, u.opn, p⟩ | .error f => .error f := by
        intro x
        rw [← sh_next]
        unfold PS.want
        have e1 : (PS.next ⟨(shP k s).l, s.opn, p⟩).sign x = (shP k s).next.sign x := rfl
        rw [e1]
        split <;> rfl
      rw [hW2]
      cases hw : s.next.want fin (sgn 61) with
      | error f =>
        rw [hw] at hW; obtain ⟨g, h1, h2⟩ := hW; rw [h1]; exact ⟨g, rfl, h2⟩
      | ok s1 =>
        rw [hw] at hW
        rw [hW]
        dsimp only
        have hA := (sh_all fin fin2 k n ⟨s1.l, s1.opn, 0⟩).2.2.2.2.2
        have e : (⟨(shP k s1).l, (shP k s1).opn, 0⟩ : PS) = shP k ⟨s1.l, s1.opn, 0⟩ := rfl
        rw [e]
        cases ha : pAlt fin n ⟨s1.l, s1.opn, 0⟩ with
        | error f => rw [ha] at hA; obtain ⟨g, h1, h2⟩ := hA; rw [h1]; exact ⟨g, rfl, h2⟩
        | ok q =>
          obtain ⟨x, s2⟩ := q
          rw [ha] at hA
          rw [show pAlt fin2 n (shP k ⟨s1.l, s1.opn, 0⟩) = _ from hA]
          dsimp only
          have hV := sh_want (fin := fin) (fin2 := fin2) (k := k) s2 (sgn 59)
          cases hw2 : s2.want fin (sgn 59) with
          | error f => rw [hw2] at hV; obtain ⟨g, h1, h2⟩ := hV; rw [h1]; exact ⟨g, rfl, h2⟩
          | ok s3 =>
            rw [hw2] at hV
            rw [hV]
            refine ⟨s3.parts, ?_⟩
            have e3 : (shD k ⟨t.text, t.at_, x⟩) = ⟨(Old.shTk k t).text, (Old.shTk k t).at_, x⟩ := by simp [shD, Old.shTk]
            dsimp only
            rw [e3]
            rfl
    · rw [pDef_no hs hk, pDef_no he (show ¬ (Old.shTk k t).kind = 1 from hk)]
      refine ⟨_, rfl, ?_⟩
      unfold PS.gone; rw [hs, he]
/-! ### Definitions -/
theorem ext_defs (fin fin2 : Int) (T : List Tk) : ∀ n m (s : PS) (acc : List Dfn), s.l.length + 2 ≤ n → s.l.length + T.length + 2 ≤ m → match pDefs fin n s acc with
    | .ok out => ∃ m' o p, pDefs fin2 m (s.ext T) acc = pDefs fin2 m' ⟨T, o, p⟩ out ∧ T.length + 2 ≤ m' ∧ (s.opn = 0 → o = 0) ∧ out ≠ []
    | .error f => f.at_ ≠ fin → pDefs fin2 m (s.ext T) acc = .error f
  | 0, m, s, acc, hn, hm => by omega
  | n + 1, m, s, acc, hn, hm => by
    obtain ⟨m, rfl⟩ : ∃ m', m = m' + 1 := ⟨m - 1, by omega⟩
    rw [pDefs]
    have hel : (s.ext T).l.length = s.l.length + T.length := List.length_append
    by_cases hs : s.l = []
    · have h0 : ¬ 0 < s.l.length := by rw [hs]; simp
      by_cases ha : acc.length = 0
      · rw [if_pos (.inr ha), if_neg (by omega), pDef_nil hs]
        exact fun hne => absurd (nil_gone hs _) hne
      · rw [if_neg (by omega)]
        refine ⟨m + 1, s.opn, s.parts, ?_, by omega, id, fun h => ha (by rw [h]; rfl)⟩
        have : s.ext T = ⟨T, s.opn, s.parts⟩ := by unfold PS.ext; rw [hs]; rfl
        rw [this]
    · have h0 : 0 < s.l.length := List.length_pos_iff.2 hs
      rw [if_pos (.inl h0)]
      have hE : pDefs fin2 (m + 1) (s.ext T) acc = if acc.length = 16 then .error ((s.ext T).gone fin2 6) else match pDef fin2 (5 * (s.ext T).l.length + 8) (s.ext T) with | .error f => .error f | .ok (d, s') => pDefs fin2 m s' (acc ++ [d]) := by
        rw [pDefs, if_pos (.inl (by omega))]; rfl
      rw [hE]
      by_cases h16 : acc.length = 16
      · rw [if_pos h16, if_pos h16, ext_gone (fin := fin) hs]
        exact fun _ => rfl
      · rw [if_neg h16, if_neg h16]
        have hD := ext_def fin fin2 T (5 * s.l.length + 8) (5 * (s.ext T).l.length + 8) s hs (Nat.le_refl _) (by omega)
        cases hd : pDef fin (5 * s.l.length + 8) s with
        | error f =>
          rw [hd] at hD
          intro hf
          rw [hD hf]
        | ok q =>
          obtain ⟨d, s1⟩ := q
          rw [hd] at hD
          rw [hD trivial]
          have hl := (pDef_len hd).1
          dsimp only
          have hi := ext_defs fin fin2 T n m s1 (acc ++ [d]) (by omega) (by omega)
          have hopn : s.opn = 0 → s1.opn = 0 := fun h => by rw [pDef_opn hd, h]
          cases hq : pDefs fin n s1 (acc ++ [d]) with
          | error f => rw [hq] at hi; exact hi
          | ok out =>
            rw [hq] at hi
            obtain ⟨m', o, p, e1, e2, e3, e4⟩ := hi
            exact ⟨m', o, p, e1, e2, fun h => e3 (hopn h), e4⟩
theorem defs_more {fin : Int} : ∀ n (s : PS) (acc out : List Dfn), pDefs fin n s acc = .ok out → acc.length ≤ out.length ∧ (0 < s.l.length → acc.length < out.length)
  | 0, s, acc, out, h => by simp [pDefs] at h
  | n + 1, s, acc, out, h => by
    rw [pDefs] at h
    split at h
    · split at h
      · cases h
      · split at h
        · cases h
        · have := defs_more n _ _ _ h
          simp only [List.length_append, List.length_singleton] at this
          omega
    · cases h
      exact ⟨Nat.le_refl _, fun h => by omega⟩
theorem sh_defs (fin fin2 : Int) (k : Nat) (acc0 : List Dfn) (h0 : acc0.length ≤ 16) : ∀ n m (s : PS) (acc : List Dfn) (p : Int), s.l.length + 2 ≤ n → s.l.length + 2 ≤ m → (0 < acc.length ∨ 0 < s.l.length) → acc0.length + acc.length ≤ 16 → match pDefs fin n s acc with
    | .ok out => (acc0.length + out.length ≤ 16 → pDefs fin2 m ⟨(shP k s).l, s.opn, p⟩ (acc0 ++ acc.map (shD k)) = .ok (acc0 ++ out.map (shD k))) ∧ (16 < acc0.length + out.length → ∃ g, pDefs fin2 m ⟨(shP k s).l, s.opn, p⟩ (acc0 ++ acc.map (shD k)) = .error g ∧ g.code = 6)
    | .error f => ∃ g, pDefs fin2 m ⟨(shP k s).l, s.opn, p⟩ (acc0 ++ acc.map (shD k)) = .error g ∧ (g.code = f.code ∨ g.code = 6)
  | 0, m, s, acc, p, hn, hm, ha, h16 => by omega
  | n + 1, m, s, acc, p, hn, hm, ha, h16 => by
    obtain ⟨m, rfl⟩ : ∃ m', m = m' + 1 := ⟨m - 1, by omega⟩
    have hl2 : (PS.mk (shP k s).l s.opn p).l.length = s.l.length := List.length_map ..
    have hal : (acc0 ++ acc.map (shD k)).length = acc0.length + acc.length := by simp
    by_cases hs : 0 < s.l.length
    · have hE : pDefs fin2 (m + 1) ⟨(shP k s).l, s.opn, p⟩ (acc0 ++ acc.map (shD k)) = if acc0.length + acc.length = 16 then .error ((PS.mk (shP k s).l s.opn p).gone fin2 6) else match pDef fin2 (5 * s.l.length + 8) ⟨(shP k s).l, s.opn, p⟩ with | .error f => .error f | .ok (d, s') => pDefs fin2 m s' (acc0 ++ acc.map (shD k) ++ [d]) := by
        rw [pDefs, if_pos (.inl (by omega)), hal, hl2]; rfl
      have hcode : ((PS.mk (shP k s).l s.opn p).gone fin2 6).code = 6 := by
        unfold PS.gone
        split <;> rfl
      rw [hE]
      by_cases hf : acc0.length + acc.length = 16
      · rw [if_pos hf]
        cases hq : pDefs fin (n + 1) s acc with
        | error f => exact ⟨_, rfl, .inr hcode⟩
        | ok out =>
          have := (defs_more _ _ _ _ hq).2 hs
          exact ⟨fun h => by omega, fun _ => ⟨_, rfl, hcode⟩⟩
      · rw [if_neg hf, pDefs, if_pos (.inl hs)]
        by_cases h16' : acc.length = 16
        · omega
        · rw [if_neg h16']
          have hD := sh_def fin fin2 k (5 * s.l.length + 8) s p
          cases hd : pDef fin (5 * s.l.length + 8) s with
          | error f =>
            rw [hd] at hD
            obtain ⟨g, h1, h2⟩ := hD
            rw [h1]
            exact ⟨g, rfl, .inl h2⟩
          | ok q =>
            obtain ⟨d, s1⟩ := q
            rw [hd] at hD
            obtain ⟨q, hq⟩ := hD
            rw [hq]
            have hl := (pDef_len hd).1
            have hi := sh_defs fin fin2 k acc0 h0 n m s1 (acc ++ [d]) q (by omega) (by omega) (.inl (by simp)) (by simp; omega)
            have e : acc0 ++ (acc ++ [d]).map (shD k) = acc0 ++ acc.map (shD k) ++ [shD k d] := by simp
            rw [e] at hi
            exact hi
    · have he : s.l = [] := List.length_eq_zero_iff.1 (by omega)
      have hE : pDefs fin2 (m + 1) ⟨(shP k s).l, s.opn, p⟩ (acc0 ++ acc.map (shD k)) = .ok (acc0 ++ acc.map (shD k)) := by
        rw [pDefs, if_neg (by omega)]
      rw [hE, pDefs, if_neg (by omega)]
      exact ⟨fun _ => rfl, fun h => by omega⟩
end Go.Proofs.Ytkfeccbahpmadaa
