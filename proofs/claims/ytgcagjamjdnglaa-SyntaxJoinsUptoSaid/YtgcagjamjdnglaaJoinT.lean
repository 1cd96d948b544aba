/-
  Tokens: the plain law of one text behind another: its tokens.
-/
import Derived.Test.YtgcagjamjdnglaaTokBackP
set_option linter.unusedVariables false
set_option linter.unusedSimpArgs false
set_option linter.unusedSectionVars false
namespace Go.Proofs.Ytgcagjamjdnglaa.Old
open Go.RowKit

def nlB : ByteArray := ⟨#[10]⟩
theorem nlB_size : nlB.size = 1 := rfl
theorem nlB_at : bt nlB 0 = 10 := by decide
/-! ### Behind -/
section
variable (P b : ByteArray)
theorem sh_run (p : Int → Bool) (i : Nat) (hi : i ≤ b.size) : run p (P ++ b) (P.size + i) = P.size + run p b i := by
  have hs : (P ++ b).size = P.size + b.size := ByteArray.size_append
  fun_induction run p b i with
  | case1 i h hp ih => rw [run_yes (by omega) (by rw [bt_right]; exact hp)]; exact ih (by omega)
  | case2 i h hp => rw [run_no (by omega) (by rw [bt_right]; simpa using hp)]
  | case3 i h => rw [run_end (by omega)]
theorem sh_skp (r : Bool) (i : Nat) (hi : i ≤ b.size) : skp (P ++ b) (P.size + i) r = P.size + skp b i r := by
  have hs : (P ++ b).size = P.size + b.size := ByteArray.size_append
  fun_induction skp b i r with
  | case1 i r h hc ih => rw [skp_nl (by omega) (by rw [bt_right]; exact hc)]; exact ih (by omega)
  | case2 i r h hc h2 ih => rw [skp_on (by omega) (by rw [bt_right]; exact hc) (by rw [bt_right]; exact h2)]; exact ih (by omega)
  | case3 i r h hc h2 h3 ih =>
    have hr : r = false := by cases r <;> simp_all
    subst hr
    rw [skp_rem (by omega) (by rw [bt_right]; exact h3)]; exact ih (by omega)
  | case4 i r h hc h2 h3 =>
    have hr : r = false := by cases r <;> simp_all
    subst hr
    simp only [Bool.false_eq_true, false_or, not_or] at h2
    exact skp_stop (by omega) (by rw [bt_right]; exact hc) (by rw [bt_right]; exact h2.1) (by rw [bt_right]; exact h2.2.1) (by rw [bt_right]; exact h2.2.2) (by rw [bt_right]; exact h3)
  | case5 i r h => exact skp_end (by omega)
theorem sh_extract (i j : Nat) (hj : j ≤ b.size) : (P ++ b).extract (P.size + i) (P.size + j) = b.extract i j := by
  have hs : (P ++ b).size = P.size + b.size := ByteArray.size_append
  refine ext_bt (by rw [ByteArray.size_extract, ByteArray.size_extract]; omega) fun k hk => ?_
  rw [ByteArray.size_extract] at hk
  rw [bt_extract _ _ _ _ (by omega) (by omega), bt_extract _ _ _ _ (by omega) (by omega), Nat.add_assoc, bt_right]
def shTk (n : Nat) (t : Tk) : Tk := ⟨t.kind, n + t.at_, t.text⟩
def shSt (n : Nat) : St → St
  | .tok t j => .tok (shTk n t) (n + j)
  | .bad c => .bad c
theorem sh_stp (k : Nat) (hk : k < b.size) : stp (P ++ b) (P.size + k) = shSt P.size (stp b k) := by
  have hs : (P ++ b).size = P.size + b.size := ByteArray.size_append
  have r1 := run_le wordP b k (by omega)
  have r2 := run_le quoteP b (k + 1) (by omega)
  unfold stp
  rw [bt_right, sh_run P b wordP k (by omega), Nat.add_assoc, sh_run P b quoteP (k + 1) (by omega), sh_extract P b k _ r1, sh_extract P b (k + 1) _ r2, bt_right, sh_extract P b k (k + 1) (by omega), hs]
  by_cases h1 : isLet (bt b k) = true
  · rw [if_pos h1, if_pos h1]
    split <;> rfl
  · rw [if_neg h1, if_neg h1]
    by_cases h2 : bt b k = 34
    · rw [if_pos h2, if_pos h2]
      by_cases h3 : run quoteP b (k + 1) = b.size ∨ bt b (run quoteP b (k + 1)) ≠ 34 ∨ termB (b.extract (k + 1) (run quoteP b (k + 1))) = false
      · rw [if_pos h3, if_pos (h3.imp (fun h => by omega) id)]; rfl
      · rw [if_neg h3, if_neg (fun h => h3 (h.imp (fun h => by omega) id))]
        simp only [shSt, shTk, Nat.add_assoc]
    · rw [if_neg h2, if_neg h2]
      split
      · simp only [shSt, shTk]
      · rfl
/-- The tokens of what stands behind. -/
theorem sh_scan : ∀ (n m K : Nat) (k0 : Nat) (r : Bool), k0 ≤ b.size → K = skp b k0 r → b.size < n + K → (P ++ b).size < m + (P.size + K) →
    (∃ T, (∀ acc, scanG n b K acc = (acc ++ T, 0, 0)) ∧ ∀ acc, scanG m (P ++ b) (P.size + K) acc = (acc ++ T.map (shTk P.size), 0, 0)) ∨
    (∃ (c : Int) (p : Nat), (c = 1 ∨ c = 2) ∧ (∀ acc, scanG n b K acc = ([], c, (p : Int))) ∧ ∀ acc, scanG m (P ++ b) (P.size + K) acc = ([], c, ((P.size + p : Nat) : Int)))
  | 0, m, K, k0, r, h0, hK, hn, hm => by
    have := skp_le b k0 r h0
    omega
  | n + 1, m, K, k0, r, h0, hK, hn, hm => by
    have hs : (P ++ b).size = P.size + b.size := ByteArray.size_append
    have hle := skp_le b k0 r h0
    rw [← hK] at hle
    obtain ⟨m, rfl⟩ : ∃ m', m = m' + 1 := ⟨m - 1, by omega⟩
    by_cases hk : K < b.size
    · have hst := sh_stp P b K hk
      cases ht : stp b K with
      | tok t j =>
        rw [ht] at hst
        obtain ⟨g1, g2⟩ := stp_gt hk ht
        have g3 := skp_ge b j false
        rcases sh_scan n m (skp b j false) j false g2 rfl (by omega) (by omega) with ⟨T, t1, t2⟩ | ⟨c, p, c0, t1, t2⟩
        · refine .inl ⟨t :: T, fun acc => ?_, fun acc => ?_⟩
          · rw [scanG_tok hk ht, t1]; simp
          · rw [scanG_tok (by omega) hst, sh_skp P b false j g2, t2]; simp
        · refine .inr ⟨c, p, c0, fun acc => ?_, fun acc => ?_⟩
          · rw [scanG_tok hk ht, t1]
          · rw [scanG_tok (by omega) hst, sh_skp P b false j g2, t2]
      | bad c =>
        rw [ht] at hst
        refine .inr ⟨c, K, stp_bad ht, fun acc => ?_, fun acc => ?_⟩
        · rw [scanG_bad hk ht]
        · rw [scanG_bad (by omega) hst]
    · refine .inl ⟨[], fun acc => ?_, fun acc => ?_⟩
      · rw [scanG_end hk]; simp
      · rw [scanG_end (by omega)]; simp
end
/-! ### Ahead -/
section
variable (a b : ByteArray)
theorem jn_size : (a ++ (nlB ++ b)).size = a.size + (1 + b.size) := by simp only [ByteArray.size_append, nlB_size]
theorem jn_at {i : Nat} (h : i < a.size) : bt (a ++ (nlB ++ b)) i = bt a i := bt_left _ _ h
theorem jn_nl : bt (a ++ (nlB ++ b)) a.size = 10 := by
  have := bt_right a (nlB ++ b) 0
  rw [Nat.add_zero] at this
  rw [this, bt_left _ _ (by rw [nlB_size]; omega)]; exact nlB_at
theorem jn_run (p : Int → Bool) (hp : p 10 = false) (k : Nat) (hk : k ≤ a.size) : run p (a ++ (nlB ++ b)) k = run p a k := by
  have hs := jn_size a b
  fun_induction run p a k with
  | case1 i h hp ih => rw [run_yes (by omega) (by rw [jn_at a b h]; exact hp)]; exact ih (by omega)
  | case2 i h hp => rw [run_no (by omega) (by rw [jn_at a b h]; simpa using hp)]
  | case3 i h =>
    obtain rfl : i = a.size := by omega
    rw [run_no (by omega) (by rw [jn_nl]; exact hp)]
theorem jn_skp (r : Bool) (k : Nat) (hk : k ≤ a.size) : skp (a ++ (nlB ++ b)) k r = if skp a k r < a.size then skp a k r else skp (a ++ (nlB ++ b)) (a.size + 1) false := by
  have hs := jn_size a b
  fun_induction skp a k r with
  | case1 i r h hc ih => rw [skp_nl (by omega) (by rw [jn_at a b h]; exact hc)]; exact ih (by omega)
  | case2 i r h hc h2 ih => rw [skp_on (by omega) (by rw [jn_at a b h]; exact hc) (by rw [jn_at a b h]; exact h2)]; exact ih (by omega)
  | case3 i r h hc h2 h3 ih =>
    have hr : r = false := by cases r <;> simp_all
    subst hr
    rw [skp_rem (by omega) (by rw [jn_at a b h]; exact h3)]; exact ih (by omega)
  | case4 i r h hc h2 h3 =>
    have hr : r = false := by cases r <;> simp_all
    subst hr
    simp only [Bool.false_eq_true, false_or, not_or] at h2
    rw [if_pos h]
    exact skp_stop (by omega) (by rw [jn_at a b h]; exact hc) (by rw [jn_at a b h]; exact h2.1) (by rw [jn_at a b h]; exact h2.2.1) (by rw [jn_at a b h]; exact h2.2.2) (by rw [jn_at a b h]; exact h3)
  | case5 i r h =>
    rw [if_neg h]
    obtain rfl : i = a.size := by omega
    exact skp_nl (by omega) (jn_nl a b)
theorem jn_extract (i j : Nat) (hj : j ≤ a.size) : (a ++ (nlB ++ b)).extract i j = a.extract i j := by
  have hs := jn_size a b
  refine ext_bt (by rw [ByteArray.size_extract, ByteArray.size_extract]; omega) fun k hk => ?_
  rw [ByteArray.size_extract] at hk
  rw [bt_extract _ _ _ _ (by omega) (by omega), bt_extract _ _ _ _ (by omega) (by omega), jn_at a b (by omega)]
theorem jn_stp (k : Nat) (hk : k < a.size) : stp (a ++ (nlB ++ b)) k = stp a k := by
  have hs := jn_size a b
  have r1 := run_le wordP a k (by omega)
  have r2 := run_le quoteP a (k + 1) (by omega)
  unfold stp
  rw [jn_at a b hk, jn_run a b wordP (by decide) k (by omega), jn_run a b quoteP (by decide) (k + 1) (by omega), jn_extract a b k _ r1, jn_extract a b (k + 1) _ r2, jn_extract a b k (k + 1) (by omega), hs]
  by_cases h1 : isLet (bt a k) = true
  · rw [if_pos h1, if_pos h1]
  · rw [if_neg h1, if_neg h1]
    by_cases h2 : bt a k = 34
    · rw [if_pos h2, if_pos h2]
      by_cases h3 : run quoteP a (k + 1) = a.size
      · rw [if_pos (.inr (.inl (by rw [h3, jn_nl]; decide))), if_pos (.inl h3)]
      · have h4 : ¬ run quoteP a (k + 1) = a.size + (1 + b.size) := by omega
        rw [jn_at a b (by omega)]
        simp only [h3, h4, false_or]
    · rw [if_neg h2, if_neg h2]
/-- The tokens of what stands ahead. -/
theorem jn_scan : ∀ (n m : Nat) (k0 : Nat) (r : Bool) (acc : List Tk), k0 ≤ a.size → a.size < n + skp a k0 r → (a ++ (nlB ++ b)).size < m + skp (a ++ (nlB ++ b)) k0 r →
    (∃ T m', scanG n a (skp a k0 r) acc = (T, 0, 0) ∧ (a ++ (nlB ++ b)).size < m' + skp (a ++ (nlB ++ b)) (a.size + 1) false ∧ scanG m (a ++ (nlB ++ b)) (skp (a ++ (nlB ++ b)) k0 r) acc = scanG m' (a ++ (nlB ++ b)) (skp (a ++ (nlB ++ b)) (a.size + 1) false) T) ∨
    (∃ (c p : Int), c ≠ 0 ∧ scanG n a (skp a k0 r) acc = ([], c, p) ∧ scanG m (a ++ (nlB ++ b)) (skp (a ++ (nlB ++ b)) k0 r) acc = ([], c, p))
  | 0, m, k0, r, acc, h0, hn, hm => by
    have := skp_le a k0 r h0
    omega
  | n + 1, m, k0, r, acc, h0, hn, hm => by
    have hs := jn_size a b
    have hle := skp_le a k0 r h0
    have hsk := jn_skp a b r k0 h0
    by_cases hk : skp a k0 r < a.size
    · rw [if_pos hk] at hsk
      rw [hsk] at hm ⊢
      obtain ⟨m, rfl⟩ : ∃ m', m = m' + 1 := ⟨m - 1, by omega⟩
      have hst := jn_stp a b _ hk
      cases ht : stp a (skp a k0 r) with
      | tok t j =>
        rw [ht] at hst
        obtain ⟨g1, g2⟩ := stp_gt hk ht
        have g3 := skp_ge a j false
        have g4 := skp_ge (a ++ (nlB ++ b)) j false
        rw [scanG_tok hk ht, scanG_tok (by omega) hst]
        exact jn_scan n m j false (acc ++ [t]) g2 (by omega) (by omega)
      | bad c =>
        rw [ht] at hst
        refine .inr ⟨c, _, by rcases stp_bad ht with h | h <;> omega, scanG_bad hk ht, scanG_bad (by omega) hst⟩
    · rw [if_neg hk] at hsk
      rw [hsk] at hm ⊢
      exact .inl ⟨acc, m, scanG_end hk, hm, rfl⟩
/-- The tokens of a text behind another. -/
theorem scan_join (h : a.size + b.size ≤ 5999) :
    (∃ T U, scanR a = (T, 0, 0) ∧ scanR b = (U, 0, 0) ∧ scanR (a ++ (nlB ++ b)) = (T ++ U.map (shTk (a.size + 1)), 0, 0)) ∨
    (∃ T c p, scanR a = (T, 0, 0) ∧ (c = 1 ∨ c = 2) ∧ (scanR b).2 = (c, p) ∧ (scanR (a ++ (nlB ++ b))).2.1 ≠ 0) ∨
    (∃ (c p : Int), c ≠ 0 ∧ scanR a = ([], c, p) ∧ scanR (a ++ (nlB ++ b)) = ([], c, p)) := by
  have hs := jn_size a b
  unfold scanR
  rw [if_neg (by omega), if_neg (by omega), if_neg (by omega)]
  have g1 := skp_le a 0 false (Nat.zero_le _)
  have g2 := skp_le (a ++ (nlB ++ b)) 0 false (Nat.zero_le _)
  rcases jn_scan a b (a.size + 1) ((a ++ (nlB ++ b)).size + 1) 0 false [] (Nat.zero_le _) (by omega) (by omega) with ⟨T, m', t1, t2, t3⟩ | ⟨c, p, c0, t1, t2⟩
  · rw [t1, t3]
    have e : a ++ (nlB ++ b) = (a ++ nlB) ++ b := (ByteArray.append_assoc).symm
    have hP : (a ++ nlB).size = a.size + 1 := by rw [ByteArray.size_append, nlB_size]
    have hsk := sh_skp (a ++ nlB) b false 0 (Nat.zero_le _)
    rw [hP, Nat.add_zero] at hsk
    rw [e] at t2 ⊢
    rw [hsk] at t2 ⊢
    have hsb : ((a ++ nlB) ++ b).size = a.size + 1 + b.size := by rw [ByteArray.size_append, hP]
    rcases sh_scan (a ++ nlB) b (b.size + 1) m' (skp b 0 false) 0 false (Nat.zero_le _) rfl (by omega) (by rw [hP]; exact t2) with ⟨U, u1, u2⟩ | ⟨c, p, c0, u1, u2⟩
    · refine .inl ⟨T, U, rfl, by rw [u1]; rfl, ?_⟩
      rw [← hP, u2]
    · refine .inr (.inl ⟨T, c, p, rfl, c0, by rw [u1], ?_⟩)
      have := u2 T
      rw [hP] at this
      rw [this]; show c ≠ 0; omega
  · exact .inr (.inr ⟨c, p, c0, t1, t2⟩)
end
end Go.Proofs.Ytgcagjamjdnglaa.Old
