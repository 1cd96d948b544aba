/-
  Tokens: the reference's Scan is scanR. Tokens: the plain law of 'there and back': the tokens of a text that was put together of tokens.
-/
import Derived.Test.YtkfeccbahpmadaaTok5
set_option linter.unusedVariables false
set_option linter.unusedSimpArgs false
set_option linter.unusedSectionVars false
namespace Go.Proofs.Ytkfeccbahpmadaa.Old
open Go.RowKit

theorem sgn_not {c : Int} (h : isSgn c = true) : isLet c = false ∧ c ≠ 34 := by
  simp only [isSgn, isLet, decide_eq_true_eq, decide_eq_false_iff_not] at *
  omega
theorem let_not {c : Int} (h : isLet c = true) : isSgn c = false ∧ c ≠ 34 := by
  simp only [isSgn, isLet, decide_eq_true_eq, decide_eq_false_iff_not] at *
  omega
theorem stp_sgn {s : ByteArray} {k : Nat} (h : isSgn (bt s k) = true) : stp s k = .tok ⟨3, k, s.extract k (k + 1)⟩ (k + 1) := by
  unfold stp
  rw [if_neg (by simp [(sgn_not h).1]), if_neg (sgn_not h).2, if_pos h]
theorem stp_quote_bad {s : ByteArray} {k : Nat} (h : bt s k = 34) (hb : run quoteP s (k + 1) = s.size ∨ bt s (run quoteP s (k + 1)) ≠ 34 ∨ termB (s.extract (k + 1) (run quoteP s (k + 1))) = false) : stp s k = .bad 1 := by
  unfold stp; rw [if_neg (by simp [quote_not_let h]), if_pos h, if_pos hb]
theorem stp_quote_ok {s : ByteArray} {k : Nat} (h : bt s k = 34) (hb : ¬ (run quoteP s (k + 1) = s.size ∨ bt s (run quoteP s (k + 1)) ≠ 34 ∨ termB (s.extract (k + 1) (run quoteP s (k + 1))) = false)) :
    stp s k = .tok ⟨2, k, s.extract (k + 1) (run quoteP s (k + 1))⟩ (run quoteP s (k + 1) + 1) := by
  unfold stp; rw [if_neg (by simp [quote_not_let h]), if_pos h, if_neg hb]
theorem stp_none {s : ByteArray} {k : Nat} (h1 : isLet (bt s k) = false) (h2 : bt s k ≠ 34) (h3 : isSgn (bt s k) = false) : stp s k = .bad 1 := by
  unfold stp; rw [if_neg (by simp [h1]), if_neg h2, if_neg (by simp [h3])]
theorem bt_extract (s : ByteArray) (a b i : Nat) (h : a + i < b) (hb : b ≤ s.size) : bt (s.extract a b) i = bt s (a + i) := by
  have h1 : i < (s.extract a b).size := by rw [ByteArray.size_extract]; omega
  rw [bt_eq _ _ h1, bt_eq _ _ (by omega)]
  rw [ByteArray.getElem_extract]
theorem name_word {s : ByteArray} {k : Nat} (hk : k < s.size) (h : isLet (bt s k) = true) : nameB (s.extract k (run wordP s k)) = decide (run wordP s k - k ≤ 12) := by
  have h1 : run wordP s k = run wordP s (k + 1) := run_yes hk (by simp [wordP, h])
  have h2 := run_ge wordP s (k + 1)
  have h3 := run_le wordP s k (by omega)
  have hsz : (s.extract k (run wordP s k)).size = run wordP s k - k := by rw [ByteArray.size_extract]; omega
  by_cases h12 : run wordP s k - k ≤ 12
  · rw [decide_eq_true h12]
    refine (nameB_all (by omega) (by omega) ?_ fun j hj => ?_).symm
    · rw [bt_extract _ _ _ _ (by omega) h3]; exact h
    · rw [bt_extract _ _ _ _ (by omega) h3]
      exact run_in wordP s k (k + j) (by omega) (by omega)
  · rw [decide_eq_false h12]
    exact (nameB_short (Or.inr (by omega))).symm
theorem stp_let_ok {s : ByteArray} {k : Nat} (hk : k < s.size) (h : isLet (bt s k) = true) (hr : run wordP s k - k ≤ 12) : stp s k = .tok ⟨1, k, s.extract k (run wordP s k)⟩ (run wordP s k) := by
  unfold stp; rw [if_pos h, if_pos (by rw [name_word hk h]; exact decide_eq_true hr)]
theorem stp_let_bad {s : ByteArray} {k : Nat} (hk : k < s.size) (h : isLet (bt s k) = true) (hr : ¬ run wordP s k - k ≤ 12) : stp s k = .bad 2 := by
  unfold stp; rw [if_pos h, if_neg (by rw [name_word hk h]; simpa using hr)]

end Go.Proofs.Ytkfeccbahpmadaa.Old
namespace Go.Proofs.Ytkfeccbahpmadaa.Old
open Go.RowKit

def quo : ByteArray := ⟨#[34]⟩
def sep : ByteArray := ⟨#[32, 35, 32, 120, 10]⟩
def pc (t : Tk) : ByteArray := if t.kind = 2 then quo ++ t.text ++ quo else t.text
def pcs : List Tk → ByteArray
  | [] => ⟨#[]⟩
  | t :: r => pc t ++ (sep ++ pcs r)
def GoodTk (t : Tk) : Prop :=
  (t.kind = 1 ∧ 1 ≤ t.text.size ∧ t.text.size ≤ 12 ∧ isLet (bt t.text 0) = true ∧ ∀ i, i < t.text.size → wordP (bt t.text i) = true) ∨
  (t.kind = 2 ∧ TermP t.text) ∨ (t.kind = 3 ∧ t.text.size = 1 ∧ isSgn (bt t.text 0) = true)

theorem bt_left (a b : ByteArray) {i : Nat} (h : i < a.size) : bt (a ++ b) i = bt a i := by
  unfold bt
  rw [ByteArray.data_append, Array.getElem?_append_left (by exact h)]
theorem bt_right (a b : ByteArray) (i : Nat) : bt (a ++ b) (a.size + i) = bt b i := by
  unfold bt
  rw [ByteArray.data_append, Array.getElem?_append_right (by show a.data.size ≤ _; have : a.size = a.data.size := rfl; omega)]
  have : a.size = a.data.size := rfl
  rw [this, Nat.add_sub_cancel_left]
theorem ext_bt {a b : ByteArray} (hs : a.size = b.size) (h : ∀ i, i < a.size → bt a i = bt b i) : a = b := by
  refine ByteArray.ext_getElem hs fun i h1 h2 => ?_
  have := h i h1
  rw [bt_eq _ _ h1, bt_eq _ _ h2] at this
  exact UInt8.toNat_inj.1 (by omega)
theorem bt_out {s : ByteArray} {i : Nat} (h : s.size ≤ i) : bt s i = 0 := by
  unfold bt
  rw [Array.getElem?_eq_none (by exact h)]; rfl
theorem run_exact {p : Int → Bool} {s : ByteArray} : ∀ (m k : Nat), (∀ j, j < m → p (bt s (k + j)) = true) → k + m < s.size → p (bt s (k + m)) = false → run p s k = k + m
  | 0, k, _, h2, h3 => run_no h2 h3
  | m + 1, k, h1, h2, h3 => by
    rw [run_yes (by omega) (by have := h1 0 (by omega); simpa using this), run_exact m (k + 1) (fun j hj => by have := h1 (j + 1) (by omega); rwa [show k + (j + 1) = k + 1 + j by omega] at this) (by omega) (by rwa [show k + 1 + m = k + (m + 1) by omega])]
    omega
theorem mid (P x R : ByteArray) : (P ++ (x ++ R)).extract P.size (P.size + x.size) = x := by
  have hs : (P ++ (x ++ R)).size = P.size + (x.size + R.size) := by simp [ByteArray.size_append]
  refine ext_bt (by rw [ByteArray.size_extract]; omega) fun i hi => ?_
  rw [ByteArray.size_extract] at hi
  rw [bt_extract _ _ _ _ (by omega) (by omega), bt_right, bt_left _ _ (by omega)]

theorem stp_good {s : ByteArray} {k j : Nat} {t : Tk} (hk : k < s.size) (h : stp s k = .tok t j) : GoodTk t ∧ t.at_ = k := by
  unfold stp at h
  by_cases h1 : isLet (bt s k) = true
  · rw [if_pos h1] at h
    by_cases h2 : nameB (s.extract k (run wordP s k)) = true
    · rw [if_pos h2] at h
      simp only [St.tok.injEq] at h
      obtain ⟨rfl, _⟩ := h
      have h3 : NameP (s.extract k (run wordP s k)) := of_decide_eq_true h2
      exact ⟨.inl ⟨rfl, h3.1, h3.2.1, h3.2.2.1, fun i hi => h3.2.2.2 i hi⟩, rfl⟩
    · rw [if_neg h2] at h; cases h
  · rw [if_neg h1] at h
    by_cases h2 : bt s k = 34
    · rw [if_pos h2] at h
      split at h
      · cases h
      · rename_i h3
        simp only [St.tok.injEq] at h
        obtain ⟨rfl, _⟩ := h
        have h4 : termB (s.extract (k + 1) (run quoteP s (k + 1))) = true := by
          cases e : termB (s.extract (k + 1) (run quoteP s (k + 1))) with
          | true => rfl
          | false => exact absurd (.inr (.inr e)) h3
        exact ⟨.inr (.inl ⟨rfl, of_decide_eq_true h4⟩), rfl⟩
    · rw [if_neg h2] at h
      by_cases h3 : isSgn (bt s k) = true
      · rw [if_pos h3] at h
        simp only [St.tok.injEq] at h
        obtain ⟨rfl, _⟩ := h
        refine ⟨.inr (.inr ⟨rfl, ?_, ?_⟩), rfl⟩
        · show (s.extract k (k + 1)).size = 1
          rw [ByteArray.size_extract]; omega
        · show isSgn (bt (s.extract k (k + 1)) 0) = true
          rw [bt_extract _ _ _ _ (by omega) (by omega)]; exact h3
      · rw [if_neg h3] at h; cases h

theorem scanG_good (n : Nat) : ∀ (s : ByteArray) (k : Nat) (acc : List Tk), (∀ t ∈ acc, GoodTk t ∧ t.at_ < k) → acc.Pairwise (fun a b => a.at_ < b.at_) → k ≤ s.size →
    (∀ t ∈ (scanG n s k acc).1, GoodTk t ∧ t.at_ < s.size) ∧ (scanG n s k acc).1.Pairwise (fun a b => a.at_ < b.at_) := by
  induction n with
  | zero => intro s k acc _ _ _; simp [scanG]
  | succ n ih =>
    intro s k acc h1 h2 h3
    by_cases hk : k < s.size
    · cases hst : stp s k with
      | tok t j =>
        rw [scanG_tok hk hst]
        obtain ⟨g1, g2⟩ := stp_gt hk hst
        obtain ⟨g4, g5⟩ := stp_good hk hst
        have g3 := skp_ge s j false
        refine ih _ _ _ (fun u hu => ?_) ?_ (skp_le s j false g2)
        · rcases List.mem_append.1 hu with hu | hu
          · exact ⟨(h1 u hu).1, by have := (h1 u hu).2; omega⟩
          · simp only [List.mem_singleton] at hu; subst hu; exact ⟨g4, by omega⟩
        · rw [List.pairwise_append]
          exact ⟨h2, by simp, fun a ha b hb => by simp only [List.mem_singleton] at hb; subst hb; rw [g5]; exact (h1 a ha).2⟩
      | bad c => rw [scanG_bad hk hst]; simp
    · rw [scanG_end hk]
      exact ⟨fun t ht => ⟨(h1 t ht).1, by have := (h1 t ht).2; omega⟩, h2⟩
theorem scanR_good (s : ByteArray) : (∀ t ∈ (scanR s).1, GoodTk t ∧ t.at_ < s.size) ∧ (scanR s).1.Pairwise (fun a b => a.at_ < b.at_) := by
  unfold scanR
  split
  · simp
  · exact scanG_good _ s _ [] (by simp) (by simp) (skp_le s 0 false (Nat.zero_le _))

theorem sep_size : sep.size = 5 := rfl
theorem sep_at : bt sep 0 = 32 ∧ bt sep 1 = 35 ∧ bt sep 2 = 32 ∧ bt sep 3 = 120 ∧ bt sep 4 = 10 := by decide
theorem quo_size : quo.size = 1 := rfl
theorem GoodTk.pc {t : Tk} (h : GoodTk t) : 1 ≤ (pc t).size ∧ (pc t).size ≤ 14 ∧ t.text.size ≤ 12 ∧ bt (pc t) 0 ≠ 10 ∧ bt (pc t) 0 ≠ 32 ∧ bt (pc t) 0 ≠ 9 ∧ bt (pc t) 0 ≠ 13 ∧ bt (pc t) 0 ≠ 35 := by
  unfold Old.pc
  rcases h with ⟨h0, h1, h2, h3, _⟩ | ⟨h0, h1, h2, h3⟩ | ⟨h0, h1, h2⟩
  · rw [if_neg (by omega)]
    simp only [isLet, decide_eq_true_eq] at h3
    refine ⟨h1, by omega, h2, ?_⟩
    omega
  · rw [if_pos h0]
    have e : bt (quo ++ t.text ++ quo) 0 = 34 := by
      rw [ByteArray.append_assoc, bt_left _ _ (by rw [quo_size]; omega)]; decide
    rw [e]
    simp only [ByteArray.size_append, quo_size]
    omega
  · rw [if_neg (by omega)]
    simp only [isSgn, decide_eq_true_eq] at h2
    omega

/-- One token ahead of a blank. -/
theorem stp_pc (P R : ByteArray) {t : Tk} (h : GoodTk t) : stp (P ++ (pc t ++ (sep ++ R))) P.size = .tok ⟨t.kind, P.size, t.text⟩ (P.size + (pc t).size) := by
  have hp := h.pc
  have hsz : (P ++ (pc t ++ (sep ++ R))).size = P.size + ((pc t).size + (5 + R.size)) := by simp only [ByteArray.size_append, sep_size]
  have hat : ∀ j, j < (pc t).size → bt (P ++ (pc t ++ (sep ++ R))) (P.size + j) = bt (pc t) j := fun j hj => by rw [bt_right, bt_left _ _ hj]
  have hat' : bt (P ++ (pc t ++ (sep ++ R))) (P.size + (pc t).size) = 32 := by
    rw [bt_right, ← Nat.add_zero (pc t).size, bt_right, bt_left _ _ (by rw [sep_size]; omega)]; exact sep_at.1
  have hat0 := hat 0 (by omega)
  rw [Nat.add_zero] at hat0
  obtain ⟨kind, at_, x⟩ := t
  rcases h with ⟨h0, h1, h2, h3, h4⟩ | ⟨h0, h1⟩ | ⟨h0, h1, h2⟩
  · simp only at h0 h1 h2 h3 h4
    subst h0
    have e : pc ⟨1, at_, x⟩ = x := if_neg (show ¬ (1 : Int) = 2 by decide)
    rw [e] at hp hsz hat hat' hat0 ⊢
    have hr := run_exact (p := wordP) x.size P.size (fun j hj => by rw [hat j hj]; exact h4 j hj) (by omega) (by rw [hat']; decide)
    rw [stp_let_ok (by omega) (by rw [hat0]; exact h3) (by rw [hr]; omega), hr, mid]
  · simp only at h0 h1
    subst h0
    have e : pc ⟨2, at_, x⟩ = quo ++ x ++ quo := if_pos rfl
    have e' : pc ⟨2, at_, x⟩ = quo ++ (x ++ quo) := by rw [e, ByteArray.append_assoc]
    have es : (pc ⟨2, at_, x⟩).size = x.size + 2 := by rw [e]; simp only [ByteArray.size_append, quo_size]; omega
    have q0 : bt (pc ⟨2, at_, x⟩) 0 = 34 := by rw [e', bt_left _ _ (by rw [quo_size]; omega)]; decide
    have q1 : ∀ j, j < x.size → bt (pc ⟨2, at_, x⟩) (j + 1) = bt x j := fun j hj => by
      rw [e', show j + 1 = quo.size + j by rw [quo_size]; omega, bt_right, bt_left _ _ hj]
    have q2 : bt (pc ⟨2, at_, x⟩) (x.size + 1) = 34 := by
      rw [e', show x.size + 1 = quo.size + (x.size + 0) by rw [quo_size]; omega, bt_right, bt_right]; decide
    have hr := run_exact (p := quoteP) (s := P ++ (pc ⟨2, at_, x⟩ ++ (sep ++ R))) x.size (P.size + 1) (fun j hj => by
      rw [Nat.add_assoc, Nat.add_comm 1 j, hat (j + 1) (by omega), q1 j hj]
      have := h1.2.2 j hj
      simp only [quoteP, decide_eq_true_eq]; omega) (by omega) (by
      rw [Nat.add_assoc, Nat.add_comm 1 x.size, hat (x.size + 1) (by omega), q2]; decide)
    have ht : (P ++ (pc ⟨2, at_, x⟩ ++ (sep ++ R))).extract (P.size + 1) (P.size + 1 + x.size) = x := by
      have := mid (P ++ quo) x (quo ++ (sep ++ R))
      rw [ByteArray.size_append, quo_size] at this
      have e4 : P ++ (pc ⟨2, at_, x⟩ ++ (sep ++ R)) = (P ++ quo) ++ (x ++ (quo ++ (sep ++ R))) := by rw [e']; simp only [ByteArray.append_assoc]
      rw [e4]
      exact this
    rw [stp_quote_ok (by rw [hat0]; exact q0) ?_, hr, ht]
    · congr 1; omega
    · rw [hr, ht]
      rintro (h | h | h)
      · omega
      · rw [Nat.add_assoc, Nat.add_comm 1 x.size, hat (x.size + 1) (by omega), q2] at h; exact h rfl
      · rw [show termB x = true from decide_eq_true h1] at h; cases h
  · simp only at h0 h1 h2
    subst h0
    have e : pc ⟨3, at_, x⟩ = x := if_neg (show ¬ (3 : Int) = 2 by decide)
    rw [e] at hp hsz hat hat' hat0 ⊢
    have hm := mid P x (sep ++ R)
    rw [h1] at hm
    rw [stp_sgn (by rw [hat0]; exact h2), hm, h1]

theorem skp_here (P : ByteArray) {r : List Tk} (h : ∀ t ∈ r, GoodTk t) : skp (P ++ pcs r) P.size false = P.size := by
  cases r with
  | nil =>
    have hz : (⟨#[]⟩ : ByteArray).size = 0 := rfl
    exact skp_end (by simp only [pcs, ByteArray.size_append, hz]; omega)
  | cons t r =>
    have hp := (h t (by simp)).pc
    have e : bt (P ++ pcs (t :: r)) P.size = bt (pc t) 0 := by
      have := bt_right P (pcs (t :: r)) 0
      rw [Nat.add_zero] at this
      rw [this]; exact bt_left _ _ (by omega)
    exact skp_stop (by simp only [pcs, ByteArray.size_append]; omega) (by rw [e]; omega) (by rw [e]; omega) (by rw [e]; omega) (by rw [e]; omega) (by rw [e]; omega)
theorem skp_sep (P R : ByteArray) : skp (P ++ (sep ++ R)) P.size false = skp (P ++ (sep ++ R)) (P.size + 5) false := by
  have hsz : (P ++ (sep ++ R)).size = P.size + (5 + R.size) := by simp only [ByteArray.size_append, sep_size]
  obtain ⟨s0, s1, s2, s3, s4⟩ := sep_at
  have hat : ∀ j, j < 5 → bt (P ++ (sep ++ R)) (P.size + j) = bt sep j := fun j hj => by rw [bt_right, bt_left _ _ (by rw [sep_size]; omega)]
  rw [skp_on (by omega) (by have := hat 0 (by omega); rw [Nat.add_zero] at this; rw [this, s0]; decide) (.inr (.inl (by have := hat 0 (by omega); rw [Nat.add_zero] at this; rw [this, s0]))),
    skp_rem (by omega) (by rw [hat 1 (by omega), s1]),
    skp_on (by omega) (by rw [hat 2 (by omega), s2]; decide) (.inl rfl),
    skp_on (by omega) (by rw [hat 3 (by omega), s3]; decide) (.inl rfl),
    skp_nl (by omega) (by rw [hat 4 (by omega), s4])]

def kt (t : Tk) : Int × ByteArray := (t.kind, t.text)
theorem scanG_pcs : ∀ (r : List Tk) (P : ByteArray) (n : Nat) (acc : List Tk), (∀ t ∈ r, GoodTk t) → r.length < n → ∃ r', scanG n (P ++ pcs r) P.size acc = (acc ++ r', 0, 0) ∧ r'.map kt = r.map kt
  | [], P, n, acc, _, hn => by
    obtain ⟨m, rfl⟩ : ∃ m, n = m + 1 := ⟨n - 1, by simp at hn; omega⟩
    have hz : (⟨#[]⟩ : ByteArray).size = 0 := rfl
    exact ⟨[], by rw [scanG_end (by simp only [pcs, ByteArray.size_append, hz]; omega), List.append_nil], rfl⟩
  | t :: r, P, n, acc, hg, hn => by
    simp only [List.length_cons] at hn
    obtain ⟨m, rfl⟩ : ∃ m, n = m + 1 := ⟨n - 1, by omega⟩
    have hp := (hg t (by simp)).pc
    have e1 : P ++ pcs (t :: r) = P ++ (pc t ++ (sep ++ pcs r)) := rfl
    have e2 : P ++ pcs (t :: r) = (P ++ pc t) ++ (sep ++ pcs r) := by rw [e1]; simp only [ByteArray.append_assoc]
    have e3 : P ++ pcs (t :: r) = ((P ++ pc t) ++ sep) ++ pcs r := by rw [e1]; simp only [ByteArray.append_assoc]
    have hs : stp (P ++ pcs (t :: r)) P.size = .tok ⟨t.kind, P.size, t.text⟩ (P.size + (pc t).size) := stp_pc P (pcs r) (hg t (by simp))
    rw [scanG_tok (by rw [e1]; simp only [ByteArray.size_append]; omega) hs]
    have hk : skp (P ++ pcs (t :: r)) (P.size + (pc t).size) false = ((P ++ pc t) ++ sep).size := by
      have h1 := skp_sep (P ++ pc t) (pcs r)
      rw [← e2, ByteArray.size_append] at h1
      rw [h1, e3]
      have h2 := skp_here ((P ++ pc t) ++ sep) (r := r) (fun u hu => hg u (by simp [hu]))
      rw [ByteArray.size_append, ByteArray.size_append, sep_size] at h2 ⊢
      exact h2
    rw [hk, e3]
    obtain ⟨r', h1, h2⟩ := scanG_pcs r ((P ++ pc t) ++ sep) m (acc ++ [⟨t.kind, P.size, t.text⟩]) (fun u hu => hg u (by simp [hu])) (by omega)
    exact ⟨⟨t.kind, P.size, t.text⟩ :: r', by rw [h1]; simp, by simp [h2, kt]⟩
theorem pcs_len : ∀ {r : List Tk}, (∀ t ∈ r, GoodTk t) → r.length ≤ (pcs r).size ∧ (pcs r).size ≤ 19 * r.length
  | [], _ => ⟨Nat.le_refl _, Nat.le_refl _⟩
  | t :: r, h => by
    have h1 := (h t (by simp)).pc
    have h2 := pcs_len (r := r) (fun u hu => h u (by simp [hu]))
    simp only [pcs, ByteArray.size_append, sep_size, List.length_cons]
    omega
theorem scanR_pcs {r : List Tk} (h : ∀ t ∈ r, GoodTk t) (hs : (pcs r).size ≤ 6000) : ∃ r', scanR (pcs r) = (r', 0, 0) ∧ r'.map kt = r.map kt := by
  unfold scanR
  rw [if_neg (by omega)]
  have e : (⟨#[]⟩ : ByteArray) ++ pcs r = pcs r := by apply ByteArray.ext; simp [ByteArray.data_append]
  have h1 := skp_here ⟨#[]⟩ h
  have hz : (⟨#[]⟩ : ByteArray).size = 0 := rfl
  rw [e, hz] at h1
  obtain ⟨r', h2, h3⟩ := scanG_pcs r ⟨#[]⟩ ((pcs r).size + 1) [] h (by have := (pcs_len h).1; omega)
  rw [e, hz] at h2
  refine ⟨r', ?_, h3⟩
  rw [h1]; simpa using h2
theorem pcs_snoc : ∀ (r : List Tk) (t : Tk), pcs (r ++ [t]) = pcs r ++ pc t ++ sep
  | [], t => by
    apply ByteArray.ext; simp [pcs, ByteArray.data_append]
  | u :: r, t => by
    simp only [List.cons_append, pcs, pcs_snoc r t, ByteArray.append_assoc]
end Go.Proofs.Ytkfeccbahpmadaa.Old
