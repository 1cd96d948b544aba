/-
  Render, plain: the tokens of a printed text. Render, plain: what is printed is read as it was. Render, plain: rows, alternatives, definitions are read as they were.
-/
import Derived.Test.YtkfeccbahpmadaaRendP
import Derived.Test.YtkfeccbahpmadaaTkB
import Derived.Test.YtkfeccbahpmadaaJoP
import Derived.Test.YtkfeccbahpmadaaRnG
import Derived.Test.YtkfeccbahpmadaaSyX
set_option linter.unusedVariables false
set_option linter.unusedSimpArgs false
set_option linter.unusedSectionVars false
namespace Go.Proofs.Ytkfeccbahpmadaa
open Go.RowKit
open Old (GoodTk stp run_exact wordP quoteP mid bt_left bt_right stp_let_ok stp_quote_ok stp_sgn skp skp_on skp_nl skp_stop skp_end scanG scanG_tok scanG_end quo_size kt)

/-- One token ahead of whatever ends it. -/
theorem stp_any (P R : ByteArray) {t : Tk} (h : GoodTk t) (hR : t.kind = 1 → 0 < R.size ∧ wordP (Old.bt R 0) = false) : stp (P ++ (Old.pc t ++ R)) P.size = .tok ⟨t.kind, P.size, t.text⟩ (P.size + (Old.pc t).size) := by
  have hp := h.pc
  have hsz : (P ++ (Old.pc t ++ R)).size = P.size + ((Old.pc t).size + R.size) := by simp only [ByteArray.size_append]
  have hat : ∀ j, j < (Old.pc t).size → Old.bt (P ++ (Old.pc t ++ R)) (P.size + j) = Old.bt (Old.pc t) j := fun j hj => by rw [bt_right, bt_left _ _ hj]
  have hat' : Old.bt (P ++ (Old.pc t ++ R)) (P.size + (Old.pc t).size) = Old.bt R 0 := by
    rw [bt_right, ← Nat.add_zero (Old.pc t).size, bt_right]
  have hat0 := hat 0 (by omega)
  rw [Nat.add_zero] at hat0
  obtain ⟨kind, at_, x⟩ := t
  rcases h with ⟨h0, h1, h2, h3, h4⟩ | ⟨h0, h1⟩ | ⟨h0, h1, h2⟩
  · simp only at h0 h1 h2 h3 h4
    subst h0
    obtain ⟨hR1, hR2⟩ := hR rfl
    have e : Old.pc ⟨1, at_, x⟩ = x := if_neg (show ¬ (1 : Int) = 2 by decide)
    rw [e] at hp hsz hat hat' hat0 ⊢
    have hr := run_exact (p := wordP) x.size P.size (fun j hj => by rw [hat j hj]; exact h4 j hj) (by omega) (by rw [hat']; exact hR2)
    rw [stp_let_ok (by omega) (by rw [hat0]; exact h3) (by rw [hr]; omega), hr, mid]
  · simp only at h0 h1
    subst h0
    have e : Old.pc ⟨2, at_, x⟩ = Old.quo ++ x ++ Old.quo := if_pos rfl
    have e' : Old.pc ⟨2, at_, x⟩ = Old.quo ++ (x ++ Old.quo) := by rw [e, ByteArray.append_assoc]
    have es : (Old.pc ⟨2, at_, x⟩).size = x.size + 2 := by rw [e]; simp only [ByteArray.size_append, quo_size]; omega
    have q0 : Old.bt (Old.pc ⟨2, at_, x⟩) 0 = 34 := by rw [e', bt_left _ _ (by rw [quo_size]; omega)]; decide
    have q1 : ∀ j, j < x.size → Old.bt (Old.pc ⟨2, at_, x⟩) (j + 1) = Old.bt x j := fun j hj => by
      rw [e', show j + 1 = Old.quo.size + j by rw [quo_size]; omega, bt_right, bt_left _ _ hj]
    have q2 : Old.bt (Old.pc ⟨2, at_, x⟩) (x.size + 1) = 34 := by
      rw [e', show x.size + 1 = Old.quo.size + (x.size + 0) by rw [quo_size]; omega, bt_right, bt_right]; decide
    have hr := run_exact (p := quoteP) (s := P ++ (Old.pc ⟨2, at_, x⟩ ++ R)) x.size (P.size + 1) (fun j hj => by
      rw [Nat.add_assoc, Nat.add_comm 1 j, hat (j + 1) (by omega), q1 j hj]
      have := h1.2.2 j hj
      simp only [quoteP, decide_eq_true_eq]; omega) (by omega) (by
      rw [Nat.add_assoc, Nat.add_comm 1 x.size, hat (x.size + 1) (by omega), q2]; decide)
    have ht : (P ++ (Old.pc ⟨2, at_, x⟩ ++ R)).extract (P.size + 1) (P.size + 1 + x.size) = x := by
      have := mid (P ++ Old.quo) x (Old.quo ++ R)
      rw [ByteArray.size_append, quo_size] at this
      have e4 : P ++ (Old.pc ⟨2, at_, x⟩ ++ R) = (P ++ Old.quo) ++ (x ++ (Old.quo ++ R)) := by rw [e']; simp only [ByteArray.append_assoc]
      rw [e4]
      exact this
    rw [stp_quote_ok (by rw [hat0]; exact q0) ?_, hr, ht]
    · congr 1; omega
    · rw [hr, ht]
      rintro (h | h | h)
      · omega
      · rw [Nat.add_assoc, Nat.add_comm 1 x.size, hat (x.size + 1) (by omega), q2] at h; exact h rfl
      · rw [show Old.termB x = true from decide_eq_true h1] at h; cases h
  · simp only at h0 h1 h2
    subst h0
    have e : Old.pc ⟨3, at_, x⟩ = x := if_neg (show ¬ (3 : Int) = 2 by decide)
    rw [e] at hp hsz hat hat' hat0 ⊢
    have hm := mid P x R
    rw [h1] at hm
    rw [stp_sgn (by rw [hat0]; exact h2), hm, h1]
/-! ### Pieces -/
inductive Pce where
  | t (k : Int) (x : ByteArray)
  | b (c : UInt8)
def pcB : Pce → ByteArray
  | .t k x => Old.pc ⟨k, 0, x⟩
  | .b c => bs [c]
def pcsB : List Pce → ByteArray
  | [] => bs []
  | p :: r => pcB p ++ pcsB r
theorem pcsB_append : ∀ (a b : List Pce), pcsB (a ++ b) = pcsB a ++ pcsB b
  | [], b => by simp only [List.nil_append, pcsB, bs_nil]
  | p :: a, b => by simp only [List.cons_append, pcsB, pcsB_append a b, ByteArray.append_assoc]
def PGood : Pce → Prop
  | .t k x => GoodTk ⟨k, 0, x⟩
  | .b c => c = 32 ∨ c = 10
/-- What ends a name. -/
def noName : List Pce → Prop
  | .t k _ :: _ => k ≠ 1
  | .b _ :: _ => True
  | [] => False
def sepOk : List Pce → Prop
  | [] => True
  | .t k _ :: r => (k = 1 → noName r) ∧ sepOk r
  | .b _ :: r => sepOk r
def toksOf : List Pce → List (Int × ByteArray)
  | [] => []
  | .t k x :: r => (k, x) :: toksOf r
  | .b _ :: r => toksOf r
theorem toksOf_append : ∀ (a b : List Pce), toksOf (a ++ b) = toksOf a ++ toksOf b
  | [], b => rfl
  | .t k x :: a, b => by simp only [List.cons_append, toksOf, toksOf_append a b]
  | .b c :: a, b => by simp only [List.cons_append, toksOf, toksOf_append a b]
theorem noName_word {r : List Pce} (h : noName r) (hg : ∀ p ∈ r, PGood p) : 0 < (pcsB r).size ∧ wordP (Old.bt (pcsB r) 0) = false := by
  cases r with
  | nil => exact h.elim
  | cons p r =>
    have hp := hg p (by simp)
    cases p with
    | b c =>
      have e : pcsB (.b c :: r) = bs [c] ++ pcsB r := rfl
      rw [e, ByteArray.size_append, bs_size]
      refine ⟨by simp; omega, ?_⟩
      rw [bt_left _ _ (by rw [bs_size]; simp)]
      rcases hp with rfl | rfl <;> decide
    | t k x =>
      have e : pcsB (.t k x :: r) = Old.pc ⟨k, 0, x⟩ ++ pcsB r := rfl
      have hq := (show GoodTk ⟨k, 0, x⟩ from hp).pc
      rw [e, ByteArray.size_append]
      refine ⟨by omega, ?_⟩
      rw [bt_left _ _ (by omega)]
      rcases (show GoodTk ⟨k, 0, x⟩ from hp) with ⟨h0, _⟩ | ⟨h0, h1⟩ | ⟨h0, h1, h2⟩
      · exact absurd h0 h
      · simp only at h0
        subst h0
        have e' : Old.pc ⟨2, 0, x⟩ = Old.quo ++ (x ++ Old.quo) := by rw [← ByteArray.append_assoc]; exact if_pos rfl
        rw [e', bt_left _ _ (by rw [quo_size]; omega)]; decide
      · simp only at h0 h1 h2
        subst h0
        have e' : Old.pc ⟨3, 0, x⟩ = x := if_neg (show ¬ (3 : Int) = 2 by decide)
        rw [e']
        simp only [Old.isSgn, decide_eq_true_eq] at h2
        simp only [wordP, Old.isLet, Old.isDig, Bool.or_eq_false_iff, decide_eq_false_iff_not]
        omega
theorem scan_pcs : ∀ (r : List Pce) (P : ByteArray) (n : Nat) (acc : List Tk), sepOk r → (∀ p ∈ r, PGood p) → (toksOf r).length < n →
    ∃ r', scanG n (P ++ pcsB r) (skp (P ++ pcsB r) P.size false) acc = (acc ++ r', 0, 0) ∧ r'.map kt = toksOf r
  | [], P, n, acc, _, _, hn => by
    obtain ⟨m, rfl⟩ : ∃ m, n = m + 1 := ⟨n - 1, by omega⟩
    have e : P ++ pcsB [] = P := nil_bs P
    rw [e, skp_end (Nat.le_refl _), scanG_end (by omega)]
    exact ⟨[], by rw [List.append_nil], rfl⟩
  | .b c :: r, P, n, acc, hs, hg, hn => by
    have hc := hg (.b c) (by simp)
    have e : P ++ pcsB (.b c :: r) = (P ++ bs [c]) ++ pcsB r := by simp only [pcsB, pcB, ByteArray.append_assoc]
    have hsz : ((P ++ bs [c]) ++ pcsB r).size = P.size + (1 + (pcsB r).size) := by simp only [ByteArray.size_append, bs_size, List.length_singleton]; omega
    have hb : Old.bt ((P ++ bs [c]) ++ pcsB r) P.size = Old.bt (bs [c]) 0 := by
      rw [ByteArray.append_assoc]
      have := bt_right P (bs [c] ++ pcsB r) 0
      rw [Nat.add_zero] at this
      rw [this, bt_left _ _ (by rw [bs_size]; simp)]
    have hk : skp ((P ++ bs [c]) ++ pcsB r) P.size false = skp ((P ++ bs [c]) ++ pcsB r) (P ++ bs [c]).size false := by
      rw [ByteArray.size_append, bs_size, List.length_singleton]
      rcases hc with rfl | rfl
      · exact skp_on (by omega) (by rw [hb]; decide) (.inr (.inl (by rw [hb]; decide)))
      · exact skp_nl (by omega) (by rw [hb]; decide)
    rw [e, hk]
    exact scan_pcs r (P ++ bs [c]) n acc hs (fun p hp => hg p (by simp [hp])) hn
  | .t k x :: r, P, n, acc, hs, hg, hn => by
    simp only [toksOf, List.length_cons] at hn
    obtain ⟨m, rfl⟩ : ∃ m, n = m + 1 := ⟨n - 1, by omega⟩
    have ht : GoodTk ⟨k, 0, x⟩ := hg (.t k x) (by simp)
    have hgr : ∀ p ∈ r, PGood p := fun p hp => hg p (by simp [hp])
    have hp := ht.pc
    have e1 : P ++ pcsB (.t k x :: r) = P ++ (Old.pc ⟨k, 0, x⟩ ++ pcsB r) := rfl
    have e2 : P ++ pcsB (.t k x :: r) = (P ++ Old.pc ⟨k, 0, x⟩) ++ pcsB r := by rw [e1]; simp only [ByteArray.append_assoc]
    have hat : Old.bt (P ++ pcsB (.t k x :: r)) P.size = Old.bt (Old.pc ⟨k, 0, x⟩) 0 := by
      rw [e1]
      have := bt_right P (Old.pc ⟨k, 0, x⟩ ++ pcsB r) 0
      rw [Nat.add_zero] at this
      rw [this, bt_left _ _ (by omega)]
    have hlt : P.size < (P ++ pcsB (.t k x :: r)).size := by rw [e1]; simp only [ByteArray.size_append]; omega
    rw [skp_stop hlt (by rw [hat]; omega) (by rw [hat]; omega) (by rw [hat]; omega) (by rw [hat]; omega) (by rw [hat]; omega)]
    have hst := stp_any P (pcsB r) ht (fun h => noName_word (hs.1 h) hgr)
    rw [← e1] at hst
    rw [scanG_tok hlt hst]
    obtain ⟨r', h1, h2⟩ := scan_pcs r (P ++ Old.pc ⟨k, 0, x⟩) m (acc ++ [⟨k, P.size, x⟩]) hs.2 hgr (by omega)
    rw [← e2, ByteArray.size_append] at h1
    exact ⟨⟨k, P.size, x⟩ :: r', by rw [h1]; simp, by simp [h2, kt, toksOf]⟩
theorem toksOf_le : ∀ {r : List Pce}, (∀ p ∈ r, PGood p) → (toksOf r).length ≤ (pcsB r).size
  | [], _ => Nat.zero_le _
  | .b c :: r, h => by
    have := toksOf_le (r := r) (fun p hp => h p (by simp [hp]))
    simp only [toksOf, pcsB, ByteArray.size_append]; omega
  | .t k x :: r, h => by
    have ht : GoodTk ⟨k, 0, x⟩ := h (.t k x) (by simp)
    have := ht.pc
    have := toksOf_le (r := r) (fun p hp => h p (by simp [hp]))
    simp only [toksOf, pcsB, pcB, ByteArray.size_append, List.length_cons]; omega
theorem scanR_text {r : List Pce} (hs : sepOk r) (hg : ∀ p ∈ r, PGood p) (hz : (pcsB r).size ≤ 6000) : ∃ r', Old.scanR (pcsB r) = (r', 0, 0) ∧ r'.map kt = toksOf r := by
  unfold Old.scanR
  rw [if_neg (by omega)]
  obtain ⟨r', h1, h2⟩ := scan_pcs r (bs []) ((pcsB r).size + 1) [] hs hg (by have := toksOf_le hg; omega)
  rw [bs_nil] at h1
  have hz0 : (bs []).size = 0 := bs_size []
  rw [hz0] at h1
  exact ⟨r', by rw [h1]; simp, h2⟩
/-! ### The pieces of a text -/
def sg (c : UInt8) : Pce := .t 3 (bs [c])
def btwP (o : Int) : List Pce := if o = 4 then [.b 32, sg 124, .b 32] else [.b 32]
def bgnP (o : Int) : List Pce := if o = 5 then [sg 91] else if o = 6 then [sg 123] else if o = 7 then [sg 60] else []
def ndP (o : Int) : List Pce := if o = 5 then [sg 93] else if o = 6 then [sg 125] else if o = 7 then [sg 62] else []
def wrP (b : Bool) (l : List Pce) : List Pce := bif b then sg 40 :: (l ++ [sg 41]) else l
mutual
def pcE : Expr → List Pce
  | .mk o n l => if o = 1 then [.t 2 n] else if o = 2 then [.t 1 n] else bgnP o ++ (pcL o l ++ ndP o)
def pcL (o : Int) : List Expr → List Pce
  | [] => []
  | y :: l => wrP (brkO o y.op) (pcE y) ++ pcT o l
def pcT (o : Int) : List Expr → List Pce
  | [] => []
  | y :: l => btwP o ++ (wrP (brkO o y.op) (pcE y) ++ pcT o l)
end
theorem pc_1 (x : ByteArray) : pcB (.t 1 x) = x := by
  show Old.pc ⟨1, 0, x⟩ = x
  unfold Old.pc
  exact if_neg (show ¬ (1 : Int) = 2 by decide)
theorem pc_2 (x : ByteArray) : pcB (.t 2 x) = (bs [34] ++ x) ++ bs [34] := by
  show Old.pc ⟨2, 0, x⟩ = _
  unfold Old.pc
  exact if_pos rfl
theorem pc_3 (x : ByteArray) : pcB (.t 3 x) = x := by
  show Old.pc ⟨3, 0, x⟩ = x
  unfold Old.pc
  exact if_neg (show ¬ (3 : Int) = 2 by decide)
theorem sg_B (c : UInt8) : pcB (sg c) = bs [c] := pc_3 _
theorem one_B (p : Pce) : pcsB [p] = pcB p := nil_bs _
theorem cons_B (p : Pce) (r : List Pce) : pcsB (p :: r) = pcB p ++ pcsB r := rfl
theorem btw_B (o : Int) : pcsB (btwP o) = btw o := by
  unfold btwP btw
  split
  · rw [cons_B, cons_B, one_B, sg_B]
    show bs [32] ++ (bs [124] ++ bs [32]) = _
    decide
  · exact one_B _
theorem bgn_B (o : Int) : pcsB (bgnP o) = bgn o := by
  unfold bgnP bgn
  split
  · rw [one_B, sg_B]
  · split
    · rw [one_B, sg_B]
    · split
      · rw [one_B, sg_B]
      · rfl
theorem nd_B (o : Int) : pcsB (ndP o) = nd o := by
  unfold ndP nd
  split
  · rw [one_B, sg_B]
  · split
    · rw [one_B, sg_B]
    · split
      · rw [one_B, sg_B]
      · rfl
theorem wr_B (b : Bool) (l : List Pce) : pcsB (wrP b l) = wrB b (pcsB l) := by
  unfold wrP wrB
  cases b with
  | true => simp only [cond_true]; rw [cons_B, pcsB_append, one_B, sg_B, sg_B, ByteArray.append_assoc]
  | false => rfl
mutual
theorem pcE_B : ∀ (x : Expr), pcsB (pcE x) = txE x
  | .mk o n l => by
    rw [pcE, txE]
    split
    · rw [one_B, pc_2]
    · split
      · rw [one_B, pc_1]
      · rw [pcsB_append, pcsB_append, bgn_B, nd_B, pcL_B o l, ByteArray.append_assoc]
theorem pcL_B (o : Int) : ∀ (l : List Expr), pcsB (pcL o l) = joinB (btw o) (its o l)
  | [] => rfl
  | y :: l => by rw [pcL, its, joinB, pcsB_append, wr_B, pcE_B y, pcT_B o l]
theorem pcT_B (o : Int) : ∀ (l : List Expr), pcsB (pcT o l) = tailB (btw o) (its o l)
  | [] => rfl
  | y :: l => by rw [pcT, its, tailB, pcsB_append, pcsB_append, wr_B, pcE_B y, pcT_B o l, btw_B, ByteArray.append_assoc]
end
theorem good_sg {c : UInt8} (h : Old.isSgn (c.toNat : Int) = true) : PGood (sg c) := by
  refine .inr (.inr ⟨rfl, bs_size _, ?_⟩)
  show Old.isSgn (Old.bt (bs [c]) 0) = true
  rw [Old.bt_eq _ _ (by rw [bs_size]; simp)]
  exact h
theorem good_name {n : ByteArray} (h : Old.nameB n = true) : PGood (.t 1 n) := by
  have h1 : Old.NameP n := of_decide_eq_true h
  exact .inl ⟨rfl, h1.1, h1.2.1, h1.2.2.1, fun i hi => h1.2.2.2 i hi⟩
theorem good_term {n : ByteArray} (h : Old.termB n = true) : PGood (.t 2 n) := .inr (.inl ⟨rfl, of_decide_eq_true h⟩)
mutual
theorem pcE_good : ∀ (x : Expr), xF x = 0 → ∀ p ∈ pcE x, PGood p
  | .mk o n l, h => by
    obtain ⟨h1, h2, h3⟩ := xF_zero h
    simp only [Expr.op, Expr.name, Expr.l] at h1 h2 h3
    intro p hp
    rw [pcE] at hp
    split at hp
    · rename_i e
      subst e
      rw [List.mem_singleton] at hp; subst hp
      exact good_term (by unfold fNm at h2; rw [if_neg (by decide), if_pos rfl] at h2; exact h2)
    · split at hp
      · rename_i e
        subst e
        rw [List.mem_singleton] at hp; subst hp
        exact good_name (by unfold fNm at h2; rw [if_pos rfl] at h2; exact h2)
      · rcases List.mem_append.1 hp with hp | hp
        · unfold bgnP at hp
          split at hp
          · rw [List.mem_singleton] at hp; subst hp; exact good_sg (by decide)
          · split at hp
            · rw [List.mem_singleton] at hp; subst hp; exact good_sg (by decide)
            · split at hp
              · rw [List.mem_singleton] at hp; subst hp; exact good_sg (by decide)
              · cases hp
        · rcases List.mem_append.1 hp with hp | hp
          · exact pcL_good o l h3 p hp
          · unfold ndP at hp
            split at hp
            · rw [List.mem_singleton] at hp; subst hp; exact good_sg (by decide)
            · split at hp
              · rw [List.mem_singleton] at hp; subst hp; exact good_sg (by decide)
              · split at hp
                · rw [List.mem_singleton] at hp; subst hp; exact good_sg (by decide)
                · cases hp
theorem pcL_good (o : Int) : ∀ (l : List Expr), (∀ y ∈ l, xF y = 0) → ∀ p ∈ pcL o l, PGood p
  | [], _, p, hp => by rw [pcL] at hp; cases hp
  | y :: l, h, p, hp => by
    rw [pcL] at hp
    rcases List.mem_append.1 hp with hp | hp
    · exact wr_good (pcE_good y (h y (by simp))) p hp
    · exact pcT_good o l (fun z hz => h z (by simp [hz])) p hp
theorem pcT_good (o : Int) : ∀ (l : List Expr), (∀ y ∈ l, xF y = 0) → ∀ p ∈ pcT o l, PGood p
  | [], _, p, hp => by rw [pcT] at hp; cases hp
  | y :: l, h, p, hp => by
    rw [pcT] at hp
    rcases List.mem_append.1 hp with hp | hp
    · unfold btwP at hp
      split at hp
      · simp only [List.mem_cons, List.not_mem_nil, or_false] at hp
        rcases hp with rfl | rfl | rfl
        · exact .inl rfl
        · exact good_sg (by decide)
        · exact .inl rfl
      · rw [List.mem_singleton] at hp; subst hp; exact .inl rfl
    · rcases List.mem_append.1 hp with hp | hp
      · exact wr_good (pcE_good y (h y (by simp))) p hp
      · exact pcT_good o l (fun z hz => h z (by simp [hz])) p hp
theorem wr_good {b : Bool} {l : List Pce} (h : ∀ p ∈ l, PGood p) : ∀ p ∈ wrP b l, PGood p := by
  intro p hp
  unfold wrP at hp
  cases b with
  | true =>
    simp only [cond_true, List.mem_cons, List.mem_append, List.not_mem_nil, or_false] at hp
    rcases hp with rfl | hp | rfl
    · exact good_sg (by decide)
    · exact h p hp
    · exact good_sg (by decide)
  | false => exact h p hp
end
end Go.Proofs.Ytkfeccbahpmadaa
namespace Go.Proofs.Ytkfeccbahpmadaa
open Go.RowKit
open Old (kt)

/-! ### The pieces' order -/
theorem sep_wr {b : Bool} {l r : List Pce} (h : ∀ r, sepOk r → noName r → sepOk (l ++ r)) (hr : sepOk r) (hn : noName r) : sepOk (wrP b l ++ r) := by
  unfold wrP
  cases b with
  | true =>
    simp only [cond_true, List.cons_append, List.append_assoc]
    refine ⟨fun h => absurd h (by decide), h _ ⟨fun h => absurd h (by decide), hr⟩ (show (3 : Int) ≠ 1 by decide)⟩
  | false => exact h r hr hn
mutual
theorem sep_E : ∀ (x : Expr) (r : List Pce), sepOk r → noName r → sepOk (pcE x ++ r)
  | .mk o n l, r, hr, hn => by
    rw [pcE]
    split
    · exact ⟨fun h => absurd h (by decide), hr⟩
    · split
      · exact ⟨fun _ => hn, hr⟩
      · have hnd : sepOk (ndP o ++ r) ∧ noName (ndP o ++ r) := by
          unfold ndP
          split
          · exact ⟨⟨fun h => absurd h (by decide), hr⟩, (show (3 : Int) ≠ 1 by decide)⟩
          · split
            · exact ⟨⟨fun h => absurd h (by decide), hr⟩, (show (3 : Int) ≠ 1 by decide)⟩
            · split
              · exact ⟨⟨fun h => absurd h (by decide), hr⟩, (show (3 : Int) ≠ 1 by decide)⟩
              · exact ⟨hr, hn⟩
        have hl := sep_L o l (ndP o ++ r) hnd.1 hnd.2
        rw [List.append_assoc, List.append_assoc]
        unfold bgnP
        split
        · exact ⟨fun h => absurd h (by decide), hl⟩
        · split
          · exact ⟨fun h => absurd h (by decide), hl⟩
          · split
            · exact ⟨fun h => absurd h (by decide), hl⟩
            · exact hl
theorem sep_L (o : Int) : ∀ (l : List Expr) (r : List Pce), sepOk r → noName r → sepOk (pcL o l ++ r)
  | [], r, hr, _ => hr
  | y :: l, r, hr, hn => by
    obtain ⟨h1, h2⟩ := sep_T o l r hr hn
    rw [pcL, List.append_assoc]
    exact sep_wr (fun r hr hn => sep_E y r hr hn) h1 h2
theorem sep_T (o : Int) : ∀ (l : List Expr) (r : List Pce), sepOk r → noName r → sepOk (pcT o l ++ r) ∧ noName (pcT o l ++ r)
  | [], r, hr, hn => ⟨hr, hn⟩
  | y :: l, r, hr, hn => by
    obtain ⟨h1, h2⟩ := sep_T o l r hr hn
    rw [pcT, List.append_assoc, List.append_assoc]
    have h3 := sep_wr (b := brkO o y.op) (fun r hr hn => sep_E y r hr hn) h1 h2
    unfold btwP
    split
    · exact ⟨⟨fun h => absurd h (by decide), h3⟩, trivial⟩
    · exact ⟨h3, trivial⟩
end
/-! ### Tokens -/
def sT (c : UInt8) : Int × ByteArray := (3, sgn c)
def sepT (o : Int) : List (Int × ByteArray) := if o = 4 then [sT 124] else []
def bgnT (o : Int) : List (Int × ByteArray) := if o = 5 then [sT 91] else if o = 6 then [sT 123] else if o = 7 then [sT 60] else []
def ndT (o : Int) : List (Int × ByteArray) := if o = 5 then [sT 93] else if o = 6 then [sT 125] else if o = 7 then [sT 62] else []
def wrT (b : Bool) (l : List (Int × ByteArray)) : List (Int × ByteArray) := bif b then sT 40 :: (l ++ [sT 41]) else l
mutual
def tkE : Expr → List (Int × ByteArray)
  | .mk o n l => if o = 1 then [(2, n)] else if o = 2 then [(1, n)] else bgnT o ++ (tkL o l ++ ndT o)
def tkL (o : Int) : List Expr → List (Int × ByteArray)
  | [] => []
  | y :: l => wrT (brkO o y.op) (tkE y) ++ tkT o l
def tkT (o : Int) : List Expr → List (Int × ByteArray)
  | [] => []
  | y :: l => sepT o ++ (wrT (brkO o y.op) (tkE y) ++ tkT o l)
end
theorem tkE_eq (x : Expr) : tkE x = if x.op = 1 then [(2, x.name)] else if x.op = 2 then [(1, x.name)] else bgnT x.op ++ (tkL x.op x.l ++ ndT x.op) := by cases x; rw [tkE]; rfl
theorem tk_wr (b : Bool) (l : List Pce) : toksOf (wrP b l) = wrT b (toksOf l) := by
  unfold wrP wrT
  cases b with
  | true => simp only [cond_true, sg, toksOf, toksOf_append]; rfl
  | false => rfl
theorem tk_btw (o : Int) : toksOf (btwP o) = sepT o := by unfold btwP sepT; split <;> rfl
theorem tk_bgn (o : Int) : toksOf (bgnP o) = bgnT o := by unfold bgnP bgnT; split; rfl; split; rfl; split <;> rfl
theorem tk_nd (o : Int) : toksOf (ndP o) = ndT o := by unfold ndP ndT; split; rfl; split; rfl; split <;> rfl
mutual
theorem tk_E : ∀ (x : Expr), toksOf (pcE x) = tkE x
  | .mk o n l => by
    rw [pcE, tkE]
    split
    · rfl
    · split
      · rfl
      · rw [toksOf_append, toksOf_append, tk_bgn, tk_nd, tk_L o l]
theorem tk_L (o : Int) : ∀ (l : List Expr), toksOf (pcL o l) = tkL o l
  | [] => rfl
  | y :: l => by rw [pcL, tkL, toksOf_append, tk_wr, tk_E y, tk_T o l]
theorem tk_T (o : Int) : ∀ (l : List Expr), toksOf (pcT o l) = tkT o l
  | [] => rfl
  | y :: l => by rw [pcT, tkT, toksOf_append, toksOf_append, tk_btw, tk_wr, tk_E y, tk_T o l]
end
/-! ### Where an expression ends -/
def ClT (t : Tk) : Prop := t.kind = 3 ∧ (t.text = sgn 41 ∨ t.text = sgn 93 ∨ t.text = sgn 125 ∨ t.text = sgn 62 ∨ t.text = sgn 59)
def BrT (t : Tk) : Prop := t.kind = 3 ∧ t.text = sgn 124
def Stop1 (T : List Tk) : Prop := ∃ t r, T = t :: r ∧ (ClT t ∨ BrT t)
def Stop2 (T : List Tk) : Prop := ∃ t r, T = t :: r ∧ ClT t
theorem Stop2.one {T : List Tk} (h : Stop2 T) : Stop1 T := by obtain ⟨t, r, e, h⟩ := h; exact ⟨t, r, e, .inl h⟩
theorem sign_cons' (t : Tk) (r : List Tk) (o p : Int) (x : ByteArray) : PS.sign ⟨t :: r, o, p⟩ x = (decide (t.kind = 3) && decide (t.text = x)) := rfl
theorem stop_item {fin : Int} {n : Nat} {T : List Tk} {o p : Int} (h : Stop1 T) : pItem fin (n + 1) ⟨T, o, p⟩ = .ok (none, ⟨T, o, p⟩) := by
  obtain ⟨t, r, rfl, h⟩ := h
  have h3 : t.kind = 3 := by rcases h with h | h <;> exact h.1
  have hx : t.text = sgn 41 ∨ t.text = sgn 93 ∨ t.text = sgn 125 ∨ t.text = sgn 62 ∨ t.text = sgn 59 ∨ t.text = sgn 124 := by
    rcases h with ⟨_, h⟩ | ⟨_, h⟩
    · rcases h with h | h | h | h | h <;> simp [h]
    · simp [h]
  have key : ∀ c, (c = 40 ∨ c = 91 ∨ c = 123 ∨ c = 60) → PS.sign ⟨t :: r, o, p⟩ (sgn c) = false := fun c hc => by
    rw [sign_cons', Bool.and_eq_false_iff]
    refine .inr (decide_eq_false fun e => ?_)
    rw [e] at hx
    rcases hc with rfl | rfl | rfl | rfl <;> revert hx <;> decide
  have hb : PS.bracket ⟨t :: r, o, p⟩ = none := by
    unfold PS.bracket
    rw [key 40 (by simp), key 91 (by simp), key 123 (by simp), key 60 (by simp)]
    rfl
  rw [pItem]
  dsimp only
  rw [if_neg (by omega), hb]
theorem stop_bar {T : List Tk} {o p : Int} (h : Stop2 T) : PS.sign ⟨T, o, p⟩ (sgn 124) = false := by
  obtain ⟨t, r, rfl, h3, hx⟩ := h
  rw [sign_cons', Bool.and_eq_false_iff]
  refine .inr (decide_eq_false fun e => ?_)
  rw [e] at hx
  revert hx; decide
theorem part_ok' {fin : Int} {T : List Tk} {o p : Int} (h : p < 60) : PS.part fin ⟨T, o, p⟩ = .ok ⟨T, o, p + 1⟩ := by
  unfold PS.part
  rw [if_neg (by show ¬ p = 60; omega)]
theorem map_split {T : List Tk} {a b : List (Int × ByteArray)} (h : T.map kt = a ++ b) : ∃ A B, T = A ++ B ∧ A.map kt = a ∧ B.map kt = b := by
  obtain ⟨A, B, h1, h2, h3⟩ := List.map_eq_append_iff.1 h
  exact ⟨A, B, h1, h2, h3⟩
theorem map_one {T : List Tk} {k : Int} {x : ByteArray} (h : T.map kt = [(k, x)]) : ∃ t, T = [t] ∧ t.kind = k ∧ t.text = x := by
  match T, h with
  | [t], h =>
    simp only [List.map_cons, List.map_nil, kt, List.cons.injEq, Prod.mk.injEq, and_true] at h
    exact ⟨t, rfl, h.1, h.2⟩
theorem map_cons' {T : List Tk} {k : Int} {x : ByteArray} {a : List (Int × ByteArray)} (h : T.map kt = (k, x) :: a) : ∃ t R, T = t :: R ∧ t.kind = k ∧ t.text = x ∧ R.map kt = a := by
  match T, h with
  | t :: R, h =>
    simp only [List.map_cons, kt, List.cons.injEq, Prod.mk.injEq] at h
    exact ⟨t, R, rfl, h.1.1, h.1.2, h.2⟩
/-! ### Reading -/
/-- An expression in its own place is read as it was. -/
def RA (x : Expr) : Prop := ∀ (fin : Int) (n : Nat) (T1 T2 : List Tk) (o p : Int), T1.map kt = tkE x → Stop2 T2 → p + prt x ≤ 60 → o + opn x ≤ 40 → 5 * T1.length + 4 ≤ n → pAlt fin n ⟨T1 ++ T2, o, p⟩ = .ok (x, ⟨T2, o, p + prt x⟩)
/-- An item. -/
def RI (ks : List (Int × ByteArray)) (x : Expr) (c d : Nat) : Prop := ∀ (fin : Int) (n : Nat) (T1 T2 : List Tk) (o p : Int), T1.map kt = ks → p + c ≤ 60 → o + d ≤ 40 → 5 * T1.length ≤ n + 4 → pItem fin n ⟨T1 ++ T2, o, p⟩ = .ok (some x, ⟨T2, o, p + c⟩)
theorem group_ok {y : Expr} {b e : UInt8} {op : Int} (hA : RA y) (hb : ∀ (t : Tk) (r : List Tk) (o p : Int), t.kind = 3 → t.text = sgn b → PS.bracket ⟨t :: r, o, p⟩ = some (op, sgn e)) (he : e = 41 ∨ e = 93 ∨ e = 125 ∨ e = 62) :
    RI (sT b :: (tkE y ++ [sT e])) (wrapE op y) (1 + prt y) (1 + opn y) := by
  intro fin n T1 T2 o p h1 h2 h3 h4
  obtain ⟨t, R, rfl, k1, k2, k3⟩ := map_cons' h1
  obtain ⟨Ti, Te, rfl, k4, k5⟩ := map_split k3
  obtain ⟨te, rfl, k6, k7⟩ := map_one k5
  simp only [List.length_cons, List.length_append, List.length_nil] at h4
  obtain ⟨m, rfl⟩ : ∃ m, n = m + 2 := ⟨n - 2, by omega⟩
  have hst : Stop2 (te :: T2) := ⟨te, T2, rfl, k6, by rcases he with rfl | rfl | rfl | rfl <;> simp [k7]⟩
  have hr := hA fin m Ti (te :: T2) (o + 1) (p + 1) k4 hst (by omega) (by omega) (by omega)
  have e1 : t :: (Ti ++ [te]) ++ T2 = t :: (Ti ++ te :: T2) := by simp
  rw [e1, pItem]
  dsimp only
  rw [if_neg (by omega), hb t (Ti ++ te :: T2) o p k1 k2]
  dsimp only
  rw [pGroup, if_neg (by show ¬ o = 40; omega), part_ok' (by omega)]
  dsimp only [PS.next]
  rw [List.tail_cons, hr]
  dsimp only
  have hw : PS.want fin ⟨te :: T2, o + 1, p + 1 + prt y⟩ (sgn e) = .ok ⟨T2, o + 1, p + 1 + prt y⟩ := by
    unfold PS.want
    rw [sign_cons', decide_eq_true k6, decide_eq_true k7]
    rfl
  rw [hw]
  dsimp only
  rw [show o + 1 - 1 = o by omega, show p + 1 + (prt y : Int) = p + ((1 + prt y : Nat) : Int) by omega]
theorem br_40 (t : Tk) (r : List Tk) (o p : Int) (h1 : t.kind = 3) (h2 : t.text = sgn 40) : PS.bracket ⟨t :: r, o, p⟩ = some (0, sgn 41) := by
  unfold PS.bracket; simp only [sign_cons', h1, h2]; decide
theorem br_91 (t : Tk) (r : List Tk) (o p : Int) (h1 : t.kind = 3) (h2 : t.text = sgn 91) : PS.bracket ⟨t :: r, o, p⟩ = some (5, sgn 93) := by
  unfold PS.bracket; simp only [sign_cons', h1, h2]; decide
theorem br_123 (t : Tk) (r : List Tk) (o p : Int) (h1 : t.kind = 3) (h2 : t.text = sgn 123) : PS.bracket ⟨t :: r, o, p⟩ = some (6, sgn 125) := by
  unfold PS.bracket; simp only [sign_cons', h1, h2]; decide
theorem br_60 (t : Tk) (r : List Tk) (o p : Int) (h1 : t.kind = 3) (h2 : t.text = sgn 60) : PS.bracket ⟨t :: r, o, p⟩ = some (7, sgn 62) := by
  unfold PS.bracket; simp only [sign_cons', h1, h2]; decide
theorem round_ok {y : Expr} (hA : RA y) : RI (wrT true (tkE y)) y (1 + prt y) (1 + opn y) := group_ok (op := 0) hA br_40 (.inl rfl)
theorem eta_E (x : Expr) : x = .mk x.op x.name x.l := by cases x; rfl
theorem item_ok {x : Expr} (hx : xF x = 0) (h3 : x.op ≠ 3) (h4 : x.op ≠ 4) (hA : ∀ y ∈ x.l, RA y) : RI (tkE x) x (prt x) (opn x) := by
  obtain ⟨f1, f2, f3⟩ := xF_zero hx
  have hleaf : ∀ k, (k = 1 ∨ k = 2) → x.op = (if k = 2 then 1 else 2) → x.l = [] → tkE x = [(k, x.name)] → RI (tkE x) x (prt x) (opn x) := fun k hk ho hl ht => by
    rw [ht]
    intro fin n T1 T2 o p h1 h2 h3 h5
    obtain ⟨t, rfl, k1, k2⟩ := map_one h1
    simp only [List.length_cons, List.length_nil] at h5
    obtain ⟨m, rfl⟩ : ∃ m, n = m + 1 := ⟨n - 1, by omega⟩
    have hp : prt x = 1 := by
      rw [prt_eq, hl, prts]
      unfold ownP
      rw [if_neg (by rw [ho]; split <;> decide), if_neg (by rw [ho]; split <;> decide)]
    rw [hp] at h2 ⊢
    show pItem fin (m + 1) ⟨t :: T2, o, p⟩ = _
    rw [pItem]
    dsimp only
    rw [if_pos (by omega), part_ok' (by omega)]
    dsimp only [PS.next]
    rw [List.tail_cons, k2]
    have e : Expr.mk (if t.kind = 2 then 1 else 2) x.name [] = x := by rw [k1, ← ho, ← hl]; exact (eta_E x).symm
    rw [e]; rfl
  by_cases h1 : x.op = 1
  · refine hleaf 2 (.inr rfl) h1 ?_ (by rw [tkE_eq, if_pos h1])
    unfold fOk at f1
    rw [if_pos (.inl h1)] at f1
    exact List.length_eq_zero_iff.1 (of_decide_eq_true f1)
  by_cases h2 : x.op = 2
  · refine hleaf 1 (.inl rfl) h2 ?_ (by rw [tkE_eq, if_neg h1, if_pos h2])
    unfold fOk at f1
    rw [if_pos (.inr h2)] at f1
    exact List.length_eq_zero_iff.1 (of_decide_eq_true f1)
  have h5 : 5 ≤ x.op ∧ x.op ≤ 7 ∧ x.l.length = 1 ∧ x.name = ⟨#[]⟩ := by
    unfold fOk at f1
    rw [if_neg (by omega), if_neg h3, if_neg h4] at f1
    split at f1
    · rename_i h
      rw [Bool.and_eq_true] at f1
      exact ⟨h.1, h.2, of_decide_eq_true f1.1, of_decide_eq_true f1.2⟩
    · cases f1
  obtain ⟨h5, h7, hl, hn⟩ := h5
  match hxl : x.l, hl with
  | [y], _ =>
    have hAy := hA y (by rw [hxl]; simp)
    have hpx : prt x = 1 + prt y := by
      rw [prt_eq, hxl, prts, prts, brkO_3 h3 h4]
      unfold ownP
      rw [if_neg h3, if_neg h4]; simp [b1]
    have hox : opn x = 1 + opn y := by
      rw [opn_eq, hxl, opns, opns, opB_1 h5]; simp [b1]; omega
    have htx : tkE x = bgnT x.op ++ (tkE y ++ ndT x.op) := by
      rw [tkE_eq, if_neg h1, if_neg h2, hxl, tkL, tkT, brkO_3 h3 h4]
      simp [wrT]
    have hwr : wrapE x.op y = x := by
      unfold wrapE
      rw [if_neg (by omega), ← hn, ← hxl]; exact (eta_E x).symm
    rw [hpx, hox, htx]
    by_cases e5 : x.op = 5
    · have := group_ok (op := 5) hAy br_91 (.inr (.inl rfl))
      rw [show bgnT x.op = [sT 91] by unfold bgnT; rw [if_pos e5], show ndT x.op = [sT 93] by unfold ndT; rw [if_pos e5], ← hwr, e5]
      exact this
    · by_cases e6 : x.op = 6
      · have := group_ok (op := 6) hAy br_123 (.inr (.inr (.inl rfl)))
        rw [show bgnT x.op = [sT 123] by unfold bgnT; rw [if_neg e5, if_pos e6], show ndT x.op = [sT 125] by unfold ndT; rw [if_neg e5, if_pos e6], ← hwr, e6]
        exact this
      · have e7 : x.op = 7 := by omega
        have := group_ok (op := 7) hAy br_60 (.inr (.inr (.inr rfl)))
        rw [show bgnT x.op = [sT 60] by unfold bgnT; rw [if_neg e5, if_neg e6, if_pos e7], show ndT x.op = [sT 62] by unfold ndT; rw [if_neg e5, if_neg e6, if_pos e7], ← hwr, e7]
        exact this
end Go.Proofs.Ytkfeccbahpmadaa
namespace Go.Proofs.Ytkfeccbahpmadaa
open Go.RowKit
open Old (kt)

theorem wr_ne {b : Bool} {x : Expr} (hx : xF x = 0) (hb : b = true ∨ (x.op ≠ 3 ∧ x.op ≠ 4)) : 1 ≤ (wrT b (tkE x)).length := by
  cases b with
  | true => simp [wrT]
  | false =>
    rcases hb with hb | ⟨h3, h4⟩
    · cases hb
    show 1 ≤ (tkE x).length
    obtain ⟨f1, _, _⟩ := xF_zero hx
    rw [tkE_eq]
    split
    · simp
    · rename_i h1
      split
      · simp
      · rename_i h2
        unfold fOk at f1
        rw [if_neg (by omega), if_neg h3, if_neg h4] at f1
        split at f1
        · rename_i h
          have : 1 ≤ (bgnT x.op).length := by
            unfold bgnT
            by_cases e5 : x.op = 5
            · rw [if_pos e5]; simp
            · by_cases e6 : x.op = 6
              · rw [if_neg e5, if_pos e6]; simp
              · rw [if_neg e5, if_neg e6, if_pos (by omega)]; simp
          rw [List.length_append]; omega
        · cases f1
/-- A kid where it stands. -/
theorem kid_ok {o : Int} {x : Expr} (hx : xF x = 0) (hA : RA x) (hK : ∀ y ∈ x.l, RA y) (hb : brkO o x.op = true ∨ (x.op ≠ 3 ∧ x.op ≠ 4)) : RI (wrT (brkO o x.op) (tkE x)) x (prt x + b1 (brkO o x.op)) (opn x + b1 (brkO o x.op)) := by
  cases h : brkO o x.op with
  | true =>
    have := round_ok hA
    rw [show prt x + b1 true = 1 + prt x by simp [b1]; omega, show opn x + b1 true = 1 + opn x by simp [b1]; omega]
    exact this
  | false =>
    rw [h] at hb
    rcases hb with hb | ⟨h3, h4⟩
    · cases hb
    have := item_ok hx h3 h4 hK
    rw [show prt x + b1 false = prt x by simp [b1], show opn x + b1 false = opn x by simp [b1]]
    exact this
theorem brk3 (x : Expr) : brkO 3 x.op = true ∨ (x.op ≠ 3 ∧ x.op ≠ 4) := by
  rw [brkO_1]
  by_cases h3 : x.op = 3
  · exact .inl (by simp [h3])
  · by_cases h4 : x.op = 4
    · exact .inl (by simp [h4])
    · exact .inr ⟨h3, h4⟩
theorem opB_3 (p : Int) : opB 3 p = brkO 3 p := opB_2 (by decide)
theorem opB_4 (p : Int) : opB 4 p = brkO 4 p := opB_2 (by decide)
theorem tkL3 : ∀ (l : List Expr), tkL 3 l = tkT 3 l
  | [] => rfl
  | y :: l => by rw [tkL, tkT]; rfl
/-- The items of a row. -/
theorem items_ok : ∀ (l : List Expr), (∀ y ∈ l, xF y = 0 ∧ RA y ∧ ∀ z ∈ y.l, RA z) → ∀ (fin : Int) (n : Nat) (T1 T2 : List Tk) (acc : List Expr) (o p : Int), T1.map kt = tkL 3 l → Stop1 T2 → p + prts 3 l ≤ 60 → o + opns 3 l ≤ 40 → 5 * T1.length + 2 ≤ n →
    pItems fin n ⟨T1 ++ T2, o, p⟩ acc = .ok (acc ++ l, ⟨T2, o, p + prts 3 l⟩)
  | [], _, fin, n, T1, T2, acc, o, p, h1, hs, _, _, h4 => by
    obtain ⟨m, rfl⟩ : ∃ m, n = m + 2 := ⟨n - 2, by omega⟩
    have e : T1 = [] := List.map_eq_nil_iff.1 h1
    subst e
    rw [pItems, List.nil_append, stop_item hs]
    dsimp only
    rw [List.append_nil, prts]; simp
  | y :: l, hl, fin, n, T1, T2, acc, o, p, h1, hs, h2, h3, h4 => by
    obtain ⟨hx, hA, hK⟩ := hl y (by simp)
    rw [tkL, ← tkL3] at h1
    obtain ⟨A, B, rfl, k1, k2⟩ := map_split h1
    have hlen : 1 ≤ A.length := by
      have := congrArg List.length k1
      rw [List.length_map] at this
      rw [this]; exact wr_ne hx (brk3 y)
    rw [List.length_append] at h4
    obtain ⟨m, rfl⟩ : ∃ m, n = m + 1 := ⟨n - 1, by omega⟩
    rw [prts] at h2 ⊢
    rw [opns, opB_3] at h3
    have hi := kid_ok (o := 3) hx hA hK (brk3 y) fin m A (B ++ T2) o p k1 (by omega) (by omega) (by omega)
    have hr := items_ok l (fun z hz => hl z (by simp [hz])) fin m B T2 (acc ++ [y]) o (p + ((prt y + b1 (brkO 3 y.op) : Nat) : Int)) k2 hs (by omega) (by omega) (by omega)
    rw [List.append_assoc, pItems, hi]
    dsimp only
    rw [hr, List.append_assoc]
    congr 3
    omega
theorem one_row {x : Expr} (hx : xF x = 0) (h3 : x.op = 3) : one 3 x.l = x := by
  obtain ⟨f1, _, _⟩ := xF_zero hx
  unfold fOk at f1
  rw [if_neg (by omega), if_pos h3, Bool.and_eq_true] at f1
  have hl : x.l.length ≠ 1 := of_decide_eq_true f1.1
  have hn : x.name = ⟨#[]⟩ := of_decide_eq_true f1.2
  have key : one 3 x.l = .mk 3 ⟨#[]⟩ x.l := by
    match h : x.l, hl with
    | [], _ => rfl
    | _ :: _ :: _, _ => rfl
  rw [key]
  conv => rhs; rw [eta_E x, h3, hn]
/-- A row, where it stands in alternatives (or alone). -/
theorem row_ok {x : Expr} (hx : xF x = 0) (hA : brkO 4 x.op = true → RA x) (hK : ∀ y ∈ x.l, RA y) (hKK : ∀ y ∈ x.l, ∀ z ∈ y.l, RA z) (fin : Int) (n : Nat) (T1 T2 : List Tk) (o p : Int) (h1 : T1.map kt = wrT (brkO 4 x.op) (tkE x)) (hs : Stop1 T2) (h2 : p + (prt x + b1 (brkO 4 x.op) : Nat) ≤ 60) (h3 : o + (opn x + b1 (brkO 4 x.op) : Nat) ≤ 40) (h4 : 5 * T1.length + 3 ≤ n) :
    pRow fin n ⟨T1 ++ T2, o, p⟩ = .ok (x, ⟨T2, o, p + (prt x + b1 (brkO 4 x.op) : Nat)⟩) := by
  obtain ⟨m, rfl⟩ : ∃ m, n = m + 3 := ⟨n - 3, by omega⟩
  have hx3 := (xF_zero hx).2.2
  by_cases e3 : x.op = 3
  · have hb : brkO 4 x.op = false := by rw [brkO_2, decide_eq_false (by omega)]
    rw [hb] at h1 h2 h3 ⊢
    have ht : tkE x = tkL 3 x.l := by
      rw [tkE_eq, if_neg (by omega), if_neg (by omega), e3]
      simp [bgnT, ndT]
    have hp : prt x = prts 3 x.l := by rw [prt_eq, e3]; simp [ownP]
    have ho : opn x = opns 3 x.l := by rw [opn_eq, e3]
    have hi := items_ok x.l (fun y hy => ⟨hx3 y hy, hK y hy, hKK y hy⟩) fin (m + 2) T1 T2 [] o p (h1.trans ht) hs (by rw [← hp]; simp [b1] at h2; exact h2) (by rw [← ho]; simp [b1] at h3; exact h3) (by omega)
    rw [pRow, hi]
    dsimp only
    rw [List.nil_append, one_row hx e3, hp]
    simp [b1]
  · have hi := fun hA' => kid_ok (o := 4) hx hA' hK
    have hb : brkO 4 x.op = true ∨ (x.op ≠ 3 ∧ x.op ≠ 4) := by
      rw [brkO_2]
      by_cases e4 : x.op = 4
      · exact .inl (decide_eq_true e4)
      · exact .inr ⟨e3, e4⟩
    have hit : RI (wrT (brkO 4 x.op) (tkE x)) x (prt x + b1 (brkO 4 x.op)) (opn x + b1 (brkO 4 x.op)) := by
      rcases hb with hb' | hb'
      · exact kid_ok hx (hA hb') hK (.inl hb')
      · have e4 : brkO 4 x.op = false := by rw [brkO_2]; exact decide_eq_false hb'.2
        have := item_ok hx hb'.1 hb'.2 hK
        rw [e4, show prt x + b1 false = prt x by simp [b1], show opn x + b1 false = opn x by simp [b1]]
        exact this
    have hlen : 1 ≤ T1.length := by
      have := congrArg List.length h1
      rw [List.length_map] at this
      rw [this]; exact wr_ne hx hb
    have h5 := hit fin (m + 1) T1 T2 o p h1 h2 h3 (by omega)
    obtain ⟨k, rfl⟩ : ∃ k, m = k + 1 := ⟨m - 1, by omega⟩
    rw [pRow, pItems, h5]
    dsimp only
    rw [pItems, stop_item hs]
    rfl
/-- Alternatives behind the first one. -/
theorem alts_ok : ∀ (l : List Expr), (∀ y ∈ l, xF y = 0 ∧ (brkO 4 y.op = true → RA y) ∧ (∀ z ∈ y.l, RA z) ∧ ∀ z ∈ y.l, ∀ u ∈ z.l, RA u) → ∀ (fin : Int) (n : Nat) (T1 T2 : List Tk) (acc : List Expr) (o p : Int), T1.map kt = tkT 4 l → Stop2 T2 → p + (l.length + prts 4 l : Nat) ≤ 60 → o + opns 4 l ≤ 40 → 5 * T1.length + 3 ≤ n →
    pAlts fin n ⟨T1 ++ T2, o, p⟩ acc = .ok (acc ++ l, ⟨T2, o, p + (l.length + prts 4 l : Nat)⟩)
  | [], _, fin, n, T1, T2, acc, o, p, h1, hs, _, _, h4 => by
    obtain ⟨m, rfl⟩ : ∃ m, n = m + 1 := ⟨n - 1, by omega⟩
    have e : T1 = [] := List.map_eq_nil_iff.1 h1
    subst e
    rw [pAlts, List.nil_append, stop_bar hs, if_neg (by decide), List.append_nil, prts]
    simp
  | y :: l, hl, fin, n, T1, T2, acc, o, p, h1, hs, h2, h3, h4 => by
    obtain ⟨hx, hA, hK, hKK⟩ := hl y (by simp)
    have e1 : tkT 4 (y :: l) = sT 124 :: (wrT (brkO 4 y.op) (tkE y) ++ tkT 4 l) := by rw [tkT]; rfl
    rw [e1] at h1
    obtain ⟨t, R, rfl, k1, k2, k3⟩ := map_cons' h1
    obtain ⟨A, B, rfl, k4, k5⟩ := map_split k3
    simp only [List.length_cons, List.length_append] at h4
    obtain ⟨m, rfl⟩ : ∃ m, n = m + 1 := ⟨n - 1, by omega⟩
    rw [prts, List.length_cons] at h2 ⊢
    rw [opns, opB_4] at h3
    have hst : Stop1 (B ++ T2) := by
      cases l with
      | nil =>
        have : B = [] := List.map_eq_nil_iff.1 k5
        subst this; exact hs.one
      | cons z l =>
        have e2 : tkT 4 (z :: l) = sT 124 :: (wrT (brkO 4 z.op) (tkE z) ++ tkT 4 l) := by rw [tkT]; rfl
        rw [e2] at k5
        obtain ⟨u, R, rfl, q1, q2, _⟩ := map_cons' k5
        exact ⟨u, R ++ T2, rfl, .inr ⟨q1, q2⟩⟩
    have hr := row_ok hx hA hK hKK fin m A (B ++ T2) o (p + 1) k4 hst (by omega) (by omega) (by omega)
    have hq := alts_ok l (fun z hz => hl z (by simp [hz])) fin m B T2 (acc ++ [y]) o (p + 1 + (prt y + b1 (brkO 4 y.op) : Nat)) k5 hs (by omega) (by omega) (by omega)
    have e3 : t :: (A ++ B) ++ T2 = t :: (A ++ (B ++ T2)) := by simp
    rw [e3, pAlts, sign_cons', decide_eq_true k1, decide_eq_true k2, if_pos (show (true && true) = true from rfl), part_ok' (by omega)]
    dsimp only [PS.next]
    rw [List.tail_cons, hr]
    dsimp only
    rw [hq, List.append_assoc]
    congr 3
    omega
theorem RA_all : ∀ (N : Nat) (x : Expr), esz x < N → xF x = 0 → RA x
  | 0, x, h, _ => by omega
  | N + 1, x, h, hx => by
    have ih := RA_all N
    have hxe := esz_eq x
    obtain ⟨f1, f2, f3⟩ := xF_zero hx
    have hK : ∀ y ∈ x.l, RA y := fun y hy => ih y (by have := eszs_mem hy; omega) (f3 y hy)
    have hKK : ∀ y ∈ x.l, ∀ z ∈ y.l, RA z := fun y hy z hz => ih z (by have := eszs_mem hy; have := eszs_mem hz; have := esz_eq y; omega) ((xF_zero (f3 y hy)).2.2 z hz)
    have hKKK : ∀ y ∈ x.l, ∀ z ∈ y.l, ∀ u ∈ z.l, RA u := fun y hy z hz u hu => ih u (by have := eszs_mem hy; have := eszs_mem hz; have := eszs_mem hu; have := esz_eq y; have := esz_eq z; omega) ((xF_zero ((xF_zero (f3 y hy)).2.2 z hz)).2.2 u hu)
    intro fin n T1 T2 o p h1 hs h2 h3 h4
    obtain ⟨m, rfl⟩ : ∃ m, n = m + 1 := ⟨n - 1, by omega⟩
    by_cases e4 : x.op = 4
    · unfold fOk at f1
      rw [if_neg (by omega), if_neg (by omega), if_pos e4, Bool.and_eq_true] at f1
      have hl : 2 ≤ x.l.length := of_decide_eq_true f1.1
      have hn : x.name = ⟨#[]⟩ := of_decide_eq_true f1.2
      have ht : tkE x = tkL 4 x.l := by
        rw [tkE_eq, if_neg (by omega), if_neg (by omega), e4]
        simp [bgnT, ndT]
      have hp : prt x = x.l.length - 1 + prts 4 x.l := by rw [prt_eq, e4]; simp [ownP]
      have ho : opn x = opns 4 x.l := by rw [opn_eq, e4]
      have hxx : x = .mk 4 ⟨#[]⟩ x.l := by conv => lhs; rw [eta_E x, e4, hn]
      match hxl : x.l, hl with
      | y :: z :: l, _ =>
        rw [hxl] at ht hp ho f3 hK hKK hKKK hxx
        rw [ht, tkL] at h1
        obtain ⟨A, B, rfl, k1, k2⟩ := map_split h1
        rw [List.length_append] at h4
        rw [prts, List.length_cons] at hp
        rw [opns, opB_4] at ho
        have hst : Stop1 (B ++ T2) := by
          have e2 : tkT 4 (z :: l) = sT 124 :: (wrT (brkO 4 z.op) (tkE z) ++ tkT 4 l) := by rw [tkT]; rfl
          rw [e2] at k2
          obtain ⟨u, R, rfl, q1, q2, _⟩ := map_cons' k2
          exact ⟨u, R ++ T2, rfl, .inr ⟨q1, q2⟩⟩
        have hr := row_ok (f3 y (by simp)) (fun _ => hK y (by simp)) (hKK y (by simp)) (hKKK y (by simp)) fin m A (B ++ T2) o p k1 hst (by omega) (by omega) (by omega)
        have hq := alts_ok (z :: l) (fun w hw => ⟨f3 w (by simp [hw]), fun _ => hK w (by simp [hw]), hKK w (by simp [hw]), hKKK w (by simp [hw])⟩) fin m B T2 [y] o (p + (prt y + b1 (brkO 4 y.op) : Nat)) k2 hs (by simp only [List.length_cons] at hp ⊢; omega) (by omega) (by omega)
        rw [List.append_assoc, pAlt, hr]
        dsimp only
        rw [hq]
        dsimp only
        have e5 : one 4 ([y] ++ z :: l) = x := by rw [hxx]; rfl
        rw [e5]
        congr 3
        simp only [List.length_cons] at hp ⊢
        omega
    · have hb : brkO 4 x.op = false := by rw [brkO_2]; exact decide_eq_false e4
      have hr := row_ok hx (fun h => by rw [hb] at h; cases h) hK hKK fin m T1 T2 o p (by rw [hb]; exact h1) hs.one (by rw [hb]; simp [b1]; omega) (by rw [hb]; simp [b1]; omega) (by omega)
      obtain ⟨k, rfl⟩ : ∃ k, m = k + 1 := ⟨m - 1, by omega⟩
      rw [pAlt, hr]
      dsimp only
      rw [pAlts, stop_bar hs, if_neg (by decide)]
      dsimp only
      rw [hb]
      simp [one, b1]
end Go.Proofs.Ytkfeccbahpmadaa
