/-
  Tokens: the reference's Scan is scanR.
-/
import Derived.Test.YtgcagjamjdnglaaTok5
set_option linter.unusedVariables false
set_option linter.unusedSimpArgs false
set_option linter.unusedSectionVars false
namespace Go.Proofs.Ytgcagjamjdnglaa.Old
open Go.RowKit

theorem sgn_not {c : Int} (h : isSgn c = true) : isLet c = false ∧ c ≠ 34 := by
  simp only [isSgn, isLet, decide_eq_true_eq, decide_eq_false_iff_not] at *
  omega
theorem let_not {c : Int} (h : isLet c = true) : isSgn c = false ∧ c ≠ 34 := by
  simp only [isSgn, isLet, decide_eq_true_eq, decide_eq_false_iff_not] at *
  omega
theorem stp_sgn {s : ByteArray} {k : Nat} (h : isSgn (bt s k) = true) : stp s k = .tok ⟨3, k, s.extract k (k + 1)⟩ (k + 1) := by
  unfold stp
  rw [if_neg (by simp [(sgn_not h).1]), if_neg (sgn_not h).2, if_pos h]
theorem stp_quote_bad {s : ByteArray} {k : Nat} (h : bt s k = 34) (hb : run quoteP s (k + 1) = s.size ∨ bt s (run quoteP s (k + 1)) ≠ 34 ∨ termB (s.extract (k + 1) (run quoteP s (k + 1))) = false) : stp s k = .bad 1 := by
  unfold stp; rw [if_neg (by simp [quote_not_let h]), if_pos h, if_pos hb]
theorem stp_quote_ok {s : ByteArray} {k : Nat} (h : bt s k = 34) (hb : ¬ (run quoteP s (k + 1) = s.size ∨ bt s (run quoteP s (k + 1)) ≠ 34 ∨ termB (s.extract (k + 1) (run quoteP s (k + 1))) = false)) :
    stp s k = .tok ⟨2, k, s.extract (k + 1) (run quoteP s (k + 1))⟩ (run quoteP s (k + 1) + 1) := by
  unfold stp; rw [if_neg (by simp [quote_not_let h]), if_pos h, if_neg hb]
theorem stp_none {s : ByteArray} {k : Nat} (h1 : isLet (bt s k) = false) (h2 : bt s k ≠ 34) (h3 : isSgn (bt s k) = false) : stp s k = .bad 1 := by
  unfold stp; rw [if_neg (by simp [h1]), if_neg h2, if_neg (by simp [h3])]
theorem bt_extract (s : ByteArray) (a b i : Nat) (h : a + i < b) (hb : b ≤ s.size) : bt (s.extract a b) i = bt s (a + i) := by
  have h1 : i < (s.extract a b).size := by rw [ByteArray.size_extract]; omega
  rw [bt_eq _ _ h1, bt_eq _ _ (by omega)]
  rw [ByteArray.getElem_extract]
theorem name_word {s : ByteArray} {k : Nat} (hk : k < s.size) (h : isLet (bt s k) = true) : nameB (s.extract k (run wordP s k)) = decide (run wordP s k - k ≤ 12) := by
  have h1 : run wordP s k = run wordP s (k + 1) := run_yes hk (by simp [wordP, h])
  have h2 := run_ge wordP s (k + 1)
  have h3 := run_le wordP s k (by omega)
  have hsz : (s.extract k (run wordP s k)).size = run wordP s k - k := by rw [ByteArray.size_extract]; omega
  by_cases h12 : run wordP s k - k ≤ 12
  · rw [decide_eq_true h12]
    refine (nameB_all (by omega) (by omega) ?_ fun j hj => ?_).symm
    · rw [bt_extract _ _ _ _ (by omega) h3]; exact h
    · rw [bt_extract _ _ _ _ (by omega) h3]
      exact run_in wordP s k (k + j) (by omega) (by omega)
  · rw [decide_eq_false h12]
    exact (nameB_short (Or.inr (by omega))).symm
theorem stp_let_ok {s : ByteArray} {k : Nat} (hk : k < s.size) (h : isLet (bt s k) = true) (hr : run wordP s k - k ≤ 12) : stp s k = .tok ⟨1, k, s.extract k (run wordP s k)⟩ (run wordP s k) := by
  unfold stp; rw [if_pos h, if_pos (by rw [name_word hk h]; exact decide_eq_true hr)]
theorem stp_let_bad {s : ByteArray} {k : Nat} (hk : k < s.size) (h : isLet (bt s k) = true) (hr : ¬ run wordP s k - k ≤ 12) : stp s k = .bad 2 := by
  unfold stp; rw [if_pos h, if_neg (by rw [name_word hk h]; simpa using hr)]

set_option maxRecDepth 100000 in
set_option maxHeartbeats 4000000 in
theorem scanRef_any (s : ByteArray) (w : World) (hs : s.size ≤ maxLen) : Calls Try.prog 117 #[.string s] w (ScanPost w s) := by
  by_cases hbig : 6000 < s.size
  · have Hr : Hid (scanR s = ([], 6, 6000)) := Lib.hid (by unfold scanR; rw [if_pos hbig])
    unfold maxLen at hs
    go_enter Try.func117, Try.ntmps117
    go_wp2_with (go_at_call 93; refine (f_any _ _ _).mono ?_; rintro e w1 ⟨rfl, hE1⟩; have hFF := hE1.frozen (p := ⟨w.heap.size, 0, none⟩) (by simp) (by simp); have hF0 : FltB w1 w.heap.size 0 0 := Blk.ext (Blk.new w _ _) hE1 (by simp); obtain ⟨f0, f1, ff⟩ := hF0.cells)
    refine bodyPost_ret (v := .tuple #[.slice none 0 0, .agg #[.int .i64 6, .int .i64 6000]]) (by simp [results, Try.results117, go_sem, f0, f1, ff]) rfl ?_
    refine ⟨_, by rw [Hr.out], by rw [Hr.out]; exact Own.nil _ _ _ _ _ _, ?_⟩
    exact (((((Ext.refl [] w).alloc _).trans hE1 (by simp))).setCell (Or.inl (Nat.le_refl _)) _).setCell (Or.inl (Nat.le_refl _)) _
  · have hR : scanR s = scanG (s.size + 1) s (skp s 0 false) [] := by unfold scanR; rw [if_neg hbig]
    have HR := Lib.hid hR
    have hs6 : s.size ≤ 6000 := by omega
    have Hs := Lib.hid hs
    unfold maxLen at hs
    clear hR hbig
    go_enter Try.func117, Try.ntmps117
    go_wp2_with (go_at_call 178; refine (skipped_any s 0 _ Hs.out (Nat.zero_le _)).mono ?_; rintro e w1 ⟨rfl, rfl⟩)
    go_loopw [4, 5] (fun v iv wr => ∃ (k : Nat) (acc : List Tk) (n : Nat), iv = .int .i64 k ∧ k ≤ s.size ∧ FltB wr w.heap.size 0 0 ∧ Own (w.heap.size + 1) [w.heap.size] wr 160 3 v (acc.map Tk.d) ∧ Ext [] w wr ∧
        acc.length ≤ k ∧ s.size < n + k ∧ scanG n s k acc = scanR s ∧ w.heap.size + 1 ≤ wr.heap.size) (fun _ iv _ => s.size - (intOf iv).toNat)
    case atStart => exact ⟨skp s 0 false, [], s.size + 1, rfl, skp_le s 0 false (Nat.zero_le _), Blk.new _ _ _, Own.nil _ _ _ _ _ _, (Ext.refl _ _).alloc _, Nat.zero_le _, by omega, HR.out.symm, by simp⟩
    case round =>
      obtain ⟨k, acc, n, rfl, hk, hF, hO, hE, hacc, hn, hG, hsz⟩ := hrel
      obtain ⟨f0, f1, ff⟩ := hF.cells
      have HF := Lib.hid hF
      have HO := Lib.hid hO
      have HE := Lib.hid hE
      have HG := Lib.hid hG
      have HM : Hid (∀ x ∈ [w.heap.size], x < wr.heap.size) := Lib.hid (by intro x hx; obtain rfl := List.mem_singleton.1 hx; omega)
      have HFo : Hid (w.heap.size ∉ ob u4) := Lib.hid (fun hx => by have := (hO.block _ hx).1; omega)
      have HEx : Hid (∀ x ∈ ob u4, x < w.heap.size → x ∈ ([] : List Nat)) := Lib.hid (fun x hx hl => by have := (hO.block _ hx).1; omega)
      -- a round that made a token
      have Hnext : Hid (∀ (t : Tk) (j : Nat) (v' : Value) (w' : World), stp s k = .tok t j → k < s.size → Own (w.heap.size + 1) [w.heap.size] w' 160 3 v' ((acc ++ [t]).map Tk.d) → Ext (ob u4) wr w' →
          ∃ (k' : Nat) (acc' : List Tk) (n' : Nat), Value.int .i64 (skp s j false) = .int .i64 k' ∧ k' ≤ s.size ∧ FltB w' w.heap.size 0 0 ∧ Own (w.heap.size + 1) [w.heap.size] w' 160 3 v' (acc'.map Tk.d) ∧ Ext [] w w' ∧
            acc'.length ≤ k' ∧ s.size < n' + k' ∧ scanG n' s k' acc' = scanR s ∧ w.heap.size + 1 ≤ w'.heap.size) := Lib.hid (by
        intro t j v' w' hst hlt hO' hE'
        obtain ⟨hj1, hj2⟩ := stp_gt hlt hst
        obtain ⟨m, rfl⟩ : ∃ m, n = m + 1 := ⟨n - 1, by omega⟩
        have hge := skp_ge s j false
        exact ⟨skp s j false, acc ++ [t], m, rfl, skp_le s j false hj2, Blk.ext HF.out hE' HFo.out, hO', HE.out.trans hE' HEx.out, by simp; omega, by omega, (scanG_tok hlt hst).symm.trans HG.out, Nat.le_trans hsz hE'.size⟩)
      have Hmeas : Hid (∀ (t : Tk) (j : Nat), stp s k = .tok t j → k < s.size → s.size - (intOf (.int .i64 (skp s j false))).toNat < s.size - (intOf (.int .i64 (k : Int))).toNat) := Lib.hid (by
        intro t j hst hlt
        obtain ⟨hj1, hj2⟩ := stp_gt hlt hst
        have hge := skp_ge s j false
        have hle := skp_le s j false hj2
        simp [intOf]
        omega)
      -- a round that ends with a fault
      have Hbad : Hid (∀ (c : Int) (w' : World), stp s k = .bad c → k < s.size → Ext [] wr w' →
          ScanPost w s (.returned (.tuple #[.slice none 0 0, .agg #[.int .i64 c, .int .i64 k]])) ((w'.setCell ⟨w.heap.size, 0, none⟩ (.int .i64 c)).setCell ⟨w.heap.size, 1, none⟩ (.int .i64 k))) := Lib.hid (by
        intro c w' hst hlt hE'
        obtain ⟨m, rfl⟩ : ∃ m, n = m + 1 := ⟨n - 1, by omega⟩
        have hG2 := (scanG_bad hlt hst).symm.trans HG.out
        refine ⟨_, by rw [← hG2], by rw [← hG2]; exact Own.nil _ _ _ _ _ _, ?_⟩
        exact ((HE.out.trans hE' (by simp)).setCell (Or.inl (Nat.le_refl _)) _).setCell (Or.inl (Nat.le_refl _)) _)
      clear hF hO hE hG
      by_cases hlt : k < s.size
      · have hbe := bt_eq s k hlt
        have Hx := Lib.hid (fun a b => extract_le s a b Hs.out)
        have hr := bt_range s k
        cases hsg : isSgn (s[k].toNat : Int) with
        | true =>
          have Hst := Lib.hid (stp_sgn (s := s) (k := k) (by rw [hbe]; exact hsg))
          clear hbe hr
          go_wp2_with (first | (go_at_call 179; refine (isSign_any _ _).mono ?_; rintro e w' ⟨rfl, rfl⟩) | (at_builtin; refine wpList_app_tok rfl _ _ rfl (w.heap.size + 1) [w.heap.size] u4 acc ⟨3, k, s.extract k (k + 1)⟩ _ rfl rfl (Ext.new _ _) (Blk.new _ _ _) (Nat.le_refl _) HO.out HM.out (by omega) (by omega) ?_))
          intro a2 n2 c2 w2 hO2 hE2
          have HO2 := Lib.hid hO2
          have HE2 := Lib.hid hE2
          clear hO2 hE2 f0 f1 ff
          go_wp2_with (go_at_call 178; refine (skipped_any s (k + 1) _ Hs.out (by omega)).mono ?_; rintro e w1 ⟨rfl, rfl⟩)
          go_roundw
          case rel => exact Hnext.out _ _ _ _ Hst.out hlt (by simpa using HO2.out) HE2.out
          case measure => exact Hmeas.out _ _ Hst.out hlt
        | false =>
          cases hlt' : isLet (s[k].toNat : Int) with
          | true =>
            have h34' : ((s[k].toNat : Int) == 34) = false := by rw [beq_eq_false_iff_ne]; exact (let_not hlt').2
            have Hlet := Lib.hid (show isLet (bt s k) = true by rw [hbe]; exact hlt')
            clear hbe hr
            go_wp2_with (first | (go_at_call 179; refine (isSign_any _ _).mono ?_; rintro e w' ⟨rfl, rfl⟩) | (go_at_call 181; refine (isLetter_any _ _).mono ?_; rintro e w' ⟨rfl, rfl⟩))
            go_loop [5] (fun v => ∃ j : Nat, v = .int .i64 j ∧ k ≤ j ∧ j ≤ s.size ∧ run wordP s j = run wordP s k) (fun v => s.size - (intOf v).toNat)
            case atStart => exact ⟨k, rfl, Nat.le_refl _, hk, rfl⟩
            case round =>
              obtain ⟨j, rfl, hkj, hj, hR⟩ := hrel
              have HR := Lib.hid hR
              clear hR
              -- behind the loop
              have Hout : Hid (run wordP s k = j → (j - k ≤ 12 → stp s k = .tok ⟨1, k, s.extract k j⟩ j) ∧ (¬ j - k ≤ 12 → stp s k = .bad 2)) := Lib.hid (by
                intro hj
                subst hj
                exact ⟨fun h => stp_let_ok hlt Hlet.out h, fun h => stp_let_bad hlt Hlet.out h⟩)
              by_cases hjl : j < s.size
              · have hbj := bt_eq s j hjl
                have hjd : decide ((j : Int) < s.size) = true := decide_eq_true (by omega)
                have hgo : wordP (bt s j) = true → run wordP s (j + 1) = run wordP s k := fun h => (run_yes hjl h).symm.trans HR.out
                have hstop : wordP (bt s j) = false → run wordP s k = j := fun h => HR.out.symm.trans (run_no hjl h)
                rw [hbj] at hgo hstop
                have Hgo := Lib.hid hgo
                have Hstop := Lib.hid hstop
                clear hbj hgo hstop
                cases h1 : isLet (s[j].toNat : Int) with
                | true =>
                  go_wp2_with (go_at_call 181; refine (isLetter_any _ _).mono ?_; rintro e w' ⟨rfl, rfl⟩)
                  go_round
                  case rel => exact ⟨j + 1, by go_num, by omega, by omega, Hgo.out (by simp [wordP, h1])⟩
                  case measure => simp [intOf]; omega
                | false =>
                  cases h2 : isDig (s[j].toNat : Int) with
                  | true =>
                    go_wp2_with (first | (go_at_call 181; refine (isLetter_any _ _).mono ?_; rintro e w' ⟨rfl, rfl⟩) | (go_at_call 182; refine (isDigit_any _ _).mono ?_; rintro e w' ⟨rfl, rfl⟩))
                    go_round
                    case rel => exact ⟨j + 1, by go_num, by omega, by omega, Hgo.out (by simp [wordP, h1, h2])⟩
                    case measure => simp [intOf]; omega
                  | false =>
                    have Ho := Lib.hid (Hout.out (Hstop.out (by simp [wordP, h1, h2])))
                    by_cases h12 : j - k ≤ 12
                    · have Hst := Lib.hid (Ho.out.1 h12)
                      have h12' : ¬ (12 : Int) < (j : Int) - k := by omega
                      go_wp2_with (first | (go_at_call 181; refine (isLetter_any _ _).mono ?_; rintro e w' ⟨rfl, rfl⟩) | (go_at_call 182; refine (isDigit_any _ _).mono ?_; rintro e w' ⟨rfl, rfl⟩) | (at_builtin; refine wpList_app_tok rfl _ _ rfl (w.heap.size + 1) [w.heap.size] u4 acc ⟨1, k, s.extract k j⟩ _ rfl rfl (Ext.new _ _) (Blk.new _ _ _) (Nat.le_refl _) HO.out HM.out (by omega) (by omega) ?_))
                      intro a2 n2 c2 w2 hO2 hE2
                      have HO2 := Lib.hid hO2
                      have HE2 := Lib.hid hE2
                      clear hO2 hE2 f0 f1 ff
                      go_wp2_with (go_at_call 178; refine (skipped_any s j _ Hs.out (by omega)).mono ?_; rintro e w1 ⟨rfl, rfl⟩)
                      go_roundw
                      case rel => exact Hnext.out _ _ _ _ Hst.out hlt (by simpa using HO2.out) HE2.out
                      case measure => exact Hmeas.out _ _ Hst.out hlt
                    · have Hst := Lib.hid (Ho.out.2 h12)
                      have h12' : (12 : Int) < (j : Int) - k := by omega
                      go_wp2_with (first | (go_at_call 181; refine (isLetter_any _ _).mono ?_; rintro e w' ⟨rfl, rfl⟩) | (go_at_call 182; refine (isDigit_any _ _).mono ?_; rintro e w' ⟨rfl, rfl⟩) | (go_at_call 93; refine (f_any _ _ _).mono ?_; rintro e w1 ⟨rfl, hE1⟩; obtain ⟨p0, p1, pf⟩ := FltB.cells (Blk.ext HF.out hE1 (by simp))))
                      refine bodyPost_ret (v := .tuple #[.slice none 0 0, .agg #[.int .i64 2, .int .i64 k]]) (by simp [results, Try.results117, go_sem, p0, p1]) rfl (Hbad.out 2 _ Hst.out hlt hE1)
              · obtain rfl : j = s.size := by omega
                have hjd : decide ((s.size : Int) < s.size) = false := decide_eq_false (by omega)
                have Ho := Lib.hid (Hout.out (HR.out.symm.trans (run_end (Nat.le_refl _))))
                clear hjl
                by_cases h12 : s.size - k ≤ 12
                · have Hst := Lib.hid (Ho.out.1 h12)
                  have h12' : ¬ (12 : Int) < (s.size : Int) - k := by omega
                  go_wp2_with (at_builtin; refine wpList_app_tok rfl _ _ rfl (w.heap.size + 1) [w.heap.size] u4 acc ⟨1, k, s.extract k s.size⟩ _ rfl rfl (Ext.new _ _) (Blk.new _ _ _) (Nat.le_refl _) HO.out HM.out (by omega) (by omega) ?_)
                  intro a2 n2 c2 w2 hO2 hE2
                  have HO2 := Lib.hid hO2
                  have HE2 := Lib.hid hE2
                  clear hO2 hE2 f0 f1 ff
                  go_wp2_with (go_at_call 178; refine (skipped_any s s.size _ Hs.out (by omega)).mono ?_; rintro e w1 ⟨rfl, rfl⟩)
                  go_roundw
                  case rel => exact Hnext.out _ _ _ _ Hst.out hlt (by simpa using HO2.out) HE2.out
                  case measure => exact Hmeas.out _ _ Hst.out hlt
                · have Hst := Lib.hid (Ho.out.2 h12)
                  have h12' : (12 : Int) < (s.size : Int) - k := by omega
                  go_wp2_with (go_at_call 93; refine (f_any _ _ _).mono ?_; rintro e w1 ⟨rfl, hE1⟩; obtain ⟨p0, p1, pf⟩ := FltB.cells (Blk.ext HF.out hE1 (by simp)))
                  refine bodyPost_ret (v := .tuple #[.slice none 0 0, .agg #[.int .i64 2, .int .i64 k]]) (by simp [results, Try.results117, go_sem, p0, p1]) rfl (Hbad.out 2 _ Hst.out hlt hE1)
          | false =>
            by_cases h34 : (s[k].toNat : Int) = 34
            · have h34' : ((s[k].toNat : Int) == 34) = true := by rw [beq_iff_eq]; exact h34
              have Hq := Lib.hid (show bt s k = 34 by rw [hbe]; exact h34)
              clear hbe hr h34
              go_wp2_with (first | (go_at_call 179; refine (isSign_any _ _).mono ?_; rintro e w' ⟨rfl, rfl⟩) | (go_at_call 181; refine (isLetter_any _ _).mono ?_; rintro e w' ⟨rfl, rfl⟩))
              go_loop [5] (fun v => ∃ j : Nat, v = .int .i64 j ∧ k + 1 ≤ j ∧ j ≤ s.size ∧ run quoteP s j = run quoteP s (k + 1)) (fun v => s.size - (intOf v).toNat)
              case atStart => exact ⟨k + 1, by go_num, Nat.le_refl _, by omega, rfl⟩
              case round =>
                obtain ⟨j, rfl, hkj, hj, hR⟩ := hrel
                have HR := Lib.hid hR
                clear hR
                have Hout : Hid (run quoteP s (k + 1) = j → ((j = s.size ∨ bt s j ≠ 34 ∨ termB (s.extract (k + 1) j) = false) → stp s k = .bad 1) ∧ (¬ (j = s.size ∨ bt s j ≠ 34 ∨ termB (s.extract (k + 1) j) = false) → stp s k = .tok ⟨2, k, s.extract (k + 1) j⟩ (j + 1))) := Lib.hid (by
                  intro hj
                  subst hj
                  exact ⟨fun h => stp_quote_bad Hq.out h, fun h => stp_quote_ok Hq.out h⟩)
                by_cases hjl : j < s.size
                · have hbj := bt_eq s j hjl
                  have hjd : decide ((j : Int) < s.size) = true := decide_eq_true (by omega)
                  have hjn : ((j : Int) == s.size) = false := by rw [beq_eq_false_iff_ne]; omega
                  have hgo : quoteP (bt s j) = true → run quoteP s (j + 1) = run quoteP s (k + 1) := fun h => (run_yes hjl h).symm.trans HR.out
                  have hstop : quoteP (bt s j) = false → run quoteP s (k + 1) = j := fun h => HR.out.symm.trans (run_no hjl h)
                  rw [hbj] at hgo hstop
                  have Hgo := Lib.hid hgo
                  have Hstop := Lib.hid hstop
                  have Hbj := Lib.hid hbj
                  clear hbj hgo hstop
                  by_cases h1 : (s[j].toNat : Int) = 34
                  · have h1' : ((s[j].toNat : Int) != 34) = false := by simpa using h1
                    have h1'' : ((s[j].toNat : Int) == 10) = false := by rw [h1]; rfl
                    have Ho := Lib.hid (Hout.out (Hstop.out (by rw [h1]; rfl)))
                    have H1 := Lib.hid (Hbj.out.trans h1)
                    clear h1
                    cases hT : termB (s.extract (k + 1) j) with
                    | true =>
                      have Hst := Lib.hid (Ho.out.2 (by rintro (h | h | h); · omega
                                                        · exact h H1.out
                                                        · rw [hT] at h; cases h))
                      go_wp2_with (first | (go_at_call 180; refine (isTerm_any _ _ (Hx.out _ _)).mono ?_; rintro e w' ⟨rfl, rfl⟩) | (at_builtin; refine wpList_app_tok rfl _ _ rfl (w.heap.size + 1) [w.heap.size] u4 acc ⟨2, k, s.extract (k + 1) j⟩ _ rfl rfl (Ext.new _ _) (Blk.new _ _ _) (Nat.le_refl _) HO.out HM.out (by omega) (by omega) ?_))
                      intro a2 n2 c2 w2 hO2 hE2
                      have HO2 := Lib.hid hO2
                      have HE2 := Lib.hid hE2
                      clear hO2 hE2 f0 f1 ff
                      go_wp2_with (go_at_call 178; refine (skipped_any s (j + 1) _ Hs.out (by omega)).mono ?_; rintro e w1 ⟨rfl, rfl⟩)
                      go_roundw
                      case rel => exact Hnext.out _ _ _ _ Hst.out hlt (by simpa using HO2.out) HE2.out
                      case measure => exact Hmeas.out _ _ Hst.out hlt
                    | false =>
                      have Hst := Lib.hid (Ho.out.1 (Or.inr (Or.inr hT)))
                      go_wp2_with (first | (go_at_call 180; refine (isTerm_any _ _ (Hx.out _ _)).mono ?_; rintro e w' ⟨rfl, rfl⟩) | (go_at_call 93; refine (f_any _ _ _).mono ?_; rintro e w1 ⟨rfl, hE1⟩; obtain ⟨p0, p1, pf⟩ := FltB.cells (Blk.ext HF.out hE1 (by simp))))
                      refine bodyPost_ret (v := .tuple #[.slice none 0 0, .agg #[.int .i64 1, .int .i64 k]]) (by simp [results, Try.results117, go_sem, p0, p1]) rfl (Hbad.out 1 _ Hst.out hlt hE1)
                  · have h1' : ((s[j].toNat : Int) != 34) = true := by simpa using h1
                    have H1 := Lib.hid (fun h => h1 (Hbj.out.symm.trans h))
                    by_cases h2 : (s[j].toNat : Int) = 10
                    · have h2' : ((s[j].toNat : Int) != 10) = false := by simpa using h2
                      have h2'' : ((s[j].toNat : Int) == 10) = true := by simpa using h2
                      have Hst := Lib.hid ((Hout.out (Hstop.out (by rw [h2]; rfl))).1 (Or.inr (Or.inl H1.out)))
                      clear h1 h2
                      go_wp2_with (first | (go_at_call 180; refine (isTerm_any _ _ (Hx.out _ _)).mono ?_; rintro e w' ⟨rfl, rfl⟩) | (go_at_call 93; refine (f_any _ _ _).mono ?_; rintro e w1 ⟨rfl, hE1⟩; obtain ⟨p0, p1, pf⟩ := FltB.cells (Blk.ext HF.out hE1 (by simp))))
                      refine bodyPost_ret (v := .tuple #[.slice none 0 0, .agg #[.int .i64 1, .int .i64 k]]) (by simp [results, Try.results117, go_sem, p0, p1]) rfl (Hbad.out 1 _ Hst.out hlt hE1)
                    · have h2' : ((s[j].toNat : Int) != 10) = true := by simpa using h2
                      have Hr := Lib.hid (Hgo.out (by simp [quoteP]; omega))
                      clear h1 h2
                      go_wp2_with fail
                      go_round
                      case rel => exact ⟨j + 1, by go_num, by omega, by omega, Hr.out⟩
                      case measure => simp [intOf]; omega
                · obtain rfl : j = s.size := by omega
                  have hjd : decide ((s.size : Int) < s.size) = false := decide_eq_false (by omega)
                  have hjn : ((s.size : Int) == s.size) = true := by simp
                  have Hst := Lib.hid ((Hout.out (HR.out.symm.trans (run_end (Nat.le_refl _)))).1 (Or.inl rfl))
                  clear hjl
                  go_wp2_with (first | (go_at_call 180; refine (isTerm_any _ _ (Hx.out _ _)).mono ?_; rintro e w' ⟨rfl, rfl⟩) | (go_at_call 93; refine (f_any _ _ _).mono ?_; rintro e w1 ⟨rfl, hE1⟩; obtain ⟨p0, p1, pf⟩ := FltB.cells (Blk.ext HF.out hE1 (by simp))))
                  refine bodyPost_ret (v := .tuple #[.slice none 0 0, .agg #[.int .i64 1, .int .i64 k]]) (by simp [results, Try.results117, go_sem, p0, p1]) rfl (Hbad.out 1 _ Hst.out hlt hE1)
            · have Hst := Lib.hid (stp_none (s := s) (k := k) (by rw [hbe]; exact hlt') (by rw [hbe]; exact h34) (by rw [hbe]; exact hsg))
              have h34' : ((s[k].toNat : Int) == 34) = false := by rw [beq_eq_false_iff_ne]; exact h34
              clear hbe hr h34
              go_wp2_with (first | (go_at_call 179; refine (isSign_any _ _).mono ?_; rintro e w' ⟨rfl, rfl⟩) | (go_at_call 181; refine (isLetter_any _ _).mono ?_; rintro e w' ⟨rfl, rfl⟩) | (go_at_call 93; refine (f_any _ _ _).mono ?_; rintro e w1 ⟨rfl, hE1⟩; obtain ⟨p0, p1, pf⟩ := FltB.cells (Blk.ext HF.out hE1 (by simp))))
              refine bodyPost_ret (v := .tuple #[.slice none 0 0, .agg #[.int .i64 1, .int .i64 k]]) (by simp [results, Try.results117, go_sem, p0, p1]) rfl (Hbad.out 1 _ Hst.out hlt hE1)
      · obtain ⟨m, rfl⟩ : ∃ m, n = m + 1 := ⟨n - 1, by omega⟩
        have HG2 := Lib.hid ((scanG_end hlt).symm.trans HG.out)
        have hkd : decide ((k : Int) < s.size) = false := decide_eq_false (by omega)
        go_wp2_with fail
        refine bodyPost_ret (v := .tuple #[u4, .agg #[.int .i64 0, .int .i64 0]]) (by simp [results, Try.results117, go_sem, f0, f1, ff]) rfl ?_
        refine ⟨_, by rw [← HG2.out], ?_, ?_⟩
        · rw [← HG2.out]
          exact ((HO.out.ext (Ext.store _ w.heap.size 0 _) (by simp)).ext (Ext.store _ w.heap.size 1 _) (by simp)).bar (by simp) (by omega)
        · exact (HE.out.setCell (Or.inl (Nat.le_refl _)) _).setCell (Or.inl (Nat.le_refl _)) _
end Go.Proofs.Ytgcagjamjdnglaa.Old
