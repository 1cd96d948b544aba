/-
  Tokens: the scanner's own steps (blank, while, fail, token): what each makes of the scanner's block.
-/
import Derived.Test.YtkfeccbahpmadaaTok2
set_option linter.unusedVariables false
set_option linter.unusedSimpArgs false
set_option linter.unusedSectionVars false
namespace Go.Proofs.Ytkfeccbahpmadaa.Old
open Go.RowKit

/-- The scanner's block. -/
abbrev Scn (w : World) (b : Nat) (s : ByteArray) (k : Nat) (v : Value) (c a : Int) : Prop := Blk w b #[.string s, .int .i64 k, v, .int .i64 c, .int .i64 a] 215
theorem Scn.cells {w : World} {b : Nat} {s : ByteArray} {k : Nat} {v : Value} {c a : Int} (h : Scn w b s k v c a) :
    w.cell? ⟨b, 0, none⟩ = some (.string s) ∧ w.cell? ⟨b, 1, none⟩ = some (.int .i64 k) ∧ w.cell? ⟨b, 2, none⟩ = some v ∧ w.cell? ⟨b, 3, none⟩ = some (.int .i64 c) ∧ w.cell? ⟨b, 4, none⟩ = some (.int .i64 a) ∧
    (∀ i, w.frozen? ⟨b, i, none⟩ = false) :=
  ⟨(h.cell 0).trans (by simp), (h.cell 1).trans (by simp), (h.cell 2).trans (by simp), (h.cell 3).trans (by simp), (h.cell 4).trans (by simp), fun i => h.frozen i⟩
theorem Scn.at {w : World} {b : Nat} {s : ByteArray} {k : Nat} {v : Value} {c a : Int} (h : Scn w b s k v c a) (j : Nat) : Scn (w.setCell ⟨b, 1, none⟩ (.int .i64 j)) b s j v c a := h.set 1 _

theorem fail_any (w : World) (b : Nat) (s : ByteArray) (k : Nat) (v : Value) (c a c' a' : Int) (h : Scn w b s k v c a) : Calls Try.prog 199 #[.pointer (some ⟨b, 0, none⟩), .int .i64 c', .int .i64 a'] w fun e w' =>
    e = .returned (.tuple #[]) ∧ Scn w' b s k v c' a' ∧ Ext [b] w w' := by
  obtain ⟨h0, h1, h2, h3, h4, hf⟩ := h.cells
  go_enter Try.func199, Try.ntmps199
  go_wp2
  go_end0
  exact ⟨rfl, (h.set 3 _).set 4 _, ((Ext.refl [b] w).setCell (Or.inr (by simp)) _).setCell (Or.inr (by simp)) _⟩

theorem blank_any (w : World) (b : Nat) (s : ByteArray) (k : Nat) (v : Value) (c a : Int) (h : Scn w b s k v c a) (hk : k ≤ s.size) (hs : s.size ≤ maxLen) : Calls Try.prog 159 #[.pointer (some ⟨b, 0, none⟩)] w fun e w' =>
    e = .returned (.tuple #[]) ∧ Scn w' b s (skp s k false) v c a ∧ Ext [b] w w' := by
  unfold maxLen at hs
  go_enter Try.func159, Try.ntmps159
  go_wp2_with fail
  go_loopw [2, 3] (fun r _ wr => ∃ (j : Nat) (m : Bool), r = .bool m ∧ j ≤ s.size ∧ skp s j m = skp s k false ∧ Scn wr b s j v c a ∧ Ext [b] w wr) (fun _ _ wr => s.size - (intOf ((wr.cell? ⟨b, 1, none⟩).getD undef)).toNat)
  case atStart => exact ⟨k, false, rfl, hk, rfl, h, Ext.refl _ _⟩
  case round =>
    obtain ⟨j, m, rfl, hj, hR, hS, hE⟩ := hrel
    have HR := Lib.hid hR
    have HE := Lib.hid (fun n => drewN_ext hE n)
    have HS := Lib.hid hS
    have HS1 : Hid (∀ n, Scn ((wr.drewN n).setCell ⟨b, 1, none⟩ (.int .i64 (↑j + 1))) b s (j + 1) v c a) := Lib.hid (fun n => Scn.at (w := wr.drewN n) hS (j + 1))
    have HE1 : Hid (∀ n, Ext [b] w ((wr.drewN n).setCell ⟨b, 1, none⟩ (.int .i64 (↑j + 1)))) := Lib.hid (fun n => (drewN_ext hE n).setCell (Or.inr (by simp)) _)
    obtain ⟨h0, h1, h2, h3, h4, hf⟩ := hS.cells
    have H1 := Lib.hid h1
    have HM : Hid (∀ n, s.size - (intOf ((((wr.drewN n).setCell ⟨b, 1, none⟩ (.int .i64 (↑j + 1))).cell? ⟨b, 1, none⟩).getD undef)).toNat = s.size - (j + 1)) := Lib.hid (fun n => by rw [(HS1.out n).cells.2.1]; simp [intOf])
    clear hR hE hS
    by_cases hlt : j < s.size
    · have Hb := Lib.hid (bt_eq s j hlt)
      cases m with
      | true =>
        go_wp2_with fail
        go_quiet (fail)
        go_wp2_with fail
        go_quiet (fail)
        go_wp2_with fail
        all_goals go_roundw
        case rel | rel =>
          refine ⟨j + 1, _, rfl, by omega, ?_, HS1.out _, HE1.out _⟩
          rw [← HR.out]
          simp only [beq_eq_false_iff_ne, beq_iff_eq] at *
          first
          | (rw [skp_nl (s := s) (i := j) hlt (by rw [Hb.out]; assumption)]; done)
          | (rw [skp_on (s := s) (i := j) hlt (by rw [Hb.out]; assumption) (Or.inl rfl)]; done)
        case measure | measure =>
          rw [HM.out, H1.out]
          simp [intOf]
          omega
      | false =>
        go_wp2_with fail
        go_quiet (fail)
        go_wp2_with fail
        go_quiet (fail)
        go_wp2_with fail
        case roundEnd | roundEnd | roundEnd | roundEnd | roundEnd =>
          go_roundw
          case rel =>
            refine ⟨j + 1, _, rfl, by omega, ?_, HS1.out _, HE1.out _⟩
            rw [← HR.out]
            simp only [beq_eq_false_iff_ne, beq_iff_eq] at *
            first
            | (rw [skp_nl (s := s) (i := j) hlt (by rw [Hb.out]; assumption)]; done)
            | (rw [skp_on (s := s) (i := j) hlt (by rw [Hb.out]; assumption) (by rw [Hb.out]; simp; omega)]; done)
            | (rw [skp_rem (s := s) (i := j) hlt (by rw [Hb.out]; assumption)]; done)
          case measure =>
            rw [HM.out, H1.out]
            simp [intOf]
            omega
        · refine bodyPost_ret (results_none rfl _ _ _) rfl ⟨rfl, ?_, HE.out _⟩
          simp only [beq_eq_false_iff_ne, beq_iff_eq] at *
          rw [← HR.out, skp_stop (s := s) (i := j) hlt (by rw [Hb.out]; omega) (by rw [Hb.out]; omega) (by rw [Hb.out]; omega) (by rw [Hb.out]; omega) (by rw [Hb.out]; omega)]
          exact HS.out
    · have Hend := Lib.hid ((skp_end (s := s) (i := j) (r := m) (by omega)).symm.trans HR.out)
      go_wp2_with fail
      go_quiet (fail)
      go_wp2_with fail
      go_end0
      refine ⟨rfl, ?_, HE.out _⟩
      rw [← Hend.out]
      exact HS.out

/-- How far a test goes on being so: the first place from i on at which it is not. -/
def run (p : Int → Bool) (s : ByteArray) (i : Nat) : Nat :=
  if _h : i < s.size then if p (bt s i) = true then run p s (i + 1) else i else i
termination_by s.size - i
theorem run_yes {p : Int → Bool} {s : ByteArray} {i : Nat} (h : i < s.size) (hp : p (bt s i) = true) : run p s i = run p s (i + 1) := by rw [run, dif_pos h, if_pos hp]
theorem run_no {p : Int → Bool} {s : ByteArray} {i : Nat} (h : i < s.size) (hp : p (bt s i) = false) : run p s i = i := by rw [run, dif_pos h, if_neg (by simp [hp])]
theorem run_end {p : Int → Bool} {s : ByteArray} {i : Nat} (h : s.size ≤ i) : run p s i = i := by rw [run, dif_neg (by omega)]
theorem run_ge (p : Int → Bool) (s : ByteArray) (i : Nat) : i ≤ run p s i := by
  fun_induction run p s i with
  | case1 i h hp ih => omega
  | case2 i h hp => omega
  | case3 i h => omega
theorem run_le (p : Int → Bool) (s : ByteArray) (i : Nat) (hi : i ≤ s.size) : run p s i ≤ s.size := by
  fun_induction run p s i with
  | case1 i h hp ih => exact ih (by omega)
  | case2 i h hp => exact hi
  | case3 i h => exact hi
theorem run_in (p : Int → Bool) (s : ByteArray) (i : Nat) : ∀ j, i ≤ j → j < run p s i → p (bt s j) = true := by
  fun_induction run p s i with
  | case1 i h hp ih =>
    intro j h1 h2
    by_cases hj : j = i
    · subst hj; exact hp
    · exact ih j (by omega) h2
  | case2 i h hp => omega
  | case3 i h => omega
theorem run_at (p : Int → Bool) (s : ByteArray) (i : Nat) (hr : run p s i < s.size) : p (bt s (run p s i)) = false := by
  fun_induction run p s i with
  | case1 i h hp ih => exact ih hr
  | case2 i h hp => simpa using hp
  | case3 i h => omega

def wordP (x : Int) : Bool := isLet x || isDig x
def quoteP (x : Int) : Bool := decide (x ≠ 34 ∧ x ≠ 10)

theorem tok1_any (x : Int) (w : World) : Calls Try.prog 198 #[.int .u8 x] w fun e w' => e = .returned (.bool (wordP x)) ∧ w = w' := by
  cases h : isLet x
  all_goals
    go_enter Try.func198, Try.ntmps198
    go_wp2_with (first | (go_at_call 148; refine (letter_any _ _).mono ?_; rintro e w' ⟨rfl, rfl⟩) | (go_at_call 149; refine (digit_any _ _).mono ?_; rintro e w' ⟨rfl, rfl⟩))
    go_ret
    exact ⟨ret_bool (by simp [wordP, h]), rfl⟩
theorem tok2_any (x : Int) (w : World) : Calls Try.prog 200 #[.int .u8 x] w fun e w' => e = .returned (.bool (quoteP x)) ∧ w = w' := by
  go_enter Try.func200, Try.ntmps200
  go_wp2
  all_goals go_ret
  all_goals refine ⟨ret_bool ?_, rfl⟩
  all_goals (rw [Bool.eq_iff_iff]; simp [quoteP]; try omega)


theorem while1_any (w : World) (b : Nat) (s : ByteArray) (k : Nat) (v : Value) (c a : Int) (h : Scn w b s k v c a) (hk : k ≤ s.size) (hs : s.size ≤ maxLen) :
    Calls Try.prog 197 #[.pointer (some ⟨b, 0, none⟩), .func (.func 198) #[] #[]] w fun e w' =>
    e = .returned (.string (s.extract k (run wordP s k))) ∧ Scn w' b s (run wordP s k) v c a ∧ Ext [b] w w' := by
  unfold maxLen at hs
  obtain ⟨h0, h1, h2, h3, h4, hf⟩ := h.cells
  go_enter Try.func197, Try.ntmps197
  go_wp2_with fail
  go_loopw [] (fun wr => ∃ (j : Nat), k ≤ j ∧ j ≤ s.size ∧ run wordP s j = run wordP s k ∧ Scn wr b s j v c a ∧ Ext [b] w wr) (fun wr => s.size - (intOf ((wr.cell? ⟨b, 1, none⟩).getD undef)).toNat)
  case atStart => exact ⟨k, Nat.le_refl _, hk, rfl, h, Ext.refl _ _⟩
  case round =>
    obtain ⟨j, hkj, hj, hR, hS, hE⟩ := hrel
    have HR := Lib.hid hR
    have HE := Lib.hid (fun n => drewN_ext hE n)
    have HS := Lib.hid hS
    have HS1 : Hid (∀ n, Scn ((wr.drewN n).setCell ⟨b, 1, none⟩ (.int .i64 (↑j + 1))) b s (j + 1) v c a) := Lib.hid (fun n => Scn.at (w := wr.drewN n) hS (j + 1))
    have HE1 : Hid (∀ n, Ext [b] w ((wr.drewN n).setCell ⟨b, 1, none⟩ (.int .i64 (↑j + 1)))) := Lib.hid (fun n => (drewN_ext hE n).setCell (Or.inr (by simp)) _)
    obtain ⟨g0, g1, g2, g3, g4, gf⟩ := hS.cells
    have H1 := Lib.hid g1
    have HM : Hid (∀ n, s.size - (intOf ((((wr.drewN n).setCell ⟨b, 1, none⟩ (.int .i64 (↑j + 1))).cell? ⟨b, 1, none⟩).getD undef)).toNat = s.size - (j + 1)) := Lib.hid (fun n => by rw [(HS1.out n).cells.2.1]; simp [intOf])
    clear hR hE hS h0 h1 h2 h3 h4 hf
    by_cases hlt : j < s.size
    · have hb := bt_eq s j hlt
      have hjd : decide ((j : Int) < s.size) = true := decide_eq_true (by omega)
      cases hp : wordP (s[j].toNat : Int) with
      | true =>
        have Hyes := Lib.hid ((run_yes (p := wordP) hlt (by rw [hb]; exact hp)).symm.trans HR.out)
        clear hb
        go_wp2_with fail
        go_quiet ((go_at_call 198; exact Calls.quiet_of_same ((tok1_any _ _).mono fun _ _ ⟨h1, h2⟩ => ⟨h1, h2.symm⟩)))
        go_wp2_with fail
        go_roundw
        case rel => exact ⟨j + 1, by omega, by omega, Hyes.out, HS1.out _, HE1.out _⟩
        case measure =>
          rw [HM.out, H1.out]
          simp [intOf]
          omega
      | false =>
        have Hno := Lib.hid ((run_no (p := wordP) hlt (by rw [hb]; exact hp)).symm.trans HR.out)
        clear hb
        go_wp2_with fail
        go_quiet ((go_at_call 198; exact Calls.quiet_of_same ((tok1_any _ _).mono fun _ _ ⟨h1, h2⟩ => ⟨h1, h2.symm⟩)))
        go_wp2_with fail
        go_quiet (fail)
        go_wp2_with fail
        go_ret
        rw [← Hno.out]
        exact ⟨rfl, HS.out, drewN_ext (HE.out _) _⟩
    · obtain rfl : j = s.size := by omega
      have hjd : decide ((s.size : Int) < s.size) = false := decide_eq_false (by omega)
      have Hend := Lib.hid ((run_end (p := wordP) (Nat.le_refl _)).symm.trans HR.out)
      clear hlt
      go_wp2_with fail
      go_quiet (fail)
      go_wp2_with fail
      go_quiet (fail)
      go_wp2_with fail
      go_ret
      rw [← Hend.out]
      exact ⟨rfl, HS.out, drewN_ext (HE.out _) _⟩

theorem while2_any (w : World) (b : Nat) (s : ByteArray) (k : Nat) (v : Value) (c a : Int) (h : Scn w b s k v c a) (hk : k ≤ s.size) (hs : s.size ≤ maxLen) :
    Calls Try.prog 197 #[.pointer (some ⟨b, 0, none⟩), .func (.func 200) #[] #[]] w fun e w' =>
    e = .returned (.string (s.extract k (run quoteP s k))) ∧ Scn w' b s (run quoteP s k) v c a ∧ Ext [b] w w' := by
  unfold maxLen at hs
  obtain ⟨h0, h1, h2, h3, h4, hf⟩ := h.cells
  go_enter Try.func197, Try.ntmps197
  go_wp2_with fail
  go_loopw [] (fun wr => ∃ (j : Nat), k ≤ j ∧ j ≤ s.size ∧ run quoteP s j = run quoteP s k ∧ Scn wr b s j v c a ∧ Ext [b] w wr) (fun wr => s.size - (intOf ((wr.cell? ⟨b, 1, none⟩).getD undef)).toNat)
  case atStart => exact ⟨k, Nat.le_refl _, hk, rfl, h, Ext.refl _ _⟩
  case round =>
    obtain ⟨j, hkj, hj, hR, hS, hE⟩ := hrel
    have HR := Lib.hid hR
    have HE := Lib.hid (fun n => drewN_ext hE n)
    have HS := Lib.hid hS
    have HS1 : Hid (∀ n, Scn ((wr.drewN n).setCell ⟨b, 1, none⟩ (.int .i64 (↑j + 1))) b s (j + 1) v c a) := Lib.hid (fun n => Scn.at (w := wr.drewN n) hS (j + 1))
    have HE1 : Hid (∀ n, Ext [b] w ((wr.drewN n).setCell ⟨b, 1, none⟩ (.int .i64 (↑j + 1)))) := Lib.hid (fun n => (drewN_ext hE n).setCell (Or.inr (by simp)) _)
    obtain ⟨g0, g1, g2, g3, g4, gf⟩ := hS.cells
    have H1 := Lib.hid g1
    have HM : Hid (∀ n, s.size - (intOf ((((wr.drewN n).setCell ⟨b, 1, none⟩ (.int .i64 (↑j + 1))).cell? ⟨b, 1, none⟩).getD undef)).toNat = s.size - (j + 1)) := Lib.hid (fun n => by rw [(HS1.out n).cells.2.1]; simp [intOf])
    clear hR hE hS h0 h1 h2 h3 h4 hf
    by_cases hlt : j < s.size
    · have hb := bt_eq s j hlt
      have hjd : decide ((j : Int) < s.size) = true := decide_eq_true (by omega)
      cases hp : quoteP (s[j].toNat : Int) with
      | true =>
        have Hyes := Lib.hid ((run_yes (p := quoteP) hlt (by rw [hb]; exact hp)).symm.trans HR.out)
        clear hb
        go_wp2_with fail
        go_quiet ((go_at_call 200; exact Calls.quiet_of_same ((tok2_any _ _).mono fun _ _ ⟨h1, h2⟩ => ⟨h1, h2.symm⟩)))
        go_wp2_with fail
        go_roundw
        case rel => exact ⟨j + 1, by omega, by omega, Hyes.out, HS1.out _, HE1.out _⟩
        case measure =>
          rw [HM.out, H1.out]
          simp [intOf]
          omega
      | false =>
        have Hno := Lib.hid ((run_no (p := quoteP) hlt (by rw [hb]; exact hp)).symm.trans HR.out)
        clear hb
        go_wp2_with fail
        go_quiet ((go_at_call 200; exact Calls.quiet_of_same ((tok2_any _ _).mono fun _ _ ⟨h1, h2⟩ => ⟨h1, h2.symm⟩)))
        go_wp2_with fail
        go_quiet (fail)
        go_wp2_with fail
        go_ret
        rw [← Hno.out]
        exact ⟨rfl, HS.out, drewN_ext (HE.out _) _⟩
    · obtain rfl : j = s.size := by omega
      have hjd : decide ((s.size : Int) < s.size) = false := decide_eq_false (by omega)
      have Hend := Lib.hid ((run_end (p := quoteP) (Nat.le_refl _)).symm.trans HR.out)
      clear hlt
      go_wp2_with fail
      go_quiet (fail)
      go_wp2_with fail
      go_quiet (fail)
      go_wp2_with fail
      go_ret
      rw [← Hend.out]
      exact ⟨rfl, HS.out, drewN_ext (HE.out _) _⟩
end Go.Proofs.Ytkfeccbahpmadaa.Old
