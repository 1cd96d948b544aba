/-
  Tokens: IsName, isSign, F, strings.IndexByte over the signs, and where the next token begins (skipped).
-/
import Derived.Test.YtkfeccbahpmadaaTok1
import Derived.Test.YtkfeccbahpmadaaShelf
import Derived.Test.YtkfeccbahpmadaaFlt
import Derived.Deep.QuietTactic
import Derived.BigQuiet
set_option linter.unusedVariables false
set_option linter.unusedSimpArgs false
set_option linter.unusedSectionVars false
namespace Go.Proofs.Ytkfeccbahpmadaa.Old
open Go.RowKit

theorem nameB_dig {s : ByteArray} (h : isDig (bt s 0) = true) : false = nameB s := by
  refine nameB_first ?_
  simp only [isLet, isDig, decide_eq_true_eq, decide_eq_false_iff_not] at *
  omega

theorem isName_any (s : ByteArray) (w : World) (hs : s.size ≤ maxLen) : Calls Try.prog 96 #[.string s] w fun e w' => e = .returned (.bool (nameB s)) ∧ w = w' := by
  unfold maxLen at hs
  by_cases h12 : 1 ≤ s.size ∧ s.size ≤ 12
  · obtain ⟨h1, h2⟩ := h12
    have h2' : decide ((12 : Int) < s.size) = false := decide_eq_false (by omega)
    have h1' : decide ((s.size : Int) < 1) = false := decide_eq_false (by omega)
    have hb0 := bt_eq s 0 (by omega)
    cases hl0 : isDig (s[0].toNat : Int) with
    | true =>
      have Hf := Lib.hid (nameB_dig (by rw [hb0]; exact hl0))
      clear hb0
      go_enter Try.func96, Try.ntmps96
      go_wp2_with (go_at_call 155; refine (isDigit_any _ _).mono ?_; rintro e w' ⟨rfl, rfl⟩)
      go_ret
      exact ⟨ret_bool Hf.out, rfl⟩
    | false =>
      have Hl := Lib.hid (hb0 ▸ hl0 : isDig (bt s 0) = false)
      clear hb0
      go_enter Try.func96, Try.ntmps96
      go_wp2_with (go_at_call 155; refine (isDigit_any _ _).mono ?_; rintro e w' ⟨rfl, rfl⟩)
      go_loop [3] (fun i => ∃ k : Nat, k ≤ s.size ∧ i = .int .i64 k ∧ ∀ j, j < k → (isLet (bt s j) || isDig (bt s j)) = true) (fun i => s.size - (intOf i).toNat)
      case atStart => exact ⟨0, Nat.zero_le _, rfl, by omega⟩
      case round =>
        obtain ⟨k, hk, rfl, hp⟩ := hrel
        have Hp := Lib.hid hp
        clear hp
        by_cases hlt : k < s.size
        · have Hb := Lib.hid (bt_eq s k hlt)
          have Hno := Lib.hid (fun h1 h2 => nameB_no hlt h1 h2)
          have Hyes : Hid ((isLet (bt s k) || isDig (bt s k)) = true → ∀ j, j < k + 1 → (isLet (bt s j) || isDig (bt s j)) = true) := Lib.hid (fun h j hj => by
            by_cases hjk : j < k
            · exact Hp.out j hjk
            · obtain rfl : j = k := by omega
              exact h)
          cases hlk : isLet (s[k].toNat : Int)
          · cases hdk : isDig (s[k].toNat : Int)
            · go_wp2_with (first | (go_at_call 156; refine (isLetter_any _ _).mono ?_; rintro e w' ⟨rfl, rfl⟩) | (go_at_call 155; refine (isDigit_any _ _).mono ?_; rintro e w' ⟨rfl, rfl⟩))
              go_ret
              exact ⟨ret_bool (Hno.out (by rw [Hb.out]; exact hlk) (by rw [Hb.out]; exact hdk)), rfl⟩
            · go_wp2_with (first | (go_at_call 156; refine (isLetter_any _ _).mono ?_; rintro e w' ⟨rfl, rfl⟩) | (go_at_call 155; refine (isDigit_any _ _).mono ?_; rintro e w' ⟨rfl, rfl⟩))
              go_round
              case rel => exact ⟨k + 1, by omega, by go_num, Hyes.out (by rw [Hb.out]; simp [hlk, hdk])⟩
              case measure => simp [intOf]; omega
          · go_wp2_with (first | (go_at_call 156; refine (isLetter_any _ _).mono ?_; rintro e w' ⟨rfl, rfl⟩) | (go_at_call 155; refine (isDigit_any _ _).mono ?_; rintro e w' ⟨rfl, rfl⟩))
            go_round
            case rel => exact ⟨k + 1, by omega, by go_num, Hyes.out (by rw [Hb.out]; simp [hlk])⟩
            case measure => simp [intOf]; omega
        · have hl0 : isLet (bt s 0) = true := by
            have := Hp.out 0 (by omega)
            rw [Hl.out] at this
            simpa using this
          have Ht := Lib.hid (nameB_all h1 h2 hl0 (fun j hj => Hp.out j (by omega)))
          clear hl0
          go_wp2
          go_ret
          exact ⟨ret_bool Ht.out, rfl⟩
  · have Hf := Lib.hid (nameB_short (s := s) (by omega))
    have h12' : s.size < 1 ∨ 12 < s.size := by omega
    rcases h12' with h | h
    all_goals
      go_enter Try.func96, Try.ntmps96
      go_wp2_with fail
      go_ret
      exact ⟨ret_bool Hf.out, rfl⟩

def sgns : ByteArray := ⟨#[61, 59, 124, 40, 41, 91, 93, 123, 125, 60, 62]⟩
theorem sgns_no {c : Int} (h : ∀ j, j < 11 → bt sgns j ≠ c) : false = isSgn c := by
  symm
  simp only [isSgn, decide_eq_false_iff_not]
  have h0 := h 0 (by omega); have h1 := h 1 (by omega); have h2 := h 2 (by omega); have h3 := h 3 (by omega); have h4 := h 4 (by omega); have h5 := h 5 (by omega)
  have h6 := h 6 (by omega); have h7 := h 7 (by omega); have h8 := h 8 (by omega); have h9 := h 9 (by omega); have h10 := h 10 (by omega)
  simp [bt, sgns] at h0 h1 h2 h3 h4 h5 h6 h7 h8 h9 h10
  omega
theorem sgns_yes {c : Int} {j : Nat} (hj : j < 11) (h : bt sgns j = c) : true = isSgn c := by
  subst h
  have : ∀ j, j < 11 → isSgn (bt sgns j) = true := by decide +kernel
  exact (this j hj).symm

theorem indexByte_sgns : ∀ n : Nat, n < 256 → decide (0 ≤ Lib.indexByte sgns.data.toList n.toUInt8) = isSgn n := by decide +kernel

theorem indexByte_any (c : Int) (w : World) (h0 : 0 ≤ c) (h1 : c ≤ 255) : Calls Try.prog 201 #[.string sgns, .int .u8 c] w fun e w' => (∃ n, e = .returned (.int .i64 n) ∧ (decide (0 ≤ n) = isSgn c)) ∧ w = w' := by
  refine (Try.strings_IndexByte sgns c w).mono fun e w' ⟨h1, h2⟩ => ⟨⟨_, h1, ?_⟩, h2.symm⟩
  have := indexByte_sgns c.toNat (by omega)
  rw [this]
  congr 1
  omega

/-- Where the next token begins, from a place on (inside a remark, or not). -/
def skp (s : ByteArray) (i : Nat) (rem : Bool) : Nat :=
  if _h : i < s.size then
    if bt s i = 10 then skp s (i + 1) false
    else if rem = true ∨ bt s i = 32 ∨ bt s i = 9 ∨ bt s i = 13 then skp s (i + 1) rem
    else if bt s i = 35 then skp s (i + 1) true
    else i
  else i
termination_by s.size - i
theorem skp_end {s : ByteArray} {i : Nat} {r : Bool} (h : s.size ≤ i) : skp s i r = i := by
  rw [skp, dif_neg (by omega)]
theorem skp_nl {s : ByteArray} {i : Nat} {r : Bool} (h : i < s.size) (hc : bt s i = 10) : skp s i r = skp s (i + 1) false := by
  rw [skp, dif_pos h, if_pos hc]
theorem skp_on {s : ByteArray} {i : Nat} {r : Bool} (h : i < s.size) (h0 : bt s i ≠ 10) (hc : r = true ∨ bt s i = 32 ∨ bt s i = 9 ∨ bt s i = 13) : skp s i r = skp s (i + 1) r := by
  rw [skp, dif_pos h, if_neg h0, if_pos hc]
theorem skp_rem {s : ByteArray} {i : Nat} (h : i < s.size) (hc : bt s i = 35) : skp s i false = skp s (i + 1) true := by
  rw [skp, dif_pos h, if_neg (by omega), if_neg (by simp; omega), if_pos hc]
theorem skp_stop {s : ByteArray} {i : Nat} (h : i < s.size) (h0 : bt s i ≠ 10) (h1 : bt s i ≠ 32) (h2 : bt s i ≠ 9) (h3 : bt s i ≠ 13) (h4 : bt s i ≠ 35) : skp s i false = i := by
  rw [skp, dif_pos h, if_neg h0, if_neg (by simp [h1, h2, h3]), if_neg h4]

theorem skp_blank {s : ByteArray} {k R : Nat} (hR : skp s k false = R) (h : k < s.size) (hc : bt s k = 10 ∨ bt s k = 32 ∨ bt s k = 9 ∨ bt s k = 13) : skp s (k + 1) false = R := by
  by_cases h0 : bt s k = 10
  · rw [← hR, skp_nl h h0]
  · rw [← hR, skp_on h h0 (by simp; omega)]

end Go.Proofs.Ytkfeccbahpmadaa.Old
