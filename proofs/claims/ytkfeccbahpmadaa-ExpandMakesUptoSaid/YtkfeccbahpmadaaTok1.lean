/-
  Tokens: letters, digits, signs; what a name and a terminal are (token.Name, token.Term, and the reference's).
  No condition but that a text is no longer than maxLen.
-/
import Derived.Test.YtkfeccbahpmadaaBase
import Derived.Test.YtkfeccbahpmadaaRows
import Derived.WalkSpells
import Derived.WalkLawsBesides
import Derived.Outline
import Derived.Lib.Hide
set_option linter.unusedVariables false
set_option linter.unusedSimpArgs false
set_option linter.unusedSectionVars false
namespace Go.Proofs.Ytkfeccbahpmadaa.Old
open Go.RowKit

def isLet (c : Int) : Bool := decide (97 ≤ c ∧ c ≤ 122 ∨ 65 ≤ c ∧ c ≤ 90 ∨ c = 95)
def isDig (c : Int) : Bool := decide (48 ≤ c ∧ c ≤ 57)
def isSgn (c : Int) : Bool := decide (c = 61 ∨ c = 59 ∨ c = 124 ∨ c = 40 ∨ c = 41 ∨ c = 91 ∨ c = 93 ∨ c = 123 ∨ c = 125 ∨ c = 60 ∨ c = 62)

theorem ret_bool {a b : Bool} (h : a = b) : Ending.returned (.bool a) = Ending.returned (.bool b) := by rw [h]
theorem ret_int {k : IntKind} {a b : Int} (h : a = b) : Ending.returned (.int k a) = Ending.returned (.int k b) := by rw [h]

theorem letter_any (c : Int) (w : World) : Calls Try.prog 148 #[.int .u8 c] w fun e w' => e = .returned (.bool (isLet c)) ∧ w = w' := by
  go_enter Try.func148, Try.ntmps148
  go_wp2
  all_goals go_ret
  all_goals refine ⟨ret_bool ?_, rfl⟩
  all_goals (rw [Bool.eq_iff_iff]; simp [isLet]; omega)
theorem isLetter_any (c : Int) (w : World) : Calls Try.prog 156 #[.int .u8 c] w fun e w' => e = .returned (.bool (isLet c)) ∧ w = w' := by
  go_enter Try.func156, Try.ntmps156
  go_wp2
  all_goals go_ret
  all_goals refine ⟨ret_bool ?_, rfl⟩
  all_goals (rw [Bool.eq_iff_iff]; simp [isLet]; omega)
theorem digit_any (c : Int) (w : World) : Calls Try.prog 149 #[.int .u8 c] w fun e w' => e = .returned (.bool (isDig c)) ∧ w = w' := by
  go_enter Try.func149, Try.ntmps149
  go_wp2
  all_goals go_ret
  all_goals refine ⟨ret_bool ?_, rfl⟩
  all_goals (rw [Bool.eq_iff_iff]; simp [isDig]; omega)
theorem isDigit_any (c : Int) (w : World) : Calls Try.prog 155 #[.int .u8 c] w fun e w' => e = .returned (.bool (isDig c)) ∧ w = w' := by
  go_enter Try.func155, Try.ntmps155
  go_wp2
  all_goals go_ret
  all_goals refine ⟨ret_bool ?_, rfl⟩
  all_goals (rw [Bool.eq_iff_iff]; simp [isDig]; omega)

/-- A byte of a text as a number. -/
def bt (s : ByteArray) (i : Nat) : Int := ((s.data[i]?.getD 0).toNat : Int)
theorem bt_eq (s : ByteArray) (i : Nat) (h : i < s.size) : bt s i = (s[i].toNat : Int) := by
  have h' : i < s.data.size := h
  unfold bt
  rw [Array.getElem?_eq_getElem h']
  rfl
theorem bt_range (s : ByteArray) (i : Nat) : 0 ≤ bt s i ∧ bt s i ≤ 255 := by
  unfold bt
  have := (s.data[i]?.getD 0).toNat_lt
  omega

def NameP (s : ByteArray) : Prop := 1 ≤ s.size ∧ s.size ≤ 12 ∧ isLet (bt s 0) = true ∧ ∀ i, i < s.size → (isLet (bt s i) || isDig (bt s i)) = true
def TermP (s : ByteArray) : Prop := 1 ≤ s.size ∧ s.size ≤ 12 ∧ ∀ i, i < s.size → 32 ≤ bt s i ∧ bt s i ≤ 126 ∧ bt s i ≠ 34
instance (s : ByteArray) : Decidable (NameP s) := by unfold NameP; infer_instance
instance (s : ByteArray) : Decidable (TermP s) := by unfold TermP; infer_instance
def nameB (s : ByteArray) : Bool := decide (NameP s)
def termB (s : ByteArray) : Bool := decide (TermP s)

theorem toList_nil (s : ByteArray) : s.toList = [] ↔ s.size = 0 := by
  rw [ByteArray.toList_eq, Array.toList_eq_nil_iff]
  constructor
  · intro h; show s.data.size = 0; rw [h]; rfl
  · intro h; exact Array.eq_empty_of_size_eq_zero h
theorem toList_nil' (s : ByteArray) : s.toList.isEmpty = decide (s.size = 0) := by
  rw [Bool.eq_iff_iff]; simp [toList_nil]

theorem termB_no {s : ByteArray} {k : Nat} (hk : k < s.size) (h : bt s k < 32 ∨ 126 < bt s k ∨ bt s k = 34) : false = termB s := by
  symm
  simp only [termB, decide_eq_false_iff_not]
  rintro ⟨_, _, hp⟩
  have := hp k hk
  omega
theorem termB_all {s : ByteArray} (h : ∀ j, j < s.size → 32 ≤ bt s j ∧ bt s j ≤ 126 ∧ bt s j ≠ 34) : termB s = decide (1 ≤ s.size ∧ s.size ≤ 12) := by
  unfold termB
  rw [Bool.eq_iff_iff]
  simp only [decide_eq_true_eq]
  exact ⟨fun ⟨a, b, _⟩ => ⟨a, b⟩, fun ⟨a, b⟩ => ⟨a, b, h⟩⟩

theorem termTok_any (s : ByteArray) (w : World) (hs : s.size ≤ maxLen) : Calls Try.prog 151 #[.string s] w fun e w' => e = .returned (.bool (termB s)) ∧ w = w' := by
  unfold maxLen at hs
  go_enter Try.func151, Try.ntmps151
  go_wp2
  go_loop [3, 6] (fun _ i => ∃ k : Nat, k ≤ s.size ∧ i = .int .i64 k ∧ ∀ j, j < k → 32 ≤ bt s j ∧ bt s j ≤ 126 ∧ bt s j ≠ 34) (fun _ i => s.size - (intOf i).toNat)
  case atStart => exact ⟨0, Nat.zero_le _, rfl, by omega⟩
  case round =>
    obtain ⟨k, hk, rfl, hp⟩ := hrel
    have Hp := Lib.hid hp
    clear hp
    by_cases hlt : k < s.size
    · have Hb := Lib.hid (bt_eq s k hlt)
      go_wp2
      case roundEnd =>
        go_round
        case rel =>
          refine ⟨k + 1, by omega, by go_num, fun j hj => ?_⟩
          by_cases hjk : j < k
          · exact Hp.out j hjk
          · obtain rfl : j = k := by omega
            rw [Hb.out]
            rename_i hx
            simp at hx
            omega
        case measure => simp [intOf]; omega
      all_goals
        go_ret
        refine ⟨ret_bool (termB_no hlt ?_), rfl⟩
        rw [Hb.out]
        try simp only [beq_iff_eq] at *
        omega
    · have hks : k = s.size := by omega
      have hT := termB_all (fun j hj => Hp.out j (by omega))
      have HT := Lib.hid hT
      clear hT hks
      go_wp2
      all_goals
        go_ret
        refine ⟨ret_bool ?_, rfl⟩
        rw [HT.out]
      · have h0 : s.size = 0 := (toList_nil s).1 ‹_›
        simp [h0]
      · have h0 : ¬ s.size = 0 := fun h => ‹¬ s.toList = []› ((toList_nil s).2 h)
        have e1 : s.toList.isEmpty = false := by rw [toList_nil']; simpa using h0
        rw [e1, Bool.eq_iff_iff]
        simp only [Bool.not_false, Bool.true_and, decide_eq_true_eq]
        omega

theorem isTerm_any (s : ByteArray) (w : World) (hs : s.size ≤ maxLen) : Calls Try.prog 158 #[.string s] w fun e w' => e = .returned (.bool (termB s)) ∧ w = w' := by
  unfold maxLen at hs
  by_cases h12 : 1 ≤ s.size ∧ s.size ≤ 12
  · obtain ⟨h1, h2⟩ := h12
    go_enter Try.func158, Try.ntmps158
    go_wp2
    go_loop [3] (fun i => ∃ k : Nat, k ≤ s.size ∧ i = .int .i64 k ∧ ∀ j, j < k → 32 ≤ bt s j ∧ bt s j ≤ 126 ∧ bt s j ≠ 34) (fun i => s.size - (intOf i).toNat)
    case atStart => exact ⟨0, Nat.zero_le _, rfl, by omega⟩
    case round =>
      obtain ⟨k, hk, rfl, hp⟩ := hrel
      have Hp := Lib.hid hp
      clear hp
      by_cases hlt : k < s.size
      · have Hb := Lib.hid (bt_eq s k hlt)
        go_wp2
        case roundEnd =>
          go_round
          case rel =>
            refine ⟨k + 1, by omega, by go_num, fun j hj => ?_⟩
            by_cases hjk : j < k
            · exact Hp.out j hjk
            · obtain rfl : j = k := by omega
              rw [Hb.out]
              rename_i hx
              simp at hx
              omega
          case measure => simp [intOf]; omega
        all_goals
          go_ret
          refine ⟨ret_bool (termB_no hlt ?_), rfl⟩
          rw [Hb.out]
          try simp only [beq_iff_eq] at *
          omega
      · have hks : k = s.size := by omega
        have HT := Lib.hid (termB_all (fun j hj => Hp.out j (by omega)))
        clear hks
        go_wp2
        go_ret
        exact ⟨ret_bool (by rw [HT.out]; simp; omega), rfl⟩
  · have hf : false = termB s := by
      symm
      simp only [termB, decide_eq_false_iff_not]
      rintro ⟨a, b, _⟩
      exact h12 ⟨a, b⟩
    have Hf := Lib.hid hf
    clear hf
    have h12' : s.size < 1 ∨ 12 < s.size := by omega
    rcases h12' with h | h
    all_goals
      go_enter Try.func158, Try.ntmps158
      go_wp2
      go_ret
      exact ⟨ret_bool Hf.out, rfl⟩

theorem nameB_no {s : ByteArray} {k : Nat} (hk : k < s.size) (h1 : isLet (bt s k) = false) (h2 : isDig (bt s k) = false) : false = nameB s := by
  symm
  simp only [nameB, decide_eq_false_iff_not]
  rintro ⟨_, _, _, hp⟩
  have := hp k hk
  simp [h1, h2] at this
theorem nameB_all {s : ByteArray} (h0 : 1 ≤ s.size) (h1 : s.size ≤ 12) (h2 : isLet (bt s 0) = true) (h : ∀ j, j < s.size → (isLet (bt s j) || isDig (bt s j)) = true) : true = nameB s := by
  symm
  simp only [nameB, decide_eq_true_eq]
  exact ⟨h0, h1, h2, h⟩
theorem nameB_short {s : ByteArray} (h : s.size < 1 ∨ 12 < s.size) : false = nameB s := by
  symm
  simp only [nameB, decide_eq_false_iff_not]
  rintro ⟨_, _, _⟩
  omega
theorem nameB_first {s : ByteArray} (h : isLet (bt s 0) = false) : false = nameB s := by
  symm
  simp only [nameB, decide_eq_false_iff_not]
  rintro ⟨_, _, h', _⟩
  rw [h] at h'
  cases h'
theorem let_not_dig {c : Int} (h : isLet c = true) : isDig c = false := by
  simp only [isLet, isDig, decide_eq_true_eq, decide_eq_false_iff_not] at *
  omega

theorem nonempty {s : ByteArray} (h : 1 ≤ s.size) : s.toList.isEmpty = false := by rw [toList_nil']; exact decide_eq_false (by omega)
theorem isempty {s : ByteArray} (h : s.size = 0) : s.toList.isEmpty = true := by rw [toList_nil']; exact decide_eq_true h

theorem nameTok_any (s : ByteArray) (w : World) (hs : s.size ≤ maxLen) : Calls Try.prog 91 #[.string s] w fun e w' => e = .returned (.bool (nameB s)) ∧ w = w' := by
  unfold maxLen at hs
  by_cases h12 : 1 ≤ s.size ∧ s.size ≤ 12
  · obtain ⟨h1, h2⟩ := h12
    have hne := nonempty h1
    have h2' : decide ((12 : Int) < s.size) = false := decide_eq_false (by omega)
    have hb0 := bt_eq s 0 (by omega)
    cases hl0 : isLet (s[0].toNat : Int) with
    | false =>
      have Hf := Lib.hid (nameB_first (by rw [hb0]; exact hl0))
      clear hb0
      go_enter Try.func91, Try.ntmps91
      go_wp2_with (go_at_call 148; refine (letter_any _ _).mono ?_; rintro e w' ⟨rfl, rfl⟩)
      go_ret
      exact ⟨ret_bool Hf.out, rfl⟩
    | true =>
      have Hl := Lib.hid (hb0 ▸ hl0 : isLet (bt s 0) = true)
      clear hb0
      go_enter Try.func91, Try.ntmps91
      go_wp2_with (go_at_call 148; refine (letter_any _ _).mono ?_; rintro e w' ⟨rfl, rfl⟩)
      go_loop [3, 19] (fun _ i => ∃ k : Nat, k ≤ s.size ∧ i = .int .i64 k ∧ ∀ j, j < k → (isLet (bt s j) || isDig (bt s j)) = true) (fun _ i => s.size - (intOf i).toNat)
      case atStart => exact ⟨0, Nat.zero_le _, rfl, by omega⟩
      case round =>
        obtain ⟨k, hk, rfl, hp⟩ := hrel
        have Hp := Lib.hid hp
        clear hp
        by_cases hlt : k < s.size
        · have Hb := Lib.hid (bt_eq s k hlt)
          have Hno := Lib.hid (fun h1 h2 => nameB_no hlt h1 h2)
          have Hyes : Hid ((isLet (bt s k) || isDig (bt s k)) = true → ∀ j, j < k + 1 → (isLet (bt s j) || isDig (bt s j)) = true) := Lib.hid (fun h j hj => by
            by_cases hjk : j < k
            · exact Hp.out j hjk
            · obtain rfl : j = k := by omega
              exact h)
          cases hlk : isLet (s[k].toNat : Int)
          · cases hdk : isDig (s[k].toNat : Int)
            · go_wp2_with (first | (go_at_call 148; refine (letter_any _ _).mono ?_; rintro e w' ⟨rfl, rfl⟩) | (go_at_call 149; refine (digit_any _ _).mono ?_; rintro e w' ⟨rfl, rfl⟩))
              go_ret
              exact ⟨ret_bool (Hno.out (by rw [Hb.out]; exact hlk) (by rw [Hb.out]; exact hdk)), rfl⟩
            · go_wp2_with (first | (go_at_call 148; refine (letter_any _ _).mono ?_; rintro e w' ⟨rfl, rfl⟩) | (go_at_call 149; refine (digit_any _ _).mono ?_; rintro e w' ⟨rfl, rfl⟩))
              go_round
              case rel => exact ⟨k + 1, by omega, by go_num, Hyes.out (by rw [Hb.out]; simp [hlk, hdk])⟩
              case measure => simp [intOf]; omega
          · go_wp2_with (first | (go_at_call 148; refine (letter_any _ _).mono ?_; rintro e w' ⟨rfl, rfl⟩) | (go_at_call 149; refine (digit_any _ _).mono ?_; rintro e w' ⟨rfl, rfl⟩))
            go_round
            case rel => exact ⟨k + 1, by omega, by go_num, Hyes.out (by rw [Hb.out]; simp [hlk])⟩
            case measure => simp [intOf]; omega
        · have Ht := Lib.hid (nameB_all h1 h2 Hl.out (fun j hj => Hp.out j (by omega)))
          go_wp2
          go_ret
          exact ⟨ret_bool Ht.out, rfl⟩
  · have Hf := Lib.hid (nameB_short (s := s) (by omega))
    have h12' : s.size = 0 ∨ 12 < s.size := by omega
    rcases h12' with h | h
    · have hne := isempty h
      clear h h12
      go_enter Try.func91, Try.ntmps91
      go_wp2_with fail
      go_ret
      exact ⟨ret_bool Hf.out, rfl⟩
    · have hne := nonempty (s := s) (by omega)
      go_enter Try.func91, Try.ntmps91
      go_wp2_with fail
      go_ret
      exact ⟨ret_bool Hf.out, rfl⟩
end Go.Proofs.Ytkfeccbahpmadaa.Old
