/-
  Sim: which have the empty word, which have a tree.
-/
import Derived.Test.YtpaeihifcmohkaaFactsA
import Derived.Test.YtpaeihifcmohkaaFactsQ
import Derived.Test.YtpaeihifcmohkaaSimZ
set_option linter.unusedVariables false
set_option linter.unusedSimpArgs false
namespace Go.Proofs.Ytpaeihifcmohkaa
open Go.RowKit
set_option maxRecDepth 100000

theorem hasN_set {is : List Bool} (h : is.length ≤ 64) (v : Int) : hasN (setN is) v = has is v := by
  unfold hasN has
  rw [setN_bit]
  by_cases h1 : v < 64
  · simp [h1]
  · rw [decide_eq_false h1, Bool.false_and, Bool.and_false, List.getD_eq_getElem?_getD, List.getElem?_eq_none (by omega)]
    simp
theorem withN_set {is : List Bool} (h : is.length ≤ 64) {v : Int} (h0 : 0 ≤ v) (h1 : v < is.length) : withN (setN is) v = setN (put is v) := by
  rw [withN, if_pos (by omega), put, setN_set (by omega)]
def listB (is : List Bool) : List Int := ((List.range is.length).filter (fun k => is.getD k false)).map (fun (k : Nat) => (k : Int))
theorem listB_le (is : List Bool) : (listB is).length ≤ is.length := by
  unfold listB
  rw [List.length_map]
  exact Nat.le_trans (List.length_filter_le _ _) (by simp)
theorem listN_set {is : List Bool} : ∀ {n : Nat}, is.length ≤ n → listN (setN is) n = listB is := by
  intro n hn
  obtain ⟨d, rfl⟩ : ∃ d, n = is.length + d := ⟨n - is.length, by omega⟩
  clear hn
  induction d with
  | zero => simp only [listN, listB, setN_bit, Nat.add_zero]
  | succ d ih =>
    rw [← Nat.add_assoc, listN_snoc, ih, setN_bit, List.getD_eq_getElem?_getD, List.getElem?_eq_none (by omega), if_neg (by simp), List.append_nil]
abbrev bools (t : Bool) (is : List Bool) : D := .sl t 1 (is.map bD)
def badS (t : Bool) (is : List Bool) (x : Int) : Bool := (decide (x < 0) && !t) || (decide (0 ≤ x) && !has is x)
theorem asks_any (t : Bool) (r : Rule) (is : List Bool) : inAll (asks t r) is = !(r.right.any (badS t is)) := by
  rw [Bool.eq_iff_iff]
  simp only [inAll, Bool.not_eq_true', List.any_eq_false, List.all_eq_true]
  cases t with
  | false =>
    simp only [asks, cond_false]
    refine forall_congr' fun x => forall_congr' fun _ => ?_
    by_cases h : 0 ≤ x
    · simp [badS, h]
    · have : has is x = false := by simp [has, h]
      simp [badS, this]
  | true =>
    simp only [asks, cond_true]
    constructor
    · intro h x hx
      by_cases h0 : 0 ≤ x
      · simp [badS, h x (by simp [kids, hx, h0])]
      · simp [badS, h0]
    · intro h x hx
      have h0 := kids_nonneg x hx
      have := h x (kids_mem hx)
      simpa [badS, h0] using this
abbrev setBox (is : List Bool) : Ob := .box 56 [.d (uD (setN is : Nat))]
abbrev boolBox (b : Bool) : Ob := .box 4 [.d (bD b)]
theorem whole1_sim {t : Bool} {is : List Bool} {x : Int} (hl : is.length ≤ 64) :
    ACalls Try.prog 137 [I x, .ptr 1000 0, .ptr 1001 0] [(1000, boolBox t), (1001, setBox is)] (B (badS t is x)) [(1000, boolBox t), (1001, setBox is)] := by
  refine ACalls.intro (n := 21) Try.func137 rfl rfl (by simp) (by rfl) ?_
  simp only [argFr]
  have hs := setN_lt64 hl
  have h1 := has_sim (s := setN is) (v := x) hs
  rw [hasN_set hl] at h1
  by_cases h0 : 0 ≤ x
  · have hx : decide (x < 0) = false := decide_eq_false (by omega)
    have eb : badS t is x = !has is x := by simp [badS, h0, hx]
    rw [eb]
    repeat (first | refine wk ?_)
    refine s_call [] (hA := h1) (hr := ?_)
    repeat (first | refine wk ?_)
    exact fin
  · cases t with
    | false =>
      rw [show badS false is x = true by simp [badS]; omega]
      repeat (first | refine wkz ?_ | refine s_field (hr := ?_))
      exact fin
    | true =>
      rw [show badS true is x = false by simp [badS]; omega]
      repeat (first | refine wk ?_)
      exact fin
theorem whole_sim {t u : Bool} {r : Rule} {is : List Bool} (hl : is.length ≤ 64 := by ((try simp only [List.length_map, List.length_append, List.length_cons, List.length_nil, List.length_replicate, List.length_set, List.length_take, List.length_drop]); first | omega | assumption)) (hr : r.right.length ≤ 100000000 := by ((try simp only [List.length_map, List.length_append, List.length_cons, List.length_nil, List.length_replicate, List.length_set, List.length_take, List.length_drop]); first | omega | assumption)) :
    ACalls Try.prog 132 [.d (ruleD t r), U (setN is), B u] [] (B (inAll (asks u r) is)) [] := by
  refine ACalls.intro (n := 12) Try.func132 rfl rfl (by simp) (by rfl) ?_
  simp only [argFr]
  rw [asks_any]
  repeat (first | refine wk ?_)
  refine s_call [(1000, 5), (1001, 4)] (hA := containsFunc_sim (t := t) (clos := 137) (caps := [.ptr 1000 0, .ptr 1001 0]) (H := [(1000, boolBox u), (1001, setBox is)]) (p := badS u is) ⟨rfl, rfl, rfl, ⟨rfl, rfl, trivial⟩⟩ (fun x _ => whole1_sim hl)) (hr := ?_)
  repeat (first | refine wk ?_)
  exact fin
end Go.Proofs.Ytpaeihifcmohkaa
