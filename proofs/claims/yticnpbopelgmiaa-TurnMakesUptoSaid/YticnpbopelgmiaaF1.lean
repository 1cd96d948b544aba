/-
  Sim: sets of nonterminals: Has, With, List. Sim: which have the empty word, which have a tree. Sim: sets that grow; Nullable, Productive; NullOf, GoodOf. Sim: the reference's: allIn, NullOf, GoodOf, ListOf.
-/
import Derived.Test.YticnpbopelgmiaaG1
import Derived.Test.YticnpbopelgmiaaS5
import Derived.Test.YticnpbopelgmiaaT1
import Derived.Test.YticnpbopelgmiaaQGramC
set_option linter.unusedVariables false
set_option linter.unusedSimpArgs false
set_option linter.unusedSectionVars false
namespace Go.Proofs.Yticnpbopelgmiaa
open Go.RowKit
set_option maxRecDepth 100000

def uD (x : Int) : D := .raw (.int .u64 x)
abbrev U (x : Nat) : V := .d (uD (x : Int))
def hasN (s : Nat) (v : Int) : Bool := decide (0 ≤ v) && (decide (v < 64) && s.testBit v.toNat)
def withN (s : Nat) (v : Int) : Nat := if 0 ≤ v ∧ v < 64 then s ||| (1 <<< v.toNat) else s
theorem bit_and (s k : Nat) : decide (s >>> k &&& 1 = 1) = s.testBit k := by
  rw [Nat.testBit, Nat.and_comm 1, Nat.and_one_is_mod]
  rcases Nat.mod_two_eq_zero_or_one (s >>> k) with h | h <;> rw [h] <;> rfl
theorem has_sim {s : Nat} {v : Int} (hs : s < 18446744073709551616 := by ((try simp only [List.length_map, List.length_append, List.length_cons, List.length_nil, List.length_replicate, List.length_set, List.length_take, List.length_drop]); first | omega | assumption)) : ACalls Try.prog 72 [U s, I v] [] (B (hasN s v)) [] := by
  refine ACalls.intro (n := 18) Try.func72 rfl rfl (by simp) (by rfl) ?_
  simp only [argFr]
  by_cases h1 : 0 ≤ v
  · by_cases h2 : v < 64
    · obtain ⟨k, rfl⟩ : ∃ k : Nat, v = (k : Int) := ⟨v.toNat, by omega⟩
      have e : hasN s k = s.testBit k := by simp only [hasN, decide_eq_true h1, decide_eq_true h2, Bool.true_and, Int.toNat_natCast]
      have e2 : s.testBit k = decide (andU (shrU s k) 1 = 1) := by
        rw [← bit_and]; exact decide_eq_decide.2 (by rw [show andU (shrU s k) 1 = ((s >>> k &&& 1 : Nat) : Int) from rfl]; omega)
      rw [e, e2]
      repeat (first | refine wk ?_ | refine s_field (hr := ?_))
      refine gOp ?_
      refine gBin ?_
      refine s_and (h1 := ?_) (h2 := ?_) (h3 := ?_) (h4 := ?_) (hr := ?_)
      · exact Int.natCast_nonneg _
      · have := Nat.shiftRight_le s k
        rw [show shrU s k = ((s >>> k : Nat) : Int) from rfl]
        omega
      · omega
      · omega
      repeat (first | refine wk ?_ | refine s_field (hr := ?_))
      exact fin
    · rw [show hasN s v = false by simp [hasN]; omega]
      repeat (first | refine wk ?_ | refine s_field (hr := ?_))
      exact fin
  · rw [show hasN s v = false by simp [hasN]; omega]
    repeat (first | refine wk ?_ | refine s_field (hr := ?_))
    exact fin
theorem with_sim {s : Nat} {v : Int} (hs : s < 18446744073709551616 := by ((try simp only [List.length_map, List.length_append, List.length_cons, List.length_nil, List.length_replicate, List.length_set, List.length_take, List.length_drop]); first | omega | assumption)) : ACalls Try.prog 71 [U s, I v] [] (U (withN s v)) [] := by
  refine ACalls.intro (n := 16) Try.func71 rfl rfl (by simp) (by rfl) ?_
  simp only [argFr]
  by_cases h1 : v < 0
  · rw [show withN s v = s by rw [withN, if_neg (by omega)]]
    repeat (first | refine wk ?_ | refine s_field (hr := ?_))
    exact fin
  · by_cases h2 : v > 63
    · rw [show withN s v = s by rw [withN, if_neg (by omega)]]
      repeat (first | refine wk ?_ | refine s_field (hr := ?_))
      exact fin
    · obtain ⟨k, rfl⟩ : ∃ k : Nat, v = (k : Int) := ⟨v.toNat, by omega⟩
      have e : withN s k = ((s : Int).toNat ||| (shlU 1 k).toNat) := by rw [withN, if_pos (by omega)]; rfl
      rw [show U (withN s k) = V.d (.raw (.int .u64 (orU s (shlU 1 k)))) by rw [e]; rfl]
      clear e
      repeat (first | refine wk ?_ | refine s_field (hr := ?_))
      refine gOp ?_
      refine gBin ?_
      refine s_or (h1 := ?_) (h2 := ?_) (h3 := ?_) (h4 := ?_) (hr := ?_)
      · omega
      · omega
      · exact Int.natCast_nonneg _
      · have hb : (1 <<< k : Nat) < 18446744073709551616 := by
          rw [Nat.one_shiftLeft]
          exact Nat.lt_of_lt_of_le (Nat.pow_lt_pow_right (a := 2) (n := 64) (by decide) (by omega)) (by decide)
        rw [show shlU 1 (k : Int) = ((1 <<< k : Nat) : Int) from rfl]
        omega
      repeat (first | refine wk ?_ | refine s_field (hr := ?_))
      exact fin
end Go.Proofs.Yticnpbopelgmiaa
namespace Go.Proofs.Yticnpbopelgmiaa
open Go.RowKit
set_option maxRecDepth 100000

theorem hasN_set {is : List Bool} (h : is.length ≤ 64) (v : Int) : hasN (setN is) v = has is v := by
  unfold hasN has
  rw [setN_bit]
  by_cases h1 : v < 64
  · simp [h1]
  · rw [decide_eq_false h1, Bool.false_and, Bool.and_false, List.getD_eq_getElem?_getD, List.getElem?_eq_none (by omega)]
    simp
theorem withN_set {is : List Bool} (h : is.length ≤ 64) {v : Int} (h0 : 0 ≤ v) (h1 : v < is.length) : withN (setN is) v = setN (put is v) := by
  rw [withN, if_pos (by omega), put, setN_set (by omega)]
abbrev bools (t : Bool) (is : List Bool) : D := .sl t 1 (is.map bD)
def badS (t : Bool) (is : List Bool) (x : Int) : Bool := (decide (x < 0) && !t) || (decide (0 ≤ x) && !has is x)
theorem asks_any (t : Bool) (r : Rule) (is : List Bool) : inAll (asks t r) is = !(r.right.any (badS t is)) := by
  rw [Bool.eq_iff_iff]
  simp only [inAll, Bool.not_eq_true', List.any_eq_false, List.all_eq_true]
  cases t with
  | false =>
    simp only [asks, cond_false]
    refine forall_congr' fun x => forall_congr' fun _ => ?_
    by_cases h : 0 ≤ x
    · simp [badS, h]
    · have : has is x = false := by simp [has, h]
      simp [badS, this]
  | true =>
    simp only [asks, cond_true]
    constructor
    · intro h x hx
      by_cases h0 : 0 ≤ x
      · simp [badS, h x (by simp [kids, hx, h0])]
      · simp [badS, h0]
    · intro h x hx
      have h0 := kids_nonneg x hx
      have := h x (kids_mem hx)
      simpa [badS, h0] using this
abbrev setBox (is : List Bool) : Ob := .box 99 [.d (uD (setN is : Nat))]
abbrev boolBox (b : Bool) : Ob := .box 4 [.d (bD b)]
theorem whole1_sim {t : Bool} {is : List Bool} {x : Int} (hl : is.length ≤ 64) :
    ACalls Try.prog 159 [I x, .ptr 1000 0, .ptr 1001 0] [(1000, boolBox t), (1001, setBox is)] (B (badS t is x)) [(1000, boolBox t), (1001, setBox is)] := by
  refine ACalls.intro (n := 21) Try.func159 rfl rfl (by simp) (by rfl) ?_
  simp only [argFr]
  have hs := setN_lt64 hl
  have h1 := has_sim (s := setN is) (v := x) hs
  rw [hasN_set hl] at h1
  by_cases h0 : 0 ≤ x
  · have hx : decide (x < 0) = false := decide_eq_false (by omega)
    have eb : badS t is x = !has is x := by simp [badS, h0, hx]
    rw [eb]
    repeat (first | refine wk ?_)
    refine s_call [] (hA := h1) (hr := ?_)
    repeat (first | refine wk ?_)
    exact fin
  · cases t with
    | false =>
      rw [show badS false is x = true by simp [badS]; omega]
      repeat (first | refine wkz ?_ | refine s_field (hr := ?_))
      exact fin
    | true =>
      rw [show badS true is x = false by simp [badS]; omega]
      repeat (first | refine wk ?_)
      exact fin
theorem whole_sim {t u : Bool} {r : Rule} {is : List Bool} (hl : is.length ≤ 64 := by ((try simp only [List.length_map, List.length_append, List.length_cons, List.length_nil, List.length_replicate, List.length_set, List.length_take, List.length_drop]); first | omega | assumption)) (hr : r.right.length ≤ 100000000 := by ((try simp only [List.length_map, List.length_append, List.length_cons, List.length_nil, List.length_replicate, List.length_set, List.length_take, List.length_drop]); first | omega | assumption)) :
    ACalls Try.prog 123 [.d (ruleD t r), U (setN is), B u] [] (B (inAll (asks u r) is)) [] := by
  refine ACalls.intro (n := 12) Try.func123 rfl rfl (by simp) (by rfl) ?_
  simp only [argFr]
  rw [asks_any]
  repeat (first | refine wk ?_)
  refine s_call [(1000, 5), (1001, 4)] (hA := containsFunc_sim (t := t) (clos := 159) (caps := [.ptr 1000 0, .ptr 1001 0]) (H := [(1000, boolBox u), (1001, setBox is)]) (p := badS u is) ⟨rfl, rfl, rfl, ⟨rfl, rfl, trivial⟩⟩ (fun x _ => whole1_sim hl)) (hr := ?_)
  repeat (first | refine wk ?_)
  exact fin
end Go.Proofs.Yticnpbopelgmiaa
namespace Go.Proofs.Yticnpbopelgmiaa
open Go.RowKit
set_option maxRecDepth 100000

theorem pass_at {t : Bool} {rs : List Rule} {i : Nat} {is : List Bool} (h : i < rs.length) : pass t (rs.drop i) is = pass t (rs.drop (i + 1)) (one1 t rs[i] is) := by
  rw [List.drop_eq_getElem_cons h, pass]
theorem pass_out {t : Bool} {rs : List Rule} {i : Nat} {is : List Bool} (h : ¬ i < rs.length) : pass t (rs.drop i) is = is := by
  rw [List.drop_of_length_le (by omega), pass]
abbrev ruleBox (t : Bool) (r : Rule) : Ob := .box 41 [.d (iD r.left), .d (ints t r.right)]
theorem lefts1_sim {t u : Bool} {g : Gram} (hg : g.ok) {is : List Bool} (hl : is.length = g.vars.toNat) :
    ACalls Try.prog 122 [U (setN is), .ptr 1000 0, .ptr 1001 0] [(1000, gramBox t g), (1001, boolBox u)] (U (setN (pass u g.rules is))) [(1000, gramBox t g), (1001, boolBox u)] := by
  refine ACalls.intro (n := 24) Try.func122 rfl rfl (by simp) (by rfl) ?_
  simp only [argFr]
  have hv := hg.vars
  have hlen := hg.rules
  repeat (first | refine wk ?_)
  refine t_loop (X := Nat × List Bool) (fun x => x.1 ≤ g.rules.length ∧ pass u g.rules is = pass u (g.rules.drop x.1) x.2 ∧ x.2.length = is.length) (fun x => [(10, I x.1), (9, I g.rules.length), (8, .d (rulesD t g.rules)), (0, U (setN x.2)), (1, .ptr 1000 0), (2, .ptr 1001 0)]) (fun _ => [(1000, gramBox t g), (1001, boolBox u)]) (fun x => g.rules.length - x.1) (0, is) ⟨Nat.zero_le _, rfl, rfl⟩ ?_
  rintro ⟨i, js⟩ ⟨h1, h2, h3⟩
  dsimp only at h1 h2 h3 ⊢
  by_cases hlt : i < g.rules.length
  · have hmem := List.getElem_mem hlt
    have a1 := hg.left0 _ hmem
    have a2 := hg.left _ hmem
    have a3 := hg.right _ hmem
    have hp := pass_at (t := u) (is := js) hlt
    have hl64 : js.length ≤ 64 := by omega
    have hlt64 := setN_lt64 hl64
    have hw := with_sim (s := setN js) (v := g.rules[i].left) hlt64
    rw [withN_set hl64 a1 (by omega)] at hw
    repeat (first | refine wk ?_)
    refine s_call [] (hA := whole_sim (t := t) (r := g.rules[i])) (hr := ?_)
    cases hc : inAll (asks u g.rules[i]) js with
    | true =>
      have ho : one1 u g.rules[i] js = put js g.rules[i].left := by rw [one1, hc]; rfl
      rw [ho] at hp
      repeat (first | refine wk ?_)
      refine s_call [] (hA := hw) (hr := ?_)
      repeat (first | refine wk ?_)
      exact t_next (i + 1, put js g.rules[i].left) (a := ⟨by omega, h2.trans hp, by rw [put_length]; exact h3⟩) (b := by dsimp only; omega)
    | false =>
      have ho : one1 u g.rules[i] js = js := by rw [one1, hc]; rfl
      rw [ho] at hp
      repeat (first | refine wk ?_)
      exact t_next (i + 1, js) (a := ⟨by omega, h2.trans hp, h3⟩) (b := by dsimp only; omega)
  · rw [h2, pass_out hlt]
    repeat (first | refine wk ?_)
    exact fin
theorem grow_sim {clos : Nat} {caps : List V} {H : Hp} {f : List Bool → List Bool} {is : List Bool} (hC : Clo H caps) (hs : ∀ x, Sub x (f x)) (hl : is.length ≤ 64)
    (hc : ∀ x : List Bool, x.length = is.length → ACalls Try.prog clos (U (setN x) :: caps) H (U (setN (f x))) H) :
    ACalls Try.prog 121 [U (setN is), .fn (.func clos) [] caps] H (U (setN (full f is))) H := by
  refine ACalls.intro (n := 17) Try.func121 rfl rfl (by simp) (by rfl) ?_
  simp only [argFr]
  have h1 := hC.self
  have h2 := hC.inn
  have h3 := hC.caps
  repeat (first | refine wk ?_)
  refine s_clos hC (hA := hc is rfl) (hr := ?_)
  repeat (first | refine wk ?_)
  refine t_loop (X := List Bool) (fun x => x.length = is.length ∧ full f is = full f x) (fun x => [(5, U (setN (f x))), (0, U (setN x)), (1, .fn (.func clos) [] caps)]) (fun _ => H) (fun x => is.length - cntB x) is ⟨rfl, rfl⟩ ?_
  rintro x ⟨hx, hf⟩
  have hfl := (hs x).len
  by_cases e : f x = x
  · have e1 : (setN (f x) : Int) = (setN x : Int) := by rw [e]
    rw [hf, full_end e]
    repeat (first | refine wk ?_)
    exact fin
  · have e1 : ¬ ((setN (f x) : Int) = (setN x : Int)) := fun h => e (setN_inj hfl.symm (by omega))
    have hgr := (hs x).grows (Ne.symm e)
    have hle := cntB_le (f x)
    repeat (first | refine wk ?_)
    refine s_clos hC (hA := hc (f x) (by omega)) (hr := ?_)
    repeat (first | refine wk ?_)
    exact t_next (f x) (a := ⟨by omega, by rw [hf, full_step hs]⟩) (b := by omega)
theorem lefts_sim {t u : Bool} {g : Gram} (hg : g.ok) : ACalls Try.prog 70 [.d (gramD t g), B u] [] (U (setN (leftsOf u g))) [] := by
  refine ACalls.intro (n := 7) Try.func70 rfl rfl (by simp) (by rfl) ?_
  simp only [argFr]
  have hv := hg.vars
  have h := grow_sim (clos := 122) (caps := [.ptr 1000 0, .ptr 1001 0]) (H := [(1000, gramBox t g), (1001, boolBox u)]) (f := pass u g.rules) (is := none_ g) ⟨rfl, rfl, rfl, ⟨rfl, rfl, trivial⟩⟩ (pass_sub hg.left0) (by rw [none_length]; omega) (fun x hx => lefts1_sim hg (by rw [hx, none_length]))
  rw [show setN (none_ g) = 0 from setN_rep _] at h
  repeat (first | refine wk ?_)
  refine s_call [(1000, 2), (1001, 3)] (hA := h) (hr := ?_)
  repeat (first | refine wk ?_)
  exact fin
end Go.Proofs.Yticnpbopelgmiaa
namespace Go.Proofs.Yticnpbopelgmiaa
open Go.RowKit
set_option maxRecDepth 100000

theorem has_get {is : List Bool} {x : Int} {k : Nat} (e : x = (k : Int)) (h : k < is.length) : has is x = is[k] := by
  subst e; rw [has_nat, List.getD_eq_getElem?_getD, List.getElem?_eq_getElem h]; rfl
theorem allIn_sim {t u : Bool} {xs : List Int} {is : List Bool} (hx : ∀ x ∈ xs, x < is.length) (hl : xs.length ≤ 100000000 := by ((try simp only [List.length_map, List.length_append, List.length_cons, List.length_nil, List.length_replicate, List.length_set, List.length_take, List.length_drop]); first | omega | assumption)) (hi : is.length ≤ 100000000 := by ((try simp only [List.length_map, List.length_append, List.length_cons, List.length_nil, List.length_replicate, List.length_set, List.length_take, List.length_drop]); first | omega | assumption)) :
    ACalls Try.prog 149 [.d (ints t xs), .d (bools u is)] [] (B (inAll xs is)) [] := by
  refine ACalls.intro (n := 27) Try.func149 rfl rfl (by simp) (by rfl) ?_
  simp only [argFr]
  repeat (first | refine wk ?_)
  refine t_loop (X := Nat) (fun k => k ≤ xs.length ∧ ∀ j, j < k → ∀ (hj : j < xs.length), has is xs[j] = true) (fun k => [(5, I k), (0, .d (ints t xs)), (1, .d (bools u is))]) (fun _ => []) (fun k => xs.length - k) 0 ⟨Nat.zero_le _, by omega⟩ ?_
  rintro k ⟨hk, hp⟩
  by_cases hlt : k < xs.length
  · have hm := hx _ (List.getElem_mem hlt)
    have hno : has is xs[k] = false → inAll xs is = false := fun h => by
      rw [inAll, List.all_eq_false]; exact ⟨_, List.getElem_mem hlt, by simp [h]⟩
    by_cases h0 : xs[k] < 0
    · rw [hno (by simp [has]; omega)]
      repeat (first | refine wk ?_)
      exact fin
    · obtain ⟨m, hmk⟩ : ∃ m : Nat, xs[k] = (m : Int) := ⟨xs[k].toNat, by omega⟩
      have hml : m < is.length := by omega
      have hg := has_get hmk hml
      cases hb : is[m] with
      | true =>
        repeat (first | refine wk ?_)
        exact t_next (k + 1) (a := ⟨by omega, upto_succ hp (fun _ => by rw [hg, hb])⟩)
      | false =>
        rw [hno (by rw [hg, hb])]
        repeat (first | refine wk ?_)
        exact fin
  · rw [show inAll xs is = true by
      rw [inAll, List.all_eq_true]; intro x h
      obtain ⟨j, hj, rfl⟩ := List.getElem_of_mem h
      exact hp j (by omega) hj]
    repeat (first | refine wk ?_)
    exact fin
theorem put_row {is : List Bool} {v : Int} : (is.map bD).set v.toNat (bD true) = (put is v).map bD := by rw [put, List.map_set]
set_option maxHeartbeats 400000 in
theorem nullOf_sim {t : Bool} {g : Gram} (hg : g.ok) : ACalls Try.prog 101 [.d (gramD t g)] [] (.own 8 g.vars.toNat) [(8, .row 4 1 ((leftsOf false g).map bD))] := by
  refine ACalls.intro (n := 39) Try.func101 rfl rfl (by simp) (by rfl) ?_
  simp only [argFr]
  have hv := hg.vars
  have hv1 := hg.vars1
  have hlen := hg.rules
  obtain ⟨N, hN⟩ : ∃ N : Nat, g.vars = (N : Int) := ⟨g.vars.toNat, by omega⟩
  have hNt : g.vars.toNat = N := by omega
  rw [hNt]
  have hnl := none_length g
  have e : List.replicate N (zeroD (.bool false)) = (List.replicate N false).map bD := by rw [List.map_replicate]; rfl
  repeat (first | refine wk ?_)
  refine t_loop (X := Nat × List Bool) (fun x => x.1 ≤ N ∧ leftsOf false g = iter (pass false g.rules) (N - x.1) x.2 ∧ x.2.length = N) (fun x => [(4, I x.1), (3, .own 8 N), (1, .ptr 1 0)]) (fun x => [(1, gramBox t g), (8, .row 4 1 (x.2.map bD))]) (fun x => N - x.1) (0, List.replicate N false) ⟨Nat.zero_le _, by rw [leftsOf, full, hnl, hNt, none_, hNt]; rfl, by simp⟩ ?_
  clear e
  rintro ⟨n, is⟩ ⟨h1, h2, h3⟩
  dsimp only at h1 h2 h3 ⊢
  by_cases hn : n < N
  · rw [show N - n = (N - (n + 1)) + 1 by omega, iter] at h2
    repeat (first | refine wk ?_)
    refine t_loop (X := Nat × List Bool) (fun x => x.1 ≤ g.rules.length ∧ pass false g.rules is = pass false (g.rules.drop x.1) x.2 ∧ x.2.length = N) (fun x => [(5, I x.1), (4, I n), (3, .own 8 N), (1, .ptr 1 0)]) (fun x => [(1, gramBox t g), (8, .row 4 1 (x.2.map bD))]) (fun x => g.rules.length - x.1) (0, is) ⟨Nat.zero_le _, rfl, h3⟩ ?_
    rintro ⟨i, js⟩ ⟨k1, k2, k3⟩
    dsimp only at k1 k2 k3 ⊢
    by_cases hlt : i < g.rules.length
    · have hmem := List.getElem_mem hlt
      have a1 := hg.left0 _ hmem
      have a2 := hg.left _ hmem
      have a3 := hg.right _ hmem
      have a4 := hg.hi _ hmem
      have hp := pass_at (t := false) (is := js) hlt
      have e := put_row (is := js) (v := g.rules[i].left)
      have hlk : g.rules[i].left = ((g.rules[i].left.toNat : Nat) : Int) := by omega
      have hin : ∀ x ∈ g.rules[i].right, x < js.length := fun x hx => by have := a4 x hx; omega
      repeat (first | refine wk ?_)
      refine s_call [] (hA := allIn_sim (t := t) (u := true) (xs := g.rules[i].right) (is := js) hin) (hr := ?_)
      cases hc : inAll g.rules[i].right js with
      | true =>
        have ho : one1 false g.rules[i] js = put js g.rules[i].left := by rw [one1, asks, cond_false, hc]; rfl
        rw [ho] at hp
        repeat (first | refine wk ?_)
        exact t_next (i + 1, put js g.rules[i].left) (a := ⟨by omega, k2.trans hp, by rw [put_length]; exact k3⟩) (b := by dsimp only; omega)
      | false =>
        have ho : one1 false g.rules[i] js = js := by rw [one1, asks, cond_false, hc]; rfl
        rw [ho] at hp
        repeat (first | refine wk ?_)
        exact t_next (i + 1, js) (a := ⟨by omega, k2.trans hp, k3⟩) (b := by dsimp only; omega)
    · rw [pass_out hlt] at k2
      repeat (first | refine wk ?_)
      exact t_next (n + 1, js) (a := ⟨by omega, by dsimp only; rw [h2, k2], k3⟩) (b := by dsimp only; omega)
  · rw [show N - n = 0 by omega, iter] at h2
    rw [h2]
    repeat (first | refine wk ?_)
    exact fin
end Go.Proofs.Yticnpbopelgmiaa
