/-
  Sim: sets that grow; Nullable, Productive; NullOf, GoodOf.
-/
import Derived.Test.YtpaeihifcmohkaaFactsB
import Derived.Test.YtpaeihifcmohkaaGramC
set_option linter.unusedVariables false
set_option linter.unusedSimpArgs false
namespace Go.Proofs.Ytpaeihifcmohkaa
open Go.RowKit
set_option maxRecDepth 100000

theorem one1_length (t : Bool) (r : Rule) (is : List Bool) : (one1 t r is).length = is.length := by
  unfold one1; cases inAll (asks t r) is <;> simp [put_length]
theorem pass_length (t : Bool) : ∀ (rs : List Rule) (is : List Bool), (pass t rs is).length = is.length
  | [], _ => rfl
  | r :: rs, is => by rw [pass, pass_length, one1_length]
theorem pass_at {t : Bool} {rs : List Rule} {i : Nat} {is : List Bool} (h : i < rs.length) : pass t (rs.drop i) is = pass t (rs.drop (i + 1)) (one1 t rs[i] is) := by
  rw [List.drop_eq_getElem_cons h, pass]
theorem pass_out {t : Bool} {rs : List Rule} {i : Nat} {is : List Bool} (h : ¬ i < rs.length) : pass t (rs.drop i) is = is := by
  rw [List.drop_of_length_le (by omega), pass]
abbrev ruleBox (t : Bool) (r : Rule) : Ob := .box 44 [.d (iD r.left), .d (ints t r.right)]
theorem lefts1_sim {t u : Bool} {g : Gram} (hg : g.ok) {is : List Bool} (hl : is.length = g.vars.toNat) :
    ACalls Try.prog 131 [U (setN is), .ptr 1000 0, .ptr 1001 0] [(1000, gramBox t g), (1001, boolBox u)] (U (setN (pass u g.rules is))) [(1000, gramBox t g), (1001, boolBox u)] := by
  refine ACalls.intro (n := 24) Try.func131 rfl rfl (by simp) (by rfl) ?_
  simp only [argFr]
  have hv := hg.vars
  have hlen := hg.rules
  repeat (first | refine wk ?_)
  refine t_loop (X := Nat × List Bool) (fun x => x.1 ≤ g.rules.length ∧ pass u g.rules is = pass u (g.rules.drop x.1) x.2 ∧ x.2.length = is.length) (fun x => [(10, I x.1), (9, I g.rules.length), (8, .d (rulesD t g.rules)), (0, U (setN x.2)), (1, .ptr 1000 0), (2, .ptr 1001 0)]) (fun _ => [(1000, gramBox t g), (1001, boolBox u)]) (fun x => g.rules.length - x.1) (0, is) ⟨Nat.zero_le _, rfl, rfl⟩ ?_
  rintro ⟨i, js⟩ ⟨h1, h2, h3⟩
  dsimp only at h1 h2 h3 ⊢
  by_cases hlt : i < g.rules.length
  · have hmem := List.getElem_mem hlt
    have a1 := hg.left0 _ hmem
    have a2 := hg.left _ hmem
    have a3 := hg.right _ hmem
    have hp := pass_at (t := u) (is := js) hlt
    have hl64 : js.length ≤ 64 := by omega
    have hlt64 := setN_lt64 hl64
    have hw := with_sim (s := setN js) (v := g.rules[i].left) hlt64
    rw [withN_set hl64 a1 (by omega)] at hw
    repeat (first | refine wk ?_)
    refine s_call [] (hA := whole_sim (t := t) (r := g.rules[i])) (hr := ?_)
    cases hc : inAll (asks u g.rules[i]) js with
    | true =>
      have ho : one1 u g.rules[i] js = put js g.rules[i].left := by rw [one1, hc]; rfl
      rw [ho] at hp
      repeat (first | refine wk ?_)
      refine s_call [] (hA := hw) (hr := ?_)
      repeat (first | refine wk ?_)
      exact t_next (i + 1, put js g.rules[i].left) (a := ⟨by omega, h2.trans hp, by rw [put_length]; exact h3⟩) (b := by dsimp only; omega)
    | false =>
      have ho : one1 u g.rules[i] js = js := by rw [one1, hc]; rfl
      rw [ho] at hp
      repeat (first | refine wk ?_)
      exact t_next (i + 1, js) (a := ⟨by omega, h2.trans hp, h3⟩) (b := by dsimp only; omega)
  · rw [h2, pass_out hlt]
    repeat (first | refine wk ?_)
    exact fin
theorem grow_sim {clos : Nat} {caps : List V} {H : Hp} {f : List Bool → List Bool} {is : List Bool} (hC : Clo H caps) (hs : ∀ x, Sub x (f x)) (hl : is.length ≤ 64)
    (hc : ∀ x : List Bool, x.length = is.length → ACalls Try.prog clos (U (setN x) :: caps) H (U (setN (f x))) H) :
    ACalls Try.prog 113 [U (setN is), .fn (.func clos) [] caps] H (U (setN (full f is))) H := by
  refine ACalls.intro (n := 17) Try.func113 rfl rfl (by simp) (by rfl) ?_
  simp only [argFr]
  have h1 := hC.self
  have h2 := hC.inn
  have h3 := hC.caps
  repeat (first | refine wk ?_)
  refine s_clos hC (hA := hc is rfl) (hr := ?_)
  repeat (first | refine wk ?_)
  refine t_loop (X := List Bool) (fun x => x.length = is.length ∧ full f is = full f x) (fun x => [(5, U (setN (f x))), (0, U (setN x)), (1, .fn (.func clos) [] caps)]) (fun _ => H) (fun x => is.length - cntB x) is ⟨rfl, rfl⟩ ?_
  rintro x ⟨hx, hf⟩
  have hfl := (hs x).len
  by_cases e : f x = x
  · have e1 : (setN (f x) : Int) = (setN x : Int) := by rw [e]
    rw [hf, full_end e]
    repeat (first | refine wk ?_)
    exact fin
  · have e1 : ¬ ((setN (f x) : Int) = (setN x : Int)) := fun h => e (setN_inj hfl.symm (by omega))
    have hgr := (hs x).grows (Ne.symm e)
    have hle := cntB_le (f x)
    repeat (first | refine wk ?_)
    refine s_clos hC (hA := hc (f x) (by omega)) (hr := ?_)
    repeat (first | refine wk ?_)
    exact t_next (f x) (a := ⟨by omega, by rw [hf, full_step hs]⟩) (b := by omega)
theorem lefts_sim {t u : Bool} {g : Gram} (hg : g.ok) : ACalls Try.prog 112 [.d (gramD t g), B u] [] (U (setN (leftsOf u g))) [] := by
  refine ACalls.intro (n := 7) Try.func112 rfl rfl (by simp) (by rfl) ?_
  simp only [argFr]
  have hv := hg.vars
  have h := grow_sim (clos := 131) (caps := [.ptr 1000 0, .ptr 1001 0]) (H := [(1000, gramBox t g), (1001, boolBox u)]) (f := pass u g.rules) (is := none_ g) ⟨rfl, rfl, rfl, ⟨rfl, rfl, trivial⟩⟩ (pass_sub hg.left0) (by rw [none_length]; omega) (fun x hx => lefts1_sim hg (by rw [hx, none_length]))
  rw [show setN (none_ g) = 0 from setN_rep _] at h
  repeat (first | refine wk ?_)
  refine s_call [(1000, 2), (1001, 3)] (hA := h) (hr := ?_)
  repeat (first | refine wk ?_)
  exact fin
def nullL (g : Gram) : List Int := if (gramFault g).code = 0 then listB (leftsOf false g) else []
def goodL (g : Gram) : List Int := if (gramFault g).code = 0 then listB (leftsOf true g) else []
theorem list_set {is : List Bool} (h : is.length ≤ 64) : ACalls Try.prog 44 [U (setN is)] [] (.own 900 (listB is).length) [(900, .row 3 1 ((listB is).map iD))] := by
  have := list_sim (s := setN is) (setN_lt64 h)
  rwa [listN_set h] at this
theorem nullable_sim {t : Bool} {g : Gram} (hf : g.fit) : ACalls Try.prog 61 [.d (gramD t g)] [] (.tup [.d (ints false (nullL g)), .d (faultD (gramFault g))]) [] := by
  refine ACalls.intro (n := 15) Try.func61 rfl rfl (by simp) (by rfl) ?_
  simp only [argFr]
  have hl := hf.rules
  have hr := hf.right
  repeat (first | refine wk ?_)
  refine s_call [] (hA := gramCheck_sim) (hr := ?_)
  by_cases h0 : (gramFault g).code = 0
  · have hg := gram_ok h0
    have hz := fault_zero h0
    have hv := hg.vars
    have hll := leftsOf_len (t := false) hg
    rw [nullL, if_pos h0, hz]
    repeat (first | refine wk ?_)
    refine s_call [] (hA := lefts_sim (u := false) hg) (hr := ?_)
    repeat (first | refine wk ?_)
    refine s_call [] (hA := list_set (is := leftsOf false g) (by omega)) (hr := ?_)
    repeat (first | refine wkr ?_ | refine s_field (hr := ?_))
    refine aw_froz 900 rfl ?_
    repeat (first | refine wk ?_)
    exact fin
  · rw [nullL, if_neg h0]
    repeat (first | refine wk ?_)
    exact fin
theorem productive_sim {t : Bool} {g : Gram} (hf : g.fit) : ACalls Try.prog 62 [.d (gramD t g)] [] (.tup [.d (ints false (goodL g)), .d (faultD (gramFault g))]) [] := by
  refine ACalls.intro (n := 15) Try.func62 rfl rfl (by simp) (by rfl) ?_
  simp only [argFr]
  have hl := hf.rules
  have hr := hf.right
  repeat (first | refine wk ?_)
  refine s_call [] (hA := gramCheck_sim) (hr := ?_)
  by_cases h0 : (gramFault g).code = 0
  · have hg := gram_ok h0
    have hz := fault_zero h0
    have hv := hg.vars
    have hll := leftsOf_len (t := true) hg
    rw [goodL, if_pos h0, hz]
    repeat (first | refine wk ?_)
    refine s_call [] (hA := lefts_sim (u := true) hg) (hr := ?_)
    repeat (first | refine wk ?_)
    refine s_call [] (hA := list_set (is := leftsOf true g) (by omega)) (hr := ?_)
    repeat (first | refine wkr ?_ | refine s_field (hr := ?_))
    refine aw_froz 900 rfl ?_
    repeat (first | refine wk ?_)
    exact fin
  · rw [goodL, if_neg h0]
    repeat (first | refine wk ?_)
    exact fin
end Go.Proofs.Ytpaeihifcmohkaa
