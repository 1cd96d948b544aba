/-
  Sim: what comes of the start: Reachable, ReachedOf.
-/
import Derived.Test.YtpaeihifcmohkaaFactsD
set_option linter.unusedVariables false
set_option linter.unusedSimpArgs false
namespace Go.Proofs.Ytpaeihifcmohkaa
open Go.RowKit
set_option maxRecDepth 100000

theorem passR_at {rs : List Rule} {i : Nat} {is : List Bool} (h : i < rs.length) : passR (rs.drop i) is = passR (rs.drop (i + 1)) (stepR rs[i] is) := by
  rw [List.drop_eq_getElem_cons h, passR]
theorem passR_out {rs : List Rule} {i : Nat} {is : List Bool} (h : ¬ i < rs.length) : passR (rs.drop i) is = is := by
  rw [List.drop_of_length_le (by omega), passR]
theorem addAll_at {vs : List Int} {i : Nat} {is : List Bool} (h : i < vs.length) : addAll (vs.drop i) is = addAll (vs.drop (i + 1)) (put is vs[i]) := by
  rw [List.drop_eq_getElem_cons h, addAll]
theorem addAll_out {vs : List Int} {i : Nat} {is : List Bool} (h : ¬ i < vs.length) : addAll (vs.drop i) is = is := by
  rw [List.drop_of_length_le (by omega), addAll]
theorem reach1_sim {t : Bool} {g : Gram} (hg : g.ok) {is : List Bool} (hl : is.length = g.vars.toNat) :
    ACalls Try.prog 114 [U (setN is), .ptr 1000 0] [(1000, gramBox t g)] (U (setN (passR g.rules is))) [(1000, gramBox t g)] := by
  refine ACalls.intro (n := 32) Try.func114 rfl rfl (by simp) (by rfl) ?_
  simp only [argFr]
  have hv := hg.vars
  have hlen := hg.rules
  repeat (first | refine wk ?_)
  refine t_loop (X := Nat × List Bool) (fun x => x.1 ≤ g.rules.length ∧ passR g.rules is = passR (g.rules.drop x.1) x.2 ∧ x.2.length = is.length) (fun x => [(11, I x.1), (10, I g.rules.length), (9, .d (rulesD t g.rules)), (0, U (setN x.2)), (1, .ptr 1000 0)]) (fun _ => [(1000, gramBox t g)]) (fun x => g.rules.length - x.1) (0, is) ⟨Nat.zero_le _, rfl, rfl⟩ ?_
  rintro ⟨i, js⟩ ⟨h1, h2, h3⟩
  dsimp only at h1 h2 h3 ⊢
  by_cases hlt : i < g.rules.length
  · have hmem := List.getElem_mem hlt
    have a3 := hg.right _ hmem
    have a4 := hg.hi _ hmem
    have hkl := kids_le g.rules[i].right
    have hp := passR_at (is := js) hlt
    have hl64 : js.length ≤ 64 := by omega
    have hh := has_sim (s := setN js) (v := g.rules[i].left) (setN_lt64 hl64)
    rw [hasN_set hl64] at hh
    repeat (first | refine wk ?_)
    refine s_call [] (hA := hh) (hr := ?_)
    cases hc : has js g.rules[i].left with
    | true =>
      have ho : stepR g.rules[i] js = addAll (kids g.rules[i].right) js := by rw [stepR, hc]; rfl
      rw [ho] at hp
      repeat (first | refine wk ?_)
      refine s_call [(3, 900)] (hA := kids_sim) (hr := ?_)
      repeat (first | refine wk ?_)
      refine t_loop (X := Nat × List Bool) (fun x => x.1 ≤ (kids g.rules[i].right).length ∧ addAll (kids g.rules[i].right) js = addAll ((kids g.rules[i].right).drop x.1) x.2 ∧ x.2.length = is.length) (fun x => [(22, I x.1), (21, I (kids g.rules[i].right).length), (20, .own 900 (kids g.rules[i].right).length), (11, I i), (10, I g.rules.length), (9, .d (rulesD t g.rules)), (0, U (setN x.2)), (1, .ptr 1000 0)]) (fun _ => [(900, .row 3 1 ((kids g.rules[i].right).map iD)), (1000, gramBox t g)]) (fun x => (kids g.rules[i].right).length - x.1) (0, js) ⟨Nat.zero_le _, rfl, h3⟩ ?_
      rintro ⟨k, ks⟩ ⟨k1, k2, k3⟩
      dsimp only at k1 k2 k3 ⊢
      by_cases hkt : k < (kids g.rules[i].right).length
      · have hkm := List.getElem_mem hkt
        have b1 := kids_nonneg _ hkm
        have b2 := a4 _ (kids_mem hkm)
        have hq := addAll_at (is := ks) hkt
        have hl65 : ks.length ≤ 64 := by omega
        have hw := with_sim (s := setN ks) (v := (kids g.rules[i].right)[k]) (setN_lt64 hl65)
        rw [withN_set hl65 b1 (by omega)] at hw
        repeat (first | refine wk ?_)
        refine s_call [] (hA := hw) (hr := ?_)
        repeat (first | refine wk ?_)
        exact t_next (k + 1, put ks (kids g.rules[i].right)[k]) (a := ⟨by omega, k2.trans hq, by rw [put_length]; exact k3⟩) (b := by dsimp only; omega)
      · rw [addAll_out hkt] at k2
        repeat (first | refine wk ?_)
        exact t_next (i + 1, ks) (a := ⟨by omega, by dsimp only; rw [h2, hp, k2], k3⟩) (b := by dsimp only; omega)
    | false =>
      have ho : stepR g.rules[i] js = js := by rw [stepR, hc]; rfl
      rw [ho] at hp
      repeat (first | refine wk ?_)
      exact t_next (i + 1, js) (a := ⟨by omega, h2.trans hp, h3⟩) (b := by dsimp only; omega)
  · rw [h2, passR_out hlt]
    repeat (first | refine wk ?_)
    exact fin
def reachL (g : Gram) : List Int := if (gramFault g).code = 0 then listB (reachOf g) else []
theorem reachable_sim {t : Bool} {g : Gram} (hf : g.fit) : ACalls Try.prog 63 [.d (gramD t g)] [] (.tup [.d (ints false (reachL g)), .d (faultD (gramFault g))]) [] := by
  refine ACalls.intro (n := 20) Try.func63 rfl rfl (by simp) (by rfl) ?_
  simp only [argFr]
  have hl := hf.rules
  have hr := hf.right
  repeat (first | refine wk ?_)
  refine s_call [] (hA := gramCheck_sim) (hr := ?_)
  by_cases h0 : (gramFault g).code = 0
  · have hg := gram_ok h0
    have hz := fault_zero h0
    have hv := hg.vars
    have hv1 := hg.vars1
    have hs := hg.start
    have hrl := reachOf_len g
    have hnl := none_length g
    have hn64 : (none_ g).length ≤ 64 := by omega
    have hw := with_sim (s := 0) (v := g.start) (by decide)
    rw [show 0 = setN (none_ g) from (setN_rep _).symm, withN_set hn64 hg.start0 (by omega), show setN (none_ g) = 0 from setN_rep _] at hw
    have h := grow_sim (clos := 114) (caps := [.ptr 1000 0]) (H := [(1000, gramBox t g)]) (f := passR g.rules) (is := put (none_ g) g.start) ⟨rfl, rfl, rfl, ⟨rfl, trivial⟩⟩ (passR_sub _) (by rw [put_length]; omega) (fun x hx => reach1_sim hg (by rw [hx, put_length, none_length]))
    rw [reachL, if_pos h0, hz]
    repeat (first | refine wk ?_)
    refine s_call [] (hA := hw) (hr := ?_)
    repeat (first | refine wk ?_)
    refine s_call [(1000, 1)] (hA := h) (hr := ?_)
    repeat (first | refine wk ?_)
    refine s_call [] (hA := list_set (is := reachOf g) (by omega)) (hr := ?_)
    repeat (first | refine wkr ?_ | refine s_field (hr := ?_))
    refine aw_froz 900 rfl ?_
    repeat (first | refine wk ?_)
    exact fin
  · rw [reachL, if_neg h0]
    repeat (first | refine wk ?_)
    exact fin
end Go.Proofs.Ytpaeihifcmohkaa
