/-
  Sim: the reference's: allIn, NullOf, GoodOf, ListOf.
-/
import Derived.Test.YtpaeihifcmohkaaFactsC
set_option linter.unusedVariables false
set_option linter.unusedSimpArgs false
namespace Go.Proofs.Ytpaeihifcmohkaa
open Go.RowKit
set_option maxRecDepth 100000

theorem has_get {is : List Bool} {x : Int} {k : Nat} (e : x = (k : Int)) (h : k < is.length) : has is x = is[k] := by
  subst e; rw [has_nat, List.getD_eq_getElem?_getD, List.getElem?_eq_getElem h]; rfl
theorem allIn_sim {t u : Bool} {xs : List Int} {is : List Bool} (hx : ∀ x ∈ xs, x < is.length) (hl : xs.length ≤ 100000000 := by ((try simp only [List.length_map, List.length_append, List.length_cons, List.length_nil, List.length_replicate, List.length_set, List.length_take, List.length_drop]); first | omega | assumption)) (hi : is.length ≤ 100000000 := by ((try simp only [List.length_map, List.length_append, List.length_cons, List.length_nil, List.length_replicate, List.length_set, List.length_take, List.length_drop]); first | omega | assumption)) :
    ACalls Try.prog 111 [.d (ints t xs), .d (bools u is)] [] (B (inAll xs is)) [] := by
  refine ACalls.intro (n := 27) Try.func111 rfl rfl (by simp) (by rfl) ?_
  simp only [argFr]
  repeat (first | refine wk ?_)
  refine t_loop (X := Nat) (fun k => k ≤ xs.length ∧ ∀ j, j < k → ∀ (hj : j < xs.length), has is xs[j] = true) (fun k => [(5, I k), (0, .d (ints t xs)), (1, .d (bools u is))]) (fun _ => []) (fun k => xs.length - k) 0 ⟨Nat.zero_le _, by omega⟩ ?_
  rintro k ⟨hk, hp⟩
  by_cases hlt : k < xs.length
  · have hm := hx _ (List.getElem_mem hlt)
    have hno : has is xs[k] = false → inAll xs is = false := fun h => by
      rw [inAll, List.all_eq_false]; exact ⟨_, List.getElem_mem hlt, by simp [h]⟩
    by_cases h0 : xs[k] < 0
    · rw [hno (by simp [has]; omega)]
      repeat (first | refine wk ?_)
      exact fin
    · obtain ⟨m, hmk⟩ : ∃ m : Nat, xs[k] = (m : Int) := ⟨xs[k].toNat, by omega⟩
      have hml : m < is.length := by omega
      have hg := has_get hmk hml
      cases hb : is[m] with
      | true =>
        repeat (first | refine wk ?_)
        exact t_next (k + 1) (a := ⟨by omega, upto_succ hp (fun _ => by rw [hg, hb])⟩)
      | false =>
        rw [hno (by rw [hg, hb])]
        repeat (first | refine wk ?_)
        exact fin
  · rw [show inAll xs is = true by
      rw [inAll, List.all_eq_true]; intro x h
      obtain ⟨j, hj, rfl⟩ := List.getElem_of_mem h
      exact hp j (by omega) hj]
    repeat (first | refine wk ?_)
    exact fin
theorem listOf_sim {t : Bool} {is : List Bool} (hi : is.length ≤ 100000000 := by ((try simp only [List.length_map, List.length_append, List.length_cons, List.length_nil, List.length_replicate, List.length_set, List.length_take, List.length_drop]); first | omega | assumption)) : ACalls Try.prog 67 [.d (bools t is)] [] (.own 900 (listB is).length) [(900, .row 3 1 ((listB is).map iD))] := by
  refine ACalls.intro (n := 20) Try.func67 rfl rfl (by simp) (by rfl) ?_
  simp only [argFr]
  repeat (first | refine wk ?_)
  refine aw_nil 3 900 3 1 rfl rfl rfl ?_
  refine t_loop (X := Nat) (fun k => k ≤ is.length) (fun k => [(4, I k), (0, .d (bools t is)), (3, .own 900 (listN (setN is) k).length)]) (fun k => [(900, .row 3 1 ((listN (setN is) k).map iD))]) (fun k => is.length - k) 0 (Nat.zero_le _) ?_
  intro k hk
  have hl := listN_le (setN is) k
  by_cases hlt : k < is.length
  · have e := listN_snoc (setN is) k
    rw [setN_bit, List.getD_eq_getElem?_getD, List.getElem?_eq_getElem hlt, Option.getD_some] at e
    cases hb : is[k] with
    | true =>
      rw [hb, if_pos rfl] at e
      repeat (first | refine wk ?_)
      exact t_next (k + 1)
    | false =>
      rw [hb, if_neg (by decide), List.append_nil] at e
      repeat (first | refine wk ?_)
      exact t_next (k + 1)
  · rw [listN_set (show is.length ≤ k by omega)]
    repeat (first | refine wk ?_)
    exact fin
theorem put_row {is : List Bool} {v : Int} : (is.map bD).set v.toNat (bD true) = (put is v).map bD := by rw [put, List.map_set]
theorem rep_bools (n : Nat) : List.replicate n (bD false) = (List.replicate n false).map bD := by simp
set_option maxHeartbeats 400000 in
theorem nullOf_sim {t : Bool} {g : Gram} (hg : g.ok) : ACalls Try.prog 68 [.d (gramD t g)] [] (.own 8 g.vars.toNat) [(8, .row 4 1 ((leftsOf false g).map bD))] := by
  refine ACalls.intro (n := 39) Try.func68 rfl rfl (by simp) (by rfl) ?_
  simp only [argFr]
  have hv := hg.vars
  have hv1 := hg.vars1
  have hlen := hg.rules
  obtain ⟨N, hN⟩ : ∃ N : Nat, g.vars = (N : Int) := ⟨g.vars.toNat, by omega⟩
  have hNt : g.vars.toNat = N := by omega
  rw [hNt]
  have hnl := none_length g
  have e : List.replicate N (zeroD (.bool false)) = (List.replicate N false).map bD := by rw [List.map_replicate]; rfl
  repeat (first | refine wk ?_)
  refine t_loop (X := Nat × List Bool) (fun x => x.1 ≤ N ∧ leftsOf false g = iter (pass false g.rules) (N - x.1) x.2 ∧ x.2.length = N) (fun x => [(4, I x.1), (3, .own 8 N), (1, .ptr 1 0)]) (fun x => [(1, gramBox t g), (8, .row 4 1 (x.2.map bD))]) (fun x => N - x.1) (0, List.replicate N false) ⟨Nat.zero_le _, by rw [leftsOf, full, hnl, hNt, none_, hNt]; rfl, by simp⟩ ?_
  clear e
  rintro ⟨n, is⟩ ⟨h1, h2, h3⟩
  dsimp only at h1 h2 h3 ⊢
  by_cases hn : n < N
  · rw [show N - n = (N - (n + 1)) + 1 by omega, iter] at h2
    repeat (first | refine wk ?_)
    refine t_loop (X := Nat × List Bool) (fun x => x.1 ≤ g.rules.length ∧ pass false g.rules is = pass false (g.rules.drop x.1) x.2 ∧ x.2.length = N) (fun x => [(5, I x.1), (4, I n), (3, .own 8 N), (1, .ptr 1 0)]) (fun x => [(1, gramBox t g), (8, .row 4 1 (x.2.map bD))]) (fun x => g.rules.length - x.1) (0, is) ⟨Nat.zero_le _, rfl, h3⟩ ?_
    rintro ⟨i, js⟩ ⟨k1, k2, k3⟩
    dsimp only at k1 k2 k3 ⊢
    by_cases hlt : i < g.rules.length
    · have hmem := List.getElem_mem hlt
      have a1 := hg.left0 _ hmem
      have a2 := hg.left _ hmem
      have a3 := hg.right _ hmem
      have a4 := hg.hi _ hmem
      have hp := pass_at (t := false) (is := js) hlt
      have e := put_row (is := js) (v := g.rules[i].left)
      have hlk : g.rules[i].left = ((g.rules[i].left.toNat : Nat) : Int) := by omega
      have hin : ∀ x ∈ g.rules[i].right, x < js.length := fun x hx => by have := a4 x hx; omega
      repeat (first | refine wk ?_)
      refine s_call [] (hA := allIn_sim (t := t) (u := true) (xs := g.rules[i].right) (is := js) hin) (hr := ?_)
      cases hc : inAll g.rules[i].right js with
      | true =>
        have ho : one1 false g.rules[i] js = put js g.rules[i].left := by rw [one1, asks, cond_false, hc]; rfl
        rw [ho] at hp
        repeat (first | refine wk ?_)
        exact t_next (i + 1, put js g.rules[i].left) (a := ⟨by omega, k2.trans hp, by rw [put_length]; exact k3⟩) (b := by dsimp only; omega)
      | false =>
        have ho : one1 false g.rules[i] js = js := by rw [one1, asks, cond_false, hc]; rfl
        rw [ho] at hp
        repeat (first | refine wk ?_)
        exact t_next (i + 1, js) (a := ⟨by omega, k2.trans hp, k3⟩) (b := by dsimp only; omega)
    · rw [pass_out hlt] at k2
      repeat (first | refine wk ?_)
      exact t_next (n + 1, js) (a := ⟨by omega, by dsimp only; rw [h2, k2], k3⟩) (b := by dsimp only; omega)
  · rw [show N - n = 0 by omega, iter] at h2
    rw [h2]
    repeat (first | refine wk ?_)
    exact fin
set_option maxHeartbeats 400000 in
theorem goodOf_sim {t : Bool} {g : Gram} (hg : g.ok) : ACalls Try.prog 59 [.d (gramD t g)] [] (.own 8 g.vars.toNat) [(8, .row 4 1 ((leftsOf true g).map bD))] := by
  refine ACalls.intro (n := 40) Try.func59 rfl rfl (by simp) (by rfl) ?_
  simp only [argFr]
  have hv := hg.vars
  have hv1 := hg.vars1
  have hlen := hg.rules
  obtain ⟨N, hN⟩ : ∃ N : Nat, g.vars = (N : Int) := ⟨g.vars.toNat, by omega⟩
  have hNt : g.vars.toNat = N := by omega
  rw [hNt]
  have hnl := none_length g
  have e : List.replicate N (zeroD (.bool false)) = (List.replicate N false).map bD := by rw [List.map_replicate]; rfl
  repeat (first | refine wk ?_)
  refine t_loop (X := Nat × List Bool) (fun x => x.1 ≤ N ∧ leftsOf true g = iter (pass true g.rules) (N - x.1) x.2 ∧ x.2.length = N) (fun x => [(4, I x.1), (3, .own 8 N), (1, .ptr 1 0)]) (fun x => [(1, gramBox t g), (8, .row 4 1 (x.2.map bD))]) (fun x => N - x.1) (0, List.replicate N false) ⟨Nat.zero_le _, by rw [leftsOf, full, hnl, hNt, none_, hNt]; rfl, by simp⟩ ?_
  clear e
  rintro ⟨n, is⟩ ⟨h1, h2, h3⟩
  dsimp only at h1 h2 h3 ⊢
  by_cases hn : n < N
  · rw [show N - n = (N - (n + 1)) + 1 by omega, iter] at h2
    repeat (first | refine wk ?_)
    refine t_loop (X := Nat × List Bool) (fun x => x.1 ≤ g.rules.length ∧ pass true g.rules is = pass true (g.rules.drop x.1) x.2 ∧ x.2.length = N) (fun x => [(5, I x.1), (4, I n), (3, .own 8 N), (1, .ptr 1 0)]) (fun x => [(1, gramBox t g), (8, .row 4 1 (x.2.map bD))]) (fun x => g.rules.length - x.1) (0, is) ⟨Nat.zero_le _, rfl, h3⟩ ?_
    rintro ⟨i, js⟩ ⟨k1, k2, k3⟩
    dsimp only at k1 k2 k3 ⊢
    by_cases hlt : i < g.rules.length
    · have hmem := List.getElem_mem hlt
      have a1 := hg.left0 _ hmem
      have a2 := hg.left _ hmem
      have a3 := hg.right _ hmem
      have a4 := hg.hi _ hmem
      have hkl := kids_le g.rules[i].right
      have hp := pass_at (t := true) (is := js) hlt
      have e := put_row (is := js) (v := g.rules[i].left)
      have hlk : g.rules[i].left = ((g.rules[i].left.toNat : Nat) : Int) := by omega
      have hin : ∀ x ∈ kids g.rules[i].right, x < js.length := fun x hx => by have := a4 x (kids_mem hx); omega
      repeat (first | refine wk ?_)
      refine s_call [(3, 900)] (hA := kidsOf_sim) (hr := ?_)
      repeat (first | refine wk ?_)
      refine s_call [] (hA := allIn_sim (t := true) (u := true) (xs := kids g.rules[i].right) (is := js) hin) (hr := ?_)
      cases hc : inAll (kids g.rules[i].right) js with
      | true =>
        have ho : one1 true g.rules[i] js = put js g.rules[i].left := by rw [one1, asks, cond_true, hc]; rfl
        rw [ho] at hp
        repeat (first | refine wk ?_)
        exact t_next (i + 1, put js g.rules[i].left) (a := ⟨by omega, k2.trans hp, by rw [put_length]; exact k3⟩) (b := by dsimp only; omega)
      | false =>
        have ho : one1 true g.rules[i] js = js := by rw [one1, asks, cond_true, hc]; rfl
        rw [ho] at hp
        repeat (first | refine wk ?_)
        exact t_next (i + 1, js) (a := ⟨by omega, k2.trans hp, k3⟩) (b := by dsimp only; omega)
    · rw [pass_out hlt] at k2
      repeat (first | refine wk ?_)
      exact t_next (n + 1, js) (a := ⟨by omega, by dsimp only; rw [h2, k2], k3⟩) (b := by dsimp only; omega)
  · rw [show N - n = 0 by omega, iter] at h2
    rw [h2]
    repeat (first | refine wk ?_)
    exact fin
end Go.Proofs.Ytpaeihifcmohkaa
