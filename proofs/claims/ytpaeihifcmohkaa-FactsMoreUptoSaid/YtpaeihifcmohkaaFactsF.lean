/-
  Sim: ReachedOf.
-/
import Derived.Test.YtpaeihifcmohkaaFactsE
set_option linter.unusedVariables false
set_option linter.unusedSimpArgs false
namespace Go.Proofs.Ytpaeihifcmohkaa
open Go.RowKit
set_option maxRecDepth 100000

def partBy (f : List Int → List Int) (g : Gram) (v : Int) (k : Nat) : List Int := ((by_ g v).take k).flatMap fun i => f (rightAt g i)
theorem partBy_zero (f : List Int → List Int) (g : Gram) (v : Int) : partBy f g v 0 = [] := rfl
theorem partBy_succ {f : List Int → List Int} {g : Gram} {v : Int} {k : Nat} (h : k < (by_ g v).length) : partBy f g v (k + 1) = partBy f g v k ++ f (rightAt g (by_ g v)[k]) := by
  rw [partBy, List.take_succ_eq_append_getElem h, List.flatMap_append]; simp [partBy]
theorem partBy_all {f : List Int → List Int} {g : Gram} {v : Int} {k : Nat} (h : ¬ k < (by_ g v).length) : partBy f g v k = overBy f g v := by
  rw [partBy, List.take_of_length_le (by omega)]; rfl
theorem partBy_le {f : List Int → List Int} {g : Gram} (hg : g.ok) (hf : ∀ xs : List Int, (f xs).length ≤ xs.length) (v : Int) (k : Nat) : (partBy f g v k).length ≤ 1600 := by
  have h : (overBy f g v).length = (partBy f g v k).length + (((by_ g v).drop k).flatMap fun i => f (rightAt g i)).length := by
    rw [partBy, ← List.length_append, ← List.flatMap_append, List.take_append_drop]; rfl
  have := overBy_le hg hf v
  omega
theorem by_at {g : Gram} {v : Int} {k : Nat} (h : k < (by_ g v).length) : ∃ m : Nat, ∃ hm : m < g.rules.length, (by_ g v)[k] = (m : Int) ∧ rightAt g (by_ g v)[k] = g.rules[m].right := by
  obtain ⟨m, hm, e, _⟩ := by_mem.1 (List.getElem_mem h)
  exact ⟨m, hm, e, by rw [e, rightAt_nat hm]⟩
set_option maxHeartbeats 600000 in
theorem reachedOf_sim {t : Bool} {g : Gram} (hg : g.ok) : ACalls Try.prog 60 [.d (gramD t g)] [] (.own 10 g.vars.toNat) [(10, .row 4 1 ((reachOf g).map bD))] := by
  refine ACalls.intro (n := 51) Try.func60 rfl rfl (by simp) (by rfl) ?_
  simp only [argFr]
  have hv := hg.vars
  have hv1 := hg.vars1
  have hs0 := hg.start0
  have hs1 := hg.start
  have hlen := hg.rules
  have hW := reach_whole hg
  have hRl := reachOf_len g
  obtain ⟨N, hN⟩ : ∃ N : Nat, g.vars = (N : Int) := ⟨g.vars.toNat, by omega⟩
  have hNt : g.vars.toNat = N := by omega
  rw [hNt] at hRl ⊢
  have e : List.replicate N (zeroD (.bool false)) = (List.replicate N false).map bD := by rw [List.map_replicate]; rfl
  have hb0 : Bfs (overBy kids g) [g.start] (reachOf g) [g.start] (List.replicate N false) := by have := Bfs.start hW; rwa [hRl] at this
  repeat (first | refine wk ?_)
  refine aw_mv 4 900 rfl rfl rfl rfl rfl ?_
  refine t_loop (X := List Int × List Bool) (fun x => Bfs (overBy kids g) [g.start] (reachOf g) x.1 x.2 ∧ bfsM N 1600 x.1 x.2 ≤ 200000) (fun x => [(4, .own 900 x.1.length), (3, .own 10 N), (1, .ptr 1 0)]) (fun x => [(1, gramBox t g), (900, .row 3 1 (x.1.map iD)), (10, .row 4 1 (x.2.map bD))]) (fun x => bfsM N 1600 x.1 x.2) ([g.start], List.replicate N false) ⟨hb0, by
    have : (N - cntB (List.replicate N false)) * (1600 + 1) ≤ 64 * 1601 := Nat.mul_le_mul (by omega) (Nat.le_refl _)
    simp only [bfsM, List.length_cons, List.length_nil]; omega⟩ ?_
  clear e hb0
  rintro ⟨todo, is⟩ ⟨hB, hM⟩
  dsimp only at hB hM ⊢
  have hil := hB.sub.len
  have htl : todo.length ≤ 200000 := by unfold bfsM at hM; omega
  cases todo with
  | nil =>
    have := hB.done hW
    subst this
    repeat (first | refine wk ?_)
    exact fin
  | cons v rest =>
    have hvR := hB.open_ v (by simp)
    obtain ⟨b0, b1⟩ := has_lt hvR
    obtain ⟨m, rfl⟩ : ∃ m : Nat, v = (m : Int) := ⟨v.toNat, by omega⟩
    have hmN : m < N := by omega
    have hmi : m < is.length := by omega
    have hgt := has_get (is := is) (x := (m : Int)) rfl hmi
    have hlc : ((m : Int) :: rest).length = rest.length + 1 := rfl
    have hrl : rest.length ≤ 200000 := by omega
    repeat (first | refine wk ?_)
    refine d_slide TY 901 rfl gOk_none rfl rfl (by simp) rfl rfl rfl (by simp) rfl rfl rfl rfl ?_
    refine s_assign (hr := ?_)
    refine dops_end ?_
    refine andThen_n ?_
    refine aw_weak [(5, I m), (4, .own 901 rest.length), (3, .own 10 N), (1, .ptr 1 0)] [(901, .row 3 1 (rest.map iD)), (1, gramBox t g), (10, .row 4 1 (is.map bD))] (by repeat' (first | exact trivial | exact VLe.refl _ | refine And.intro ?_ ?_)) (by repeat' (first | exact trivial | exact HElt.of rfl | refine And.intro ?_ ?_)) rfl ?_
    refine aw_mv 4 900 rfl rfl (by simp) rfl rfl ?_
    cases hb : is[m] with
    | true =>
      repeat (first | refine wk ?_)
      exact t_next (rest, is) (a := ⟨hB.skip (by rw [hgt, hb]), by have := bfsM_skip (todo := rest) (is := is) (V := N) (K := 1600) (v := (m : Int)); dsimp only; omega⟩) (b := by dsimp only; exact bfsM_skip)
    | false =>
      have hBm := hB.mark hW
      have hKl := overBy_le hg kids_le (m : Int)
      have hMm := bfsM_mark hB (by rw [hgt, hb]) (hil.trans hRl) hKl
      have e := put_row (is := is) (v := (m : Int))
      have hbl := byR_le (m : Int) g.rules 0
      have hbl2 : (by_ g (m : Int)).length ≤ g.rules.length := hbl
      repeat (first | refine wk ?_)
      refine s_call [(5, 902)] (hA := rulesOf_sim) (hr := ?_)
      repeat (first | refine wk ?_)
      refine t_loop (X := Nat × List Int) (fun x => x.1 ≤ (by_ g (m : Int)).length ∧ x.2 = rest ++ partBy kids g m x.1) (fun x => [(7, I x.1), (6, .own 902 (by_ g (m : Int)).length), (4, .own 900 x.2.length), (3, .own 10 N), (1, .ptr 1 0)]) (fun x => [(1, gramBox t g), (900, .row 3 1 (x.2.map iD)), (902, .row 3 1 ((by_ g (m : Int)).map iD)), (10, .row 4 1 ((put is m).map bD))]) (fun x => (by_ g (m : Int)).length - x.1) (0, rest) ⟨Nat.zero_le _, by rw [partBy_zero, List.append_nil]⟩ ?_
      clear e
      rintro ⟨k, T⟩ ⟨hk, hT⟩
      dsimp only at hk hT ⊢
      by_cases hkt : k < (by_ g (m : Int)).length
      · obtain ⟨q, hq, hqe, hqr⟩ := by_at hkt
        have hps := partBy_succ (f := kids) hkt
        rw [hqr] at hps
        have hTl : T.length ≤ 400000 := by have := partBy_le hg kids_le (m : Int) k; rw [hT, List.length_append]; omega
        have a3 := hg.right _ (List.getElem_mem hq)
        have hkl := kids_le g.rules[q].right
        have e : T ++ kids g.rules[q].right = rest ++ partBy kids g m (k + 1) := by rw [hps, hT, List.append_assoc]
        repeat (first | refine wk ?_)
        refine s_call [(3, 903)] (hA := kidsOf_sim) (hr := ?_)
        repeat (first | refine wk ?_)
        exact t_next (k + 1, T ++ kids g.rules[q].right) (a := ⟨by omega, e⟩) (b := by dsimp only; omega)
      · rw [partBy_all hkt] at hT
        subst hT
        repeat (first | refine wk ?_)
        exact t_next (rest ++ overBy kids g m, put is m) (a := ⟨hBm, by dsimp only; omega⟩) (b := hMm)
end Go.Proofs.Ytpaeihifcmohkaa
