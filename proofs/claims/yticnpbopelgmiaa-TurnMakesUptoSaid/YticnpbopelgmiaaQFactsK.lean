/-
  Sim: the reference's: stepsTo, ledTo. Sim: CyclicOf, CornersOf. Sim: factor's common, head, tail. Sim: slices.Index, slices.Contains of whole numbers. Sim: the factorer's step. Sim: factor.Make.
-/
import Derived.Test.YticnpbopelgmiaaF2
import Derived.Test.YticnpbopelgmiaaQFactorA
import Derived.Test.YticnpbopelgmiaaG1
set_option linter.unusedVariables false
set_option linter.unusedSimpArgs false
set_option linter.unusedSectionVars false
namespace Go.Proofs.Yticnpbopelgmiaa
open Go.RowKit
set_option maxRecDepth 100000

theorem picksAll_le (null : List Bool) (c : Bool) (xs : List Int) : (picksAll null c xs).length ≤ xs.length := picks_le null c xs _
set_option maxHeartbeats 1000000 in
theorem stepsTo_sim {t u : Bool} {g : Gram} (hg : g.ok) {null : List Bool} (hn : (null.length : Int) = g.vars) {v : Int} {c : Bool} :
    ACalls Try.prog 150 [.d (gramD t g), .d (bools u null), I v, B c] [] (.own 901 (stepsOf c g null v).length) [(901, .row 3 1 ((stepsOf c g null v).map iD))] := by
  refine ACalls.intro (n := 69) Try.func150 rfl rfl (by simp) (by rfl) ?_
  simp only [argFr]
  have hv := hg.vars
  have hlen := hg.rules
  have hbl : (by_ g v).length ≤ g.rules.length := byR_le v g.rules 0
  have hpl := fun k => partBy_le hg (picksAll_le null c) v k
  repeat (first | refine wk ?_)
  refine s_call [(5, 902)] (hA := rulesOf_sim) (hr := ?_)
  repeat (first | refine wk ?_)
  refine aw_nil 9 901 3 1 rfl rfl rfl ?_
  refine t_loop (X := Nat × List Int) (fun x => x.1 ≤ (by_ g v).length ∧ x.2 = partBy (picksAll null c) g v x.1) (fun x => [(11, I x.1), (10, .own 902 (by_ g v).length), (9, .own 901 x.2.length), (4, .ptr 4 0), (1, .d (bools u null)), (3, B c)]) (fun x => [(4, gramBox t g), (902, .row 3 1 ((by_ g v).map iD)), (901, .row 3 1 (x.2.map iD))]) (fun x => (by_ g v).length - x.1) (0, []) ⟨Nat.zero_le _, rfl⟩ ?_
  rintro ⟨i, T⟩ ⟨h1, h2⟩
  dsimp only at h1 h2 ⊢
  by_cases hlt : i < (by_ g v).length
  · obtain ⟨q, hq, hqe, hqr⟩ := by_at hlt
    have hps := partBy_succ (f := picksAll null c) hlt
    rw [hqr] at hps
    have hTl := hpl i
    rw [← h2] at hTl hps
    have a3 := hg.right _ (List.getElem_mem hq)
    have a4 := hg.hi _ (List.getElem_mem hq)
    generalize hre : g.rules[q].right = R at a3 a4 hps hqr
    repeat (first | refine wk ?_)
    rw [hre]
    refine t_loop (X := Nat × List Int) (fun x => x.1 ≤ R.length ∧ x.2 = T ++ picks null c R x.1) (fun x => [(13, I x.1), (12, .d (ints t R)), (11, I i), (10, .own 902 (by_ g v).length), (9, .own 901 x.2.length), (4, .ptr 4 0), (1, .d (bools u null)), (3, B c)]) (fun x => [(4, gramBox t g), (902, .row 3 1 ((by_ g v).map iD)), (901, .row 3 1 (x.2.map iD))]) (fun x => R.length - x.1) (0, T) ⟨Nat.zero_le _, by simp [picks]⟩ ?_
    rintro ⟨k, A⟩ ⟨k1, k2⟩
    dsimp only at k1 k2 ⊢
    by_cases hkt : k < R.length
    · have hAl : A.length ≤ 100000 := by have := picks_le null c R k; rw [k2, List.length_append]; omega
      have hgd : R.getD k 0 = R[k] := by simp [List.getD_eq_getElem?_getD, hkt]
      have hA1 := allIn_sim (t := t) (u := u) (xs := R.take k) (is := null) (fun x hx => by have := a4 x (List.mem_of_mem_take hx); omega) (by simp; omega) (by omega)
      have e1 : ints t (R.take k) = .sl t 1 ((R.map iD).take k) := by rw [← List.map_take]
      rw [e1] at hA1
      have hA2 := allIn_sim (t := t) (u := u) (xs := R.drop (k + 1)) (is := null) (fun x hx => by have := a4 x (List.mem_of_mem_drop hx); omega) (by simp; omega) (by omega)
      have e2 : ints t (R.drop (k + 1)) = .sl t 1 (((R.map iD).take (R.map iD).length).drop (k + 1)) := by rw [List.take_length, ← List.map_drop]
      rw [e2] at hA2
      have hyes : pickAt null c R k = true → A ++ [R[k]] = T ++ picks null c R (k + 1) := fun h => by rw [picks, if_pos h, hgd, k2, List.append_assoc]
      have hno : pickAt null c R k = false → A = T ++ picks null c R (k + 1) := fun h => by rw [picks, if_neg (by rw [h]; simp), List.append_nil, k2]
      have hpk : pickAt null c R k = (decide (0 ≤ R[k]) && (inAll (R.take k) null && (c || inAll (R.drop (k + 1)) null))) := by rw [pickAt, hgd]
      by_cases h0 : 0 ≤ R[k]
      · rw [decide_eq_true h0, Bool.true_and] at hpk
        repeat (first | refine wkz ?_ | refine s_field (hr := ?_))
        refine s_call [] (hA := hA1) (hr := ?_)
        cases hb : inAll (R.take k) null with
        | false =>
          rw [hb, Bool.false_and] at hpk
          repeat (first | refine wkz ?_ | refine s_field (hr := ?_))
          exact t_next (k + 1, A) (a := ⟨by omega, hno hpk⟩) (b := by dsimp only; omega)
        | true =>
          rw [hb, Bool.true_and] at hpk
          cases c with
          | true =>
            repeat (first | refine wkz ?_ | refine s_field (hr := ?_))
            exact t_next (k + 1, A ++ [R[k]]) (a := ⟨by omega, hyes hpk⟩) (b := by dsimp only; omega)
          | false =>
            repeat (first | refine wkz ?_ | refine s_field (hr := ?_))
            refine s_call [] (hA := hA2) (hr := ?_)
            cases hb2 : inAll (R.drop (k + 1)) null with
            | true =>
              rw [hb2] at hpk
              repeat (first | refine wkz ?_ | refine s_field (hr := ?_))
              exact t_next (k + 1, A ++ [R[k]]) (a := ⟨by omega, hyes hpk⟩) (b := by dsimp only; omega)
            | false =>
              rw [hb2] at hpk
              repeat (first | refine wkz ?_ | refine s_field (hr := ?_))
              exact t_next (k + 1, A) (a := ⟨by omega, hno hpk⟩) (b := by dsimp only; omega)
      · rw [decide_eq_false h0, Bool.false_and] at hpk
        repeat (first | refine wkz ?_ | refine s_field (hr := ?_))
        exact t_next (k + 1, A) (a := ⟨by omega, hno hpk⟩) (b := by dsimp only; omega)
    · obtain rfl : k = R.length := by omega
      have e : A = partBy (picksAll null c) g v (i + 1) := by rw [k2, hps]; rfl
      repeat (first | refine wk ?_)
      exact t_next (i + 1, A) (a := ⟨by omega, e⟩) (b := by dsimp only; omega)
  · rw [partBy_all hlt] at h2
    subst h2
    repeat (first | refine wk ?_)
    exact fin
set_option maxHeartbeats 1000000 in
theorem ledTo_sim {t u : Bool} {g : Gram} (hg : g.ok) {v : Int} {c : Bool} (h0 : 0 ≤ v) (h1 : v < g.vars) :
    ACalls Try.prog 102 [.d (gramD t g), .d (bools u (leftsOf false g)), I v, B c] [] (.own 14 g.vars.toNat) [(14, .row 4 1 ((rowM (ledM c g) v).map bD))] := by
  refine ACalls.intro (n := 44) Try.func102 rfl rfl (by simp) (by rfl) ?_
  simp only [argFr]
  have hv := hg.vars
  have hv1 := hg.vars1
  have hlen := hg.rules
  have hnl := leftsOf_len (t := false) hg
  have hW := led_whole (c := c) hg h0 h1
  have hRl := (ledM_sq (c := c) hg).at h0 (by omega)
  have hnN : ((leftsOf false g).length : Int) = g.vars := by omega
  generalize leftsOf false g = null at hnl hW hnN ⊢
  generalize rowM (ledM c g) v = Rr at hW hRl ⊢
  obtain ⟨N, hN⟩ : ∃ N : Nat, g.vars = (N : Int) := ⟨g.vars.toNat, by omega⟩
  have hNt : g.vars.toNat = N := by omega
  rw [hNt] at hRl ⊢
  have hKl := fun x => overBy_le hg (picksAll_le null c) x
  have hst := fun x => stepsTo_sim (t := t) (u := u) hg hnN (v := x) (c := c)
  have e : List.replicate N (zeroD (.bool false)) = (List.replicate N false).map bD := by rw [List.map_replicate]; rfl
  have hb0 : Bfs (stepsOf c g null) (stepsOf c g null v) Rr (stepsOf c g null v) (List.replicate N false) := by have := Bfs.start hW; rwa [hRl] at this
  have hK0 := hKl v
  repeat (first | refine wk ?_)
  refine s_call [(901, 900)] (hA := hst v) (hr := ?_)
  repeat (first | refine wk ?_)
  refine t_loop (X := List Int × List Bool) (fun x => Bfs (stepsOf c g null) (stepsOf c g null v) Rr x.1 x.2 ∧ bfsM N 1600 x.1 x.2 ≤ 200000) (fun x => [(10, .own 900 x.1.length), (9, .own 14 N), (4, .ptr 4 0), (1, .d (bools u null)), (3, B c)]) (fun x => [(4, gramBox t g), (900, .row 3 1 (x.1.map iD)), (14, .row 4 1 (x.2.map bD))]) (fun x => bfsM N 1600 x.1 x.2) (stepsOf c g null v, List.replicate N false) ⟨hb0, by
    have : (N - cntB (List.replicate N false)) * (1600 + 1) ≤ 64 * 1601 := Nat.mul_le_mul (by omega) (Nat.le_refl _)
    have : (stepsOf c g null v).length ≤ 1600 := hK0
    simp only [bfsM]; omega⟩ ?_
  clear e hb0
  rintro ⟨todo, is⟩ ⟨hB, hM⟩
  dsimp only at hB hM ⊢
  have hil := hB.sub.len
  have htl : todo.length ≤ 200000 := by unfold bfsM at hM; omega
  cases todo with
  | nil =>
    have := hB.done hW
    subst this
    repeat (first | refine wk ?_)
    exact fin
  | cons x rest =>
    have hvR := hB.open_ x (by simp)
    obtain ⟨b0, b1⟩ := has_lt hvR
    obtain ⟨m, rfl⟩ : ∃ m : Nat, x = (m : Int) := ⟨x.toNat, by omega⟩
    have hmN : m < N := by omega
    have hmi : m < is.length := by omega
    have hgt := has_get (is := is) (x := (m : Int)) rfl hmi
    have hlc : ((m : Int) :: rest).length = rest.length + 1 := rfl
    have hrl : rest.length ≤ 200000 := by omega
    repeat (first | refine wk ?_)
    refine d_slide TY 903 rfl gOk_none rfl rfl (by simp) rfl rfl rfl (by simp) rfl rfl rfl rfl ?_
    refine s_assign (hr := ?_)
    refine dops_end ?_
    refine andThen_n ?_
    refine aw_weak [(11, I m), (10, .own 903 rest.length), (9, .own 14 N), (4, .ptr 4 0), (1, .d (bools u null)), (3, B c)] [(903, .row 3 1 (rest.map iD)), (4, gramBox t g), (14, .row 4 1 (is.map bD))] (by repeat' (first | exact trivial | exact VLe.refl _ | refine And.intro ?_ ?_)) (by repeat' (first | exact trivial | exact HElt.of rfl | refine And.intro ?_ ?_)) rfl ?_
    refine aw_mv 10 900 rfl rfl (by simp) rfl rfl ?_
    cases hb : is[m] with
    | true =>
      repeat (first | refine wk ?_)
      exact t_next (rest, is) (a := ⟨hB.skip (by rw [hgt, hb]), by have := bfsM_skip (todo := rest) (is := is) (V := N) (K := 1600) (v := (m : Int)); dsimp only; omega⟩) (b := by dsimp only; exact bfsM_skip)
    | false =>
      have hBm := hB.mark hW
      have hKm := hKl (m : Int)
      have hMm := bfsM_mark hB (by rw [hgt, hb]) (hil.trans hRl) hKm
      have e := put_row (is := is) (v := (m : Int))
      have hKm2 : (stepsOf c g null m).length ≤ 1600 := hKm
      repeat (first | refine wk ?_)
      refine s_call [(901, 902)] (hA := hst (m : Int)) (hr := ?_)
      repeat (first | refine wk ?_)
      exact t_next (rest ++ stepsOf c g null m, put is m) (a := ⟨hBm, by dsimp only; omega⟩) (b := hMm)
end Go.Proofs.Yticnpbopelgmiaa
namespace Go.Proofs.Yticnpbopelgmiaa
open Go.RowKit
set_option maxRecDepth 100000

theorem bD_clean (x : Bool) : (bD x).clean := trivial
theorem bools_clean (xs : List Bool) : D.cleans (xs.map bD) := cleans_map bD_clean xs
theorem cyclicOf_sim {t : Bool} {g : Gram} (hg : g.ok) : ACalls Try.prog 42 [.d (gramD t g)] [] (.d (ints false (selfN (ledM false g) g.vars.toNat))) [] := by
  refine ACalls.intro (n := 26) Try.func42 rfl rfl (by simp) (by rfl) ?_
  simp only [argFr]
  have hv := hg.vars
  have hv1 := hg.vars1
  have hnl := leftsOf_len (t := false) hg
  have hno := nullOf_sim (t := t) hg
  have hlq := ledM_sq (c := false) hg
  have hlql := hlq.len
  obtain ⟨N, hN⟩ : ∃ N : Nat, g.vars = (N : Int) := ⟨g.vars.toNat, by omega⟩
  have hNt : g.vars.toNat = N := by omega
  rw [hNt] at hno hnl hlql hlq ⊢
  repeat (first | refine wk ?_)
  refine s_call [(8, 900)] (hA := hno) (hr := ?_)
  repeat (first | refine wk ?_)
  refine aw_nil 4 902 3 1 rfl rfl rfl ?_
  refine t_loop (X := Nat) (fun k => k ≤ N) (fun k => [(5, I k), (3, .own 900 N), (4, .own 902 (selfN (ledM false g) k).length), (1, .ptr 1 0)]) (fun k => [(1, gramBox t g), (900, .row 4 1 ((leftsOf false g).map bD)), (902, .row 3 1 ((selfN (ledM false g) k).map iD))]) (fun k => N - k) 0 (Nat.zero_le _) ?_
  intro k hk
  have hsl := selfN_le (ledM false g) k
  by_cases hkN : k < N
  · have hkL : k < (ledM false g).length := by omega
    have e := selfN_snoc (ledM false g) k
    have hled := ledTo_sim (t := t) (u := true) hg (v := (k : Int)) (c := false) (by omega) (by omega)
    have hrl : (rowM (ledM false g) k).length = N := hlq.at (by omega) (by omega)
    rw [hNt] at hled
    generalize rowM (ledM false g) k = R at hled hrl e
    have hkR : k < R.length := by omega
    have hhr := has_get (is := R) (x := (k : Int)) rfl hkR
    rw [hhr] at e
    cases hb : R[k] with
    | true =>
      rw [hb, if_pos rfl] at e
      repeat (first | refine wk ?_)
      refine s_call [(14, 901)] (hA := hled) (hcl := by refine Or.inr ⟨?_, ?_⟩ <;> simp [V.clean, V.cleans, D.clean, D.cleans, HpClean, Ob.clean, bools_clean]) (hr := ?_)
      repeat (first | refine wk ?_)
      exact t_next (k + 1)
    | false =>
      rw [hb, if_neg (by decide), List.append_nil] at e
      repeat (first | refine wk ?_)
      refine s_call [(14, 901)] (hA := hled) (hcl := by refine Or.inr ⟨?_, ?_⟩ <;> simp [V.clean, V.cleans, D.clean, D.cleans, HpClean, Ob.clean, bools_clean]) (hr := ?_)
      repeat (first | refine wk ?_)
      exact t_next (k + 1)
  · obtain rfl : k = N := by omega
    refine aw_froz 902 rfl ?_
    repeat (first | refine wk ?_)
    exact fin
end Go.Proofs.Yticnpbopelgmiaa
namespace Go.Proofs.Yticnpbopelgmiaa
open Go.RowKit
set_option maxRecDepth 100000
-- SimX

end Go.Proofs.Yticnpbopelgmiaa
namespace Go.Proofs.Yticnpbopelgmiaa
open Go.RowKit
set_option maxRecDepth 100000

end Go.Proofs.Yticnpbopelgmiaa
namespace Go.Proofs.Yticnpbopelgmiaa
open Go.RowKit
set_option maxRecDepth 100000
-- SimX

end Go.Proofs.Yticnpbopelgmiaa
namespace Go.Proofs.Yticnpbopelgmiaa
open Go.RowKit
set_option maxRecDepth 100000
-- SimX

def Wide (all : List (List Work)) : Prop := ∀ l ∈ all, l.length ≤ 160
theorem by_len (g : Gram) (v : Int) : (by_ g v).length ≤ g.rules.length := byR_le v g.rules 0
/-- What is left of the last loop. -/
def finC (z : List (List Work)) (v : Nat) (l : List Work) (R : List Rule) (F : List (List Frag)) : Except Nat (List Rule × List (List Frag)) := match finL v l R F with
  | none => .error v
  | some x => finW (z.drop (v + 1)) (v + 1) x.1 x.2
theorem finW_at {z : List (List Work)} {v : Nat} (h : v < z.length) (R : List Rule) (F : List (List Frag)) : finW (z.drop v) v R F = finC z v z[v] R F := by
  rw [List.drop_eq_getElem_cons h, finW, finC]
  cases finL v z[v] R F <;> rfl
theorem finC_nil (z : List (List Work)) (v : Nat) (R : List Rule) (F : List (List Frag)) : finC z v [] R F = finW (z.drop (v + 1)) (v + 1) R F := by rw [finC, finL]
theorem finC_many {z : List (List Work)} {v : Nat} {l : List Work} {i : Nat} (h : i < l.length) {R : List Rule} {F : List (List Frag)} (hm : R.length = 160 ∨ 10 < l[i].right.length) : finC z v (l.drop i) R F = .error v := by
  rw [finC, List.drop_eq_getElem_cons h, finL, if_pos hm]
theorem finC_step {z : List (List Work)} {v : Nat} {l : List Work} {i : Nat} (h : i < l.length) {R : List Rule} {F : List (List Frag)} (hm : ¬ (R.length = 160 ∨ 10 < l[i].right.length)) : finC z v (l.drop i) R F = finC z v (l.drop (i + 1)) (R ++ [⟨(v : Int), l[i].right⟩]) (F ++ [l[i].l]) := by
  rw [finC, List.drop_eq_getElem_cons h, finL, if_neg hm, finC]
end Go.Proofs.Yticnpbopelgmiaa
