/-
  Sim: the reference's alike, grouped, OwnFrag, worksOf, stepOf.
-/
import Derived.Test.YtgcagjamjdnglaaFactorD
set_option linter.unusedVariables false
set_option linter.unusedSimpArgs false
set_option linter.unusedSectionVars false
namespace Go.Proofs.Ytgcagjamjdnglaa
open Go.RowKit
set_option maxRecDepth 100000
-- SimX

theorem alike_sim {t u : Bool} {a b : List Int} (ha : a.length ≤ 100000) (hb : b.length ≤ 100000) :
    ACalls Try.prog 88 [.d (ints t a), .d (ints u b)] [] (I (alikeN a b)) [] := by
  refine ACalls.intro (n := 30) Try.func88 rfl rfl (by simp) (by rfl) ?_
  simp only [argFr]
  have hl := alikeN_le a b
  repeat (first | refine wk ?_ | refine s_field (hr := ?_))
  refine t_loop (X := Nat) (fun n => n ≤ alikeN a b) (fun n => [(5, I n), (0, .d (ints t a)), (1, .d (ints u b))]) (fun _ => []) (fun n => alikeN a b - n) 0 (Nat.zero_le _) ?_
  intro n hn
  by_cases h : n < alikeN a b
  · obtain ⟨h1, h2, h3⟩ := alikeN_get a b n h
    have h3' : decide (a[n] = b[n]) = true := decide_eq_true h3
    repeat (first | refine wk ?_ | refine s_field (hr := ?_))
    exact t_next (n + 1)
  · obtain rfl : n = alikeN a b := by omega
    by_cases h1 : alikeN a b < a.length
    · by_cases h2 : alikeN a b < b.length
      · have h3 : a[alikeN a b] ≠ b[alikeN a b] := by
          rcases alikeN_stop a b with h | h | ⟨_, _, h⟩
          · omega
          · omega
          · exact h
        have h3' : decide (a[alikeN a b] = b[alikeN a b]) = false := decide_eq_false h3
        generalize alikeN a b = m at *
        repeat (first | refine wk ?_ | refine s_field (hr := ?_))
        exact fin
      · generalize alikeN a b = m at *
        (repeat (first | refine wkz ?_ | refine s_field (hr := ?_)))
        exact fin
    · generalize alikeN a b = m at *
      (repeat (first | refine wkz ?_ | refine s_field (hr := ?_)))
      exact fin
set_option maxHeartbeats 4000000 in
theorem grouped_sim {t : Bool} {l : List Work} (hl : l.length ≤ 100000) (hr : ∀ w ∈ l, w.right.length ≤ 100000) :
    ACalls Try.prog 87 [.d (worksD t l)] [] (.d (ints false (groupW l 0))) [] := by
  refine ACalls.intro (n := 42) Try.func87 rfl rfl (by simp) (by rfl) ?_
  simp only [argFr]
  repeat (first | refine wk ?_ | refine s_field (hr := ?_))
  refine t_loop (X := Nat) (fun i => i ≤ l.length ∧ groupW l 0 = groupW (l.drop i) i) (fun i => [(3, I i), (0, .d (worksD t l))]) (fun _ => []) (fun i => l.length - i) 0 ⟨Nat.zero_le _, rfl⟩ ?_
  rintro i ⟨hi, hp⟩
  by_cases hlt : i < l.length
  · have hs := groupW_step hlt
    have hri := hr _ (List.getElem_mem hlt)
    repeat (first | refine wk ?_ | refine s_field (hr := ?_))
    obtain ⟨gl, hgl⟩ : ∃ gl : Nat → List Int, ∀ k, gl k = (i : Int) :: mates l[i].right ((l.drop (i + 1)).take (k - (i + 1))) (i + 1) := ⟨_, fun _ => rfl⟩
    have e : gl (i + 1) = [(i : Int)] := by rw [hgl]; simp [mates]
    refine t_loop (X := Nat) (fun k => i + 1 ≤ k ∧ k ≤ l.length) (fun k => [(5, I k), (4, .own 13 (gl k).length), (3, I i), (0, .d (worksD t l))])
      (fun k => [(13, .row 3 1 ((gl k).map iD))]) (fun k => l.length - k) (i + 1) (by omega) ?_
    clear e
    rintro k ⟨hk1, hk2⟩
    have hml : (gl k).length ≤ l.length := by
      rw [hgl, List.length_cons]
      have := mates_le l[i].right ((l.drop (i + 1)).take (k - (i + 1))) (i + 1)
      simp only [List.length_take, List.length_drop] at this
      omega
    by_cases hlk : k < l.length
    · have hsn : gl (k + 1) = gl k ++ (if alikeH l[i].right l[k].right = true then [(k : Int)] else []) := by rw [hgl, hgl, mates_snoc hlk hk1]; rfl
      have hrk := hr _ (List.getElem_mem hlk)
      have hal := alike_sim (t := t) (u := t) (a := l[i].right) (b := l[k].right) hri hrk
      rw [← alikeN_pos] at hsn
      generalize alikeN l[i].right l[k].right = m at *
      by_cases hm : 0 < m
      · rw [decide_eq_true hm, if_pos rfl] at hsn
        have e := hsn
        repeat (first | refine wk ?_ | refine s_field (hr := ?_))
        refine s_call [] (hA := hal) (hr := ?_)
        repeat (first | refine wk ?_ | refine s_field (hr := ?_))
        exact t_next (k + 1)
      · rw [decide_eq_false hm, if_neg (by decide), List.append_nil] at hsn
        have e := hsn
        repeat (first | refine wk ?_ | refine s_field (hr := ?_))
        refine s_call [] (hA := hal) (hr := ?_)
        repeat (first | refine wk ?_ | refine s_field (hr := ?_))
        exact t_next (k + 1)
    · obtain rfl : k = l.length := by omega
      have he : gl l.length = (i : Int) :: mates l[i].right (l.drop (i + 1)) (i + 1) := by rw [hgl, List.take_of_length_le (by simp)]
      by_cases hm : mates l[i].right (l.drop (i + 1)) (i + 1) = []
      · rw [if_pos hm] at hs
        have hlen : (gl l.length).length = 1 := by rw [he, hm]; rfl
        repeat (first | refine wk ?_ | refine s_field (hr := ?_))
        exact t_next (i + 1) (a := ⟨by omega, hp.trans hs⟩)
      · rw [if_neg hm, ← he] at hs
        have hlen : 1 < (gl l.length).length := by
          rw [he, List.length_cons]
          cases hc : mates l[i].right (l.drop (i + 1)) (i + 1) with
          | nil => exact absurd hc hm
          | cons _ _ => simp
        rw [hp, hs]
        refine aw_froz 13 rfl ?_
        repeat (first | refine wk ?_ | refine s_field (hr := ?_))
        exact fin
  · rw [hp, groupW_end hlt]
    repeat (first | refine wk ?_ | refine s_field (hr := ?_))
    exact fin
theorem refIn_sim {t : Bool} {xs : List Int} {v : Int} (hl : xs.length ≤ 100000) :
    ACalls Try.prog 90 [.d (ints t xs), I v] [] (B (xs.any (fun y => decide (v = y)))) [] := by
  refine ACalls.intro (n := 18) Try.func90 rfl rfl (by simp) (by rfl) ?_
  simp only [argFr]
  repeat (first | refine wk ?_ | refine s_field (hr := ?_))
  refine t_loop (X := Nat) (fun k => k ≤ xs.length ∧ ∀ j (hj : j < xs.length), j < k → decide (v = xs[j]) = false) (fun k => [(5, I k), (0, .d (ints t xs)), (1, I v)]) (fun _ => []) (fun k => xs.length - k) 0 ⟨Nat.zero_le _, by omega⟩ ?_
  rintro k ⟨hk, hp⟩
  by_cases hlt : k < xs.length
  · by_cases hv : xs[k] = v
    · rw [any_at (p := fun y => decide (v = y)) hlt (decide_eq_true hv.symm)]
      repeat (first | refine wk ?_ | refine s_field (hr := ?_))
      exact fin
    · repeat (first | refine wk ?_ | refine s_field (hr := ?_))
      exact t_next (k + 1) (a := ⟨by omega, fun j hj hjk => by
        by_cases e : j = k
        · subst e; exact decide_eq_false (fun h => hv h.symm)
        · exact hp j hj (by omega)⟩)
  · rw [any_none (p := fun y => decide (v = y)) (fun j hj => hp j hj (by omega))]
    repeat (first | refine wk ?_ | refine s_field (hr := ?_))
    exact fin
theorem ownFrag_gen : ∀ (N : Nat) {t : Bool} {l : List Frag}, fszs l < N → fszs l ≤ 100000000 → ACalls Try.prog 73 [.d (fragsD t l)] [] (.d (fragsD false l)) [] := by
  intro N
  induction N with
  | zero => intro t l h; omega
  | succ N ih =>
  intro t l hn hN
  have hl := Nat.le_trans (fszs_len l) hN
  refine ACalls.intro (n := 32) Try.func73 rfl rfl (by simp) (by rfl) ?_
  simp only [argFr]
  repeat (first | refine wk ?_ | refine s_field (hr := ?_))
  refine aw_nil 3 900 114 3 rfl rfl rfl ?_
  refine t_loop (X := Nat) (fun i => i ≤ l.length) (fun i => [(4, I i), (3, .own 900 (l.take i).length), (0, .d (fragsD t l))]) (fun i => [(900, .row 114 3 ((l.take i).map (fragD false)))]) (fun i => l.length - i) 0 (Nat.zero_le _) ?_
  intro i hi
  have hTl : (l.take i).length = i := by simp; omega
  by_cases hlt : i < l.length
  · have e3 := fszs_mem (List.getElem_mem hlt)
    have e2 := fsz_eq l[i]
    have hc := ih (t := t) (l := l[i].l) (by omega) (by omega)
    have e1 : (l.take i).map (fragD false) ++ [D.agg [iD l[i].op, iD l[i].n, fragsD false l[i].l]] = (l.take (i + 1)).map (fragD false) := by
      rw [List.take_succ_eq_append_getElem hlt, List.map_append]; simp [fragD_eq]
    repeat (first | refine wk ?_ | refine s_field (hr := ?_))
    refine s_call [] (hA := hc) (hr := ?_)
    repeat (first | refine wk ?_ | refine s_field (hr := ?_))
    rw [e1]
    exact t_next (i + 1)
  · obtain rfl : i = l.length := by omega
    rw [List.take_length]
    refine aw_froz 900 rfl ?_
    repeat (first | refine wk ?_ | refine s_field (hr := ?_))
    exact fin
theorem ownFrag_sim {t : Bool} {l : List Frag} (h : fszs l ≤ 100000000) : ACalls Try.prog 73 [.d (fragsD t l)] [] (.d (fragsD false l)) [] :=
  ownFrag_gen _ (Nat.lt_succ_self _) h
end Go.Proofs.Ytgcagjamjdnglaa
