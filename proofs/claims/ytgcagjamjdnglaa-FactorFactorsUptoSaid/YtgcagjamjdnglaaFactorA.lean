/-
  Sim: factor's kids, group, common, head, tail.
-/
import Derived.Test.YtgcagjamjdnglaaFactorR
import Derived.Test.YtgcagjamjdnglaaFrC
import Derived.Test.YtgcagjamjdnglaaS5
set_option linter.unusedVariables false
set_option linter.unusedSimpArgs false
set_option linter.unusedSectionVars false
namespace Go.Proofs.Ytgcagjamjdnglaa
open Go.RowKit
set_option maxRecDepth 100000
-- SimX

def workD (t : Bool) (w : Work) : D := .agg [ints t w.right, fragsD t w.l]
abbrev worksD (t : Bool) (l : List Work) : D := .sl t 2 (l.map (workD t))
abbrev workBox (t : Bool) (w : Work) : Ob := .box 102 [.d (ints t w.right), .d (fragsD t w.l)]
theorem fkids_sim {t : Bool} {xs : List Int} (hl : xs.length ≤ 100000000 := by ((try simp only [List.length_map, List.length_append, List.length_cons, List.length_nil, List.length_replicate, List.length_set, List.length_take, List.length_drop]); first | omega | assumption)) :
    ACalls Try.prog 82 [.d (ints t xs)] [] (I (kids xs).length) [] := by
  refine ACalls.intro (n := 7) Try.func82 rfl rfl (by simp) (by rfl) ?_
  simp only [argFr]
  repeat (first | refine wk ?_ | refine s_field (hr := ?_))
  refine s_call [] (hA := kids_sim) (hr := ?_)
  repeat (first | refine wk ?_ | refine s_field (hr := ?_))
  exact fin
theorem alikeH_iff {a b : List Int} (ha : 0 < a.length) : alikeH a b = true ↔ ∃ h : 0 < b.length, a[0] = b[0] := by
  cases a with
  | nil => simp at ha
  | cons x a => cases b <;> simp [alikeH]
theorem mates_empty : ∀ (l : List Work) (k : Nat), mates [] l k = []
  | [], _ => rfl
  | y :: l, k => by rw [mates, if_neg (by simp [alikeH]), mates_empty l (k + 1)]
set_option maxHeartbeats 4000000 in
theorem group_sim {t : Bool} {l : List Work} (hl : l.length ≤ 100000) (hr : ∀ w ∈ l, w.right.length ≤ 100000) :
    ACalls Try.prog 160 [.d (worksD t l)] [] (.d (ints false (groupW l 0))) [] := by
  refine ACalls.intro (n := 58) Try.func160 rfl rfl (by simp) (by rfl) ?_
  simp only [argFr]
  repeat (first | refine wk ?_ | refine s_field (hr := ?_))
  refine t_loop (X := Nat) (fun i => i ≤ l.length ∧ groupW l 0 = groupW (l.drop i) i) (fun i => [(9, I i), (8, I l.length), (7, .d (worksD t l)), (0, .d (worksD t l))]) (fun _ => []) (fun i => l.length - i) 0 ⟨Nat.zero_le _, rfl⟩ ?_
  rintro i ⟨hi, hp⟩
  by_cases hlt : i < l.length
  · have hs := groupW_step hlt
    have hri := hr _ (List.getElem_mem hlt)
    by_cases h0 : l[i].right.length = 0
    · have e : l[i].right = [] := List.eq_nil_of_length_eq_zero h0
      rw [e, mates_empty, if_pos rfl] at hs
      repeat (first | refine wk ?_ | refine s_field (hr := ?_))
      exact t_next (i + 1) (a := ⟨by omega, hp.trans hs⟩)
    · repeat (first | refine wk ?_ | refine s_field (hr := ?_))
      obtain ⟨gl, hgl⟩ : ∃ gl : Nat → List Int, ∀ k, gl k = (i : Int) :: mates l[i].right ((l.drop (i + 1)).take (k - (i + 1))) (i + 1) := ⟨_, fun _ => rfl⟩
      have e : gl (i + 1) = [(i : Int)] := by rw [hgl]; simp [mates]
      refine t_loop (X := Nat) (fun k => i + 1 ≤ k ∧ k ≤ l.length) (fun k => [(6, I k), (5, .own 19 (gl k).length), (4, .ptr 4 0), (3, I i), (9, I i), (8, I l.length), (7, .d (worksD t l)), (0, .d (worksD t l))])
        (fun k => [(19, .row 3 1 ((gl k).map iD)), (4, workBox t l[i])]) (fun k => l.length - k) (i + 1) (by omega) ?_
      clear e
      rintro k ⟨hk1, hk2⟩
      have hml : (gl k).length ≤ l.length := by
        rw [hgl, List.length_cons]
        have := mates_le l[i].right ((l.drop (i + 1)).take (k - (i + 1))) (i + 1)
        simp only [List.length_take, List.length_drop] at this
        omega
      by_cases hlk : k < l.length
      · have hsn : gl (k + 1) = gl k ++ (if alikeH l[i].right l[k].right = true then [(k : Int)] else []) := by rw [hgl, hgl, mates_snoc hlk hk1]; rfl
        have hrk := hr _ (List.getElem_mem hlk)
        have hal := alikeH_iff (a := l[i].right) (b := l[k].right) (by omega)
        by_cases h1 : 0 < l[k].right.length
        · by_cases h2 : l[k].right[0] = l[i].right[0]
          · rw [if_pos (hal.2 ⟨h1, h2.symm⟩)] at hsn
            have h2b : decide (l[k].right[0] = l[i].right[0]) = true := decide_eq_true h2
            have e := hsn
            repeat (first | refine wk ?_ | refine s_field (hr := ?_))
            exact t_next (k + 1)
          · rw [if_neg (fun h => h2 (hal.1 h).2.symm), List.append_nil] at hsn
            have h2b : decide (l[k].right[0] = l[i].right[0]) = false := decide_eq_false h2
            have e := hsn
            repeat (first | refine wk ?_ | refine s_field (hr := ?_))
            exact t_next (k + 1)
        · rw [if_neg (fun h => h1 (hal.1 h).1), List.append_nil] at hsn
          have e := hsn
          repeat (first | refine wk ?_ | refine s_field (hr := ?_))
          exact t_next (k + 1)
      · obtain rfl : k = l.length := by omega
        have he : gl l.length = (i : Int) :: mates l[i].right (l.drop (i + 1)) (i + 1) := by rw [hgl, List.take_of_length_le (by simp)]
        by_cases hm : mates l[i].right (l.drop (i + 1)) (i + 1) = []
        · rw [if_pos hm] at hs
          have hlen : (gl l.length).length = 1 := by rw [he, hm]; rfl
          repeat (first | refine wk ?_ | refine s_field (hr := ?_))
          exact t_next (i + 1) (a := ⟨by omega, hp.trans hs⟩)
        · rw [if_neg hm, ← he] at hs
          have hlen : 1 < (gl l.length).length := by
            rw [he, List.length_cons]
            cases hc : mates l[i].right (l.drop (i + 1)) (i + 1) with
            | nil => exact absurd hc hm
            | cons _ _ => simp
          rw [hp, hs]
          refine aw_froz 19 rfl ?_
          repeat (first | refine wk ?_ | refine s_field (hr := ?_))
          exact fin
  · rw [hp, groupW_end hlt]
    repeat (first | refine wk ?_ | refine s_field (hr := ?_))
    exact fin
end Go.Proofs.Ytgcagjamjdnglaa
