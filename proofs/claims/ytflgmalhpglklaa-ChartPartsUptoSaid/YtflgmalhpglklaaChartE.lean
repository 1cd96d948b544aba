/-
  Chart, the reference: Of, Rule, Split.
-/
import Derived.Test.YtflgmalhpglklaaChartD
import Derived.Test.YtflgmalhpglklaaSimCu
set_option linter.unusedVariables false
set_option linter.unusedSimpArgs false
set_option linter.unusedSectionVars false
namespace Go.Proofs.Ytflgmalhpglklaa
open Go.RowKit
set_option maxRecDepth 100000
-- SimX

/-- How many trees of v between two places, of whatever numbers. -/
def ofC (g : Gram) (w : List Int) (N : Cube) (v i j : Int) : Nat := if 0 ≤ v ∧ v < g.vars ∧ 0 ≤ i ∧ i ≤ j ∧ j ≤ w.length then N v.toNat i.toNat j.toNat else 0
set_option maxHeartbeats 4000000 in
theorem cOf_sim {g : Gram} {t u : Bool} {w : List Int} {M : Nat} {N : Cube} (hw : w.length ≤ 100000) (v i j : Int) :
    ACalls Try.prog 33 [.ptr 1000 0, I v, I i, I j] [(1000, ctBx t u g w M N)] (I ((ofC g w N v i j : Nat) : Int)) [(1000, ctBx t u g w M N)] := by
  by_cases hin : 0 ≤ v ∧ v < g.vars ∧ 0 ≤ i ∧ i ≤ j ∧ j ≤ w.length
  · obtain ⟨h1, h2, h3, h4, h5⟩ := hin
    have e : ofC g w N v i j = N v.toNat i.toNat j.toNat := by unfold ofC; rw [if_pos ⟨h1, h2, h3, h4, h5⟩]
    rw [e]
    obtain ⟨vn, rfl⟩ : ∃ vn : Nat, v = (vn : Int) := ⟨v.toNat, by omega⟩
    obtain ⟨a, rfl⟩ : ∃ a : Nat, i = (a : Int) := ⟨i.toNat, by omega⟩
    obtain ⟨b, rfl⟩ : ∃ b : Nat, j = (b : Int) := ⟨j.toNat, by omega⟩
    simp only [Int.toNat_natCast]
    have hvV : vn < g.vars.toNat := by omega
    have hC1 := cubeD_get (t := false) (N := N) (L := w.length + 1) hvV
    have hC0 := cubeD_len false N g.vars.toNat (w.length + 1)
    have hP1 := planeD_get (t := false) (N := N) (v := vn) (L := w.length + 1) (i := a) (by omega)
    have hP0 := planeD_len false N (w.length + 1) vn
    have hQ1 : (natsD (w.length + 1) (fun j => N vn a j))[b]? = some (iD ((N vn a b : Nat) : Int)) := natsD_get (a := fun j => N vn a j) (by omega)
    have hQ0 := natsD_len (w.length + 1) (fun j => N vn a j)
    simp only [ctBx]
    generalize cubeD false N g.vars.toNat (w.length + 1) = CD at *
    generalize planeD false N (w.length + 1) vn = PD at *
    generalize natsD (w.length + 1) (fun j => N vn a j) = ND at *
    have hn1 : ¬ ((vn : Nat) : Int) < 0 := by omega
    have hn2 : ¬ g.vars ≤ ((vn : Nat) : Int) := by omega
    have hn3 : ¬ ((a : Nat) : Int) < 0 := by omega
    have hn4 : ¬ ((b : Nat) : Int) < ((a : Nat) : Int) := by omega
    have hn5 : ¬ (w.length : Int) < ((b : Nat) : Int) := by omega
    refine ACalls.intro (n := 51) Try.func33 rfl rfl (by simp) (by rfl) ?_
    simp only [argFr]
    repeat (first | refine wk ?_ | refine s_field (hr := ?_))
    --@
    exact fin
  · have e : ofC g w N v i j = 0 := by unfold ofC; rw [if_neg hin]
    rw [e]
    refine ACalls.intro (n := 51) Try.func33 rfl rfl (by simp) (by rfl) ?_
    simp only [argFr, ctBx]
    by_cases h1 : v < 0
    · ((repeat (first | refine wk ?_ | refine s_field (hr := ?_))); (repeat (first | refine wkz ?_ | refine s_field (hr := ?_))); (repeat (first | refine wk ?_ | refine s_field (hr := ?_))); exact fin)
    · by_cases h2 : g.vars ≤ v
      · ((repeat (first | refine wk ?_ | refine s_field (hr := ?_))); (repeat (first | refine wkz ?_ | refine s_field (hr := ?_))); (repeat (first | refine wk ?_ | refine s_field (hr := ?_))); exact fin)
      · by_cases h3 : i < 0
        · ((repeat (first | refine wk ?_ | refine s_field (hr := ?_))); (repeat (first | refine wkz ?_ | refine s_field (hr := ?_))); (repeat (first | refine wk ?_ | refine s_field (hr := ?_))); exact fin)
        · by_cases h4 : j < i
          · ((repeat (first | refine wk ?_ | refine s_field (hr := ?_))); (repeat (first | refine wkz ?_ | refine s_field (hr := ?_))); (repeat (first | refine wk ?_ | refine s_field (hr := ?_))); exact fin)
          · have h5 : (w.length : Int) < j := by omega
            ((repeat (first | refine wk ?_ | refine s_field (hr := ?_))); (repeat (first | refine wkz ?_ | refine s_field (hr := ?_))); (repeat (first | refine wk ?_ | refine s_field (hr := ?_))); exact fin)
/-- Of a rule. -/
def ruC (g : Gram) (w : List Int) (M : Nat) (N : Cube) (r i j : Int) : Nat := if 0 ≤ r ∧ r < g.rules.length ∧ 0 ≤ i ∧ i ≤ j ∧ j ≤ w.length then min M (wcn N w (rightAt g r) i.toNat j.toNat) else 0
set_option maxHeartbeats 4000000 in
theorem cRule_sim {g : Gram} (hg : g.ok) {t u : Bool} {w : List Int} {M : Nat} {N : Cube} (hw : w.length ≤ 100000) (hwr : ∀ x ∈ w, 0 ≤ x ∧ x ≤ 1000000) (hM1 : 1 ≤ M) (hM : M ≤ 4611686018427387904) (hN : ∀ v i j, N v i j ≤ M) (r i j : Int) :
    ACalls Try.prog 45 [.ptr 1000 0, I r, I i, I j] [(1000, ctBx t u g w M N)] (I ((ruC g w M N r i j : Nat) : Int)) [(1000, ctBx t u g w M N)] := by
  have hrl := hg.rules
  by_cases hin : 0 ≤ r ∧ r < g.rules.length ∧ 0 ≤ i ∧ i ≤ j ∧ j ≤ w.length
  · obtain ⟨h1, h2, h3, h4, h5⟩ := hin
    have e : ruC g w M N r i j = min M (wcn N w (rightAt g r) i.toNat j.toNat) := by unfold ruC; rw [if_pos ⟨h1, h2, h3, h4, h5⟩]
    rw [e]
    obtain ⟨rn, rfl⟩ : ∃ rn : Nat, r = (rn : Int) := ⟨r.toNat, by omega⟩
    obtain ⟨a, rfl⟩ : ∃ a : Nat, i = (a : Int) := ⟨i.toNat, by omega⟩
    obtain ⟨b, rfl⟩ : ∃ b : Nat, j = (b : Int) := ⟨j.toNat, by omega⟩
    have hrn : rn < g.rules.length := by omega
    simp only [Int.toNat_natCast]
    rw [rightAt_nat hrn]
    have hrr := hg.right _ (List.getElem_mem hrn)
    have htm := hg.terms
    have hv := hg.vars
    have hways := ways_sim (g := g) (t := t) (u := u) (v' := t) (w := w) (rs := g.rules[rn].right) (M := M) (N := N) (i := a) (j := b) (by omega) (by omega) hM hM1 hN hw hwr (fun s hs => ⟨hg.hi _ (List.getElem_mem hrn) s hs, by have := hg.lo _ (List.getElem_mem hrn) s hs; omega⟩) (by omega) (by omega)
    rw [ways_wcn hM1 (by omega)] at hways
    simp only [ctBx] at hways ⊢
    generalize min M (wcn N w g.rules[rn].right a b) = res at *
    generalize cubeD false N g.vars.toNat (w.length + 1) = CD at *
    have hn1 : ¬ ((rn : Nat) : Int) < 0 := by omega
    have hn2 : ¬ (g.rules.length : Int) ≤ ((rn : Nat) : Int) := by omega
    have hn3 : ¬ ((a : Nat) : Int) < 0 := by omega
    have hn4 : ¬ ((b : Nat) : Int) < ((a : Nat) : Int) := by omega
    have hn5 : ¬ (w.length : Int) < ((b : Nat) : Int) := by omega
    refine ACalls.intro (n := 52) Try.func45 rfl rfl (by simp) (by rfl) ?_
    simp only [argFr]
    repeat (first | refine wk ?_ | refine s_field (hr := ?_))
    refine s_call [] (hA := hways) (hr := ?_)
    repeat (first | refine wk ?_ | refine s_field (hr := ?_))
    exact fin
  · have e : ruC g w M N r i j = 0 := by unfold ruC; rw [if_neg hin]
    rw [e]
    refine ACalls.intro (n := 52) Try.func45 rfl rfl (by simp) (by rfl) ?_
    simp only [argFr, ctBx]
    by_cases h1 : r < 0
    · ((repeat (first | refine wk ?_ | refine s_field (hr := ?_))); (repeat (first | refine wkz ?_ | refine s_field (hr := ?_))); (repeat (first | refine wk ?_ | refine s_field (hr := ?_))); exact fin)
    · by_cases h2 : (g.rules.length : Int) ≤ r
      · ((repeat (first | refine wk ?_ | refine s_field (hr := ?_))); (repeat (first | refine wkz ?_ | refine s_field (hr := ?_))); (repeat (first | refine wk ?_ | refine s_field (hr := ?_))); exact fin)
      · by_cases h3 : i < 0
        · ((repeat (first | refine wk ?_ | refine s_field (hr := ?_))); (repeat (first | refine wkz ?_ | refine s_field (hr := ?_))); (repeat (first | refine wk ?_ | refine s_field (hr := ?_))); exact fin)
        · by_cases h4 : j < i
          · ((repeat (first | refine wk ?_ | refine s_field (hr := ?_))); (repeat (first | refine wkz ?_ | refine s_field (hr := ?_))); (repeat (first | refine wk ?_ | refine s_field (hr := ?_))); exact fin)
          · have h5 : (w.length : Int) < j := by omega
            ((repeat (first | refine wk ?_ | refine s_field (hr := ?_))); (repeat (first | refine wkz ?_ | refine s_field (hr := ?_))); (repeat (first | refine wk ?_ | refine s_field (hr := ?_))); exact fin)
theorem wcn_one {N : Cube} {w : List Int} {s : Int} {i m : Nat} (h : i ≤ m) : wcn N w [s] i m = symN N w s i m := by
  rw [wcn, sumN_single (k := m) (by omega) (fun x _ hx => by simp [wcn, hx]), if_pos h]
  simp [wcn]
/-- Of what is behind a rule's k-th symbol, this one as far as m. -/
def spC (g : Gram) (w : List Int) (M : Nat) (N : Cube) (r k i m j : Int) : Nat :=
  if 0 ≤ r ∧ r < g.rules.length ∧ 0 ≤ k ∧ k < (rightAt g r).length ∧ 0 ≤ i ∧ i ≤ m ∧ m ≤ j ∧ j ≤ w.length then min M (symN N w ((rightAt g r).getD k.toNat 0) i.toNat m.toNat * wcn N w ((rightAt g r).drop (k.toNat + 1)) m.toNat j.toNat) else 0
set_option maxHeartbeats 4000000 in
theorem cSplit_sim {g : Gram} (hg : g.ok) {t u : Bool} {w : List Int} {M : Nat} {N : Cube} (hw : w.length ≤ 100000) (hwr : ∀ x ∈ w, 0 ≤ x ∧ x ≤ 1000000) (hM1 : 1 ≤ M) (hM : M ≤ 4611686018427387904) (hN : ∀ v i j, N v i j ≤ M) (r k i m j : Int) :
    ACalls Try.prog 47 [.ptr 1000 0, I r, I k, I i, I m, I j] [(1000, ctBx t u g w M N)] (I ((spC g w M N r k i m j : Nat) : Int)) [(1000, ctBx t u g w M N)] := by
  have hrl := hg.rules
  by_cases hin : 0 ≤ r ∧ r < g.rules.length ∧ 0 ≤ k ∧ k < (rightAt g r).length ∧ 0 ≤ i ∧ i ≤ m ∧ m ≤ j ∧ j ≤ w.length
  · obtain ⟨h1, h2, h3, h4, h5, h6, h7, h8⟩ := hin
    have e : spC g w M N r k i m j = min M (symN N w ((rightAt g r).getD k.toNat 0) i.toNat m.toNat * wcn N w ((rightAt g r).drop (k.toNat + 1)) m.toNat j.toNat) := by unfold spC; rw [if_pos ⟨h1, h2, h3, h4, h5, h6, h7, h8⟩]
    rw [e]
    obtain ⟨rn, rfl⟩ : ∃ rn : Nat, r = (rn : Int) := ⟨r.toNat, by omega⟩
    obtain ⟨kn, rfl⟩ : ∃ kn : Nat, k = (kn : Int) := ⟨k.toNat, by omega⟩
    obtain ⟨a, rfl⟩ : ∃ a : Nat, i = (a : Int) := ⟨i.toNat, by omega⟩
    obtain ⟨b, rfl⟩ : ∃ b : Nat, m = (b : Int) := ⟨m.toNat, by omega⟩
    obtain ⟨c, rfl⟩ : ∃ c : Nat, j = (c : Int) := ⟨j.toNat, by omega⟩
    have hrn : rn < g.rules.length := by omega
    simp only [Int.toNat_natCast]
    rw [rightAt_nat hrn] at *
    have hrr := hg.right _ (List.getElem_mem hrn)
    have hkn : kn < g.rules[rn].right.length := by omega
    have htm := hg.terms
    have hv := hg.vars
    have hsr : ∀ s ∈ g.rules[rn].right, s < g.vars ∧ -1000000 ≤ s := fun s hs => ⟨hg.hi _ (List.getElem_mem hrn) s hs, by have := hg.lo _ (List.getElem_mem hrn) s hs; omega⟩
    have e1 : (g.rules[rn].right.take (kn + 1)).drop kn = [g.rules[rn].right[kn]] := by
      rw [List.take_succ_eq_append_getElem hkn, List.drop_append, List.drop_of_length_le (by rw [List.length_take]; omega), List.length_take, Nat.min_eq_left (by omega), Nat.sub_self]
      rfl
    have e2 : g.rules[rn].right.getD kn 0 = g.rules[rn].right[kn] := by rw [List.getD_eq_getElem?_getD, List.getElem?_eq_getElem hkn]; rfl
    have hw1 := ways_sim (g := g) (t := t) (u := u) (v' := t) (w := w) (rs := (g.rules[rn].right.take (kn + 1)).drop kn) (M := M) (N := N) (i := a) (j := b) (by omega) (by simp; omega) hM hM1 hN hw hwr (fun s hs => hsr s (by rw [e1] at hs; rw [List.mem_singleton.1 hs]; exact List.getElem_mem hkn)) (by omega) (by omega)
    rw [ways_wcn hM1 (by omega), e1, wcn_one (by omega), ← e1] at hw1
    have hw2 := ways_sim (g := g) (t := t) (u := u) (v' := t) (w := w) (rs := g.rules[rn].right.drop (kn + 1)) (M := M) (N := N) (i := b) (j := c) (by omega) (by simp; omega) hM hM1 hN hw hwr (fun s hs => hsr s (List.mem_of_mem_drop hs)) (by omega) (by omega)
    rw [ways_wcn hM1 (by omega)] at hw2
    have hpr := prodRef_sim (a := min M (symN N w g.rules[rn].right[kn] a b)) (b := min M (wcn N w (g.rules[rn].right.drop (kn + 1)) b c)) hM hM1 (Nat.min_le_left _ _) (Nat.min_le_left _ _)
    rw [min_mul_l, min_mul_r, ← e2] at hpr
    rw [← e2] at hw1
    simp only [ints, List.map_drop, List.map_take] at hw1 hw2
    simp only [ctBx] at hw1 hw2 ⊢
    generalize min M (symN N w (g.rules[rn].right.getD kn 0) a b * wcn N w (g.rules[rn].right.drop (kn + 1)) b c) = res at *
    generalize min M (symN N w (g.rules[rn].right.getD kn 0) a b) = r1 at *
    generalize min M (wcn N w (g.rules[rn].right.drop (kn + 1)) b c) = r2 at *
    generalize cubeD false N g.vars.toNat (w.length + 1) = CD at *
    have hn1 : ¬ ((rn : Nat) : Int) < 0 := by omega
    have hn2 : ¬ (g.rules.length : Int) ≤ ((rn : Nat) : Int) := by omega
    have hn3 : ¬ ((kn : Nat) : Int) < 0 := by omega
    have hn4 : ¬ (g.rules[rn].right.length : Int) ≤ ((kn : Nat) : Int) := by omega
    have hn5 : ¬ ((a : Nat) : Int) < 0 := by omega
    have hn6 : ¬ ((b : Nat) : Int) < ((a : Nat) : Int) := by omega
    have hn7 : ¬ ((c : Nat) : Int) < ((b : Nat) : Int) := by omega
    have hn8 : ¬ (w.length : Int) < ((c : Nat) : Int) := by omega
    refine ACalls.intro (n := 98) Try.func47 rfl rfl (by simp) (by rfl) ?_
    simp only [argFr]
    repeat (first | refine wk ?_ | refine s_field (hr := ?_))
    --@
    refine s_callU [(1000, 1000)] (hA := hw1) (hr := ?_)
    repeat (first | refine wk ?_ | refine s_field (hr := ?_))
    rw [List.take_length]
    refine s_callU [(1000, 1000)] (hA := hw2) (hr := ?_)
    repeat (first | refine wk ?_ | refine s_field (hr := ?_))
    refine s_callU [] (hA := hpr) (hr := ?_)
    repeat (first | refine wk ?_ | refine s_field (hr := ?_))
    exact fin
  --@
  · have e : spC g w M N r k i m j = 0 := by unfold spC; rw [if_neg hin]
    rw [e]
    refine ACalls.intro (n := 98) Try.func47 rfl rfl (by simp) (by rfl) ?_
    simp only [argFr, ctBx]
    by_cases h1 : r < 0
    · ((repeat (first | refine wk ?_ | refine s_field (hr := ?_))); (repeat (first | refine wkz ?_ | refine s_field (hr := ?_))); (repeat (first | refine wk ?_ | refine s_field (hr := ?_))); exact fin)
    · by_cases h2 : (g.rules.length : Int) ≤ r
      · ((repeat (first | refine wk ?_ | refine s_field (hr := ?_))); (repeat (first | refine wkz ?_ | refine s_field (hr := ?_))); (repeat (first | refine wk ?_ | refine s_field (hr := ?_))); exact fin)
      · obtain ⟨rn, rfl⟩ : ∃ rn : Nat, r = (rn : Int) := ⟨r.toNat, by omega⟩
        have hrn : rn < g.rules.length := by omega
        have hrr := hg.right _ (List.getElem_mem hrn)
        rw [rightAt_nat hrn] at hin
        by_cases h3 : k < 0
        · ((repeat (first | refine wk ?_ | refine s_field (hr := ?_))); (repeat (first | refine wkz ?_ | refine s_field (hr := ?_))); (repeat (first | refine wk ?_ | refine s_field (hr := ?_))); exact fin)
        · by_cases h4 : (g.rules[rn].right.length : Int) ≤ k
          · ((repeat (first | refine wk ?_ | refine s_field (hr := ?_))); (repeat (first | refine wkz ?_ | refine s_field (hr := ?_))); (repeat (first | refine wk ?_ | refine s_field (hr := ?_))); exact fin)
          · by_cases h5 : i < 0
            · ((repeat (first | refine wk ?_ | refine s_field (hr := ?_))); (repeat (first | refine wkz ?_ | refine s_field (hr := ?_))); (repeat (first | refine wk ?_ | refine s_field (hr := ?_))); exact fin)
            · by_cases h6 : m < i
              · ((repeat (first | refine wk ?_ | refine s_field (hr := ?_))); (repeat (first | refine wkz ?_ | refine s_field (hr := ?_))); (repeat (first | refine wk ?_ | refine s_field (hr := ?_))); exact fin)
              · by_cases h7 : j < m
                · ((repeat (first | refine wk ?_ | refine s_field (hr := ?_))); (repeat (first | refine wkz ?_ | refine s_field (hr := ?_))); (repeat (first | refine wk ?_ | refine s_field (hr := ?_))); exact fin)
                · have h8 : (w.length : Int) < j := by omega
                  ((repeat (first | refine wk ?_ | refine s_field (hr := ?_))); (repeat (first | refine wkz ?_ | refine s_field (hr := ?_))); (repeat (first | refine wk ?_ | refine s_field (hr := ?_))); exact fin)
end Go.Proofs.Ytflgmalhpglklaa
