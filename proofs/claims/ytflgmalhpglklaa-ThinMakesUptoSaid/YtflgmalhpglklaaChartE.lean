/-
  Chart, the reference: Of, Rule, Split.
-/
import Derived.Test.YtflgmalhpglklaaChartD
import Derived.Test.YtflgmalhpglklaaSmN
set_option linter.unusedVariables false
set_option linter.unusedSimpArgs false
set_option linter.unusedSectionVars false
namespace Go.Proofs.Ytflgmalhpglklaa
open Go.RowKit
set_option maxRecDepth 100000
-- SimX

/-- How many trees of v between two places, of whatever numbers. -/
def ofC (g : Gram) (w : List Int) (N : Cube) (v i j : Int) : Nat := if 0 ≤ v ∧ v < g.vars ∧ 0 ≤ i ∧ i ≤ j ∧ j ≤ w.length then N v.toNat i.toNat j.toNat else 0
set_option maxHeartbeats 4000000 in
theorem cOf_sim {g : Gram} {t u : Bool} {w : List Int} {M : Nat} {N : Cube} (hw : w.length ≤ 100000) (v i j : Int) :
    ACalls Try.prog 33 [.ptr 1000 0, I v, I i, I j] [(1000, ctBx t u g w M N)] (I ((ofC g w N v i j : Nat) : Int)) [(1000, ctBx t u g w M N)] := by
  by_cases hin : 0 ≤ v ∧ v < g.vars ∧ 0 ≤ i ∧ i ≤ j ∧ j ≤ w.length
  · obtain ⟨h1, h2, h3, h4, h5⟩ := hin
    have e : ofC g w N v i j = N v.toNat i.toNat j.toNat := by unfold ofC; rw [if_pos ⟨h1, h2, h3, h4, h5⟩]
    rw [e]
    obtain ⟨vn, rfl⟩ : ∃ vn : Nat, v = (vn : Int) := ⟨v.toNat, by omega⟩
    obtain ⟨a, rfl⟩ : ∃ a : Nat, i = (a : Int) := ⟨i.toNat, by omega⟩
    obtain ⟨b, rfl⟩ : ∃ b : Nat, j = (b : Int) := ⟨j.toNat, by omega⟩
    simp only [Int.toNat_natCast]
    have hvV : vn < g.vars.toNat := by omega
    have hC1 := cubeD_get (t := false) (N := N) (L := w.length + 1) hvV
    have hC0 := cubeD_len false N g.vars.toNat (w.length + 1)
    have hP1 := planeD_get (t := false) (N := N) (v := vn) (L := w.length + 1) (i := a) (by omega)
    have hP0 := planeD_len false N (w.length + 1) vn
    have hQ1 : (natsD (w.length + 1) (fun j => N vn a j))[b]? = some (iD ((N vn a b : Nat) : Int)) := natsD_get (a := fun j => N vn a j) (by omega)
    have hQ0 := natsD_len (w.length + 1) (fun j => N vn a j)
    simp only [ctBx]
    generalize cubeD false N g.vars.toNat (w.length + 1) = CD at *
    generalize planeD false N (w.length + 1) vn = PD at *
    generalize natsD (w.length + 1) (fun j => N vn a j) = ND at *
    have hn1 : ¬ ((vn : Nat) : Int) < 0 := by omega
    have hn2 : ¬ g.vars ≤ ((vn : Nat) : Int) := by omega
    have hn3 : ¬ ((a : Nat) : Int) < 0 := by omega
    have hn4 : ¬ ((b : Nat) : Int) < ((a : Nat) : Int) := by omega
    have hn5 : ¬ (w.length : Int) < ((b : Nat) : Int) := by omega
    refine ACalls.intro (n := 51) Try.func33 rfl rfl (by simp) (by rfl) ?_
    simp only [argFr]
    repeat (first | refine wk ?_ | refine s_field (hr := ?_))
    --@
    exact fin
  · have e : ofC g w N v i j = 0 := by unfold ofC; rw [if_neg hin]
    rw [e]
    refine ACalls.intro (n := 51) Try.func33 rfl rfl (by simp) (by rfl) ?_
    simp only [argFr, ctBx]
    by_cases h1 : v < 0
    · ((repeat (first | refine wk ?_ | refine s_field (hr := ?_))); (repeat (first | refine wkz ?_ | refine s_field (hr := ?_))); (repeat (first | refine wk ?_ | refine s_field (hr := ?_))); exact fin)
    · by_cases h2 : g.vars ≤ v
      · ((repeat (first | refine wk ?_ | refine s_field (hr := ?_))); (repeat (first | refine wkz ?_ | refine s_field (hr := ?_))); (repeat (first | refine wk ?_ | refine s_field (hr := ?_))); exact fin)
      · by_cases h3 : i < 0
        · ((repeat (first | refine wk ?_ | refine s_field (hr := ?_))); (repeat (first | refine wkz ?_ | refine s_field (hr := ?_))); (repeat (first | refine wk ?_ | refine s_field (hr := ?_))); exact fin)
        · by_cases h4 : j < i
          · ((repeat (first | refine wk ?_ | refine s_field (hr := ?_))); (repeat (first | refine wkz ?_ | refine s_field (hr := ?_))); (repeat (first | refine wk ?_ | refine s_field (hr := ?_))); exact fin)
          · have h5 : (w.length : Int) < j := by omega
            ((repeat (first | refine wk ?_ | refine s_field (hr := ?_))); (repeat (first | refine wkz ?_ | refine s_field (hr := ?_))); (repeat (first | refine wk ?_ | refine s_field (hr := ?_))); exact fin)
/-- Of a rule. -/
def ruC (g : Gram) (w : List Int) (M : Nat) (N : Cube) (r i j : Int) : Nat := if 0 ≤ r ∧ r < g.rules.length ∧ 0 ≤ i ∧ i ≤ j ∧ j ≤ w.length then min M (wcn N w (rightAt g r) i.toNat j.toNat) else 0
set_option maxHeartbeats 4000000 in
theorem cRule_sim {g : Gram} (hg : g.ok) {t u : Bool} {w : List Int} {M : Nat} {N : Cube} (hw : w.length ≤ 100000) (hwr : ∀ x ∈ w, 0 ≤ x ∧ x ≤ 1000000) (hM1 : 1 ≤ M) (hM : M ≤ 4611686018427387904) (hN : ∀ v i j, N v i j ≤ M) (r i j : Int) :
    ACalls Try.prog 45 [.ptr 1000 0, I r, I i, I j] [(1000, ctBx t u g w M N)] (I ((ruC g w M N r i j : Nat) : Int)) [(1000, ctBx t u g w M N)] := by
  have hrl := hg.rules
  by_cases hin : 0 ≤ r ∧ r < g.rules.length ∧ 0 ≤ i ∧ i ≤ j ∧ j ≤ w.length
  · obtain ⟨h1, h2, h3, h4, h5⟩ := hin
    have e : ruC g w M N r i j = min M (wcn N w (rightAt g r) i.toNat j.toNat) := by unfold ruC; rw [if_pos ⟨h1, h2, h3, h4, h5⟩]
    rw [e]
    obtain ⟨rn, rfl⟩ : ∃ rn : Nat, r = (rn : Int) := ⟨r.toNat, by omega⟩
    obtain ⟨a, rfl⟩ : ∃ a : Nat, i = (a : Int) := ⟨i.toNat, by omega⟩
    obtain ⟨b, rfl⟩ : ∃ b : Nat, j = (b : Int) := ⟨j.toNat, by omega⟩
    have hrn : rn < g.rules.length := by omega
    simp only [Int.toNat_natCast]
    rw [rightAt_nat hrn]
    have hrr := hg.right _ (List.getElem_mem hrn)
    have htm := hg.terms
    have hv := hg.vars
    have hways := ways_sim (g := g) (t := t) (u := u) (v' := t) (w := w) (rs := g.rules[rn].right) (M := M) (N := N) (i := a) (j := b) (by omega) (by omega) hM hM1 hN hw hwr (fun s hs => ⟨hg.hi _ (List.getElem_mem hrn) s hs, by have := hg.lo _ (List.getElem_mem hrn) s hs; omega⟩) (by omega) (by omega)
    rw [ways_wcn hM1 (by omega)] at hways
    simp only [ctBx] at hways ⊢
    generalize min M (wcn N w g.rules[rn].right a b) = res at *
    generalize cubeD false N g.vars.toNat (w.length + 1) = CD at *
    have hn1 : ¬ ((rn : Nat) : Int) < 0 := by omega
    have hn2 : ¬ (g.rules.length : Int) ≤ ((rn : Nat) : Int) := by omega
    have hn3 : ¬ ((a : Nat) : Int) < 0 := by omega
    have hn4 : ¬ ((b : Nat) : Int) < ((a : Nat) : Int) := by omega
    have hn5 : ¬ (w.length : Int) < ((b : Nat) : Int) := by omega
    refine ACalls.intro (n := 52) Try.func45 rfl rfl (by simp) (by rfl) ?_
    simp only [argFr]
    repeat (first | refine wk ?_ | refine s_field (hr := ?_))
    refine s_call [] (hA := hways) (hr := ?_)
    repeat (first | refine wk ?_ | refine s_field (hr := ?_))
    exact fin
  · have e : ruC g w M N r i j = 0 := by unfold ruC; rw [if_neg hin]
    rw [e]
    refine ACalls.intro (n := 52) Try.func45 rfl rfl (by simp) (by rfl) ?_
    simp only [argFr, ctBx]
    by_cases h1 : r < 0
    · ((repeat (first | refine wk ?_ | refine s_field (hr := ?_))); (repeat (first | refine wkz ?_ | refine s_field (hr := ?_))); (repeat (first | refine wk ?_ | refine s_field (hr := ?_))); exact fin)
    · by_cases h2 : (g.rules.length : Int) ≤ r
      · ((repeat (first | refine wk ?_ | refine s_field (hr := ?_))); (repeat (first | refine wkz ?_ | refine s_field (hr := ?_))); (repeat (first | refine wk ?_ | refine s_field (hr := ?_))); exact fin)
      · by_cases h3 : i < 0
        · ((repeat (first | refine wk ?_ | refine s_field (hr := ?_))); (repeat (first | refine wkz ?_ | refine s_field (hr := ?_))); (repeat (first | refine wk ?_ | refine s_field (hr := ?_))); exact fin)
        · by_cases h4 : j < i
          · ((repeat (first | refine wk ?_ | refine s_field (hr := ?_))); (repeat (first | refine wkz ?_ | refine s_field (hr := ?_))); (repeat (first | refine wk ?_ | refine s_field (hr := ?_))); exact fin)
          · have h5 : (w.length : Int) < j := by omega
            ((repeat (first | refine wk ?_ | refine s_field (hr := ?_))); (repeat (first | refine wkz ?_ | refine s_field (hr := ?_))); (repeat (first | refine wk ?_ | refine s_field (hr := ?_))); exact fin)
theorem wcn_one {N : Cube} {w : List Int} {s : Int} {i m : Nat} (h : i ≤ m) : wcn N w [s] i m = symN N w s i m := by
  rw [wcn, sumN_single (k := m) (by omega) (fun x _ hx => by simp [wcn, hx]), if_pos h]
  simp [wcn]
/-- Of what is behind a rule's k-th symbol, this one as far as m. -/
def spC (g : Gram) (w : List Int) (M : Nat) (N : Cube) (r k i m j : Int) : Nat :=
  if 0 ≤ r ∧ r < g.rules.length ∧ 0 ≤ k ∧ k < (rightAt g r).length ∧ 0 ≤ i ∧ i ≤ m ∧ m ≤ j ∧ j ≤ w.length then min M (symN N w ((rightAt g r).getD k.toNat 0) i.toNat m.toNat * wcn N w ((rightAt g r).drop (k.toNat + 1)) m.toNat j.toNat) else 0
end Go.Proofs.Ytflgmalhpglklaa
