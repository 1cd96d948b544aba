/-
  Chart, plain: in how many ways symbols stand for a word. Sim: SameGram, Clone, OwnGram, bare, ownInts.
-/
import Derived.Test.YticnpbopelgmiaaT1
import Derived.Test.YticnpbopelgmiaaQG1
import Derived.Test.YticnpbopelgmiaaS5
set_option linter.unusedVariables false
set_option linter.unusedSimpArgs false
set_option linter.unusedSectionVars false
namespace Go.Proofs.Yticnpbopelgmiaa
open Go.RowKit

/-! ### Sums -/
def sumN : Nat → (Nat → Nat) → Nat
  | 0, _ => 0
  | n + 1, f => sumN n f + f n
theorem sumN_congr {f g : Nat → Nat} : ∀ {n : Nat}, (∀ x, x < n → f x = g x) → sumN n f = sumN n g
  | 0, _ => rfl
  | n + 1, h => by simp only [sumN]; rw [sumN_congr (fun x hx => h x (by omega)), h n (by omega)]
theorem sumN_zero {f : Nat → Nat} : ∀ {n : Nat}, (∀ x, x < n → f x = 0) → sumN n f = 0
  | 0, _ => rfl
  | n + 1, h => by simp only [sumN]; rw [sumN_zero (fun x hx => h x (by omega)), h n (by omega)]
theorem sumN_le {f g : Nat → Nat} : ∀ {n : Nat}, (∀ x, x < n → f x ≤ g x) → sumN n f ≤ sumN n g
  | 0, _ => Nat.le_refl _
  | n + 1, h => by simp only [sumN]; exact Nat.add_le_add (sumN_le (fun x hx => h x (by omega))) (h n (by omega))
theorem sumN_ext {f : Nat → Nat} {n m : Nat} (h : n ≤ m) (hz : ∀ x, n ≤ x → x < m → f x = 0) : sumN m f = sumN n f := by
  induction m with
  | zero => obtain rfl : n = 0 := by omega
            rfl
  | succ m ih =>
    by_cases e : n = m + 1
    · rw [e]
    · simp only [sumN]
      rw [ih (by omega) (fun x h1 h2 => hz x h1 (by omega)), hz m (by omega) (by omega)]; rfl
theorem sumN_single {f : Nat → Nat} {n k : Nat} (hk : k < n) (hz : ∀ x, x < n → x ≠ k → f x = 0) : sumN n f = f k := by
  rw [sumN_ext (n := k + 1) (by omega) (fun x h1 h2 => hz x h2 (by omega))]
  simp only [sumN]
  rw [sumN_zero (fun x hx => hz x (by omega) (by omega))]; omega
theorem le_sumN {f : Nat → Nat} {n k : Nat} (hk : k < n) : f k ≤ sumN n f := by
  induction n with
  | zero => omega
  | succ n ih =>
    simp only [sumN]
    by_cases e : k = n
    · subst e; omega
    · have := ih (by omega); omega
/-! ### At most so many -/
theorem min_add_r (M a b : Nat) : min M (a + min M b) = min M (a + b) := by omega
theorem min_add_l (M a b : Nat) : min M (min M a + b) = min M (a + b) := by omega
theorem min_mul_l {M a b : Nat} : min M (min M a * b) = min M (a * b) := by
  by_cases h : a ≤ M
  · rw [Nat.min_eq_right h]
  · rw [Nat.min_eq_left (by omega : M ≤ a)]
    cases b with
    | zero => rfl
    | succ b =>
      have h1 : M * 1 ≤ M * (b + 1) := Nat.mul_le_mul_left _ (by omega)
      have h2 : a * 1 ≤ a * (b + 1) := Nat.mul_le_mul_left _ (by omega)
      omega
theorem min_mul_r {M a b : Nat} : min M (a * min M b) = min M (a * b) := by rw [Nat.mul_comm, min_mul_l, Nat.mul_comm]
theorem min_sumN {M : Nat} {f g : Nat → Nat} : ∀ {n : Nat}, (∀ x, x < n → min M (f x) = min M (g x)) → min M (sumN n f) = min M (sumN n g)
  | 0, _ => rfl
  | n + 1, h => by
    have h1 := min_sumN (n := n) (fun x hx => h x (by omega))
    have h2 := h n (by omega)
    simp only [sumN]
    omega

/-! ### Symbols over a word -/
abbrev Cube := Nat → Nat → Nat → Nat
/-- One symbol from i to m. -/
def symN (N : Cube) (w : List Int) (s : Int) (i m : Nat) : Nat := if 0 ≤ s then N s.toNat i m else if m = i + 1 ∧ w[i]? = some (-1 - s) then 1 else 0
/-- Symbols, from i to j. -/
def wcn (N : Cube) (w : List Int) : List Int → Nat → Nat → Nat
  | [], i, j => if i = j then 1 else 0
  | s :: r, i, j => sumN (j + 1) fun m => if i ≤ m then symN N w s i m * wcn N w r m j else 0
def at0 (i : Nat) : Nat → Nat := fun e => if e = i then 1 else 0
/-! ### Monotone -/
def CLe (N N' : Cube) : Prop := ∀ v i j, N v i j ≤ N' v i j
theorem symN_mono {N N' : Cube} (h : CLe N N') (w : List Int) (s : Int) (i m : Nat) : symN N w s i m ≤ symN N' w s i m := by
  unfold symN; split
  · exact h _ _ _
  · exact Nat.le_refl _
theorem wcn_mono {N N' : Cube} (h : CLe N N') (w : List Int) : ∀ (r : List Int) (i j : Nat), wcn N w r i j ≤ wcn N' w r i j
  | [], _, _ => Nat.le_refl _
  | s :: r, i, j => by
    simp only [wcn]
    refine sumN_le fun m _ => ?_
    split
    · exact Nat.mul_le_mul (symN_mono h w s i m) (wcn_mono h w r m j)
    · exact Nat.le_refl _

/-! ### Rounds -/
/-- All rules of v together. -/
def allR (g : Gram) (N : Cube) (w : List Int) (v i j : Nat) : Nat := ((g.rules.filter fun r => decide (r.left = (v : Int))).map fun r => wcn N w r.right i j).sum
/-- One round: what the rules say where this is known. -/
def rnd (g : Gram) (w : List Int) (M : Nat) (N : Cube) : Cube := fun v i j => if (v : Int) < g.vars ∧ i ≤ j ∧ j ≤ w.length then min M (allR g N w v i j) else 0
def rnds (g : Gram) (w : List Int) (M : Nat) : Nat → Cube
  | 0 => fun _ _ _ => 0
  | k + 1 => rnd g w M (rnds g w M k)
def many (g : Gram) (w : List Int) (M : Nat) : Nat := g.vars.toNat * ((w.length + 1) * ((w.length + 1) * M))
/-- In the end. -/
def wcns (g : Gram) (w : List Int) (M : Nat) : Cube := rnds g w M (many g w M)
theorem sum_map_le {α : Type} {f g : α → Nat} : ∀ {l : List α}, (∀ x ∈ l, f x ≤ g x) → (l.map f).sum ≤ (l.map g).sum
  | [], _ => Nat.le_refl _
  | a :: l, h => by
    simp only [List.map_cons, List.sum_cons]
    exact Nat.add_le_add (h a (by simp)) (sum_map_le (fun x hx => h x (by simp [hx])))
theorem rnd_mono {g : Gram} {w : List Int} {M : Nat} {N N' : Cube} (h : CLe N N') : CLe (rnd g w M N) (rnd g w M N') := fun v i j => by
  unfold rnd
  split
  · have : allR g N w v i j ≤ allR g N' w v i j := sum_map_le (fun r _ => wcn_mono h w r.right i j)
    omega
  · exact Nat.le_refl _
theorem rnds_up {g : Gram} {w : List Int} {M : Nat} : ∀ k, CLe (rnds g w M k) (rnds g w M (k + 1))
  | 0 => fun _ _ _ => Nat.zero_le _
  | k + 1 => rnd_mono (rnds_up k)
theorem rnd_le {g : Gram} {w : List Int} {M : Nat} {N : Cube} (v i j : Nat) : rnd g w M N v i j ≤ M := by unfold rnd; split <;> omega
theorem rnds_le {g : Gram} {w : List Int} {M : Nat} : ∀ (k v i j : Nat), rnds g w M k v i j ≤ M
  | 0, _, _, _ => Nat.zero_le _
  | _ + 1, v, i, j => rnd_le v i j
def total (g : Gram) (w : List Int) (N : Cube) : Nat := sumN g.vars.toNat fun v => sumN (w.length + 1) fun i => sumN (w.length + 1) fun j => N v i j
theorem sumN_const {n c : Nat} : sumN n (fun _ => c) = n * c := by
  induction n with
  | zero => simp [sumN]
  | succ n ih => simp only [sumN, ih, Nat.add_mul]; omega
theorem total_le {g : Gram} {w : List Int} {M : Nat} {N : Cube} (h : ∀ v i j, N v i j ≤ M) : total g w N ≤ many g w M := by
  unfold total many
  rw [← sumN_const]
  refine sumN_le fun v _ => ?_
  rw [← sumN_const]
  refine sumN_le fun i _ => ?_
  rw [← sumN_const]
  exact sumN_le fun j _ => h v i j
theorem rnds_out {g : Gram} {w : List Int} {M : Nat} {k v i j : Nat} (h : ¬ ((v : Int) < g.vars ∧ i ≤ j ∧ j ≤ w.length)) : rnds g w M k v i j = 0 := by
  cases k with
  | zero => rfl
  | succ k => show rnd g w M _ v i j = 0; unfold rnd; rw [if_neg h]
theorem sumN_lt {f g : Nat → Nat} {n k : Nat} (hk : k < n) (h : ∀ x, x < n → f x ≤ g x) (hl : f k < g k) : sumN n f < sumN n g := by
  induction n with
  | zero => omega
  | succ n ih =>
    simp only [sumN]
    by_cases e : k = n
    · subst e
      have := sumN_le (f := f) (g := g) (n := k) (fun x hx => h x (by omega))
      omega
    · have := ih (by omega) (fun x hx => h x (by omega))
      have := h n (by omega)
      omega
theorem total_lt {g : Gram} {w : List Int} {M k : Nat} (h : rnds g w M (k + 1) ≠ rnds g w M k) : total g w (rnds g w M k) < total g w (rnds g w M (k + 1)) := by
  have hup := rnds_up (g := g) (w := w) (M := M) k
  have : ∃ v i j, rnds g w M k v i j ≠ rnds g w M (k + 1) v i j := Classical.byContradiction fun hn => h (by
    funext v i j
    exact Classical.byContradiction fun hne => hn ⟨v, i, j, fun e => hne e.symm⟩)
  obtain ⟨v, i, j, hne⟩ := this
  have hlt : rnds g w M k v i j < rnds g w M (k + 1) v i j := by have := hup v i j; omega
  have hin : (v : Int) < g.vars ∧ i ≤ j ∧ j ≤ w.length := Classical.byContradiction fun hn => by
    rw [rnds_out hn, rnds_out hn] at hlt; omega
  unfold total
  refine sumN_lt (k := v) (by omega) (fun x _ => sumN_le fun y _ => sumN_le fun z _ => hup x y z) ?_
  refine sumN_lt (k := i) (by omega) (fun y _ => sumN_le fun z _ => hup v y z) ?_
  exact sumN_lt (k := j) (by omega) (fun z _ => hup v i z) hlt
theorem rnds_stay {g : Gram} {w : List Int} {M k : Nat} (h : rnds g w M (k + 1) = rnds g w M k) : ∀ m, rnds g w M (k + m) = rnds g w M k
  | 0 => rfl
  | m + 1 => by
    show rnd g w M (rnds g w M (k + m)) = _
    rw [rnds_stay h m]; exact h
theorem rnds_total {g : Gram} {w : List Int} {M : Nat} : ∀ k, rnds g w M (k + 1) ≠ rnds g w M k → k < total g w (rnds g w M (k + 1))
  | 0, h => by have := total_lt h; omega
  | k + 1, h => by
    have h1 : rnds g w M (k + 1) ≠ rnds g w M k := fun e => h (by
      show rnd g w M (rnds g w M (k + 1)) = rnd g w M (rnds g w M k)
      rw [e])
    have := rnds_total k h1
    have := total_lt h
    omega
/-- While something comes there are not so many rounds. -/
theorem rnds_more {g : Gram} {w : List Int} {M k : Nat} (h : rnds g w M (k + 1) ≠ rnds g w M k) : k < many g w M :=
  Nat.lt_of_lt_of_le (rnds_total k h) (total_le (fun v i j => rnds_le (k + 1) v i j))
theorem wcns_fix (g : Gram) (w : List Int) (M : Nat) : rnd g w M (wcns g w M) = wcns g w M := Classical.byContradiction fun h => by
  have := rnds_more (g := g) (w := w) (M := M) (k := many g w M) h
  omega
theorem rnds_end {g : Gram} {w : List Int} {M k : Nat} (h : rnds g w M (k + 1) = rnds g w M k) : rnds g w M k = wcns g w M := by
  unfold wcns
  by_cases hk : k ≤ many g w M
  · have := rnds_stay h (many g w M - k)
    rw [show k + (many g w M - k) = many g w M by omega] at this
    exact this.symm
  · have := rnds_stay (g := g) (w := w) (M := M) (k := many g w M) (wcns_fix g w M) (k - many g w M)
    rw [show many g w M + (k - many g w M) = k by omega] at this
    exact this
theorem wcns_le (g : Gram) (w : List Int) (M v i j : Nat) : wcns g w M v i j ≤ M := rnds_le _ v i j
theorem wcns_in {g : Gram} {w : List Int} {M v i j : Nat} (h1 : (v : Int) < g.vars) (h2 : i ≤ j) (h3 : j ≤ w.length) : wcns g w M v i j = min M (allR g (wcns g w M) w v i j) := by
  conv => lhs; rw [← wcns_fix]
  unfold rnd; rw [if_pos ⟨h1, h2, h3⟩]
end Go.Proofs.Yticnpbopelgmiaa
namespace Go.Proofs.Yticnpbopelgmiaa
open Go.RowKit
set_option maxRecDepth 100000

abbrev nilT : D := .raw (.slice none 0 0)
theorem clone_sim {t : Bool} {xs : List Int} (hl : xs.length ≤ 100000000 := by ((try simp only [List.length_map, List.length_append, List.length_cons, List.length_nil, List.length_replicate, List.length_set, List.length_take, List.length_drop]); first | omega | assumption)) :
    ACalls Try.prog 57 [.d (ints t xs)] [] (.own 5 xs.length) [(5, .row 3 1 (xs.map iD))] := by
  refine ACalls.intro (n := 8) Try.func57 rfl rfl (by simp) (by rfl) ?_
  simp only [argFr]
  refine aw_seq ?_
  refine t_reg ?_
  refine s_assign (hr := ?_)
  refine dops_end ?_
  refine andThen_n ?_
  refine aw_seq ?_
  refine aw_seq ?_
  refine t_eqNil ?_ ?_ undInts
  · intro hx
    have hx' : xs = [] := by simpa using hx
    subst hx'
    repeat (first | refine wkr ?_ | refine s_field (hr := ?_))
    refine aw_nil 2 5 3 1 rfl rfl rfl ?_
    repeat (first | refine wk ?_ | refine s_field (hr := ?_))
    exact fin
  · repeat (first | refine wk ?_ | refine s_field (hr := ?_))
    exact finx
end Go.Proofs.Yticnpbopelgmiaa
