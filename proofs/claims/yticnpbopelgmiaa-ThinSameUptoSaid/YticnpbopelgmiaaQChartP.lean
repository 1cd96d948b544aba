/-
  Chart, plain: in how many ways symbols stand for a word. Sim: SameGram, Clone, OwnGram, bare, ownInts. Sim: sets of nonterminals: Has, With, List. Sim: which have the empty word, which have a tree. Sim: sets that grow; Nullable, Productive; NullOf, GoodOf. Sim: the reference's: allIn, NullOf, GoodOf, ListOf.
-/
import Derived.Test.YticnpbopelgmiaaT1
import Derived.Test.YticnpbopelgmiaaQG1
import Derived.Test.YticnpbopelgmiaaS5
set_option linter.unusedVariables false
set_option linter.unusedSimpArgs false
set_option linter.unusedSectionVars false
namespace Go.Proofs.Yticnpbopelgmiaa
open Go.RowKit

/-! ### Sums -/
def sumN : Nat → (Nat → Nat) → Nat
  | 0, _ => 0
  | n + 1, f => sumN n f + f n
theorem sumN_congr {f g : Nat → Nat} : ∀ {n : Nat}, (∀ x, x < n → f x = g x) → sumN n f = sumN n g
  | 0, _ => rfl
  | n + 1, h => by simp only [sumN]; rw [sumN_congr (fun x hx => h x (by omega)), h n (by omega)]
theorem sumN_zero {f : Nat → Nat} : ∀ {n : Nat}, (∀ x, x < n → f x = 0) → sumN n f = 0
  | 0, _ => rfl
  | n + 1, h => by simp only [sumN]; rw [sumN_zero (fun x hx => h x (by omega)), h n (by omega)]
theorem sumN_le {f g : Nat → Nat} : ∀ {n : Nat}, (∀ x, x < n → f x ≤ g x) → sumN n f ≤ sumN n g
  | 0, _ => Nat.le_refl _
  | n + 1, h => by simp only [sumN]; exact Nat.add_le_add (sumN_le (fun x hx => h x (by omega))) (h n (by omega))
theorem sumN_ext {f : Nat → Nat} {n m : Nat} (h : n ≤ m) (hz : ∀ x, n ≤ x → x < m → f x = 0) : sumN m f = sumN n f := by
  induction m with
  | zero => obtain rfl : n = 0 := by omega
            rfl
  | succ m ih =>
    by_cases e : n = m + 1
    · rw [e]
    · simp only [sumN]
      rw [ih (by omega) (fun x h1 h2 => hz x h1 (by omega)), hz m (by omega) (by omega)]; rfl
theorem sumN_single {f : Nat → Nat} {n k : Nat} (hk : k < n) (hz : ∀ x, x < n → x ≠ k → f x = 0) : sumN n f = f k := by
  rw [sumN_ext (n := k + 1) (by omega) (fun x h1 h2 => hz x h2 (by omega))]
  simp only [sumN]
  rw [sumN_zero (fun x hx => hz x (by omega) (by omega))]; omega
theorem le_sumN {f : Nat → Nat} {n k : Nat} (hk : k < n) : f k ≤ sumN n f := by
  induction n with
  | zero => omega
  | succ n ih =>
    simp only [sumN]
    by_cases e : k = n
    · subst e; omega
    · have := ih (by omega); omega
/-! ### At most so many -/
theorem min_add_r (M a b : Nat) : min M (a + min M b) = min M (a + b) := by omega
theorem min_add_l (M a b : Nat) : min M (min M a + b) = min M (a + b) := by omega
theorem min_mul_l {M a b : Nat} : min M (min M a * b) = min M (a * b) := by
  by_cases h : a ≤ M
  · rw [Nat.min_eq_right h]
  · rw [Nat.min_eq_left (by omega : M ≤ a)]
    cases b with
    | zero => rfl
    | succ b =>
      have h1 : M * 1 ≤ M * (b + 1) := Nat.mul_le_mul_left _ (by omega)
      have h2 : a * 1 ≤ a * (b + 1) := Nat.mul_le_mul_left _ (by omega)
      omega
theorem min_mul_r {M a b : Nat} : min M (a * min M b) = min M (a * b) := by rw [Nat.mul_comm, min_mul_l, Nat.mul_comm]
theorem min_sumN {M : Nat} {f g : Nat → Nat} : ∀ {n : Nat}, (∀ x, x < n → min M (f x) = min M (g x)) → min M (sumN n f) = min M (sumN n g)
  | 0, _ => rfl
  | n + 1, h => by
    have h1 := min_sumN (n := n) (fun x hx => h x (by omega))
    have h2 := h n (by omega)
    simp only [sumN]
    omega

/-! ### Symbols over a word -/
abbrev Cube := Nat → Nat → Nat → Nat
/-- One symbol from i to m. -/
def symN (N : Cube) (w : List Int) (s : Int) (i m : Nat) : Nat := if 0 ≤ s then N s.toNat i m else if m = i + 1 ∧ w[i]? = some (-1 - s) then 1 else 0
/-- Symbols, from i to j. -/
def wcn (N : Cube) (w : List Int) : List Int → Nat → Nat → Nat
  | [], i, j => if i = j then 1 else 0
  | s :: r, i, j => sumN (j + 1) fun m => if i ≤ m then symN N w s i m * wcn N w r m j else 0
/-! ### Monotone -/
def CLe (N N' : Cube) : Prop := ∀ v i j, N v i j ≤ N' v i j
theorem symN_mono {N N' : Cube} (h : CLe N N') (w : List Int) (s : Int) (i m : Nat) : symN N w s i m ≤ symN N' w s i m := by
  unfold symN; split
  · exact h _ _ _
  · exact Nat.le_refl _
theorem wcn_mono {N N' : Cube} (h : CLe N N') (w : List Int) : ∀ (r : List Int) (i j : Nat), wcn N w r i j ≤ wcn N' w r i j
  | [], _, _ => Nat.le_refl _
  | s :: r, i, j => by
    simp only [wcn]
    refine sumN_le fun m _ => ?_
    split
    · exact Nat.mul_le_mul (symN_mono h w s i m) (wcn_mono h w r m j)
    · exact Nat.le_refl _

/-! ### Rounds -/
/-- All rules of v together. -/
def allR (g : Gram) (N : Cube) (w : List Int) (v i j : Nat) : Nat := ((g.rules.filter fun r => decide (r.left = (v : Int))).map fun r => wcn N w r.right i j).sum
/-- One round: what the rules say where this is known. -/
def rnd (g : Gram) (w : List Int) (M : Nat) (N : Cube) : Cube := fun v i j => if (v : Int) < g.vars ∧ i ≤ j ∧ j ≤ w.length then min M (allR g N w v i j) else 0
def rnds (g : Gram) (w : List Int) (M : Nat) : Nat → Cube
  | 0 => fun _ _ _ => 0
  | k + 1 => rnd g w M (rnds g w M k)
def many (g : Gram) (w : List Int) (M : Nat) : Nat := g.vars.toNat * ((w.length + 1) * ((w.length + 1) * M))
/-- In the end. -/
def wcns (g : Gram) (w : List Int) (M : Nat) : Cube := rnds g w M (many g w M)
theorem sum_map_le {α : Type} {f g : α → Nat} : ∀ {l : List α}, (∀ x ∈ l, f x ≤ g x) → (l.map f).sum ≤ (l.map g).sum
  | [], _ => Nat.le_refl _
  | a :: l, h => by
    simp only [List.map_cons, List.sum_cons]
    exact Nat.add_le_add (h a (by simp)) (sum_map_le (fun x hx => h x (by simp [hx])))
theorem rnd_mono {g : Gram} {w : List Int} {M : Nat} {N N' : Cube} (h : CLe N N') : CLe (rnd g w M N) (rnd g w M N') := fun v i j => by
  unfold rnd
  split
  · have : allR g N w v i j ≤ allR g N' w v i j := sum_map_le (fun r _ => wcn_mono h w r.right i j)
    omega
  · exact Nat.le_refl _
theorem rnds_up {g : Gram} {w : List Int} {M : Nat} : ∀ k, CLe (rnds g w M k) (rnds g w M (k + 1))
  | 0 => fun _ _ _ => Nat.zero_le _
  | k + 1 => rnd_mono (rnds_up k)
theorem rnd_le {g : Gram} {w : List Int} {M : Nat} {N : Cube} (v i j : Nat) : rnd g w M N v i j ≤ M := by unfold rnd; split <;> omega
theorem rnds_le {g : Gram} {w : List Int} {M : Nat} : ∀ (k v i j : Nat), rnds g w M k v i j ≤ M
  | 0, _, _, _ => Nat.zero_le _
  | _ + 1, v, i, j => rnd_le v i j
def total (g : Gram) (w : List Int) (N : Cube) : Nat := sumN g.vars.toNat fun v => sumN (w.length + 1) fun i => sumN (w.length + 1) fun j => N v i j
theorem sumN_const {n c : Nat} : sumN n (fun _ => c) = n * c := by
  induction n with
  | zero => simp [sumN]
  | succ n ih => simp only [sumN, ih, Nat.add_mul]; omega
theorem total_le {g : Gram} {w : List Int} {M : Nat} {N : Cube} (h : ∀ v i j, N v i j ≤ M) : total g w N ≤ many g w M := by
  unfold total many
  rw [← sumN_const]
  refine sumN_le fun v _ => ?_
  rw [← sumN_const]
  refine sumN_le fun i _ => ?_
  rw [← sumN_const]
  exact sumN_le fun j _ => h v i j
theorem rnds_out {g : Gram} {w : List Int} {M : Nat} {k v i j : Nat} (h : ¬ ((v : Int) < g.vars ∧ i ≤ j ∧ j ≤ w.length)) : rnds g w M k v i j = 0 := by
  cases k with
  | zero => rfl
  | succ k => show rnd g w M _ v i j = 0; unfold rnd; rw [if_neg h]
theorem sumN_lt {f g : Nat → Nat} {n k : Nat} (hk : k < n) (h : ∀ x, x < n → f x ≤ g x) (hl : f k < g k) : sumN n f < sumN n g := by
  induction n with
  | zero => omega
  | succ n ih =>
    simp only [sumN]
    by_cases e : k = n
    · subst e
      have := sumN_le (f := f) (g := g) (n := k) (fun x hx => h x (by omega))
      omega
    · have := ih (by omega) (fun x hx => h x (by omega))
      have := h n (by omega)
      omega
theorem total_lt {g : Gram} {w : List Int} {M k : Nat} (h : rnds g w M (k + 1) ≠ rnds g w M k) : total g w (rnds g w M k) < total g w (rnds g w M (k + 1)) := by
  have hup := rnds_up (g := g) (w := w) (M := M) k
  have : ∃ v i j, rnds g w M k v i j ≠ rnds g w M (k + 1) v i j := Classical.byContradiction fun hn => h (by
    funext v i j
    exact Classical.byContradiction fun hne => hn ⟨v, i, j, fun e => hne e.symm⟩)
  obtain ⟨v, i, j, hne⟩ := this
  have hlt : rnds g w M k v i j < rnds g w M (k + 1) v i j := by have := hup v i j; omega
  have hin : (v : Int) < g.vars ∧ i ≤ j ∧ j ≤ w.length := Classical.byContradiction fun hn => by
    rw [rnds_out hn, rnds_out hn] at hlt; omega
  unfold total
  refine sumN_lt (k := v) (by omega) (fun x _ => sumN_le fun y _ => sumN_le fun z _ => hup x y z) ?_
  refine sumN_lt (k := i) (by omega) (fun y _ => sumN_le fun z _ => hup v y z) ?_
  exact sumN_lt (k := j) (by omega) (fun z _ => hup v i z) hlt
theorem rnds_stay {g : Gram} {w : List Int} {M k : Nat} (h : rnds g w M (k + 1) = rnds g w M k) : ∀ m, rnds g w M (k + m) = rnds g w M k
  | 0 => rfl
  | m + 1 => by
    show rnd g w M (rnds g w M (k + m)) = _
    rw [rnds_stay h m]; exact h
theorem rnds_total {g : Gram} {w : List Int} {M : Nat} : ∀ k, rnds g w M (k + 1) ≠ rnds g w M k → k < total g w (rnds g w M (k + 1))
  | 0, h => by have := total_lt h; omega
  | k + 1, h => by
    have h1 : rnds g w M (k + 1) ≠ rnds g w M k := fun e => h (by
      show rnd g w M (rnds g w M (k + 1)) = rnd g w M (rnds g w M k)
      rw [e])
    have := rnds_total k h1
    have := total_lt h
    omega
/-- While something comes there are not so many rounds. -/
theorem rnds_more {g : Gram} {w : List Int} {M k : Nat} (h : rnds g w M (k + 1) ≠ rnds g w M k) : k < many g w M :=
  Nat.lt_of_lt_of_le (rnds_total k h) (total_le (fun v i j => rnds_le (k + 1) v i j))
theorem wcns_fix (g : Gram) (w : List Int) (M : Nat) : rnd g w M (wcns g w M) = wcns g w M := Classical.byContradiction fun h => by
  have := rnds_more (g := g) (w := w) (M := M) (k := many g w M) h
  omega
theorem rnds_end {g : Gram} {w : List Int} {M k : Nat} (h : rnds g w M (k + 1) = rnds g w M k) : rnds g w M k = wcns g w M := by
  unfold wcns
  by_cases hk : k ≤ many g w M
  · have := rnds_stay h (many g w M - k)
    rw [show k + (many g w M - k) = many g w M by omega] at this
    exact this.symm
  · have := rnds_stay (g := g) (w := w) (M := M) (k := many g w M) (wcns_fix g w M) (k - many g w M)
    rw [show many g w M + (k - many g w M) = k by omega] at this
    exact this
theorem wcns_le (g : Gram) (w : List Int) (M v i j : Nat) : wcns g w M v i j ≤ M := rnds_le _ v i j
theorem wcns_in {g : Gram} {w : List Int} {M v i j : Nat} (h1 : (v : Int) < g.vars) (h2 : i ≤ j) (h3 : j ≤ w.length) : wcns g w M v i j = min M (allR g (wcns g w M) w v i j) := by
  conv => lhs; rw [← wcns_fix]
  unfold rnd; rw [if_pos ⟨h1, h2, h3⟩]
end Go.Proofs.Yticnpbopelgmiaa
namespace Go.Proofs.Yticnpbopelgmiaa
open Go.RowKit
set_option maxRecDepth 100000

abbrev nilT : D := .raw (.slice none 0 0)
theorem clone_sim {t : Bool} {xs : List Int} (hl : xs.length ≤ 100000000 := by ((try simp only [List.length_map, List.length_append, List.length_cons, List.length_nil, List.length_replicate, List.length_set, List.length_take, List.length_drop]); first | omega | assumption)) :
    ACalls Try.prog 57 [.d (ints t xs)] [] (.own 5 xs.length) [(5, .row 3 1 (xs.map iD))] := by
  refine ACalls.intro (n := 8) Try.func57 rfl rfl (by simp) (by rfl) ?_
  simp only [argFr]
  refine aw_seq ?_
  refine t_reg ?_
  refine s_assign (hr := ?_)
  refine dops_end ?_
  refine andThen_n ?_
  refine aw_seq ?_
  refine aw_seq ?_
  refine t_eqNil ?_ ?_ undInts
  · intro hx
    have hx' : xs = [] := by simpa using hx
    subst hx'
    repeat (first | refine wkr ?_ | refine s_field (hr := ?_))
    refine aw_nil 2 5 3 1 rfl rfl rfl ?_
    repeat (first | refine wk ?_ | refine s_field (hr := ?_))
    exact fin
  · repeat (first | refine wk ?_ | refine s_field (hr := ?_))
    exact finx
end Go.Proofs.Yticnpbopelgmiaa
namespace Go.Proofs.Yticnpbopelgmiaa
open Go.RowKit
set_option maxRecDepth 100000

def uD (x : Int) : D := .raw (.int .u64 x)
abbrev U (x : Nat) : V := .d (uD (x : Int))
def hasN (s : Nat) (v : Int) : Bool := decide (0 ≤ v) && (decide (v < 64) && s.testBit v.toNat)
def withN (s : Nat) (v : Int) : Nat := if 0 ≤ v ∧ v < 64 then s ||| (1 <<< v.toNat) else s
theorem bit_and (s k : Nat) : decide (s >>> k &&& 1 = 1) = s.testBit k := by
  rw [Nat.testBit, Nat.and_comm 1, Nat.and_one_is_mod]
  rcases Nat.mod_two_eq_zero_or_one (s >>> k) with h | h <;> rw [h] <;> rfl
theorem has_sim {s : Nat} {v : Int} (hs : s < 18446744073709551616 := by ((try simp only [List.length_map, List.length_append, List.length_cons, List.length_nil, List.length_replicate, List.length_set, List.length_take, List.length_drop]); first | omega | assumption)) : ACalls Try.prog 72 [U s, I v] [] (B (hasN s v)) [] := by
  refine ACalls.intro (n := 18) Try.func72 rfl rfl (by simp) (by rfl) ?_
  simp only [argFr]
  by_cases h1 : 0 ≤ v
  · by_cases h2 : v < 64
    · obtain ⟨k, rfl⟩ : ∃ k : Nat, v = (k : Int) := ⟨v.toNat, by omega⟩
      have e : hasN s k = s.testBit k := by simp only [hasN, decide_eq_true h1, decide_eq_true h2, Bool.true_and, Int.toNat_natCast]
      have e2 : s.testBit k = decide (andU (shrU s k) 1 = 1) := by
        rw [← bit_and]; exact decide_eq_decide.2 (by rw [show andU (shrU s k) 1 = ((s >>> k &&& 1 : Nat) : Int) from rfl]; omega)
      rw [e, e2]
      repeat (first | refine wk ?_ | refine s_field (hr := ?_))
      refine gOp ?_
      refine gBin ?_
      refine s_and (h1 := ?_) (h2 := ?_) (h3 := ?_) (h4 := ?_) (hr := ?_)
      · exact Int.natCast_nonneg _
      · have := Nat.shiftRight_le s k
        rw [show shrU s k = ((s >>> k : Nat) : Int) from rfl]
        omega
      · omega
      · omega
      repeat (first | refine wk ?_ | refine s_field (hr := ?_))
      exact fin
    · rw [show hasN s v = false by simp [hasN]; omega]
      repeat (first | refine wk ?_ | refine s_field (hr := ?_))
      exact fin
  · rw [show hasN s v = false by simp [hasN]; omega]
    repeat (first | refine wk ?_ | refine s_field (hr := ?_))
    exact fin
theorem with_sim {s : Nat} {v : Int} (hs : s < 18446744073709551616 := by ((try simp only [List.length_map, List.length_append, List.length_cons, List.length_nil, List.length_replicate, List.length_set, List.length_take, List.length_drop]); first | omega | assumption)) : ACalls Try.prog 71 [U s, I v] [] (U (withN s v)) [] := by
  refine ACalls.intro (n := 16) Try.func71 rfl rfl (by simp) (by rfl) ?_
  simp only [argFr]
  by_cases h1 : v < 0
  · rw [show withN s v = s by rw [withN, if_neg (by omega)]]
    repeat (first | refine wk ?_ | refine s_field (hr := ?_))
    exact fin
  · by_cases h2 : v > 63
    · rw [show withN s v = s by rw [withN, if_neg (by omega)]]
      repeat (first | refine wk ?_ | refine s_field (hr := ?_))
      exact fin
    · obtain ⟨k, rfl⟩ : ∃ k : Nat, v = (k : Int) := ⟨v.toNat, by omega⟩
      have e : withN s k = ((s : Int).toNat ||| (shlU 1 k).toNat) := by rw [withN, if_pos (by omega)]; rfl
      rw [show U (withN s k) = V.d (.raw (.int .u64 (orU s (shlU 1 k)))) by rw [e]; rfl]
      clear e
      repeat (first | refine wk ?_ | refine s_field (hr := ?_))
      refine gOp ?_
      refine gBin ?_
      refine s_or (h1 := ?_) (h2 := ?_) (h3 := ?_) (h4 := ?_) (hr := ?_)
      · omega
      · omega
      · exact Int.natCast_nonneg _
      · have hb : (1 <<< k : Nat) < 18446744073709551616 := by
          rw [Nat.one_shiftLeft]
          exact Nat.lt_of_lt_of_le (Nat.pow_lt_pow_right (a := 2) (n := 64) (by decide) (by omega)) (by decide)
        rw [show shlU 1 (k : Int) = ((1 <<< k : Nat) : Int) from rfl]
        omega
      repeat (first | refine wk ?_ | refine s_field (hr := ?_))
      exact fin
/-- All of it, rising. -/
def listN (s n : Nat) : List Int := ((List.range n).filter (fun k => s.testBit k)).map (fun (k : Nat) => (k : Int))
theorem listN_snoc (s n : Nat) : listN s (n + 1) = listN s n ++ (if s.testBit n = true then [(n : Int)] else []) := by
  unfold listN
  rw [List.range_succ, List.filter_append, List.map_append]
  congr 1
  by_cases h : s.testBit n = true <;> simp [h]
theorem listN_le (s n : Nat) : (listN s n).length ≤ n := by
  unfold listN
  rw [List.length_map]
  exact Nat.le_trans (List.length_filter_le _ _) (by simp)
theorem list_sim {s : Nat} (hs : s < 18446744073709551616 := by ((try simp only [List.length_map, List.length_append, List.length_cons, List.length_nil, List.length_replicate, List.length_set, List.length_take, List.length_drop]); first | omega | assumption)) : ACalls Try.prog 74 [U s] [] (.own 900 (listN s 64).length) [(900, .row 3 1 ((listN s 64).map iD))] := by
  refine ACalls.intro (n := 17) Try.func74 rfl rfl (by simp) (by rfl) ?_
  simp only [argFr]
  repeat (first | refine wk ?_ | refine s_field (hr := ?_))
  refine aw_nil 3 900 3 1 rfl rfl rfl ?_
  refine t_loop (X := Nat) (fun k => k ≤ 64) (fun k => [(5, I k), (0, U s), (3, .own 900 (listN s k).length)]) (fun k => [(900, .row 3 1 ((listN s k).map iD))]) (fun k => 64 - k) 0 (Nat.zero_le _) ?_
  intro k hk
  have hl := listN_le s k
  by_cases hlt : (k : Int) < 64
  · have e := listN_snoc s k
    have eh : hasN s k = s.testBit k := by simp only [hasN, decide_eq_true hlt, Bool.true_and, Int.toNat_natCast]; rw [decide_eq_true (by omega)]; rfl
    have h1 := has_sim (s := s) (v := k) hs
    rw [eh] at h1
    repeat (first | refine wk ?_ | refine s_field (hr := ?_))
    refine s_call [] (hA := h1) (hr := ?_)
    cases hb : s.testBit k with
    | true =>
      rw [hb, if_pos rfl] at e
      repeat (first | refine wk ?_ | refine s_field (hr := ?_))
      exact t_next (k + 1)
    | false =>
      rw [hb, if_neg (by decide), List.append_nil] at e
      repeat (first | refine wk ?_ | refine s_field (hr := ?_))
      exact t_next (k + 1)
  · obtain rfl : k = 64 := by omega
    repeat (first | refine wk ?_ | refine s_field (hr := ?_))
    exact fin
end Go.Proofs.Yticnpbopelgmiaa
namespace Go.Proofs.Yticnpbopelgmiaa
open Go.RowKit
set_option maxRecDepth 100000

theorem hasN_set {is : List Bool} (h : is.length ≤ 64) (v : Int) : hasN (setN is) v = has is v := by
  unfold hasN has
  rw [setN_bit]
  by_cases h1 : v < 64
  · simp [h1]
  · rw [decide_eq_false h1, Bool.false_and, Bool.and_false, List.getD_eq_getElem?_getD, List.getElem?_eq_none (by omega)]
    simp
theorem withN_set {is : List Bool} (h : is.length ≤ 64) {v : Int} (h0 : 0 ≤ v) (h1 : v < is.length) : withN (setN is) v = setN (put is v) := by
  rw [withN, if_pos (by omega), put, setN_set (by omega)]
def listB (is : List Bool) : List Int := ((List.range is.length).filter (fun k => is.getD k false)).map (fun (k : Nat) => (k : Int))
theorem listB_le (is : List Bool) : (listB is).length ≤ is.length := by
  unfold listB
  rw [List.length_map]
  exact Nat.le_trans (List.length_filter_le _ _) (by simp)
theorem listN_set {is : List Bool} : ∀ {n : Nat}, is.length ≤ n → listN (setN is) n = listB is := by
  intro n hn
  obtain ⟨d, rfl⟩ : ∃ d, n = is.length + d := ⟨n - is.length, by omega⟩
  clear hn
  induction d with
  | zero => simp only [listN, listB, setN_bit, Nat.add_zero]
  | succ d ih =>
    rw [← Nat.add_assoc, listN_snoc, ih, setN_bit, List.getD_eq_getElem?_getD, List.getElem?_eq_none (by omega), if_neg (by simp), List.append_nil]
abbrev bools (t : Bool) (is : List Bool) : D := .sl t 1 (is.map bD)
def badS (t : Bool) (is : List Bool) (x : Int) : Bool := (decide (x < 0) && !t) || (decide (0 ≤ x) && !has is x)
theorem asks_any (t : Bool) (r : Rule) (is : List Bool) : inAll (asks t r) is = !(r.right.any (badS t is)) := by
  rw [Bool.eq_iff_iff]
  simp only [inAll, Bool.not_eq_true', List.any_eq_false, List.all_eq_true]
  cases t with
  | false =>
    simp only [asks, cond_false]
    refine forall_congr' fun x => forall_congr' fun _ => ?_
    by_cases h : 0 ≤ x
    · simp [badS, h]
    · have : has is x = false := by simp [has, h]
      simp [badS, this]
  | true =>
    simp only [asks, cond_true]
    constructor
    · intro h x hx
      by_cases h0 : 0 ≤ x
      · simp [badS, h x (by simp [kids, hx, h0])]
      · simp [badS, h0]
    · intro h x hx
      have h0 := kids_nonneg x hx
      have := h x (kids_mem hx)
      simpa [badS, h0] using this
abbrev setBox (is : List Bool) : Ob := .box 99 [.d (uD (setN is : Nat))]
abbrev boolBox (b : Bool) : Ob := .box 4 [.d (bD b)]
theorem whole1_sim {t : Bool} {is : List Bool} {x : Int} (hl : is.length ≤ 64) :
    ACalls Try.prog 159 [I x, .ptr 1000 0, .ptr 1001 0] [(1000, boolBox t), (1001, setBox is)] (B (badS t is x)) [(1000, boolBox t), (1001, setBox is)] := by
  refine ACalls.intro (n := 21) Try.func159 rfl rfl (by simp) (by rfl) ?_
  simp only [argFr]
  have hs := setN_lt64 hl
  have h1 := has_sim (s := setN is) (v := x) hs
  rw [hasN_set hl] at h1
  by_cases h0 : 0 ≤ x
  · have hx : decide (x < 0) = false := decide_eq_false (by omega)
    have eb : badS t is x = !has is x := by simp [badS, h0, hx]
    rw [eb]
    repeat (first | refine wk ?_)
    refine s_call [] (hA := h1) (hr := ?_)
    repeat (first | refine wk ?_)
    exact fin
  · cases t with
    | false =>
      rw [show badS false is x = true by simp [badS]; omega]
      repeat (first | refine wkz ?_ | refine s_field (hr := ?_))
      exact fin
    | true =>
      rw [show badS true is x = false by simp [badS]; omega]
      repeat (first | refine wk ?_)
      exact fin
theorem whole_sim {t u : Bool} {r : Rule} {is : List Bool} (hl : is.length ≤ 64 := by ((try simp only [List.length_map, List.length_append, List.length_cons, List.length_nil, List.length_replicate, List.length_set, List.length_take, List.length_drop]); first | omega | assumption)) (hr : r.right.length ≤ 100000000 := by ((try simp only [List.length_map, List.length_append, List.length_cons, List.length_nil, List.length_replicate, List.length_set, List.length_take, List.length_drop]); first | omega | assumption)) :
    ACalls Try.prog 123 [.d (ruleD t r), U (setN is), B u] [] (B (inAll (asks u r) is)) [] := by
  refine ACalls.intro (n := 12) Try.func123 rfl rfl (by simp) (by rfl) ?_
  simp only [argFr]
  rw [asks_any]
  repeat (first | refine wk ?_)
  refine s_call [(1000, 5), (1001, 4)] (hA := containsFunc_sim (t := t) (clos := 159) (caps := [.ptr 1000 0, .ptr 1001 0]) (H := [(1000, boolBox u), (1001, setBox is)]) (p := badS u is) ⟨rfl, rfl, rfl, ⟨rfl, rfl, trivial⟩⟩ (fun x _ => whole1_sim hl)) (hr := ?_)
  repeat (first | refine wk ?_)
  exact fin
end Go.Proofs.Yticnpbopelgmiaa
namespace Go.Proofs.Yticnpbopelgmiaa
open Go.RowKit
set_option maxRecDepth 100000

theorem pass_at {t : Bool} {rs : List Rule} {i : Nat} {is : List Bool} (h : i < rs.length) : pass t (rs.drop i) is = pass t (rs.drop (i + 1)) (one1 t rs[i] is) := by
  rw [List.drop_eq_getElem_cons h, pass]
theorem pass_out {t : Bool} {rs : List Rule} {i : Nat} {is : List Bool} (h : ¬ i < rs.length) : pass t (rs.drop i) is = is := by
  rw [List.drop_of_length_le (by omega), pass]
abbrev ruleBox (t : Bool) (r : Rule) : Ob := .box 41 [.d (iD r.left), .d (ints t r.right)]
theorem lefts1_sim {t u : Bool} {g : Gram} (hg : g.ok) {is : List Bool} (hl : is.length = g.vars.toNat) :
    ACalls Try.prog 122 [U (setN is), .ptr 1000 0, .ptr 1001 0] [(1000, gramBox t g), (1001, boolBox u)] (U (setN (pass u g.rules is))) [(1000, gramBox t g), (1001, boolBox u)] := by
  refine ACalls.intro (n := 24) Try.func122 rfl rfl (by simp) (by rfl) ?_
  simp only [argFr]
  have hv := hg.vars
  have hlen := hg.rules
  repeat (first | refine wk ?_)
  refine t_loop (X := Nat × List Bool) (fun x => x.1 ≤ g.rules.length ∧ pass u g.rules is = pass u (g.rules.drop x.1) x.2 ∧ x.2.length = is.length) (fun x => [(10, I x.1), (9, I g.rules.length), (8, .d (rulesD t g.rules)), (0, U (setN x.2)), (1, .ptr 1000 0), (2, .ptr 1001 0)]) (fun _ => [(1000, gramBox t g), (1001, boolBox u)]) (fun x => g.rules.length - x.1) (0, is) ⟨Nat.zero_le _, rfl, rfl⟩ ?_
  rintro ⟨i, js⟩ ⟨h1, h2, h3⟩
  dsimp only at h1 h2 h3 ⊢
  by_cases hlt : i < g.rules.length
  · have hmem := List.getElem_mem hlt
    have a1 := hg.left0 _ hmem
    have a2 := hg.left _ hmem
    have a3 := hg.right _ hmem
    have hp := pass_at (t := u) (is := js) hlt
    have hl64 : js.length ≤ 64 := by omega
    have hlt64 := setN_lt64 hl64
    have hw := with_sim (s := setN js) (v := g.rules[i].left) hlt64
    rw [withN_set hl64 a1 (by omega)] at hw
    repeat (first | refine wk ?_)
    refine s_call [] (hA := whole_sim (t := t) (r := g.rules[i])) (hr := ?_)
    cases hc : inAll (asks u g.rules[i]) js with
    | true =>
      have ho : one1 u g.rules[i] js = put js g.rules[i].left := by rw [one1, hc]; rfl
      rw [ho] at hp
      repeat (first | refine wk ?_)
      refine s_call [] (hA := hw) (hr := ?_)
      repeat (first | refine wk ?_)
      exact t_next (i + 1, put js g.rules[i].left) (a := ⟨by omega, h2.trans hp, by rw [put_length]; exact h3⟩) (b := by dsimp only; omega)
    | false =>
      have ho : one1 u g.rules[i] js = js := by rw [one1, hc]; rfl
      rw [ho] at hp
      repeat (first | refine wk ?_)
      exact t_next (i + 1, js) (a := ⟨by omega, h2.trans hp, h3⟩) (b := by dsimp only; omega)
  · rw [h2, pass_out hlt]
    repeat (first | refine wk ?_)
    exact fin
theorem grow_sim {clos : Nat} {caps : List V} {H : Hp} {f : List Bool → List Bool} {is : List Bool} (hC : Clo H caps) (hs : ∀ x, Sub x (f x)) (hl : is.length ≤ 64)
    (hc : ∀ x : List Bool, x.length = is.length → ACalls Try.prog clos (U (setN x) :: caps) H (U (setN (f x))) H) :
    ACalls Try.prog 121 [U (setN is), .fn (.func clos) [] caps] H (U (setN (full f is))) H := by
  refine ACalls.intro (n := 17) Try.func121 rfl rfl (by simp) (by rfl) ?_
  simp only [argFr]
  have h1 := hC.self
  have h2 := hC.inn
  have h3 := hC.caps
  repeat (first | refine wk ?_)
  refine s_clos hC (hA := hc is rfl) (hr := ?_)
  repeat (first | refine wk ?_)
  refine t_loop (X := List Bool) (fun x => x.length = is.length ∧ full f is = full f x) (fun x => [(5, U (setN (f x))), (0, U (setN x)), (1, .fn (.func clos) [] caps)]) (fun _ => H) (fun x => is.length - cntB x) is ⟨rfl, rfl⟩ ?_
  rintro x ⟨hx, hf⟩
  have hfl := (hs x).len
  by_cases e : f x = x
  · have e1 : (setN (f x) : Int) = (setN x : Int) := by rw [e]
    rw [hf, full_end e]
    repeat (first | refine wk ?_)
    exact fin
  · have e1 : ¬ ((setN (f x) : Int) = (setN x : Int)) := fun h => e (setN_inj hfl.symm (by omega))
    have hgr := (hs x).grows (Ne.symm e)
    have hle := cntB_le (f x)
    repeat (first | refine wk ?_)
    refine s_clos hC (hA := hc (f x) (by omega)) (hr := ?_)
    repeat (first | refine wk ?_)
    exact t_next (f x) (a := ⟨by omega, by rw [hf, full_step hs]⟩) (b := by omega)
theorem lefts_sim {t u : Bool} {g : Gram} (hg : g.ok) : ACalls Try.prog 70 [.d (gramD t g), B u] [] (U (setN (leftsOf u g))) [] := by
  refine ACalls.intro (n := 7) Try.func70 rfl rfl (by simp) (by rfl) ?_
  simp only [argFr]
  have hv := hg.vars
  have h := grow_sim (clos := 122) (caps := [.ptr 1000 0, .ptr 1001 0]) (H := [(1000, gramBox t g), (1001, boolBox u)]) (f := pass u g.rules) (is := none_ g) ⟨rfl, rfl, rfl, ⟨rfl, rfl, trivial⟩⟩ (pass_sub hg.left0) (by rw [none_length]; omega) (fun x hx => lefts1_sim hg (by rw [hx, none_length]))
  rw [show setN (none_ g) = 0 from setN_rep _] at h
  repeat (first | refine wk ?_)
  refine s_call [(1000, 2), (1001, 3)] (hA := h) (hr := ?_)
  repeat (first | refine wk ?_)
  exact fin
def nullL (g : Gram) : List Int := if (gramFault g).code = 0 then listB (leftsOf false g) else []
theorem list_set {is : List Bool} (h : is.length ≤ 64) : ACalls Try.prog 74 [U (setN is)] [] (.own 900 (listB is).length) [(900, .row 3 1 ((listB is).map iD))] := by
  have := list_sim (s := setN is) (setN_lt64 h)
  rwa [listN_set h] at this
theorem nullable_sim {t : Bool} {g : Gram} (hf : g.fit) : ACalls Try.prog 129 [.d (gramD t g)] [] (.tup [.d (ints false (nullL g)), .d (faultD (gramFault g))]) [] := by
  refine ACalls.intro (n := 15) Try.func129 rfl rfl (by simp) (by rfl) ?_
  simp only [argFr]
  have hl := hf.rules
  have hr := hf.right
  repeat (first | refine wk ?_)
  refine s_call [] (hA := gramCheck_sim) (hr := ?_)
  by_cases h0 : (gramFault g).code = 0
  · have hg := gram_ok h0
    have hz := fault_zero h0
    have hv := hg.vars
    have hll := leftsOf_len (t := false) hg
    rw [nullL, if_pos h0, hz]
    repeat (first | refine wk ?_)
    refine s_call [] (hA := lefts_sim (u := false) hg) (hr := ?_)
    repeat (first | refine wk ?_)
    refine s_call [] (hA := list_set (is := leftsOf false g) (by omega)) (hr := ?_)
    repeat (first | refine wkr ?_ | refine s_field (hr := ?_))
    refine aw_froz 900 rfl ?_
    repeat (first | refine wk ?_)
    exact fin
  · rw [nullL, if_neg h0]
    repeat (first | refine wk ?_)
    exact fin
end Go.Proofs.Yticnpbopelgmiaa
namespace Go.Proofs.Yticnpbopelgmiaa
open Go.RowKit
set_option maxRecDepth 100000

end Go.Proofs.Yticnpbopelgmiaa
