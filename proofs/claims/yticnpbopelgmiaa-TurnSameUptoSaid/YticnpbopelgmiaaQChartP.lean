/-
  Chart, plain: in how many ways symbols stand for a word. Facts, plain: where nothing leads to itself alone, what a nonterminal leads to is less than it. Chart, plain: who asks whom; what has no place is nothing. Forest, plain: trees by numbers. Forest, plain: what the tree of a number is; what number a tree has; numbers rise.
-/
import Derived.Test.YticnpbopelgmiaaT1
import Derived.Test.YticnpbopelgmiaaF2
set_option linter.unusedVariables false
set_option linter.unusedSimpArgs false
set_option linter.unusedSectionVars false
namespace Go.Proofs.Yticnpbopelgmiaa
open Go.RowKit

/-! ### Sums -/
def sumN : Nat → (Nat → Nat) → Nat
  | 0, _ => 0
  | n + 1, f => sumN n f + f n
theorem sumN_congr {f g : Nat → Nat} : ∀ {n : Nat}, (∀ x, x < n → f x = g x) → sumN n f = sumN n g
  | 0, _ => rfl
  | n + 1, h => by simp only [sumN]; rw [sumN_congr (fun x hx => h x (by omega)), h n (by omega)]
theorem sumN_zero {f : Nat → Nat} : ∀ {n : Nat}, (∀ x, x < n → f x = 0) → sumN n f = 0
  | 0, _ => rfl
  | n + 1, h => by simp only [sumN]; rw [sumN_zero (fun x hx => h x (by omega)), h n (by omega)]
theorem sumN_le {f g : Nat → Nat} : ∀ {n : Nat}, (∀ x, x < n → f x ≤ g x) → sumN n f ≤ sumN n g
  | 0, _ => Nat.le_refl _
  | n + 1, h => by simp only [sumN]; exact Nat.add_le_add (sumN_le (fun x hx => h x (by omega))) (h n (by omega))
theorem sumN_ext {f : Nat → Nat} {n m : Nat} (h : n ≤ m) (hz : ∀ x, n ≤ x → x < m → f x = 0) : sumN m f = sumN n f := by
  induction m with
  | zero => obtain rfl : n = 0 := by omega
            rfl
  | succ m ih =>
    by_cases e : n = m + 1
    · rw [e]
    · simp only [sumN]
      rw [ih (by omega) (fun x h1 h2 => hz x h1 (by omega)), hz m (by omega) (by omega)]; rfl
theorem sumN_single {f : Nat → Nat} {n k : Nat} (hk : k < n) (hz : ∀ x, x < n → x ≠ k → f x = 0) : sumN n f = f k := by
  rw [sumN_ext (n := k + 1) (by omega) (fun x h1 h2 => hz x h2 (by omega))]
  simp only [sumN]
  rw [sumN_zero (fun x hx => hz x (by omega) (by omega))]; omega
theorem le_sumN {f : Nat → Nat} {n k : Nat} (hk : k < n) : f k ≤ sumN n f := by
  induction n with
  | zero => omega
  | succ n ih =>
    simp only [sumN]
    by_cases e : k = n
    · subst e; omega
    · have := ih (by omega); omega
/-! ### At most so many -/
theorem min_add_r (M a b : Nat) : min M (a + min M b) = min M (a + b) := by omega
theorem min_add_l (M a b : Nat) : min M (min M a + b) = min M (a + b) := by omega
theorem min_mul_l {M a b : Nat} : min M (min M a * b) = min M (a * b) := by
  by_cases h : a ≤ M
  · rw [Nat.min_eq_right h]
  · rw [Nat.min_eq_left (by omega : M ≤ a)]
    cases b with
    | zero => rfl
    | succ b =>
      have h1 : M * 1 ≤ M * (b + 1) := Nat.mul_le_mul_left _ (by omega)
      have h2 : a * 1 ≤ a * (b + 1) := Nat.mul_le_mul_left _ (by omega)
      omega
theorem min_mul_r {M a b : Nat} : min M (a * min M b) = min M (a * b) := by rw [Nat.mul_comm, min_mul_l, Nat.mul_comm]
theorem min_sumN {M : Nat} {f g : Nat → Nat} : ∀ {n : Nat}, (∀ x, x < n → min M (f x) = min M (g x)) → min M (sumN n f) = min M (sumN n g)
  | 0, _ => rfl
  | n + 1, h => by
    have h1 := min_sumN (n := n) (fun x hx => h x (by omega))
    have h2 := h n (by omega)
    simp only [sumN]
    omega

/-! ### Symbols over a word -/
abbrev Cube := Nat → Nat → Nat → Nat
/-- One symbol from i to m. -/
def symN (N : Cube) (w : List Int) (s : Int) (i m : Nat) : Nat := if 0 ≤ s then N s.toNat i m else if m = i + 1 ∧ w[i]? = some (-1 - s) then 1 else 0
/-- Symbols, from i to j. -/
def wcn (N : Cube) (w : List Int) : List Int → Nat → Nat → Nat
  | [], i, j => if i = j then 1 else 0
  | s :: r, i, j => sumN (j + 1) fun m => if i ≤ m then symN N w s i m * wcn N w r m j else 0
/-! ### Monotone -/
def CLe (N N' : Cube) : Prop := ∀ v i j, N v i j ≤ N' v i j
theorem symN_mono {N N' : Cube} (h : CLe N N') (w : List Int) (s : Int) (i m : Nat) : symN N w s i m ≤ symN N' w s i m := by
  unfold symN; split
  · exact h _ _ _
  · exact Nat.le_refl _
theorem wcn_mono {N N' : Cube} (h : CLe N N') (w : List Int) : ∀ (r : List Int) (i j : Nat), wcn N w r i j ≤ wcn N' w r i j
  | [], _, _ => Nat.le_refl _
  | s :: r, i, j => by
    simp only [wcn]
    refine sumN_le fun m _ => ?_
    split
    · exact Nat.mul_le_mul (symN_mono h w s i m) (wcn_mono h w r m j)
    · exact Nat.le_refl _

/-! ### Rounds -/
/-- All rules of v together. -/
def allR (g : Gram) (N : Cube) (w : List Int) (v i j : Nat) : Nat := ((g.rules.filter fun r => decide (r.left = (v : Int))).map fun r => wcn N w r.right i j).sum
/-- One round: what the rules say where this is known. -/
def rnd (g : Gram) (w : List Int) (M : Nat) (N : Cube) : Cube := fun v i j => if (v : Int) < g.vars ∧ i ≤ j ∧ j ≤ w.length then min M (allR g N w v i j) else 0
def rnds (g : Gram) (w : List Int) (M : Nat) : Nat → Cube
  | 0 => fun _ _ _ => 0
  | k + 1 => rnd g w M (rnds g w M k)
def many (g : Gram) (w : List Int) (M : Nat) : Nat := g.vars.toNat * ((w.length + 1) * ((w.length + 1) * M))
/-- In the end. -/
def wcns (g : Gram) (w : List Int) (M : Nat) : Cube := rnds g w M (many g w M)
theorem sum_map_le {α : Type} {f g : α → Nat} : ∀ {l : List α}, (∀ x ∈ l, f x ≤ g x) → (l.map f).sum ≤ (l.map g).sum
  | [], _ => Nat.le_refl _
  | a :: l, h => by
    simp only [List.map_cons, List.sum_cons]
    exact Nat.add_le_add (h a (by simp)) (sum_map_le (fun x hx => h x (by simp [hx])))
theorem rnd_mono {g : Gram} {w : List Int} {M : Nat} {N N' : Cube} (h : CLe N N') : CLe (rnd g w M N) (rnd g w M N') := fun v i j => by
  unfold rnd
  split
  · have : allR g N w v i j ≤ allR g N' w v i j := sum_map_le (fun r _ => wcn_mono h w r.right i j)
    omega
  · exact Nat.le_refl _
theorem rnds_up {g : Gram} {w : List Int} {M : Nat} : ∀ k, CLe (rnds g w M k) (rnds g w M (k + 1))
  | 0 => fun _ _ _ => Nat.zero_le _
  | k + 1 => rnd_mono (rnds_up k)
theorem rnd_le {g : Gram} {w : List Int} {M : Nat} {N : Cube} (v i j : Nat) : rnd g w M N v i j ≤ M := by unfold rnd; split <;> omega
theorem rnds_le {g : Gram} {w : List Int} {M : Nat} : ∀ (k v i j : Nat), rnds g w M k v i j ≤ M
  | 0, _, _, _ => Nat.zero_le _
  | _ + 1, v, i, j => rnd_le v i j
def total (g : Gram) (w : List Int) (N : Cube) : Nat := sumN g.vars.toNat fun v => sumN (w.length + 1) fun i => sumN (w.length + 1) fun j => N v i j
theorem sumN_const {n c : Nat} : sumN n (fun _ => c) = n * c := by
  induction n with
  | zero => simp [sumN]
  | succ n ih => simp only [sumN, ih, Nat.add_mul]; omega
theorem total_le {g : Gram} {w : List Int} {M : Nat} {N : Cube} (h : ∀ v i j, N v i j ≤ M) : total g w N ≤ many g w M := by
  unfold total many
  rw [← sumN_const]
  refine sumN_le fun v _ => ?_
  rw [← sumN_const]
  refine sumN_le fun i _ => ?_
  rw [← sumN_const]
  exact sumN_le fun j _ => h v i j
theorem rnds_out {g : Gram} {w : List Int} {M : Nat} {k v i j : Nat} (h : ¬ ((v : Int) < g.vars ∧ i ≤ j ∧ j ≤ w.length)) : rnds g w M k v i j = 0 := by
  cases k with
  | zero => rfl
  | succ k => show rnd g w M _ v i j = 0; unfold rnd; rw [if_neg h]
theorem sumN_lt {f g : Nat → Nat} {n k : Nat} (hk : k < n) (h : ∀ x, x < n → f x ≤ g x) (hl : f k < g k) : sumN n f < sumN n g := by
  induction n with
  | zero => omega
  | succ n ih =>
    simp only [sumN]
    by_cases e : k = n
    · subst e
      have := sumN_le (f := f) (g := g) (n := k) (fun x hx => h x (by omega))
      omega
    · have := ih (by omega) (fun x hx => h x (by omega))
      have := h n (by omega)
      omega
theorem total_lt {g : Gram} {w : List Int} {M k : Nat} (h : rnds g w M (k + 1) ≠ rnds g w M k) : total g w (rnds g w M k) < total g w (rnds g w M (k + 1)) := by
  have hup := rnds_up (g := g) (w := w) (M := M) k
  have : ∃ v i j, rnds g w M k v i j ≠ rnds g w M (k + 1) v i j := Classical.byContradiction fun hn => h (by
    funext v i j
    exact Classical.byContradiction fun hne => hn ⟨v, i, j, fun e => hne e.symm⟩)
  obtain ⟨v, i, j, hne⟩ := this
  have hlt : rnds g w M k v i j < rnds g w M (k + 1) v i j := by have := hup v i j; omega
  have hin : (v : Int) < g.vars ∧ i ≤ j ∧ j ≤ w.length := Classical.byContradiction fun hn => by
    rw [rnds_out hn, rnds_out hn] at hlt; omega
  unfold total
  refine sumN_lt (k := v) (by omega) (fun x _ => sumN_le fun y _ => sumN_le fun z _ => hup x y z) ?_
  refine sumN_lt (k := i) (by omega) (fun y _ => sumN_le fun z _ => hup v y z) ?_
  exact sumN_lt (k := j) (by omega) (fun z _ => hup v i z) hlt
theorem rnds_stay {g : Gram} {w : List Int} {M k : Nat} (h : rnds g w M (k + 1) = rnds g w M k) : ∀ m, rnds g w M (k + m) = rnds g w M k
  | 0 => rfl
  | m + 1 => by
    show rnd g w M (rnds g w M (k + m)) = _
    rw [rnds_stay h m]; exact h
theorem rnds_total {g : Gram} {w : List Int} {M : Nat} : ∀ k, rnds g w M (k + 1) ≠ rnds g w M k → k < total g w (rnds g w M (k + 1))
  | 0, h => by have := total_lt h; omega
  | k + 1, h => by
    have h1 : rnds g w M (k + 1) ≠ rnds g w M k := fun e => h (by
      show rnd g w M (rnds g w M (k + 1)) = rnd g w M (rnds g w M k)
      rw [e])
    have := rnds_total k h1
    have := total_lt h
    omega
/-- While something comes there are not so many rounds. -/
theorem rnds_more {g : Gram} {w : List Int} {M k : Nat} (h : rnds g w M (k + 1) ≠ rnds g w M k) : k < many g w M :=
  Nat.lt_of_lt_of_le (rnds_total k h) (total_le (fun v i j => rnds_le (k + 1) v i j))
theorem wcns_fix (g : Gram) (w : List Int) (M : Nat) : rnd g w M (wcns g w M) = wcns g w M := Classical.byContradiction fun h => by
  have := rnds_more (g := g) (w := w) (M := M) (k := many g w M) h
  omega
theorem wcns_le (g : Gram) (w : List Int) (M v i j : Nat) : wcns g w M v i j ≤ M := rnds_le _ v i j
theorem wcns_in {g : Gram} {w : List Int} {M v i j : Nat} (h1 : (v : Int) < g.vars) (h2 : i ≤ j) (h3 : j ≤ w.length) : wcns g w M v i j = min M (allR g (wcns g w M) w v i j) := by
  conv => lhs; rw [← wcns_fix]
  unfold rnd; rw [if_pos ⟨h1, h2, h3⟩]
end Go.Proofs.Yticnpbopelgmiaa
namespace Go.Proofs.Yticnpbopelgmiaa
open Go.RowKit

theorem count_le_of : ∀ {a b : List Bool}, a.length = b.length → (∀ k : Nat, a.getD k false = true → b.getD k false = true) → a.count true ≤ b.count true
  | [], [], _, _ => Nat.le_refl _
  | [], _ :: _, h, _ => by simp at h
  | _ :: _, [], h, _ => by simp at h
  | x :: a, y :: b, h, hs => by
    have ih := count_le_of (a := a) (b := b) (by simpa using h) (fun k hk => by have := hs (k + 1); simpa using this (by simpa using hk))
    have h0 := hs 0
    simp only [List.getD_cons_zero] at h0
    cases x <;> cases y <;> simp_all <;> omega
theorem count_lt_of : ∀ {a b : List Bool} (j : Nat), a.length = b.length → (∀ k : Nat, a.getD k false = true → b.getD k false = true) → b.getD j false = true → a.getD j false = false → a.count true < b.count true
  | [], [], _, _, _, hb, _ => by simp at hb
  | [], _ :: _, _, h, _, _, _ => by simp at h
  | _ :: _, [], _, h, _, _, _ => by simp at h
  | x :: a, y :: b, 0, h, hs, hb, ha => by
    have ih := count_le_of (a := a) (b := b) (by simpa using h) (fun k hk => by have := hs (k + 1); simpa using this (by simpa using hk))
    simp only [List.getD_cons_zero] at hb ha
    subst hb; subst ha
    simp only [List.count_cons_self, List.count_cons_of_ne (show false ≠ true by decide)]
    have : List.count true (false :: a) = a.count true := by simp
    omega
  | x :: a, y :: b, j + 1, h, hs, hb, ha => by
    have ih := count_lt_of (a := a) (b := b) j (by simpa using h) (fun k hk => by have := hs (k + 1); simpa using this (by simpa using hk)) (by simpa using hb) (by simpa using ha)
    have h0 := hs 0
    simp only [List.getD_cons_zero] at h0
    cases x <;> cases y <;> simp_all <;> omega
/-- To how many a nonterminal leads alone. -/
def rnk (g : Gram) (v : Int) : Nat := (rowM (ledM false g) v).count true
abbrev stepA (g : Gram) (v : Int) : List Int := stepsOf false g (leftsOf false g) v
theorem rnk_le {g : Gram} (hg : g.ok) {v : Int} (h0 : 0 ≤ v) (h1 : v < g.vars) : rnk g v ≤ 64 := by
  have h := (ledM_sq (c := false) hg).at h0 (by omega)
  have := List.count_le_length (a := true) (l := rowM (ledM false g) v)
  have := hg.vars
  unfold rnk; omega
theorem no_self {g : Gram} (hg : g.ok) (hc : cycL g = []) {v : Int} (h0 : 0 ≤ v) (h1 : v < g.vars) : has (rowM (ledM false g) v) v = false := by
  unfold cycL at hc
  rw [if_pos (by rw [hg.fault])] at hc
  cases h : has (rowM (ledM false g) v) v with
  | false => rfl
  | true =>
    have : v ∈ selfN (ledM false g) g.vars.toNat := by
      unfold selfN
      refine List.mem_map.2 ⟨v.toNat, List.mem_filter.2 ⟨List.mem_range.2 (by omega), ?_⟩, by omega⟩
      rw [show ((v.toNat : Nat) : Int) = v by omega]; exact h
    rw [hc] at this; cases this
theorem step_in {g : Gram} (hg : g.ok) {v u : Int} (h0 : 0 ≤ v) (h1 : v < g.vars) (hs : u ∈ stepA g v) : 0 ≤ u ∧ u < g.vars := by
  have h := (led_whole (c := false) hg h0 h1).from_ u hs
  have := has_lt h
  have := (ledM_sq (c := false) hg).at h0 (by omega)
  omega
theorem rnk_lt {g : Gram} (hg : g.ok) (hc : cycL g = []) {v u : Int} (h0 : 0 ≤ v) (h1 : v < g.vars) (hs : u ∈ stepA g v) : rnk g u < rnk g v := by
  have hv := led_whole (c := false) hg h0 h1
  have hu1 := hv.from_ u hs
  obtain ⟨u0, u1⟩ := step_in hg h0 h1 hs
  have hu := led_whole (c := false) hg u0 u1
  have l1 := (ledM_sq (c := false) hg).at h0 (by omega)
  have l2 := (ledM_sq (c := false) hg).at u0 (by omega)
  have hsub := (hu.least (rowM (ledM false g) v) (by omega) (fun w hw => hv.goes u hu1 w hw) (fun x hx w hw => hv.goes x hx w hw)).sub
  have hno := no_self hg hc u0 u1
  unfold rnk
  refine count_lt_of u.toNat (by omega) (fun k hk => ?_) ?_ ?_
  · have := hsub (k : Int) (by rw [has_nat]; exact hk)
    rwa [has_nat] at this
  · rw [← has_nat, show ((u.toNat : Nat) : Int) = u by omega]; exact hu1
  · rw [← has_nat, show ((u.toNat : Nat) : Int) = u by omega]; exact hno
end Go.Proofs.Yticnpbopelgmiaa
namespace Go.Proofs.Yticnpbopelgmiaa
open Go.RowKit

abbrev nulB (g : Gram) : List Bool := leftsOf false g
theorem wcn_null {N : Cube} {w : List Int} {S : List Bool} (hN : ∀ v i, N v i i ≠ 0 → has S (v : Int) = true) : ∀ (r : List Int) (i : Nat), wcn N w r i i ≠ 0 → inAll r S = true
  | [], _, _ => rfl
  | s :: r, i, h => by
    rw [wcn, sumN_single (k := i) (by omega) (fun x h1 h2 => by rw [if_neg (by omega)]), if_pos (Nat.le_refl i)] at h
    have h1 : symN N w s i i ≠ 0 := fun e => h (by rw [e, Nat.zero_mul])
    have h2 : wcn N w r i i ≠ 0 := fun e => h (by rw [e, Nat.mul_zero])
    have hr := wcn_null hN r i h2
    unfold symN at h1
    split at h1
    · rename_i h0
      have := hN _ _ h1
      rw [show ((s.toNat : Nat) : Int) = s by omega] at this
      simp only [inAll, List.all_cons, this, Bool.true_and]; exact hr
    · exact absurd (if_neg (by omega)) h1
theorem rnds_null {g : Gram} (hg : g.ok) {w : List Int} {M : Nat} : ∀ (k v i : Nat), rnds g w M k v i i ≠ 0 → has (nulB g) (v : Int) = true
  | 0, v, i, h => absurd rfl h
  | k + 1, v, i, h => by
    change rnd g w M (rnds g w M k) v i i ≠ 0 at h
    unfold rnd at h
    split at h
    · have h1 : allR g (rnds g w M k) w v i i ≠ 0 := fun e => h (by rw [e]; simp)
      unfold allR at h1
      have : ∃ r ∈ g.rules, r.left = (v : Int) ∧ wcn (rnds g w M k) w r.right i i ≠ 0 := Classical.byContradiction fun hn => h1 (by
        have : ∀ l : List Rule, (∀ r ∈ l, r ∈ g.rules) → ((l.filter fun r => decide (r.left = (v : Int))).map fun r => wcn (rnds g w M k) w r.right i i).sum = 0 := by
          intro l
          induction l with
          | nil => intro _; rfl
          | cons r l ih =>
            intro hl
            have ih := ih (fun r hr => hl r (by simp [hr]))
            by_cases e : r.left = (v : Int)
            · rw [List.filter_cons_of_pos (by simpa using e), List.map_cons, List.sum_cons, ih]
              have : wcn (rnds g w M k) w r.right i i = 0 := Classical.byContradiction fun q => hn ⟨r, hl r (by simp), e, q⟩
              rw [this]
            · rw [List.filter_cons_of_neg (by simpa using e), ih]
        exact this g.rules (fun _ h => h))
      obtain ⟨r, hr, e, h2⟩ := this
      have h3 := wcn_null (fun v i => rnds_null hg k v i) r.right i h2
      have := leftsOf_holds (t := false) hg r hr (by simpa [asks] using h3)
      rw [e] at this; exact this
    · exact absurd rfl h
theorem wcns_null {g : Gram} (hg : g.ok) {w : List Int} {M v i : Nat} (h : wcns g w M v i i ≠ 0) : has (nulB g) (v : Int) = true := rnds_null hg _ v i h
/-- Symbols of a rule of v0 from i on, of a place from i0 to j. -/
def Pre (g : Gram) (v0 i0 j : Nat) (suf : List Int) (i : Nat) : Prop := ∃ r ∈ g.rules, ∃ pre, r.left = (v0 : Int) ∧ r.right = pre ++ suf ∧ i0 ≤ i ∧ (i = i0 → inAll pre (nulB g) = true)
def muC (g : Gram) (v i j : Nat) : Nat := (j - i) * 65 + rnk g v
theorem Pre.lt {g : Gram} (hg : g.ok) (hc : cycL g = []) {v0 i0 j : Nat} {s : Nat} {rest : List Int} {i m : Nat} (hp : Pre g v0 i0 j ((s : Int) :: rest) i) (him : i ≤ m) (hmj : m ≤ j) (hn : m = j → inAll rest (nulB g) = true) : muC g s i m < muC g v0 i0 j ∧ (s : Int) < g.vars := by
  obtain ⟨r, hr, pre, e1, e2, e3, e4⟩ := hp
  have hs : (s : Int) < g.vars := hg.hi r hr _ (by rw [e2]; simp)
  have hv : (v0 : Int) < g.vars := by rw [← e1]; exact hg.left r hr
  refine ⟨?_, hs⟩
  have hk := rnk_le hg (v := (s : Int)) (by omega) hs
  unfold muC
  by_cases h : m - i < j - i0
  · have : (m - i + 1) * 65 ≤ (j - i0) * 65 := Nat.mul_le_mul_right _ h
    omega
  · by_cases hz : i = i0 ∧ m = j
    · obtain ⟨rfl, rfl⟩ := hz
      have hst : (s : Int) ∈ stepA g (v0 : Int) := by
        refine overBy_mem.2 ⟨r, hr, e1, picks_mem.2 ⟨pre.length, by rw [e2]; simp, ?_, by rw [e2]; simp⟩⟩
        have e5 : r.right.getD pre.length 0 = (s : Int) := by rw [e2]; simp
        have e6 : r.right.take pre.length = pre := by rw [e2]; simp
        have e7 : r.right.drop (pre.length + 1) = rest := by rw [e2]; simp
        unfold pickAt
        rw [e5, e6, e7, e4 rfl, hn rfl]
        simp
      have := rnk_lt hg hc (by omega) hv hst
      omega
    · omega
theorem Pre.next {g : Gram} {v0 i0 j : Nat} {s : Int} {rest : List Int} {i m : Nat} (hp : Pre g v0 i0 j (s :: rest) i) (him : i ≤ m) (h : m = i → has (nulB g) s = true) : Pre g v0 i0 j rest m := by
  obtain ⟨r, hr, pre, e1, e2, e3, e4⟩ := hp
  refine ⟨r, hr, pre ++ [s], e1, by rw [e2]; simp, by omega, fun e => ?_⟩
  have h1 := e4 (by omega)
  have h2 := h (by omega)
  simp only [inAll, List.all_append, List.all_cons, List.all_nil, Bool.and_true, Bool.and_eq_true] at h1 ⊢
  exact ⟨h1, h2⟩
theorem Pre.start {g : Gram} {v0 i j : Nat} {r : Rule} (hr : r ∈ g.rules) (e : r.left = (v0 : Int)) : Pre g v0 i j r.right i := ⟨r, hr, [], e, rfl, Nat.le_refl _, fun _ => rfl⟩
end Go.Proofs.Yticnpbopelgmiaa
namespace Go.Proofs.Yticnpbopelgmiaa
open Go.RowKit

/-! ### The place where a number falls -/
def pickF (F : Nat → Nat) : Nat → Nat → Nat → Option (Nat × Nat)
  | 0, _, _ => none
  | n + 1, m, k => if k < F m then some (m, k) else pickF F n (m + 1) (k - F m)
theorem pickF_spec {F : Nat → Nat} : ∀ {n m k x a : Nat}, pickF F n m k = some (x, a) → m ≤ x ∧ x < m + n ∧ a < F x ∧ k + sumN m F = sumN x F + a
  | 0, _, _, _, _, h => by cases h
  | n + 1, m, k, x, a, h => by
    rw [pickF] at h
    split at h
    · rename_i hk
      cases h
      exact ⟨Nat.le_refl _, by omega, hk, by omega⟩
    · obtain ⟨h1, h2, h3, h4⟩ := pickF_spec h
      simp only [sumN] at h4
      exact ⟨by omega, by omega, h3, by omega⟩
theorem pickF_some {F : Nat → Nat} : ∀ {n m k : Nat}, k + sumN m F < sumN (m + n) F → ∃ x a, pickF F n m k = some (x, a)
  | 0, m, k, h => by rw [Nat.add_zero] at h; omega
  | n + 1, m, k, h => by
    rw [pickF]
    by_cases hk : k < F m
    · rw [if_pos hk]; exact ⟨_, _, rfl⟩
    · rw [if_neg hk]
      refine pickF_some ?_
      rw [show m + 1 + n = m + (n + 1) by omega]
      have : sumN (m + 1) F = sumN m F + F m := rfl
      omega
theorem sumN_up {F : Nat → Nat} {m n : Nat} (h : m ≤ n) : sumN m F ≤ sumN n F := by
  induction n with
  | zero => obtain rfl : m = 0 := by omega
            exact Nat.le_refl _
  | succ n ih =>
    by_cases e : m = n + 1
    · rw [e]; exact Nat.le_refl _
    · simp only [sumN]; have := ih (by omega); omega
/-! ### Trees and rows by numbers -/
/-- What each rule of v has. -/
def fR (g : Gram) (N : Cube) (w : List Int) (v i j : Nat) : Nat → Nat := fun r => match g.rules[r]? with
  | some x => if x.left = (v : Int) then wcn N w x.right i j else 0
  | none => 0
/-- What a row has, its first symbol as far as m. -/
def fM (N : Cube) (w : List Int) (s : Int) (r : List Int) (i j : Nat) : Nat → Nat := fun m => if i ≤ m then symN N w s i m * wcn N w r m j else 0
def rightR (g : Gram) (r : Nat) : List Int := (g.rules.getD r ⟨0, []⟩).right
def rowF (N : Cube) (w : List Int) (T : Nat → Nat → Nat → Nat → Nat → Option (Tree × Nat)) (j : Nat) : List Int → Nat → Nat → Nat → Option (List Tree × Nat)
  | [], _, _, L => some ([], L)
  | s :: r, i, k, L => match pickF (fM N w s r i j) (j + 1 - i) i k with
    | none => none
    | some (m, a) => if s < 0 then rowF N w T j r m (a % wcn N w r m j) L else match T s.toNat i m (a / wcn N w r m j) L with
      | none => none
      | some (t, L1) => match rowF N w T j r m (a % wcn N w r m j) L1 with
        | none => none
        | some (l, L2) => some (t :: l, L2)
def treeF (g : Gram) (N : Cube) (w : List Int) : Nat → Nat → Nat → Nat → Nat → Nat → Option (Tree × Nat)
  | 0, _, _, _, _, _ => none
  | d + 1, v, i, j, k, L => if L = 0 then none else match pickF (fR g N w v i j) g.rules.length 0 k with
    | none => none
    | some (r, a) => match rowF N w (treeF g N w d) j (rightR g r) i a (L - 1) with
      | none => none
      | some (l, L2) => some (.mk r l, L2)
/-- Which tree it is. -/
def lenW (g : Gram) (t : Tree) : Nat := (wordT g t).length
mutual
def rkT (g : Gram) (N : Cube) (w : List Int) : Tree → Nat → Nat → Nat
  | .mk r k, i, j => sumN r.toNat (fR g N w (g.rules.getD r.toNat ⟨0, []⟩).left.toNat i j) + rkR g N w (rightR g r.toNat) k i j
  termination_by t => (cnt t, 0)
  decreasing_by simp [cnt, Prod.lex_def]
def rkR (g : Gram) (N : Cube) (w : List Int) : List Int → List Tree → Nat → Nat → Nat
  | [], _, _, _ => 0
  | s :: ss, k, i, j => if s < 0 then rkR g N w ss k (i + 1) j else match k with
    | x :: k => sumN (i + lenW g x) (fM N w s ss i j) + rkT g N w x i (i + lenW g x) * wcn N w ss (i + lenW g x) j + rkR g N w ss k (i + lenW g x) j
    | [] => 0
  termination_by ss k => (cnts k, ss.length + 1)
  decreasing_by all_goals (simp [cnts, Prod.lex_def]; try omega)
end
/-! ### Rows -/
variable {g : Gram} {N : Cube} {w : List Int}
theorem wcn_cons (s : Int) (r : List Int) (i j : Nat) : wcn N w (s :: r) i j = sumN (j + 1) (fM N w s r i j) := rfl
theorem fM_low {s : Int} {r : List Int} {i j m : Nat} (h : m ≤ i) : sumN m (fM N w s r i j) = 0 := sumN_zero (fun x hx => if_neg (by omega))
theorem symN_neg {s : Int} {i m : Nat} (h : s < 0) : symN N w s i m = if m = i + 1 ∧ w[i]? = some (-1 - s) then 1 else 0 := if_neg (by omega)
/-- A terminal ahead. -/
theorem wcn_term {s : Int} {r : List Int} {i j : Nat} (h : s < 0) : wcn N w (s :: r) i j = if i + 1 ≤ j ∧ w[i]? = some (-1 - s) then wcn N w r (i + 1) j else 0 := by
  rw [wcn_cons]
  by_cases hc : i + 1 ≤ j ∧ w[i]? = some (-1 - s)
  · rw [if_pos hc, sumN_single (k := i + 1) (by omega)]
    · unfold fM; rw [if_pos (by omega), symN_neg h, if_pos ⟨rfl, hc.2⟩, Nat.one_mul]
    · intro x h1 h2
      unfold fM
      split
      · rw [symN_neg h, if_neg (fun q => h2 q.1), Nat.zero_mul]
      · rfl
  · rw [if_neg hc]
    refine sumN_zero fun x hx => ?_
    unfold fM
    split
    · rw [symN_neg h]
      by_cases hq : x = i + 1 ∧ w[i]? = some (-1 - s)
      · exact absurd ⟨by omega, hq.2⟩ hc
      · rw [if_neg hq, Nat.zero_mul]
    · rfl
theorem pickF_row {s : Int} {r : List Int} {i j k : Nat} (h : k < wcn N w (s :: r) i j) (hij : i ≤ j) : ∃ m a, pickF (fM N w s r i j) (j + 1 - i) i k = some (m, a) ∧ i ≤ m ∧ m ≤ j ∧ a < symN N w s i m * wcn N w r m j ∧ k = sumN m (fM N w s r i j) + a := by
  obtain ⟨m, a, e⟩ := pickF_some (F := fM N w s r i j) (n := j + 1 - i) (m := i) (k := k) (by rw [fM_low (Nat.le_refl _), show i + (j + 1 - i) = j + 1 by omega, ← wcn_cons]; omega)
  obtain ⟨h1, h2, h3, h4⟩ := pickF_spec e
  rw [fM_low (Nat.le_refl _)] at h4
  refine ⟨m, a, e, h1, by omega, ?_, by omega⟩
  unfold fM at h3
  rw [if_pos h1] at h3; exact h3
theorem fM_le {s : Int} {r : List Int} {i j m : Nat} (h1 : i ≤ m) (h2 : m ≤ j) : symN N w s i m * wcn N w r m j ≤ wcn N w (s :: r) i j := by
  rw [wcn_cons]
  have := le_sumN (f := fM N w s r i j) (n := j + 1) (k := m) (by omega)
  unfold fM at this ⊢
  rw [if_pos h1] at this; exact this
theorem rowF_term {T : Nat → Nat → Nat → Nat → Nat → Option (Tree × Nat)} {s : Int} {r : List Int} {i j k L : Nat} (hs : s < 0) (h : k < wcn N w (s :: r) i j) : rowF N w T j (s :: r) i k L = rowF N w T j r (i + 1) k L ∧ k < wcn N w r (i + 1) j ∧ i + 1 ≤ j ∧ w[i]? = some (-1 - s) ∧ wcn N w (s :: r) i j = wcn N w r (i + 1) j := by
  have h0 := wcn_term (N := N) (w := w) (s := s) (r := r) (i := i) (j := j) hs
  by_cases hc : i + 1 ≤ j ∧ w[i]? = some (-1 - s)
  · rw [if_pos hc] at h0
    refine ⟨?_, by omega, hc.1, hc.2, h0⟩
    obtain ⟨m, a, e, h1, h2, h3, h4⟩ := pickF_row h (by omega)
    rw [symN_neg hs] at h3
    by_cases hm : m = i + 1 ∧ w[i]? = some (-1 - s)
    · obtain ⟨rfl, _⟩ := hm
      rw [if_pos ⟨rfl, hc.2⟩, Nat.one_mul] at h3
      have hz : sumN (i + 1) (fM N w s r i j) = 0 := sumN_zero fun x hx => by
        unfold fM
        split
        · rw [symN_neg hs, if_neg (by omega), Nat.zero_mul]
        · rfl
      obtain rfl : k = a := by omega
      rw [rowF, e]
      simp only [hs, if_true]
      rw [Nat.mod_eq_of_lt h3]
    · rw [if_neg hm, Nat.zero_mul] at h3; omega
  · rw [if_neg hc] at h0; omega
theorem symN_nat {s : Nat} {i m : Nat} : symN N w (s : Int) i m = N s i m := by unfold symN; rw [if_pos (by omega), Int.toNat_natCast]
/-- A nonterminal ahead. -/
theorem rowF_var {s : Nat} {r : List Int} {i j k : Nat} (h : k < wcn N w ((s : Int) :: r) i j) (hij : i ≤ j) : ∃ m a, pickF (fM N w s r i j) (j + 1 - i) i k = some (m, a) ∧ i ≤ m ∧ m ≤ j ∧ a / wcn N w r m j < N s i m ∧ a % wcn N w r m j < wcn N w r m j ∧ N s i m ≤ wcn N w ((s : Int) :: r) i j ∧ wcn N w r m j ≤ wcn N w ((s : Int) :: r) i j ∧ k = sumN m (fM N w s r i j) + a ∧ (∀ T L, rowF N w T j ((s : Int) :: r) i k L = match T s i m (a / wcn N w r m j) L with
      | none => none
      | some (t, L1) => match rowF N w T j r m (a % wcn N w r m j) L1 with
        | none => none
        | some (l, L2) => some (t :: l, L2)) := by
  obtain ⟨m, a, e, h1, h2, h3, h4⟩ := pickF_row h hij
  have h5 := fM_le (N := N) (w := w) (s := (s : Int)) (r := r) h1 h2
  rw [symN_nat] at h3 h5
  have hp : 0 < wcn N w r m j := Nat.pos_of_ne_zero fun q => by rw [q, Nat.mul_zero] at h3; omega
  have hp2 : 0 < N s i m := Nat.pos_of_ne_zero fun q => by rw [q, Nat.zero_mul] at h3; omega
  have h6 : N s i m * 1 ≤ N s i m * wcn N w r m j := Nat.mul_le_mul_left _ hp
  have h7 : 1 * wcn N w r m j ≤ N s i m * wcn N w r m j := Nat.mul_le_mul_right _ hp2
  refine ⟨m, a, e, h1, h2, Nat.div_lt_of_lt_mul (by rw [Nat.mul_comm]; exact h3), Nat.mod_lt _ hp, by omega, by omega, h4, fun T L => ?_⟩
  rw [rowF, e]
  have hn : ¬ (s : Int) < 0 := by omega
  simp only [hn, if_false, Int.toNat_natCast]
end Go.Proofs.Yticnpbopelgmiaa
namespace Go.Proofs.Yticnpbopelgmiaa
open Go.RowKit

def seg (w : List Int) (i j : Nat) : List Int := (w.drop i).take (j - i)
theorem seg_len {w : List Int} {i j : Nat} (h : i ≤ j) (hj : j ≤ w.length) : (seg w i j).length = j - i := by unfold seg; rw [List.length_take, List.length_drop]; omega
theorem seg_self (w : List Int) (i : Nat) : seg w i i = [] := by unfold seg; rw [Nat.sub_self, List.take_zero]
theorem seg_app {w : List Int} {i m j : Nat} (h1 : i ≤ m) (h2 : m ≤ j) : seg w i m ++ seg w m j = seg w i j := by
  unfold seg
  rw [show j - i = (m - i) + (j - m) by omega, List.take_add, List.drop_drop, show i + (m - i) = m by omega]
theorem seg_cons {w : List Int} {i j : Nat} {x : Int} (h : i + 1 ≤ j) (hx : w[i]? = some x) : seg w i j = x :: seg w (i + 1) j := by
  obtain ⟨hi, e⟩ := List.getElem?_eq_some_iff.1 hx
  rw [← seg_app (m := i + 1) (by omega) h]
  unfold seg
  rw [List.drop_eq_getElem_cons hi, e, show i + 1 - i = 1 by omega]; rfl
theorem seg_all (w : List Int) : seg w 0 w.length = w := by unfold seg; simp
/-- What N holds is a fixed point. -/
def FixN (g : Gram) (N : Cube) (w : List Int) (M : Nat) : Prop := ∀ v i j, ((v : Nat) : Int) < g.vars → i ≤ j → j ≤ w.length → N v i j = min M (sumN g.rules.length (fR g N w v i j))
theorem allR_sum (g : Gram) (N : Cube) (w : List Int) (v i j : Nat) : allR g N w v i j = sumN g.rules.length (fR g N w v i j) := by
  have key : ∀ k, k ≤ g.rules.length → (((g.rules.take k).filter fun r => decide (r.left = (v : Int))).map fun r => wcn N w r.right i j).sum = sumN k (fR g N w v i j) := by
    intro k
    induction k with
    | zero => intro _; rfl
    | succ k ih =>
      intro hk
      have hk' : k < g.rules.length := by omega
      rw [List.take_succ_eq_append_getElem hk', List.filter_append, List.map_append, List.sum_append, ih (by omega)]
      show _ = sumN k _ + fR g N w v i j k
      congr 1
      unfold fR
      rw [List.getElem?_eq_getElem hk']
      by_cases e : g.rules[k].left = (v : Int)
      · simp [e]
      · simp [e]
  have := key g.rules.length (Nat.le_refl _)
  rw [List.take_length] at this
  exact this
theorem wcns_fixN (g : Gram) (w : List Int) (M : Nat) : FixN g (wcns g w M) w M := fun v i j h1 h2 h3 => by rw [wcns_in h1 h2 h3, allR_sum]
variable {g : Gram} {N : Cube} {w : List Int} {M : Nat}
theorem rightR_nat {r : Nat} (h : r < g.rules.length) : rightR g r = g.rules[r].right := by simp [rightR, List.getD_eq_getElem?_getD, h]
theorem fR_at {r v i j : Nat} (h : r < g.rules.length) (hp : fR g N w v i j r ≠ 0) : g.rules[r].left = (v : Int) ∧ fR g N w v i j r = wcn N w g.rules[r].right i j := by
  unfold fR at hp ⊢
  rw [List.getElem?_eq_getElem h] at hp ⊢
  dsimp only at hp ⊢
  by_cases e : g.rules[r].left = (v : Int)
  · rw [if_pos e]; exact ⟨e, rfl⟩
  · rw [if_neg e] at hp; exact absurd rfl hp
theorem fR_yes {r v i j : Nat} (h : r < g.rules.length) (e : g.rules[r].left = (v : Int)) : fR g N w v i j r = wcn N w g.rules[r].right i j := by
  unfold fR; rw [List.getElem?_eq_getElem h]; dsimp only; rw [if_pos e]
theorem fR_no {r v i j : Nat} (h : r < g.rules.length) (e : ¬ g.rules[r].left = (v : Int)) : fR g N w v i j r = 0 := by
  unfold fR; rw [List.getElem?_eq_getElem h]; dsimp only; rw [if_neg e]
/-- The rule of a number. -/
theorem pick_rule (hF : FixN g N w M) {v i j k : Nat} (hv : ((v : Nat) : Int) < g.vars) (hij : i ≤ j) (hj : j ≤ w.length) (hk : k < N v i j) (hM : N v i j < M) : ∃ r a, ∃ h : r < g.rules.length, pickF (fR g N w v i j) g.rules.length 0 k = some (r, a) ∧ g.rules[r].left = (v : Int) ∧ a < wcn N w g.rules[r].right i j ∧ wcn N w g.rules[r].right i j ≤ N v i j ∧ k = sumN r (fR g N w v i j) + a := by
  have e := hF v i j hv hij hj
  obtain ⟨r, a, hp⟩ := pickF_some (F := fR g N w v i j) (n := g.rules.length) (m := 0) (k := k) (by rw [show 0 + g.rules.length = g.rules.length by omega]; have : sumN 0 (fR g N w v i j) = 0 := rfl; omega)
  obtain ⟨h1, h2, h3, h4⟩ := pickF_spec hp
  have hr : r < g.rules.length := by omega
  obtain ⟨e1, e2⟩ := fR_at (N := N) (w := w) (v := v) (i := i) (j := j) hr (by omega)
  refine ⟨r, a, hr, hp, e1, by omega, ?_, by simp only [sumN] at h4; omega⟩
  have := le_sumN (f := fR g N w v i j) (n := g.rules.length) (k := r) hr
  omega
theorem rkR_nil (k : List Tree) (i j : Nat) : rkR g N w [] k i j = 0 := by rw [rkR.eq_def]
theorem rkR_neg {s : Int} (h : s < 0) (ss : List Int) (k : List Tree) (i j : Nat) : rkR g N w (s :: ss) k i j = rkR g N w ss k (i + 1) j := by rw [rkR.eq_def]; simp [h]
theorem rkR_pos {s : Int} (h : ¬ s < 0) (ss : List Int) (x : Tree) (k : List Tree) (i j : Nat) : rkR g N w (s :: ss) (x :: k) i j = sumN (i + lenW g x) (fM N w s ss i j) + rkT g N w x i (i + lenW g x) * wcn N w ss (i + lenW g x) j + rkR g N w ss k (i + lenW g x) j := by rw [rkR.eq_def]; simp [h]
theorem rkT_mk (r : Int) (k : List Tree) (i j : Nat) : rkT g N w (.mk r k) i j = sumN r.toNat (fR g N w (g.rules.getD r.toNat ⟨0, []⟩).left.toNat i j) + rkR g N w (rightR g r.toNat) k i j := by rw [rkT]
theorem kidsN {s : Int} (h : s < 0) (r : List Int) : kids (s :: r) = kids r := List.filter_cons_of_neg (by simpa using h)
theorem kidsP {s : Int} (h : ¬ s < 0) (r : List Int) : kids (s :: r) = s :: kids r := List.filter_cons_of_pos (by simpa using (by omega : 0 ≤ s))
/-- What is known of the tree of a number. -/
def TreeSpec (g : Gram) (N : Cube) (w : List Int) (v i j k L : Nat) (x : Tree × Nat) : Prop := fits g x.1 (v : Int) = true ∧ wordT g x.1 = seg w i j ∧ rkT g N w x.1 i j = k ∧ L = x.2 + cnt x.1
theorem row_spec {T : Nat → Nat → Nat → Nat → Nat → Option (Tree × Nat)} {j : Nat} (hj : j ≤ w.length) (hT : ∀ v i m k L x, ((v : Nat) : Int) < g.vars → i ≤ m → m ≤ j → k < N v i m → N v i m < M → T v i m k L = some x → TreeSpec g N w v i m k L x) :
    ∀ (r : List Int) (i k L : Nat) (l : List Tree) (L2 : Nat), (∀ s ∈ r, s < g.vars) → i ≤ j → k < wcn N w r i j → wcn N w r i j < M → rowF N w T j r i k L = some (l, L2) →
      (kids r).length = l.length ∧ fitss g l (kids r) = true ∧ wordL g r l = seg w i j ∧ rkR g N w r l i j = k ∧ L = L2 + cnts l
  | [], i, k, L, l, L2, _, hij, hk, _, h => by
    rw [rowF] at h
    cases h
    unfold wcn at hk
    split at hk
    · rename_i e
      subst e
      obtain rfl : k = 0 := by omega
      exact ⟨rfl, by rw [fitss.eq_def], by rw [wordL_nil, seg_self], rkR_nil _ _ _, by simp [cnts]⟩
    · omega
  | s :: r, i, k, L, l, L2, hr, hij, hk, hM, h => by
    have hr' : ∀ s ∈ r, s < g.vars := fun x hx => hr x (by simp [hx])
    by_cases hs : s < 0
    · obtain ⟨e1, e2, e3, e4, e5⟩ := rowF_term (T := T) (L := L) hs hk
      rw [e1] at h
      obtain ⟨q1, q2, q3, q4, q5⟩ := row_spec hj hT r (i + 1) k L l L2 hr' e3 e2 (by omega) h
      rw [kidsN hs]
      exact ⟨q1, q2, by rw [wordL_neg hs, q3, seg_cons e3 e4], by rw [rkR_neg hs, q4], q5⟩
    · obtain ⟨sn, rfl⟩ : ∃ sn : Nat, s = (sn : Int) := ⟨s.toNat, by omega⟩
      obtain ⟨m, a, e, h1, h2, h3, h4, h5, h6, h7, h8⟩ := rowF_var hk hij
      rw [h8 T L] at h
      cases hc : T sn i m (a / wcn N w r m j) L with
      | none => rw [hc] at h; cases h
      | some x =>
        obtain ⟨t, L1⟩ := x
        rw [hc] at h
        dsimp only at h
        obtain ⟨p1, p2, p3, p4⟩ := hT sn i m _ L _ (hr _ (by simp)) h1 h2 h3 (by omega) hc
        dsimp only at p1 p2 p3 p4
        cases hd : rowF N w T j r m (a % wcn N w r m j) L1 with
        | none => rw [hd] at h; cases h
        | some y =>
          obtain ⟨l', L2'⟩ := y
          rw [hd] at h
          cases h
          obtain ⟨q1, q2, q3, q4, q5⟩ := row_spec hj hT r m _ L1 l' L2 hr' h2 h4 (by omega) hd
          have hl : i + lenW g t = m := by unfold lenW; rw [p2, seg_len h1 (by omega)]; omega
          rw [kidsP hs]
          refine ⟨by simp [q1], by rw [fitss, p1, q2]; rfl, by rw [wordL_pos hs, p2, q3, seg_app h1 h2], ?_, by rw [cnts]; omega⟩
          rw [rkR_pos hs, hl, p3, q4, h7]
          have := Nat.div_add_mod a (wcn N w r m j)
          rw [Nat.mul_comm (a / wcn N w r m j)]
          omega
theorem treeF_spec (hg : g.ok) (hF : FixN g N w M) : ∀ (d v i j k L : Nat) (x : Tree × Nat), ((v : Nat) : Int) < g.vars → i ≤ j → j ≤ w.length → k < N v i j → N v i j < M → treeF g N w d v i j k L = some x → TreeSpec g N w v i j k L x
  | 0, _, _, _, _, _, _, _, _, _, _, _, h => by cases h
  | d + 1, v, i, j, k, L, x, hv, hij, hj, hk, hM, h => by
    rw [treeF] at h
    by_cases hL : L = 0
    · rw [if_pos hL] at h; cases h
    rw [if_neg hL] at h
    obtain ⟨r, a, hr, e1, e2, e3, e4, e5⟩ := pick_rule hF hv hij hj hk hM
    rw [e1] at h
    dsimp only at h
    rw [rightR_nat hr] at h
    cases hc : rowF N w (treeF g N w d) j g.rules[r].right i a (L - 1) with
    | none => rw [hc] at h; cases h
    | some y =>
      obtain ⟨l, L2⟩ := y
      rw [hc] at h
      cases h
      obtain ⟨q1, q2, q3, q4, q5⟩ := row_spec hj (fun v i m k L x p1 p2 p3 p4 p5 p6 => treeF_spec hg hF d v i m k L x p1 p2 (by omega) p4 p5 p6) g.rules[r].right i a (L - 1) l L2 (fun s hs => hg.hi _ (List.getElem_mem hr) s hs) hij e3 (by omega) hc
      have eD : g.rules.getD r ⟨0, []⟩ = g.rules[r] := by simp [List.getD_eq_getElem?_getD, hr]
      refine ⟨?_, ?_, ?_, ?_⟩
      · rw [fits_eq]
        show (match (if 0 ≤ ((r : Nat) : Int) then g.rules[((r : Nat) : Int).toNat]? else none) with
          | none => false
          | some ru => decide (ru.left = (v : Int)) && (decide ((kids ru.right).length = l.length) && fitss g l (kids ru.right))) = true
        rw [if_pos (by omega), Int.toNat_natCast, List.getElem?_eq_getElem hr]
        simp [e2, q1, q2]
      · rw [wordT_eq]
        show wordL g ((g.rules[((r : Nat) : Int).toNat]?).getD ⟨0, []⟩).right l = _
        rw [Int.toNat_natCast, List.getElem?_eq_getElem hr]; exact q3
      · show rkT g N w (.mk r l) i j = k
        rw [rkT_mk, Int.toNat_natCast, eD, e2, rightR_nat hr, q4, Int.toNat_natCast]; omega
      · show L = L2 + cnt (.mk r l)
        rw [cnt]; omega

/-! ### Numbers rise -/
/-! ### A tree is counted -/
theorem seg_split {w a b : List Int} {i j : Nat} (h : a ++ b = seg w i j) (hij : i ≤ j) (hj : j ≤ w.length) : i + a.length ≤ j ∧ a = seg w i (i + a.length) ∧ b = seg w (i + a.length) j := by
  have hl := congrArg List.length h
  rw [List.length_append, seg_len hij hj] at hl
  have hm : i + a.length ≤ j := by omega
  rw [← seg_app (m := i + a.length) (by omega) hm] at h
  have := List.append_inj h (by rw [seg_len (by omega) (by omega)]; omega)
  exact ⟨hm, this.1, this.2⟩
end Go.Proofs.Yticnpbopelgmiaa
