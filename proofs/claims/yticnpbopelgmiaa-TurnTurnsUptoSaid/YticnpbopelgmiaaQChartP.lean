/-
  Chart, plain: in how many ways symbols stand for a word. Facts, plain: where nothing leads to itself alone, what a nonterminal leads to is less than it. Chart, plain: who asks whom; what has no place is nothing.
-/
import Derived.Test.YticnpbopelgmiaaT1
import Derived.Test.YticnpbopelgmiaaF2
set_option linter.unusedVariables false
set_option linter.unusedSimpArgs false
set_option linter.unusedSectionVars false
namespace Go.Proofs.Yticnpbopelgmiaa
open Go.RowKit

/-! ### Sums -/
def sumN : Nat → (Nat → Nat) → Nat
  | 0, _ => 0
  | n + 1, f => sumN n f + f n
theorem sumN_congr {f g : Nat → Nat} : ∀ {n : Nat}, (∀ x, x < n → f x = g x) → sumN n f = sumN n g
  | 0, _ => rfl
  | n + 1, h => by simp only [sumN]; rw [sumN_congr (fun x hx => h x (by omega)), h n (by omega)]
theorem sumN_zero {f : Nat → Nat} : ∀ {n : Nat}, (∀ x, x < n → f x = 0) → sumN n f = 0
  | 0, _ => rfl
  | n + 1, h => by simp only [sumN]; rw [sumN_zero (fun x hx => h x (by omega)), h n (by omega)]
theorem sumN_le {f g : Nat → Nat} : ∀ {n : Nat}, (∀ x, x < n → f x ≤ g x) → sumN n f ≤ sumN n g
  | 0, _ => Nat.le_refl _
  | n + 1, h => by simp only [sumN]; exact Nat.add_le_add (sumN_le (fun x hx => h x (by omega))) (h n (by omega))
theorem sumN_ext {f : Nat → Nat} {n m : Nat} (h : n ≤ m) (hz : ∀ x, n ≤ x → x < m → f x = 0) : sumN m f = sumN n f := by
  induction m with
  | zero => obtain rfl : n = 0 := by omega
            rfl
  | succ m ih =>
    by_cases e : n = m + 1
    · rw [e]
    · simp only [sumN]
      rw [ih (by omega) (fun x h1 h2 => hz x h1 (by omega)), hz m (by omega) (by omega)]; rfl
theorem sumN_single {f : Nat → Nat} {n k : Nat} (hk : k < n) (hz : ∀ x, x < n → x ≠ k → f x = 0) : sumN n f = f k := by
  rw [sumN_ext (n := k + 1) (by omega) (fun x h1 h2 => hz x h2 (by omega))]
  simp only [sumN]
  rw [sumN_zero (fun x hx => hz x (by omega) (by omega))]; omega
theorem le_sumN {f : Nat → Nat} {n k : Nat} (hk : k < n) : f k ≤ sumN n f := by
  induction n with
  | zero => omega
  | succ n ih =>
    simp only [sumN]
    by_cases e : k = n
    · subst e; omega
    · have := ih (by omega); omega
/-! ### At most so many -/
theorem min_mul_l {M a b : Nat} : min M (min M a * b) = min M (a * b) := by
  by_cases h : a ≤ M
  · rw [Nat.min_eq_right h]
  · rw [Nat.min_eq_left (by omega : M ≤ a)]
    cases b with
    | zero => rfl
    | succ b =>
      have h1 : M * 1 ≤ M * (b + 1) := Nat.mul_le_mul_left _ (by omega)
      have h2 : a * 1 ≤ a * (b + 1) := Nat.mul_le_mul_left _ (by omega)
      omega
theorem min_mul_r {M a b : Nat} : min M (a * min M b) = min M (a * b) := by rw [Nat.mul_comm, min_mul_l, Nat.mul_comm]
theorem min_sumN {M : Nat} {f g : Nat → Nat} : ∀ {n : Nat}, (∀ x, x < n → min M (f x) = min M (g x)) → min M (sumN n f) = min M (sumN n g)
  | 0, _ => rfl
  | n + 1, h => by
    have h1 := min_sumN (n := n) (fun x hx => h x (by omega))
    have h2 := h n (by omega)
    simp only [sumN]
    omega

/-! ### Symbols over a word -/
abbrev Cube := Nat → Nat → Nat → Nat
/-- One symbol from i to m. -/
def symN (N : Cube) (w : List Int) (s : Int) (i m : Nat) : Nat := if 0 ≤ s then N s.toNat i m else if m = i + 1 ∧ w[i]? = some (-1 - s) then 1 else 0
/-- Symbols, from i to j. -/
def wcn (N : Cube) (w : List Int) : List Int → Nat → Nat → Nat
  | [], i, j => if i = j then 1 else 0
  | s :: r, i, j => sumN (j + 1) fun m => if i ≤ m then symN N w s i m * wcn N w r m j else 0
def at0 (i : Nat) : Nat → Nat := fun e => if e = i then 1 else 0
/-! ### Monotone -/
def CLe (N N' : Cube) : Prop := ∀ v i j, N v i j ≤ N' v i j
theorem symN_mono {N N' : Cube} (h : CLe N N') (w : List Int) (s : Int) (i m : Nat) : symN N w s i m ≤ symN N' w s i m := by
  unfold symN; split
  · exact h _ _ _
  · exact Nat.le_refl _
theorem wcn_mono {N N' : Cube} (h : CLe N N') (w : List Int) : ∀ (r : List Int) (i j : Nat), wcn N w r i j ≤ wcn N' w r i j
  | [], _, _ => Nat.le_refl _
  | s :: r, i, j => by
    simp only [wcn]
    refine sumN_le fun m _ => ?_
    split
    · exact Nat.mul_le_mul (symN_mono h w s i m) (wcn_mono h w r m j)
    · exact Nat.le_refl _

/-! ### Rounds -/
/-- All rules of v together. -/
def allR (g : Gram) (N : Cube) (w : List Int) (v i j : Nat) : Nat := ((g.rules.filter fun r => decide (r.left = (v : Int))).map fun r => wcn N w r.right i j).sum
/-- One round: what the rules say where this is known. -/
def rnd (g : Gram) (w : List Int) (M : Nat) (N : Cube) : Cube := fun v i j => if (v : Int) < g.vars ∧ i ≤ j ∧ j ≤ w.length then min M (allR g N w v i j) else 0
def rnds (g : Gram) (w : List Int) (M : Nat) : Nat → Cube
  | 0 => fun _ _ _ => 0
  | k + 1 => rnd g w M (rnds g w M k)
def many (g : Gram) (w : List Int) (M : Nat) : Nat := g.vars.toNat * ((w.length + 1) * ((w.length + 1) * M))
/-- In the end. -/
def wcns (g : Gram) (w : List Int) (M : Nat) : Cube := rnds g w M (many g w M)
theorem sum_map_le {α : Type} {f g : α → Nat} : ∀ {l : List α}, (∀ x ∈ l, f x ≤ g x) → (l.map f).sum ≤ (l.map g).sum
  | [], _ => Nat.le_refl _
  | a :: l, h => by
    simp only [List.map_cons, List.sum_cons]
    exact Nat.add_le_add (h a (by simp)) (sum_map_le (fun x hx => h x (by simp [hx])))
theorem rnd_mono {g : Gram} {w : List Int} {M : Nat} {N N' : Cube} (h : CLe N N') : CLe (rnd g w M N) (rnd g w M N') := fun v i j => by
  unfold rnd
  split
  · have : allR g N w v i j ≤ allR g N' w v i j := sum_map_le (fun r _ => wcn_mono h w r.right i j)
    omega
  · exact Nat.le_refl _
theorem rnds_up {g : Gram} {w : List Int} {M : Nat} : ∀ k, CLe (rnds g w M k) (rnds g w M (k + 1))
  | 0 => fun _ _ _ => Nat.zero_le _
  | k + 1 => rnd_mono (rnds_up k)
theorem rnd_le {g : Gram} {w : List Int} {M : Nat} {N : Cube} (v i j : Nat) : rnd g w M N v i j ≤ M := by unfold rnd; split <;> omega
theorem rnds_le {g : Gram} {w : List Int} {M : Nat} : ∀ (k v i j : Nat), rnds g w M k v i j ≤ M
  | 0, _, _, _ => Nat.zero_le _
  | _ + 1, v, i, j => rnd_le v i j
def total (g : Gram) (w : List Int) (N : Cube) : Nat := sumN g.vars.toNat fun v => sumN (w.length + 1) fun i => sumN (w.length + 1) fun j => N v i j
theorem sumN_const {n c : Nat} : sumN n (fun _ => c) = n * c := by
  induction n with
  | zero => simp [sumN]
  | succ n ih => simp only [sumN, ih, Nat.add_mul]; omega
theorem total_le {g : Gram} {w : List Int} {M : Nat} {N : Cube} (h : ∀ v i j, N v i j ≤ M) : total g w N ≤ many g w M := by
  unfold total many
  rw [← sumN_const]
  refine sumN_le fun v _ => ?_
  rw [← sumN_const]
  refine sumN_le fun i _ => ?_
  rw [← sumN_const]
  exact sumN_le fun j _ => h v i j
theorem rnds_out {g : Gram} {w : List Int} {M : Nat} {k v i j : Nat} (h : ¬ ((v : Int) < g.vars ∧ i ≤ j ∧ j ≤ w.length)) : rnds g w M k v i j = 0 := by
  cases k with
  | zero => rfl
  | succ k => show rnd g w M _ v i j = 0; unfold rnd; rw [if_neg h]
theorem sumN_lt {f g : Nat → Nat} {n k : Nat} (hk : k < n) (h : ∀ x, x < n → f x ≤ g x) (hl : f k < g k) : sumN n f < sumN n g := by
  induction n with
  | zero => omega
  | succ n ih =>
    simp only [sumN]
    by_cases e : k = n
    · subst e
      have := sumN_le (f := f) (g := g) (n := k) (fun x hx => h x (by omega))
      omega
    · have := ih (by omega) (fun x hx => h x (by omega))
      have := h n (by omega)
      omega
theorem total_lt {g : Gram} {w : List Int} {M k : Nat} (h : rnds g w M (k + 1) ≠ rnds g w M k) : total g w (rnds g w M k) < total g w (rnds g w M (k + 1)) := by
  have hup := rnds_up (g := g) (w := w) (M := M) k
  have : ∃ v i j, rnds g w M k v i j ≠ rnds g w M (k + 1) v i j := Classical.byContradiction fun hn => h (by
    funext v i j
    exact Classical.byContradiction fun hne => hn ⟨v, i, j, fun e => hne e.symm⟩)
  obtain ⟨v, i, j, hne⟩ := this
  have hlt : rnds g w M k v i j < rnds g w M (k + 1) v i j := by have := hup v i j; omega
  have hin : (v : Int) < g.vars ∧ i ≤ j ∧ j ≤ w.length := Classical.byContradiction fun hn => by
    rw [rnds_out hn, rnds_out hn] at hlt; omega
  unfold total
  refine sumN_lt (k := v) (by omega) (fun x _ => sumN_le fun y _ => sumN_le fun z _ => hup x y z) ?_
  refine sumN_lt (k := i) (by omega) (fun y _ => sumN_le fun z _ => hup v y z) ?_
  exact sumN_lt (k := j) (by omega) (fun z _ => hup v i z) hlt
theorem rnds_stay {g : Gram} {w : List Int} {M k : Nat} (h : rnds g w M (k + 1) = rnds g w M k) : ∀ m, rnds g w M (k + m) = rnds g w M k
  | 0 => rfl
  | m + 1 => by
    show rnd g w M (rnds g w M (k + m)) = _
    rw [rnds_stay h m]; exact h
theorem rnds_total {g : Gram} {w : List Int} {M : Nat} : ∀ k, rnds g w M (k + 1) ≠ rnds g w M k → k < total g w (rnds g w M (k + 1))
  | 0, h => by have := total_lt h; omega
  | k + 1, h => by
    have h1 : rnds g w M (k + 1) ≠ rnds g w M k := fun e => h (by
      show rnd g w M (rnds g w M (k + 1)) = rnd g w M (rnds g w M k)
      rw [e])
    have := rnds_total k h1
    have := total_lt h
    omega
/-- While something comes there are not so many rounds. -/
theorem rnds_more {g : Gram} {w : List Int} {M k : Nat} (h : rnds g w M (k + 1) ≠ rnds g w M k) : k < many g w M :=
  Nat.lt_of_lt_of_le (rnds_total k h) (total_le (fun v i j => rnds_le (k + 1) v i j))
theorem wcns_fix (g : Gram) (w : List Int) (M : Nat) : rnd g w M (wcns g w M) = wcns g w M := Classical.byContradiction fun h => by
  have := rnds_more (g := g) (w := w) (M := M) (k := many g w M) h
  omega
theorem wcns_in {g : Gram} {w : List Int} {M v i j : Nat} (h1 : (v : Int) < g.vars) (h2 : i ≤ j) (h3 : j ≤ w.length) : wcns g w M v i j = min M (allR g (wcns g w M) w v i j) := by
  conv => lhs; rw [← wcns_fix]
  unfold rnd; rw [if_pos ⟨h1, h2, h3⟩]
end Go.Proofs.Yticnpbopelgmiaa
namespace Go.Proofs.Yticnpbopelgmiaa
open Go.RowKit

theorem count_le_of : ∀ {a b : List Bool}, a.length = b.length → (∀ k : Nat, a.getD k false = true → b.getD k false = true) → a.count true ≤ b.count true
  | [], [], _, _ => Nat.le_refl _
  | [], _ :: _, h, _ => by simp at h
  | _ :: _, [], h, _ => by simp at h
  | x :: a, y :: b, h, hs => by
    have ih := count_le_of (a := a) (b := b) (by simpa using h) (fun k hk => by have := hs (k + 1); simpa using this (by simpa using hk))
    have h0 := hs 0
    simp only [List.getD_cons_zero] at h0
    cases x <;> cases y <;> simp_all <;> omega
theorem count_lt_of : ∀ {a b : List Bool} (j : Nat), a.length = b.length → (∀ k : Nat, a.getD k false = true → b.getD k false = true) → b.getD j false = true → a.getD j false = false → a.count true < b.count true
  | [], [], _, _, _, hb, _ => by simp at hb
  | [], _ :: _, _, h, _, _, _ => by simp at h
  | _ :: _, [], _, h, _, _, _ => by simp at h
  | x :: a, y :: b, 0, h, hs, hb, ha => by
    have ih := count_le_of (a := a) (b := b) (by simpa using h) (fun k hk => by have := hs (k + 1); simpa using this (by simpa using hk))
    simp only [List.getD_cons_zero] at hb ha
    subst hb; subst ha
    simp only [List.count_cons_self, List.count_cons_of_ne (show false ≠ true by decide)]
    have : List.count true (false :: a) = a.count true := by simp
    omega
  | x :: a, y :: b, j + 1, h, hs, hb, ha => by
    have ih := count_lt_of (a := a) (b := b) j (by simpa using h) (fun k hk => by have := hs (k + 1); simpa using this (by simpa using hk)) (by simpa using hb) (by simpa using ha)
    have h0 := hs 0
    simp only [List.getD_cons_zero] at h0
    cases x <;> cases y <;> simp_all <;> omega
/-- To how many a nonterminal leads alone. -/
def rnk (g : Gram) (v : Int) : Nat := (rowM (ledM false g) v).count true
abbrev stepA (g : Gram) (v : Int) : List Int := stepsOf false g (leftsOf false g) v
theorem rnk_le {g : Gram} (hg : g.ok) {v : Int} (h0 : 0 ≤ v) (h1 : v < g.vars) : rnk g v ≤ 64 := by
  have h := (ledM_sq (c := false) hg).at h0 (by omega)
  have := List.count_le_length (a := true) (l := rowM (ledM false g) v)
  have := hg.vars
  unfold rnk; omega
theorem no_self {g : Gram} (hg : g.ok) (hc : cycL g = []) {v : Int} (h0 : 0 ≤ v) (h1 : v < g.vars) : has (rowM (ledM false g) v) v = false := by
  unfold cycL at hc
  rw [if_pos (by rw [hg.fault])] at hc
  cases h : has (rowM (ledM false g) v) v with
  | false => rfl
  | true =>
    have : v ∈ selfN (ledM false g) g.vars.toNat := by
      unfold selfN
      refine List.mem_map.2 ⟨v.toNat, List.mem_filter.2 ⟨List.mem_range.2 (by omega), ?_⟩, by omega⟩
      rw [show ((v.toNat : Nat) : Int) = v by omega]; exact h
    rw [hc] at this; cases this
theorem step_in {g : Gram} (hg : g.ok) {v u : Int} (h0 : 0 ≤ v) (h1 : v < g.vars) (hs : u ∈ stepA g v) : 0 ≤ u ∧ u < g.vars := by
  have h := (led_whole (c := false) hg h0 h1).from_ u hs
  have := has_lt h
  have := (ledM_sq (c := false) hg).at h0 (by omega)
  omega
theorem rnk_lt {g : Gram} (hg : g.ok) (hc : cycL g = []) {v u : Int} (h0 : 0 ≤ v) (h1 : v < g.vars) (hs : u ∈ stepA g v) : rnk g u < rnk g v := by
  have hv := led_whole (c := false) hg h0 h1
  have hu1 := hv.from_ u hs
  obtain ⟨u0, u1⟩ := step_in hg h0 h1 hs
  have hu := led_whole (c := false) hg u0 u1
  have l1 := (ledM_sq (c := false) hg).at h0 (by omega)
  have l2 := (ledM_sq (c := false) hg).at u0 (by omega)
  have hsub := (hu.least (rowM (ledM false g) v) (by omega) (fun w hw => hv.goes u hu1 w hw) (fun x hx w hw => hv.goes x hx w hw)).sub
  have hno := no_self hg hc u0 u1
  unfold rnk
  refine count_lt_of u.toNat (by omega) (fun k hk => ?_) ?_ ?_
  · have := hsub (k : Int) (by rw [has_nat]; exact hk)
    rwa [has_nat] at this
  · rw [← has_nat, show ((u.toNat : Nat) : Int) = u by omega]; exact hu1
  · rw [← has_nat, show ((u.toNat : Nat) : Int) = u by omega]; exact hno
end Go.Proofs.Yticnpbopelgmiaa
namespace Go.Proofs.Yticnpbopelgmiaa
open Go.RowKit

abbrev nulB (g : Gram) : List Bool := leftsOf false g
/-- Symbols of a rule of v0 from i on, of a place from i0 to j. -/
def Pre (g : Gram) (v0 i0 j : Nat) (suf : List Int) (i : Nat) : Prop := ∃ r ∈ g.rules, ∃ pre, r.left = (v0 : Int) ∧ r.right = pre ++ suf ∧ i0 ≤ i ∧ (i = i0 → inAll pre (nulB g) = true)
def muC (g : Gram) (v i j : Nat) : Nat := (j - i) * 65 + rnk g v
theorem Pre.lt {g : Gram} (hg : g.ok) (hc : cycL g = []) {v0 i0 j : Nat} {s : Nat} {rest : List Int} {i m : Nat} (hp : Pre g v0 i0 j ((s : Int) :: rest) i) (him : i ≤ m) (hmj : m ≤ j) (hn : m = j → inAll rest (nulB g) = true) : muC g s i m < muC g v0 i0 j ∧ (s : Int) < g.vars := by
  obtain ⟨r, hr, pre, e1, e2, e3, e4⟩ := hp
  have hs : (s : Int) < g.vars := hg.hi r hr _ (by rw [e2]; simp)
  have hv : (v0 : Int) < g.vars := by rw [← e1]; exact hg.left r hr
  refine ⟨?_, hs⟩
  have hk := rnk_le hg (v := (s : Int)) (by omega) hs
  unfold muC
  by_cases h : m - i < j - i0
  · have : (m - i + 1) * 65 ≤ (j - i0) * 65 := Nat.mul_le_mul_right _ h
    omega
  · by_cases hz : i = i0 ∧ m = j
    · obtain ⟨rfl, rfl⟩ := hz
      have hst : (s : Int) ∈ stepA g (v0 : Int) := by
        refine overBy_mem.2 ⟨r, hr, e1, picks_mem.2 ⟨pre.length, by rw [e2]; simp, ?_, by rw [e2]; simp⟩⟩
        have e5 : r.right.getD pre.length 0 = (s : Int) := by rw [e2]; simp
        have e6 : r.right.take pre.length = pre := by rw [e2]; simp
        have e7 : r.right.drop (pre.length + 1) = rest := by rw [e2]; simp
        unfold pickAt
        rw [e5, e6, e7, e4 rfl, hn rfl]
        simp
      have := rnk_lt hg hc (by omega) hv hst
      omega
    · omega
theorem Pre.next {g : Gram} {v0 i0 j : Nat} {s : Int} {rest : List Int} {i m : Nat} (hp : Pre g v0 i0 j (s :: rest) i) (him : i ≤ m) (h : m = i → has (nulB g) s = true) : Pre g v0 i0 j rest m := by
  obtain ⟨r, hr, pre, e1, e2, e3, e4⟩ := hp
  refine ⟨r, hr, pre ++ [s], e1, by rw [e2]; simp, by omega, fun e => ?_⟩
  have h1 := e4 (by omega)
  have h2 := h (by omega)
  simp only [inAll, List.all_append, List.all_cons, List.all_nil, Bool.and_true, Bool.and_eq_true] at h1 ⊢
  exact ⟨h1, h2⟩
theorem Pre.start {g : Gram} {v0 i j : Nat} {r : Rule} (hr : r ∈ g.rules) (e : r.left = (v0 : Int)) : Pre g v0 i j r.right i := ⟨r, hr, [], e, rfl, Nat.le_refl _, fun _ => rfl⟩
end Go.Proofs.Yticnpbopelgmiaa
