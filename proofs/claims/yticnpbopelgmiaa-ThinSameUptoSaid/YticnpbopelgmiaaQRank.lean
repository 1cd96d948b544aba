/-
  Facts, plain: where nothing leads to itself alone, what a nonterminal leads to is less than it. Chart, plain: who asks whom; what has no place is nothing.
-/
import Derived.Test.YticnpbopelgmiaaF2
import Derived.Test.YticnpbopelgmiaaQChartP
set_option linter.unusedVariables false
set_option linter.unusedSimpArgs false
set_option linter.unusedSectionVars false
namespace Go.Proofs.Yticnpbopelgmiaa
open Go.RowKit

theorem count_le_of : ∀ {a b : List Bool}, a.length = b.length → (∀ k : Nat, a.getD k false = true → b.getD k false = true) → a.count true ≤ b.count true
  | [], [], _, _ => Nat.le_refl _
  | [], _ :: _, h, _ => by simp at h
  | _ :: _, [], h, _ => by simp at h
  | x :: a, y :: b, h, hs => by
    have ih := count_le_of (a := a) (b := b) (by simpa using h) (fun k hk => by have := hs (k + 1); simpa using this (by simpa using hk))
    have h0 := hs 0
    simp only [List.getD_cons_zero] at h0
    cases x <;> cases y <;> simp_all <;> omega
theorem count_lt_of : ∀ {a b : List Bool} (j : Nat), a.length = b.length → (∀ k : Nat, a.getD k false = true → b.getD k false = true) → b.getD j false = true → a.getD j false = false → a.count true < b.count true
  | [], [], _, _, _, hb, _ => by simp at hb
  | [], _ :: _, _, h, _, _, _ => by simp at h
  | _ :: _, [], _, h, _, _, _ => by simp at h
  | x :: a, y :: b, 0, h, hs, hb, ha => by
    have ih := count_le_of (a := a) (b := b) (by simpa using h) (fun k hk => by have := hs (k + 1); simpa using this (by simpa using hk))
    simp only [List.getD_cons_zero] at hb ha
    subst hb; subst ha
    simp only [List.count_cons_self, List.count_cons_of_ne (show false ≠ true by decide)]
    have : List.count true (false :: a) = a.count true := by simp
    omega
  | x :: a, y :: b, j + 1, h, hs, hb, ha => by
    have ih := count_lt_of (a := a) (b := b) j (by simpa using h) (fun k hk => by have := hs (k + 1); simpa using this (by simpa using hk)) (by simpa using hb) (by simpa using ha)
    have h0 := hs 0
    simp only [List.getD_cons_zero] at h0
    cases x <;> cases y <;> simp_all <;> omega
/-- To how many a nonterminal leads alone. -/
def rnk (g : Gram) (v : Int) : Nat := (rowM (ledM false g) v).count true
abbrev stepA (g : Gram) (v : Int) : List Int := stepsOf false g (leftsOf false g) v
theorem rnk_le {g : Gram} (hg : g.ok) {v : Int} (h0 : 0 ≤ v) (h1 : v < g.vars) : rnk g v ≤ 64 := by
  have h := (ledM_sq (c := false) hg).at h0 (by omega)
  have := List.count_le_length (a := true) (l := rowM (ledM false g) v)
  have := hg.vars
  unfold rnk; omega
theorem no_self {g : Gram} (hg : g.ok) (hc : cycL g = []) {v : Int} (h0 : 0 ≤ v) (h1 : v < g.vars) : has (rowM (ledM false g) v) v = false := by
  unfold cycL at hc
  rw [if_pos (by rw [hg.fault])] at hc
  cases h : has (rowM (ledM false g) v) v with
  | false => rfl
  | true =>
    have : v ∈ selfN (ledM false g) g.vars.toNat := by
      unfold selfN
      refine List.mem_map.2 ⟨v.toNat, List.mem_filter.2 ⟨List.mem_range.2 (by omega), ?_⟩, by omega⟩
      rw [show ((v.toNat : Nat) : Int) = v by omega]; exact h
    rw [hc] at this; cases this
theorem step_in {g : Gram} (hg : g.ok) {v u : Int} (h0 : 0 ≤ v) (h1 : v < g.vars) (hs : u ∈ stepA g v) : 0 ≤ u ∧ u < g.vars := by
  have h := (led_whole (c := false) hg h0 h1).from_ u hs
  have := has_lt h
  have := (ledM_sq (c := false) hg).at h0 (by omega)
  omega
theorem rnk_lt {g : Gram} (hg : g.ok) (hc : cycL g = []) {v u : Int} (h0 : 0 ≤ v) (h1 : v < g.vars) (hs : u ∈ stepA g v) : rnk g u < rnk g v := by
  have hv := led_whole (c := false) hg h0 h1
  have hu1 := hv.from_ u hs
  obtain ⟨u0, u1⟩ := step_in hg h0 h1 hs
  have hu := led_whole (c := false) hg u0 u1
  have l1 := (ledM_sq (c := false) hg).at h0 (by omega)
  have l2 := (ledM_sq (c := false) hg).at u0 (by omega)
  have hsub := (hu.least (rowM (ledM false g) v) (by omega) (fun w hw => hv.goes u hu1 w hw) (fun x hx w hw => hv.goes x hx w hw)).sub
  have hno := no_self hg hc u0 u1
  unfold rnk
  refine count_lt_of u.toNat (by omega) (fun k hk => ?_) ?_ ?_
  · have := hsub (k : Int) (by rw [has_nat]; exact hk)
    rwa [has_nat] at this
  · rw [← has_nat, show ((u.toNat : Nat) : Int) = u by omega]; exact hu1
  · rw [← has_nat, show ((u.toNat : Nat) : Int) = u by omega]; exact hno
end Go.Proofs.Yticnpbopelgmiaa
namespace Go.Proofs.Yticnpbopelgmiaa
open Go.RowKit

abbrev nulB (g : Gram) : List Bool := leftsOf false g
theorem wcn_null {N : Cube} {w : List Int} {S : List Bool} (hN : ∀ v i, N v i i ≠ 0 → has S (v : Int) = true) : ∀ (r : List Int) (i : Nat), wcn N w r i i ≠ 0 → inAll r S = true
  | [], _, _ => rfl
  | s :: r, i, h => by
    rw [wcn, sumN_single (k := i) (by omega) (fun x h1 h2 => by rw [if_neg (by omega)]), if_pos (Nat.le_refl i)] at h
    have h1 : symN N w s i i ≠ 0 := fun e => h (by rw [e, Nat.zero_mul])
    have h2 : wcn N w r i i ≠ 0 := fun e => h (by rw [e, Nat.mul_zero])
    have hr := wcn_null hN r i h2
    unfold symN at h1
    split at h1
    · rename_i h0
      have := hN _ _ h1
      rw [show ((s.toNat : Nat) : Int) = s by omega] at this
      simp only [inAll, List.all_cons, this, Bool.true_and]; exact hr
    · exact absurd (if_neg (by omega)) h1
theorem rnds_null {g : Gram} (hg : g.ok) {w : List Int} {M : Nat} : ∀ (k v i : Nat), rnds g w M k v i i ≠ 0 → has (nulB g) (v : Int) = true
  | 0, v, i, h => absurd rfl h
  | k + 1, v, i, h => by
    change rnd g w M (rnds g w M k) v i i ≠ 0 at h
    unfold rnd at h
    split at h
    · have h1 : allR g (rnds g w M k) w v i i ≠ 0 := fun e => h (by rw [e]; simp)
      unfold allR at h1
      have : ∃ r ∈ g.rules, r.left = (v : Int) ∧ wcn (rnds g w M k) w r.right i i ≠ 0 := Classical.byContradiction fun hn => h1 (by
        have : ∀ l : List Rule, (∀ r ∈ l, r ∈ g.rules) → ((l.filter fun r => decide (r.left = (v : Int))).map fun r => wcn (rnds g w M k) w r.right i i).sum = 0 := by
          intro l
          induction l with
          | nil => intro _; rfl
          | cons r l ih =>
            intro hl
            have ih := ih (fun r hr => hl r (by simp [hr]))
            by_cases e : r.left = (v : Int)
            · rw [List.filter_cons_of_pos (by simpa using e), List.map_cons, List.sum_cons, ih]
              have : wcn (rnds g w M k) w r.right i i = 0 := Classical.byContradiction fun q => hn ⟨r, hl r (by simp), e, q⟩
              rw [this]
            · rw [List.filter_cons_of_neg (by simpa using e), ih]
        exact this g.rules (fun _ h => h))
      obtain ⟨r, hr, e, h2⟩ := this
      have h3 := wcn_null (fun v i => rnds_null hg k v i) r.right i h2
      have := leftsOf_holds (t := false) hg r hr (by simpa [asks] using h3)
      rw [e] at this; exact this
    · exact absurd rfl h
theorem wcns_null {g : Gram} (hg : g.ok) {w : List Int} {M v i : Nat} (h : wcns g w M v i i ≠ 0) : has (nulB g) (v : Int) = true := rnds_null hg _ v i h
/-- Symbols of a rule of v0 from i on, of a place from i0 to j. -/
def Pre (g : Gram) (v0 i0 j : Nat) (suf : List Int) (i : Nat) : Prop := ∃ r ∈ g.rules, ∃ pre, r.left = (v0 : Int) ∧ r.right = pre ++ suf ∧ i0 ≤ i ∧ (i = i0 → inAll pre (nulB g) = true)
def muC (g : Gram) (v i j : Nat) : Nat := (j - i) * 65 + rnk g v
theorem Pre.lt {g : Gram} (hg : g.ok) (hc : cycL g = []) {v0 i0 j : Nat} {s : Nat} {rest : List Int} {i m : Nat} (hp : Pre g v0 i0 j ((s : Int) :: rest) i) (him : i ≤ m) (hmj : m ≤ j) (hn : m = j → inAll rest (nulB g) = true) : muC g s i m < muC g v0 i0 j ∧ (s : Int) < g.vars := by
  obtain ⟨r, hr, pre, e1, e2, e3, e4⟩ := hp
  have hs : (s : Int) < g.vars := hg.hi r hr _ (by rw [e2]; simp)
  have hv : (v0 : Int) < g.vars := by rw [← e1]; exact hg.left r hr
  refine ⟨?_, hs⟩
  have hk := rnk_le hg (v := (s : Int)) (by omega) hs
  unfold muC
  by_cases h : m - i < j - i0
  · have : (m - i + 1) * 65 ≤ (j - i0) * 65 := Nat.mul_le_mul_right _ h
    omega
  · by_cases hz : i = i0 ∧ m = j
    · obtain ⟨rfl, rfl⟩ := hz
      have hst : (s : Int) ∈ stepA g (v0 : Int) := by
        refine overBy_mem.2 ⟨r, hr, e1, picks_mem.2 ⟨pre.length, by rw [e2]; simp, ?_, by rw [e2]; simp⟩⟩
        have e5 : r.right.getD pre.length 0 = (s : Int) := by rw [e2]; simp
        have e6 : r.right.take pre.length = pre := by rw [e2]; simp
        have e7 : r.right.drop (pre.length + 1) = rest := by rw [e2]; simp
        unfold pickAt
        rw [e5, e6, e7, e4 rfl, hn rfl]
        simp
      have := rnk_lt hg hc (by omega) hv hst
      omega
    · omega
theorem Pre.next {g : Gram} {v0 i0 j : Nat} {s : Int} {rest : List Int} {i m : Nat} (hp : Pre g v0 i0 j (s :: rest) i) (him : i ≤ m) (h : m = i → has (nulB g) s = true) : Pre g v0 i0 j rest m := by
  obtain ⟨r, hr, pre, e1, e2, e3, e4⟩ := hp
  refine ⟨r, hr, pre ++ [s], e1, by rw [e2]; simp, by omega, fun e => ?_⟩
  have h1 := e4 (by omega)
  have h2 := h (by omega)
  simp only [inAll, List.all_append, List.all_cons, List.all_nil, Bool.and_true, Bool.and_eq_true] at h1 ⊢
  exact ⟨h1, h2⟩
theorem Pre.start {g : Gram} {v0 i j : Nat} {r : Rule} (hr : r ∈ g.rules) (e : r.left = (v0 : Int)) : Pre g v0 i j r.right i := ⟨r, hr, [], e, rfl, Nat.le_refl _, fun _ => rfl⟩
end Go.Proofs.Yticnpbopelgmiaa
