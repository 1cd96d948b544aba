/-
  The trees of a word, plain: all of them in a list; as many as are counted. The list of all trees, plain: it is whole; sorted it is the same for the same trees.
-/
import Derived.Test.YticnpbopelgmiaaQChartP
import Derived.Test.YticnpbopelgmiaaQSimPf
set_option linter.unusedVariables false
set_option linter.unusedSimpArgs false
set_option linter.unusedSectionVars false
namespace Go.Proofs.Yticnpbopelgmiaa
open Go.RowKit

abbrev LCube := Nat → Nat → Nat → List Tree
def lenC (L : LCube) : Cube := fun v i j => (L v i j).length
/-- The trees of one symbol ahead, and what is behind. -/
def symL (L : LCube) (w : List Int) (s : Int) (i m : Nat) (K : List (List Tree)) : List (List Tree) := if 0 ≤ s then (L s.toNat i m).flatMap fun t => K.map (t :: ·) else if m = i + 1 ∧ w[i]? = some (-1 - s) then K else []
def seqL (L : LCube) (w : List Int) : List Int → Nat → Nat → List (List Tree)
  | [], i, j => if i = j then [[]] else []
  | s :: r, i, j => (List.range (j + 1)).flatMap fun m => if i ≤ m then symL L w s i m (seqL L w r m j) else []
def treesH (g : Gram) (w : List Int) : Nat → LCube
  | 0 => fun _ _ _ => []
  | H + 1 => fun v i j => (List.range g.rules.length).flatMap fun r => match g.rules[r]? with
    | some x => if x.left = (v : Int) then (seqL (treesH g w H) w x.right i j).map (Tree.mk (r : Int)) else []
    | none => []

/-! ### How many -/
theorem flatMap_len {α : Type} (f : Nat → List α) : ∀ n, ((List.range n).flatMap f).length = sumN n fun m => (f m).length
  | 0 => rfl
  | n + 1 => by
    rw [List.range_succ, List.flatMap_append, List.length_append, flatMap_len f n]
    simp [sumN]
theorem flatMap_const {α β : Type} (f : α → List β) (c : Nat) : ∀ l : List α, (∀ a ∈ l, (f a).length = c) → (l.flatMap f).length = l.length * c
  | [], _ => by simp
  | a :: l, h => by
    rw [List.flatMap_cons, List.length_append, flatMap_const f c l (fun b hb => h b (by simp [hb])), h a (by simp), List.length_cons, Nat.add_mul]; omega
theorem symL_len (L : LCube) (w : List Int) (s : Int) (i m : Nat) (K : List (List Tree)) : (symL L w s i m K).length = symN (lenC L) w s i m * K.length := by
  unfold symL symN
  split
  · rw [flatMap_const _ K.length _ (fun a _ => by simp)]; rfl
  · split
    · rw [Nat.one_mul]
    · simp
theorem seqL_len (L : LCube) (w : List Int) : ∀ (r : List Int) (i j : Nat), (seqL L w r i j).length = wcn (lenC L) w r i j
  | [], i, j => by rw [seqL, wcn]; split <;> rfl
  | s :: r, i, j => by
    rw [seqL, wcn, flatMap_len]
    refine sumN_congr fun m _ => ?_
    split
    · rw [symL_len, seqL_len L w r m j]
    · rfl
theorem treesH_len (g : Gram) (w : List Int) (H v i j : Nat) : (treesH g w (H + 1) v i j).length = sumN g.rules.length (fR g (lenC (treesH g w H)) w v i j) := by
  rw [treesH, flatMap_len]
  refine sumN_congr fun r _ => ?_
  unfold fR
  cases g.rules[r]? with
  | none => rfl
  | some x =>
    dsimp only
    split
    · rw [List.length_map, seqL_len]
    · rfl
theorem min_mul {M a b c d : Nat} (h1 : min M a = min M c) (h2 : min M b = min M d) : min M (a * b) = min M (c * d) := by
  rw [← min_mul_l, h1, min_mul_l, ← min_mul_r, h2, min_mul_r]
theorem wcn_min {M : Nat} {N N' : Cube} {w : List Int} {V : Int} {j : Nat} (h : ∀ v i m : Nat, (v : Int) < V → i ≤ m → m ≤ j → min M (N v i m) = min M (N' v i m)) : ∀ (r : List Int) (i : Nat), (∀ s ∈ r, s < V) → min M (wcn N w r i j) = min M (wcn N' w r i j)
  | [], i, _ => rfl
  | s :: r, i, hs => by
    rw [wcn, wcn]
    refine min_sumN fun m hm => ?_
    split
    · rename_i him
      refine min_mul ?_ (wcn_min h r m (fun x hx => hs x (by simp [hx])))
      unfold symN
      split
      · have := hs s (by simp)
        exact h _ _ _ (by omega) him (by omega)
      · rfl
    · rfl
theorem rnds_treesH {g : Gram} (hg : g.ok) {w : List Int} {M : Nat} : ∀ (k v i j : Nat), (v : Int) < g.vars → i ≤ j → j ≤ w.length → rnds g w M k v i j = min M (treesH g w k v i j).length
  | 0, v, i, j, _, _, _ => by show 0 = _; simp [treesH]
  | k + 1, v, i, j, hv, hij, hj => by
    show rnd g w M (rnds g w M k) v i j = _
    unfold rnd
    rw [if_pos ⟨hv, hij, hj⟩, treesH_len, allR_sum]
    refine min_sumN fun r hr => ?_
    unfold fR
    rw [List.getElem?_eq_getElem hr]
    dsimp only
    split
    · refine wcn_min (V := g.vars) (fun u a b hu hab hb => ?_) _ _ (fun s hs => hg.hi _ (List.getElem_mem hr) s hs)
      rw [rnds_treesH hg k u a b hu hab (by omega)]
      show min M (min M _) = _
      unfold lenC
      omega
    · rfl

/-! ### They are the trees -/
variable {g : Gram} {w : List Int}
/-- A tree of v that stands for the word from i to j. -/
def IsT (g : Gram) (w : List Int) (v i j : Nat) (x : Tree) : Prop := fits g x (v : Int) = true ∧ wordT g x = seg w i j
def IsR (g : Gram) (w : List Int) (r : List Int) (i j : Nat) (l : List Tree) : Prop := (kids r).length = l.length ∧ fitss g l (kids r) = true ∧ wordL g r l = seg w i j
theorem isR_nil {i j : Nat} (hij : i ≤ j) (hj : j ≤ w.length) {l : List Tree} : IsR g w [] i j l ↔ l = [] ∧ i = j := by
  constructor
  · rintro ⟨h1, h2, h3⟩
    rw [wordL_nil] at h3
    have hl := congrArg List.length h3
    rw [seg_len hij hj] at hl
    simp only [List.length_nil] at hl
    exact ⟨List.eq_nil_of_length_eq_zero h1.symm, by omega⟩
  · rintro ⟨rfl, rfl⟩
    exact ⟨rfl, by rw [fitss.eq_def], by rw [wordL_nil, seg_self]⟩
theorem isR_term {s : Int} {r : List Int} {i j : Nat} {l : List Tree} (hs : s < 0) (hij : i ≤ j) (hj : j ≤ w.length) : IsR g w (s :: r) i j l ↔ i + 1 ≤ j ∧ w[i]? = some (-1 - s) ∧ IsR g w r (i + 1) j l := by
  unfold IsR
  rw [kidsN hs, wordL_neg hs]
  constructor
  · rintro ⟨h1, h2, h3⟩
    obtain ⟨k1, k2, k3⟩ := seg_split (a := [-1 - s]) (b := wordL g r l) h3 hij hj
    simp only [List.length_cons, List.length_nil, Nat.zero_add] at k1 k2 k3
    have hi : i < w.length := by omega
    refine ⟨k1, ?_, h1, h2, k3⟩
    rw [List.getElem?_eq_getElem hi]
    unfold seg at k2
    rw [show i + 1 - i = 1 by omega, List.drop_eq_getElem_cons hi] at k2
    simp only [List.take_succ_cons, List.take_zero, List.cons.injEq, and_true] at k2
    rw [k2]
  · rintro ⟨h1, h2, h3, h4, h5⟩
    exact ⟨h3, h4, by rw [h5, seg_cons h1 h2]⟩
theorem isR_var {s : Nat} {r : List Int} {i j : Nat} {l : List Tree} (hij : i ≤ j) (hj : j ≤ w.length) : IsR g w ((s : Int) :: r) i j l ↔ ∃ m x k, l = x :: k ∧ i ≤ m ∧ m ≤ j ∧ IsT g w s i m x ∧ IsR g w r m j k := by
  have hs : ¬ (s : Int) < 0 := by omega
  unfold IsR IsT
  rw [kidsP hs]
  constructor
  · rintro ⟨h1, h2, h3⟩
    cases l with
    | nil => cases h1
    | cons x k =>
      rw [wordL_pos hs] at h3
      simp only [List.length_cons, Nat.add_right_cancel_iff] at h1
      rw [fitss, Bool.and_eq_true] at h2
      obtain ⟨k1, k2, k3⟩ := seg_split h3 hij hj
      exact ⟨_, x, k, rfl, by omega, k1, ⟨h2.1, k2⟩, h1, h2.2, k3⟩
  · rintro ⟨m, x, k, rfl, h1, h2, ⟨h3, h4⟩, h5, h6, h7⟩
    refine ⟨by simp [h5], by rw [fitss, h3, h6]; rfl, ?_⟩
    rw [wordL_pos hs, h4, h7, seg_app h1 h2]
theorem isT_iff {v i j : Nat} {x : Tree} : IsT g w v i j x ↔ ∃ r, ∃ h : r < g.rules.length, x.rule = (r : Int) ∧ g.rules[r].left = (v : Int) ∧ IsR g w g.rules[r].right i j x.kids := by
  constructor
  · rintro ⟨h1, h2⟩
    obtain ⟨r, hr, e1, e2, e3, e4, e5⟩ := fits_parts h1
    exact ⟨r, hr, e1, e2, e3, e4, by rw [← e5, h2]⟩
  · rintro ⟨r, hr, e1, e2, e3, e4, e5⟩
    refine ⟨?_, ?_⟩
    · rw [fits_eq, e1, if_pos (by omega), Int.toNat_natCast, List.getElem?_eq_getElem hr]
      simp [e2, e3, e4]
    · rw [wordT_eq, e1, Int.toNat_natCast, List.getElem?_eq_getElem hr]; exact e5
theorem symL_mem {L : LCube} {s : Int} {i m : Nat} {K : List (List Tree)} {l : List Tree} : l ∈ symL L w s i m K ↔ (∃ sn : Nat, s = (sn : Int) ∧ ∃ t k, t ∈ L sn i m ∧ k ∈ K ∧ l = t :: k) ∨ (s < 0 ∧ m = i + 1 ∧ w[i]? = some (-1 - s) ∧ l ∈ K) := by
  unfold symL
  by_cases h : 0 ≤ s
  · rw [if_pos h]
    obtain ⟨sn, rfl⟩ : ∃ sn : Nat, s = (sn : Int) := ⟨s.toNat, by omega⟩
    simp only [List.mem_flatMap, List.mem_map, Int.toNat_natCast]
    constructor
    · rintro ⟨t, ht, k, hk, rfl⟩
      exact .inl ⟨sn, rfl, t, k, ht, hk, rfl⟩
    · rintro (⟨sn', e, t, k, ht, hk, rfl⟩ | ⟨h1, _⟩)
      · obtain rfl : sn = sn' := by omega
        exact ⟨t, ht, k, hk, rfl⟩
      · omega
  · rw [if_neg h]
    by_cases h2 : m = i + 1 ∧ w[i]? = some (-1 - s)
    · rw [if_pos h2]
      constructor
      · intro hl; exact .inr ⟨by omega, h2.1, h2.2, hl⟩
      · rintro (⟨sn, e, _⟩ | ⟨_, _, _, hl⟩)
        · omega
        · exact hl
    · rw [if_neg h2]
      constructor
      · intro hl; cases hl
      · rintro (⟨sn, e, _⟩ | ⟨_, h3, h4, _⟩)
        · omega
        · exact absurd ⟨h3, h4⟩ h2
theorem seqL_mem {L : LCube} {j : Nat} (hj : j ≤ w.length) {P : Tree → Prop} (hL : ∀ v i m x, i ≤ m → m ≤ j → P x → (x ∈ L v i m ↔ IsT g w v i m x)) : ∀ (r : List Int) (i : Nat) (l : List Tree), (∀ x ∈ l, P x) → i ≤ j → (l ∈ seqL L w r i j ↔ IsR g w r i j l)
  | [], i, l, _, hij => by
    rw [isR_nil hij hj, seqL]
    by_cases h : i = j
    · rw [if_pos h]; simp [h]
    · rw [if_neg h]; simp [h]
  | s :: r, i, l, hP, hij => by
    rw [seqL]
    simp only [List.mem_flatMap, List.mem_range]
    by_cases hs : s < 0
    · rw [isR_term hs hij hj]
      constructor
      · rintro ⟨m, hm, hl⟩
        split at hl
        · rcases symL_mem.1 hl with ⟨sn, e, _⟩ | ⟨_, e1, e2, e3⟩
          · omega
          · subst e1
            exact ⟨by omega, e2, (seqL_mem hj hL r (i + 1) l hP (by omega)).1 e3⟩
        · cases hl
      · rintro ⟨h1, h2, h3⟩
        refine ⟨i + 1, by omega, ?_⟩
        rw [if_pos (by omega)]
        exact symL_mem.2 (.inr ⟨hs, rfl, h2, (seqL_mem hj hL r (i + 1) l hP h1).2 h3⟩)
    · obtain ⟨sn, rfl⟩ : ∃ sn : Nat, s = (sn : Int) := ⟨s.toNat, by omega⟩
      rw [isR_var hij hj]
      constructor
      · rintro ⟨m, hm, hl⟩
        split at hl
        · rename_i him
          rcases symL_mem.1 hl with ⟨sn', e, t, k, ht, hk, rfl⟩ | ⟨h1, _⟩
          · obtain rfl : sn = sn' := by omega
            exact ⟨m, t, k, rfl, him, by omega, (hL sn i m t him (by omega) (hP t (by simp))).1 ht, (seqL_mem hj hL r m k (fun x hx => hP x (by simp [hx])) (by omega)).1 hk⟩
          · omega
        · cases hl
      · rintro ⟨m, x, k, rfl, h1, h2, h3, h4⟩
        refine ⟨m, by omega, ?_⟩
        rw [if_pos h1]
        exact symL_mem.2 (.inl ⟨sn, rfl, x, k, (hL sn i m x h1 h2 (hP x (by simp))).2 h3, (seqL_mem hj hL r m k (fun x hx => hP x (by simp [hx])) h2).2 h4, rfl⟩)
theorem treesH_step {H v i j : Nat} {x : Tree} : x ∈ treesH g w (H + 1) v i j ↔ ∃ r, ∃ h : r < g.rules.length, x.rule = (r : Int) ∧ g.rules[r].left = (v : Int) ∧ x.kids ∈ seqL (treesH g w H) w g.rules[r].right i j := by
  rw [treesH]
  simp only [List.mem_flatMap, List.mem_range]
  constructor
  · rintro ⟨r, hr, hx⟩
    rw [List.getElem?_eq_getElem hr] at hx
    dsimp only at hx
    split at hx
    · rename_i e
      obtain ⟨l, hl, rfl⟩ := List.mem_map.1 hx
      exact ⟨r, hr, rfl, e, hl⟩
    · cases hx
  · rintro ⟨r, hr, e1, e2, e3⟩
    refine ⟨r, hr, ?_⟩
    rw [List.getElem?_eq_getElem hr]
    dsimp only
    rw [if_pos e2]
    exact List.mem_map.2 ⟨x.kids, e3, by rw [← e1]; exact (Tree.eta x).symm⟩
theorem treesH_sound : ∀ (H v i j : Nat) (x : Tree), i ≤ j → j ≤ w.length → x ∈ treesH g w H v i j → IsT g w v i j x
  | 0, _, _, _, _, _, _, h => by cases h
  | H + 1, v, i, j, x, hij, hj, h => by
    obtain ⟨r, hr, e1, e2, e3⟩ := treesH_step.1 h
    refine isT_iff.2 ⟨r, hr, e1, e2, ?_⟩
    clear h e1 e2
    have hs := fun v i m x h1 h2 => treesH_sound H v i m x h1 h2
    have key : ∀ (rs : List Int) (i : Nat) (l : List Tree), i ≤ j → l ∈ seqL (treesH g w H) w rs i j → IsR g w rs i j l := by
      intro rs
      induction rs with
      | nil =>
        intro i l hij h
        rw [seqL] at h
        split at h
        · rename_i e
          rw [isR_nil hij hj]; simpa [e] using h
        · cases h
      | cons s rs ih =>
        intro i l hij h
        rw [seqL] at h
        simp only [List.mem_flatMap, List.mem_range] at h
        obtain ⟨m, hm, hl⟩ := h
        split at hl
        · rename_i him
          rcases symL_mem.1 hl with ⟨sn, rfl, t, k, ht, hk, rfl⟩ | ⟨h1, e1, e2, e3⟩
          · exact (isR_var hij hj).2 ⟨m, t, k, rfl, him, by omega, hs sn i m t him (by omega) ht, ih m k (by omega) hk⟩
          · subst e1
            exact (isR_term h1 hij hj).2 ⟨by omega, e2, ih _ l (by omega) e3⟩
        · cases hl
    exact key _ _ _ hij e3
theorem treesH_all : ∀ (H v i j : Nat) (x : Tree), i ≤ j → j ≤ w.length → cnt x ≤ H → IsT g w v i j x → x ∈ treesH g w H v i j
  | 0, _, _, _, x, _, _, h, _ => by have := cnt_pos x; omega
  | H + 1, v, i, j, x, hij, hj, hc, h => by
    obtain ⟨r, hr, e1, e2, e3⟩ := isT_iff.1 h
    refine treesH_step.2 ⟨r, hr, e1, e2, ?_⟩
    rw [cnt_eq] at hc
    exact (seqL_mem hj (P := fun t => cnt t ≤ H) (fun v i m t h1 h2 h3 => ⟨fun q => treesH_sound H v i m t h1 (by omega) q, fun q => treesH_all H v i m t h1 (by omega) h3 q⟩) _ i x.kids (fun t ht => by have := cnts_mem ht; omega) hij).2 e3
theorem isT_len {v i j : Nat} {x : Tree} (h : IsT g w v i j x) (hij : i ≤ j) (hj : j ≤ w.length) : (wordT g x).length = j - i := by rw [h.2, seg_len hij hj]
theorem seqL_nodup {L : LCube} {j : Nat} (hj : j ≤ w.length) (hS : ∀ v i m x, i ≤ m → m ≤ j → x ∈ L v i m → IsT g w v i m x) (hN : ∀ v i m, i ≤ m → m ≤ j → (L v i m).Nodup) : ∀ (r : List Int) (i : Nat), i ≤ j → (seqL L w r i j).Nodup
  | [], i, _ => by rw [seqL]; split <;> simp
  | s :: r, i, hij => by
    rw [seqL]
    unfold List.Nodup
    rw [List.pairwise_flatMap]
    refine ⟨fun m hm => ?_, ?_⟩
    · have hm := List.mem_range.1 hm
      by_cases him : i ≤ m
      · rw [if_pos him]
        have ih := seqL_nodup hj hS hN r m (by omega)
        unfold symL
        split
        · rw [List.pairwise_flatMap]
          refine ⟨fun t _ => ?_, ?_⟩
          · rw [List.pairwise_map]
            exact ih.imp fun h q => h (List.cons.inj q).2
          · refine (hN _ i m him (by omega)).imp fun h => ?_
            intro x hx y hy
            obtain ⟨k, _, rfl⟩ := List.mem_map.1 hx
            obtain ⟨k', _, rfl⟩ := List.mem_map.1 hy
            exact fun q => h (List.cons.inj q).1
        · split
          · exact ih
          · exact List.Pairwise.nil
      · rw [if_neg him]; exact List.Pairwise.nil
    · refine (List.pairwise_lt_range).imp_of_mem fun {a b} ha hb hab => ?_
      have ha := List.mem_range.1 ha
      have hb := List.mem_range.1 hb
      intro x hx y hy hxy
      subst hxy
      split at hx
      · split at hy
        · rename_i h1 h2
          rcases symL_mem.1 hx with ⟨sn, rfl, t, k, ht, hk, rfl⟩ | ⟨q1, e1, e2, e3⟩
          · rcases symL_mem.1 hy with ⟨sn', e, t', k', ht', hk', e'⟩ | ⟨q1, _⟩
            · obtain rfl : sn = sn' := by omega
              obtain ⟨rfl, rfl⟩ := List.cons.inj e'
              have l1 := isT_len (hS sn i a t h1 (by omega) ht) h1 (by omega)
              have l2 := isT_len (hS sn i b t h2 (by omega) ht') h2 (by omega)
              omega
            · omega
          · rcases symL_mem.1 hy with ⟨sn', e, _⟩ | ⟨_, e1', _⟩
            · omega
            · omega
        · cases hy
      · cases hx
theorem treesH_nodup : ∀ (H v i j : Nat), i ≤ j → j ≤ w.length → (treesH g w H v i j).Nodup
  | 0, _, _, _, _, _ => List.Pairwise.nil
  | H + 1, v, i, j, hij, hj => by
    rw [treesH]
    unfold List.Nodup
    rw [List.pairwise_flatMap]
    refine ⟨fun r hr => ?_, ?_⟩
    · have hr := List.mem_range.1 hr
      rw [List.getElem?_eq_getElem hr]
      dsimp only
      split
      · rw [List.pairwise_map]
        have := seqL_nodup hj (fun v i m x h1 h2 h3 => treesH_sound H v i m x h1 (by omega) h3) (fun v i m h1 h2 => treesH_nodup H v i m h1 (by omega)) g.rules[r].right i hij
        exact this.imp fun h q => h (Tree.mk.inj q).2
      · exact List.Pairwise.nil
    · refine (List.pairwise_lt_range).imp_of_mem fun {a b} ha hb hab => ?_
      have ha := List.mem_range.1 ha
      have hb := List.mem_range.1 hb
      rw [List.getElem?_eq_getElem ha, List.getElem?_eq_getElem hb]
      dsimp only
      intro x hx y hy hxy
      subst hxy
      split at hx
      · split at hy
        · obtain ⟨k, _, rfl⟩ := List.mem_map.1 hx
          obtain ⟨k', _, e⟩ := List.mem_map.1 hy
          have := (Tree.mk.inj e).1
          omega
        · cases hy
      · cases hx

/-! ### Counted -/
theorem nodup_sub_len {α : Type} [DecidableEq α] : ∀ {l m : List α}, l.Nodup → (∀ x ∈ l, x ∈ m) → l.length ≤ m.length
  | [], _, _, _ => by simp
  | x :: l, m, h, hs => by
    obtain ⟨h1, h2⟩ := List.pairwise_cons.1 h
    have := nodup_sub_len (m := m.erase x) h2 (fun y hy => (List.mem_erase_of_ne (fun e => h1 y hy e.symm)).2 (hs y (by simp [hy])))
    rw [List.length_erase_of_mem (hs x (by simp))] at this
    have := List.length_pos_of_mem (hs x (by simp))
    simp only [List.length_cons]; omega
theorem cnt_le_max (l : List Tree) : ∃ H, ∀ x ∈ l, cnt x ≤ H := ⟨cnts l, fun _ h => cnts_mem h⟩
/-- So many trees at most as are counted. -/
theorem trees_le (hg : g.ok) {M v i j : Nat} (hv : (v : Int) < g.vars) (hij : i ≤ j) (hj : j ≤ w.length) {l : List Tree} (hd : l.Nodup) (hl : ∀ x ∈ l, IsT g w v i j x) : min M l.length ≤ wcns g w M v i j := by
  classical
  obtain ⟨H, hH⟩ := cnt_le_max l
  have h1 : l.length ≤ (treesH g w (many g w M + H) v i j).length := nodup_sub_len hd fun x hx => treesH_all _ v i j x hij hj (by have := hH x hx; omega) (hl x hx)
  have h2 := rnds_treesH hg (M := M) (many g w M + H) v i j hv hij hj
  have h3 := rnds_stay (g := g) (w := w) (M := M) (k := many g w M) (wcns_fix g w M) H
  rw [h3] at h2
  show _ ≤ rnds g w M (many g w M) v i j
  omega
/-- So many trees are there. -/
theorem trees_ge (hg : g.ok) {M v i j : Nat} (hv : (v : Int) < g.vars) (hij : i ≤ j) (hj : j ≤ w.length) : ∃ l : List Tree, l.Nodup ∧ (∀ x ∈ l, IsT g w v i j x) ∧ wcns g w M v i j ≤ l.length := by
  refine ⟨treesH g w (many g w M) v i j, treesH_nodup _ v i j hij hj, fun x hx => treesH_sound _ v i j x hij hj hx, ?_⟩
  have h2 := rnds_treesH hg (M := M) (many g w M) v i j hv hij hj
  show rnds g w M (many g w M) v i j ≤ _
  omega
end Go.Proofs.Yticnpbopelgmiaa
namespace Go.Proofs.Yticnpbopelgmiaa
open Go.RowKit

section
variable {g : Gram} {w : List Int}
abbrev stN (g : Gram) : Nat := g.start.toNat
theorem Gram.ok.stN (h : g.ok) : ((stN g : Nat) : Int) = g.start := by have := h.start0; unfold Go.Proofs.Yticnpbopelgmiaa.stN; omega
/-- A tree of the word. -/
def IsW (g : Gram) (w : List Int) (x : Tree) : Prop := fits g x g.start = true ∧ wordT g x = w
theorem isW_isT (hg : g.ok) {x : Tree} : IsW g w x ↔ IsT g w (stN g) 0 w.length x := by
  unfold IsW IsT
  rw [hg.stN, seg_all]
theorem words_le (hg : g.ok) {l : List Tree} (hd : l.Nodup) (hl : ∀ x ∈ l, IsW g w x) : min manyC l.length ≤ cntF g w :=
  trees_le hg (by rw [hg.stN]; exact hg.start) (Nat.zero_le _) (Nat.le_refl _) hd (fun x hx => (isW_isT hg).1 (hl x hx))
theorem words_ge (hg : g.ok) : ∃ l : List Tree, l.Nodup ∧ (∀ x ∈ l, IsW g w x) ∧ cntF g w ≤ l.length := by
  obtain ⟨l, h1, h2, h3⟩ := trees_ge (w := w) hg (M := manyC) (v := stN g) (by rw [hg.stN]; exact hg.start) (Nat.zero_le _) (Nat.le_refl _)
  exact ⟨l, h1, fun x hx => (isW_isT hg).2 (h2 x hx), h3⟩
theorem cntF_le (g : Gram) (w : List Int) : cntF g w ≤ manyC := wcns_le g w manyC _ _ _
/-- A way from trees to trees and back: as many are counted. -/
theorem cntF_same {h : Gram} (hg : g.ok) (hh : h.ok) (f : Tree → Tree) (f1 : ∀ x, IsW h w x → IsW g w (f x)) (f2 : ∀ x y, IsW h w x → IsW h w y → f x = f y → x = y) (f3 : ∀ y, IsW g w y → ∃ x, IsW h w x ∧ f x = y) : cntF h w = cntF g w := by
  have a1 := cntF_le g w
  have a2 := cntF_le h w
  have b1 : cntF h w ≤ cntF g w := by
    obtain ⟨l, h1, h2, h3⟩ := words_ge (w := w) hh
    have : (l.map f).Nodup := by
      unfold List.Nodup
      rw [List.pairwise_map]
      exact List.Pairwise.imp_of_mem (fun ha hb hne q => hne (f2 _ _ (h2 _ ha) (h2 _ hb) q)) h1
    have := words_le hg this (fun x hx => by obtain ⟨y, hy, rfl⟩ := List.mem_map.1 hx; exact f1 y (h2 y hy))
    rw [List.length_map] at this
    omega
  have b2 : cntF g w ≤ cntF h w := by
    classical
    obtain ⟨l, h1, h2, h3⟩ := words_ge (w := w) hg
    let b : Tree → Tree := fun y => if q : IsW g w y then (f3 y q).choose else y
    have hb : ∀ y, IsW g w y → IsW h w (b y) ∧ f (b y) = y := fun y hy => by
      have e : b y = (f3 y hy).choose := dif_pos hy
      rw [e]; exact (f3 y hy).choose_spec
    have : (l.map b).Nodup := by
      unfold List.Nodup
      rw [List.pairwise_map]
      exact List.Pairwise.imp_of_mem (fun {x y} ha hb' hne q => hne (by rw [← (hb x (h2 _ ha)).2, ← (hb y (h2 _ hb')).2, q])) h1
    have := words_le hh this (fun x hx => by obtain ⟨y, hy, rfl⟩ := List.mem_map.1 hx; exact (hb y (h2 y hy)).1)
    rw [List.length_map] at this
    omega
  omega

/-! ### The list -/
theorem listF_ok : ∀ (n k : Nat) (acc : List Tree), (listF g w n k acc).2.code = 0 → (listF g w n k acc).1.length = acc.length + n ∧ (∀ i, ∀ h : i < acc.length, (listF g w n k acc).1[i]? = some acc[i]) ∧ (∀ i, i < n → (atF g w (k + i)).2.1.code = 0 ∧ (listF g w n k acc).1[acc.length + i]? = some (atF g w (k + i)).1)
  | 0, k, acc, h => by
    rw [listF]
    exact ⟨rfl, fun i hi => List.getElem?_eq_getElem hi, fun i hi => by omega⟩
  | n + 1, k, acc, h => by
    rw [listF] at h ⊢
    by_cases hc : (atF g w k).2.1.code = 0
    · rw [if_pos hc] at h ⊢
      obtain ⟨h1, h2, h3⟩ := listF_ok n (k + 1) (acc ++ [(atF g w k).1]) h
      rw [List.length_append, List.length_singleton] at h1 h3
      refine ⟨by omega, fun i hi => ?_, fun i hi => ?_⟩
      · rw [h2 i (by simp; omega), List.getElem_append_left hi]
      · cases i with
        | zero =>
          refine ⟨hc, ?_⟩
          have := h2 acc.length (by simp)
          simpa using this
        | succ i =>
          obtain ⟨q1, q2⟩ := h3 i (by omega)
          rw [show k + (i + 1) = k + 1 + i by omega, show acc.length + (i + 1) = acc.length + 1 + i by omega]
          exact ⟨q1, q2⟩
    · rw [if_neg hc] at h
      exact absurd h hc
theorem atF_ok {k : Nat} (h : (atF g w k).2.1.code = 0) : ∃ L, treeF g (wcns g w manyC) w 400 g.start.toNat 0 w.length k 400 = some ((atF g w k).1, L) := by
  unfold atF at h ⊢
  split
  · rename_i x L e; exact ⟨L, e⟩
  · rename_i e; rw [e] at h; simp at h
structure ListOk (g : Gram) (w : List Int) (l : List Tree) : Prop where
  ch : ChOk g w
  few : cntF g w ≤ 200
  len : l.length = cntF g w
  at_ : ∀ k, ∀ h : k < l.length, ∃ L, treeF g (wcns g w manyC) w 400 g.start.toNat 0 w.length k 400 = some (l[k], L)
theorem fList_ok (h : (fListF g w).2.code = 0) : ListOk g w (fListF g w).1 := by
  have e : fListF g w = if (opF g w).code = 0 then (if 200 < cntF g w then ([], ⟨6, -1⟩) else listF g w (cntF g w) 0 []) else ([], opF g w) := rfl
  rw [e] at h ⊢
  by_cases hc : (opF g w).code = 0
  · rw [if_pos hc] at h ⊢
    by_cases hm : 200 < cntF g w
    · rw [if_pos hm] at h; simp at h
    · rw [if_neg hm] at h ⊢
      obtain ⟨h1, h2, h3⟩ := listF_ok _ _ _ h
      simp only [List.length_nil, Nat.zero_add] at h1 h3
      refine ⟨(opF_ok hc).1, by omega, h1, fun k hk => ?_⟩
      obtain ⟨q1, q2⟩ := h3 k (by omega)
      obtain ⟨L, e⟩ := atF_ok q1
      rw [List.getElem?_eq_getElem hk] at q2
      exact ⟨L, by rw [e, Option.some.inj q2]⟩
  · rw [if_neg hc] at h
    exact absurd h hc
theorem ListOk.spec {l : List Tree} (h : ListOk g w l) {k : Nat} (hk : k < l.length) : IsW g w l[k] ∧ cnt l[k] ≤ 400 ∧ rkT g (wcns g w manyC) w l[k] 0 w.length = k := by
  obtain ⟨L, e⟩ := h.at_ k hk
  have hg := h.ch.ok
  have hl := h.len
  have hf := h.few
  have hcn : cntF g w = wcns g w manyC (stN g) 0 w.length := rfl
  have hmC : manyC = 4611686018427387904 := rfl
  obtain ⟨h1, h2, h3, h4⟩ := treeF_spec hg (wcns_fixN g w manyC) 400 (stN g) 0 w.length k 400 (l[k], L) (by rw [hg.stN]; exact hg.start) (Nat.zero_le _) (Nat.le_refl _) (by omega) (by omega) e
  dsimp only at h1 h2 h3 h4
  exact ⟨(isW_isT hg).2 ⟨h1, h2⟩, by omega, h3⟩
theorem ListOk.nodup {l : List Tree} (h : ListOk g w l) : l.Nodup := by
  unfold List.Nodup
  rw [List.pairwise_iff_getElem]
  intro i j hi hj hij e
  have h1 := (h.spec hi).2.2
  have h2 := (h.spec hj).2.2
  rw [e] at h1
  omega
theorem ListOk.mem {l : List Tree} (h : ListOk g w l) {x : Tree} (hx : x ∈ l) : IsW g w x ∧ cnt x ≤ 400 := by
  obtain ⟨k, hk, rfl⟩ := List.mem_iff_getElem.1 hx
  exact ⟨(h.spec hk).1, (h.spec hk).2.1⟩
/-- All trees are in the list. -/
theorem ListOk.all {l : List Tree} (h : ListOk g w l) {x : Tree} (hx : IsW g w x) : x ∈ l := Classical.byContradiction fun hn => by
  have h1 := words_le h.ch.ok (l := x :: l) (List.pairwise_cons.2 ⟨fun y hy e => hn (e ▸ hy), h.nodup⟩) (fun y hy => by
    rcases List.mem_cons.1 hy with rfl | hy
    · exact hx
    · exact (h.mem hy).1)
  have h2 := h.len
  have h3 := h.few
  have hmC : manyC = 4611686018427387904 := rfl
  rw [List.length_cons] at h1
  omega
end

/-! ### In order -/
/-- Ahead of all that stand behind it, as the reference puts it in. -/
def insT (x : Tree) : List Tree → List Tree
  | [] => [x]
  | y :: l => if (y :: l).all (fun z => decide (0 < ordT z x)) then x :: y :: l else y :: insT x l
def sortT (l : List Tree) : List Tree := l.foldl (fun a x => insT x a) []
theorem insT_perm (x : Tree) : ∀ l, (insT x l).Perm (x :: l)
  | [] => List.Perm.refl _
  | y :: l => by
    rw [insT]
    split
    · exact List.Perm.refl _
    · exact ((insT_perm x l).cons y).trans (List.Perm.swap x y l)
def LeT (a b : Tree) : Prop := ordT a b ≤ 0
theorem insT_sorted (x : Tree) : ∀ l, l.Pairwise LeT → (insT x l).Pairwise LeT
  | [], _ => List.pairwise_cons.2 ⟨fun _ h => (nomatch h), List.Pairwise.nil⟩
  | y :: l, h => by
    rw [insT]
    split
    · rename_i hall
      simp only [List.all_eq_true, decide_eq_true_eq] at hall
      refine List.pairwise_cons.2 ⟨fun z hz => ?_, h⟩
      have := hall z hz
      have := ordT_neg x z
      unfold LeT; omega
    · rename_i hall
      obtain ⟨h1, h2⟩ := List.pairwise_cons.1 h
      refine List.pairwise_cons.2 ⟨fun z hz => ?_, insT_sorted x l h2⟩
      rcases List.mem_cons.1 ((insT_perm x l).mem_iff.1 hz) with rfl | hz
      · refine Classical.byContradiction fun hn => hall ?_
        simp only [List.all_eq_true, decide_eq_true_eq]
        intro q hq
        rcases List.mem_cons.1 hq with rfl | hq
        · unfold LeT at hn; omega
        · have h3 := h1 q hq
          unfold LeT at h3 hn
          refine Classical.byContradiction fun h4 => hn (ordT_trans y q z h3 (by omega))
      · exact h1 z hz
theorem foldl_perm : ∀ (l a : List Tree), (l.foldl (fun a x => insT x a) a).Perm (a ++ l)
  | [], a => by rw [List.append_nil]; exact List.Perm.refl _
  | x :: l, a => by
    rw [List.foldl_cons]
    refine (foldl_perm l _).trans ?_
    refine ((insT_perm x a).append_right l).trans ?_
    exact (List.perm_middle).symm
theorem foldl_sorted : ∀ (l a : List Tree), a.Pairwise LeT → (l.foldl (fun a x => insT x a) a).Pairwise LeT
  | [], a, h => h
  | x :: l, a, h => by rw [List.foldl_cons]; exact foldl_sorted l _ (insT_sorted x a h)
theorem sortT_perm (l : List Tree) : (sortT l).Perm l := by have := foldl_perm l []; rwa [List.nil_append] at this
theorem sortT_sorted (l : List Tree) : (sortT l).Pairwise LeT := foldl_sorted l [] List.Pairwise.nil
theorem sorted_unique : ∀ {a b : List Tree}, a.Perm b → a.Pairwise LeT → b.Pairwise LeT → a = b
  | [], b, h, _, _ => (List.nil_perm.1 h).symm
  | x :: a, [], h, _, _ => by have := h.length_eq; simp at this
  | x :: a, y :: b, h, h1, h2 => by
    obtain ⟨p1, p2⟩ := List.pairwise_cons.1 h1
    obtain ⟨q1, q2⟩ := List.pairwise_cons.1 h2
    have e : x = y := by
      rcases List.mem_cons.1 (h.mem_iff.1 (List.mem_cons_self (a := x))) with e | hx
      · exact e
      · rcases List.mem_cons.1 (h.mem_iff.2 (List.mem_cons_self (a := y))) with e | hy
        · exact e.symm
        · have h3 := p1 y hy
          have h4 := q1 x hx
          have h5 := ordT_neg x y
          unfold LeT at h3 h4
          exact ordT_zero x y (by omega)
    subst e
    rw [sorted_unique (List.Perm.cons_inv h) p2 q2]
theorem sortT_same {a b : List Tree} (h : a.Perm b) : sortT a = sortT b := sorted_unique ((sortT_perm a).trans (h.trans (sortT_perm b).symm)) (sortT_sorted a) (sortT_sorted b)
theorem perm_of {α : Type} [DecidableEq α] : ∀ {l m : List α}, l.Nodup → (∀ x ∈ l, x ∈ m) → m.length ≤ l.length → l.Perm m
  | [], m, _, _, h => by
    rw [List.eq_nil_of_length_eq_zero (l := m) (by simpa using h)]
  | x :: l, m, h, hs, hlen => by
    obtain ⟨h1, h2⟩ := List.pairwise_cons.1 h
    have hx : x ∈ m := hs x (by simp)
    have := perm_of (l := l) (m := m.erase x) h2 (fun y hy => (List.mem_erase_of_ne (fun e => h1 y hy e.symm)).2 (hs y (by simp [hy]))) (by rw [List.length_erase_of_mem hx]; simp only [List.length_cons] at hlen; omega)
    exact (this.cons x).trans (List.perm_cons_erase hx).symm
/-- Trees led back are the trees. -/
theorem lists_same {g h : Gram} {w : List Int} {l m : List Tree} (hl : ListOk g w l) (hm : ListOk h w m) (f : Tree → Tree) (f1 : ∀ x, IsW h w x → IsW g w (f x)) (f2 : ∀ x y, IsW h w x → IsW h w y → f x = f y → x = y) (hc : cntF h w = cntF g w) : sortT (m.map f) = sortT l := by
  classical
  refine sortT_same (perm_of ?_ (fun x hx => ?_) ?_)
  · unfold List.Nodup
    rw [List.pairwise_map]
    exact List.Pairwise.imp_of_mem (fun ha hb hne q => hne (f2 _ _ (hm.mem ha).1 (hm.mem hb).1 q)) hm.nodup
  · obtain ⟨y, hy, rfl⟩ := List.mem_map.1 hx
    exact hl.all (f1 y (hm.mem hy).1)
  · rw [List.length_map, hl.len, hm.len, hc]; exact Nat.le_refl _
end Go.Proofs.Yticnpbopelgmiaa
