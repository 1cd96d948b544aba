/-
  From the reading of a law's arguments (DataW.trod) to D.Rep, with sizes from the bulk.
-/
import Derived.Test.YtpaeihifcmohkaaLaw
import Derived.Deep.Slices
namespace Go.Proofs.Ytpaeihifcmohkaa
open Go.ChangeShapes Go.WideShapes Go.ChangeAt Go.RowKit
open Go.Deep (open_slice)

section
variable {H : Type}
theorem bulk_pos (d : DataW H) : 1 ≤ Rows.uptoBulk d := by
  cases d with
  | lit l => cases l <;> simp [Rows.uptoBulk]
  | _ => simp [Rows.uptoBulk]
theorem bulk_len : ∀ (ds : List (DataW H)), ds.length ≤ Rows.uptoBulkAll ds
  | [] => by simp
  | d :: r => by have := bulk_pos d; have := bulk_len r; simp only [List.length_cons, Rows.uptoBulkAll]; omega
theorem bulk_mem : ∀ {ds : List (DataW H)} {d : DataW H}, d ∈ ds → Rows.uptoBulk d ≤ Rows.uptoBulkAll ds
  | [], _, h => by cases h
  | x :: r, d, h => by
    simp only [Rows.uptoBulkAll]
    rcases List.mem_cons.1 h with rfl | h
    · omega
    · have := bulk_mem h; omega

variable {enc : TypeId × Value → H} {P : Program} {w : World} {held : Bool}

theorem reps_of {α : Type} {f : α → D} {sz : Nat} (hfs : ∀ r, (f r).size = sz) (b off : Nat) : ∀ (n : Nat) (g : Nat → α) (C : Nat → List Value), (∀ i, i < n → (f (g i)).Rep [] w (C i) ∧ ∀ j, j < sz → w.cell? ⟨b, off + (i * sz + j), none⟩ = (C i)[j]?) →
    ∃ es, D.Reps [] w (((List.range n).map g).map f) es ∧ ∀ j, j < es.length → w.cell? ⟨b, off + j, none⟩ = es[j]?
  | 0, _, _, _ => ⟨[], by simp [D.Reps], by simp⟩
  | n + 1, g, C, h => by
    obtain ⟨es, h1, h2⟩ := reps_of hfs b off n g C (fun i hi => h i (by omega))
    obtain ⟨k1, k3⟩ := h n (by omega)
    have hl : es.length = n * sz := by
      have := D.Reps.length h1
      rw [D.sizes_eq (sz := sz) (by intro x hx; obtain ⟨r, _, rfl⟩ := List.mem_map.1 hx; exact hfs r)] at this
      simpa using this
    have hc : (C n).length = sz := (D.Rep.length k1).trans (hfs _)
    refine ⟨es ++ C n, ?_, fun j hj => ?_⟩
    · rw [List.range_succ, List.map_append, List.map_append]
      exact D.Reps.append h1 (by simpa using D.Reps.one k1)
    · rw [List.length_append] at hj
      by_cases hjl : j < es.length
      · rw [List.getElem?_append_left hjl]; exact h2 j hjl
      · rw [List.getElem?_append_right (by omega), ← k3 (j - es.length) (by omega), hl]
        congr 2
        omega

/-- A slice, its elements read by a lemma of theirs. -/
theorem rep_slice {t e : TypeId} {sz : Nat} {α : Type} [Inhabited α] (f : α → D) (φ : α → Nat) (ht : P.underlying t = some (.slice e)) (hc : P.cellsOf e = sz) (hsz : 0 < sz) (hfs : ∀ r, (f r).size = sz)
    (he : ∀ n cs' y, DataW.trod enc P w 0 (fun _ => true) held n e cs' = some y → ∃ r : α, (f r).Rep [] w cs' ∧ φ r ≤ Rows.uptoBulk y.1)
    {fuel : Nat} {cs : List Value} {x : DataW H × List MemPlace} (h : DataW.trod enc P w 0 (fun _ => true) held fuel t cs = some x) :
    ∃ rs : List α, (D.slice sz (rs.map f)).Rep [] w cs ∧ rs.length ≤ Rows.uptoBulk x.1 ∧ ∀ r ∈ rs, φ r ≤ Rows.uptoBulk x.1 := by
  rcases open_slice ht h with ⟨rfl, rfl⟩ | ⟨a, len, cap, m, n, D', Pl, rfl, _, hl, hm, hmm, rfl, hel⟩
  · refine ⟨[], ?_, by simp, by simp⟩
    simp only [D.Rep]
    exact ⟨none, 0, [], by simp, by simp, by simp [maxLen], by simp, by simp [D.Reps], by simp⟩
  · have hmc : m = cap := by simpa using hmm
    have hex : ∀ i, ∃ r : α × List Value, i < len → (f r.1).Rep [] w r.2 ∧ φ r.1 ≤ Rows.uptoBulk (D' i) ∧ w.cells? 0 (a.add (i * P.cellsOf e)) (P.cellsOf e) = some r.2 := fun i => by
      by_cases hi : i < len
      · obtain ⟨cs', h1, h2⟩ := hel i (by rw [hmc]; omega)
        obtain ⟨r, h3, h4⟩ := he n cs' _ h2
        exact ⟨(r, cs'), fun _ => ⟨h3, h4, h1⟩⟩
      · exact ⟨(default, []), fun h => absurd h hi⟩
    obtain ⟨G, hG⟩ := Classical.axiomOfChoice hex
    rw [hc] at hG
    have hb : 0 < len → ∃ b off, a = ⟨b, off, none⟩ ∧ b < w.heap.size := fun h0 => by
      obtain ⟨_, _, h3⟩ := hG 0 h0
      have hlt := World.cells?_block h3 hsz
      obtain ⟨_, h5, h6⟩ := World.cells?_some h3
      have h7 := h6 0 hsz
      obtain ⟨b, off, spot⟩ := a
      have h8 : ∃ u, (G 0).2[0]? = some u := ⟨_, List.getElem?_eq_getElem (by omega)⟩
      obtain ⟨u, hu⟩ := h8
      rw [hu] at h7
      have hspot : spot = none := by simpa [Addr.add] using World.cell?_spot h7
      subst hspot
      exact ⟨b, off, rfl, by simpa [Addr.add] using hlt⟩
    refine ⟨(List.range len).map fun i => (G i).1, ?_, ?_, ?_⟩
    · rcases Nat.eq_zero_or_pos len with rfl | h0
      · simp only [D.Rep]
        exact ⟨some a, cap, [], by simp, by simp, hm, by simp, by simp [D.Reps], by simp⟩
      · obtain ⟨b, off, rfl, hbs⟩ := hb h0
        obtain ⟨es, h1, h2⟩ := reps_of (f := f) hfs b off len (fun i => (G i).1) (fun i => (G i).2) (fun i hi => by
          obtain ⟨g1, _, g3⟩ := hG i hi
          obtain ⟨_, g5, g6⟩ := World.cells?_some g3
          refine ⟨g1, fun j hj => ?_⟩
          rw [← g6 j hj]
          congr 1
          simp only [Addr.add]
          split <;> split <;> simp_all <;> omega)
        simp only [D.Rep]
        refine ⟨some ⟨b, off, none⟩, cap, es, by simp, by simpa using hl, hm, ?_, h1, fun _ => ⟨b, off, rfl, by simp, hbs, h2⟩⟩
        intro x hx
        obtain ⟨r, _, rfl⟩ := List.mem_map.1 hx
        exact hfs r
    · have := bulk_len ((List.range len).map D')
      simp only [Rows.uptoBulk, List.length_map, List.length_range] at this ⊢
      omega
    · intro r hr
      obtain ⟨i, hi, rfl⟩ := List.mem_map.1 hr
      have hi' := List.mem_range.1 hi
      have h1 := (hG i hi').2.1
      have h2 := bulk_mem (ds := (List.range len).map D') (d := D' i) (List.mem_map.2 ⟨i, hi, rfl⟩)
      simp only [Rows.uptoBulk]
      omega
end
end Go.Proofs.Ytpaeihifcmohkaa
