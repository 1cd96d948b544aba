/-
  Sim: slices.Delete of one element of a row of the call's own (the shelf's contract, said by data).
-/
import Derived.Test.YtpaeihifcmohkaaFactsG
import Derived.Shelf.Slices.Delete
set_option linter.unusedVariables false
set_option linter.unusedSimpArgs false
namespace Go.Proofs
open Go.Shelf
def Try.delRen : Go.Shelf.Ren := ⟨fun | 23 => 134 | n => n, fun | 0 => 0 | 3 => 3 | 4 => 4 | 22 => 40 | n => n, fun | n => n⟩
theorem Try.delLay : Go.Proofs.Lays2.n23 Try.prog Try.delRen := {
  mixed := by kernel_rfl
  f23 := Try.func134.trans (congrArg some (by kernel_rfl))
  t0 := Try.underlying0
  a0 := Try.isAgg0
  z0 := Try.sizeOf0
  v0 := Try.zeroValue0
  t3 := Try.underlying3
  a3 := Try.isAgg3
  z3 := Try.sizeOf3
  v3 := Try.zeroValue3
  t4 := Try.underlying4
  a4 := Try.isAgg4
  z4 := Try.sizeOf4
  v4 := Try.zeroValue4
  t22 := Try.underlying40
  a22 := Try.isAgg40
  z22 := Try.sizeOf40
  v22 := Try.zeroValue40
  i3 := by kernel_rfl }
end Go.Proofs
namespace Go.Proofs.Ytpaeihifcmohkaa
open Go.RowKit Go.Sort
set_option maxRecDepth 100000

theorem dvals_ints : ∀ (xs : List Int), dvals (xs.map iD) = some (xs.map fun x => Value.int .i64 x)
  | [] => rfl
  | x :: xs => by simp [dvals, iD, dvals_ints xs]
theorem reps_ints {M : Bars} {w : World} : ∀ (xs : List Int), D.Reps M w (xs.map iD) (xs.map fun x => Value.int .i64 x)
  | [] => by simp [D.Reps]
  | x :: xs => by
    simp only [List.map_cons, D.Reps]
    exact ⟨[_], _, rfl, by simp [iD, D.Rep, Value.oneCell'], reps_ints xs⟩
theorem blk_dead (E : Env) (n k : Nat) : blkOf E [(1000, .dead n)] k = none := by
  unfold blkOf
  simp only [hget]
  cases Nat.beq 1000 k <;> rfl
theorem delete_sim {xs : List Int} {i : Nat} (hi : i < xs.length) (hl : xs.length ≤ 100000000 := by ((try simp only [List.length_map, List.length_append, List.length_cons, List.length_nil, List.length_replicate, List.length_set, List.length_take, List.length_drop]); first | omega | assumption)) :
    ACalls Try.prog 134 [.own 1000 xs.length, I i, I ((i : Int) + 1)] [(1000, .row 3 1 (xs.map iD))] (.d (ints false (xs.take i ++ xs.drop (i + 1)))) [(1000, .dead xs.length)] := by
  refine ⟨⟨_, Try.func134, rfl, rfl⟩, fun E w us o H hr hk ho hs => ?_⟩
  simp only [V.Reps, V.Rep, D.RepV, D.Rep, List.cons.injEq, and_true] at hr
  obtain ⟨u, _, rfl, ⟨m, v1, v2, v3, v4⟩, _, _, rfl, ⟨rfl, _⟩, _, _, rfl, ⟨rfl, _⟩, rfl⟩ := hr
  have hk1 : hget [(1000, Ob.row 3 1 (xs.map iD))] 1000 = some (.row 3 1 (xs.map iD)) := rfl
  have e1 : m = xs.length := verAny_one v1 (.inl ⟨_, _, _, hk1, by simp⟩)
  have hu := v4 e1.symm
  subst hu
  have hrow := H.obs 1000 _ hk1
  simp only [ObRep] at hrow
  obtain ⟨_, ⟨a, _, hn⟩ | ⟨g, off, cap, cur, hv, h0, hg, hlc, hcm, hcs, hreps⟩⟩ := hrow
  · have : xs = [] := by simpa using hn
    subst this; simp at hi
  rw [List.length_map] at hv hlc
  have hcells := dvals_rep hreps (dvals_ints xs)
  simp only [List.length_map, Nat.mul_one] at hcells
  have hH : Go.Sort.Holds encI w g off xs.toArray := fun j hj => by
    have hj' : j < xs.length := by simpa using hj
    constructor
    · simp only [World.cell?, hg]
      have h1 : ((cur.toList.drop off).take xs.length)[j]? = (xs.map fun x => Value.int .i64 x)[j]? := by rw [hcells]
      rw [List.getElem?_take, if_pos hj', List.getElem?_drop] at h1
      simp only [Array.getElem?_toList] at h1
      rw [h1]
      simp [hj']
    · simp only [World.frozen?, hg]; simp
  have hc := Go.Proofs.Any.slices_Delete_int Try.delLay g off cap i (i + 1) xs w hH hlc (by unfold maxLen at hcm; omega) (by omega) (by omega)
  have hlive : Live E [(1000, Ob.row 3 1 (xs.map iD))] g := ⟨1000, by unfold blkOf; rw [hk1, hv]; simp [obOf]; omega⟩
  rw [hv]
  refine hc.mono ?_
  rintro e w' ⟨rfl, q, rfl⟩
  have hH2 := holds_putRow encI (Sort.ahead w q) g off xs.toArray (xs.take i ++ xs.drop (i + 1) ++ List.replicate (i + 1 - i) 0).toArray (Go.Sort.holds_ahead encI w q g off _ hH) (by simp; omega)
  have hsz : g < w.heap.size := (Array.getElem?_eq_some_iff.1 hg).1
  have hll : (xs.take i ++ xs.drop (i + 1)).length = xs.length - 1 := by simp; omega
  refine ⟨E, _, rfl, ⟨?_, ?_, ?_⟩, ?_, by simp [V.keys], ⟨rfl, rfl, rfl, ?_, ?_⟩, ?_, ?_⟩
  · intro k ob hk
    simp only [hget] at hk
    split at hk
    · cases hk; trivial
    · cases hk
  · intro k k' b h1
    rw [blk_dead] at h1; cases h1
  · intro k ob hk j hj
    simp only [hget] at hk
    split at hk
    · cases hk; simp [Ob.keys] at hj
    · cases hk
  · simp only [V.Rep, D.RepV, D.Rep]
    refine ⟨_, cap, (xs.take i ++ xs.drop (i + 1)).map fun x => Value.int .i64 x, ?_, ?_, hcm, ?_, reps_ints _, fun _ => ⟨g, off, rfl, ?_, by simpa [putRow, mapBlock, Sort.ahead] using hsz, fun j hj => ?_⟩⟩
    · rw [List.length_map, hll, show xs.length - (i + 1 - i) = xs.length - 1 by omega]
    · rw [List.length_map, hll]; omega
    · intro x hx
      obtain ⟨y, _, rfl⟩ := List.mem_map.1 hx
      rfl
    · rintro (⟨k, hk⟩ | hob)
      · rw [blk_dead] at hk; cases hk
      · exact (ho _ _ hob).2 hlive
    · have hj' : j < (xs.take i ++ xs.drop (i + 1)).length := by simpa using hj
      have := (hH2 j (by simp at hj' ⊢; omega)).1
      rw [this]
      have hj2 : j < (xs.take i ++ xs.drop (i + 1) ++ List.replicate (i + 1 - i) 0).length := by simp at hj' ⊢; omega
      rw [getElem!_pos _ _ (by simpa using hj2)]
      simp only [List.getElem?_map]
      rw [List.getElem?_eq_getElem hj']
      simp only [Option.map_some, List.getElem_toArray]
      rw [List.getElem_append_left hj']
  · simp [putRow, mapBlock, Sort.ahead]
  · intro k hk hn
    have hne : g ≠ k := fun e => hn (e ▸ hlive)
    simp only [putRow, mapBlock, Sort.ahead, Array.getElem?_modify]
    rw [if_neg hne]
  · intro k hk1000 hks
    simp only [hget] at hks
    split at hks
    · rename_i hb
      have := Nat.eq_of_beq_eq_true hb
      subst this
      refine ⟨rfl, rfl, fun m hm => ⟨m, .inr (.inr ?_), Nat.le_refl _, fun _ => rfl⟩, fun sz n hv => ?_⟩
      · have : m = xs.length := verAny_one hm (.inl ⟨_, _, _, hk1, by simp⟩)
        rw [this]; simp [hget]
      · obtain ⟨_, _, h1, _⟩ := hv; simp [hget] at h1
    · cases hks
  · intro k b hb
    rw [blk_dead] at hb; cases hb
end Go.Proofs.Ytpaeihifcmohkaa
