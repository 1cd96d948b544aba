/-
  Definitions, plain: turned round.
-/
import Derived.Test.YtkfeccbahpmadaaDeD
set_option linter.unusedVariables false
set_option linter.unusedSimpArgs false
set_option linter.unusedSectionVars false
namespace Go.Proofs.Ytkfeccbahpmadaa
open Go.RowKit

theorem txT_append : ∀ (a b : List Dfn), txT (a ++ b) = txT a ++ txT b
  | [], b => by simp only [List.nil_append, txT, bs_nil]
  | d :: a, b => by simp only [List.cons_append, txT, txT_append a b, ByteArray.append_assoc]
theorem renF_iff {l : List Dfn} : (renF l).code = 0 ↔ 0 < l.length ∧ l.length ≤ 16 ∧ (∀ d ∈ l, defF d = 0) ∧ (txT l).size ≤ 6000 := by
  constructor
  · intro h
    obtain ⟨_, h1, h2, h3, h4⟩ := renF_good h
    exact ⟨h1, h2, fun d hd => by obtain ⟨j, hj, rfl⟩ := List.getElem_of_mem hd; exact h3 j hj, h4⟩
  · rintro ⟨h1, h2, h3, h4⟩
    rw [renF_ok h1 h2 (fun j h => h3 _ (List.getElem_mem h)), if_neg (by omega)]
theorem nodup_at {l : List ByteArray} : l.Nodup ↔ ∀ i, i < l.length → twiceAt l i = false := by
  constructor
  · intro h i hi
    rw [twice_at hi]
    refine decide_eq_false fun hm => ?_
    obtain ⟨j, hj, e⟩ := List.getElem_of_mem hm
    rw [List.length_take] at hj
    rw [List.getElem_take] at e
    have := (List.pairwise_iff_getElem.1 h) j i (by omega) hi (by omega)
    exact this e
  · intro h
    refine List.pairwise_iff_getElem.2 fun i j hi hj hij e => ?_
    have := h j hj
    rw [twice_at hj] at this
    refine of_decide_eq_false this ?_
    rw [← e]
    have hl : i < (l.take j).length := by rw [List.length_take]; omega
    have : (l.take j)[i] = l[i] := List.getElem_take
    rw [← this]
    exact List.getElem_mem hl
theorem defsF_iff {l : List Dfn} (h0 : (renF l).code = 0) : (defsF l).code = 0 ↔ (nms l).Nodup ∧ (∀ d ∈ l, unkn (nms l) d = false) ∧ (trms l).length ≤ 16 := by
  have hnl : (nms l).length = l.length := by unfold nms; rw [List.length_map]
  unfold defsF
  rw [if_pos h0]
  cases e1 : (List.range l.length).find? (twiceAt (nms l)) with
  | some i =>
    have h1 := List.find?_some e1
    have h2 := List.mem_range.1 (List.mem_of_find?_eq_some e1)
    refine ⟨fun h => (by cases h), fun h => ?_⟩
    have := nodup_at.1 h.1 i (by omega)
    rw [this] at h1; cases h1
  | none =>
    have hn : (nms l).Nodup := nodup_at.2 fun i hi => by
      rw [List.find?_eq_none] at e1
      have := e1 i (List.mem_range.2 (by omega))
      simpa using this
    dsimp only
    cases e2 : (List.range l.length).find? (fun i => unkn (nms l) (l.getD i dfl)) with
    | some i =>
      have h1 := List.find?_some e2
      have h2 := List.mem_range.1 (List.mem_of_find?_eq_some e2)
      rw [getD_at h2] at h1
      refine ⟨fun h => (by cases h), fun h => ?_⟩
      have := h.2.1 _ (List.getElem_mem h2)
      rw [this] at h1; cases h1
    | none =>
      have hu : ∀ d ∈ l, unkn (nms l) d = false := fun d hd => by
        obtain ⟨j, hj, rfl⟩ := List.getElem_of_mem hd
        rw [List.find?_eq_none] at e2
        have := e2 j (List.mem_range.2 hj)
        rw [getD_at hj] at this
        simpa using this
      dsimp only
      by_cases h16 : 16 < (trms l).length
      · rw [if_pos h16]
        exact ⟨fun h => (by cases h), fun h => (by omega)⟩
      · rw [if_neg h16]
        exact ⟨fun _ => ⟨hn, hu, by omega⟩, fun _ => rfl⟩
def rotD (l : List Dfn) (k : Nat) : List Dfn := l.drop k ++ l.take k
theorem rot_perm (l : List Dfn) (k : Nat) : (rotD l k).Perm l := by
  have h := List.perm_append_comm (l₁ := l.drop k) (l₂ := l.take k)
  rwa [List.take_append_drop] at h
section
variable (l : List Dfn) (k : Nat)
theorem rot_tx : (txT (rotD l k)).size = (txT l).size := by
  have h : txT l = txT (l.take k) ++ txT (l.drop k) := by rw [← txT_append, List.take_append_drop]
  rw [h, rotD, txT_append, ByteArray.size_append, ByteArray.size_append]; omega
theorem rot_ren : (renF (rotD l k)).code = 0 ↔ (renF l).code = 0 := by
  rw [renF_iff, renF_iff, (rot_perm l k).length_eq, rot_tx]
  constructor <;> rintro ⟨h1, h2, h3, h4⟩
  · exact ⟨h1, h2, fun d hd => h3 d ((rot_perm l k).mem_iff.2 hd), h4⟩
  · exact ⟨h1, h2, fun d hd => h3 d ((rot_perm l k).mem_iff.1 hd), h4⟩
theorem rot_nms : (nms (rotD l k)).Perm (nms l) := (rot_perm l k).map _
theorem rot_unkn (d : Dfn) : unkn (nms (rotD l k)) d = unkn (nms l) d := by
  unfold unkn
  congr 1
  funext s
  rw [decide_eq_decide.2 ((rot_nms l k).mem_iff (a := s))]
theorem rot_tmem (x : ByteArray) : x ∈ trms (rotD l k) ↔ x ∈ trms l := by
  rw [trms_mem, trms_mem]
  constructor <;> rintro ⟨d, hd, hx⟩
  · exact ⟨d, (rot_perm l k).mem_iff.1 hd, hx⟩
  · exact ⟨d, (rot_perm l k).mem_iff.2 hd, hx⟩
theorem rot_tlen : (trms (rotD l k)).length = (trms l).length :=
  ((List.perm_ext_iff_of_nodup (trms_nodup _) (trms_nodup _)).2 (rot_tmem l k)).length_eq
theorem rot_defs (h0 : (renF l).code = 0) : (defsF (rotD l k)).code = 0 ↔ (defsF l).code = 0 := by
  rw [defsF_iff h0, defsF_iff ((rot_ren l k).2 h0), (rot_nms l k).nodup_iff, rot_tlen]
  constructor <;> rintro ⟨h1, h2, h3⟩
  · exact ⟨h1, fun d hd => by rw [← rot_unkn l k]; exact h2 d ((rot_perm l k).mem_iff.2 hd), h3⟩
  · exact ⟨h1, fun d hd => by rw [rot_unkn]; exact h2 d ((rot_perm l k).mem_iff.1 hd), h3⟩
end
theorem rot_fit {l : List Dfn} (h : DefFit l) (k : Nat) : DefFit (rotD l k) := by
  have hp := rot_perm l k
  have hl := hp.length_eq
  exact ⟨⟨by have := h.len; omega, fun d hd => h.ex d (hp.mem_iff.1 hd), fun d hd => h.nm d (hp.mem_iff.1 hd), fun d hd => h.lng d (hp.mem_iff.1 hd)⟩, by have := h.l100; omega, fun d hd => h.e5 d (hp.mem_iff.1 hd)⟩
end Go.Proofs.Ytkfeccbahpmadaa
