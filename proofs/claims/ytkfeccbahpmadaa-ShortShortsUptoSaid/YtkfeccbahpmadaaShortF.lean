/-
  Short, plain: what comes is a step; made once more it is the same.
-/
import Derived.Test.YtkfeccbahpmadaaShortE
set_option linter.unusedVariables false
set_option linter.unusedSimpArgs false
set_option linter.unusedSectionVars false
namespace Go.Proofs.Ytkfeccbahpmadaa
open Go.RowKit

theorem lastW_mem {w : List Int} (h : w ≠ []) : lastW w ∈ w := by
  have hl : 0 < w.length := List.length_pos_iff.2 h
  rw [lastW_at hl]
  exact List.getElem_mem _
section
variable {g : Gram} (hg : g.ok) (hc : cycL g = [])
include hg hc
theorem way_ne {v : Int} (h0 : 0 ≤ v) (h1 : v < g.vars) {w : List Int} (hw : w ∈ ways g v) : w ≠ [] := by
  rw [ways_eq hg hc h0 h1] at hw
  obtain ⟨k, _, hk⟩ := List.mem_flatMap.1 hw
  exact wayOf_ne hk
theorem way_last {v : Int} (h0 : 0 ≤ v) (h1 : v < g.vars) {w : List Int} (hw : w ∈ ways g v) : ∃ k, ∃ h : k < g.rules.length, lastW w = ((k : Nat) : Int) ∧ rightAt g (lastW w) = g.rules[k].right := by
  have hne := way_ne hg hc h0 h1 hw
  obtain ⟨k, hk, e⟩ := ways_in _ _ _ hw _ (lastW_mem hne)
  exact ⟨k, hk, e, by rw [e, rightAt_nat hk]⟩
end
theorem way_unit {g : Gram} : ∀ (n : Nat) (v : Int) (w : List Int), w ∈ wys g n v → unitOf (rightAt g (lastW w)) < 0
  | 0, v, w, h => by simp [wys] at h
  | n + 1, v, w, h => by
    rw [wys] at h
    obtain ⟨i, _, hi⟩ := List.mem_flatMap.1 h
    split at hi
    · rename_i hu
      rw [List.mem_singleton] at hi; subst hi; exact hu
    · obtain ⟨x, hx, rfl⟩ := List.mem_map.1 hi
      have ih := way_unit n _ x hx
      have hne : x ≠ [] := by
        intro e
        subst e
        cases n with
        | zero => simp [wys] at hx
        | succ n =>
          rw [wys] at hx
          obtain ⟨j, _, hj⟩ := List.mem_flatMap.1 hx
          split at hj
          · simp at hj
          · obtain ⟨y, _, hy⟩ := List.mem_map.1 hj
            cases hy
      rw [lastW_cons i hne]; exact ih
theorem usL_way (m : Int) {g : Gram} : ∀ (w : List Int), w ≠ [] → (∀ x ∈ w, 0 ≤ x ∧ x < m) → usL m (wayF g w) (List.replicate (kN g (lastW w)) 0) = (true, List.replicate (kN g (lastW w)) 1)
  | [], h, _ => absurd rfl h
  | [r], _, h => by
    have := h r (by simp)
    rw [wayF, nodeF, usL, usF, if_pos rfl, if_neg (by omega), show lastW [r] = r from rfl, usL_hole]
    simp [usL]
  | r :: r2 :: rest, _, h => by
    have h0 := h r (by simp)
    have ih := usL_way m (g := g) (r2 :: rest) (by simp) (fun x hx => h x (List.mem_cons_of_mem _ hx))
    rw [wayF, lastW_cons r (by simp), usL, usF, if_pos rfl, if_neg (by omega), ih]
    simp [usL]
theorem part_way {g : Gram} {v : Int} {w : List Int} (hne : w ≠ []) (hw : ∀ x ∈ w, ∃ k, ∃ _ : k < g.rules.length, x = ((k : Nat) : Int)) (hs : fszs (wayF g w) ≤ 60) : partFault g (wayF g w) (ruleW g v w).right = 0 := by
  have h2 := usL_way g.rules.length (g := g) w hne (fun x hx => by obtain ⟨k, hk, e⟩ := hw x hx; omega)
  rw [partFault, if_neg (by rw [wayF_cp]; omega), if_pos]
  rw [okUse]
  show ((usL _ _ (List.replicate (kN g (lastW w)) 0)).1 && (usL _ _ (List.replicate (kN g (lastW w)) 0)).2.all _) = true
  rw [h2]; simp
theorem parts_maps {g : Gram} {v : Int} : ∀ {l : List (List Int)}, (∀ w ∈ l, partFault g (wayF g w) (ruleW g v w).right = 0) → PartsOk g (l.map (wayF g)) (l.map (ruleW g v))
  | [], _ => .nil
  | w :: l, h => .cons (h w (by simp)) (parts_maps (fun x hx => h x (by simp [hx])))
theorem sgood_all {g : Gram} {v : Nat} (h : sgood g v = true) : (srules g v).length + (ways g v).length ≤ 160 ∧ ∀ w ∈ ways g v, fszs (wayF g w) ≤ 60 := by
  rw [sgood, Bool.and_eq_true, List.all_eq_true] at h
  exact ⟨of_decide_eq_true h.1, fun w hw => of_decide_eq_true (h.2 w hw)⟩
section
variable {g : Gram} (hg : g.ok) (hc : cycL g = [])
include hg hc
theorem parts_short : ∀ k, k ≤ g.vars.toNat → (∀ u, u < k → sgood g u = true) → PartsOk g (sfrags g k) (srules g k)
  | 0, _, _ => .nil
  | k + 1, hk, h => by
    have ih := parts_short k (by omega) (fun u hu => h u (by omega))
    rw [srules_succ, sfrags_succ]
    obtain ⟨_, h2⟩ := sgood_all (h k (by omega))
    refine ih.append (parts_maps fun w hw => part_way (way_ne hg hc (by omega) (by omega) hw) (ways_in _ _ _ hw) (h2 w hw))
theorem srules_mem : ∀ k, k ≤ g.vars.toNat → ∀ r ∈ srules g k, (0 ≤ r.left ∧ r.left < k) ∧ (∃ q ∈ g.rules, r.right = q.right) ∧ unitOf r.right < 0
  | 0, _, r, h => by simp [srules] at h
  | k + 1, hk, r, h => by
    rw [srules_succ] at h
    rcases List.mem_append.1 h with h | h
    · have := srules_mem k (by omega) r h
      exact ⟨by omega, this.2⟩
    · obtain ⟨w, hw, rfl⟩ := List.mem_map.1 h
      obtain ⟨j, hj, _, e⟩ := way_last hg hc (v := (k : Int)) (by omega) (by omega) hw
      refine ⟨by simp only [ruleW]; omega, ⟨_, List.getElem_mem hj, e⟩, way_unit _ _ _ hw⟩
theorem srules_le (h : ∀ u, u < g.vars.toNat → sgood g u = true) : (srules g g.vars.toNat).length ≤ 160 := by
  have hv := hg.vars1
  obtain ⟨n, hn⟩ : ∃ n, g.vars.toNat = n + 1 := ⟨g.vars.toNat - 1, by omega⟩
  have := (sgood_all (h n (by omega))).1
  rw [hn, srules_succ, List.length_append, List.length_map]; omega
theorem short_ok (h : ∀ u, u < g.vars.toNat → sgood g u = true) : (shortOut g).g.ok := by
  have hm := srules_mem hg hc g.vars.toNat (Nat.le_refl _)
  have hv := hg.vars1
  refine ⟨hg.vars1, hg.vars, hg.terms0, hg.terms, hg.start0, hg.start, srules_le hg hc h, fun r hr => ?_, fun r hr => (hm r hr).1.1, fun r hr => ?_, fun r hr s hs => ?_, fun r hr s hs => ?_⟩
  · obtain ⟨q, hq, e⟩ := (hm r hr).2.1
    rw [e]; exact hg.right q hq
  · have := (hm r hr).1.2
    show r.left < g.vars
    omega
  · obtain ⟨q, hq, e⟩ := (hm r hr).2.1
    rw [e] at hs; exact hg.lo q hq s hs
  · obtain ⟨q, hq, e⟩ := (hm r hr).2.1
    rw [e] at hs; exact hg.hi q hq s hs
theorem short_step (h : ∀ u, u < g.vars.toNat → sgood g u = true) : stepFault g (shortOut g) = ⟨0, 0⟩ :=
  step_ok hg (short_ok hg hc h) rfl (parts_short hg hc _ (Nat.le_refl _) h)
theorem sfrags_small : ∀ k, k ≤ g.vars.toNat → (∀ u, u < k → sgood g u = true) → ∀ l ∈ sfrags g k, fszs l ≤ 60
  | 0, _, _, l, hl => by simp [sfrags] at hl
  | k + 1, hk, h, l, hl => by
    rw [sfrags_succ] at hl
    rcases List.mem_append.1 hl with hl | hl
    · exact sfrags_small k (by omega) (fun u hu => h u (by omega)) l hl
    · obtain ⟨w, hw, rfl⟩ := List.mem_map.1 hl
      exact (sgood_all (h k (by omega))).2 w hw
end
theorem shortS_cases (g : Gram) : ((gramFault g).code ≠ 0 ∧ shortS g = (zeroStep, gramFault g)) ∨ (shortS g = (zeroStep, ⟨10, -1⟩)) ∨ (∃ v : Nat, shortS g = (zeroStep, ⟨6, (v : Int)⟩)) ∨
    (g.ok ∧ cycL g = [] ∧ (∀ u, u < g.vars.toNat → sgood g u = true) ∧ shortS g = (shortOut g, ⟨0, 0⟩)) := by
  by_cases h : (gramFault g).code = 0
  · by_cases hcy : 0 < (cycL g).length
    · exact .inr (.inl (by rw [shortS, if_pos h, if_pos hcy]))
    · cases hf : (List.range g.vars.toNat).find? (fun v => !sgood g v) with
      | some v => exact .inr (.inr (.inl ⟨v, by rw [shortS, if_pos h, if_neg hcy, hf]⟩))
      | none =>
        refine .inr (.inr (.inr ⟨gram_ok h, List.length_eq_zero_iff.1 (by omega), fun u hu => ?_, by rw [shortS, if_pos h, if_neg hcy, hf]⟩))
        rw [List.find?_eq_none] at hf
        have := hf u (List.mem_range.2 hu)
        simpa using this
  · exact .inl ⟨h, by rw [shortS, if_neg h]⟩
theorem zeroStep_fitS : zeroStep.fit := ⟨⟨by decide, fun r hr => by simp [zeroStep] at hr⟩, by decide, fun l hl => by simp [zeroStep] at hl, by decide⟩
theorem shortS_fit (g : Gram) : (shortS g).1.fit := by
  rcases shortS_cases g with ⟨_, h⟩ | h | ⟨v, h⟩ | ⟨hg, hc, ha, h⟩
  · rw [h]; exact zeroStep_fitS
  · rw [h]; exact zeroStep_fitS
  · rw [h]; exact zeroStep_fitS
  · rw [h]
    have h1 := srules_le hg hc ha
    have h2 := sfr_len g g.vars.toNat
    exact ⟨(short_ok hg hc ha).fit, (by show (sfrags g g.vars.toNat).length ≤ _; omega), fun l hl => Nat.le_trans (sfrags_small hg hc _ (Nat.le_refl _) ha l hl) (by decide), by simp [shortOut, cnts]⟩
theorem shortS_step {g : Gram} (h0 : (shortS g).2.code = 0) : stepFault g (shortS g).1 = ⟨0, 0⟩ := by
  rcases shortS_cases g with ⟨h1, h⟩ | h | ⟨v, h⟩ | ⟨hg, hc, ha, h⟩
  · rw [h] at h0; exact absurd h0 h1
  · rw [h] at h0; cases h0
  · rw [h] at h0; cases h0
  · rw [h]; exact short_step hg hc ha

/-! ### Made once more -/
theorem byR_count (v : Int) : ∀ (rs : List Rule) (i : Nat), (byR rs v i).length = rs.countP (fun r => decide (r.left = v))
  | [], i => by simp [byR]
  | r :: rs, i => by
    rw [byR, List.countP_cons]
    split
    · rename_i h; rw [List.length_cons, byR_count v rs (i + 1)]; simp [h]
    · rename_i h; rw [byR_count v rs (i + 1)]; simp [h]
theorem countP_lt (k : Nat) : ∀ (rs : List Rule), (∀ r ∈ rs, 0 ≤ r.left) → rs.countP (fun r => decide (r.left < ((k + 1 : Nat) : Int))) = rs.countP (fun r => decide (r.left < (k : Int))) + rs.countP (fun r => decide (r.left = (k : Int)))
  | [], _ => by simp
  | r :: rs, h => by
    have ih := countP_lt k rs (fun x hx => h x (by simp [hx]))
    have h0 := h r (by simp)
    rw [List.countP_cons, List.countP_cons, List.countP_cons, ih]
    by_cases h1 : r.left < (k : Int)
    · rw [decide_eq_true h1, decide_eq_true (show r.left < ((k + 1 : Nat) : Int) by omega), decide_eq_false (show ¬ r.left = (k : Int) by omega)]; simp; omega
    · by_cases h2 : r.left = (k : Int)
      · rw [decide_eq_false h1, decide_eq_true (show r.left < ((k + 1 : Nat) : Int) by omega), decide_eq_true h2]; simp; omega
      · rw [decide_eq_false h1, decide_eq_false (show ¬ r.left < ((k + 1 : Nat) : Int) by omega), decide_eq_false h2]; simp
theorem ways_alone {g : Gram} (hu : ∀ r ∈ g.rules, unitOf r.right < 0) (v : Int) : ways g v = (by_ g v).map fun i => [i] := by
  unfold ways
  rw [wys, List.map_eq_flatMap, List.flatMap_def, List.flatMap_def]
  congr 1
  refine List.map_congr_left fun i hi => ?_
  obtain ⟨k, hk, rfl, _⟩ := by_mem.1 hi
  rw [rightAt_nat hk, if_pos (hu _ (List.getElem_mem hk))]
theorem srules_count {g : Gram} (hu : ∀ r ∈ g.rules, unitOf r.right < 0) (h0 : ∀ r ∈ g.rules, 0 ≤ r.left) : ∀ k : Nat, (srules g k).length = g.rules.countP (fun r => decide (r.left < (k : Int)))
  | 0 => by
    have e : g.rules.countP (fun r => decide (r.left < ((0 : Nat) : Int))) = 0 := by
      rw [List.countP_eq_zero]
      intro r hr
      have := h0 r hr
      simp; omega
    rw [e]; simp [srules]
  | k + 1 => by
    rw [srules_succ, List.length_append, List.length_map, ways_alone hu, List.length_map, by_, byR_count, srules_count hu h0 k, countP_lt k _ h0]
theorem short_again {g : Gram} (hg : g.ok) (hc : cycL g = []) (ha : ∀ u, u < g.vars.toNat → sgood g u = true) :
    shortS (shortOut g).g = (zeroStep, ⟨10, -1⟩) ∨ (shortS (shortOut g).g = (shortOut (shortOut g).g, ⟨0, 0⟩) ∧ (srules (shortOut g).g g.vars.toNat).length = (srules g g.vars.toNat).length) := by
  have hk := short_ok hg hc ha
  have hm := srules_mem hg hc g.vars.toNat (Nat.le_refl _)
  have hl := srules_le hg hc ha
  have hv := hg.vars1
  by_cases hcy : 0 < (cycL (shortOut g).g).length
  · exact .inl (by rw [shortS, if_pos (by rw [hk.fault]), if_pos hcy])
  · have hu : ∀ r ∈ (shortOut g).g.rules, unitOf r.right < 0 := fun r hr => (hm r hr).2.2
    have h0 : ∀ r ∈ (shortOut g).g.rules, 0 ≤ r.left := fun r hr => (hm r hr).1.1
    have hcnt := srules_count hu h0
    have hall : (srules (shortOut g).g g.vars.toNat).length = (srules g g.vars.toNat).length := by
      rw [hcnt]
      show (srules g g.vars.toNat).countP _ = _
      rw [List.countP_eq_length]
      intro r hr
      have := (hm r hr).1.2
      exact decide_eq_true this
    have hgood : ∀ u, u < (shortOut g).g.vars.toNat → sgood (shortOut g).g u = true := fun u hu2 => by
      rw [sgood, Bool.and_eq_true, List.all_eq_true]
      refine ⟨decide_eq_true ?_, fun w hw => ?_⟩
      · have h1 := hcnt (u + 1)
        rw [srules_succ, List.length_append, List.length_map] at h1
        have h2 := List.countP_le_length (p := fun r : Rule => decide (r.left < ((u + 1 : Nat) : Int))) (l := (shortOut g).g.rules)
        have h3 : (shortOut g).g.rules.length ≤ 160 := hl
        omega
      · rw [ways_alone hu] at hw
        obtain ⟨i, _, rfl⟩ := List.mem_map.1 hw
        have := kN_le hk i
        rw [wayF, nodeF_size]
        exact decide_eq_true (by omega)
    exact .inr ⟨by rw [shortS, if_pos (by rw [hk.fault]), if_neg hcy, find_none hgood], hall⟩
end Go.Proofs.Ytkfeccbahpmadaa
