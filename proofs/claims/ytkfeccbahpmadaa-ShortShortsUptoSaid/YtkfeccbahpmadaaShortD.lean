/-
  Sim: short, the reference: waysOf.
-/
import Derived.Test.YtkfeccbahpmadaaShortC
set_option linter.unusedVariables false
set_option linter.unusedSimpArgs false
set_option linter.unusedSectionVars false
namespace Go.Proofs.Ytkfeccbahpmadaa
open Go.RowKit
set_option maxRecDepth 100000
-- SimX

/-- Which nonterminals are known, once one was asked. -/
def refM (g : Gram) : Nat → Nat → List Bool → List Bool
  | 0, _, dn => dn
  | n + 1, v, dn => if dn.getD v false = true then dn else
      ((by_ g v).foldl (fun (s : Nat × List Bool) i => if 160 < s.1 then s else if unitOf (rightAt g i) < 0 then (s.1 + 1, s.2) else (min (s.1 + (ways g (unitOf (rightAt g i))).length) 161, refM g n (unitOf (rightAt g i)).toNat s.2)) (0, dn)).2.set v true
def refS (g : Gram) (n : Nat) (s : Nat × List Bool) (i : Int) : Nat × List Bool := if 160 < s.1 then s else if unitOf (rightAt g i) < 0 then (s.1 + 1, s.2) else (min (s.1 + (ways g (unitOf (rightAt g i))).length) 161, refM g n (unitOf (rightAt g i)).toNat s.2)
theorem refM_eq (g : Gram) (n v : Nat) (dn : List Bool) : refM g (n + 1) v dn = if dn.getD v false = true then dn else ((by_ g v).foldl (refS g n) (0, dn)).2.set v true := by rw [refM]; rfl
theorem foldl_take' {α : Type} {f : α → Int → α} {l : List Int} {a : α} {i : Nat} (h : i < l.length) : (l.take (i + 1)).foldl f a = f ((l.take i).foldl f a) l[i] := by
  rw [List.take_succ_eq_append_getElem h, List.foldl_append]; rfl
theorem foldl_inv {α : Type} {Q : α → Prop} {f : α → Int → α} (h : ∀ a i, Q a → Q (f a i)) : ∀ (l : List Int) (a : α), Q a → Q (l.foldl f a)
  | [], _, hq => hq
  | x :: l, a, hq => foldl_inv h l _ (h a x hq)
theorem refM_len (g : Gram) : ∀ (n v : Nat) (dn : List Bool), (refM g n v dn).length = dn.length
  | 0, _, _ => by rw [refM]
  | n + 1, v, dn => by
    rw [refM_eq]
    split
    · rfl
    · rw [List.length_set]
      refine foldl_inv (Q := fun s : Nat × List Bool => s.2.length = dn.length) (fun a i hq => ?_) (by_ g v) (0, dn) rfl
      unfold refS
      split
      · exact hq
      · split
        · exact hq
        · exact (refM_len g n _ _).trans hq
abbrev wD (g : Gram) (v : Nat) : D := .sl false 1 (((ways g v).take 161).map (ints false))
def knD (g : Gram) (dn : List Bool) : List D := (List.range dn.length).map fun k => if dn.getD k false = true then wD g k else .raw (.slice none 0 0)
theorem knD_len (g : Gram) (dn : List Bool) : (knD g dn).length = dn.length := by simp [knD]
theorem knD_set {g : Gram} {dn : List Bool} {v : Nat} (h : v < dn.length) : (knD g dn).set v (wD g v) = knD g (dn.set v true) := by
  refine List.ext_getElem (by simp [knD]) fun k h1 h2 => ?_
  have hk : k < dn.length := by simpa [knD] using h1
  rw [List.getElem_set]
  simp only [knD, List.getElem_map, List.getElem_range, List.getD_eq_getElem?_getD, List.getElem?_set]
  by_cases e : v = k
  · subst e; simp [h]
  · simp [e]
theorem knD_at {g : Gram} {dn : List Bool} {v : Nat} (h : v < (knD g dn).length) (hd : dn.getD v false = true) : (knD g dn)[v] = wD g v := by
  simp only [knD, List.getElem_map, List.getElem_range, hd, if_true]
/-- Ways so far, as far as one too many. -/
def owA (g : Gram) (bl : List Int) (j : Nat) : List (List Int) := (bl.take j).flatMap (wayOf g)
theorem owA_next {g : Gram} {bl : List Int} {j : Nat} (h : j < bl.length) : owA g bl (j + 1) = owA g bl j ++ wayOf g bl[j] := by
  unfold owA; rw [List.take_succ_eq_append_getElem h, List.flatMap_append]; simp
theorem in_end {A B : List (List Int)} {x : Int} {k : Nat} (h1 : A.length + k ≤ 161) (h2 : k ≤ (B.take 161).length) (h3 : k = (B.take 161).length ∨ A.length + k = 161) : A ++ ((B.take 161).take k).map (x :: ·) = (A ++ B.map (x :: ·)).take 161 := by
  rw [List.take_append, List.take_of_length_le (show A.length ≤ 161 by omega), ← List.map_take, List.take_take]
  congr 2
  rw [List.length_take] at h2 h3
  rcases h3 with h3 | h3
  · by_cases hB : B.length ≤ 161
    · rw [List.take_of_length_le (by omega), List.take_of_length_le (by omega)]
    · rw [show min k 161 = 161 - A.length by omega]
  · rw [show min k 161 = 161 - A.length by omega]
theorem refS_len {g : Gram} {n : Nat} {bl : List Int} {dn : List Bool} : ∀ j, j ≤ bl.length → ((bl.take j).foldl (refS g n) (0, dn)).1 = min (owA g bl j).length 161 := by
  intro j
  induction j with
  | zero => intro _; simp [owA]
  | succ j ih =>
    intro hj
    rw [foldl_take' (by omega), owA_next (by omega), List.length_append]
    have := ih (by omega)
    generalize (bl.take j).foldl (refS g n) (0, dn) = s at *
    unfold refS wayOf
    by_cases h1 : 160 < s.1
    · rw [if_pos h1]; omega
    · rw [if_neg h1]
      by_cases h2 : unitOf (rightAt g bl[j]) < 0
      · rw [if_pos h2, if_pos h2]; simp only [List.length_singleton]; omega
      · rw [if_neg h2, if_neg h2, List.length_map]; dsimp only; omega
theorem refS_stop {g : Gram} {n : Nat} : ∀ (l : List Int) (s : Nat × List Bool), 160 < s.1 → l.foldl (refS g n) s = s
  | [], _, _ => rfl
  | x :: l, s, h => by
    have e : refS g n s x = s := by unfold refS; rw [if_pos h]
    show l.foldl (refS g n) (refS g n s x) = s
    rw [e]; exact refS_stop l s h
theorem wys_len {g : Gram} : ∀ (n : Nat) (v : Int) (w : List Int), w ∈ wys g n v → w.length ≤ n
  | 0, v, w, h => by simp [wys] at h
  | n + 1, v, w, h => by
    rw [wys] at h
    obtain ⟨i, _, hi⟩ := List.mem_flatMap.1 h
    split at hi
    · rw [List.mem_singleton] at hi; subst hi; simp
    · obtain ⟨x, hx, rfl⟩ := List.mem_map.1 hi
      have := wys_len n _ x hx
      simp only [List.length_cons]; omega
theorem unit_neg {r : List Int} : unitOf r < 0 ↔ (r.length ≠ 1 ∨ r.getD 0 0 < 0) := by
  unfold unitOf
  by_cases h1 : r.length = 1
  · rw [if_pos h1]
    by_cases h0 : 0 ≤ r.getD 0 0
    · rw [if_pos h0]; omega
    · rw [if_neg h0]; omega
  · rw [if_neg h1]; omega
theorem unit_pos {r : List Int} (h : 0 ≤ unitOf r) : r.length = 1 ∧ unitOf r = r.getD 0 0 := by
  unfold unitOf at *
  by_cases h1 : r.length = 1
  · rw [if_pos h1] at h ⊢
    by_cases h0 : 0 ≤ r.getD 0 0
    · rw [if_pos h0] at h ⊢; exact ⟨h1, rfl⟩
    · rw [if_neg h0] at h; omega
  · rw [if_neg h1] at h; omega
abbrev wH (g : Gram) (dn : List Bool) : Hp := [(1001, .row 106 1 (knD g dn)), (1002, .row 4 1 (dn.map bD))]
set_option maxHeartbeats 4000000 in
theorem waysOf_gen {g : Gram} (hg : g.ok) (hc : cycL g = []) : ∀ (n : Nat) (v : Nat) (dn : List Bool) (t : Bool), rnk g v < n → (v : Int) < g.vars → dn.length = g.vars.toNat →
    ACalls Try.prog 71 [.d (gramD t g), I v, .own 1001 g.vars.toNat, .own 1002 g.vars.toNat] (wH g dn) (.d (wD g v)) (wH g (refM g n v dn)) := by
  intro n
  induction n with
  | zero => intro v dn t h; omega
  | succ n ih =>
  intro v dn t hn hv hdl
  have hvv := hg.vars
  have hrl := hg.rules
  have hlt : v < dn.length := by omega
  have hkl := knD_len g dn
  have hkv : v < (knD g dn).length := by omega
  have hgd : dn.getD v false = dn[v] := by simp [List.getD_eq_getElem?_getD, hlt]
  rw [refM_eq, hgd]
  by_cases hd : dn[v] = true
  · rw [if_pos hd]
    have hel : (knD g dn)[v]? = some (.sl false 1 (((ways g v).take 161).map (ints false))) := by rw [List.getElem?_eq_getElem hkv, knD_at hkv (by rw [hgd]; exact hd)]
    simp only [wH]
    generalize knD g dn = KD at *
    refine ACalls.intro (n := 102) Try.func71 rfl rfl (by simp) (by rfl) ?_
    simp only [argFr]
    repeat (first | refine wk ?_ | refine s_field (hr := ?_))
    --@
    exact fin
  · rw [if_neg hd]
    have hd' : dn[v] = false := by simpa using hd
    have hby := rulesOf_sim (t := t) (g := g) (v := (v : Int)) (by omega)
    have hbll := byl_le g v
    have hwe := ways_eq hg hc (v := (v : Int)) (by omega) hv
    have hin : ∀ i (h : i < (by_ g (v : Int)).length), ∃ k, ∃ hk : k < g.rules.length, (by_ g (v : Int))[i] = (k : Int) ∧ (by_ g (v : Int))[i] ∈ by_ g (v : Int) := fun i h => by
      obtain ⟨k, hk, e1, e2⟩ := by_mem.1 (List.getElem_mem h)
      exact ⟨k, hk, e1, List.getElem_mem h⟩
    have hinB : ∀ x ∈ by_ g (v : Int), 0 ≤ unitOf (rightAt g x) → 0 ≤ unitOf (rightAt g x) ∧ unitOf (rightAt g x) < g.vars ∧ rnk g (unitOf (rightAt g x)) < rnk g v := fun x hx hu => by
      have hs := unit_step hx hu
      obtain ⟨u0, u1⟩ := step_in hg (by omega) hv hs
      exact ⟨u0, u1, rnk_lt hg hc (by omega) hv hs⟩
    have hW : (ways g (v : Int)).take 161 = (owA g (by_ g (v : Int)) (by_ g (v : Int)).length).take 161 := by rw [hwe]; unfold owA; rw [List.take_length]
    have hsl := fun j hj => refS_len (g := g) (n := n) (bl := by_ g (v : Int)) (dn := dn) j hj
    have hs2 : ∀ j, (((by_ g (v : Int)).take j).foldl (refS g n) (0, dn)).2.length = dn.length := fun j => by
      refine foldl_inv (Q := fun s : Nat × List Bool => s.2.length = dn.length) (fun a i hq => ?_) _ (0, dn) rfl
      unfold refS
      split
      · exact hq
      · split
        · exact hq
        · exact (refM_len g n _ _).trans hq
    generalize by_ g (v : Int) = bl at *
    refine ACalls.intro (n := 102) Try.func71 rfl rfl (by simp) (by rfl) ?_
    simp only [argFr]
    simp only [wH]
    repeat (first | refine wk ?_ | refine s_field (hr := ?_))
    refine s_call [] (hA := hby) (hr := ?_)
    repeat (first | refine wk ?_ | refine s_field (hr := ?_))
    --@
    refine aw_nil 9 900 108 1 rfl rfl rfl ?_
    refine t_loop (X := Nat) (fun j => j ≤ bl.length) (fun j => [(11, I j), (10, .own 5 bl.length), (9, .own 900 ((owA g bl j).take 161).length), (4, .ptr 4 0), (3, .own 1002 g.vars.toNat), (2, .own 1001 g.vars.toNat), (1, I v)])
      (fun j => [(5, .row 3 1 (bl.map iD)), (900, .row 108 1 (((owA g bl j).take 161).map (ints false))), (4, gramBox t g), (1001, .row 106 1 (knD g ((bl.take j).foldl (refS g n) (0, dn)).2)), (1002, .row 4 1 (((bl.take j).foldl (refS g n) (0, dn)).2.map bD))]) (fun j => bl.length - j) 0 (Nat.zero_le _) ?_
    intro j hj
    have hsj := hsl j hj
    have hsj2 := hs2 j
    have hkl2 := knD_len g ((bl.take j).foldl (refS g n) (0, dn)).2
    by_cases hgo : j < bl.length ∧ ((owA g bl j).take 161).length ≤ 160
    · obtain ⟨hlt2, h160⟩ := hgo
      obtain ⟨k, hk, e1, hm⟩ := hin j hlt2
      have hft := foldl_take' (f := refS g n) (a := (0, dn)) hlt2
      have hrk : rightAt g bl[j] = g.rules[k].right := by rw [e1]; exact rightAt_nat hk
      have hrr := hg.right _ (List.getElem_mem hk)
      have hon := owA_next (g := g) hlt2
      have hA : (owA g bl j).length ≤ 160 := by rw [List.length_take] at h160; omega
      have hAt : (owA g bl j).take 161 = owA g bl j := List.take_of_length_le (by omega)
      rw [hAt]
      generalize (bl.take j).foldl (refS g n) (0, dn) = s at *
      obtain ⟨sl, sd⟩ := s
      dsimp only at hsj hsj2 hkl2 ⊢
      have hslv : ¬ 160 < sl := by omega
      generalize owA g bl j = A at *
      by_cases hu : unitOf (rightAt g bl[j]) < 0
      · have hE : wayOf g bl[j] = [[bl[j]]] := by unfold wayOf; rw [if_pos hu]
        have hst : refS g n (sl, sd) bl[j] = (sl + 1, sd) := by unfold refS; rw [if_neg hslv, if_pos hu]
        rw [hE] at hon
        rw [hst] at hft
        have hnl : (A ++ [[bl[j]]]).take 161 = A ++ [[bl[j]]] := List.take_of_length_le (by simp; omega)
        have e : A.map (ints false) ++ [.sl false 1 [iD bl[j]]] = ((owA g bl (j + 1)).take 161).map (ints false) := by rw [hon, hnl, List.map_append]; rfl
        have e3 : knD g sd = knD g ((bl.take (j + 1)).foldl (refS g n) (0, dn)).2 := by rw [hft]
        have e4 : sd.map bD = ((bl.take (j + 1)).foldl (refS g n) (0, dn)).2.map bD := by rw [hft]
        rw [hrk] at hu
        rcases unit_neg.1 hu with h1 | h1
        · (repeat (first | refine wk ?_ | refine s_field (hr := ?_)))
          (repeat (first | refine wkz ?_ | refine s_field (hr := ?_)))
          repeat (first | refine wk ?_ | refine s_field (hr := ?_))
          rw [e, e3, e4, List.length_map]
          exact t_next (j + 1)
        · by_cases hl1 : g.rules[k].right.length = 1
          · have h0 : g.rules[k].right[0] < 0 := by simpa [List.getD_eq_getElem?_getD, hl1] using h1
            repeat (first | refine wk ?_ | refine s_field (hr := ?_))
            rw [e, e3, e4, List.length_map]
            exact t_next (j + 1)
          · (repeat (first | refine wk ?_ | refine s_field (hr := ?_)))
            (repeat (first | refine wkz ?_ | refine s_field (hr := ?_)))
            repeat (first | refine wk ?_ | refine s_field (hr := ?_))
            rw [e, e3, e4, List.length_map]
            exact t_next (j + 1)
      · obtain ⟨u0, u1, ur⟩ := hinB _ hm (by omega)
        have hE : wayOf g bl[j] = (ways g (unitOf (rightAt g bl[j]))).map (bl[j] :: ·) := by unfold wayOf; rw [if_neg hu]
        have hst : refS g n (sl, sd) bl[j] = (min (sl + (ways g (unitOf (rightAt g bl[j]))).length) 161, refM g n (unitOf (rightAt g bl[j])).toNat sd) := by unfold refS; rw [if_neg hslv, if_neg hu]
        obtain ⟨u, hu2⟩ : ∃ u : Nat, unitOf (rightAt g bl[j]) = (u : Int) := ⟨(unitOf (rightAt g bl[j])).toNat, by omega⟩
        rw [hu2] at hE hst u0 u1 ur
        rw [Int.toNat_natCast] at hst
        obtain ⟨hl1, hun⟩ := unit_pos (r := g.rules[k].right) (by rw [← hrk, hu2]; omega)
        have hr0 : g.rules[k].right[0] = (u : Int) := by rw [← hrk, hu2, hrk] at hun; rw [hun]; simp [List.getD_eq_getElem?_getD, hl1]
        have h0n : ¬ g.rules[k].right[0] < 0 := by omega
        have hih := ih u sd t (by omega) u1 (by omega)
        rw [← hr0] at hih
        have hml := refM_len g n u sd
        have hwl : ∀ w ∈ ways g (u : Int), w.length ≤ 100 := fun w hw => by
          have h1 := wys_len _ _ _ hw
          have h2 := rnk_le hg u0 u1
          omega
        rw [hE] at hon
        rw [hst] at hft
        have e3 : knD g (refM g n u sd) = knD g ((bl.take (j + 1)).foldl (refS g n) (0, dn)).2 := by rw [hft]
        have e4 : (refM g n u sd).map bD = ((bl.take (j + 1)).foldl (refS g n) (0, dn)).2.map bD := by rw [hft]
        have hkl3 := knD_len g (refM g n u sd)
        generalize refM g n u sd = sz at *
        simp only [wH, wD] at hih
        have hend := fun kk h1 h2 h3 => in_end (A := A) (B := ways g (u : Int)) (x := bl[j]) (k := kk) h1 h2 h3
        rw [← hon] at hend
        have hBl : ∀ w ∈ (ways g (u : Int)).take 161, w.length ≤ 100 := fun w hw => hwl w (List.mem_of_mem_take hw)
        have hBn : ((ways g (u : Int)).take 161).length ≤ 161 := by rw [List.length_take]; omega
        generalize (ways g (u : Int)).take 161 = Bt at *
        generalize knD g sz = KZ at *
        generalize knD g sd = KY at *
        repeat (first | refine wk ?_ | refine s_field (hr := ?_))
        refine s_call [] (hA := hih) (hr := ?_)
        repeat (first | refine wk ?_ | refine s_field (hr := ?_))
        refine t_loop (X := Nat) (fun kk => kk ≤ Bt.length ∧ A.length + kk ≤ 161) (fun kk => [(14, I kk), (13, .d (.sl false 1 (Bt.map (ints false)))), (11, I j), (10, .own 5 bl.length), (9, .own 900 (A ++ (Bt.take kk).map (bl[j] :: ·)).length), (4, .ptr 4 0), (3, .own 1002 g.vars.toNat), (2, .own 1001 g.vars.toNat), (1, I v)])
          (fun kk => [(5, .row 3 1 (bl.map iD)), (900, .row 108 1 ((A ++ (Bt.take kk).map (bl[j] :: ·)).map (ints false))), (4, gramBox t g), (1001, .row 106 1 KZ), (1002, .row 4 1 (sz.map bD))]) (fun kk => Bt.length - kk) 0 ⟨Nat.zero_le _, by omega⟩ ?_ (hf := ?_) (hh := ?_)
        rotate_left
        · exact ⟨.of rfl, .of rfl, .of rfl, .of rfl, own_eq rfl (by simp), .of rfl, .of rfl, .of rfl, .of rfl, trivial⟩
        · exact ⟨.of rfl, row_eq rfl (by simp), .of rfl, .of rfl, .of rfl, trivial⟩
        rintro kk ⟨q1, q2⟩
        have hlk : (A ++ (Bt.take kk).map (bl[j] :: ·)).length = A.length + kk := by rw [List.length_append, List.length_map, List.length_take]; omega
        by_cases hgo2 : kk < Bt.length ∧ A.length + kk ≤ 160
        · obtain ⟨hlt3, h160b⟩ := hgo2
          have hbk := hBl _ (List.getElem_mem hlt3)
          have e : (A ++ (Bt.take kk).map (bl[j] :: ·)).map (ints false) ++ [.sl false 1 ([iD bl[j]] ++ Bt[kk].map iD)] = (A ++ (Bt.take (kk + 1)).map (bl[j] :: ·)).map (ints false) := by
            rw [List.take_succ_eq_append_getElem hlt3, List.map_append (l₁ := Bt.take kk), ← List.append_assoc]; simp only [List.map_append, List.map_cons, List.map_nil]; rfl
          generalize hQ : A ++ (Bt.take kk).map (bl[j] :: ·) = Q at *
          repeat (first | refine wk ?_ | refine s_field (hr := ?_))
          --@
          rw [e, List.length_map]
          exact t_next (kk + 1)
        · have hd3 := hend kk q2 q1 (by omega)
          have e : (A ++ (Bt.take kk).map (bl[j] :: ·)).map (ints false) = ((owA g bl (j + 1)).take 161).map (ints false) := by rw [hd3]
          have e6 := congrArg List.length hd3
          by_cases hk3 : kk < Bt.length
          · have hf : ¬ (A ++ (Bt.take kk).map (bl[j] :: ·)).length ≤ 160 := by omega
            generalize A ++ (Bt.take kk).map (bl[j] :: ·) = Q at *
            rw [e, e6]
            rw [e6] at hf
            generalize hZ : (owA g bl (j + 1)).take 161 = Z at *
            repeat (first | refine wk ?_ | refine s_field (hr := ?_))
            rw [e3, e4]
            subst hZ
            exact t_next (j + 1)
          · generalize A ++ (Bt.take kk).map (bl[j] :: ·) = Q at *
            rw [e, e6]
            (repeat (first | refine wkz ?_ | refine s_field (hr := ?_)))
            repeat (first | refine wk ?_ | refine s_field (hr := ?_))
            rw [e3, e4]
            exact t_next (j + 1)
    · have hend : ((owA g bl j).take 161) = (ways g (v : Int)).take 161 ∧ (bl.take j).foldl (refS g n) (0, dn) = bl.foldl (refS g n) (0, dn) := by
        by_cases hjl : j < bl.length
        · have h161 : 160 < ((owA g bl j).take 161).length := by omega
          rw [List.length_take] at h161
          refine ⟨?_, ?_⟩
          · rw [hW]
            have e : owA g bl bl.length = owA g bl j ++ (bl.drop j).flatMap (wayOf g) := by unfold owA; rw [List.take_length, ← List.flatMap_append, List.take_append_drop]
            rw [e, List.take_append, show 161 - (owA g bl j).length = 0 by omega]; simp
          · conv => rhs; rw [← List.take_append_drop j bl, List.foldl_append]
            exact (refS_stop _ _ (by rw [hsj]; omega)).symm
        · have : j = bl.length := by omega
          rw [hW, this, List.take_length]; exact ⟨rfl, rfl⟩
      rw [hend.1, hend.2]
      rw [hend.2] at hsj2 hkl2
      generalize (bl.foldl (refS g n) (0, dn)).2 = dz at *
      have hvz : v < dz.length := by omega
      have hvk : v < (knD g dz).length := by omega
      have e : (knD g dz).set v (.sl false 1 (((ways g v).take 161).map (ints false))) = knD g (dz.set v true) := knD_set hvz
      have e2 : (dz.map bD).set v (bD true) = (dz.set v true).map bD := by rw [List.map_set]
      have hfin : ¬ (j < bl.length) ∨ ¬ (((ways g (v : Int)).take 161).length ≤ 160) := by
        rw [hend.1] at hgo; omega
      simp only [wD]
      generalize knD g (dz.set v true) = KZ at *
      generalize knD g dz = KY at *
      generalize (ways g (v : Int)).take 161 = WW at *
      rcases hfin with hf | hf
      · by_cases hjl : j < bl.length
        · exact absurd hjl hf
        · (repeat (first | refine wkz ?_ | refine s_field (hr := ?_)))
          repeat (first | refine wk ?_ | refine s_field (hr := ?_))
          exact fin
      · by_cases hjl : j < bl.length
        · repeat (first | refine wk ?_ | refine s_field (hr := ?_))
          exact fin
        · (repeat (first | refine wkz ?_ | refine s_field (hr := ?_)))
          repeat (first | refine wk ?_ | refine s_field (hr := ?_))
          exact fin
end Go.Proofs.Ytkfeccbahpmadaa
