/-
  Chart, the reference: CountsOf.
-/
import Derived.Test.YtflgmalhpglklaaChA
import Derived.Test.YtflgmalhpglklaaSmN
set_option linter.unusedVariables false
set_option linter.unusedSimpArgs false
set_option linter.unusedSectionVars false
namespace Go.Proofs.Ytflgmalhpglklaa
open Go.RowKit
set_option maxRecDepth 100000
-- SimX

theorem rowsT_toD (N : Cube) (L v k : Nat) : Tr.toDs (rowsT N L v k) = (List.range k).map fun i => .sl false 1 (natsD L (fun j => N v i j)) := by rw [Tr.toDs_map]; simp [rowsT, rowT, Tr.toD]
theorem cubeT_toD (N : Cube) (L V : Nat) : Tr.toDs (cubeT N L V) = cubeD false N V L := by
  rw [Tr.toDs_map]
  simp only [cubeT, cubeD, List.map_map]
  exact List.map_congr_left fun v _ => by simp only [Function.comp, planeT, Tr.toD, rowsT_toD]; rfl
/-- So many rules of a round. -/
def accC (g : Gram) (w : List Int) (M : Nat) (N : Cube) (k : Nat) : Cube := fun v i j => if i ≤ j ∧ j ≤ w.length then min M (((g.rules.take k).filter fun r => decide (r.left = (v : Int))).map fun r => wcn N w r.right i j).sum else 0
def midC (g : Gram) (w : List Int) (M : Nat) (N : Cube) (k a b : Nat) : Cube := fun v i j => if i < a ∨ (i = a ∧ j < b) then accC g w M N (k + 1) v i j else accC g w M N k v i j
section
variable {g : Gram} {w : List Int} {M : Nat} {N : Cube}
theorem accC_zero : accC g w M N 0 = zeroC := by funext v i j; unfold accC; simp
theorem accC_le (k v i j : Nat) : accC g w M N k v i j ≤ M := by unfold accC; split <;> omega
theorem midC_le (k a b v i j : Nat) : midC g w M N k a b v i j ≤ M := by unfold midC; split <;> exact accC_le _ _ _ _
theorem accC_all (hg : ∀ r ∈ g.rules, r.left < g.vars) : accC g w M N g.rules.length = rnd g w M N := by
  funext v i j
  unfold accC rnd allR
  rw [List.take_length]
  by_cases hv : (v : Int) < g.vars
  · simp [hv]
  · rw [if_neg (show ¬ ((v : Int) < g.vars ∧ i ≤ j ∧ j ≤ w.length) from fun h => hv h.1)]
    have : (g.rules.filter fun r => decide (r.left = (v : Int))) = [] := List.filter_eq_nil_iff.2 fun r hr => by have := hg r hr; simp; omega
    rw [this]; simp
theorem accC_other {k v i j : Nat} (hk : k < g.rules.length) (hv : g.rules[k].left ≠ (v : Int)) : accC g w M N (k + 1) v i j = accC g w M N k v i j := by
  unfold accC
  rw [List.take_succ_eq_append_getElem hk, List.filter_append]
  simp [hv]
theorem accC_this {k v i j : Nat} (hk : k < g.rules.length) (hv : g.rules[k].left = (v : Int)) (hij : i ≤ j) (hj : j ≤ w.length) : accC g w M N (k + 1) v i j = min M (accC g w M N k v i j + min M (wcn N w g.rules[k].right i j)) := by
  unfold accC
  rw [if_pos ⟨hij, hj⟩, if_pos ⟨hij, hj⟩, List.take_succ_eq_append_getElem hk, List.filter_append]
  simp only [hv, decide_true, List.filter_cons_of_pos, List.filter_nil, List.map_append, List.map_cons, List.map_nil, List.sum_append, List.sum_cons, List.sum_nil]
  omega
theorem accC_out {k v i j : Nat} (h : ¬ (i ≤ j ∧ j ≤ w.length)) : accC g w M N k v i j = 0 := by unfold accC; rw [if_neg h]
theorem midC_start (k : Nat) : midC g w M N k 0 0 = accC g w M N k := by funext v i j; unfold midC; rw [if_neg (by omega)]
theorem midC_row (k a : Nat) : midC g w M N k a (w.length + 1) = midC g w M N k (a + 1) (a + 1) := by
  funext v i j
  unfold midC
  by_cases h : i < a ∨ (i = a ∧ j < w.length + 1)
  · rw [if_pos h, if_pos (by omega)]
  · rw [if_neg h]
    split
    · rename_i h2
      by_cases e : i = a
      · rw [accC_out (by omega), accC_out (by omega)]
      · rw [accC_out (by omega), accC_out (by omega)]
    · rfl
theorem midC_end (k : Nat) : midC g w M N k (w.length + 1) (w.length + 1) = accC g w M N (k + 1) := by
  funext v i j
  unfold midC
  split
  · rfl
  · rw [accC_out (by omega), accC_out (by omega)]
theorem midC_step {k a b v : Nat} (hk : k < g.rules.length) (hv : g.rules[k].left = (v : Int)) (hab : a ≤ b) (hb : b ≤ w.length) :
    midC g w M N k a (b + 1) = fun v' i j => if v' = v ∧ i = a ∧ j = b then min M (midC g w M N k a b v a b + min M (wcn N w g.rules[k].right a b)) else midC g w M N k a b v' i j := by
  funext v' i j
  by_cases e : v' = v ∧ i = a ∧ j = b
  · obtain ⟨rfl, rfl, rfl⟩ := e
    rw [if_pos ⟨rfl, rfl, rfl⟩]
    unfold midC
    rw [if_pos (by omega), if_neg (by omega), accC_this hk hv hab hb]
  · rw [if_neg e]
    unfold midC
    by_cases h : i < a ∨ (i = a ∧ j < b)
    · rw [if_pos h, if_pos (by omega)]
    · rw [if_neg h]
      split
      · have : i = a ∧ j = b := by omega
        exact accC_other hk (fun q => e ⟨by omega, this⟩)
      · rfl
end
theorem set_split {α : Type} {l : List α} {i : Nat} {t : α} (h : i < l.length) : l.take i ++ t :: l.drop (i + 1) = l.set i t := by rw [List.set_eq_take_append_cons_drop, if_pos h]
/-- One number in a row of rows of rows is another. -/
theorem cubeT_upd {N : Cube} {L V v i j x : Nat} (hv : v < V) (hi : i < L) :
    (cubeT N L V).take v ++ Tr.node 43 ((rowsT N L v L).take i ++ Tr.row 3 1 ((natsD L (fun y => N v i y)).set j (iD ((x : Nat) : Int))) :: (rowsT N L v L).drop (i + 1)) :: (cubeT N L V).drop (v + 1) = cubeT (fun v' i' j' => if v' = v ∧ i' = i ∧ j' = j then x else N v' i' j') L V := by
  rw [set_split (l := rowsT N L v L) (by rw [rowsT_len]; exact hi), set_split (l := cubeT N L V) (by rw [cubeT_len]; exact hv)]
  refine List.ext_getElem (by simp [cubeT_len]) fun k k1 k2 => ?_
  rw [List.getElem_set]
  by_cases e : v = k
  · subst e
    rw [if_pos rfl]
    simp only [cubeT, List.getElem_map, List.getElem_range, planeT]
    congr 1
    refine List.ext_getElem (by simp [rowsT_len]) fun l l1 l2 => ?_
    rw [List.getElem_set]
    by_cases e2 : i = l
    · subst e2
      rw [if_pos rfl]
      simp only [rowsT, List.getElem_map, List.getElem_range, rowT]
      rw [natsD_set]
      congr 1
      exact natsD_congr fun y _ => by simp
    · rw [if_neg e2]
      simp only [rowsT, List.getElem_map, List.getElem_range, rowT]
      congr 1
      exact natsD_congr fun y _ => by rw [if_neg (fun h => e2 h.2.1.symm)]
  · rw [if_neg e]
    simp only [cubeT, List.getElem_map, List.getElem_range, planeT]
    congr 1
    simp only [rowsT]
    refine List.map_congr_left fun l _ => ?_
    simp only [rowT]
    congr 1
    exact natsD_congr fun y _ => by rw [if_neg (fun h => e h.1.symm)]

abbrev ctBV (t u : Bool) (g : Gram) (w : List Int) (M V : Nat) (N : Cube) : Ob := .box 154 [.d (iD g.vars), .d (iD g.terms), .d (iD g.start), .d (rulesD t g.rules), .d (ints u w), .d (iD ((M : Nat) : Int)), .d (.sl false 1 (cubeD false N V (w.length + 1)))]
/-- Two cubes where the program looks: alike, row by row. -/
def alikeC (N N' : Cube) (L a b : Nat) : Prop := ∀ v i, (v < a ∨ (v = a ∧ i < b)) → i < L → ∀ j, j < L → N v i j = N' v i j
theorem alikeC_le {N N' : Cube} {L v i : Nat} (h : alikeC N N' L v (i + 1)) : alikeC N N' L v i := fun v' i' q => h v' i' (by omega)
theorem alikeC_succ {N N' : Cube} {L v i : Nat} (h : alikeC N N' L v i) : (i < L → ∀ x, x < L → N v i x = N' v i x) ↔ alikeC N N' L v (i + 1) := by
  constructor
  · intro q v' i' hv' hi' x hx
    by_cases e : v' = v ∧ i' = i
    · obtain ⟨rfl, rfl⟩ := e; exact q hi' x hx
    · exact h v' i' (by omega) hi' x hx
  · intro q hi x hx
    exact q v i (.inr ⟨rfl, by omega⟩) hi x hx
theorem alikeC_row {N N' : Cube} {L v : Nat} : alikeC N N' L v L ↔ alikeC N N' L (v + 1) 0 :=
  ⟨fun h v' i' q hi => h v' i' (by omega) hi, fun h v' i' q hi => h v' i' (by omega) hi⟩
set_option maxHeartbeats 4000000 in
theorem countsOf_sim {g : Gram} (hg : g.ok) {t u : Bool} {w : List Int} {M : Nat} (hw : w.length ≤ 100000) (hwr : ∀ x ∈ w, 0 ≤ x ∧ x ≤ 1000000) (hM1 : 1 ≤ M) (hM : M ≤ 4611686018427387904) :
    ACalls Try.prog 32 [.d (gramD t g), .d (ints u w), I M] [] (.ptr 21 0) [(21, ctBx t u g w M (wcns g w M))] := by
  have hvv := hg.vars
  have hv1 := hg.vars1
  have hrl := hg.rules
  have hz := zero_sim (g := g) (t := t) (u := u) (w := w) (by omega) (by omega) (by omega)
  obtain ⟨V, hVe⟩ : ∃ V : Nat, g.vars.toNat = V := ⟨_, rfl⟩
  have hVi : g.vars = (V : Int) := by omega
  rw [hVe] at hz
  have hCL := fun N => cubeT_len N (w.length + 1) V
  have hbx : ∀ N, ctBx t u g w M N = ctBV t u g w M V N := fun N => by rw [← hVe]
  refine ACalls.intro (n := 127) Try.func32 rfl rfl (by simp) (by rfl) ?_
  simp only [argFr]
  repeat (first | refine wk ?_ | refine s_field (hr := ?_))
  --@
  refine s_call [(1001, 3), (1002, 4), (903, 960)] (hA := hz) (hr := ?_)
  repeat (first | refine aw_frozCell 21 6 960 rfl rfl rfl (hCL _) ?_ | refine wk1 ?_)
  rw [cubeT_toD]
  refine t_loop (X := Nat × Bool) (fun x => (x.2 = false → rnds g w M x.1 = wcns g w M) ∧ (x.2 = true → x.1 ≤ many g w M)) (fun x => [(9, B x.2), (8, .fn (.func 102) [] [.ptr 3 0, .ptr 4 0]), (7, .ptr 21 0), (4, .ptr 4 0), (3, .ptr 3 0), (2, I M)]) (fun x => [(21, ctBV t u g w M V (rnds g w M x.1)), (3, gramBox t g), (4, wBx u w)]) (fun x => if x.2 = true then many g w M + 1 - x.1 else 0) (0, true) ⟨by simp, by simp⟩ ?_
  rintro ⟨k, b⟩ ⟨b1, b2⟩
  dsimp only at b1 b2 ⊢
  cases b with
  | false =>
    rw [b1 rfl]
    repeat (first | refine wk ?_ | refine s_field (hr := ?_))
    --@
    rw [← hVe]
    exact fin
  | true =>
  have hkm := b2 rfl
  have hN0 := fun v i j => rnds_le (g := g) (w := w) (M := M) k v i j
  have hnew : rnds g w M (k + 1) = rnd g w M (rnds g w M k) := rfl
  have hmore := rnds_more (g := g) (w := w) (M := M) (k := k)
  have hlast := rnds_end (g := g) (w := w) (M := M) (k := k)
  have hacc := accC_all (w := w) (M := M) (N := rnds g w M k) hg.left
  rw [← hnew] at hacc
  have hwys := fun (i j : Nat) (hij : i ≤ j) (l : List Int) => ways_wcn (M := M) (N := rnds g w M k) (w := w) hM1 hij l
  generalize hN : rnds g w M k = N0 at *
  generalize hN1 : rnds g w M (k + 1) = N1 at *
  repeat (first | refine wk ?_ | refine s_field (hr := ?_))
  --@
  refine s_call [(1001, 3), (1002, 4), (903, 961)] (hA := hz) (hr := ?_)
  repeat (first | refine wk ?_ | refine s_field (hr := ?_))
  --@
  have e : cubeT zeroC (w.length + 1) V = cubeT (accC g w M N0 0) (w.length + 1) V := by rw [accC_zero]
  refine t_loop (X := Nat) (fun r => r ≤ g.rules.length) (fun r => [(11, I r), (10, .own 961 V), (9, B false), (8, .fn (.func 102) [] [.ptr 3 0, .ptr 4 0]), (7, .ptr 21 0), (4, .ptr 4 0), (3, .ptr 3 0), (2, I M)]) (fun r => [(961, .nest 39 (cubeT (accC g w M N0 r) (w.length + 1) V) [] []), (21, ctBV t u g w M V N0), (3, gramBox t g), (4, wBx u w)]) (fun r => g.rules.length - r) 0 (Nat.zero_le _) ?_ (hh := ⟨nest_eq rfl e, .of rfl, .of rfl, .of rfl, trivial⟩)
  intro r hr
  clear e
  by_cases hlt : r < g.rules.length
  · obtain ⟨v0, hv0⟩ : ∃ v0 : Nat, g.rules[r].left = (v0 : Int) := ⟨g.rules[r].left.toNat, by have := hg.left0 _ (List.getElem_mem hlt); omega⟩
    have hvl := hg.left _ (List.getElem_mem hlt)
    have hv0V : v0 < V := by omega
    have hrr := hg.right _ (List.getElem_mem hlt)
    have hri := hg.hi _ (List.getElem_mem hlt)
    have hrlo := hg.lo _ (List.getElem_mem hlt)
    have htm := hg.terms
    repeat (first | refine wk ?_ | refine s_field (hr := ?_))
    --@
    have e : cubeT (accC g w M N0 r) (w.length + 1) V = cubeT (midC g w M N0 r 0 0) (w.length + 1) V := by rw [midC_start]
    refine t_loop (X := Nat) (fun i => i ≤ w.length + 1) (fun i => [(13, I i), (12, I v0), (11, I r), (10, .own 961 V), (9, B false), (8, .fn (.func 102) [] [.ptr 3 0, .ptr 4 0]), (7, .ptr 21 0), (4, .ptr 4 0), (3, .ptr 3 0), (2, I M)]) (fun i => [(961, .nest 39 (cubeT (midC g w M N0 r i i) (w.length + 1) V) [] []), (21, ctBV t u g w M V N0), (3, gramBox t g), (4, wBx u w)]) (fun i => w.length + 1 - i) 0 (Nat.zero_le _) ?_ (hh := ⟨nest_eq rfl e, .of rfl, .of rfl, .of rfl, trivial⟩)
    intro i hi
    clear e
    by_cases hil : i ≤ w.length
    · repeat (first | refine wk ?_ | refine s_field (hr := ?_))
      --@
      refine t_loop (X := Nat) (fun j => i ≤ j ∧ j ≤ w.length + 1) (fun j => [(14, I j), (13, I i), (12, I v0), (11, I r), (10, .own 961 V), (9, B false), (8, .fn (.func 102) [] [.ptr 3 0, .ptr 4 0]), (7, .ptr 21 0), (4, .ptr 4 0), (3, .ptr 3 0), (2, I M)]) (fun j => [(961, .nest 39 (cubeT (midC g w M N0 r i j) (w.length + 1) V) [] []), (21, ctBV t u g w M V N0), (3, gramBox t g), (4, wBx u w)]) (fun j => w.length + 1 - j) i ⟨Nat.le_refl _, by omega⟩ ?_
      rintro j ⟨j1, j2⟩
      by_cases hjl : j ≤ w.length
      · have hstep := midC_step (w := w) (M := M) (N := N0) hlt hv0 j1 hjl
        have hMle := midC_le (g := g) (w := w) (M := M) (N := N0) r i j v0 i j
        have hways := ways_sim (g := g) (t := t) (u := u) (v' := t) (w := w) (rs := g.rules[r].right) (M := M) (N := N0) (i := i) (j := j) (by omega) (by omega) hM hM1 hN0 hw hwr (fun s hs => ⟨hri s hs, by have := hrlo s hs; omega⟩) j1 hjl
        rw [hwys i j j1, hbx] at hways
        have hsm := sumRef_sim (a := midC g w M N0 r i j v0 i j) (b := min M (wcn N0 w g.rules[r].right i j)) hM hMle (Nat.min_le_left _ _)
        have hupd := cubeT_upd (N := midC g w M N0 r i j) (L := w.length + 1) (V := V) (v := v0) (i := i) (j := j) (x := min M (midC g w M N0 r i j v0 i j + min M (wcn N0 w g.rules[r].right i j))) hv0V (by omega)
        rw [← hstep] at hupd
        have hf1 : (cubeT (midC g w M N0 r i j) (w.length + 1) V)[v0]? = some (.node 43 (rowsT (midC g w M N0 r i j) (w.length + 1) v0 (w.length + 1))) := by simp [cubeT, planeT, hv0V]
        have hf2 : (rowsT (midC g w M N0 r i j) (w.length + 1) v0 (w.length + 1))[i]? = some (.row 3 1 (natsD (w.length + 1) (fun y => midC g w M N0 r i j v0 i y))) := by simp [rowsT, rowT, (show i < w.length + 1 by omega)]
        have hr0 := rowsT_len (midC g w M N0 r i j) (w.length + 1) v0 (w.length + 1)
        have hn0 := natsD_len (w.length + 1) (fun y => midC g w M N0 r i j v0 i y)
        have hng : (natsD (w.length + 1) (fun y => midC g w M N0 r i j v0 i y))[j]? = some (iD ((midC g w M N0 r i j v0 i j : Nat) : Int)) := natsD_get (a := fun y => midC g w M N0 r i j v0 i y) (by omega)
        have hl1 : ((cubeT (midC g w M N0 r i j) (w.length + 1) V).take v0).length = v0 := by rw [List.length_take, hCL]; omega
        have hl2 : ((cubeT (midC g w M N0 r i j) (w.length + 1) V).drop (v0 + 1)).length = V - (v0 + 1) := by rw [List.length_drop, hCL]
        have hl3 : ((rowsT (midC g w M N0 r i j) (w.length + 1) v0 (w.length + 1)).take i).length = i := by rw [List.length_take, hr0]; omega
        have hl4 : ((rowsT (midC g w M N0 r i j) (w.length + 1) v0 (w.length + 1)).drop (i + 1)).length = w.length + 1 - (i + 1) := by rw [List.length_drop, hr0]
        have hm1 : ((cubeT (midC g w M N0 r i j) (w.length + 1) V).take v0).length + 1 + ((cubeT (midC g w M N0 r i j) (w.length + 1) V).drop (v0 + 1)).length = V := by omega
        have hm2 : ((rowsT (midC g w M N0 r i j) (w.length + 1) v0 (w.length + 1)).take i).length + 1 + ((rowsT (midC g w M N0 r i j) (w.length + 1) v0 (w.length + 1)).drop (i + 1)).length = w.length + 1 := by omega
        have hiL : i < w.length + 1 := by omega
        refine aw_focus 961 970 v0 rfl rfl rfl hf1 (.nest hr0) ?_
        refine aw_focus 970 971 i rfl rfl rfl hf2 (.row hn0) ?_
        generalize min M (wcn N0 w g.rules[r].right i j) = wc at *
        generalize midC g w M N0 r i j v0 i j = mc at *
        generalize natsD (w.length + 1) (fun y => midC g w M N0 r i j v0 i y) = RW at *
        generalize (rowsT (midC g w M N0 r i j) (w.length + 1) v0 (w.length + 1)).take i = RA at *
        generalize (rowsT (midC g w M N0 r i j) (w.length + 1) v0 (w.length + 1)).drop (i + 1) = RB at *
        generalize (cubeT (midC g w M N0 r i j) (w.length + 1) V).take v0 = PA at *
        generalize (cubeT (midC g w M N0 r i j) (w.length + 1) V).drop (v0 + 1) = PB at *
        repeat (first | refine wk ?_ | refine d_indexAddrN TY v0 rfl gOk_none rfl rfl hm1 rfl rfl hv0V rfl rfl rfl rfl ?_ | refine d_indexAddrN TY i rfl gOk_none rfl rfl hm2 rfl rfl hiL rfl rfl rfl rfl ?_ | refine d_loadN TY rfl gOk_none rfl rfl hm1 hl1 rfl rfl ?_ | refine d_loadN TY rfl gOk_none rfl rfl hm2 hl3 rfl rfl ?_)
        --@
        refine s_call [(1000, 21)] (hA := hways) (hr := ?_)
        repeat (first | refine wk ?_ | refine d_indexAddrN TY v0 rfl gOk_none rfl rfl hm1 rfl rfl hv0V rfl rfl rfl rfl ?_ | refine d_indexAddrN TY i rfl gOk_none rfl rfl hm2 rfl rfl hiL rfl rfl rfl rfl ?_ | refine d_loadN TY rfl gOk_none rfl rfl hm1 hl1 rfl rfl ?_ | refine d_loadN TY rfl gOk_none rfl rfl hm2 hl3 rfl rfl ?_)
        --@
        refine s_call [] (hA := hsm) (hr := ?_)
        repeat (first | refine aw_absorb 970 rfl rfl (.row (by simp [hn0])) ?_ | refine aw_absorb 961 rfl rfl (.nest (by simp; omega)) ?_ | refine wk1 ?_ | refine d_indexAddrN TY v0 rfl gOk_none rfl rfl hm1 rfl rfl hv0V rfl rfl rfl rfl ?_ | refine d_indexAddrN TY i rfl gOk_none rfl rfl hm2 rfl rfl hiL rfl rfl rfl rfl ?_ | refine d_loadN TY rfl gOk_none rfl rfl hm1 hl1 rfl rfl ?_ | refine d_loadN TY rfl gOk_none rfl rfl hm2 hl3 rfl rfl ?_)
        --@
        exact t_next (j + 1) (d := ⟨nest_eq rfl hupd, .of rfl, .of rfl, .of rfl, trivial⟩)
      · obtain rfl : j = w.length + 1 := by omega
        rw [midC_row]
        repeat (first | refine wk ?_ | refine s_field (hr := ?_))
        exact t_next (i + 1) (d := ⟨.of rfl, .of rfl, .of rfl, .of rfl, trivial⟩)
    · obtain rfl : i = w.length + 1 := by omega
      rw [midC_end]
      repeat (first | refine wk ?_ | refine s_field (hr := ?_))
      exact t_next (r + 1) (d := ⟨.of rfl, .of rfl, .of rfl, .of rfl, trivial⟩)
  · obtain rfl : r = g.rules.length := by omega
    rw [hacc]
    repeat (first | refine wk ?_ | refine s_field (hr := ?_))
    --@
    refine t_loop (X := Nat × Bool) (fun x => x.1 ≤ V ∧ (x.2 = false ↔ alikeC N1 N0 (w.length + 1) x.1 0)) (fun x => [(15, I x.1), (10, .own 961 V), (9, B x.2), (8, .fn (.func 102) [] [.ptr 3 0, .ptr 4 0]), (7, .ptr 21 0), (4, .ptr 4 0), (3, .ptr 3 0), (2, I M)]) (fun x => [(961, .nest 39 (cubeT N1 (w.length + 1) V) [] []), (21, ctBV t u g w M V N0), (3, gramBox t g), (4, wBx u w)]) (fun x => V - x.1) (0, false) ⟨Nat.zero_le _, by simp; exact fun v' i' h => by omega⟩ ?_
    rintro ⟨v, b⟩ ⟨hv, hb⟩
    dsimp only at hv hb ⊢
    by_cases hlv : v < V
    · repeat (first | refine wk ?_ | refine s_field (hr := ?_))
      --@
      refine t_loop (X := Nat × Bool) (fun x => x.1 ≤ w.length + 1 ∧ (x.2 = false ↔ alikeC N1 N0 (w.length + 1) v x.1)) (fun x => [(16, I x.1), (15, I v), (10, .own 961 V), (9, B x.2), (8, .fn (.func 102) [] [.ptr 3 0, .ptr 4 0]), (7, .ptr 21 0), (4, .ptr 4 0), (3, .ptr 3 0), (2, I M)]) (fun x => [(961, .nest 39 (cubeT N1 (w.length + 1) V) [] []), (21, ctBV t u g w M V N0), (3, gramBox t g), (4, wBx u w)]) (fun x => w.length + 1 - x.1) (0, b) ⟨Nat.zero_le _, hb⟩ ?_
      clear hb
      rintro ⟨i, b⟩ ⟨hi, hb⟩
      dsimp only at hi hb ⊢
      by_cases hil : i ≤ w.length
      · cases b with
        | true =>
          have hna : true = false ↔ alikeC N1 N0 (w.length + 1) v (i + 1) := by
            simp only [Bool.true_eq_false, false_iff] at hb ⊢
            exact fun h => hb (alikeC_le h)
          (repeat (first | refine wk ?_ | refine s_field (hr := ?_)))
          (repeat (first | refine wkz ?_ | refine s_field (hr := ?_)))
          repeat (first | refine wk ?_ | refine s_field (hr := ?_))
          --@
          exact t_next (i + 1, true) (d := ⟨.of rfl, .of rfl, .of rfl, .of rfl, trivial⟩)
        | false =>
          have hal := hb.1 rfl
          have hf1 : (cubeT N1 (w.length + 1) V)[v]? = some (.node 43 (rowsT N1 (w.length + 1) v (w.length + 1))) := by simp [cubeT, planeT, hlv]
          have hf2 : (rowsT N1 (w.length + 1) v (w.length + 1))[i]? = some (.row 3 1 (natsD (w.length + 1) (fun y => N1 v i y))) := by simp [rowsT, rowT, (show i < w.length + 1 by omega)]
          have hp1 := split_at hf1
          have hp2 := split_at hf2
          rw [hp2] at hp1
          have hr0 := rowsT_len N1 (w.length + 1) v (w.length + 1)
          have hn0 := natsI_len (w.length + 1) (fun y => N1 v i y)
          have hn0' := natsD_len (w.length + 1) (fun y => N1 v i y)
          have hn1 := natsI_len (w.length + 1) (fun y => N0 v i y)
          have hl1 : ((cubeT N1 (w.length + 1) V).take v).length = v := by rw [List.length_take, hCL]; omega
          have hl2 : ((cubeT N1 (w.length + 1) V).drop (v + 1)).length = V - (v + 1) := by rw [List.length_drop, hCL]
          have hl3 : ((rowsT N1 (w.length + 1) v (w.length + 1)).take i).length = i := by rw [List.length_take, hr0]; omega
          have hl4 : ((rowsT N1 (w.length + 1) v (w.length + 1)).drop (i + 1)).length = w.length + 1 - (i + 1) := by rw [List.length_drop, hr0]
          have hm1 : ((cubeT N1 (w.length + 1) V).take v).length + 1 + ((cubeT N1 (w.length + 1) V).drop (v + 1)).length = V := by omega
          have hm2 : ((rowsT N1 (w.length + 1) v (w.length + 1)).take i).length + 1 + ((rowsT N1 (w.length + 1) v (w.length + 1)).drop (i + 1)).length = w.length + 1 := by omega
          have hv0V := hlv
          have hiL : i < w.length + 1 := by omega
          have hc1 := cubeD_get (t := false) (N := N0) (L := w.length + 1) hlv
          have hc2 := planeD_get (t := false) (N := N0) (L := w.length + 1) (v := v) hiL
          have hc1l := cubeD_len false N0 V (w.length + 1)
          have hc2l := planeD_len false N0 (w.length + 1) v
          have hsame := sameInts_sim (t := true) (u := false) (xs := natsI (w.length + 1) (fun y => N1 v i y)) (ys := natsI (w.length + 1) (fun y => N0 v i y)) (by omega) (by omega)
          have hna : (!decide (natsI (w.length + 1) (fun y => N1 v i y) = natsI (w.length + 1) (fun y => N0 v i y))) = false ↔ alikeC N1 N0 (w.length + 1) v (i + 1) := by
            simp only [Bool.not_eq_false', decide_eq_true_eq]
            exact natsI_eq.trans (Iff.trans ⟨fun q _ => q, fun q => q (by omega)⟩ (alikeC_succ hal))
          rw [show natsD (w.length + 1) (fun y => N1 v i y) = (natsI (w.length + 1) (fun y => N1 v i y)).map iD from rfl] at *
          rw [show natsD (w.length + 1) (fun y => N0 v i y) = (natsI (w.length + 1) (fun y => N0 v i y)).map iD from rfl] at *
          generalize hdd : decide (natsI (w.length + 1) (fun y => N1 v i y) = natsI (w.length + 1) (fun y => N0 v i y)) = dd at *
          refine aw_focus 961 970 v rfl rfl rfl hf1 (.nest hr0) ?_
          refine aw_focus 970 971 i rfl rfl rfl hf2 (.row hn0') ?_
          simp only [ctBV]
          generalize natsI (w.length + 1) (fun y => N1 v i y) = XS at *
          generalize natsI (w.length + 1) (fun y => N0 v i y) = YS at *
          generalize planeD false N0 (w.length + 1) v = PD at *
          generalize cubeD false N0 V (w.length + 1) = CD at *
          generalize (rowsT N1 (w.length + 1) v (w.length + 1)).take i = RA at *
          generalize (rowsT N1 (w.length + 1) v (w.length + 1)).drop (i + 1) = RB at *
          generalize (cubeT N1 (w.length + 1) V).take v = PA at *
          generalize (cubeT N1 (w.length + 1) V).drop (v + 1) = PB at *
          repeat (first | refine wk ?_ | refine d_indexAddrN TY v rfl (by first | exact gOk_none | exact gOk_some rfl rfl rfl) rfl rfl hm1 rfl rfl hv0V rfl rfl rfl rfl ?_ | refine d_indexAddrN TY i rfl (by first | exact gOk_none | exact gOk_some rfl rfl rfl) rfl rfl hm2 rfl rfl hiL rfl rfl rfl rfl ?_ | refine d_loadN TY rfl (by first | exact gOk_none | exact gOk_some rfl rfl rfl) rfl rfl hm1 hl1 rfl rfl ?_ | refine d_loadN TY rfl (by first | exact gOk_none | exact gOk_some rfl rfl rfl) rfl rfl hm2 hl3 rfl rfl ?_)
          --@
          refine s_call [] (hA := hsame) (hr := ?_)
          repeat (first | refine aw_absorb 970 rfl rfl (.row (by simp [hn0])) ?_ | refine aw_absorb 961 rfl rfl (.nest (by simp; omega)) ?_ | refine wk1 ?_ | refine d_indexAddrN TY v rfl (by first | exact gOk_none | exact gOk_some rfl rfl rfl) rfl rfl hm1 rfl rfl hv0V rfl rfl rfl rfl ?_ | refine d_indexAddrN TY i rfl (by first | exact gOk_none | exact gOk_some rfl rfl rfl) rfl rfl hm2 rfl rfl hiL rfl rfl rfl rfl ?_ | refine d_loadN TY rfl (by first | exact gOk_none | exact gOk_some rfl rfl rfl) rfl rfl hm1 hl1 rfl rfl ?_ | refine d_loadN TY rfl (by first | exact gOk_none | exact gOk_some rfl rfl rfl) rfl rfl hm2 hl3 rfl rfl ?_)
          --@
          exact t_next (i + 1, !dd) (a := ⟨by dsimp only; omega, hna⟩) (d := ⟨nest_eq rfl hp1.symm, .of rfl, .of rfl, .of rfl, trivial⟩)
      · obtain rfl : i = w.length + 1 := by omega
        have hb' := hb.trans alikeC_row
        repeat (first | refine wk ?_ | refine s_field (hr := ?_))
        exact t_next (v + 1, b) (a := ⟨by dsimp only; omega, hb'⟩) (d := ⟨.of rfl, .of rfl, .of rfl, .of rfl, trivial⟩)
    · obtain rfl : v = V := by omega
      have hnx : (b = false → N1 = wcns g w M) ∧ (b = true → k + 1 ≤ many g w M) := by
        refine ⟨fun e => ?_, fun e => ?_⟩
        · have h := hb.1 e
          have e2 : N1 = N0 := by
            rw [← hN, ← hN1]
            funext v i j
            by_cases hin : (v : Int) < g.vars ∧ i ≤ j ∧ j ≤ w.length
            · rw [hN, hN1]; exact h v i (.inl (by omega)) (by omega) j (by omega)
            · rw [rnds_out hin, rnds_out hin]
          rw [e2]; exact hlast e2
        · have : N1 ≠ N0 := fun e2 => by
            have := hb.2 (by rw [e2]; exact fun _ _ _ _ _ _ => rfl)
            rw [this] at e; cases e
          have := hmore this
          omega
      rw [← hN1] at hnx ⊢
      iterate 11 (refine wk1 ?_)
      repeat (first | refine andThen_e ?_ | refine inBlock_e ?_ | refine andThen_n ?_)
      refine aw_then ?_
      repeat (first | refine wk ?_ | refine s_field (hr := ?_))
      refine nowQ_n (now_frozCell 21 6 961 rfl rfl rfl (hCL _) (now_of ?_))
      repeat (first | refine wk ?_ | refine s_field (hr := ?_))
      rw [cubeT_toD]
      exact t_next (k + 1, b) (a := hnx) (b := by dsimp only; split <;> simp <;> omega)
end Go.Proofs.Ytflgmalhpglklaa
