/-
  Forest, the program: how long a tree is; which one it is. Forest, the program: rank and place. Forest, the program: rank, whole; Rank. Forest, the reference: rank.
-/
import Derived.Test.YtflgmalhpglklaaFoA
import Derived.Test.YtflgmalhpglklaaSaP
import Derived.Test.YtflgmalhpglklaaTreeB
import Derived.Test.YtflgmalhpglklaaFoD
import Derived.Test.YtflgmalhpglklaaTreeC
import Derived.Test.YtflgmalhpglklaaFoI
set_option linter.unusedVariables false
set_option linter.unusedSimpArgs false
set_option linter.unusedSectionVars false
namespace Go.Proofs.Ytflgmalhpglklaa
open Go.RowKit
set_option maxRecDepth 100000
-- SimX

section
variable {t u : Bool} {g : Gram} {w : List Int}
theorem long_sim {L : Nat} {NB : List Bool} {N : Cube} (hg : g.ok) : ∀ (x : Tree) (v : Int), fits g x v = true → cnt x ≤ 400 →
    ACalls Try.prog 201 [.ptr 1000 0, .d (treeA u x)] [(1000, frBx t g 1001 L), (1001, cxBx g w NB 1002), (1002, .mp (goodM N))] (I ((lenW g x : Nat) : Int)) [(1000, frBx t g 1001 L), (1001, cxBx g w NB 1002), (1002, .mp (goodM N))] := by
  refine Tree.ind fun x ih v hf hx => ?_
  refine ACalls.intro (n := 41) Try.func201 rfl rfl (by simp) (by rfl) ?_
  simp only [argFr, frBx] at ih ⊢
  obtain ⟨i, hi, e1, e2, e3, e4, e5⟩ := fits_parts hf
  have hk := kids_len hx
  have hlen := hg.rules
  have hrt := hg.right _ (List.getElem_mem hi)
  have hwl := wordT_le 10 hg.right x
  repeat (first | refine wk ?_ | refine s_field (hr := ?_))
  --@
  refine t_loop (X := Nat × Nat × Nat) (fun y => y.1 ≤ g.rules[i].right.length ∧ y.2.1 = (kids (g.rules[i].right.take y.1)).length ∧ (wordT g x).length = y.2.2 + (wordL g (g.rules[i].right.drop y.1) (x.kids.drop y.2.1)).length)
    (fun y => [(20, I y.1), (19, I g.rules[i].right.length), (18, .d (ints t g.rules[i].right)), (6, I y.2.1), (5, I y.2.2), (3, .ptr 3 0), (4, I 0), (0, .ptr 1000 0)])
    (fun y => [(1000, frBx t g 1001 L), (1001, cxBx g w NB 1002), (1002, .mp (goodM N)), (3, .box 84 [.d (iD x.rule), .d (treesD u x.kids)])]) (fun y => g.rules[i].right.length - y.1) (0, 0, 0) ⟨Nat.zero_le _, by simp [kids], by simpa using congrArg List.length e5⟩ ?_
  rintro ⟨j, q, pre⟩ ⟨h1, h2, h3⟩
  dsimp only at h1 h2 h3 ⊢
  by_cases hlt : j < g.rules[i].right.length
  · by_cases hs : g.rules[i].right[j] < 0
    · rw [wordL_t hlt hs, List.length_cons] at h3
      have e := kids_snoc g.rules[i].right j hlt
      rw [kids_neg hs, List.append_nil] at e
      repeat (first | refine wk ?_ | refine s_field (hr := ?_))
      --@
      exact t_next (j + 1, q, pre + 1) (a := ⟨by omega, by dsimp only; rw [e]; exact h2, by dsimp only; omega⟩) (b := by dsimp only; omega)
    · have hq : q < x.kids.length := by have := kids_take_le hlt hs; omega
      have hq2 : q < (kids g.rules[i].right).length := by omega
      have e := kids_snoc g.rules[i].right j hlt
      rw [kids_pos (by omega)] at e
      have hfk := fitss_at e4 hq hq2
      have hkl := kid_le hx hq
      rw [wordL_v hlt hs hq, List.length_append] at h3
      have hc := ih x.kids[q] (List.getElem_mem hq) _ hfk hkl.1
      unfold lenW at hc
      generalize (wordT g x.kids[q]).length = c at *
      repeat (first | refine wk ?_ | refine s_field (hr := ?_))
      --@
      refine s_call [(1000, 1000), (1001, 1001), (1002, 1002)] (hA := hc) (hr := ?_)
      repeat (first | refine wk ?_ | refine s_field (hr := ?_))
      --@
      exact t_next (j + 1, q + 1, pre + c) (a := ⟨by omega, by dsimp only; rw [e, List.length_append]; simp; omega, by dsimp only; omega⟩) (b := by dsimp only; omega)
  · rw [wordL_end hlt] at h3
    repeat (first | refine wk ?_ | refine s_field (hr := ?_))
    --@
    rw [show (pre : Int) = ((lenW g x : Nat) : Int) by unfold lenW; rw [h3]; simp]
    exact fin
end
end Go.Proofs.Ytflgmalhpglklaa
namespace Go.Proofs.Ytflgmalhpglklaa
open Go.RowKit
set_option maxRecDepth 100000
-- SimX

section
variable {t u : Bool} {g : Gram} {w : List Int}
abbrev frHN (t : Bool) (g : Gram) (w : List Int) (NB : List Bool) (N : Cube) (L : Nat) : Hp := [(1000, frBx t g 1001 L), (1001, cxBx g w NB 1002), (1002, .mp (goodM N))]
def RankC (t u : Bool) (g : Gram) (w : List Int) (L : Nat) (f : FuncId) (H : Hp) (x : Tree) : Prop := ∀ v i j : Nat, ((v : Nat) : Int) < g.vars → i ≤ j → j ≤ w.length → IsT g w v i j x → cnt x ≤ 400 → wcns g w manyC v i j < manyC →
  ACalls Try.prog f [.ptr 1000 0, .d (treeA u x), I (i : Nat), I (j : Nat)] H (I ((rkT g (wcns g w manyC) w x i j : Nat) : Int)) H
theorem isR_drop {r : List Int} {a q i j : Nat} {k : List Tree} (ha : a < r.length) (hs : r[a] < 0) (hij : i ≤ j) (hj : j ≤ w.length) (h : IsR g w (r.drop a) i j (k.drop q)) : IsR g w (r.drop (a + 1)) (i + 1) j (k.drop q) ∧ i + 1 ≤ j ∧ w[i]? = some (-1 - r[a]) := by
  rw [List.drop_eq_getElem_cons ha] at h
  obtain ⟨h1, h2, h3⟩ := (isR_term hs hij hj).1 h
  exact ⟨h3, h1, h2⟩
theorem isR_pos {r : List Int} {a q i j sn : Nat} {k : List Tree} (ha : a < r.length) (hs : r[a] = (sn : Int)) (hij : i ≤ j) (hj : j ≤ w.length) (h : IsR g w (r.drop a) i j (k.drop q)) : ∃ m, ∃ hq : q < k.length, i ≤ m ∧ m ≤ j ∧ IsT g w sn i m k[q] ∧ IsR g w (r.drop (a + 1)) m j (k.drop (q + 1)) ∧ k.drop q = k[q] :: k.drop (q + 1) := by
  rw [List.drop_eq_getElem_cons ha, hs] at h
  obtain ⟨m, x, l, e, h1, h2, h3, h4⟩ := (isR_var hij hj).1 h
  have hq : q < k.length := Classical.byContradiction fun hn => by
    rw [List.drop_of_length_le (by omega)] at e; cases e
  have e' := e
  rw [List.drop_eq_getElem_cons hq] at e'
  obtain ⟨rfl, rfl⟩ := List.cons.inj e'
  exact ⟨m, hq, h1, h2, h3, h4, List.drop_eq_getElem_cons hq⟩
set_option maxHeartbeats 8000000 in
theorem place_gen {L : Nat} (hC : ChOk g w) {x : Tree} {r : Nat} (hr : r < g.rules.length) (hxr : x.rule = (r : Int)) (hx : cnt x ≤ 400) (hrk : ∀ y ∈ x.kids, RankC t u g w L 127 (frHN t g w (nulB g) (wcns g w manyC) L) y) :
    ∀ (n at_ q i j : Nat), g.rules[r].right.length - at_ < n → at_ ≤ g.rules[r].right.length → i ≤ j → j ≤ w.length → IsR g w (g.rules[r].right.drop at_) i j (x.kids.drop q) → wcn (wcns g w manyC) w (g.rules[r].right.drop at_) i j < manyC →
      ACalls Try.prog 172 [.ptr 1000 0, .d (treeA u x), I (at_ : Nat), I (q : Nat), I (i : Nat), I (j : Nat)] (frHN t g w (nulB g) (wcns g w manyC) L) (I ((rkR g (wcns g w manyC) w (g.rules[r].right.drop at_) (x.kids.drop q) i j : Nat) : Int)) (frHN t g w (nulB g) (wcns g w manyC) L) := by
  intro n
  induction n with
  | zero => intro at_ q i j hn; omega
  | succ n ih =>
  intro at_ q i j hn hat hij hj hR hM
  obtain ⟨s1, s2⟩ := hC.small
  have hg := hC.ok
  have hlen := hC.len
  have hsp := fun (a i m : Nat) => split_simC hg hC.cyc s1 s2 (r : Int) (a : Int) (i : Int) (m : Int) (j : Int)
  have hof := fun (v i m : Nat) => of_simC hg hC.cyc s1 s2 (v : Int) (i : Int) (m : Int)
  have hlo := fun (y : Tree) (v : Nat) (h : fits g y v = true) (h2 : cnt y ≤ 400) => long_sim (t := t) (u := u) (w := w) (L := L) (NB := nulB g) (N := wcns g w manyC) hg y v h h2
  obtain ⟨Q, hQ⟩ : ∃ Q : Int, Q = 4611686018427387904 := ⟨_, rfl⟩
  have hMQ : ((manyC : Nat) : Int) = Q := by rw [hQ]; rfl
  have hrl := hg.rules
  have hrr := hg.right _ (List.getElem_mem hr)
  have hhi := hg.hi _ (List.getElem_mem hr)
  have hk := kids_len hx
  have hcntd := fun (rs : List Int) (l : List Tree) (i : Nat) (h1 : ∀ s ∈ rs, s < g.vars) (h2 : i ≤ j) (h3 : IsR g w rs i j l) => row_counted (g := g) (N := wcns g w manyC) (M := manyC) hj rs l i h1 (fun y _ => tree_counted hg (by decide) (wcns_fixN g w manyC) y) h2 h3.1 h3.2.1 h3.2.2
  have htc := fun (y : Tree) => tree_counted (w := w) hg (by decide : 1 ≤ manyC) (wcns_fixN g w manyC) y
  simp only [frHN, frBx] at ih hlo hrk ⊢
  unfold RankC at hrk
  generalize wcns g w manyC = N at *
  generalize nulB g = NB at *
  refine ACalls.intro (n := 121) Try.func172 rfl rfl (by simp) (by rfl) ?_
  simp only [argFr]
  repeat (first | refine wk ?_ | refine s_field (hr := ?_))
  --@
  refine t_loop (X := Nat × Nat) (fun y => at_ ≤ y.1 ∧ y.1 ≤ g.rules[r].right.length ∧ y.2 ≤ j ∧ IsR g w (g.rules[r].right.drop y.1) y.2 j (x.kids.drop q) ∧ wcn N w (g.rules[r].right.drop y.1) y.2 j < manyC ∧ rkR g N w (g.rules[r].right.drop at_) (x.kids.drop q) i j = rkR g N w (g.rules[r].right.drop y.1) (x.kids.drop q) y.2 j)
    (fun y => [(13, .d (ints t g.rules[r].right)), (0, .ptr 1000 0), (2, I y.1), (3, I q), (4, I y.2), (5, I j), (7, .ptr 7 0), (12, I 0)])
    (fun y => [(1000, frBx t g 1001 L), (1001, cxBx g w NB 1002), (1002, .mp (goodM N)), (7, .box 84 [.d (iD x.rule), .d (treesD u x.kids)])]) (fun y => g.rules[r].right.length - y.1) (at_, i) ⟨Nat.le_refl _, hat, hij, hR, hM, rfl⟩ ?_
  rintro ⟨a, i1⟩ ⟨g1, g2, g3, g4, g5, g6⟩
  dsimp only at g1 g2 g3 g4 g5 g6 ⊢
  by_cases hal : a < g.rules[r].right.length
  rotate_left
  · obtain rfl : a = g.rules[r].right.length := by omega
    rw [g6, List.drop_of_length_le (Nat.le_refl _), rkR_nil]
    (repeat (first | refine wk ?_ | refine s_field (hr := ?_)))
    (repeat (first | refine wkz ?_ | refine s_field (hr := ?_)))
    repeat (first | refine wk ?_ | refine s_field (hr := ?_))
    --@
    exact fin
  by_cases hneg : g.rules[r].right[a] < 0
  · obtain ⟨q1, q2, q3⟩ := isR_drop hal hneg g3 hj g4
    have e1 : wcn N w (g.rules[r].right.drop a) i1 j = wcn N w (g.rules[r].right.drop (a + 1)) (i1 + 1) j := by
      rw [List.drop_eq_getElem_cons hal, wcn_term hneg, if_pos ⟨q2, q3⟩]
    have e2 : rkR g N w (g.rules[r].right.drop a) (x.kids.drop q) i1 j = rkR g N w (g.rules[r].right.drop (a + 1)) (x.kids.drop q) (i1 + 1) j := by
      rw [List.drop_eq_getElem_cons hal, rkR_neg hneg]
    clear hlo hrk hof hsp
    repeat (first | refine wk ?_ | refine s_field (hr := ?_))
    --@
    exact t_next (a + 1, i1 + 1) (a := ⟨by omega, by omega, q2, q1, by rw [← e1]; exact g5, by rw [g6, e2]⟩)
  obtain ⟨sn, hsn⟩ : ∃ sn : Nat, g.rules[r].right[a] = (sn : Int) := ⟨g.rules[r].right[a].toNat, by omega⟩
  have hsv : ((sn : Nat) : Int) < g.vars := by rw [← hsn]; exact hhi _ (List.getElem_mem hal)
  obtain ⟨m, hq, h1, h2, h3, h4, h5⟩ := isR_pos hal hsn g3 hj g4
  have hkl := kid_le hx hq
  have hl := hlo x.kids[q] sn h3.1 hkl.1
  have hlm : ((i1 : Nat) : Int) + ((lenW g x.kids[q] : Nat) : Int) = (m : Int) := by unfold lenW; rw [isT_len h3 h1 (by omega)]; omega
  have hlm' : i1 + lenW g x.kids[q] = m := by omega
  have ec := hcntd _ _ _ (fun s hs => hhi s (List.mem_of_mem_drop hs)) g3 g4
  have ec2 := hcntd _ _ _ (fun s hs => hhi s (List.mem_of_mem_drop hs)) h2 h4
  have ec3 := htc x.kids[q] sn i1 m hsv h1 (by omega) h3.1 h3.2
  have ew := List.drop_eq_getElem_cons hal
  rw [hsn] at ew
  rw [ew] at g5 ec g6
  rw [h5, rkR_pos (by omega), hlm'] at g6 ec
  have hle := fun mm (q1 : i1 ≤ mm) (q2 : mm ≤ m) => fM_le (N := N) (w := w) (s := (sn : Int)) (r := g.rules[r].right.drop (a + 1)) q1 (show mm ≤ j by omega)
  have hle0 := hle m h1 (Nat.le_refl _)
  rw [symN_nat] at hle0
  have hb1 : N sn i1 m * 1 ≤ N sn i1 m * wcn N w (g.rules[r].right.drop (a + 1)) m j := Nat.mul_le_mul_left _ ec2.1
  have hb2 : 1 * wcn N w (g.rules[r].right.drop (a + 1)) m j ≤ N sn i1 m * wcn N w (g.rules[r].right.drop (a + 1)) m j := Nat.mul_le_mul_right _ ec3.1
  have hra := hrk x.kids[q] (List.getElem_mem hq) sn i1 m hsv h1 (by omega) h3 hkl.1 (by omega)
  have hpl := ih (a + 1) (q + 1) m j (by omega) (by omega) h2 hj h4 (by omega)
  rw [show ((a + 1 : Nat) : Int) = (a : Int) + 1 by omega, show ((q + 1 : Nat) : Int) = (q : Int) + 1 by omega] at hpl
  have hspm : ∀ mm, i1 ≤ mm → mm ≤ m → spC g w manyC N r a i1 mm j = N sn i1 mm * wcn N w (g.rules[r].right.drop (a + 1)) mm j := fun mm m1 m2 => by
    rw [spC_is hr hal m1 (by omega) hj, hsn, symN_nat]
    have := hle mm m1 m2
    rw [symN_nat] at this
    omega
  have hF1 : ∀ mm, i1 ≤ mm → sumN (mm + 1) (fM N w sn (g.rules[r].right.drop (a + 1)) i1 j) = sumN mm (fM N w sn (g.rules[r].right.drop (a + 1)) i1 j) + N sn i1 mm * wcn N w (g.rules[r].right.drop (a + 1)) mm j := fun mm m1 => by
    show sumN mm _ + fM N w sn (g.rules[r].right.drop (a + 1)) i1 j mm = _
    unfold fM; rw [if_pos m1, symN_nat]
  have hFu : ∀ mm, mm ≤ m → sumN mm (fM N w sn (g.rules[r].right.drop (a + 1)) i1 j) ≤ sumN m (fM N w sn (g.rules[r].right.drop (a + 1)) i1 j) := fun mm m1 => sumN_up m1
  have hF0 : sumN i1 (fM N w sn (g.rules[r].right.drop (a + 1)) i1 j) = 0 := fM_low (Nat.le_refl _)
  have hfin := Nat.lt_trans (ec.2 g5) g5
  have hSb : ((sumN m (fM N w sn (g.rules[r].right.drop (a + 1)) i1 j) : Nat) : Int) < Q := by omega
  have hsm := hsp a i1 m
  rw [hspm m h1 (Nat.le_refl _)] at hsm
  have ho := hof sn i1 m
  rw [ofC_is hsv h1 (by omega)] at ho
  have hqq : ((N sn i1 m * wcn N w (g.rules[r].right.drop (a + 1)) m j : Nat) : Int) / (N sn i1 m : Nat) = (wcn N w (g.rules[r].right.drop (a + 1)) m j : Nat) := by
    rw [← Int.natCast_ediv, Nat.mul_div_cancel_left _ ec3.1]
  have hnp : 0 < ((N sn i1 m : Nat) : Int) := by have := ec3.1; omega
  have hnb : ((N sn i1 m : Nat) : Int) < Q := by omega
  have hcb : ((N sn i1 m * wcn N w (g.rules[r].right.drop (a + 1)) m j : Nat) : Int) < Q := by omega
  rw [h5, g6]
  clear ih hrk hlo hcntd htc ew g6 ec ec2 ec3 hle hle0 hb1 hb2 hof h3 h4 h5 hR g4 hM g5
  repeat (first | refine wk ?_ | refine s_field (hr := ?_))
  --@
  refine s_call [(1000, 1000), (1001, 1001), (1002, 1002)] (hA := hl) (hr := ?_)
  repeat (first | refine wk ?_ | refine s_field (hr := ?_))
  rw [hlm]
  repeat (first | refine wk ?_ | refine s_field (hr := ?_))
  --@
  refine t_loop (X := Nat) (fun mm => i1 ≤ mm ∧ mm ≤ m) (fun mm => [(16, I mm), (15, I ((sumN mm (fM N w sn (g.rules[r].right.drop (a + 1)) i1 j) : Nat) : Int)), (14, I m), (13, .d (ints t g.rules[r].right)), (0, .ptr 1000 0), (2, I a), (3, I q), (4, I i1), (5, I j), (7, .ptr 7 0), (12, I 0)])
    (fun _ => [(1000, frBx t g 1001 L), (1001, cxBx g w NB 1002), (1002, .mp (goodM N)), (7, .box 84 [.d (iD x.rule), .d (treesD u x.kids)])]) (fun mm => m - mm) i1 ⟨Nat.le_refl _, h1⟩ ?_ (hf := ⟨.of rfl, VLe.of (by rw [hF0]; rfl), .of rfl, .of rfl, .of rfl, .of rfl, .of rfl, .of rfl, .of rfl, .of rfl, .of rfl, trivial⟩)
  rintro mm ⟨m1, m2⟩
  by_cases hm : mm < m
  · have hs1 := hsp a i1 mm
    rw [hspm mm m1 m2] at hs1
    have hu := hFu (mm + 1) hm
    have hu1 := hF1 mm m1
    have ea : ((sumN mm (fM N w sn (g.rules[r].right.drop (a + 1)) i1 j) : Nat) : Int) + (N sn i1 mm * wcn N w (g.rules[r].right.drop (a + 1)) mm j : Nat) = ((sumN (mm + 1) (fM N w sn (g.rules[r].right.drop (a + 1)) i1 j) : Nat) : Int) := by omega
    have hab : ((sumN mm (fM N w sn (g.rules[r].right.drop (a + 1)) i1 j) : Nat) : Int) + (N sn i1 mm * wcn N w (g.rules[r].right.drop (a + 1)) mm j : Nat) < Q := by omega
    clear hspm hF1 hFu hF0 hu hu1 hpl hra hsm ho hl hqq hfin hSb hsp hnp hnb hcb
    generalize N sn i1 mm * wcn N w (g.rules[r].right.drop (a + 1)) mm j = c at *
    generalize sumN mm (fM N w sn (g.rules[r].right.drop (a + 1)) i1 j) = c1 at *
    generalize hc2 : sumN (mm + 1) (fM N w sn (g.rules[r].right.drop (a + 1)) i1 j) = c2 at *
    rw [hxr]
    repeat (first | refine wk ?_ | refine s_field (hr := ?_))
    --@
    refine s_callU [(1000, 1001), (1001, 1002)] (hA := hs1) (hr := ?_)
    repeat (first | refine wk ?_ | refine s_field (hr := ?_))
    --@
    rw [ea]
    subst hc2
    exact t_next (mm + 1)
  · obtain rfl : mm = m := by omega
    clear hspm hF1 hFu hF0 hsp hl
    generalize N sn i1 mm * wcn N w (g.rules[r].right.drop (a + 1)) mm j = c at *
    generalize wcn N w (g.rules[r].right.drop (a + 1)) mm j = c1 at *
    generalize N sn i1 mm = c2 at *
    generalize rkT g N w x.kids[q] i1 mm = c3 at *
    generalize rkR g N w (g.rules[r].right.drop (a + 1)) (x.kids.drop (q + 1)) mm j = c4 at *
    generalize sumN mm (fM N w sn (g.rules[r].right.drop (a + 1)) i1 j) = c5 at *
    have ecc : ((c5 + c3 * c1 + c4 : Nat) : Int) = (c5 : Int) + (c3 : Int) * (c1 : Int) + (c4 : Int) := by rw [Int.natCast_add, Int.natCast_add, Int.natCast_mul]
    have hmp : 0 ≤ (c3 : Int) * (c1 : Int) := by rw [← Int.natCast_mul]; omega
    have hmb : (c5 : Int) + (c3 : Int) * (c1 : Int) + (c4 : Int) < Q := by rw [← ecc]; omega
    rw [ecc]
    clear ecc
    simp only [treeA, hxr] at hpl
    rw [hxr] at *
    repeat (first | refine wk ?_ | refine s_field (hr := ?_))
    --@
    refine s_callU [(1000, 1001), (1001, 1002)] (hA := hsm) (hr := ?_)
    repeat (first | refine wk ?_ | refine s_field (hr := ?_))
    rw [hsn]
    refine s_callU [(1000, 1001), (1001, 1002)] (hA := ho) (hr := ?_)
    repeat (first | refine wk ?_ | refine s_field (hr := ?_))
    --@
    rw [hqq]
    repeat (first | refine wk ?_ | refine s_field (hr := ?_))
    refine s_call [(1000, 1000), (1001, 1001), (1002, 1002)] (hA := hra) (hr := ?_)
    repeat (first | refine wk ?_ | refine s_field (hr := ?_))
    --@
    refine s_call [(1000, 1000), (1001, 1001), (1002, 1002)] (hA := hpl) (hr := ?_)
    repeat (first | refine wk ?_ | refine s_field (hr := ?_))
    --@
    exact fin
end
end Go.Proofs.Ytflgmalhpglklaa
namespace Go.Proofs.Ytflgmalhpglklaa
open Go.RowKit
set_option maxRecDepth 100000
-- SimX

section
variable {t u : Bool} {g : Gram} {w : List Int}
theorem fR_small {N : Cube} {M : Nat} (hF : FixN g N w M) {v i j r : Nat} (hv : ((v : Nat) : Int) < g.vars) (hij : i ≤ j) (hj : j ≤ w.length) (hM : N v i j < M) (hr : r < g.rules.length) : fR g N w v i j r < M := by
  have q2 := le_sumN (f := fR g N w v i j) (n := g.rules.length) (k := r) hr
  have q3 := hF v i j hv hij hj
  omega
set_option maxHeartbeats 8000000 in
theorem rank_gen {L : Nat} (hC : ChOk g w) : ∀ x : Tree, RankC t u g w L 127 (frHN t g w (nulB g) (wcns g w manyC) L) x := by
  refine Tree.ind fun x ih => ?_
  intro v i j hv hij hj hT hx hM
  obtain ⟨r, hr, e1, e2, e3⟩ := isT_iff.1 hT
  obtain ⟨s1, s2⟩ := hC.small
  have hg := hC.ok
  have hlen := hC.len
  have hrl := hg.rules
  have hfix := wcns_fixN g w manyC
  have hru := fun (q : Nat) => rule_simC hg hC.cyc s1 s2 (q : Int) (i : Int) (j : Int)
  have htc := (tree_counted (w := w) hg (by decide : 1 ≤ manyC) hfix x v i j hv hij hj hT.1 hT.2).2 hM
  have hsm := fun q (hq : q < g.rules.length) => fR_small hfix hv hij hj hM hq
  have hfr : wcn (wcns g w manyC) w g.rules[r].right i j < manyC := by
    have := hsm r hr
    rwa [fR_yes hr e2] at this
  have hpl := place_gen (t := t) (u := u) (L := L) hC hr e1 hx ih (g.rules[r].right.length + 1) 0 0 i j (by omega) (Nat.zero_le _) hij hj e3 hfr
  have hrN : ∀ q, ∀ h : q < g.rules.length, g.rules[q].left = (v : Int) → ruC g w manyC (wcns g w manyC) q i j = fR g (wcns g w manyC) w v i j q := fun q h e => by
    unfold ruC
    rw [if_pos (by omega), rightAt_nat h]
    simp only [Int.toNat_natCast]
    have q1 := fR_yes (N := wcns g w manyC) (w := w) (v := v) (i := i) (j := j) h e
    have := hsm q h
    omega
  have eD : g.rules.getD r ⟨0, []⟩ = g.rules[r] := by simp [List.getD_eq_getElem?_getD, hr]
  have hres : rkT g (wcns g w manyC) w x i j = sumN r (fR g (wcns g w manyC) w v i j) + rkR g (wcns g w manyC) w g.rules[r].right x.kids i j := by
    conv => lhs; rw [Tree.eta x]
    rw [rkT_mk, e1, Int.toNat_natCast, eD, e2, rightR_nat hr, Int.toNat_natCast]
  rw [hres] at htc ⊢
  rw [List.drop_zero, List.drop_zero] at hpl
  obtain ⟨Q, hQ⟩ : ∃ Q : Int, Q = 4611686018427387904 := ⟨_, rfl⟩
  have hMQ : ((manyC : Nat) : Int) = Q := by rw [hQ]; rfl
  have hFu : ∀ q, q ≤ r → sumN q (fR g (wcns g w manyC) w v i j) ≤ sumN r (fR g (wcns g w manyC) w v i j) := fun q h => sumN_up h
  have hFn : ∀ q, ∀ h : q < g.rules.length, ¬ g.rules[q].left = (v : Int) → sumN (q + 1) (fR g (wcns g w manyC) w v i j) = sumN q (fR g (wcns g w manyC) w v i j) := fun q h e => by
    show sumN q _ + fR g _ w v i j q = _
    rw [fR_no h e]; rfl
  have hFy : ∀ q, sumN (q + 1) (fR g (wcns g w manyC) w v i j) = sumN q (fR g (wcns g w manyC) w v i j) + fR g (wcns g w manyC) w v i j q := fun q => rfl
  have hb : sumN r (fR g (wcns g w manyC) w v i j) + rkR g (wcns g w manyC) w g.rules[r].right x.kids i j < manyC := by omega
  simp only [treeA, e1] at hpl ⊢
  simp only [frHN, frBx] at hpl ⊢
  generalize wcns g w manyC = N at *
  generalize nulB g = NB at *
  clear hfix hsm ih hT e3 hfr hM htc hres
  refine ACalls.intro (n := 54) Try.func127 rfl rfl (by simp) (by rfl) ?_
  simp only [argFr]
  repeat (first | refine wk ?_ | refine s_field (hr := ?_))
  --@
  refine t_loop (X := Nat) (fun q => q ≤ r) (fun q => [(13, I q), (12, I r), (9, I ((sumN q (fR g N w v i j) : Nat) : Int)), (5, .ptr 5 0), (8, I 0), (0, .ptr 1000 0), (2, I i), (3, I j)])
    (fun _ => [(1000, frBx t g 1001 L), (1001, cxBx g w NB 1002), (1002, .mp (goodM N)), (5, .box 84 [.d (iD r), .d (treesD u x.kids)])]) (fun q => r - q) 0 (Nat.zero_le _) ?_
  intro q hq
  by_cases hqr : q < r
  · have hql : q < g.rules.length := by omega
    have hu := hFu (q + 1) hqr
    by_cases he : g.rules[q].left = (v : Int)
    · have h1 := hru q
      rw [hrN q hql he] at h1
      have hy := hFy q
      have ea : ((sumN q (fR g N w v i j) : Nat) : Int) + (fR g N w v i j q : Nat) = ((sumN (q + 1) (fR g N w v i j) : Nat) : Int) := by omega
      have hab : ((sumN q (fR g N w v i j) : Nat) : Int) + (fR g N w v i j q : Nat) < Q := by omega
      have hel : g.rules[q].left = g.rules[r].left := by rw [he, e2]
      clear hFu hFn hFy hu hy hru hrN hb hpl
      generalize fR g N w v i j q = c at *
      generalize sumN q (fR g N w v i j) = c1 at *
      generalize hc2 : sumN (q + 1) (fR g N w v i j) = c2 at *
      repeat (first | refine wk ?_ | refine s_field (hr := ?_))
      --@
      refine s_callU [(1000, 1001), (1001, 1002)] (hA := h1) (hr := ?_)
      repeat (first | refine wk ?_ | refine s_field (hr := ?_))
      --@
      rw [ea]
      subst hc2
      exact t_next (q + 1)
    · have hn := hFn q hql he
      have hel : ¬ g.rules[q].left = g.rules[r].left := by rw [e2]; exact he
      clear hFu hFn hFy hu hru hrN hb hpl
      repeat (first | refine wk ?_ | refine s_field (hr := ?_))
      --@
      rw [← hn]
      exact t_next (q + 1)
  · obtain rfl : q = r := by omega
    clear hFu hFn hFy hru hrN
    have ecc : ((sumN q (fR g N w v i j) + rkR g N w g.rules[q].right x.kids i j : Nat) : Int) = ((sumN q (fR g N w v i j) : Nat) : Int) + ((rkR g N w g.rules[q].right x.kids i j : Nat) : Int) := by rw [Int.natCast_add]
    rw [ecc]
    generalize sumN q (fR g N w v i j) = c1 at *
    generalize rkR g N w g.rules[q].right x.kids i j = c2 at *
    repeat (first | refine wk ?_ | refine s_field (hr := ?_))
    --@
    refine s_call [(1000, 1000), (1001, 1001), (1002, 1002)] (hA := hpl) (hr := ?_)
    repeat (first | refine wk ?_ | refine s_field (hr := ?_))
    --@
    exact fin
/-- Which tree of its word it is. -/
def rankF (g : Gram) (x : Tree) : Int × Fault := if (treeFault g x g.start).code = 0 then (if (opF g (wordT g x)).code = 0 then (((rkT g (wcns g (wordT g x) manyC) (wordT g x) x 0 (wordT g x).length : Nat) : Int), ⟨0, 0⟩) else (0, opF g (wordT g x))) else (0, treeFault g x g.start)
end
end Go.Proofs.Ytflgmalhpglklaa
namespace Go.Proofs.Ytflgmalhpglklaa
open Go.RowKit
set_option maxRecDepth 100000
-- SimX

section
variable {t u v' : Bool} {g : Gram} {w : List Int}
theorem byR_low {v x : Int} {rs : List Rule} {m : Nat} (h : x ∈ byR rs v m) : (m : Int) ≤ x := by
  obtain ⟨k, _, e, _⟩ := (byR_mem v rs m x).1 h
  omega
theorem byR_sum {F : Nat → Nat} {v : Int} : ∀ (rs : List Rule) (m x : Nat), (∀ k, ∀ h : k < rs.length, ¬ rs[k].left = v → F (m + k) = 0) → ∀ h : x < (byR rs v m).length, sumN ((byR rs v m)[x]).toNat F = sumN m F + sB F (byR rs v m) x
  | [], m, x, _, h => by simp [byR] at h
  | r :: rs, m, x, hF, h => by
    have ih := fun x h => byR_sum (F := F) (v := v) rs (m + 1) x (fun k hk hn => by rw [show m + 1 + k = m + (k + 1) by omega]; exact hF (k + 1) (by simp; omega) (by simpa using hn)) h
    by_cases e : r.left = v
    · have eb : byR (r :: rs) v m = (m : Int) :: byR rs v (m + 1) := by simp only [byR]; rw [if_pos e]
      simp only [eb] at h ⊢
      cases x with
      | zero => simp [sB]
      | succ x =>
        have := ih x (by simpa using h)
        simp only [List.getElem_cons_succ]
        rw [this]
        simp only [sB, List.take_succ_cons, List.map_cons, List.sum_cons, Int.toNat_natCast, sumN]
        omega
    · have eb : byR (r :: rs) v m = byR rs v (m + 1) := by simp only [byR]; rw [if_neg e]
      have hz := hF 0 (by simp) (by simpa using e)
      rw [Nat.add_zero] at hz
      simp only [eb] at h ⊢
      rw [ih x h]
      simp only [sumN, hz, Nat.add_zero]
theorem byR_rise {v : Int} : ∀ (rs : List Rule) (m : Nat), (byR rs v m).Pairwise (· < ·)
  | [], m => List.Pairwise.nil
  | r :: rs, m => by
    by_cases e : r.left = v
    · have eb : byR (r :: rs) v m = (m : Int) :: byR rs v (m + 1) := by simp only [byR]; rw [if_pos e]
      rw [eb]
      exact List.pairwise_cons.2 ⟨fun y hy => by have := byR_low hy; omega, byR_rise rs (m + 1)⟩
    · have eb : byR (r :: rs) v m = byR rs v (m + 1) := by simp only [byR]; rw [if_neg e]
      rw [eb]; exact byR_rise rs (m + 1)
set_option maxHeartbeats 8000000 in
theorem refRank_gen (hC : ChOk g w) : ∀ x : Tree, RankC t v' g w 0 128 [(1000, ctBx t u g w manyC (wcns g w manyC))] x := by
  refine Tree.ind fun x ih => ?_
  intro v i j hv hij hj hT hx hM
  obtain ⟨r, hr, e1, e2, e3⟩ := isT_iff.1 hT
  obtain ⟨s1, s2⟩ := hC.small
  have hg := hC.ok
  have hlen := hC.len
  have hrl := hg.rules
  have hvm := hg.vars
  have hrr := hg.right _ (List.getElem_mem hr)
  have hhi := hg.hi _ (List.getElem_mem hr)
  have hlo := hg.lo _ (List.getElem_mem hr)
  have htm := hg.terms
  have hk := kids_len hx
  have hfix := wcns_fixN g w manyC
  have hN := fun v i j => wcns_le g w manyC v i j
  have hru := fun (q : Nat) => cRule_sim (t := t) (u := u) hg s1 s2 (by decide) (Nat.le_refl _) hN (q : Int) (i : Int) (j : Int)
  have hof := fun (v a b : Nat) => cOf_sim (g := g) (t := t) (u := u) (M := manyC) (N := wcns g w manyC) s1 (v : Int) (a : Int) (b : Int)
  have hwy := fun (k a : Nat) (h : a ≤ j) => ways_sim (g := g) (t := t) (u := u) (v' := t) (w := w) (rs := g.rules[r].right.drop k) (M := manyC) (N := wcns g w manyC) (i := a) (j := j) (by omega) (by simp; omega) (by decide) (by decide) hN s1 s2 (fun s hs => ⟨hhi s (List.mem_of_mem_drop hs), by have := hlo s (List.mem_of_mem_drop hs); omega⟩) h hj
  have hwy' := fun (k a : Nat) (h : a ≤ j) => by
    have h3 := hwy k a h
    rw [ways_wcn (by decide) h] at h3
    simp only [ints, List.map_drop] at h3
    exact h3
  clear hwy
  have hwo := fun (y : Tree) (v : Nat) (h : fits g y v = true) (h2 : cnt y ≤ 400) => wordOf_sim (t := t) (u := v') hg y v h h2
  have htc := (tree_counted (w := w) hg (by decide : 1 ≤ manyC) hfix x v i j hv hij hj hT.1 hT.2).2 hM
  have htcs := fun (y : Tree) => tree_counted (w := w) hg (by decide : 1 ≤ manyC) hfix y
  have hcntd := fun (rs : List Int) (l : List Tree) (i : Nat) (h1 : ∀ s ∈ rs, s < g.vars) (h2 : i ≤ j) (h3 : IsR g w rs i j l) => row_counted (g := g) (N := wcns g w manyC) (M := manyC) hj rs l i h1 (fun y _ => tree_counted hg (by decide) hfix y) h2 h3.1 h3.2.1 h3.2.2
  have hsm := fun q (hq : q < g.rules.length) => fR_small hfix hv hij hj hM hq
  have hfr : wcn (wcns g w manyC) w g.rules[r].right i j < manyC := by
    have := hsm r hr
    rwa [fR_yes hr e2] at this
  have hrN : ∀ q, ∀ h : q < g.rules.length, g.rules[q].left = (v : Int) → ruC g w manyC (wcns g w manyC) q i j = fR g (wcns g w manyC) w v i j q := fun q h e => by
    unfold ruC
    rw [if_pos (by omega), rightAt_nat h]
    simp only [Int.toNat_natCast]
    have q1 := fR_yes (N := wcns g w manyC) (w := w) (v := v) (i := i) (j := j) h e
    have := hsm q h
    omega
  have eD : g.rules.getD r ⟨0, []⟩ = g.rules[r] := by simp [List.getD_eq_getElem?_getD, hr]
  have hres : rkT g (wcns g w manyC) w x i j = sumN r (fR g (wcns g w manyC) w v i j) + rkR g (wcns g w manyC) w g.rules[r].right x.kids i j := by
    conv => lhs; rw [Tree.eta x]
    rw [rkT_mk, e1, Int.toNat_natCast, eD, e2, rightR_nat hr, Int.toNat_natCast]
  rw [hres] at htc ⊢
  obtain ⟨Q, hQ⟩ : ∃ Q : Int, Q = 4611686018427387904 := ⟨_, rfl⟩
  have hMQ : ((manyC : Nat) : Int) = Q := by rw [hQ]; rfl
  have hb : sumN r (fR g (wcns g w manyC) w v i j) + rkR g (wcns g w manyC) w g.rules[r].right x.kids i j < manyC := by omega
  have hby := rulesOf_sim (t := t) (g := g) (v := (v : Int)) (by omega)
  have hbl : (by_ g (v : Int)).length ≤ g.rules.length := byR_le (v : Int) g.rules 0
  obtain ⟨p, hp, ep⟩ : ∃ p, ∃ h : p < (by_ g (v : Int)).length, (by_ g (v : Int))[p] = (r : Int) := List.mem_iff_getElem.1 (by_mem.2 ⟨r, hr, rfl, e2⟩)
  have hat := fun x (h : x < (by_ g (v : Int)).length) => by_mem.1 (List.getElem_mem h)
  have hlt : ∀ q (h : q < p), (by_ g (v : Int))[q] < (r : Int) := fun q h => by
    rw [← ep]
    exact List.pairwise_iff_getElem.1 (byR_rise (v := (v : Int)) g.rules 0) q p (by show _ < (by_ g (v : Int)).length; omega) hp h
  have hSp : sB (fR g (wcns g w manyC) w v i j) (by_ g v) p = sumN r (fR g (wcns g w manyC) w v i j) := by
    have : sumN ((by_ g (v : Int))[p]).toNat (fR g (wcns g w manyC) w v i j) = sumN 0 (fR g (wcns g w manyC) w v i j) + sB (fR g (wcns g w manyC) w v i j) (by_ g v) p := byR_sum (F := fR g (wcns g w manyC) w v i j) (v := (v : Int)) g.rules 0 p (fun k hk hn => by rw [Nat.zero_add]; exact fR_no hk hn) hp
    rw [ep] at this
    simp only [sumN, Nat.zero_add, Int.toNat_natCast] at this
    exact this.symm
  unfold RankC at ih
  simp only [treeA, e1] at ih ⊢
  simp only [ctBx] at *
  clear hfix hsm hT hM htc hres hN
  generalize wcns g w manyC = N at *
  generalize cubeD false N g.vars.toNat (w.length + 1) = CU at *
  refine ACalls.intro (n := 142) Try.func128 rfl rfl (by simp) (by rfl) ?_
  simp only [argFr]
  repeat (first | refine wk ?_ | refine s_field (hr := ?_))
  --@
  rw [e2]
  refine s_call [(5, 902)] (hA := hby) (hr := ?_)
  repeat (first | refine wk ?_ | refine s_field (hr := ?_))
  --@
  have hBg : ∀ q, ∀ h : q < p, ∃ m, ∃ hm : m < g.rules.length, (by_ g (v : Int))[q] = (m : Int) ∧ g.rules[m].left = (v : Int) := fun q h => hat q (by omega)
  refine t_loop (X := Nat) (fun q => q ≤ p) (fun q => [(11, I q), (10, .own 902 (by_ g v).length), (9, I ((sB (fR g N w v i j) (by_ g v) q : Nat) : Int)), (5, .ptr 5 0), (8, I 0), (0, .ptr 1000 0), (2, I i), (3, I j)])
    (fun _ => [(902, .row 3 1 ((by_ g (v : Int)).map iD)), (5, .box 84 [.d (iD r), .d (treesD v' x.kids)]), (1000, .box 154 [.d (iD g.vars), .d (iD g.terms), .d (iD g.start), .d (rulesD t g.rules), .d (ints u w), .d (iD ((manyC : Nat) : Int)), .d (.sl false 1 CU)])]) (fun q => p - q) 0 (Nat.zero_le _) ?_
  intro q hq
  have hql : q < (by_ g (v : Int)).length := by omega
  by_cases hqr : q < p
  · obtain ⟨m, hm, hb1, hb2⟩ := hat q hql
    have hl := hlt q hqr
    rw [hb1] at hl
    have hs := sB_succ (F := fR g N w v i j) hql
    have hu := sB_up (F := fR g N w v i j) (l := by_ g v) (show q + 1 ≤ p from hqr)
    rw [hb1, Int.toNat_natCast] at hs
    have h1 := hru m
    rw [hrN m hm hb2] at h1
    have ea : ((sB (fR g N w v i j) (by_ g v) q : Nat) : Int) + (fR g N w v i j m : Nat) = ((sB (fR g N w v i j) (by_ g v) (q + 1) : Nat) : Int) := by omega
    have hab : ((sB (fR g N w v i j) (by_ g v) q : Nat) : Int) + (fR g N w v i j m : Nat) < Q := by omega
    clear hs hu hat hlt hSp hru hrN hb hof hwy' hwo htcs hcntd ih hBg
    generalize fR g N w v i j m = c at *
    generalize sB (fR g N w v i j) (by_ g v) q = c1 at *
    generalize hc2 : sB (fR g N w v i j) (by_ g v) (q + 1) = c2 at *
    rw [← hb1] at hl
    repeat (first | refine wk ?_ | refine s_field (hr := ?_))
    --@
    rw [hb1]
    refine s_callU [(1000, 1000)] (hA := h1) (hr := ?_)
    repeat (first | refine wk ?_ | refine s_field (hr := ?_))
    --@
    rw [ea]
    subst hc2
    exact t_next (q + 1)
  obtain rfl : q = p := by omega
  have hl : ¬ (by_ g (v : Int))[q] < (r : Int) := by omega
  rw [hSp]
  clear hat hlt hSp hru hrN hBg
  generalize hT : sumN r (fR g N w v i j) + rkR g N w g.rules[r].right x.kids i j = total at *
  generalize sumN r (fR g N w v i j) = S0 at *
  repeat (first | refine wk ?_ | refine s_field (hr := ?_))
  --@
  refine t_loop (X := Nat × Nat × Nat × Nat) (fun y => y.1 ≤ g.rules[r].right.length ∧ y.2.2.1 ≤ j ∧ IsR g w (g.rules[r].right.drop y.1) y.2.2.1 j (x.kids.drop y.2.1) ∧ wcn N w (g.rules[r].right.drop y.1) y.2.2.1 j < manyC ∧ y.2.2.2 + rkR g N w (g.rules[r].right.drop y.1) (x.kids.drop y.2.1) y.2.2.1 j = total)
    (fun y => [(14, I y.1), (13, I y.2.1), (12, .d (ints t g.rules[r].right)), (9, I y.2.2.2), (5, .ptr 5 0), (8, I 0), (0, .ptr 1000 0), (2, I y.2.2.1), (3, I j)])
    (fun _ => [(5, .box 84 [.d (iD r), .d (treesD v' x.kids)]), (1000, .box 154 [.d (iD g.vars), .d (iD g.terms), .d (iD g.start), .d (rulesD t g.rules), .d (ints u w), .d (iD ((manyC : Nat) : Int)), .d (.sl false 1 CU)])]) (fun y => g.rules[r].right.length - y.1) (0, 0, i, S0) ⟨Nat.zero_le _, hij, by simpa using e3, by simpa using hfr, by simpa using hT⟩ ?_
  rintro ⟨k, q, a, n⟩ ⟨g1, g2, g3, g4, g5⟩
  dsimp only at g1 g2 g3 g4 g5 ⊢
  by_cases hkl : k < g.rules[r].right.length
  rotate_left
  · obtain rfl : k = g.rules[r].right.length := by omega
    rw [List.drop_of_length_le (Nat.le_refl _), rkR_nil] at g5
    obtain rfl : n = total := by omega
    repeat (first | refine wk ?_ | refine s_field (hr := ?_))
    --@
    exact fin
  by_cases hneg : g.rules[r].right[k] < 0
  · obtain ⟨q1, q2, q3⟩ := isR_drop hkl hneg g2 hj g3
    have e4 : wcn N w (g.rules[r].right.drop k) a j = wcn N w (g.rules[r].right.drop (k + 1)) (a + 1) j := by
      rw [List.drop_eq_getElem_cons hkl, wcn_term hneg, if_pos ⟨q2, q3⟩]
    have e5 : rkR g N w (g.rules[r].right.drop k) (x.kids.drop q) a j = rkR g N w (g.rules[r].right.drop (k + 1)) (x.kids.drop q) (a + 1) j := by
      rw [List.drop_eq_getElem_cons hkl, rkR_neg hneg]
    rw [e4] at g4
    rw [e5] at g5
    clear hof hwy' hwo htcs hcntd ih
    repeat (first | refine wk ?_ | refine s_field (hr := ?_))
    --@
    exact t_next (k + 1, q, a + 1, n) (a := ⟨hkl, q2, q1, g4, g5⟩)
  obtain ⟨sn, hsn⟩ : ∃ sn : Nat, g.rules[r].right[k] = (sn : Int) := ⟨g.rules[r].right[k].toNat, by omega⟩
  have hsv : ((sn : Nat) : Int) < g.vars := by rw [← hsn]; exact hhi _ (List.getElem_mem hkl)
  obtain ⟨m, hq2, h1, h2, h3, h4, h5⟩ := isR_pos hkl hsn g2 hj g3
  have hkc := kid_le hx hq2
  have hl2 := hwo x.kids[q] sn h3.1 hkc.1
  have hwl : (wordT g x.kids[q]).length = m - a := isT_len h3 h1 (by omega)
  have hlm : ((a : Nat) : Int) + (((wordT g x.kids[q]).length : Nat) : Int) = (m : Int) := by omega
  have hlm' : a + lenW g x.kids[q] = m := by unfold lenW; omega
  have ec2 := hcntd _ _ _ (fun s hs => hhi s (List.mem_of_mem_drop hs)) h2 h4
  have ec3 := htcs x.kids[q] sn a m hsv h1 (by omega) h3.1 h3.2
  have ew := List.drop_eq_getElem_cons hkl
  rw [hsn] at ew
  rw [h5, ew, rkR_pos (by omega), hlm'] at g5
  rw [ew] at g4
  have hle := fun mm (q1 : a ≤ mm) (q2 : mm ≤ m) => fM_le (N := N) (w := w) (s := (sn : Int)) (r := g.rules[r].right.drop (k + 1)) q1 (show mm ≤ j by omega)
  have hle0 := hle m h1 (Nat.le_refl _)
  rw [symN_nat] at hle0
  have hb1 : N sn a m * 1 ≤ N sn a m * wcn N w (g.rules[r].right.drop (k + 1)) m j := Nat.mul_le_mul_left _ ec2.1
  have hb2 : 1 * wcn N w (g.rules[r].right.drop (k + 1)) m j ≤ N sn a m * wcn N w (g.rules[r].right.drop (k + 1)) m j := Nat.mul_le_mul_right _ ec3.1
  have hra := ih x.kids[q] (List.getElem_mem hq2) sn a m hsv h1 (by omega) h3 hkc.1 (by omega)
  have hpr : ∀ mm, a ≤ mm → mm ≤ m → N sn a mm * min manyC (wcn N w (g.rules[r].right.drop (k + 1)) mm j) = N sn a mm * wcn N w (g.rules[r].right.drop (k + 1)) mm j := fun mm m1 m2 => by
    have := hle mm m1 m2
    rw [symN_nat] at this
    exact min_prod this g4
  have hF1 : ∀ mm, a ≤ mm → sumN (mm + 1) (fM N w sn (g.rules[r].right.drop (k + 1)) a j) = sumN mm (fM N w sn (g.rules[r].right.drop (k + 1)) a j) + N sn a mm * wcn N w (g.rules[r].right.drop (k + 1)) mm j := fun mm m1 => by
    show sumN mm _ + fM N w sn (g.rules[r].right.drop (k + 1)) a j mm = _
    unfold fM; rw [if_pos m1, symN_nat]
  have hFu : ∀ mm, mm ≤ m → sumN mm (fM N w sn (g.rules[r].right.drop (k + 1)) a j) ≤ sumN m (fM N w sn (g.rules[r].right.drop (k + 1)) a j) := fun mm m1 => sumN_up m1
  have hF0 : sumN a (fM N w sn (g.rules[r].right.drop (k + 1)) a j) = 0 := fM_low (Nat.le_refl _)
  have hwlt : wcn N w (g.rules[r].right.drop (k + 1)) m j < manyC := by omega
  have hwm := hwy' (k + 1) m h2
  rw [Nat.min_eq_right (show wcn N w (g.rules[r].right.drop (k + 1)) m j ≤ manyC by omega)] at hwm
  clear ih hwo hcntd htcs ew ec2 ec3 hle hle0 hb1 hb2 h3 h5 g3 g4 hT
  repeat (first | refine wk ?_ | refine s_field (hr := ?_))
  --@
  refine s_call [(900, 905)] (hA := hl2) (hr := ?_)
  repeat (first | refine wk ?_ | refine s_field (hr := ?_))
  rw [hlm]
  repeat (first | refine wk ?_ | refine s_field (hr := ?_))
  --@
  refine t_loop (X := Nat) (fun mm => a ≤ mm ∧ mm ≤ m)
    (fun mm => [(16, I mm), (15, I m), (14, I k), (13, I q), (12, .d (ints t g.rules[r].right)), (9, I ((n + sumN mm (fM N w sn (g.rules[r].right.drop (k + 1)) a j) : Nat) : Int)), (5, .ptr 5 0), (8, I 0), (0, .ptr 1000 0), (2, I a), (3, I j)])
    (fun _ => [(5, .box 84 [.d (iD r), .d (treesD v' x.kids)]), (1000, .box 154 [.d (iD g.vars), .d (iD g.terms), .d (iD g.start), .d (rulesD t g.rules), .d (ints u w), .d (iD ((manyC : Nat) : Int)), .d (.sl false 1 CU)])]) (fun mm => m - mm) a ⟨Nat.le_refl _, h1⟩ ?_ (hf := ⟨.of rfl, .of rfl, .of rfl, .of rfl, .of rfl, VLe.of (by rw [hF0]; rfl), .of rfl, .of rfl, .of rfl, .of rfl, .of rfl, trivial⟩)
  rintro mm ⟨m1, m2⟩
  by_cases hm : mm < m
  · have ho := hof sn a mm
    unfold ofC at ho
    rw [if_pos (by omega)] at ho
    simp only [Int.toNat_natCast] at ho
    have hw2 := hwy' (k + 1) mm (by omega)
    have hp3 := hpr mm m1 m2
    have hu := hFu (mm + 1) hm
    have hu1 := hF1 mm m1
    have em : ((N sn a mm : Nat) : Int) * ((min manyC (wcn N w (g.rules[r].right.drop (k + 1)) mm j) : Nat) : Int) = ((N sn a mm * wcn N w (g.rules[r].right.drop (k + 1)) mm j : Nat) : Int) := by rw [← hp3, Int.natCast_mul]
    have ea : ((n + sumN mm (fM N w sn (g.rules[r].right.drop (k + 1)) a j) : Nat) : Int) + (N sn a mm * wcn N w (g.rules[r].right.drop (k + 1)) mm j : Nat) = ((n + sumN (mm + 1) (fM N w sn (g.rules[r].right.drop (k + 1)) a j) : Nat) : Int) := by omega
    have hab : ((n + sumN mm (fM N w sn (g.rules[r].right.drop (k + 1)) a j) : Nat) : Int) + (N sn a mm * wcn N w (g.rules[r].right.drop (k + 1)) mm j : Nat) < Q := by omega
    clear hpr hF1 hFu hF0 hu hu1 hp3 g5 hof hwy' hra hwm hl2
    generalize N sn a mm * wcn N w (g.rules[r].right.drop (k + 1)) mm j = c at *
    generalize N sn a mm = c1 at *
    generalize min manyC (wcn N w (g.rules[r].right.drop (k + 1)) mm j) = c2 at *
    generalize n + sumN mm (fM N w sn (g.rules[r].right.drop (k + 1)) a j) = c3 at *
    generalize hc4 : n + sumN (mm + 1) (fM N w sn (g.rules[r].right.drop (k + 1)) a j) = c4 at *
    have hmb : (c1 : Int) * (c2 : Int) < Q := by omega
    have hmp : 0 ≤ (c1 : Int) * (c2 : Int) := by omega
    have hab2 : (c3 : Int) + (c1 : Int) * (c2 : Int) < Q := by omega
    repeat (first | refine wk ?_ | refine s_field (hr := ?_))
    --@
    rw [hsn]
    refine s_callU [(1000, 1000)] (hA := ho) (hr := ?_)
    repeat (first | refine wk ?_ | refine s_field (hr := ?_))
    rw [List.take_length]
    refine s_callU [(1000, 1000)] (hA := hw2) (hr := ?_)
    repeat (first | refine wk ?_ | refine s_field (hr := ?_))
    --@
    rw [em, ea]
    subst hc4
    exact t_next (mm + 1)
  obtain rfl : mm = m := by omega
  clear hpr hF1 hFu hF0 hof hwy' hl2
  have eR : n + sumN mm (fM N w sn (g.rules[r].right.drop (k + 1)) a j) + rkT g N w x.kids[q] a mm * wcn N w (g.rules[r].right.drop (k + 1)) mm j + rkR g N w (g.rules[r].right.drop (k + 1)) (x.kids.drop (q + 1)) mm j = total := by omega
  have g4' : wcn N w (g.rules[r].right.drop (k + 1)) mm j < manyC := hwlt
  clear g5
  generalize n + sumN mm (fM N w sn (g.rules[r].right.drop (k + 1)) a j) = c1 at *
  generalize rkT g N w x.kids[q] a mm = c2 at *
  generalize hc3 : wcn N w (g.rules[r].right.drop (k + 1)) mm j = c3 at *
  have em : (c1 : Int) + (c2 : Int) * (c3 : Int) = ((c1 + c2 * c3 : Nat) : Int) := by rw [Int.natCast_add, Int.natCast_mul]
  have hmp : 0 ≤ (c2 : Int) * (c3 : Int) := by rw [← Int.natCast_mul]; omega
  have hab : (c1 : Int) + (c2 : Int) * (c3 : Int) < Q := by rw [em]; omega
  repeat (first | refine wk ?_ | refine s_field (hr := ?_))
  --@
  refine s_call [(1000, 1000)] (hA := hra) (hr := ?_)
  repeat (first | refine wk ?_ | refine s_field (hr := ?_))
  rw [List.take_length]
  refine s_callU [(1000, 1000)] (hA := hwm) (hr := ?_)
  repeat (first | refine wk ?_ | refine s_field (hr := ?_))
  --@
  rw [em]
  exact t_next (k + 1, q + 1, mm, c1 + c2 * c3) (a := ⟨hkl, h2, h4, by dsimp only; rw [hc3]; exact g4', by dsimp only; exact eR⟩) (b := by dsimp only; omega)
end
end Go.Proofs.Ytflgmalhpglklaa
