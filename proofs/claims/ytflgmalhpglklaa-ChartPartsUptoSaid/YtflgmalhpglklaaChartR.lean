/-
  ChartParts returns true.
-/
import Derived.Test.YtflgmalhpglklaaChartM
import Derived.Test.YtflgmalhpglklaaS5
set_option linter.unusedVariables false
set_option linter.unusedSimpArgs false
set_option linter.unusedSectionVars false
namespace Go.Proofs.Ytflgmalhpglklaa
open Go.RowKit
set_option maxRecDepth 100000
-- SimX

theorem u64_pos (i : Int) : 0 ≤ IntKind.u64.wrap i ∧ IntKind.u64.wrap i < 18446744073709551616 := by
  constructor
  · unfold IntKind.wrap; simp [IntKind.bits, IntKind.signed]; omega
  · unfold IntKind.wrap; simp [IntKind.bits, IntKind.signed]; omega
set_option maxHeartbeats 8000000 in
theorem chartParts_sim {g : Gram} {w : List Int} (hr1 : g.rules.length ≤ 100000000) (hr2 : ∀ r ∈ g.rules, r.right.length ≤ 100000000) (hw : w.length ≤ 100000000) (i j : Int) :
    ACalls Try.prog 9 [.d (gramD false g), .d (ints false w), I i, I j] [] (B true) [] := by
  have hf : g.fit := ⟨hr1, hr2⟩
  have hhv := heavy_sim (t := false) (u := false) hf hw
  cases hh : heavyB g w with
  | true =>
    rw [hh] at hhv
    refine ACalls.intro (n := 128) Try.func9 rfl rfl (by simp) (by rfl) ?_
    simp only [argFr]
    repeat (first | refine wk ?_ | refine s_field (hr := ?_))
    refine s_call [] (hA := chartBegun_sim) (hr := ?_)
    repeat (first | refine wk ?_ | refine s_field (hr := ?_))
    refine s_call [] (hA := hhv) (hr := ?_)
    repeat (first | refine wk ?_ | refine s_field (hr := ?_))
    exact fin
  | false =>
  rw [hh] at hhv
  by_cases hc : (chF g w).code = 0
  · obtain ⟨hC, hz⟩ := chF_ok hc
    obtain ⟨s1, s2⟩ := hC.small
    have hg := hC.ok
    have hlen := hC.len
    have hnew := new_some (t := false) (u := false) hC
    have hMN := fun v i j => wcns_le g w manyC v i j
    have hof := of_simC hg hC.cyc s1 s2
    have hru := rule_simC hg hC.cyc s1 s2
    have hsp := split_simC hg hC.cyc s1 s2
    have hfix := wcns_fix g w manyC
    have hall := accC_all (w := w) (M := manyC) (N := wcns g w manyC) hg.left
    rw [hfix] at hall
    have hvv := hg.vars
    have hv1 := hg.vars1
    have hrl := hg.rules
    generalize wcns g w manyC = N at *
    generalize nulB g = NB at *
    refine ACalls.intro (n := 128) Try.func9 rfl rfl (by simp) (by rfl) ?_
    simp only [argFr]
    repeat (first | refine wk ?_ | refine s_field (hr := ?_))
    refine s_call [] (hA := chartBegun_sim) (hr := ?_)
    repeat (first | refine wk ?_ | refine s_field (hr := ?_))
    refine s_call [] (hA := hhv) (hr := ?_)
    repeat (first | refine wk ?_ | refine s_field (hr := ?_))
    --@
    refine s_call [(62, 962), (60, 960)] (hA := hnew) (hr := ?_)
    repeat (first | refine wk ?_ | refine s_field (hr := ?_))
    --@
    refine d_conv (c := IntKind.u64.wrap i) rfl gOk_none rfl Try.underlying3 Try.underlying59 rfl ?_
    have hU0 := (u64_pos i).1
    have hx0 : 0 ≤ IntKind.u64.wrap i % ((w.length : Int) + 1) := Int.emod_nonneg _ (by omega)
    have hx1 : IntKind.u64.wrap i % ((w.length : Int) + 1) < (w.length : Int) + 1 := Int.emod_lt_of_pos _ (by omega)
    generalize IntKind.u64.wrap i = U at *
    obtain ⟨x, hx⟩ : ∃ x : Nat, U % ((w.length : Int) + 1) = (x : Int) := ⟨(U % ((w.length : Int) + 1)).toNat, by omega⟩
    rw [hx] at hx0 hx1
    repeat (first | refine wk ?_ | refine s_field (hr := ?_))
    refine d_conv (c := (w.length : Int) + 1) rfl gOk_none rfl Try.underlying3 Try.underlying59 (IntWalk.u64_in _ ⟨by omega, by omega⟩) ?_
    repeat (first | refine wk ?_ | refine s_field (hr := ?_))
    rw [hx]
    refine d_conv (c := (x : Int)) rfl gOk_none rfl Try.underlying59 Try.underlying3 (IntWalk.i64_in _ ⟨by omega, by omega⟩) ?_
    repeat (first | refine wk ?_ | refine s_field (hr := ?_))
    --@
    refine d_conv (c := IntKind.u64.wrap j) rfl gOk_none rfl Try.underlying3 Try.underlying59 rfl ?_
    have hV0 := (u64_pos j).1
    have hy0 : 0 ≤ IntKind.u64.wrap j % ((w.length : Int) - x + 1) := Int.emod_nonneg _ (by omega)
    have hy1 : IntKind.u64.wrap j % ((w.length : Int) - x + 1) < (w.length : Int) - x + 1 := Int.emod_lt_of_pos _ (by omega)
    generalize IntKind.u64.wrap j = U2 at *
    obtain ⟨z, hz2⟩ : ∃ z : Nat, U2 % ((w.length : Int) - x + 1) = (z : Int) := ⟨(U2 % ((w.length : Int) - x + 1)).toNat, by omega⟩
    rw [hz2] at hy0 hy1
    repeat (first | refine wk ?_ | refine s_field (hr := ?_))
    refine d_conv (c := (w.length : Int) - x + 1) rfl gOk_none rfl Try.underlying3 Try.underlying59 (IntWalk.u64_in _ ⟨by omega, by omega⟩) ?_
    repeat (first | refine wk ?_ | refine s_field (hr := ?_))
    rw [hz2]
    refine d_conv (c := (z : Int)) rfl gOk_none rfl Try.underlying59 Try.underlying3 (IntWalk.i64_in _ ⟨by omega, by omega⟩) ?_
    have hyI : (x : Int) + z = ((x + z : Nat) : Int) := by omega
    obtain ⟨y, hy⟩ : ∃ y : Nat, x + z = y := ⟨_, rfl⟩
    rw [hy] at hyI
    repeat (first | refine wk ?_ | refine s_field (hr := ?_))
    rw [hyI]
    --@
    obtain ⟨V, hVi⟩ : ∃ V : Nat, g.vars = (V : Int) := ⟨g.vars.toNat, by omega⟩
    have hyl : y ≤ w.length := by omega
    have hxy : x ≤ y := by omega
    repeat (first | refine wk ?_ | refine s_field (hr := ?_))
    have e : List.replicate V (iD 0) = natsD V (fun v => accC g w manyC N 0 v x y) := by rw [natsD_zero, accC_zero]
    refine t_loop (X := Nat) (fun r => r ≤ g.rules.length) (fun r => [(14, I r), (13, .own 55 V), (12, I y), (11, I x), (9, .ptr 962 0), (4, .ptr 4 0)]) (fun r => [(55, .row 3 1 (natsD V (fun v => accC g w manyC N r v x y))), (4, gramBox false g), (962, cxBx g w NB 960), (960, .mp (goodM N))]) (fun r => g.rules.length - r) 0 (Nat.zero_le _) ?_
    clear e
    intro r hr
    have hnl0 := natsD_len V (fun v => accC g w manyC N r v x y)
    by_cases hlt : r < g.rules.length
    · obtain ⟨v0, hv0⟩ : ∃ v0 : Nat, g.rules[r].left = (v0 : Int) := ⟨g.rules[r].left.toNat, by have := hg.left0 _ (List.getElem_mem hlt); omega⟩
      have hvl := hg.left _ (List.getElem_mem hlt)
      have hv0V : v0 < V := by omega
      have hrr := hg.right _ (List.getElem_mem hlt)
      have h1 := hru r x y
      have e1 : ruC g w manyC N r x y = min manyC (wcn N w g.rules[r].right x y) := by unfold ruC; rw [if_pos (by omega), rightAt_nat hlt]; simp only [Int.toNat_natCast]
      rw [e1] at h1
      have hacc := accC_this (w := w) (M := manyC) (N := N) hlt hv0 hxy hyl
      have hpl := plus_simC (a := accC g w manyC N r v0 x y) (b := min manyC (wcn N w g.rules[r].right x y)) (accC_le _ _ _ _) (Nat.min_le_left _ _)
      rw [← hacc] at hpl
      have hng : (natsD V (fun v => accC g w manyC N r v x y))[v0]? = some (iD ((accC g w manyC N r v0 x y : Nat) : Int)) := natsD_get (a := fun v => accC g w manyC N r v x y) hv0V
      have e : (natsD V (fun v => accC g w manyC N r v x y)).set v0 (iD ((accC g w manyC N (r + 1) v0 x y : Nat) : Int)) = natsD V (fun v => accC g w manyC N (r + 1) v x y) := by
        rw [natsD_set]
        refine natsD_congr fun v _ => ?_
        by_cases ev : v = v0
        · subst ev; rw [if_pos rfl]
        · rw [if_neg ev]; exact (accC_other hlt (fun q => ev (by omega))).symm
      generalize natsD V (fun v => accC g w manyC N r v x y) = SR at *
      generalize accC g w manyC N r v0 x y = s0 at *
      by_cases hrz : g.rules[r].right = []
      · have hrz' : g.rules[r].right.length = 0 := by rw [hrz]; rfl
        generalize min manyC (wcn N w g.rules[r].right x y) = R at *
        repeat (first | refine wk ?_ | refine s_field (hr := ?_))
        refine s_callU [(1000, 962), (1001, 960)] (hA := h1) (hr := ?_)
        repeat (first | refine wk ?_ | refine s_field (hr := ?_))
        --@
        refine s_callU [] (hA := hpl) (hr := ?_)
        repeat (first | refine wk ?_ | refine s_field (hr := ?_))
        --@
        exact t_next (r + 1)
      · have hrz' : ¬ (g.rules[r].right.length : Int) = 0 := by
          intro h; exact hrz (List.eq_nil_of_length_eq_zero (by omega))
        have hrp : 0 < g.rules[r].right.length := by omega
        obtain ⟨s, rest, hsr⟩ : ∃ s rest, g.rules[r].right = s :: rest := by
          cases hq : g.rules[r].right with
          | nil => exact absurd hq hrz
          | cons a l => exact ⟨a, l, rfl⟩
        have hR : wcn N w g.rules[r].right x y = sumN (y + 1) fun m => if x ≤ m then symN N w s x m * wcn N w rest m y else 0 := by rw [hsr]; rfl
        have h2 : ∀ m, x ≤ m → m ≤ y → spC g w manyC N r 0 x m y = min manyC (symN N w s x m * wcn N w rest m y) := fun m m1 m2 => by
          unfold spC
          rw [rightAt_nat hlt, if_pos (by omega)]
          simp only [Int.toNat_natCast, hsr]
          rfl
        have h3 := fun m (m1 : x ≤ m) (m2 : m ≤ y) => (h2 m m1 m2) ▸ hsp r 0 x m y
        have hst2 : ∀ m, x ≤ m → min manyC (min manyC (sumN m fun m => if x ≤ m then symN N w s x m * wcn N w rest m y else 0) + min manyC (symN N w s x m * wcn N w rest m y)) = min manyC (sumN (m + 1) fun m => if x ≤ m then symN N w s x m * wcn N w rest m y else 0) := fun m hm => by
          rw [min_add_r, min_add_l]
          simp only [sumN, if_pos hm]
        have hpl2 := fun m (hm : x ≤ m) => plus_simC (a := min manyC (sumN m fun m => if x ≤ m then symN N w s x m * wcn N w rest m y else 0)) (b := min manyC (symN N w s x m * wcn N w rest m y)) (Nat.min_le_left _ _) (Nat.min_le_left _ _)
        have hzz : (sumN x fun m => if x ≤ m then symN N w s x m * wcn N w rest m y else 0) = 0 := sumN_zero (fun x hx => by rw [if_neg (by omega)])
        rw [hR] at h1 hpl
        generalize hFF : (fun m => if x ≤ m then symN N w s x m * wcn N w rest m y else 0) = F at *
        repeat (first | refine wk ?_ | refine s_field (hr := ?_))
        refine s_callU [(1000, 962), (1001, 960)] (hA := h1) (hr := ?_)
        repeat (first | refine wk ?_ | refine s_field (hr := ?_))
        refine s_callU [] (hA := hpl) (hr := ?_)
        repeat (first | refine wk ?_ | refine s_field (hr := ?_))
        --@
        have e2 : (0 : Int) = ((min manyC (sumN x F) : Nat) : Int) := by rw [hzz]; rfl
        refine t_loop (X := Nat) (fun m => x ≤ m ∧ m ≤ y + 1) (fun m => [(17, I m), (16, I ((min manyC (sumN m F) : Nat) : Int)), (15, I ((min manyC (sumN (y + 1) F) : Nat) : Int)), (14, I r), (13, .own 55 V), (12, I y), (11, I x), (9, .ptr 962 0), (4, .ptr 4 0)]) (fun _ => [(55, .row 3 1 (natsD V (fun v => accC g w manyC N (r + 1) v x y))), (4, gramBox false g), (962, cxBx g w NB 960), (960, .mp (goodM N))]) (fun m => y + 1 - m) x ⟨Nat.le_refl _, by omega⟩ ?_ (hf := ⟨.of rfl, VLe.of (by show I 0 = _; rw [e2]), .of rfl, .of rfl, .of rfl, .of rfl, .of rfl, .of rfl, .of rfl, trivial⟩) (hh := ⟨row_eq rfl e, .of rfl, .of rfl, .of rfl, trivial⟩)
        rintro m ⟨m1, m2⟩
        by_cases hmy : m ≤ y
        · have hs3 := h3 m m1 hmy
          have hp3 := hpl2 m m1
          rw [hst2 m m1] at hp3
          generalize min manyC (symN N w s x m * wcn N w rest m y) = fm at *
          generalize min manyC (sumN m F) = a0 at *
          generalize hb0 : min manyC (sumN (m + 1) F) = b0 at *
          repeat (first | refine wk ?_ | refine s_field (hr := ?_))
          refine s_callU [(1000, 962), (1001, 960)] (hA := hs3) (hr := ?_)
          repeat (first | refine wk ?_ | refine s_field (hr := ?_))
          refine s_callU [] (hA := hp3) (hr := ?_)
          repeat (first | refine wk ?_ | refine s_field (hr := ?_))
          --@
          subst hb0
          exact t_next (m + 1)
        · obtain rfl : m = y + 1 := by omega
          repeat (first | refine wk ?_ | refine s_field (hr := ?_))
          --@
          exact t_next (r + 1)
    · obtain rfl : r = g.rules.length := by omega
      rw [hall]
      rw [hall] at hnl0
      repeat (first | refine wk ?_ | refine s_field (hr := ?_))
      refine t_loop (X := Nat) (fun v => v ≤ V) (fun v => [(18, I v), (13, .own 55 V), (12, I y), (11, I x), (9, .ptr 962 0), (4, .ptr 4 0)]) (fun _ => [(55, .row 3 1 (natsD V (fun v => N v x y))), (4, gramBox false g), (962, cxBx g w NB 960), (960, .mp (goodM N))]) (fun v => V - v) 0 (Nat.zero_le _) ?_
      intro v hv
      by_cases hlv : v < V
      · have h4 := hof v x y
        have e4 : ofC g w N v x y = N v x y := by unfold ofC; rw [if_pos (by omega)]; simp only [Int.toNat_natCast]
        rw [e4] at h4
        have hng : (natsD V (fun v => N v x y))[v]? = some (iD ((N v x y : Nat) : Int)) := natsD_get (a := fun v => N v x y) hlv
        have hlv' : (v : Int) < g.vars := by omega
        generalize natsD V (fun v => N v x y) = SR at *
        generalize N v x y = nv at *
        repeat (first | refine wk ?_ | refine s_field (hr := ?_))
        refine s_callU [(1000, 962), (1001, 960)] (hA := h4) (hr := ?_)
        repeat (first | refine wk ?_ | refine s_field (hr := ?_))
        --@
        exact t_next (v + 1)
      · have hlv' : ¬ (v : Int) < g.vars := by omega
        repeat (first | refine wk ?_ | refine s_field (hr := ?_))
        exact fin
  · have hnn := new_none (t := false) (u := false) hf hw hc
    generalize chF g w = cf at *
    obtain ⟨cc, ca⟩ := cf
    dsimp only at hc
    refine ACalls.intro (n := 128) Try.func9 rfl rfl (by simp) (by rfl) ?_
    simp only [argFr]
    repeat (first | refine wk ?_ | refine s_field (hr := ?_))
    refine s_call [] (hA := chartBegun_sim) (hr := ?_)
    repeat (first | refine wk ?_ | refine s_field (hr := ?_))
    refine s_call [] (hA := hhv) (hr := ?_)
    repeat (first | refine wk ?_ | refine s_field (hr := ?_))
    refine s_call [] (hA := hnn) (hr := ?_)
    repeat (first | refine wk ?_ | refine s_field (hr := ?_))
    exact fin
end Go.Proofs.Ytflgmalhpglklaa
