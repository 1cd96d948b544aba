/-
  ChartCounts returns true.
-/
import Derived.Test.YtflgmalhpglklaaChartM
import Derived.Test.YtflgmalhpglklaaS5
set_option linter.unusedVariables false
set_option linter.unusedSimpArgs false
set_option linter.unusedSectionVars false
namespace Go.Proofs.Ytflgmalhpglklaa
open Go.RowKit
set_option maxRecDepth 100000
-- SimX

set_option maxHeartbeats 8000000 in
theorem chartCounts_sim {g : Gram} {w : List Int} (hr1 : g.rules.length ≤ 100000000) (hr2 : ∀ r ∈ g.rules, r.right.length ≤ 100000000) (hw : w.length ≤ 100000000) (a b i m j : Int) :
    ACalls Try.prog 8 [.d (gramD false g), .d (ints false w), I a, I b, I i, I m, I j] [] (B true) [] := by
  have hf : g.fit := ⟨hr1, hr2⟩
  have hhv := heavy_sim (t := false) (u := false) hf hw
  have hog := ownGram_sim (t := false) hf
  have hcf := chartFault_sim (t := false) (u := false) hf hw
  have hsg := sameGram_sim (t := false) (u := false) hf hf
  rw [decide_eq_true (rfl : g = g)] at hsg
  have hsi := sameInts_sim (t := false) (u := false) (xs := w) (ys := w) hw hw
  rw [decide_eq_true (rfl : w = w)] at hsi
  cases hh : heavyB g w with
  | true =>
    rw [hh] at hhv
    refine ACalls.intro (n := 142) Try.func8 rfl rfl (by simp) (by rfl) ?_
    simp only [argFr]
    repeat (first | refine wk ?_ | refine s_field (hr := ?_))
    refine s_call [] (hA := chartBegun_sim) (hr := ?_)
    repeat (first | refine wk ?_ | refine s_field (hr := ?_))
    refine s_call [] (hA := hhv) (hr := ?_)
    repeat (first | refine wk ?_ | refine s_field (hr := ?_))
    exact fin
  | false =>
  rw [hh] at hhv
  by_cases hc : (chF g w).code = 0
  · obtain ⟨hC, hz⟩ := chF_ok hc
    rw [hz] at hcf
    obtain ⟨s1, s2⟩ := hC.small
    have hg := hC.ok
    have hnew := new_some (t := false) (u := false) hC
    have hcs := countsOf_sim (t := false) (u := false) (w := w) (M := manyC) hg s1 s2 (by decide) (Nat.le_refl _)
    have hMN := fun v i j => wcns_le g w manyC v i j
    have hct := count_simC hg hC.cyc s1 s2
    have hof := of_simC hg hC.cyc s1 s2
    have hru := rule_simC hg hC.cyc s1 s2
    have hsp := split_simC hg hC.cyc s1 s2
    have hof2 := cOf_sim (g := g) (t := false) (u := false) (M := manyC) (N := wcns g w manyC) s1
    have hru2 := cRule_sim (N := wcns g w manyC) hg (t := false) (u := false) s1 s2 (by decide) (Nat.le_refl manyC) hMN
    have hsp2 := cSplit_sim (N := wcns g w manyC) hg (t := false) (u := false) s1 s2 (by decide) (Nat.le_refl manyC) hMN
    have hlen := hC.len
    have hvv := hg.vars
    have hv1 := hg.vars1
    generalize hNN : wcns g w manyC = N at *
    generalize nulB g = NB at *
    have ho0 := hof2 g.start 0 w.length
    have ho1 := hof a i j
    have ho2 := hof2 a i j
    have hr3 := hru a i j
    have hr4 := hru2 a i j
    have hs3 := hsp a b i m j
    have hs4 := hsp2 a b i m j
    generalize ofC g w N g.start 0 w.length = k0 at *
    generalize ofC g w N a i j = k1 at *
    generalize ruC g w manyC N a i j = k2 at *
    generalize spC g w manyC N a b i m j = k3 at *
    refine ACalls.intro (n := 142) Try.func8 rfl rfl (by simp) (by rfl) ?_
    simp only [argFr]
    repeat (first | refine wk ?_ | refine s_field (hr := ?_))
    refine s_call [] (hA := chartBegun_sim) (hr := ?_)
    repeat (first | refine wk ?_ | refine s_field (hr := ?_))
    refine s_call [] (hA := hhv) (hr := ?_)
    repeat (first | refine wk ?_ | refine s_field (hr := ?_))
    refine s_call [(900, 954)] (hA := hog) (hr := ?_)
    repeat (first | refine wk ?_ | refine s_field (hr := ?_))
    --@
    refine s_call [(62, 962), (60, 960)] (hA := hnew) (hr := ?_)
    repeat (first | refine wk ?_ | refine s_field (hr := ?_))
    --@
    refine s_call [] (hA := hcf) (hr := ?_)
    repeat (first | refine wk ?_ | refine s_field (hr := ?_))
    --@
    refine s_call [(21, 921)] (hA := hcs) (hr := ?_)
    repeat (first | refine wk ?_ | refine s_field (hr := ?_))
    --@
    refine s_callU [(1000, 962), (1001, 960)] (hA := hct) (hr := ?_)
    repeat (first | refine wk ?_ | refine s_field (hr := ?_))
    refine s_callU [(1000, 921)] (hA := ho0) (hr := ?_)
    repeat (first | refine wk ?_ | refine s_field (hr := ?_))
    refine s_callU [(1000, 962), (1001, 960)] (hA := ho1) (hr := ?_)
    repeat (first | refine wk ?_ | refine s_field (hr := ?_))
    refine s_callU [(1000, 921)] (hA := ho2) (hr := ?_)
    repeat (first | refine wk ?_ | refine s_field (hr := ?_))
    refine s_callU [(1000, 962), (1001, 960)] (hA := hr3) (hr := ?_)
    repeat (first | refine wk ?_ | refine s_field (hr := ?_))
    refine s_callU [(1000, 921)] (hA := hr4) (hr := ?_)
    repeat (first | refine wk ?_ | refine s_field (hr := ?_))
    refine s_callU [(1000, 962), (1001, 960)] (hA := hs3) (hr := ?_)
    repeat (first | refine wk ?_ | refine s_field (hr := ?_))
    refine s_callU [(1000, 921)] (hA := hs4) (hr := ?_)
    repeat (first | refine wk ?_ | refine s_field (hr := ?_))
    --@
    refine t_loop (X := Nat) (fun v => v ≤ g.vars.toNat) (fun v => [(21, I v), (20, .ptr 921 0), (17, .ptr 962 0), (16, .own 33 w.length), (15, .ptr 15 0), (7, .ptr 7 0), (1, .d (ints false w))]) (fun _ => [(7, gramBox false g), (15, .box 24 [.d (iD g.vars), .d (iD g.terms), .d (iD g.start), .own 954 g.rules.length]), (954, .froz 2 (g.rules.map (ruleD false))), (33, .froz 1 (w.map iD)), (962, cxBx g w NB 960), (960, .mp (goodM N)), (921, ctBx false false g w manyC N)]) (fun v => g.vars.toNat - v) 0 (Nat.zero_le _) ?_ (hf := ⟨.of rfl, .of rfl, .of rfl, own_eq rfl (by simp), .of rfl, .of rfl, .of rfl, trivial⟩)
    intro v hv
    by_cases hvl : v < g.vars.toNat
    · have hvl' : (v : Int) < g.vars := by omega
      repeat (first | refine wk ?_ | refine s_field (hr := ?_))
      refine t_loop (X := Nat) (fun x => x ≤ w.length + 1) (fun x => [(22, I x), (21, I v), (20, .ptr 921 0), (17, .ptr 962 0), (16, .own 33 w.length), (15, .ptr 15 0), (7, .ptr 7 0), (1, .d (ints false w))]) (fun _ => [(7, gramBox false g), (15, .box 24 [.d (iD g.vars), .d (iD g.terms), .d (iD g.start), .own 954 g.rules.length]), (954, .froz 2 (g.rules.map (ruleD false))), (33, .froz 1 (w.map iD)), (962, cxBx g w NB 960), (960, .mp (goodM N)), (921, ctBx false false g w manyC N)]) (fun x => w.length + 1 - x) 0 (Nat.zero_le _) ?_
      intro x hx
      by_cases hxl : x ≤ w.length
      · repeat (first | refine wk ?_ | refine s_field (hr := ?_))
        refine t_loop (X := Nat) (fun y => x ≤ y ∧ y ≤ w.length + 1) (fun y => [(23, I y), (22, I x), (21, I v), (20, .ptr 921 0), (17, .ptr 962 0), (16, .own 33 w.length), (15, .ptr 15 0), (7, .ptr 7 0), (1, .d (ints false w))]) (fun _ => [(7, gramBox false g), (15, .box 24 [.d (iD g.vars), .d (iD g.terms), .d (iD g.start), .own 954 g.rules.length]), (954, .froz 2 (g.rules.map (ruleD false))), (33, .froz 1 (w.map iD)), (962, cxBx g w NB 960), (960, .mp (goodM N)), (921, ctBx false false g w manyC N)]) (fun y => w.length + 1 - y) x ⟨Nat.le_refl _, by omega⟩ ?_
        rintro y ⟨y1, y2⟩
        by_cases hyl : y ≤ w.length
        · have hoa := hof v x y
          have hob := hof2 v x y
          generalize ofC g w N v x y = kk at *
          repeat (first | refine wk ?_ | refine s_field (hr := ?_))
          refine s_callU [(1000, 962), (1001, 960)] (hA := hoa) (hr := ?_)
          repeat (first | refine wk ?_ | refine s_field (hr := ?_))
          refine s_callU [(1000, 921)] (hA := hob) (hr := ?_)
          repeat (first | refine wk ?_ | refine s_field (hr := ?_))
          exact t_next (y + 1)
        · obtain rfl : y = w.length + 1 := by omega
          repeat (first | refine wk ?_ | refine s_field (hr := ?_))
          exact t_next (x + 1)
      · obtain rfl : x = w.length + 1 := by omega
        repeat (first | refine wk ?_ | refine s_field (hr := ?_))
        exact t_next (v + 1)
    · have hvl' : ¬ (v : Int) < g.vars := by omega
      repeat (first | refine wk ?_ | refine s_field (hr := ?_))
      --@
      refine s_call [] (hA := hsg) (hr := ?_)
      repeat (first | refine wk ?_ | refine s_field (hr := ?_))
      refine s_call [] (hA := hsi) (hr := ?_)
      repeat (first | refine wk ?_ | refine s_field (hr := ?_))
      exact fin
  · have hnn := new_none (t := false) (u := false) hf hw hc
    generalize chF g w = cf at *
    obtain ⟨cc, ca⟩ := cf
    dsimp only at hc
    refine ACalls.intro (n := 142) Try.func8 rfl rfl (by simp) (by rfl) ?_
    simp only [argFr]
    repeat (first | refine wk ?_ | refine s_field (hr := ?_))
    refine s_call [] (hA := chartBegun_sim) (hr := ?_)
    repeat (first | refine wk ?_ | refine s_field (hr := ?_))
    refine s_call [] (hA := hhv) (hr := ?_)
    repeat (first | refine wk ?_ | refine s_field (hr := ?_))
    refine s_call [(900, 954)] (hA := hog) (hr := ?_)
    repeat (first | refine wk ?_ | refine s_field (hr := ?_))
    refine s_call [] (hA := hnn) (hr := ?_)
    repeat (first | refine wk ?_ | refine s_field (hr := ?_))
    refine s_call [] (hA := hcf) (hr := ?_)
    repeat (first | refine wk ?_ | refine s_field (hr := ?_))
    --@
    exact fin
end Go.Proofs.Ytflgmalhpglklaa
