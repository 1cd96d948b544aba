/-
  Sim: fragBegun, FragChecks, FragBacks return true. Sim: FragChecks, FragBacks return true.
-/
import Derived.Test.YtgcagjamjdnglaaFrJ
import Derived.Test.YtgcagjamjdnglaaS5
set_option linter.unusedVariables false
set_option linter.unusedSimpArgs false
set_option linter.unusedSectionVars false
namespace Go.Proofs.Ytgcagjamjdnglaa
open Go.RowKit
set_option maxRecDepth 100000
-- SimX

def stB : Step := ⟨againG, [nodeF 0 1, nodeF 1 0], []⟩
def stB0 : Step := ⟨againG, [[], nodeF 1 0], []⟩
theorem stB_fit : stB.fit := ⟨⟨by decide, by decide⟩, by decide, by decide, by decide⟩
theorem stB0_fit : stB0.fit := ⟨⟨by decide, by decide⟩, by decide, by decide, by decide⟩
theorem backB_eq : backS againG stB tB = (tB, ⟨0, 0⟩) := by kernel_rfl
theorem checkB0_eq : stepFault againG stB0 = ⟨14, 0⟩ := by kernel_rfl
set_option maxHeartbeats 2000000 in
theorem fragBegun_sim : ACalls Try.prog 26 [] [] (B true) [] := by
  refine ACalls.intro (n := 40) Try.func26 rfl rfl (by simp) (by rfl) ?_
  simp only [argFr]
  have hb := back_sim (t1 := false) (t2 := true) (t3 := false) (old := againG) (s := stB) (x := tB) stB_fit.g stB_fit (by decide)
  rw [backB_eq] at hb
  have hb' : ACalls Try.prog 32 [.d (gramD false againG), .d (.agg [iD againG.vars, iD againG.terms, iD againG.start, rulesD true againG.rules, .sl true 1 [fragsD true (nodeF 0 1), fragsD true (nodeF 1 0)], nilT]), .d (.agg [iD 0, .sl false 2 [.agg [iD 1, nilT]]])] [] (.tup [.d (treeA false tB), .d (faultD ⟨0, 0⟩)]) [] :=
    hb.le ⟨.refl _, .agg (.cons (.refl _) (.cons (.refl _) (.cons (.refl _) (.cons (.refl _) (.cons (.refl _) (.cons (.nil _ _) .nil)))))), .agg (.cons (.refl _) (.cons (.sl (.cons (.agg (.cons (.refl _) (.cons (.nil _ _) .nil))) .nil)) .nil)), trivial⟩
  have hk := fragCheck_sim (t := false) (u := false) (old := againG) (s := stB0) stB_fit.g stB0_fit
  rw [checkB0_eq] at hk
  have hk' : ACalls Try.prog 29 [.d (gramD false againG), .d (.agg [iD againG.vars, iD againG.terms, iD againG.start, rulesD false againG.rules, .sl false 1 [nilT, fragsD false (nodeF 1 0)], nilT])] [] (.d (faultD ⟨14, 0⟩)) [] :=
    hk.le ⟨.refl _, .agg (.cons (.refl _) (.cons (.refl _) (.cons (.refl _) (.cons (.refl _) (.cons (.sl (.cons (.nil _ _) (.cons (.refl _) .nil))) (.cons (.nil _ _) .nil)))))), trivial⟩
  have hs := sameTree_sim (t := false) (u := false) (x := tB) (y := tB) (by decide) (by decide)
  rw [ordT_refl, decide_eq_true rfl] at hs
  have hs' : ACalls Try.prog 34 [.d (.agg [iD 0, .sl false 2 [.agg [iD 1, nilT]]]), .d (treeA false tB)] [] (B true) [] :=
    hs.le ⟨.agg (.cons (.refl _) (.cons (.sl (.cons (.agg (.cons (.refl _) (.cons (.nil _ _) .nil))) .nil)) .nil)), .refl _, trivial⟩
  have hv1 : D.views [iD againG.vars, iD againG.terms, iD againG.start, rulesD false againG.rules] = [iD againG.vars, iD againG.terms, iD againG.start, rulesD true againG.rules] := by kernel_rfl
  have hv2 : D.views [fragsD false (nodeF 0 1), fragsD false (nodeF 1 0)] = [fragsD true (nodeF 0 1), fragsD true (nodeF 1 0)] := by kernel_rfl
  have hcl : V.clean (.tup [.d (treeA false tB), .d (faultD ⟨0, 0⟩)]) := by simp [V.clean, V.cleans, D.clean, D.cleans, trees_clean_map]; exact ⟨trivial, trivial, trivial, trivial⟩
  have hv3 : D.views [nilT] = [nilT] := by kernel_rfl
  --@
  repeat (first | refine wk ?_ | refine s_field (hr := ?_))
  refine s_call [] (hA := again_sim) (hr := ?_)
  repeat (first | refine wk ?_ | refine s_field (hr := ?_))
  refine s_call [(20, 901)] (hA := node_sim (r := 0) (k := 1)) (hr := ?_)
  repeat (first | refine wk ?_ | refine s_field (hr := ?_))
  refine s_call [(20, 902)] (hA := node_sim (r := 1) (k := 0)) (hr := ?_)
  repeat (first | refine wk ?_ | refine s_field (hr := ?_))
  --@
  refine s_call [] (ha := CArgs.cons (CArg.emb (x := gramD false againG) (.agg (.cons (.d _) (.cons (.d _) (.cons (.d _) (.cons (.d _) .nil)))))) (CArgs.cons (CArg.aggvw (k := 10) (n := 2) (sz := 1) (pre := [iD againG.vars, iD againG.terms, iD againG.start, rulesD false againG.rules]) (post := [nilT]) (xs := [fragsD false (nodeF 0 1), fragsD false (nodeF 1 0)]) rfl rfl rfl hv2 hv1 hv3) (CArgs.cons (CArg.emb (x := .agg [iD 0, .sl false 2 [.agg [iD 1, nilT]]]) (.agg (.cons (.d _) (.cons (.own rfl rfl) .nil)))) CArgs.nil))) (hA := hb') (hcl := .inr ⟨hcl, by exact trivial⟩) (hr := ?_)
  repeat (first | refine wk ?_ | refine s_field (hr := ?_))
  --@
  refine s_callf [] (hA := hs') (hr := ?_)
  repeat (first | refine wk ?_ | refine s_field (hr := ?_))
  --@
  refine s_callf [] (hA := hk') (hr := ?_)
  repeat (first | refine wk ?_ | refine s_field (hr := ?_))
  --@
  exact fin
end Go.Proofs.Ytgcagjamjdnglaa
namespace Go.Proofs.Ytgcagjamjdnglaa
open Go.RowKit
set_option maxRecDepth 100000
-- SimX

theorem decF (f : Fault) : decide (f = f) = true := by simp
set_option maxHeartbeats 4000000 in
theorem fragChecks_sim {g : Gram} {s : Step} (hf : g.fit) (hs : s.fit) : ACalls Try.prog 5 [.d (gramD false g), .d (stepD false s)] [] (B true) [] := by
  refine ACalls.intro (n := 28) Try.func5 rfl rfl (by simp) (by rfl) ?_
  simp only [argFr]
  have hl := hf.rules
  have hr := hf.right
  have hk := fragCheck_sim (t := false) (u := false) hf hs
  have hst := stepFault_sim (t := false) (u := false) hf hs
  have q2 := decF (stepFault g s)
  generalize stepFault g s = fl at *
  repeat (first | refine wk ?_ | refine s_field (hr := ?_))
  refine s_call [] (hA := fragBegun_sim) (hr := ?_)
  repeat (first | refine wk ?_ | refine s_field (hr := ?_))
  refine s_call [] (hA := greatGram_sim hl hr) (hr := ?_)
  cases h1 : greatG g with
  | true => repeat (first | refine wk ?_ | refine s_field (hr := ?_)); exact fin
  | false =>
  repeat (first | refine wk ?_ | refine s_field (hr := ?_))
  refine s_call [] (hA := greatStep_sim hs) (hr := ?_)
  cases h2 : greatS s with
  | true => repeat (first | refine wk ?_ | refine s_field (hr := ?_)); exact fin
  | false =>
  repeat (first | refine wk ?_ | refine s_field (hr := ?_))
  refine s_call [] (hA := ownStep_sim hs) (hr := ?_)
  repeat (first | refine wk ?_ | refine s_field (hr := ?_))
  refine s_call [] (hA := hk) (hr := ?_)
  repeat (first | refine wk ?_ | refine s_field (hr := ?_))
  refine s_call [] (hA := hst) (hr := ?_)
  repeat (first | refine wk ?_ | refine s_field (hr := ?_))
  refine s_call [] (hA := sameStep_sim (t := false) (u := false) hs) (hr := ?_)
  repeat (first | refine wk ?_ | refine s_field (hr := ?_))
  exact fin
theorem zeroTree_cnt : cnt zeroTree ≤ 400 := by decide
theorem back_cnt {old : Gram} {s : Step} {x : Tree} : cnt (backS old s x).1 ≤ 400 := by
  unfold backS
  split
  · split
    · split
      · exact zeroTree_cnt
      · rename_i y hy
        have := valT_cnt hy
        simp only [cnts] at this
        split
        · show cnt y ≤ 400; omega
        · exact zeroTree_cnt
      · exact zeroTree_cnt
    · exact zeroTree_cnt
  · exact zeroTree_cnt
set_option maxHeartbeats 4000000 in
theorem fragBacks_sim {g : Gram} {s : Step} {x : Tree} (hf : g.fit) (hs : s.fit) (hx : cnt x ≤ 100000000) : ACalls Try.prog 6 [.d (gramD false g), .d (stepD false s), .d (treeA false x)] [] (B true) [] := by
  refine ACalls.intro (n := 61) Try.func6 rfl rfl (by simp) (by rfl) ?_
  simp only [argFr]
  have hl := hf.rules
  have hr := hf.right
  have hk := back_sim (t1 := false) (t2 := false) (t3 := false) hf hs hx
  obtain ⟨ub, hst⟩ := backOf_sim (t1 := false) (t2 := false) (t3 := false) hf hs hx
  have hbc := back_cnt (old := g) (s := s) (x := x)
  have q2 := decF (backS g s x).2
  have ss := sameTree_sim (t := false) (u := ub) (x := (backS g s x).1) (y := (backS g s x).1) (by omega) (by omega)
  have sx := sameTree_sim (t := false) (u := false) (x := x) (y := x) hx hx
  rw [ordT_refl, decide_eq_true rfl] at ss sx
  generalize backS g s x = R at *
  obtain ⟨y, fl⟩ := R
  dsimp only at *
  repeat (first | refine wk ?_ | refine s_field (hr := ?_))
  refine s_call [] (hA := fragBegun_sim) (hr := ?_)
  repeat (first | refine wk ?_ | refine s_field (hr := ?_))
  refine s_call [] (hA := greatGram_sim hl hr) (hr := ?_)
  cases h1 : greatG g with
  | true => repeat (first | refine wk ?_ | refine s_field (hr := ?_)); exact fin
  | false =>
  repeat (first | refine wk ?_ | refine s_field (hr := ?_))
  refine s_call [] (hA := greatStep_sim hs) (hr := ?_)
  cases h2 : greatS s with
  | true => repeat (first | refine wk ?_ | refine s_field (hr := ?_)); exact fin
  | false =>
  repeat (first | refine wk ?_ | refine s_field (hr := ?_))
  refine s_call [] (hA := greatTree_sim hx) (hr := ?_)
  cases h3 : great3 x with
  | true => repeat (first | refine wk ?_ | refine s_field (hr := ?_)); exact fin
  | false =>
  repeat (first | refine wk ?_ | refine s_field (hr := ?_))
  refine s_call [] (hA := ownStep_sim hs) (hr := ?_)
  repeat (first | refine wk ?_ | refine s_field (hr := ?_))
  refine s_call [] (hA := ownTree_sim x hx) (hr := ?_)
  repeat (first | refine wk ?_ | refine s_field (hr := ?_))
  refine s_call [] (hA := hk) (hr := ?_)
  repeat (first | refine wk ?_ | refine s_field (hr := ?_))
  refine s_call [] (hA := hst) (hr := ?_)
  repeat (first | refine wk ?_ | refine s_field (hr := ?_))
  refine s_call [] (hA := ss) (hr := ?_)
  repeat (first | refine wk ?_ | refine s_field (hr := ?_))
  refine s_call [] (hA := sameStep_sim (t := false) (u := false) hs) (hr := ?_)
  repeat (first | refine wk ?_ | refine s_field (hr := ?_))
  refine s_call [] (hA := sx) (hr := ?_)
  repeat (first | refine wk ?_ | refine s_field (hr := ?_))
  exact fin
end Go.Proofs.Ytgcagjamjdnglaa
