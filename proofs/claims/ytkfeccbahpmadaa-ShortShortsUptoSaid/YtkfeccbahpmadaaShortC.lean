/-
  Sim: short.Make.
-/
import Derived.Test.YtkfeccbahpmadaaShortB
import Derived.Test.YtkfeccbahpmadaaSpD
import Derived.Test.YtkfeccbahpmadaaSimWl
set_option linter.unusedVariables false
set_option linter.unusedSimpArgs false
set_option linter.unusedSectionVars false
namespace Go.Proofs.Ytkfeccbahpmadaa
open Go.RowKit
set_option maxRecDepth 100000
-- SimX

def srules (g : Gram) (k : Nat) : List Rule := (List.range k).flatMap fun (v : Nat) => (ways g v).map (ruleW g v)
def sfrags (g : Gram) (k : Nat) : List (List Frag) := (List.range k).flatMap fun (v : Nat) => (ways g v).map (wayF g)
def sgood (g : Gram) (v : Nat) : Bool := decide ((srules g v).length + (ways g v).length ≤ 160) && (ways g v).all fun w => decide (fszs (wayF g w) ≤ 60)
def shortOut (g : Gram) : Step := ⟨⟨g.vars, g.terms, g.start, srules g g.vars.toNat⟩, sfrags g g.vars.toNat, []⟩
def shortS (g : Gram) : Step × Fault :=
  if (gramFault g).code = 0 then
    if 0 < (cycL g).length then (zeroStep, ⟨10, -1⟩) else
      match (List.range g.vars.toNat).find? (fun v => !sgood g v) with
      | some v => (zeroStep, ⟨6, v⟩)
      | none => (shortOut g, ⟨0, 0⟩)
  else (zeroStep, gramFault g)
theorem srules_succ (g : Gram) (k : Nat) : srules g (k + 1) = srules g k ++ (ways g k).map (ruleW g k) := by simp [srules, List.range_succ]
theorem sfrags_succ (g : Gram) (k : Nat) : sfrags g (k + 1) = sfrags g k ++ (ways g k).map (wayF g) := by simp [sfrags, List.range_succ]
theorem sfr_len (g : Gram) : ∀ k, (sfrags g k).length = (srules g k).length
  | 0 => rfl
  | k + 1 => by rw [srules_succ, sfrags_succ, List.length_append, List.length_append, sfr_len g k]; simp
theorem find_some {g : Gram} {n v : Nat} (hv : v < n) (hb : ∀ u, u < v → sgood g u = true) (hv2 : sgood g v = false) : (List.range n).find? (fun v => !sgood g v) = some v := by
  rw [List.find?_eq_some_iff_append]
  refine ⟨by rw [hv2]; rfl, List.range v, (List.range n).drop (v + 1), ?_, fun u hu => by rw [hb u (List.mem_range.1 hu)]; rfl⟩
  have h1 : v < (List.range n).length := by simpa using hv
  have h2 := (List.take_append_drop v (List.range n)).symm
  rw [List.drop_eq_getElem_cons h1, List.getElem_range, List.take_range, Nat.min_eq_left (by omega)] at h2
  exact h2
theorem find_none {g : Gram} {n : Nat} (hb : ∀ u, u < n → sgood g u = true) : (List.range n).find? (fun v => !sgood g v) = none := by
  rw [List.find?_eq_none]
  intro u hu
  rw [hb u (List.mem_range.1 hu)]; simp
abbrev shB (g : Gram) (r f : Nat) : Ob := .box 96 [I g.vars, I g.terms, I g.start, .d (rulesD false g.rules), .own 901 g.vars.toNat, I g.vars, I g.terms, I g.start, .own 902 r, .own 903 f, .d (.raw (.slice none 0 0))]
set_option maxHeartbeats 4000000 in
theorem shortMake_sim {g : Gram} (hf : g.fit) :
    ACalls Try.prog 21 [.d (gramD false g)] [] (.tup [.d (stepD false (shortS g).1), .d (faultD (shortS g).2)]) [] := by
  refine ACalls.intro (n := 107) Try.func21 rfl rfl (by simp) (by rfl) ?_
  simp only [argFr]
  have hcy := cyclic_sim (t := false) hf
  by_cases hc : (gramFault g).code = 0
  rotate_left
  · rw [show shortS g = (zeroStep, gramFault g) by rw [shortS, if_neg hc]]
    generalize gramFault g = gf at *
    repeat (first | refine wk ?_ | refine s_field (hr := ?_))
    refine s_call [] (hA := hcy) (hr := ?_)
    repeat (first | refine wk ?_ | refine s_field (hr := ?_))
    exact fin2
  have hg := gram_ok hc
  have hgf := hg.fault
  rw [hgf] at hcy
  have hcl : (cycL g).length ≤ 100000000 := by
    have h1 := hg.vars
    unfold cycL selfN
    rw [if_pos hc, List.length_map]
    have h2 := List.length_filter_le (fun (v : Nat) => has (rowM (ledM false g) v) v) (List.range g.vars.toNat)
    rw [List.length_range] at h2
    omega
  by_cases hn : 0 < (cycL g).length
  · rw [show shortS g = (zeroStep, ⟨10, -1⟩) by rw [shortS, if_pos hc, if_pos hn]]
    generalize cycL g = cl at *
    repeat (first | refine wk ?_ | refine s_field (hr := ?_))
    refine s_call [] (hA := hcy) (hr := ?_)
    repeat (first | refine wk ?_ | refine s_field (hr := ?_))
    exact fin2
  have hcn : cycL g = [] := List.length_eq_zero_iff.1 (by omega)
  rw [hcn] at hcy
  have hv1 := hg.vars1
  have hv2 := hg.vars
  have hv0 : ((g.vars.toNat : Nat) : Int) = g.vars := by omega
  repeat (first | refine wk ?_ | refine s_field (hr := ?_))
  refine s_call [] (hA := hcy) (hr := ?_)
  repeat (first | refine wk ?_ | refine s_field (hr := ?_))
  refine aw_nilCell 28 4 901 3 1 rfl rfl rfl rfl ?_
  refine aw_nilCell 28 8 902 41 2 rfl rfl rfl rfl ?_
  refine aw_nilCell 28 9 903 89 1 rfl rfl rfl rfl ?_
  refine t_loop (X := Nat) (fun k => k ≤ g.vars.toNat) (fun k => [(42, I k), (41, .d (iD g.vars)), (6, .ptr 28 0), (3, .ptr 3 0), (2, .ptr 2 0), (1, .ptr 1 0)])
    (fun k => [(28, .box 96 [I g.vars, I g.terms, I g.start, .d (rulesD false g.rules), .own 901 k, I g.vars, I g.terms, I g.start, .own 902 0, .own 903 0, .d (.raw (.slice none 0 0))]), (901, .row 3 1 ((List.replicate k (-1 : Int)).map iD)), (902, .row 41 2 []), (903, .row 89 1 []), (1, gramBox false g), (2, stepBox false zeroStep), (3, .box 33 [.d (iD 0), .d (iD 0)])]) (fun k => g.vars.toNat - k) 0 (Nat.zero_le _) ?_ 
  intro k hk
  have hrep : (List.replicate k (-1 : Int)).length = k := List.length_replicate
  by_cases hlt : (k : Int) < g.vars
  · have e : List.replicate (k + 1) (-1 : Int) = List.replicate k (-1 : Int) ++ [-1] := List.replicate_succ'
    repeat (first | refine wk ?_ | refine s_field (hr := ?_))
    exact t_next (k + 1)
  · obtain rfl : k = g.vars.toNat := by omega
    repeat (first | refine wk ?_ | refine s_field (hr := ?_))
    clear hrep hlt hk
    have hgv0 : GOk g (List.replicate g.vars.toNat (-1)) := ⟨List.length_replicate, fun k h => .inl (by simp)⟩
    refine t_loop (X := Nat × List Int) (fun x => x.1 ≤ g.vars.toNat ∧ GOk g x.2 ∧ (srules g x.1).length ≤ 160 ∧ ∀ u, u < x.1 → sgood g u = true)
      (fun x => [(56, I x.1), (55, .d (iD g.vars)), (6, .ptr 28 0), (3, .ptr 3 0), (2, .ptr 2 0), (1, .ptr 1 0)])
      (fun x => [(28, shB g (srules g x.1).length (sfrags g x.1).length), (901, .row 3 1 (x.2.map iD)), (902, .row 41 2 ((srules g x.1).map (ruleD false))), (903, .row 89 1 ((sfrags g x.1).map (fragsD false))), (1, gramBox false g), (2, stepBox false zeroStep), (3, .box 33 [.d (iD 0), .d (iD 0)])]) (fun x => g.vars.toNat - x.1) (0, List.replicate g.vars.toNat (-1)) ⟨Nat.zero_le _, hgv0, by simp [srules], fun u h => by omega⟩ ?_
    rintro ⟨v, gv⟩ ⟨j1, j2, j3, j4⟩
    dsimp only at j1 j2 j3 j4 ⊢
    have hfl := sfr_len g v
    by_cases hlt : (v : Int) < g.vars
    · have hct := count_gen hg hcn (t := false) (R := srules g v) (F := sfrags g v) 65 v gv (by have := rnk_le hg (v := (v : Int)) (by omega) hlt; omega) hlt j2
      have hok1 := cntM_ok (g := g) 65 v gv j2
      have hcr := cw_range g v
      generalize cntM g 65 v gv = gv1 at *
      repeat (first | refine d_loadW TY (d := 64) (by exact rfl) gOk_none (by exact rfl) (by exact rfl) (by exact rfl) (by exact rfl) (by exact rfl) (by exact rfl) ?_ | refine d_lenW TY (d := 65) (by exact rfl) gOk_none (by exact rfl) (by exact rfl) (by exact List.length_map _) (by exact rfl) (by exact rfl) (by exact rfl) ?_ | refine wk1 ?_)
      refine s_call [(1000, 28), (1001, 901), (1002, 902), (1003, 903)] (hA := hct) (hr := ?_)
      repeat (first | refine wk ?_ | refine s_field (hr := ?_))
      refine ⟨?_, fun _ => ⟨[(28, _), (901, _), (902, _), (903, _)], rfl, ?_⟩⟩
      rotate_left
      · intro q hq e
        simp only [List.mem_cons, List.not_mem_nil, or_false] at hq
        rcases hq with rfl | rfl | rfl | rfl
        · simp at e
        · simp at e
        · exact ⟨_, _, rfl, by simp⟩
        · simp at e
      refine ⟨?_, fun _ => ⟨[(28, _), (901, _), (902, _), (903, _)], rfl, ?_⟩⟩
      rotate_left
      · intro q hq e
        simp only [List.mem_cons, List.not_mem_nil, or_false] at hq
        rcases hq with rfl | rfl | rfl | rfl
        · exact ⟨_, _, rfl, rfl⟩
        · simp at e
        · simp at e
        · simp at e
      have hby := by_sim (t := false) (g := g) (v := (v : Int)) (by have := hg.rules; omega)
      have hbll := byl_le g v
      have hrl := hg.rules
      have hwe := ways_eq hg hcn (v := (v : Int)) (by omega) hlt
      have hG := rulL_gives (g := g) (v := v) (p := []) (f := fun k s => rulM g v 65 [] k s) (by_ g v) ⟨gv1, srules g v, sfrags g v⟩ (fun k hk s => rulM_gives hg hcn v 65 v [] k s (by omega) hlt hk (by have := rnk_le hg (v := (v : Int)) (by omega) hlt; omega))
      rw [← hwe] at hG
      have hcw : cw g v = min ((ways g v).length : Int) 161 := rfl
      have hin : ∀ x ∈ by_ g (v : Int), x ∈ by_ g (v : Int) := fun x h => h
      have hfm : (by_ g (v : Int)).flatMap (wayOf g) = ways g v := hwe.symm
      have hs1 := srules_succ g v
      have hs2 := sfrags_succ g v
      have hsg : sgood g v = (decide ((srules g v).length + (ways g v).length ≤ 160) && (ways g v).all fun w => decide (fszs (wayF g w) ≤ 60)) := rfl
      generalize hbl : by_ g (v : Int) = bl at *
      generalize srules g v = R0 at *
      generalize sfrags g v = F0 at *
      obtain ⟨RES, hres⟩ : ∃ RES, rulL (fun k s => rulM g v 65 [] k s) bl ⟨gv1, R0, F0⟩ = RES := ⟨_, rfl⟩
      rw [hres] at hG
      repeat (first | refine wk ?_ | refine s_field (hr := ?_))
      refine s_call [(5, 907)] (hA := hby) (hr := ?_)
      repeat (first | refine wk ?_ | refine s_field (hr := ?_))
      obtain ⟨b0, hb0⟩ : ∃ b0 : Bool, decide ((R0.length : Int) + cw g v ≤ 160) = b0 := ⟨_, rfl⟩
      have hinit : (b0 = true ∧ rulL (fun k s => rulM g v 65 [] k s) (bl.drop 0) ⟨gv1, R0, F0⟩ = RES ∧ R0.length + ((bl.drop 0).flatMap (wayOf g)).length ≤ 160) ∨ (b0 = false ∧ sgood g v = false) := by
        cases b0 with
        | true =>
          have := of_decide_eq_true hb0
          refine .inl ⟨rfl, hres, ?_⟩
          rw [List.drop_zero, hfm]; omega
        | false =>
          have := of_decide_eq_false hb0
          refine .inr ⟨rfl, ?_⟩
          rw [hsg, decide_eq_false (by omega)]; rfl
      refine t_loop (X := Nat × Bool × SS) (fun x => x.1 ≤ bl.length ∧ GOk g x.2.2.gv ∧ x.2.2.F.length = x.2.2.R.length ∧ ((x.2.1 = true ∧ rulL (fun k s => rulM g v 65 [] k s) (bl.drop x.1) x.2.2 = RES ∧ x.2.2.R.length + ((bl.drop x.1).flatMap (wayOf g)).length ≤ 160) ∨ (x.2.1 = false ∧ sgood g v = false)))
        (fun x => [(75, I x.1), (74, I bl.length), (73, .own 907 bl.length), (8, B x.2.1), (7, I v), (56, I v), (55, .d (iD g.vars)), (6, .ptr 28 0), (3, .ptr 3 0), (2, .ptr 2 0), (1, .ptr 1 0)])
        (fun x => [(907, .row 3 1 (bl.map iD)), (28, shB g x.2.2.R.length x.2.2.F.length), (901, .row 3 1 (x.2.2.gv.map iD)), (902, .row 41 2 (x.2.2.R.map (ruleD false))), (903, .row 89 1 (x.2.2.F.map (fragsD false))), (1, gramBox false g), (2, stepBox false zeroStep), (3, .box 33 [.d (iD 0), .d (iD 0)])]) (fun x => bl.length - x.1) (0, b0, ⟨gv1, R0, F0⟩) ⟨Nat.zero_le _, hok1, hfl, hinit⟩ ?_ (hf := ?_)
      rotate_left
      · exact ⟨.of rfl, .of rfl, .of rfl, bool_eq rfl hb0, .of rfl, .of rfl, .of rfl, .of rfl, .of rfl, .of rfl, .of rfl, trivial⟩
      rintro ⟨j, b, gw, Rw, Fw⟩ ⟨m1, m2, m3, m4⟩
      dsimp only at m1 m2 m3 m4 ⊢
      by_cases hlt2 : j < bl.length
      · have hm : bl[j] ∈ by_ g (v : Int) := by rw [hbl]; exact List.getElem_mem hlt2
        obtain ⟨k2, hk2, ek2, _⟩ := by_mem.1 hm
        rcases m4 with ⟨rfl, m5, m6⟩ | ⟨rfl, m5⟩
        · have hrk2 : rightAt g bl[j] = g.rules[k2].right := by rw [ek2]; exact rightAt_nat hk2
          have hrr2 := hg.right _ (List.getElem_mem hk2)
          have hkn2 : kN g bl[j] = (kids g.rules[k2].right).length := by unfold kN; rw [hrk2]
          have hkl := kids_le g.rules[k2].right
          have hkd := kids_sim (t := false) (l := g.rules[k2].left) (xs := g.rules[k2].right) (by omega)
          rw [List.drop_eq_getElem_cons hlt2, rulL] at m5
          rw [List.drop_eq_getElem_cons hlt2, List.flatMap_cons, List.length_append] at m6
          have hrv := rnk_le hg (v := (v : Int)) (by omega) hlt
          have hG2 := rulM_gives hg hcn v 65 v [] bl[j] ⟨gw, Rw, Fw⟩ (by omega) hlt hm (by omega)
          have hih := srule_gen hg hcn (t := false) (v := (v : Int)) 65 v [] bl[j] ⟨gw, Rw, Fw⟩ (by omega) hlt hm (by omega) (by simp) (by simp) m2 m3 (by dsimp only; omega)
          have hnd := node_sim (r := bl[j]) (k := kN g bl[j]) (by omega)
          dsimp only at hih
          rw [show wrapF [] (nodeF bl[j] (kN g bl[j])) = nodeF bl[j] (kN g bl[j]) from rfl] at hih
          rw [hkn2] at hnd hih
          generalize rulM g v 65 [] bl[j] ⟨gw, Rw, Fw⟩ = q at *
          obtain ⟨b2, gz, Rz, Fz⟩ := q
          have hG3 := hG2.gv m2
          have hG4 := hG2.len m3
          have hGa := hG2.all
          dsimp only at hih hG3 hG4 hGa m5
          have hWl : (nodeF bl[j] (kids g.rules[k2].right).length).length = 1 := rfl
          generalize hWW : nodeF bl[j] (kids g.rules[k2].right).length = WW at *
          cases b2 with
          | true =>
            rw [if_pos rfl] at m5
            have hlen : Rz.length = Rw.length + (wayOf g bl[j]).length := by rw [(hGa rfl).1, List.length_append, List.length_map]
            repeat (first | refine wk ?_ | refine s_field (hr := ?_))
            refine s_call [(3, 905)] (hA := hkd) (hr := ?_)
            repeat (first | refine wk ?_ | refine s_field (hr := ?_))
            refine s_call [(20, 906)] (hA := hnd) (hr := ?_)
            repeat (first | refine wk ?_ | refine s_field (hr := ?_))
            refine s_callf [(1000, 28), (1001, 901), (1002, 902), (1003, 903)] (hA := hih) (hr := ?_)
            repeat (first | refine wk ?_ | refine s_field (hr := ?_))
            exact t_next (j + 1, true, ⟨gz, Rz, Fz⟩) (a := ⟨by omega, hG3, hG4, .inl ⟨rfl, m5, by dsimp only; omega⟩⟩) (b := by dsimp only; omega)
          | false =>
            rw [if_neg (by decide)] at m5
            subst m5
            have hbad : sgood g v = false := by
              obtain ⟨w, hw, hsz⟩ := hG.one rfl
              rw [hsg, Bool.and_eq_false_iff]
              refine .inr ?_
              cases hall : (ways g (v : Int)).all (fun w => decide (fszs (wayF g w) ≤ 60)) with
              | false => rfl
              | true =>
                have := of_decide_eq_true (List.all_eq_true.1 hall w hw)
                have h3 : fszs (wrapF [] (wayF g w)) = fszs (wayF g w) := rfl
                omega
            repeat (first | refine wk ?_ | refine s_field (hr := ?_))
            refine s_call [(3, 905)] (hA := hkd) (hr := ?_)
            repeat (first | refine wk ?_ | refine s_field (hr := ?_))
            refine s_call [(20, 906)] (hA := hnd) (hr := ?_)
            repeat (first | refine wk ?_ | refine s_field (hr := ?_))
            refine s_callf [(1000, 28), (1001, 901), (1002, 902), (1003, 903)] (hA := hih) (hr := ?_)
            repeat (first | refine wk ?_ | refine s_field (hr := ?_))
            exact t_next (j + 1, false, ⟨gz, Rz, Fz⟩) (a := ⟨by omega, hG3, hG4, .inr ⟨rfl, hbad⟩⟩) (b := by dsimp only; omega)
        · (repeat (first | refine wkz ?_ | refine s_field (hr := ?_)))
          repeat (first | refine wk ?_ | refine s_field (hr := ?_))
          exact t_next (j + 1, false, ⟨gw, Rw, Fw⟩) (a := ⟨by omega, m2, m3, .inr ⟨rfl, m5⟩⟩) (b := by dsimp only; omega)
      · rcases m4 with ⟨rfl, m5, m6⟩ | ⟨rfl, m5⟩
        · rw [List.drop_of_length_le (by omega), rulL] at m5
          subst m5
          obtain ⟨a1, a2, a3⟩ := hG.all rfl
          dsimp only at a1 a2
          have e1 : Rw = srules g (v + 1) := by rw [hs1, a1]
          have e2 : Fw = sfrags g (v + 1) := by rw [hs2, a2]; rfl
          have hgood : sgood g v = true := by
            have hl := congrArg List.length a1
            rw [List.length_append, List.length_map] at hl
            have hle := m6
            rw [List.drop_of_length_le (by omega)] at hle
            simp only [List.flatMap_nil, List.length_nil, Nat.add_zero] at hle
            rw [hsg, decide_eq_true (by omega), Bool.true_and, List.all_eq_true]
            exact fun w hw => decide_eq_true (a3 w hw)
          have hlen : Rw.length ≤ 160 := by
            have hle := m6
            rw [List.drop_of_length_le (by omega)] at hle
            simpa using hle
          subst e1
          subst e2
          repeat (first | refine wk ?_ | refine s_field (hr := ?_))
          exact t_next (v + 1, gw) (a := ⟨by omega, m2, hlen, fun u hu => by rcases Nat.lt_succ_iff_lt_or_eq.1 hu with h | h; exact j4 u h; rw [h]; exact hgood⟩) (b := by dsimp only; omega)
        · rw [show shortS g = (zeroStep, ⟨6, v⟩) by rw [shortS, if_pos hc, if_neg hn, find_some (by omega) j4 m5]]
          repeat (first | refine wk ?_ | refine s_field (hr := ?_))
          exact fin2
    · obtain rfl : v = g.vars.toNat := by omega
      rw [show shortS g = (⟨⟨g.vars, g.terms, g.start, srules g g.vars.toNat⟩, sfrags g g.vars.toNat, []⟩, ⟨0, 0⟩) by rw [shortS, if_pos hc, if_neg hn, find_none j4]; rfl]
      refine aw_froz 902 rfl ?_
      refine aw_froz 903 rfl ?_
      repeat (first | refine wk ?_ | refine s_field (hr := ?_))
      exact fin2
end Go.Proofs.Ytkfeccbahpmadaa
