/-
  Sim: short.Make. Sim: short, the reference: waysOf. Sim: short, the reference: ShortOf. Short, plain: what comes is a step; made once more it is the same. Sim: shortBegun, ShortMakes, ShortShorts return true. Short, plain: the trees are the same. ShortSame returns true.
-/
import Derived.Test.YticnpbopelgmiaaQShortA
import Derived.Test.YticnpbopelgmiaaQSpD
import Derived.Test.YticnpbopelgmiaaQFactsK
import Derived.Test.YticnpbopelgmiaaQGramC
import Derived.Test.YticnpbopelgmiaaQTreeA
import Derived.Test.YticnpbopelgmiaaS5
import Derived.Test.YticnpbopelgmiaaBkP
import Derived.Test.YticnpbopelgmiaaSmA
import Derived.Test.YticnpbopelgmiaaQChartM
set_option linter.unusedVariables false
set_option linter.unusedSimpArgs false
set_option linter.unusedSectionVars false
namespace Go.Proofs.Yticnpbopelgmiaa
open Go.RowKit
set_option maxRecDepth 100000
-- SimX

def srules (g : Gram) (k : Nat) : List Rule := (List.range k).flatMap fun (v : Nat) => (ways g v).map (ruleW g v)
def sfrags (g : Gram) (k : Nat) : List (List Frag) := (List.range k).flatMap fun (v : Nat) => (ways g v).map (wayF g)
def sgood (g : Gram) (v : Nat) : Bool := decide ((srules g v).length + (ways g v).length ≤ 160) && (ways g v).all fun w => decide (fszs (wayF g w) ≤ 60)
def shortOut (g : Gram) : Step := ⟨⟨g.vars, g.terms, g.start, srules g g.vars.toNat⟩, sfrags g g.vars.toNat, []⟩
def shortS (g : Gram) : Step × Fault :=
  if (gramFault g).code = 0 then
    if 0 < (cycL g).length then (zeroStep, ⟨10, -1⟩) else
      match (List.range g.vars.toNat).find? (fun v => !sgood g v) with
      | some v => (zeroStep, ⟨6, v⟩)
      | none => (shortOut g, ⟨0, 0⟩)
  else (zeroStep, gramFault g)
theorem srules_succ (g : Gram) (k : Nat) : srules g (k + 1) = srules g k ++ (ways g k).map (ruleW g k) := by simp [srules, List.range_succ]
theorem sfrags_succ (g : Gram) (k : Nat) : sfrags g (k + 1) = sfrags g k ++ (ways g k).map (wayF g) := by simp [sfrags, List.range_succ]
theorem sfr_len (g : Gram) : ∀ k, (sfrags g k).length = (srules g k).length
  | 0 => rfl
  | k + 1 => by rw [srules_succ, sfrags_succ, List.length_append, List.length_append, sfr_len g k]; simp
theorem find_some {g : Gram} {n v : Nat} (hv : v < n) (hb : ∀ u, u < v → sgood g u = true) (hv2 : sgood g v = false) : (List.range n).find? (fun v => !sgood g v) = some v := by
  rw [List.find?_eq_some_iff_append]
  refine ⟨by rw [hv2]; rfl, List.range v, (List.range n).drop (v + 1), ?_, fun u hu => by rw [hb u (List.mem_range.1 hu)]; rfl⟩
  have h1 : v < (List.range n).length := by simpa using hv
  have h2 := (List.take_append_drop v (List.range n)).symm
  rw [List.drop_eq_getElem_cons h1, List.getElem_range, List.take_range, Nat.min_eq_left (by omega)] at h2
  exact h2
theorem find_none {g : Gram} {n : Nat} (hb : ∀ u, u < n → sgood g u = true) : (List.range n).find? (fun v => !sgood g v) = none := by
  rw [List.find?_eq_none]
  intro u hu
  rw [hb u (List.mem_range.1 hu)]; simp
abbrev shB (g : Gram) (r f : Nat) : Ob := .box 126 [I g.vars, I g.terms, I g.start, .d (rulesD false g.rules), .own 901 g.vars.toNat, I g.vars, I g.terms, I g.start, .own 902 r, .own 903 f, .d (.raw (.slice none 0 0))]
set_option maxHeartbeats 4000000 in
theorem shortMake_sim {g : Gram} (hf : g.fit) :
    ACalls Try.prog 33 [.d (gramD false g)] [] (.tup [.d (stepD false (shortS g).1), .d (faultD (shortS g).2)]) [] := by
  refine ACalls.intro (n := 107) Try.func33 rfl rfl (by simp) (by rfl) ?_
  simp only [argFr]
  have hcy := cyclic_sim (t := false) hf
  by_cases hc : (gramFault g).code = 0
  rotate_left
  · rw [show shortS g = (zeroStep, gramFault g) by rw [shortS, if_neg hc]]
    generalize gramFault g = gf at *
    repeat (first | refine wk ?_ | refine s_field (hr := ?_))
    refine s_call [] (hA := hcy) (hr := ?_)
    repeat (first | refine wk ?_ | refine s_field (hr := ?_))
    exact fin2
  have hg := gram_ok hc
  have hgf := hg.fault
  rw [hgf] at hcy
  have hcl : (cycL g).length ≤ 100000000 := by
    have h1 := hg.vars
    unfold cycL selfN
    rw [if_pos hc, List.length_map]
    have h2 := List.length_filter_le (fun (v : Nat) => has (rowM (ledM false g) v) v) (List.range g.vars.toNat)
    rw [List.length_range] at h2
    omega
  by_cases hn : 0 < (cycL g).length
  · rw [show shortS g = (zeroStep, ⟨10, -1⟩) by rw [shortS, if_pos hc, if_pos hn]]
    generalize cycL g = cl at *
    repeat (first | refine wk ?_ | refine s_field (hr := ?_))
    refine s_call [] (hA := hcy) (hr := ?_)
    repeat (first | refine wk ?_ | refine s_field (hr := ?_))
    exact fin2
  have hcn : cycL g = [] := List.length_eq_zero_iff.1 (by omega)
  rw [hcn] at hcy
  have hv1 := hg.vars1
  have hv2 := hg.vars
  have hv0 : ((g.vars.toNat : Nat) : Int) = g.vars := by omega
  repeat (first | refine wk ?_ | refine s_field (hr := ?_))
  refine s_call [] (hA := hcy) (hr := ?_)
  repeat (first | refine wk ?_ | refine s_field (hr := ?_))
  refine aw_nilCell 28 4 901 3 1 rfl rfl rfl rfl ?_
  refine aw_nilCell 28 8 902 41 2 rfl rfl rfl rfl ?_
  refine aw_nilCell 28 9 903 65 1 rfl rfl rfl rfl ?_
  refine t_loop (X := Nat) (fun k => k ≤ g.vars.toNat) (fun k => [(42, I k), (41, .d (iD g.vars)), (6, .ptr 28 0), (3, .ptr 3 0), (2, .ptr 2 0), (1, .ptr 1 0)])
    (fun k => [(28, .box 126 [I g.vars, I g.terms, I g.start, .d (rulesD false g.rules), .own 901 k, I g.vars, I g.terms, I g.start, .own 902 0, .own 903 0, .d (.raw (.slice none 0 0))]), (901, .row 3 1 ((List.replicate k (-1 : Int)).map iD)), (902, .row 41 2 []), (903, .row 65 1 []), (1, gramBox false g), (2, stepBox false zeroStep), (3, .box 33 [.d (iD 0), .d (iD 0)])]) (fun k => g.vars.toNat - k) 0 (Nat.zero_le _) ?_ 
  intro k hk
  have hrep : (List.replicate k (-1 : Int)).length = k := List.length_replicate
  by_cases hlt : (k : Int) < g.vars
  · have e : List.replicate (k + 1) (-1 : Int) = List.replicate k (-1 : Int) ++ [-1] := List.replicate_succ'
    repeat (first | refine wk ?_ | refine s_field (hr := ?_))
    exact t_next (k + 1)
  · obtain rfl : k = g.vars.toNat := by omega
    repeat (first | refine wk ?_ | refine s_field (hr := ?_))
    clear hrep hlt hk
    have hgv0 : GOk g (List.replicate g.vars.toNat (-1)) := ⟨List.length_replicate, fun k h => .inl (by simp)⟩
    refine t_loop (X := Nat × List Int) (fun x => x.1 ≤ g.vars.toNat ∧ GOk g x.2 ∧ (srules g x.1).length ≤ 160 ∧ ∀ u, u < x.1 → sgood g u = true)
      (fun x => [(56, I x.1), (55, .d (iD g.vars)), (6, .ptr 28 0), (3, .ptr 3 0), (2, .ptr 2 0), (1, .ptr 1 0)])
      (fun x => [(28, shB g (srules g x.1).length (sfrags g x.1).length), (901, .row 3 1 (x.2.map iD)), (902, .row 41 2 ((srules g x.1).map (ruleD false))), (903, .row 65 1 ((sfrags g x.1).map (fragsD false))), (1, gramBox false g), (2, stepBox false zeroStep), (3, .box 33 [.d (iD 0), .d (iD 0)])]) (fun x => g.vars.toNat - x.1) (0, List.replicate g.vars.toNat (-1)) ⟨Nat.zero_le _, hgv0, by simp [srules], fun u h => by omega⟩ ?_
    rintro ⟨v, gv⟩ ⟨j1, j2, j3, j4⟩
    dsimp only at j1 j2 j3 j4 ⊢
    have hfl := sfr_len g v
    by_cases hlt : (v : Int) < g.vars
    · have hct := count_gen hg hcn (t := false) (R := srules g v) (F := sfrags g v) 65 v gv (by have := rnk_le hg (v := (v : Int)) (by omega) hlt; omega) hlt j2
      have hok1 := cntM_ok (g := g) 65 v gv j2
      have hcr := cw_range g v
      generalize cntM g 65 v gv = gv1 at *
      repeat (first | refine d_loadW TY (d := 64) (by exact rfl) gOk_none (by exact rfl) (by exact rfl) (by exact rfl) (by exact rfl) (by exact rfl) (by exact rfl) ?_ | refine d_lenW TY (d := 65) (by exact rfl) gOk_none (by exact rfl) (by exact rfl) (by exact List.length_map _) (by exact rfl) (by exact rfl) (by exact rfl) ?_ | refine wk1 ?_)
      refine s_call [(1000, 28), (1001, 901), (1002, 902), (1003, 903)] (hA := hct) (hr := ?_)
      repeat (first | refine wk ?_ | refine s_field (hr := ?_))
      refine ⟨?_, fun _ => ⟨[(28, _), (901, _), (902, _), (903, _)], rfl, ?_⟩⟩
      rotate_left
      · intro q hq e
        simp only [List.mem_cons, List.not_mem_nil, or_false] at hq
        rcases hq with rfl | rfl | rfl | rfl
        · simp at e
        · simp at e
        · exact ⟨_, _, rfl, by simp⟩
        · simp at e
      refine ⟨?_, fun _ => ⟨[(28, _), (901, _), (902, _), (903, _)], rfl, ?_⟩⟩
      rotate_left
      · intro q hq e
        simp only [List.mem_cons, List.not_mem_nil, or_false] at hq
        rcases hq with rfl | rfl | rfl | rfl
        · exact ⟨_, _, rfl, rfl⟩
        · simp at e
        · simp at e
        · simp at e
      have hby := by_sim (t := false) (g := g) (v := (v : Int)) (by have := hg.rules; omega)
      have hbll := byl_le g v
      have hrl := hg.rules
      have hwe := ways_eq hg hcn (v := (v : Int)) (by omega) hlt
      have hG := rulL_gives (g := g) (v := v) (p := []) (f := fun k s => rulM g v 65 [] k s) (by_ g v) ⟨gv1, srules g v, sfrags g v⟩ (fun k hk s => rulM_gives hg hcn v 65 v [] k s (by omega) hlt hk (by have := rnk_le hg (v := (v : Int)) (by omega) hlt; omega))
      rw [← hwe] at hG
      have hcw : cw g v = min ((ways g v).length : Int) 161 := rfl
      have hin : ∀ x ∈ by_ g (v : Int), x ∈ by_ g (v : Int) := fun x h => h
      have hfm : (by_ g (v : Int)).flatMap (wayOf g) = ways g v := hwe.symm
      have hs1 := srules_succ g v
      have hs2 := sfrags_succ g v
      have hsg : sgood g v = (decide ((srules g v).length + (ways g v).length ≤ 160) && (ways g v).all fun w => decide (fszs (wayF g w) ≤ 60)) := rfl
      generalize hbl : by_ g (v : Int) = bl at *
      generalize srules g v = R0 at *
      generalize sfrags g v = F0 at *
      obtain ⟨RES, hres⟩ : ∃ RES, rulL (fun k s => rulM g v 65 [] k s) bl ⟨gv1, R0, F0⟩ = RES := ⟨_, rfl⟩
      rw [hres] at hG
      repeat (first | refine wk ?_ | refine s_field (hr := ?_))
      refine s_call [(5, 907)] (hA := hby) (hr := ?_)
      repeat (first | refine wk ?_ | refine s_field (hr := ?_))
      obtain ⟨b0, hb0⟩ : ∃ b0 : Bool, decide ((R0.length : Int) + cw g v ≤ 160) = b0 := ⟨_, rfl⟩
      have hinit : (b0 = true ∧ rulL (fun k s => rulM g v 65 [] k s) (bl.drop 0) ⟨gv1, R0, F0⟩ = RES ∧ R0.length + ((bl.drop 0).flatMap (wayOf g)).length ≤ 160) ∨ (b0 = false ∧ sgood g v = false) := by
        cases b0 with
        | true =>
          have := of_decide_eq_true hb0
          refine .inl ⟨rfl, hres, ?_⟩
          rw [List.drop_zero, hfm]; omega
        | false =>
          have := of_decide_eq_false hb0
          refine .inr ⟨rfl, ?_⟩
          rw [hsg, decide_eq_false (by omega)]; rfl
      refine t_loop (X := Nat × Bool × SS) (fun x => x.1 ≤ bl.length ∧ GOk g x.2.2.gv ∧ x.2.2.F.length = x.2.2.R.length ∧ ((x.2.1 = true ∧ rulL (fun k s => rulM g v 65 [] k s) (bl.drop x.1) x.2.2 = RES ∧ x.2.2.R.length + ((bl.drop x.1).flatMap (wayOf g)).length ≤ 160) ∨ (x.2.1 = false ∧ sgood g v = false)))
        (fun x => [(75, I x.1), (74, I bl.length), (73, .own 907 bl.length), (8, B x.2.1), (7, I v), (56, I v), (55, .d (iD g.vars)), (6, .ptr 28 0), (3, .ptr 3 0), (2, .ptr 2 0), (1, .ptr 1 0)])
        (fun x => [(907, .row 3 1 (bl.map iD)), (28, shB g x.2.2.R.length x.2.2.F.length), (901, .row 3 1 (x.2.2.gv.map iD)), (902, .row 41 2 (x.2.2.R.map (ruleD false))), (903, .row 65 1 (x.2.2.F.map (fragsD false))), (1, gramBox false g), (2, stepBox false zeroStep), (3, .box 33 [.d (iD 0), .d (iD 0)])]) (fun x => bl.length - x.1) (0, b0, ⟨gv1, R0, F0⟩) ⟨Nat.zero_le _, hok1, hfl, hinit⟩ ?_ (hf := ?_)
      rotate_left
      · exact ⟨.of rfl, .of rfl, .of rfl, bool_eq rfl hb0, .of rfl, .of rfl, .of rfl, .of rfl, .of rfl, .of rfl, .of rfl, trivial⟩
      rintro ⟨j, b, gw, Rw, Fw⟩ ⟨m1, m2, m3, m4⟩
      dsimp only at m1 m2 m3 m4 ⊢
      by_cases hlt2 : j < bl.length
      · have hm : bl[j] ∈ by_ g (v : Int) := by rw [hbl]; exact List.getElem_mem hlt2
        obtain ⟨k2, hk2, ek2, _⟩ := by_mem.1 hm
        rcases m4 with ⟨rfl, m5, m6⟩ | ⟨rfl, m5⟩
        · have hrk2 : rightAt g bl[j] = g.rules[k2].right := by rw [ek2]; exact rightAt_nat hk2
          have hrr2 := hg.right _ (List.getElem_mem hk2)
          have hkn2 : kN g bl[j] = (kids g.rules[k2].right).length := by unfold kN; rw [hrk2]
          have hkl := kids_le g.rules[k2].right
          have hkd := kids_sim (t := false) (l := g.rules[k2].left) (xs := g.rules[k2].right) (by omega)
          rw [List.drop_eq_getElem_cons hlt2, rulL] at m5
          rw [List.drop_eq_getElem_cons hlt2, List.flatMap_cons, List.length_append] at m6
          have hrv := rnk_le hg (v := (v : Int)) (by omega) hlt
          have hG2 := rulM_gives hg hcn v 65 v [] bl[j] ⟨gw, Rw, Fw⟩ (by omega) hlt hm (by omega)
          have hih := srule_gen hg hcn (t := false) (v := (v : Int)) 65 v [] bl[j] ⟨gw, Rw, Fw⟩ (by omega) hlt hm (by omega) (by simp) (by simp) m2 m3 (by dsimp only; omega)
          have hnd := node_sim (r := bl[j]) (k := kN g bl[j]) (by omega)
          dsimp only at hih
          rw [show wrapF [] (nodeF bl[j] (kN g bl[j])) = nodeF bl[j] (kN g bl[j]) from rfl] at hih
          rw [hkn2] at hnd hih
          generalize rulM g v 65 [] bl[j] ⟨gw, Rw, Fw⟩ = q at *
          obtain ⟨b2, gz, Rz, Fz⟩ := q
          have hG3 := hG2.gv m2
          have hG4 := hG2.len m3
          have hGa := hG2.all
          dsimp only at hih hG3 hG4 hGa m5
          have hWl : (nodeF bl[j] (kids g.rules[k2].right).length).length = 1 := rfl
          generalize hWW : nodeF bl[j] (kids g.rules[k2].right).length = WW at *
          cases b2 with
          | true =>
            rw [if_pos rfl] at m5
            have hlen : Rz.length = Rw.length + (wayOf g bl[j]).length := by rw [(hGa rfl).1, List.length_append, List.length_map]
            repeat (first | refine wk ?_ | refine s_field (hr := ?_))
            refine s_call [(3, 905)] (hA := hkd) (hr := ?_)
            repeat (first | refine wk ?_ | refine s_field (hr := ?_))
            refine s_call [(20, 906)] (hA := hnd) (hr := ?_)
            repeat (first | refine wk ?_ | refine s_field (hr := ?_))
            refine s_callf [(1000, 28), (1001, 901), (1002, 902), (1003, 903)] (hA := hih) (hr := ?_)
            repeat (first | refine wk ?_ | refine s_field (hr := ?_))
            exact t_next (j + 1, true, ⟨gz, Rz, Fz⟩) (a := ⟨by omega, hG3, hG4, .inl ⟨rfl, m5, by dsimp only; omega⟩⟩) (b := by dsimp only; omega)
          | false =>
            rw [if_neg (by decide)] at m5
            subst m5
            have hbad : sgood g v = false := by
              obtain ⟨w, hw, hsz⟩ := hG.one rfl
              rw [hsg, Bool.and_eq_false_iff]
              refine .inr ?_
              cases hall : (ways g (v : Int)).all (fun w => decide (fszs (wayF g w) ≤ 60)) with
              | false => rfl
              | true =>
                have := of_decide_eq_true (List.all_eq_true.1 hall w hw)
                have h3 : fszs (wrapF [] (wayF g w)) = fszs (wayF g w) := rfl
                omega
            repeat (first | refine wk ?_ | refine s_field (hr := ?_))
            refine s_call [(3, 905)] (hA := hkd) (hr := ?_)
            repeat (first | refine wk ?_ | refine s_field (hr := ?_))
            refine s_call [(20, 906)] (hA := hnd) (hr := ?_)
            repeat (first | refine wk ?_ | refine s_field (hr := ?_))
            refine s_callf [(1000, 28), (1001, 901), (1002, 902), (1003, 903)] (hA := hih) (hr := ?_)
            repeat (first | refine wk ?_ | refine s_field (hr := ?_))
            exact t_next (j + 1, false, ⟨gz, Rz, Fz⟩) (a := ⟨by omega, hG3, hG4, .inr ⟨rfl, hbad⟩⟩) (b := by dsimp only; omega)
        · (repeat (first | refine wkz ?_ | refine s_field (hr := ?_)))
          repeat (first | refine wk ?_ | refine s_field (hr := ?_))
          exact t_next (j + 1, false, ⟨gw, Rw, Fw⟩) (a := ⟨by omega, m2, m3, .inr ⟨rfl, m5⟩⟩) (b := by dsimp only; omega)
      · rcases m4 with ⟨rfl, m5, m6⟩ | ⟨rfl, m5⟩
        · rw [List.drop_of_length_le (by omega), rulL] at m5
          subst m5
          obtain ⟨a1, a2, a3⟩ := hG.all rfl
          dsimp only at a1 a2
          have e1 : Rw = srules g (v + 1) := by rw [hs1, a1]
          have e2 : Fw = sfrags g (v + 1) := by rw [hs2, a2]; rfl
          have hgood : sgood g v = true := by
            have hl := congrArg List.length a1
            rw [List.length_append, List.length_map] at hl
            have hle := m6
            rw [List.drop_of_length_le (by omega)] at hle
            simp only [List.flatMap_nil, List.length_nil, Nat.add_zero] at hle
            rw [hsg, decide_eq_true (by omega), Bool.true_and, List.all_eq_true]
            exact fun w hw => decide_eq_true (a3 w hw)
          have hlen : Rw.length ≤ 160 := by
            have hle := m6
            rw [List.drop_of_length_le (by omega)] at hle
            simpa using hle
          subst e1
          subst e2
          repeat (first | refine wk ?_ | refine s_field (hr := ?_))
          exact t_next (v + 1, gw) (a := ⟨by omega, m2, hlen, fun u hu => by rcases Nat.lt_succ_iff_lt_or_eq.1 hu with h | h; exact j4 u h; rw [h]; exact hgood⟩) (b := by dsimp only; omega)
        · rw [show shortS g = (zeroStep, ⟨6, v⟩) by rw [shortS, if_pos hc, if_neg hn, find_some (by omega) j4 m5]]
          repeat (first | refine wk ?_ | refine s_field (hr := ?_))
          exact fin2
    · obtain rfl : v = g.vars.toNat := by omega
      rw [show shortS g = (⟨⟨g.vars, g.terms, g.start, srules g g.vars.toNat⟩, sfrags g g.vars.toNat, []⟩, ⟨0, 0⟩) by rw [shortS, if_pos hc, if_neg hn, find_none j4]; rfl]
      refine aw_froz 902 rfl ?_
      refine aw_froz 903 rfl ?_
      repeat (first | refine wk ?_ | refine s_field (hr := ?_))
      exact fin2
end Go.Proofs.Yticnpbopelgmiaa
namespace Go.Proofs.Yticnpbopelgmiaa
open Go.RowKit
set_option maxRecDepth 100000
-- SimX

end Go.Proofs.Yticnpbopelgmiaa
namespace Go.Proofs.Yticnpbopelgmiaa
open Go.RowKit
set_option maxRecDepth 100000
-- SimX

theorem cpL_holes' : ∀ (k : Nat), cpL (holes k) = k
  | 0 => rfl
  | k + 1 => by
    unfold holes at *
    rw [List.range_succ, List.map_append, cpL_append]
    have := cpL_holes' k
    unfold holes at this
    rw [this]
    simp [cpL, cpF]
theorem wayF_cp (g : Gram) : ∀ w : List Int, cpL (wayF g w) = fszs (wayF g w)
  | [] => rfl
  | [r] => by simp [wayF, nodeF, cpL, cpF, fszs, fsz, cpL_holes', fszs_holes]
  | r :: r2 :: rest => by
    rw [wayF]
    simp only [cpL, cpF, fszs, fsz, true_or, if_true, wayF_cp g (r2 :: rest)]
theorem lastW_at {w : List Int} (h : 0 < w.length) : lastW w = w[w.length - 1]'(by omega) := by
  unfold lastW
  rw [List.getLastD_eq_getLast?, List.getLast?_eq_getElem?, List.getElem?_eq_getElem (by omega)]; rfl
theorem ways_in {g : Gram} : ∀ (n : Nat) (v : Int) (w : List Int), w ∈ wys g n v → ∀ x ∈ w, ∃ k, ∃ _ : k < g.rules.length, x = ((k : Nat) : Int)
  | 0, v, w, h => by simp [wys] at h
  | n + 1, v, w, h => by
    rw [wys] at h
    obtain ⟨i, hi, hw⟩ := List.mem_flatMap.1 h
    obtain ⟨k, hk, e, _⟩ := by_mem.1 hi
    split at hw
    · rw [List.mem_singleton] at hw; subst hw
      intro x hx
      rw [List.mem_singleton] at hx; subst hx
      exact ⟨k, hk, e⟩
    · obtain ⟨y, hy, rfl⟩ := List.mem_map.1 hw
      intro x hx
      rcases List.mem_cons.1 hx with rfl | hx
      · exact ⟨k, hk, e⟩
      · exact ways_in n _ y hy x hx
end Go.Proofs.Yticnpbopelgmiaa
namespace Go.Proofs.Yticnpbopelgmiaa
open Go.RowKit

theorem lastW_mem {w : List Int} (h : w ≠ []) : lastW w ∈ w := by
  have hl : 0 < w.length := List.length_pos_iff.2 h
  rw [lastW_at hl]
  exact List.getElem_mem _
section
variable {g : Gram} (hg : g.ok) (hc : cycL g = [])
include hg hc
theorem way_ne {v : Int} (h0 : 0 ≤ v) (h1 : v < g.vars) {w : List Int} (hw : w ∈ ways g v) : w ≠ [] := by
  rw [ways_eq hg hc h0 h1] at hw
  obtain ⟨k, _, hk⟩ := List.mem_flatMap.1 hw
  exact wayOf_ne hk
theorem way_last {v : Int} (h0 : 0 ≤ v) (h1 : v < g.vars) {w : List Int} (hw : w ∈ ways g v) : ∃ k, ∃ h : k < g.rules.length, lastW w = ((k : Nat) : Int) ∧ rightAt g (lastW w) = g.rules[k].right := by
  have hne := way_ne hg hc h0 h1 hw
  obtain ⟨k, hk, e⟩ := ways_in _ _ _ hw _ (lastW_mem hne)
  exact ⟨k, hk, e, by rw [e, rightAt_nat hk]⟩
end
theorem way_unit {g : Gram} : ∀ (n : Nat) (v : Int) (w : List Int), w ∈ wys g n v → unitOf (rightAt g (lastW w)) < 0
  | 0, v, w, h => by simp [wys] at h
  | n + 1, v, w, h => by
    rw [wys] at h
    obtain ⟨i, _, hi⟩ := List.mem_flatMap.1 h
    split at hi
    · rename_i hu
      rw [List.mem_singleton] at hi; subst hi; exact hu
    · obtain ⟨x, hx, rfl⟩ := List.mem_map.1 hi
      have ih := way_unit n _ x hx
      have hne : x ≠ [] := by
        intro e
        subst e
        cases n with
        | zero => simp [wys] at hx
        | succ n =>
          rw [wys] at hx
          obtain ⟨j, _, hj⟩ := List.mem_flatMap.1 hx
          split at hj
          · simp at hj
          · obtain ⟨y, _, hy⟩ := List.mem_map.1 hj
            cases hy
      rw [lastW_cons i hne]; exact ih
theorem usL_way (m : Int) {g : Gram} : ∀ (w : List Int), w ≠ [] → (∀ x ∈ w, 0 ≤ x ∧ x < m) → usL m (wayF g w) (List.replicate (kN g (lastW w)) 0) = (true, List.replicate (kN g (lastW w)) 1)
  | [], h, _ => absurd rfl h
  | [r], _, h => by
    have := h r (by simp)
    rw [wayF, nodeF, usL, usF, if_pos rfl, if_neg (by omega), show lastW [r] = r from rfl, usL_hole]
    simp [usL]
  | r :: r2 :: rest, _, h => by
    have h0 := h r (by simp)
    have ih := usL_way m (g := g) (r2 :: rest) (by simp) (fun x hx => h x (List.mem_cons_of_mem _ hx))
    rw [wayF, lastW_cons r (by simp), usL, usF, if_pos rfl, if_neg (by omega), ih]
    simp [usL]
theorem part_way {g : Gram} {v : Int} {w : List Int} (hne : w ≠ []) (hw : ∀ x ∈ w, ∃ k, ∃ _ : k < g.rules.length, x = ((k : Nat) : Int)) (hs : fszs (wayF g w) ≤ 60) : partFault g (wayF g w) (ruleW g v w).right = 0 := by
  have h2 := usL_way g.rules.length (g := g) w hne (fun x hx => by obtain ⟨k, hk, e⟩ := hw x hx; omega)
  rw [partFault, if_neg (by rw [wayF_cp]; omega), if_pos]
  rw [okUse]
  show ((usL _ _ (List.replicate (kN g (lastW w)) 0)).1 && (usL _ _ (List.replicate (kN g (lastW w)) 0)).2.all _) = true
  rw [h2]; simp
theorem parts_maps {g : Gram} {v : Int} : ∀ {l : List (List Int)}, (∀ w ∈ l, partFault g (wayF g w) (ruleW g v w).right = 0) → PartsOk g (l.map (wayF g)) (l.map (ruleW g v))
  | [], _ => .nil
  | w :: l, h => .cons (h w (by simp)) (parts_maps (fun x hx => h x (by simp [hx])))
theorem sgood_all {g : Gram} {v : Nat} (h : sgood g v = true) : (srules g v).length + (ways g v).length ≤ 160 ∧ ∀ w ∈ ways g v, fszs (wayF g w) ≤ 60 := by
  rw [sgood, Bool.and_eq_true, List.all_eq_true] at h
  exact ⟨of_decide_eq_true h.1, fun w hw => of_decide_eq_true (h.2 w hw)⟩
section
variable {g : Gram} (hg : g.ok) (hc : cycL g = [])
include hg hc
theorem parts_short : ∀ k, k ≤ g.vars.toNat → (∀ u, u < k → sgood g u = true) → PartsOk g (sfrags g k) (srules g k)
  | 0, _, _ => .nil
  | k + 1, hk, h => by
    have ih := parts_short k (by omega) (fun u hu => h u (by omega))
    rw [srules_succ, sfrags_succ]
    obtain ⟨_, h2⟩ := sgood_all (h k (by omega))
    refine ih.append (parts_maps fun w hw => part_way (way_ne hg hc (by omega) (by omega) hw) (ways_in _ _ _ hw) (h2 w hw))
theorem srules_mem : ∀ k, k ≤ g.vars.toNat → ∀ r ∈ srules g k, (0 ≤ r.left ∧ r.left < k) ∧ (∃ q ∈ g.rules, r.right = q.right) ∧ unitOf r.right < 0
  | 0, _, r, h => by simp [srules] at h
  | k + 1, hk, r, h => by
    rw [srules_succ] at h
    rcases List.mem_append.1 h with h | h
    · have := srules_mem k (by omega) r h
      exact ⟨by omega, this.2⟩
    · obtain ⟨w, hw, rfl⟩ := List.mem_map.1 h
      obtain ⟨j, hj, _, e⟩ := way_last hg hc (v := (k : Int)) (by omega) (by omega) hw
      refine ⟨by simp only [ruleW]; omega, ⟨_, List.getElem_mem hj, e⟩, way_unit _ _ _ hw⟩
theorem srules_le (h : ∀ u, u < g.vars.toNat → sgood g u = true) : (srules g g.vars.toNat).length ≤ 160 := by
  have hv := hg.vars1
  obtain ⟨n, hn⟩ : ∃ n, g.vars.toNat = n + 1 := ⟨g.vars.toNat - 1, by omega⟩
  have := (sgood_all (h n (by omega))).1
  rw [hn, srules_succ, List.length_append, List.length_map]; omega
theorem short_ok (h : ∀ u, u < g.vars.toNat → sgood g u = true) : (shortOut g).g.ok := by
  have hm := srules_mem hg hc g.vars.toNat (Nat.le_refl _)
  have hv := hg.vars1
  refine ⟨hg.vars1, hg.vars, hg.terms0, hg.terms, hg.start0, hg.start, srules_le hg hc h, fun r hr => ?_, fun r hr => (hm r hr).1.1, fun r hr => ?_, fun r hr s hs => ?_, fun r hr s hs => ?_⟩
  · obtain ⟨q, hq, e⟩ := (hm r hr).2.1
    rw [e]; exact hg.right q hq
  · have := (hm r hr).1.2
    show r.left < g.vars
    omega
  · obtain ⟨q, hq, e⟩ := (hm r hr).2.1
    rw [e] at hs; exact hg.lo q hq s hs
  · obtain ⟨q, hq, e⟩ := (hm r hr).2.1
    rw [e] at hs; exact hg.hi q hq s hs
theorem short_step (h : ∀ u, u < g.vars.toNat → sgood g u = true) : stepFault g (shortOut g) = ⟨0, 0⟩ :=
  step_ok hg (short_ok hg hc h) rfl (parts_short hg hc _ (Nat.le_refl _) h)
theorem sfrags_small : ∀ k, k ≤ g.vars.toNat → (∀ u, u < k → sgood g u = true) → ∀ l ∈ sfrags g k, fszs l ≤ 60
  | 0, _, _, l, hl => by simp [sfrags] at hl
  | k + 1, hk, h, l, hl => by
    rw [sfrags_succ] at hl
    rcases List.mem_append.1 hl with hl | hl
    · exact sfrags_small k (by omega) (fun u hu => h u (by omega)) l hl
    · obtain ⟨w, hw, rfl⟩ := List.mem_map.1 hl
      exact (sgood_all (h k (by omega))).2 w hw
end
theorem shortS_cases (g : Gram) : ((gramFault g).code ≠ 0 ∧ shortS g = (zeroStep, gramFault g)) ∨ (shortS g = (zeroStep, ⟨10, -1⟩)) ∨ (∃ v : Nat, shortS g = (zeroStep, ⟨6, (v : Int)⟩)) ∨
    (g.ok ∧ cycL g = [] ∧ (∀ u, u < g.vars.toNat → sgood g u = true) ∧ shortS g = (shortOut g, ⟨0, 0⟩)) := by
  by_cases h : (gramFault g).code = 0
  · by_cases hcy : 0 < (cycL g).length
    · exact .inr (.inl (by rw [shortS, if_pos h, if_pos hcy]))
    · cases hf : (List.range g.vars.toNat).find? (fun v => !sgood g v) with
      | some v => exact .inr (.inr (.inl ⟨v, by rw [shortS, if_pos h, if_neg hcy, hf]⟩))
      | none =>
        refine .inr (.inr (.inr ⟨gram_ok h, List.length_eq_zero_iff.1 (by omega), fun u hu => ?_, by rw [shortS, if_pos h, if_neg hcy, hf]⟩))
        rw [List.find?_eq_none] at hf
        have := hf u (List.mem_range.2 hu)
        simpa using this
  · exact .inl ⟨h, by rw [shortS, if_neg h]⟩
theorem zeroStep_fitS : zeroStep.fit := ⟨⟨by decide, fun r hr => by simp [zeroStep] at hr⟩, by decide, fun l hl => by simp [zeroStep] at hl, by decide⟩
theorem shortS_fit (g : Gram) : (shortS g).1.fit := by
  rcases shortS_cases g with ⟨_, h⟩ | h | ⟨v, h⟩ | ⟨hg, hc, ha, h⟩
  · rw [h]; exact zeroStep_fitS
  · rw [h]; exact zeroStep_fitS
  · rw [h]; exact zeroStep_fitS
  · rw [h]
    have h1 := srules_le hg hc ha
    have h2 := sfr_len g g.vars.toNat
    exact ⟨(short_ok hg hc ha).fit, (by show (sfrags g g.vars.toNat).length ≤ _; omega), fun l hl => Nat.le_trans (sfrags_small hg hc _ (Nat.le_refl _) ha l hl) (by decide), by simp [shortOut, cnts]⟩
/-! ### Made once more -/
end Go.Proofs.Yticnpbopelgmiaa
namespace Go.Proofs.Yticnpbopelgmiaa
open Go.RowKit
set_option maxRecDepth 100000
-- SimX

def shG : Gram := ⟨2, 1, 0, [⟨0, [1]⟩, ⟨1, [-1]⟩]⟩
theorem shG_fit : shG.fit := ⟨by decide, fun r hr => by simp [shG] at hr; rcases hr with rfl | rfl <;> decide⟩
theorem sh_eq : shortS shG = (⟨⟨2, 1, 0, [⟨0, [-1]⟩, ⟨1, [-1]⟩]⟩, [[.mk 1 0 [.mk 1 1 []]], [.mk 1 1 []]], []⟩, ⟨0, 0⟩) := by kernel_rfl
theorem sh_make : ACalls Try.prog 33 [.d (.agg [iD 2, iD 1, iD 0, .sl false 2 [.agg [iD 0, ints false [1]], .agg [iD 1, ints false [-1]]]])] [] (.tup [.d (stepD false (shortS shG).1), .d (faultD (shortS shG).2)]) [] :=
  shortMake_sim shG_fit
theorem shortBegun_sim : ACalls Try.prog 32 [] [] (B true) [] := by
  refine ACalls.intro (n := 44) Try.func32 rfl rfl (by simp) (by rfl) ?_
  simp only [argFr]
  have h := sh_make
  rw [sh_eq] at h
  have hs := sameInts_sim (t := false) (u := false) (xs := [-1]) (ys := [-1]) (by decide) (by decide)
  rw [decide_eq_true rfl] at hs
  repeat (first | refine wk ?_ | refine s_field (hr := ?_))
  refine s_callf [] (hA := h) (hr := ?_)
  repeat (first | refine wk ?_ | refine s_field (hr := ?_))
  refine s_callf [] (hA := hs) (hr := ?_)
  repeat (first | refine wk ?_ | refine s_field (hr := ?_))
  exact fin
end Go.Proofs.Yticnpbopelgmiaa
namespace Go.Proofs.Yticnpbopelgmiaa
open Go.RowKit

/-- Down a way. -/
def chainT : List Int → List Tree → Tree
  | [], _ => .mk 0 []
  | [r], xs => .mk r xs
  | r :: r2 :: rest, xs => .mk r [chainT (r2 :: rest) xs]
theorem chainT_cons (r : Int) {w : List Int} (h : w ≠ []) (xs : List Tree) : chainT (r :: w) xs = .mk r [chainT w xs] := by
  cases w with
  | nil => exact absurd rfl h
  | cons a b => rw [chainT]
theorem muL_way {g : Gram} : ∀ (w : List Int) (xs : List Tree), w ≠ [] → xs.length = kN g (lastW w) → muL (sing xs) (wayF g w) = [chainT w xs]
  | [], _, h, _ => absurd rfl h
  | [r], xs, _, h => by
    rw [wayF, chainT]
    exact muL_node1 r h
  | r :: r2 :: rest, xs, _, h => by
    rw [lastW_cons r (by simp)] at h
    rw [wayF, muL, muF, if_pos rfl, muL_way (r2 :: rest) xs (by simp) h, muL, chainT]
    rfl
theorem wys_ne {g : Gram} {n : Nat} {v : Int} {w : List Int} (h : w ∈ wys g n v) : w ≠ [] := by
  cases n with
  | zero => simp [wys] at h
  | succ n =>
    rw [wys] at h
    obtain ⟨i, _, hi⟩ := List.mem_flatMap.1 h
    split at hi
    · rw [List.mem_singleton] at hi; subst hi; simp
    · obtain ⟨x, _, rfl⟩ := List.mem_map.1 hi; simp
theorem wys_mem {g : Gram} {n : Nat} {v : Int} {w : List Int} : w ∈ wys g (n + 1) v ↔ ∃ k : Nat, ∃ hk : k < g.rules.length, g.rules[k].left = v ∧ ((unitOf g.rules[k].right < 0 ∧ w = [(k : Int)]) ∨ (¬ unitOf g.rules[k].right < 0 ∧ ∃ x ∈ wys g n (unitOf g.rules[k].right), w = (k : Int) :: x)) := by
  rw [wys, List.mem_flatMap]
  constructor
  · rintro ⟨i, hi, hw⟩
    obtain ⟨k, hk, rfl, hl⟩ := by_mem.1 hi
    rw [rightAt_nat hk] at hw
    refine ⟨k, hk, hl, ?_⟩
    split at hw
    · rename_i hu
      exact .inl ⟨hu, List.mem_singleton.1 hw⟩
    · rename_i hu
      obtain ⟨x, hx, rfl⟩ := List.mem_map.1 hw
      exact .inr ⟨hu, x, hx, rfl⟩
  · rintro ⟨k, hk, hl, h⟩
    refine ⟨(k : Int), by_mem.2 ⟨k, hk, rfl, hl⟩, ?_⟩
    rw [rightAt_nat hk]
    rcases h with ⟨hu, rfl⟩ | ⟨hu, x, hx, rfl⟩
    · rw [if_pos hu]; simp
    · rw [if_neg hu]; exact List.mem_map.2 ⟨x, hx, rfl⟩
theorem unitOf_is {r : List Int} (h : ¬ unitOf r < 0) : r = [unitOf r] ∧ 0 ≤ unitOf r := by
  unfold unitOf at h ⊢
  by_cases h1 : r.length = 1
  · rw [if_pos h1] at h ⊢
    match r, h1 with
    | [x], _ =>
      simp only [List.getD_cons_zero] at h ⊢
      by_cases h0 : 0 ≤ x
      · rw [if_pos h0]; exact ⟨rfl, h0⟩
      · rw [if_neg h0] at h; omega
  · rw [if_neg h1] at h; omega
theorem by_nodup (g : Gram) (v : Int) : (by_ g v).Nodup := by
  unfold by_
  have : ∀ (rs : List Rule) (i : Nat), (byR rs v i).Nodup ∧ ∀ x ∈ byR rs v i, (i : Int) ≤ x := by
    intro rs
    induction rs with
    | nil => intro i; rw [byR]; exact ⟨List.Pairwise.nil, fun x hx => by cases hx⟩
    | cons r rs ih =>
      intro i
      obtain ⟨h1, h2⟩ := ih (i + 1)
      rw [byR]
      split
      · refine ⟨List.pairwise_cons.2 ⟨fun x hx q => ?_, h1⟩, fun x hx => ?_⟩
        · have := h2 x hx; omega
        · rcases List.mem_cons.1 hx with rfl | hx
          · exact Int.le_refl _
          · have := h2 x hx; omega
      · exact ⟨h1, fun x hx => by have := h2 x hx; omega⟩
  exact (this _ _).1
theorem wys_nodup (g : Gram) : ∀ (n : Nat) (v : Int), (wys g n v).Nodup
  | 0, v => by rw [wys]; exact List.Pairwise.nil
  | n + 1, v => by
    rw [wys]
    unfold List.Nodup
    rw [List.pairwise_flatMap]
    have hh : ∀ (i : Int) (w : List Int), w ∈ (if unitOf (rightAt g i) < 0 then [[i]] else (wys g n (unitOf (rightAt g i))).map (i :: ·)) → w.head? = some i := fun i w hw => by
      split at hw
      · rw [List.mem_singleton] at hw; subst hw; rfl
      · obtain ⟨x, _, rfl⟩ := List.mem_map.1 hw; rfl
    refine ⟨fun i _ => ?_, ?_⟩
    · split
      · exact List.pairwise_singleton _ _
      · rw [List.pairwise_map]
        exact (wys_nodup g n _).imp fun h q => h (List.cons.inj q).2
    · refine (by_nodup g v).imp fun {a b} hab => ?_
      intro x hx y hy q
      subst q
      have h1 := hh a x hx
      have h2 := hh b x hy
      rw [h1] at h2
      exact hab (Option.some.inj h2)
section
variable {g : Gram}
theorem chain_fits : ∀ (n : Nat) (v : Int) (w : List Int) (xs : List Tree), w ∈ wys g n v → xs.length = (kids (rightAt g (lastW w))).length → fitss g xs (kids (rightAt g (lastW w))) = true → fits g (chainT w xs) v = true ∧ wordT g (chainT w xs) = wordL g (rightAt g (lastW w)) xs
  | 0, v, w, xs, h, _, _ => by simp [wys] at h
  | n + 1, v, w, xs, h, h1, h2 => by
    obtain ⟨k, hk, hl, ⟨hu, rfl⟩ | ⟨hu, x, hx, rfl⟩⟩ := wys_mem.1 h
    · rw [show lastW [(k : Int)] = (k : Int) from rfl, rightAt_nat hk] at h1 h2 ⊢
      rw [chainT]
      exact fits_mk hk hl h1 h2
    · have hne := wys_ne hx
      rw [lastW_cons _ hne] at h1 h2 ⊢
      obtain ⟨k1, k2⟩ := chain_fits n _ x xs hx h1 h2
      obtain ⟨u1, u2⟩ := unitOf_is hu
      rw [chainT_cons _ hne]
      have hkk : kids g.rules[k].right = [unitOf g.rules[k].right] := by
        conv => lhs; rw [u1]
        rw [kidsP (by omega)]; rfl
      obtain ⟨f1, f2⟩ := fits_mk hk (xs := [chainT x xs]) hl (by rw [hkk]; rfl) (by rw [hkk, fitss, k1, fitss.eq_def]; rfl)
      refine ⟨f1, ?_⟩
      rw [f2, ← k2]
      conv => lhs; rw [u1]
      rw [wordL_pos (by omega), wordL_nil, List.append_nil]
theorem chain_inj : ∀ (n : Nat) (v : Int) (w w' : List Int) (xs xs' : List Tree), w ∈ wys g n v → w' ∈ wys g n v → chainT w xs = chainT w' xs' → w = w' ∧ xs = xs'
  | 0, v, w, w', xs, xs', h, _, _ => by simp [wys] at h
  | n + 1, v, w, w', xs, xs', h, h', e => by
    obtain ⟨k, hk, hl, ⟨hu, rfl⟩ | ⟨hu, x, hx, rfl⟩⟩ := wys_mem.1 h
    · obtain ⟨k', hk', hl', ⟨hu', rfl⟩ | ⟨hu', x', hx', rfl⟩⟩ := wys_mem.1 h'
      · rw [chainT, chainT] at e
        obtain ⟨e1, e2⟩ := Tree.mk.inj e
        exact ⟨by rw [e1], e2⟩
      · rw [chainT, chainT_cons _ (wys_ne hx')] at e
        obtain ⟨e1, e2⟩ := Tree.mk.inj e
        obtain rfl : k = k' := by omega
        exact absurd hu hu'
    · obtain ⟨k', hk', hl', ⟨hu', rfl⟩ | ⟨hu', x', hx', rfl⟩⟩ := wys_mem.1 h'
      · rw [chainT, chainT_cons _ (wys_ne hx)] at e
        obtain ⟨e1, e2⟩ := Tree.mk.inj e
        obtain rfl : k = k' := by omega
        exact absurd hu' hu
      · rw [chainT_cons _ (wys_ne hx), chainT_cons _ (wys_ne hx')] at e
        obtain ⟨e1, e2⟩ := Tree.mk.inj e
        obtain rfl : k = k' := by omega
        obtain ⟨q1, q2⟩ := chain_inj n _ x x' xs xs' hx hx' (List.cons.inj e2).1
        exact ⟨by rw [q1], q2⟩
theorem chain_all (hg : g.ok) (hc : cycL g = []) : ∀ (n : Nat) (v : Int) (x : Tree), 0 ≤ v → v < g.vars → rnk g v < n → fits g x v = true → ∃ w ∈ wys g n v, ∃ xs, x = chainT w xs ∧ xs.length = (kids (rightAt g (lastW w))).length ∧ fitss g xs (kids (rightAt g (lastW w))) = true ∧ ∀ y ∈ xs, cnt y < cnt x
  | 0, v, x, _, _, h, _ => by omega
  | n + 1, v, x, h0, h1, hn, hf => by
    obtain ⟨k, hk, e1, e2, e3, e4, _⟩ := fits_parts hf
    by_cases hu : unitOf g.rules[k].right < 0
    · refine ⟨[(k : Int)], wys_mem.2 ⟨k, hk, e2, .inl ⟨hu, rfl⟩⟩, x.kids, ?_, ?_, ?_, fun y hy => ?_⟩
      · rw [chainT, ← e1]; exact Tree.eta x
      · rw [show lastW [(k : Int)] = (k : Int) from rfl, rightAt_nat hk]; exact e3.symm
      · rw [show lastW [(k : Int)] = (k : Int) from rfl, rightAt_nat hk]; exact e4
      · have := cnts_mem hy; rw [cnt_eq x]; omega
    · obtain ⟨u1, u2⟩ := unitOf_is hu
      have hi : (k : Int) ∈ by_ g v := by_mem.2 ⟨k, hk, rfl, e2⟩
      have hs := unit_step hi (by rw [rightAt_nat hk]; exact u2)
      rw [rightAt_nat hk] at hs
      obtain ⟨s0, s1⟩ := step_in hg h0 h1 hs
      have hr := rnk_lt hg hc h0 h1 hs
      have hkk : kids g.rules[k].right = [unitOf g.rules[k].right] := by
        conv => lhs; rw [u1]
        rw [kidsP (by omega)]; rfl
      rw [hkk] at e3 e4
      match hxk : x.kids, e3 with
      | [t], _ =>
        rw [hxk, fitss, Bool.and_eq_true] at e4
        obtain ⟨w, hw, xs, q1, q2, q3, q4⟩ := chain_all hg hc n _ t s0 s1 (by omega) e4.1
        refine ⟨(k : Int) :: w, wys_mem.2 ⟨k, hk, e2, .inr ⟨hu, w, hw, rfl⟩⟩, xs, ?_, ?_, ?_, fun y hy => ?_⟩
        · rw [chainT_cons _ (wys_ne hw), ← q1, ← e1, ← hxk]; exact Tree.eta x
        · rw [lastW_cons _ (wys_ne hw)]; exact q2
        · rw [lastW_cons _ (wys_ne hw)]; exact q3
        · have := q4 y hy
          rw [cnt_eq x, hxk]
          simp only [cnts]; omega
      | [], h => simp at h
      | _ :: _ :: _, h => simp at h
abbrev shPairs (g : Gram) (n : Nat) : List (Nat × List Int) := (List.range n).flatMap fun (v : Nat) => (ways g (v : Int)).map fun w => (v, w)
theorem sh_rules (g : Gram) (n : Nat) : srules g n = (shPairs g n).map (fun p => ruleW g p.1 p.2) ∧ sfrags g n = (shPairs g n).map (fun p => wayF g p.2) := by
  unfold srules sfrags shPairs
  constructor <;> (rw [List.map_flatMap]; simp only [List.map_map]; rfl)
theorem sh_nodup (g : Gram) (n : Nat) : (shPairs g n).Nodup := by
  unfold shPairs List.Nodup
  rw [List.pairwise_flatMap]
  refine ⟨fun v _ => ?_, ?_⟩
  · rw [List.pairwise_map]
    exact (wys_nodup g _ _).imp fun h q => h (Prod.mk.inj q).2
  · refine (List.pairwise_lt_range).imp fun {a b} hab => ?_
    intro x hx y hy q
    subst q
    obtain ⟨w, _, rfl⟩ := List.mem_map.1 hx
    obtain ⟨w', _, e⟩ := List.mem_map.1 hy
    have := (Prod.mk.inj e).1
    omega
theorem sh_mem {n v : Nat} {w : List Int} : (v, w) ∈ shPairs g n ↔ v < n ∧ w ∈ ways g v := by
  unfold shPairs
  simp only [List.mem_flatMap, List.mem_range, List.mem_map, Prod.mk.injEq]
  constructor
  · rintro ⟨u, hu, x, hx, rfl, rfl⟩; exact ⟨hu, hx⟩
  · rintro ⟨h1, h2⟩; exact ⟨v, h1, w, h2, rfl, rfl⟩
def shP (g : Gram) : List (Nat × List Int) := shPairs g g.vars.toNat
theorem sh_at {j : Nat} (hj : j < (shortOut g).g.rules.length) : ∃ (v : Nat) (w : List Int) (hI : j < (shP g).length), (shP g)[j] = (v, w) ∧ (v : Int) < g.vars ∧ w ∈ ways g v ∧ (shortOut g).g.rules[j] = ruleW g v w ∧ (shortOut g).frags.getD j [] = wayF g w := by
  obtain ⟨h1, h2⟩ := sh_rules g g.vars.toNat
  have e1 : (shortOut g).g.rules = (shP g).map fun p => ruleW g p.1 p.2 := h1
  have e2 : (shortOut g).frags = (shP g).map fun p => wayF g p.2 := h2
  have hI : j < (shP g).length := by rw [e1, List.length_map] at hj; exact hj
  have hm := List.getElem_mem hI
  obtain ⟨⟨v, w⟩, hp⟩ : ∃ p, (shP g)[j] = p := ⟨_, rfl⟩
  rw [hp] at hm
  obtain ⟨m1, m2⟩ := sh_mem.1 hm
  refine ⟨v, w, hI, hp, by omega, m2, ?_, ?_⟩
  · simp only [e1, List.getElem_map, hp]
  · rw [e2, List.getD_eq_getElem?_getD, List.getElem?_map, List.getElem?_eq_getElem hI]
    simp only [Option.map_some, Option.getD_some, hp]
theorem sh_of {v : Nat} {w : List Int} (hv : (v : Int) < g.vars) (hw : w ∈ ways g v) : ∃ (j : Nat) (_ : j < (shortOut g).g.rules.length) (hI : j < (shP g).length), (shP g)[j] = (v, w) := by
  obtain ⟨j, hj, e⟩ := List.mem_iff_getElem.1 (sh_mem.2 ⟨by omega, hw⟩ : (v, w) ∈ shPairs g g.vars.toNat)
  refine ⟨j, ?_, hj, e⟩
  have e1 : (shortOut g).g.rules = (shPairs g g.vars.toNat).map fun p => ruleW g p.1 p.2 := (sh_rules g g.vars.toNat).1
  rw [e1, List.length_map]; exact hj
def fitE (g : Gram) (u : Int) (x : Tree) : Prop := fits g x u = true
theorem fitE_all {xs : List Tree} {us : List Int} (h : EL (fitE g) xs us) : xs.length = us.length ∧ fitss g xs us = true := ⟨h.1, fitss_all h.1 fun i h1 h2 => h.2 i h1 h2⟩
theorem all_fitE {xs : List Tree} {us : List Int} (h1 : xs.length = us.length) (h2 : fitss g xs us = true) : EL (fitE g) xs us := ⟨h1, fun i q1 q2 => fitss_at h2 q1 q2⟩
variable (hg : g.ok) (hc : cycL g = [])
include hg hc
theorem short_leads : LeadsT g (shortOut g).g (shortOut g).frags (fitE g) where
  sound j hj xs h := by
    obtain ⟨v, w, hI, e1, hv, e2, e3, e4⟩ := sh_at hj
    rw [e3] at h ⊢
    rw [e4]
    obtain ⟨k1, k2⟩ := fitE_all h
    have hne := way_ne hg hc (by omega) hv e2
    obtain ⟨f1, f2⟩ := chain_fits _ _ w xs e2 k1 k2
    exact ⟨_, muL_way w xs hne k1, f1, f2⟩
  inj j j' hj hj' xs xs' hl h h' he := by
    obtain ⟨v, w, hI, e1, hv, e2, e3, e4⟩ := sh_at hj
    obtain ⟨v', w', hI', e1', hv', e2', e3', e4'⟩ := sh_at hj'
    rw [e3, e3'] at hl
    have hvv : (v : Int) = (v' : Int) := hl
    obtain rfl : v = v' := by omega
    rw [e3] at h
    rw [e3'] at h'
    rw [e4, e4', muL_way w xs (way_ne hg hc (by omega) hv e2) h.1, muL_way w' xs' (way_ne hg hc (by omega) hv e2') h'.1] at he
    obtain ⟨q1, q2⟩ := chain_inj _ _ w w' xs xs' e2 e2' (List.cons.inj he).1
    refine ⟨?_, q2⟩
    exact (List.getElem_inj (sh_nodup g g.vars.toNat)).1 (show (shP g)[j] = (shP g)[j'] by rw [e1, e1', q1])
  surj u x h0 h1 hx := by
    have h1 : u < g.vars := h1
    obtain ⟨v, rfl⟩ : ∃ v : Nat, u = (v : Int) := ⟨u.toNat, by omega⟩
    obtain ⟨w, hw, xs, q1, q2, q3, q4⟩ := chain_all hg hc (rnk g (v : Int) + 1) _ x h0 h1 (by omega) hx
    obtain ⟨j, hj, hI, ej⟩ := sh_of h1 hw
    obtain ⟨v', w', hI', f1, f2, f3, f4, f5⟩ := sh_at hj
    rw [ej] at f1
    obtain ⟨rfl, rfl⟩ := Prod.mk.inj f1
    refine ⟨j, hj, xs, by rw [f4]; rfl, by rw [f4]; exact all_fitE q2 q3, ?_, q4⟩
    rw [f5, muL_way w xs (wys_ne hw) q2, ← q1]
omit hg hc in
theorem short_starts (w : List Int) : Starts g (shortOut g).g (oneD (fitE g)) (oneW g) w :=
  starts_one (fun x hx => hx) (fun x hx _ => hx)
omit hg hc in
theorem short_pl : ∀ l ∈ (shortOut g).frags, plL l = true := fun l hl => by
  have e2 : (shortOut g).frags = (shP g).map fun p => wayF g p.2 := (sh_rules g g.vars.toNat).2
  rw [e2] at hl
  obtain ⟨p, _, rfl⟩ := List.mem_map.1 hl
  generalize p.2 = w
  have : ∀ w : List Int, plL (wayF g w) = true := by
    intro w
    induction w with
    | nil => rfl
    | cons r w ih =>
      cases w with
      | nil => rw [wayF]; exact plL_node _ _
      | cons a b => rw [wayF, plL, plF, if_pos rfl, ih]; rfl
  exact this w

/-! ### It is not cyclic -/
theorem way_end : ∀ (n : Nat) (v : Int) (w : List Int), 0 ≤ v → v < g.vars → w ∈ wys g n v → ∃ k : Nat, ∃ hk : k < g.rules.length, lastW w = (k : Int) ∧ rnk g g.rules[k].left ≤ rnk g v ∧ (has (nulB g) g.rules[k].left = true → has (nulB g) v = true)
  | 0, v, w, _, _, h => by simp [wys] at h
  | n + 1, v, w, h0, h1, h => by
    obtain ⟨k, hk, hl, ⟨hu, rfl⟩ | ⟨hu, x, hx, rfl⟩⟩ := wys_mem.1 h
    · exact ⟨k, hk, rfl, by rw [hl]; exact Nat.le_refl _, fun q => by rw [← hl]; exact q⟩
    · obtain ⟨u1, u2⟩ := unitOf_is hu
      have hi : (k : Int) ∈ by_ g v := by_mem.2 ⟨k, hk, rfl, hl⟩
      have hs := unit_step hi (by rw [rightAt_nat hk]; exact u2)
      rw [rightAt_nat hk] at hs
      obtain ⟨s0, s1⟩ := step_in hg h0 h1 hs
      have hr := rnk_lt hg hc h0 h1 hs
      obtain ⟨m, hm, q1, q2, q3⟩ := way_end n _ x s0 s1 hx
      refine ⟨m, hm, by rw [lastW_cons _ (wys_ne hx)]; exact q1, by omega, fun q => ?_⟩
      rw [← hl]
      refine null_rule hg (List.getElem_mem hk) fun s hs => ?_
      rw [u1, List.mem_singleton] at hs
      rw [hs]; exact q3 q
theorem short_null (ha : ∀ u, u < g.vars.toNat → sgood g u = true) : ∀ v, has (nulB (shortOut g).g) v = true → has (nulB g) v = true := by
  refine null_ind (short_ok hg hc ha) _ fun q hq hin => ?_
  obtain ⟨j, hj, rfl⟩ := List.mem_iff_getElem.1 hq
  obtain ⟨v, w, hI, e1, hv, e2, e3, e4⟩ := sh_at hj
  rw [e3] at hin ⊢
  obtain ⟨k, hk, q1, q2, q3⟩ := way_end hg hc _ _ w (by omega) hv e2
  refine q3 (null_rule hg (List.getElem_mem hk) fun s hs => (hin s ?_).2)
  show s ∈ rightAt g (lastW w)
  rw [q1, rightAt_nat hk]; exact hs
theorem short_cyc (ha : ∀ u, u < g.vars.toNat → sgood g u = true) : cycL (shortOut g).g = [] := by
  refine acyclic (short_ok hg hc ha) (rnk g) fun u u' h0 h1 hu => ?_
  obtain ⟨q, hq, e0, pre, post, f2, u0, f3, f4⟩ := stepA_iff.1 hu
  obtain ⟨j, hj, rfl⟩ := List.mem_iff_getElem.1 hq
  obtain ⟨v, w, hI, e1, hv, e2, e3, e4⟩ := sh_at hj
  rw [e3] at e0 f2
  have e0 : (v : Int) = u := e0
  obtain ⟨k, hk, q1, q2, q3⟩ := way_end hg hc _ _ w (by omega) hv e2
  have f2 : rightAt g (lastW w) = pre ++ u' :: post := f2
  rw [q1, rightAt_nat hk] at f2
  have hn : ∀ l : List Int, inAll l (nulB (shortOut g).g) = true → inAll l (nulB g) = true := fun l hl => by
    simp only [inAll, List.all_eq_true] at hl ⊢
    exact fun s hs => short_null hg hc ha s (hl s hs)
  have hst : u' ∈ stepA g g.rules[k].left := stepA_iff.2 ⟨_, List.getElem_mem hk, rfl, pre, post, f2, u0, hn _ f3, hn _ f4⟩
  have := rnk_lt hg hc (hg.left0 _ (List.getElem_mem hk)) (hg.left _ (List.getElem_mem hk)) hst
  rw [← e0]; omega
end
theorem shortS_same {g : Gram} (h : (shortS g).2.code = 0) (w : List Int) : SameOk g (shortS g).1 w false := by
  rcases shortS_cases g with ⟨h1, e⟩ | e | ⟨v, e⟩ | ⟨hg, hc, ha, e⟩
  · rw [e] at h; exact absurd h h1
  · rw [e] at h; cases h
  · rw [e] at h; cases h
  · rw [e]
    have hs := short_step hg hc ha
    exact same_ok (by rw [hs]) rfl (fun _ => short_cyc hg hc ha) (short_leads hg hc).leads (short_starts w) (okT_same (by rw [hs]) short_pl (short_leads hg hc).leads (short_starts w))
end Go.Proofs.Yticnpbopelgmiaa
namespace Go.Proofs.Yticnpbopelgmiaa
open Go.RowKit
set_option maxRecDepth 100000
-- SimX

set_option maxHeartbeats 4000000 in
theorem shortSame_sim {g : Gram} {w : List Int} (hl : g.rules.length ≤ 100000000) (hr : ∀ r ∈ g.rules, r.right.length ≤ 100000000) (hw : w.length ≤ 100000000) :
    ACalls Try.prog 9 [.d (gramD false g), .d (ints false w)] [] (B true) [] := by
  have hf : g.fit := ⟨hl, hr⟩
  have hsf := shortS_fit g
  have hm := shortMake_sim hf
  have hsame : (shortS g).2.code = 0 → SameOk g (shortS g).1 w false := fun h => by
    exact shortS_same h w
  have hhv := heavy_sim (t := false) (u := false) hf hw
  generalize shortS g = S at *
  obtain ⟨s, ⟨fc, fa⟩⟩ := S
  dsimp only at *
  have hh2 := heavy_sim (t := false) (u := false) hsf.g hw
  refine ACalls.intro (n := 30) Try.func9 rfl rfl (by simp) (by rfl) ?_
  simp only [argFr]
  cases hb : heavyB g w with
  | true =>
    rw [hb] at hhv
    repeat (first | refine wk ?_ | refine s_field (hr := ?_))
    refine s_call [] (hA := shortBegun_sim) (hr := ?_)
    repeat (first | refine wk ?_ | refine s_field (hr := ?_))
    refine s_call [] (hA := hhv) (hr := ?_)
    repeat (first | refine wk ?_ | refine s_field (hr := ?_))
    exact fin
  | false =>
  rw [hb] at hhv
  by_cases h0 : fc = 0
  · have hsm := same_sim (but := false) hf hsf hw (hsame h0)
    cases hb2 : heavyB s.g w with
    | true =>
      rw [hb2] at hh2
      repeat (first | refine wk ?_ | refine s_field (hr := ?_))
      refine s_call [] (hA := shortBegun_sim) (hr := ?_)
      repeat (first | refine wk ?_ | refine s_field (hr := ?_))
      refine s_call [] (hA := hhv) (hr := ?_)
      repeat (first | refine wk ?_ | refine s_field (hr := ?_))
      refine s_callf [] (hA := hm) (hr := ?_)
      repeat (first | refine wk ?_ | refine s_field (hr := ?_))
      refine s_call [] (hA := hh2) (hr := ?_)
      (repeat (first | refine wk ?_ | refine s_field (hr := ?_)))
      (repeat (first | refine wkz ?_ | refine s_field (hr := ?_)))
      --@
      exact fin
    | false =>
      rw [hb2] at hh2
      repeat (first | refine wk ?_ | refine s_field (hr := ?_))
      refine s_call [] (hA := shortBegun_sim) (hr := ?_)
      repeat (first | refine wk ?_ | refine s_field (hr := ?_))
      refine s_call [] (hA := hhv) (hr := ?_)
      repeat (first | refine wk ?_ | refine s_field (hr := ?_))
      refine s_callf [] (hA := hm) (hr := ?_)
      repeat (first | refine wk ?_ | refine s_field (hr := ?_))
      refine s_call [] (hA := hh2) (hr := ?_)
      repeat (first | refine wk ?_ | refine s_field (hr := ?_))
      --@
      refine s_call [] (hA := hsm) (hr := ?_)
      repeat (first | refine wk ?_ | refine s_field (hr := ?_))
      --@
      exact fin
  · repeat (first | refine wk ?_ | refine s_field (hr := ?_))
    refine s_call [] (hA := shortBegun_sim) (hr := ?_)
    repeat (first | refine wk ?_ | refine s_field (hr := ?_))
    refine s_call [] (hA := hhv) (hr := ?_)
    repeat (first | refine wk ?_ | refine s_field (hr := ?_))
    refine s_callf [] (hA := hm) (hr := ?_)
    repeat (first | refine wk ?_ | refine s_field (hr := ?_))
    --@
    exact fin
end Go.Proofs.Yticnpbopelgmiaa
