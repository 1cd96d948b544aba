/-
  Sim: short: rule.
-/
import Derived.Test.YtkfeccbahpmadaaShortQ
import Derived.Test.YtkfeccbahpmadaaFrC
set_option linter.unusedVariables false
set_option linter.unusedSimpArgs false
set_option linter.unusedSectionVars false
namespace Go.Proofs.Ytkfeccbahpmadaa
open Go.RowKit
set_option maxRecDepth 100000
-- SimX

set_option maxHeartbeats 4000000 in
theorem srule_gen {g : Gram} (hg : g.ok) (hc : cycL g = []) {t : Bool} {v : Int} : ∀ (n : Nat) (v0 : Int) (p : List Int) (i : Int) (s : SS), 0 ≤ v0 → v0 < g.vars → i ∈ by_ g v0 → rnk g v0 < n → p.length + n ≤ 70 → (∀ x ∈ p, 0 ≤ x ∧ x ≤ 160) → GOk g s.gv → s.F.length = s.R.length → s.R.length + (wayOf g i).length ≤ 160 →
    ACalls Try.prog 65 [.ptr 1000 0, I v, I i, .d (fragsD false (wrapF p (nodeF i (kN g i))))] (shH t g s.gv s.R s.F) (B (rulM g v n p i s).1) (shH t g (rulM g v n p i s).2.gv (rulM g v n p i s).2.R (rulM g v n p i s).2.F) := by
  intro n
  induction n with
  | zero => intro v0 p i s _ _ _ h; omega
  | succ n ih =>
  intro v0 p i s h0 h1 hi hn hp hpb hgv hF hR
  obtain ⟨k, hk, ek, _⟩ := by_mem.1 hi
  have hrk : rightAt g i = g.rules[k].right := by rw [ek]; exact rightAt_nat hk
  have hrr := hg.right _ (List.getElem_mem hk)
  have hrl := hg.rules
  have hun : ACalls Try.prog 137 [.d (.agg [iD g.rules[k].left, ints t g.rules[k].right])] [] (I (unitOf (rightAt g i))) [] := by rw [hrk]; exact unit_sim (by omega)
  have hkn : kN g i ≤ 10 := by
    unfold kN
    rw [hrk]
    have := kids_le g.rules[k].right
    omega
  obtain ⟨gv, R, F⟩ := s
  dsimp only at hgv hF hR ⊢
  rw [rulM]
  by_cases hu : unitOf (rightAt g i) < 0
  · rw [if_pos hu]
    have hE : wayOf g i = [[i]] := by unfold wayOf; rw [if_pos hu]
    rw [hE] at hR
    simp only [List.length_singleton] at hR
    have hsz := wrapF_size p (nodeF i (kN g i))
    rw [nodeF_size] at hsz
    have hpt := sparts_gen _ (t := false) (l := wrapF p (nodeF i (kN g i))) (Nat.lt_succ_self _) (by omega)
    have hge := unitOf_ge (rightAt g i)
    have e : R.map (ruleD false) ++ [.agg [.raw (.int .i64 v), .sl false 1 ([] ++ g.rules[k].right.map iD)]] = (R ++ [(⟨v, rightAt g i⟩ : Rule)]).map (ruleD false) := by rw [hrk, List.map_append]; rfl
    generalize wrapF p (nodeF i (kN g i)) = W at *
    have e2 : F.map (fragsD false) ++ [fragsD false W] = (F ++ [W]).map (fragsD false) := by rw [List.map_append]; rfl
    have e3 : decide ((fszs W : Int) ≤ 60) = decide (fszs W ≤ 60) := decide_eq_decide.2 (by omega)
    rw [← e3]
    generalize unitOf (rightAt g i) = un at *
    refine ACalls.intro (n := 96) Try.func65 rfl rfl (by simp) (by rfl) ?_
    simp only [argFr]
    repeat (first | refine wk ?_ | refine s_field (hr := ?_))
    refine s_call [] (hA := hun) (hr := ?_)
    repeat (first | refine wk ?_ | refine s_field (hr := ?_))
    refine s_call [] (hA := hpt) (hr := ?_)
    repeat (first | refine wkr ?_ | refine s_field (hr := ?_))
    rw [e, e2, List.length_map, List.length_map]
    repeat (first | refine wk ?_ | refine s_field (hr := ?_))
    exact fin
  · rw [if_neg hu]
    have hs := unit_step hi (by omega)
    obtain ⟨u0, u1⟩ := step_in hg h0 h1 hs
    have hr := rnk_lt hg hc h0 h1 hs
    have hwe := ways_eq hg hc u0 u1
    have hE : wayOf g i = (ways g (unitOf (rightAt g i))).map (i :: ·) := by unfold wayOf; rw [if_neg hu]
    rw [hE, List.length_map, hwe] at hR
    rw [kN_unit (g := g) (i := i) (by omega)]
    obtain ⟨u, hu2⟩ : ∃ u : Nat, unitOf (rightAt g i) = (u : Int) := ⟨(unitOf (rightAt g i)).toNat, by omega⟩
    rw [hu2] at hun u0 u1 hr hR ⊢
    have hct := count_gen hg hc (t := t) (R := R) (F := F) 65 u gv (by have := rnk_le hg u0 u1; omega) u1 hgv
    have hok1 := cntM_ok (g := g) 65 u gv hgv
    rw [Int.toNat_natCast]
    generalize cntM g 65 u gv = gv1 at *
    have hcr := cw_range g u
    by_cases hz : cw g u = 0
    · rw [if_pos hz]
      rw [hz] at hct
      refine ACalls.intro (n := 96) Try.func65 rfl rfl (by simp) (by rfl) ?_
      simp only [argFr]
      repeat (first | refine wk ?_ | refine s_field (hr := ?_))
      refine s_call [] (hA := hun) (hr := ?_)
      repeat (first | refine wk ?_ | refine s_field (hr := ?_))
      refine s_call [] (hA := hct) (hr := ?_)
      repeat (first | refine wk ?_ | refine s_field (hr := ?_))
      exact fin
    · rw [if_neg hz]
      have hby := by_sim (t := t) (g := g) (v := (u : Int)) (by omega)
      have hbll := byl_le g u
      have hin : ∀ x ∈ by_ g u, x ∈ by_ g (u : Int) := fun x h => h
      generalize hbl : by_ g (u : Int) = bl at *
      generalize cw g u = cu at *
      obtain ⟨b, sf, hres⟩ : ∃ b sf, rulL (fun k s => rulM g v n (p ++ [i]) k s) bl ⟨gv1, R, F⟩ = (b, sf) := ⟨_, _, rfl⟩
      rw [hres]
      obtain ⟨fg, fR, fF⟩ := sf
      dsimp only
      refine ACalls.intro (n := 96) Try.func65 rfl rfl (by simp) (by rfl) ?_
      simp only [argFr]
      repeat (first | refine wk ?_ | refine s_field (hr := ?_))
      refine s_call [] (hA := hun) (hr := ?_)
      repeat (first | refine wk ?_ | refine s_field (hr := ?_))
      refine s_call [] (hA := hct) (hr := ?_)
      repeat (first | refine wk ?_ | refine s_field (hr := ?_))
      refine s_call [] (hA := hby) (hr := ?_)
      repeat (first | refine wk ?_ | refine s_field (hr := ?_))
      --@
      refine t_loop (X := Nat × SS) (fun x => x.1 ≤ bl.length ∧ rulL (fun k s => rulM g v n (p ++ [i]) k s) (bl.drop x.1) x.2 = (b, ⟨fg, fR, fF⟩) ∧ GOk g x.2.gv ∧ x.2.F.length = x.2.R.length ∧ x.2.R.length + ((bl.drop x.1).flatMap (wayOf g)).length ≤ 160)
        (fun x => [(70, I x.1), (69, I bl.length), (68, .own 5 bl.length), (3, .d (fragsD false (wrapF p (nodeF i 1)))), (1, I v), (0, .ptr 1000 0)]) (fun x => (5, .row 3 1 (bl.map iD)) :: shH t g x.2.gv x.2.R x.2.F) (fun x => bl.length - x.1) (0, ⟨gv1, R, F⟩) ⟨Nat.zero_le _, hres, hok1, hF, hR⟩ ?_
      rintro ⟨j, gw, Rw, Fw⟩ ⟨j1, j2, j3, j4, j5⟩
      dsimp only at j1 j2 j3 j4 j5 ⊢
      by_cases hlt : j < bl.length
      · have hm : bl[j] ∈ by_ g (u : Int) := by rw [hbl]; exact List.getElem_mem hlt
        obtain ⟨k2, hk2, ek2, _⟩ := by_mem.1 hm
        have hrk2 : rightAt g bl[j] = g.rules[k2].right := by rw [ek2]; exact rightAt_nat hk2
        have hrr2 := hg.right _ (List.getElem_mem hk2)
        have hkn2 : kN g bl[j] = (kids g.rules[k2].right).length := by unfold kN; rw [hrk2]
        have hkl := kids_le g.rules[k2].right
        have hkd := kids_sim (t := t) (l := g.rules[k2].left) (xs := g.rules[k2].right) (by omega)
        rw [List.drop_eq_getElem_cons hlt, rulL] at j2
        rw [List.drop_eq_getElem_cons hlt, List.flatMap_cons, List.length_append] at j5
        have hpb2 : ∀ x ∈ p ++ [i], 0 ≤ x ∧ x ≤ 160 := fun x hx => by
          rcases List.mem_append.1 hx with hx | hx
          · exact hpb x hx
          · rw [List.mem_singleton.1 hx]; omega
        have hG := rulM_gives hg hc v n u (p ++ [i]) bl[j] ⟨gw, Rw, Fw⟩ u0 u1 hm (by omega)
        have hih := ih u (p ++ [i]) bl[j] ⟨gw, Rw, Fw⟩ u0 u1 hm (by omega) (by simp; omega) hpb2 j3 j4 (by dsimp only; omega)
        have hnd := node_sim (r := bl[j]) (k := kN g bl[j]) (by omega)
        have hplug : ACalls Try.prog 139 [.d (fragsD false (wrapF p (nodeF i 1))), I 0, .d (fragsD true (nodeF bl[j] (kN g bl[j]))), I (kN g bl[j])] [] (.d (fragsD false (wrapF (p ++ [i]) (nodeF bl[j] (kN g bl[j]))))) [] := by
          have hs1 := wrapF_size p (nodeF i 1)
          rw [nodeF_size] at hs1
          have hs2 := nodeF_size bl[j] (kN g bl[j])
          have hnb2 : NbL 1000000000 (nodeF bl[j] (kN g bl[j])) := nodeF_nb (by omega) (by omega) (by omega)
          have h := plug_sim (t := false) (u := true) (l := wrapF p (nodeF i 1)) (inn := nodeF bl[j] (kN g bl[j])) (k := 0) (n := (kN g bl[j] : Int)) (by omega) (by omega) (by rw [movL_zero]; exact wrapF_pt (by omega) (by omega)) (wrapF_nb (nodeF_nb (by omega) (by omega) (by omega)) (fun x hx => by have := hpb x hx; omega)) hnb2 (by rw [plug_wrap]; exact wrapF_nb hnb2 (fun x hx => by have := hpb2 x hx; omega)) (by omega) (by omega) (by omega) (by omega)
          rw [plug_wrap] at h
          exact h
        dsimp only at hih
        rw [hkn2] at hnd hplug hih
        generalize rulM g v n (p ++ [i]) bl[j] ⟨gw, Rw, Fw⟩ = q at *
        obtain ⟨b2, gz, Rz, Fz⟩ := q
        have hG3 := hG.gv j3
        have hG4 := hG.len j4
        have hGa := hG.all
        dsimp only at hih hG3 hG4 hGa j2
        have hWl : (nodeF bl[j] (kids g.rules[k2].right).length).length = 1 := rfl
        generalize hWW : nodeF bl[j] (kids g.rules[k2].right).length = WW at *
        generalize wrapF (p ++ [i]) WW = W2 at *
        generalize wrapF p (nodeF i 1) = W1 at *
        cases b2 with
        | true =>
          rw [if_pos rfl] at j2
          have hlen : Rz.length = Rw.length + (wayOf g bl[j]).length := by rw [(hGa rfl).1, List.length_append, List.length_map]
          repeat (first | refine wk ?_ | refine s_field (hr := ?_))
          refine s_call [] (hA := hkd) (hr := ?_)
          repeat (first | refine wk ?_ | refine s_field (hr := ?_))
          --@
          refine s_call [] (hA := hnd) (hr := ?_)
          repeat (first | refine wk ?_ | refine s_field (hr := ?_))
          refine s_call [] (hA := hplug) (hr := ?_)
          repeat (first | refine wk ?_ | refine s_field (hr := ?_))
          refine s_call [] (hA := hih) (hr := ?_)
          repeat (first | refine wk ?_ | refine s_field (hr := ?_))
          exact t_next (j + 1, ⟨gz, Rz, Fz⟩) (a := ⟨by omega, j2, hG3, hG4, by dsimp only; omega⟩) (b := by dsimp only; omega)
        | false =>
          rw [if_neg (by decide)] at j2
          obtain ⟨rfl, rfl, rfl, rfl⟩ : false = b ∧ gz = fg ∧ Rz = fR ∧ Fz = fF := by injection j2 with a1 a2; injection a2 with a2 a3 a4; exact ⟨a1, a2, a3, a4⟩
          repeat (first | refine wk ?_ | refine s_field (hr := ?_))
          refine s_call [] (hA := hkd) (hr := ?_)
          repeat (first | refine wk ?_ | refine s_field (hr := ?_))
          refine s_call [] (hA := hnd) (hr := ?_)
          repeat (first | refine wk ?_ | refine s_field (hr := ?_))
          refine s_call [] (hA := hplug) (hr := ?_)
          repeat (first | refine wk ?_ | refine s_field (hr := ?_))
          refine s_call [] (hA := hih) (hr := ?_)
          repeat (first | refine wk ?_ | refine s_field (hr := ?_))
          exact fin
      · rw [List.drop_of_length_le (by omega), rulL] at j2
        obtain ⟨rfl, rfl, rfl, rfl⟩ : true = b ∧ gw = fg ∧ Rw = fR ∧ Fw = fF := by injection j2 with a1 a2; injection a2 with a2 a3 a4; exact ⟨a1, a2, a3, a4⟩
        repeat (first | refine wk ?_ | refine s_field (hr := ?_))
        exact fin
end Go.Proofs.Ytkfeccbahpmadaa
