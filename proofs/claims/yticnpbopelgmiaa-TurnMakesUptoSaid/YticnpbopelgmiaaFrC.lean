/-
  Sim: steps that are the same; Node; StepFault. Sim: StepFault.
-/
import Derived.Test.YticnpbopelgmiaaFrA
import Derived.Test.YticnpbopelgmiaaTreeB
import Derived.Test.YticnpbopelgmiaaS5
set_option linter.unusedVariables false
set_option linter.unusedSimpArgs false
set_option linter.unusedSectionVars false
namespace Go.Proofs.Yticnpbopelgmiaa
open Go.RowKit
set_option maxRecDepth 100000

theorem node_sim {r : Int} {k : Nat} (hk : k ≤ 100000000 := by ((try simp only [List.length_map, List.length_append, List.length_cons, List.length_nil, List.length_replicate, List.length_set, List.length_take, List.length_drop]); first | omega | assumption)) : ACalls Try.prog 58 [I r, I k] [] (.own 20 1) [(20, .row 67 3 ((nodeF r k).map (fragD false)))] := by
  refine ACalls.intro (n := 21) Try.func58 rfl rfl (by simp) (by rfl) ?_
  simp only [argFr]
  repeat (first | refine wk ?_)
  refine aw_nil 5 900 67 3 rfl rfl rfl ?_
  refine t_loop (X := Nat) (fun x => x ≤ k) (fun x => [(8, I x), (7, I k), (0, I r), (5, .own 900 (holes x).length)]) (fun x => [(900, .row 67 3 ((holes x).map (fragD false)))]) (fun x => k - x) 0 (Nat.zero_le _) ?_
  intro i h1
  have hh : (holes i).length = i := by simp [holes]
  by_cases hlt : i < k
  · have e := holes_dsnoc false i
    have e' : (holes (i + 1)).length = (holes i).length + 1 := by rw [holes_snoc]; simp
    repeat (first | refine wk ?_)
    exact t_next (i + 1)
  · obtain rfl : i = k := by omega
    rw [nodeF_map]
    repeat (first | refine wk ?_)
    exact fin
abbrev stepBox (t : Bool) (s : Step) : Ob := .box 31 [.d (iD s.g.vars), .d (iD s.g.terms), .d (iD s.g.start), .d (rulesD t s.g.rules), .d (.sl t 1 (s.frags.map (fragsD t))), .d (treesD t s.empty)]
theorem sameStep_sim {t u : Bool} {s : Step} (hs : s.fit) : ACalls Try.prog 18 [.d (stepD t s), .d (stepD u s)] [] (B true) [] := by
  refine ACalls.intro (n := 48) Try.func18 rfl rfl (by simp) (by rfl) ?_
  simp only [argFr]
  have hf := hs.frags
  have s1 := sameGram_sim (t := t) (u := u) hs.g hs.g
  rw [decide_eq_true rfl] at s1
  repeat (first | refine wk ?_)
  refine s_call [] (hA := s1) (hr := ?_)
  repeat (first | refine wk ?_)
  refine s_call [] (hA := sameTrees_sim hs.tree) (hr := ?_)
  repeat (first | refine wk ?_)
  refine t_loop (X := Nat) (fun x => x ≤ s.frags.length) (fun x => [(5, I x), (2, .ptr 2 0), (3, .ptr 3 0)]) (fun _ => [(2, stepBox t s), (3, stepBox u s)]) (fun x => s.frags.length - x) 0 (Nat.zero_le _) ?_
  intro i h1
  by_cases hlt : i < s.frags.length
  · have hfi := hs.frag _ (List.getElem_mem hlt)
    repeat (first | refine wk ?_)
    refine s_call [] (hA := sameFrag_sim) (hr := ?_)
    repeat (first | refine wk ?_)
    exact t_next (i + 1)
  · repeat (first | refine wk ?_)
    exact fin
end Go.Proofs.Yticnpbopelgmiaa
namespace Go.Proofs.Yticnpbopelgmiaa
open Go.RowKit
set_option maxRecDepth 100000

theorem all1_snoc {u : List Int} {k : Nat} (h : k < u.length) : (u.take (k + 1)).all (fun x => decide (x = 1)) = ((u.take k).all (fun x => decide (x = 1)) && decide (u[k] = 1)) := by
  rw [List.take_succ_eq_append_getElem h, List.all_append]; simp
set_option maxHeartbeats 600000 in
theorem stepFault_sim {t u : Bool} {old : Gram} {s : Step} (ho : old.fit) (hs : s.fit) : ACalls Try.prog 20 [.d (gramD t old), .d (stepD u s)] [] (.d (faultD (stepFault old s))) [] := by
  refine ACalls.intro (n := 124) Try.func20 rfl rfl (by simp) (by rfl) ?_
  simp only [argFr]
  have hf := hs.frags
  have he := hs.empty
  have hol := ho.rules
  have hgl := hs.g.rules
  have hor := ho.right
  have hgr := hs.g.right
  repeat (first | refine wk ?_ | refine s_field (hr := ?_))
  refine s_call [] (hA := gramFault_sim) (hr := ?_)
  by_cases h0 : (gramFault old).code = 0
  rotate_left
  · rw [show stepFault old s = gramFault old by rw [stepFault, if_neg h0]]
    repeat (first | refine wk ?_ | refine s_field (hr := ?_))
    exact fin
  have hg := gram_ok h0
  repeat (first | refine wk ?_ | refine s_field (hr := ?_))
  refine s_call [] (hA := gramFault_sim) (hr := ?_)
  by_cases h1 : (gramFault s.g).code = 0
  rotate_left
  · rw [show stepFault old s = gramFault s.g by rw [stepFault, if_pos h0, if_neg h1]]
    repeat (first | refine wk ?_ | refine s_field (hr := ?_))
    exact fin
  have hsg := gram_ok h1
  by_cases h2 : (s.empty.length : Int) > 200
  · rw [show stepFault old s = ⟨6, -1⟩ by rw [stepFault, if_pos h0, if_pos h1, if_neg (by omega)]]
    repeat (first | refine wk ?_ | refine s_field (hr := ?_))
    refine s_call [] (hA := f_sim) (hr := ?_)
    repeat (first | refine wk ?_ | refine s_field (hr := ?_))
    exact fin
  rw [show stepFault old s = if s.empty.any (badEmpty old) = true then ⟨13, -1⟩ else if s.frags.length = s.g.rules.length then sfirst old s.frags s.g.rules 0 else ⟨14, -1⟩ by rw [stepFault, if_pos h0, if_pos h1, if_pos (by omega)]]
  repeat (first | refine wk ?_ | refine s_field (hr := ?_))
  refine t_loop (X := Nat) (fun i => i ≤ s.empty.length ∧ ∀ j, j < i → ∀ (hj : j < s.empty.length), badEmpty old s.empty[j] = false) (fun i => [(7, I i), (2, .ptr 2 0), (3, .ptr 3 0), (4, .ptr 4 0)]) (fun _ => [(2, gramBox t old), (3, stepBox u s), (4, .box 33 [.d (iD 0), .d (iD 0)])]) (fun i => s.empty.length - i) 0 ⟨Nat.zero_le _, fun _ h => by omega⟩ ?_
  · rintro i ⟨hi, hp⟩
    by_cases hlt : i < s.empty.length
    · have hc := hs.trees _ (List.getElem_mem hlt)
      repeat (first | refine wk ?_ | refine s_field (hr := ?_))
      refine s_call [] (hA := treeFault_sim hol hor hc) (hr := ?_)
      by_cases h3 : (treeFault old s.empty[i] old.start).code = 0
      · obtain ⟨_, k1, k2, k3⟩ := treeFault_zero h3
        have hwl := wordT_le 10 hg.right s.empty[i]
        repeat (first | refine wk ?_ | refine s_field (hr := ?_))
        refine s_call [] (hA := wordOf_sim hg s.empty[i] _ k2 k1) (hr := ?_)
        by_cases h4 : (0 : Int) < (wordT old s.empty[i]).length
        · rw [if_pos (any_at hlt (by rw [badEmpty, decide_eq_true h3, decide_eq_true (show 0 < _ by omega)]; rfl))]
          repeat (first | refine wk ?_ | refine s_field (hr := ?_))
          refine s_call [] (hA := f_sim) (hr := ?_)
          repeat (first | refine wk ?_ | refine s_field (hr := ?_))
          exact fin
        · repeat (first | refine wk ?_ | refine s_field (hr := ?_))
          exact t_next (i + 1) (a := ⟨by omega, upto_succ hp (fun _ => by rw [badEmpty, decide_eq_true h3, decide_eq_false (show ¬ 0 < (wordT old s.empty[i]).length by omega)]; rfl)⟩)
      · rw [if_pos (any_at hlt (by simp [badEmpty, h3]))]
        repeat (first | refine wk ?_ | refine s_field (hr := ?_))
        refine s_call [] (hA := f_sim) (hr := ?_)
        repeat (first | refine wk ?_ | refine s_field (hr := ?_))
        exact fin
    · rw [if_neg (by rw [any_none (fun j hj => hp j (by omega) hj)]; simp)]
      by_cases h5 : s.frags.length = s.g.rules.length
      rotate_left
      · rw [if_neg h5]
        repeat (first | refine wk ?_ | refine s_field (hr := ?_))
        refine s_call [] (hA := f_sim) (hr := ?_)
        repeat (first | refine wk ?_ | refine s_field (hr := ?_))
        exact fin
      rw [if_pos h5]
      repeat (first | refine wk ?_ | refine s_field (hr := ?_))
      refine t_loop (X := Nat) (fun i => i ≤ s.frags.length ∧ sfirst old s.frags s.g.rules 0 = sfirst old (s.frags.drop i) (s.g.rules.drop i) i) (fun i => [(8, I i), (2, .ptr 2 0), (3, .ptr 3 0), (4, .ptr 4 0)]) (fun _ => [(2, gramBox t old), (3, stepBox u s), (4, .box 33 [.d (iD 0), .d (iD 0)])]) (fun i => s.frags.length - i) 0 ⟨Nat.zero_le _, rfl⟩ ?_
      rintro i ⟨hi, hp⟩
      by_cases hlt : i < s.frags.length
      · have hlr : i < s.g.rules.length := by omega
        have hfi := hs.frag _ (List.getElem_mem hlt)
        have hst := sfirst_step (old := old) hlt hlr
        have hgi := hgr _ (List.getElem_mem hlr)
        have hcp := cpL_le s.frags[i]
        have hkl := kids_le s.g.rules[i].right
        by_cases c1 : 60 < cpL s.frags[i]
        · have e6 : partFault old s.frags[i] s.g.rules[i].right = 6 := by rw [partFault, if_pos c1]
          rw [e6, if_neg (by decide)] at hst
          rw [hp, hst]
          repeat (first | refine wk ?_ | refine s_field (hr := ?_))
          refine s_call [] (hA := countedParts_sim) (hr := ?_)
          repeat (first | refine wk ?_ | refine s_field (hr := ?_))
          refine s_call [] (hA := f_sim) (hr := ?_)
          repeat (first | refine wk ?_ | refine s_field (hr := ?_))
          exact fin
        · have hus := uses_gen _ (t := u) (l := s.frags[i]) (m := old.rules.length) (u := List.replicate (kids s.g.rules[i].right).length 0) (Z := 0) (k := (kids s.g.rules[i].right).length) (Nat.lt_succ_self _) (by simp) (fun x hx => by rw [(List.mem_replicate.1 hx).2]; omega) (by omega) (by omega) hol
          rw [List.map_replicate] at hus
          have hul := usL_len old.rules.length s.frags[i] (List.replicate (kids s.g.rules[i].right).length 0)
          rw [List.length_replicate] at hul
          have hpe : partFault old s.frags[i] s.g.rules[i].right = if okUse old s.frags[i] s.g.rules[i].right = true then 0 else 14 := by rw [partFault, if_neg c1]
          have hok : okUse old s.frags[i] s.g.rules[i].right = ((usL old.rules.length s.frags[i] (List.replicate (kids s.g.rules[i].right).length 0)).1 && (usL old.rules.length s.frags[i] (List.replicate (kids s.g.rules[i].right).length 0)).2.all (fun x => decide (x = 1))) := rfl
          generalize usL old.rules.length s.frags[i] (List.replicate (kids s.g.rules[i].right).length 0) = U at hus hul hok
          obtain ⟨o, us⟩ := U
          dsimp only at hus hul hok
          repeat (first | refine wk ?_ | refine s_field (hr := ?_))
          refine s_call [] (hA := countedParts_sim) (hr := ?_)
          repeat (first | refine wk ?_ | refine s_field (hr := ?_))
          refine s_call [(3, 900)] (hA := kidsOf_sim) (hr := ?_)
          repeat (first | refine wk ?_ | refine s_field (hr := ?_))
          refine s_call [(1000, 94)] (hA := hus) (hr := ?_)
          repeat (first | refine wk ?_ | refine s_field (hr := ?_))
          refine t_loop (X := Nat) (fun k => k ≤ us.length) (fun k => [(11, I k), (10, B (o && (us.take k).all (fun x => decide (x = 1)))), (9, .own 94 us.length), (8, I i), (2, .ptr 2 0), (3, .ptr 3 0), (4, .ptr 4 0)]) (fun _ => [(94, .row 3 1 (us.map iD)), (2, gramBox t old), (3, stepBox u s), (4, .box 33 [.d (iD 0), .d (iD 0)])]) (fun k => us.length - k) 0 (Nat.zero_le _) ?_
          intro k hk
          by_cases hkt : k < us.length
          · have hsn := all1_snoc hkt
            cases hv : (o && (us.take k).all (fun x => decide (x = 1))) with
            | true =>
              have e : decide (us[k] = 1) = (o && (us.take (k + 1)).all (fun x => decide (x = 1))) := by rw [hsn, ← Bool.and_assoc, hv, Bool.true_and]
              repeat (first | refine wk ?_ | refine s_field (hr := ?_))
              exact t_next (k + 1)
            | false =>
              have e : false = (o && (us.take (k + 1)).all (fun x => decide (x = 1))) := by rw [hsn, ← Bool.and_assoc, hv, Bool.false_and]
              repeat (first | refine wk ?_ | refine s_field (hr := ?_))
              exact t_next (k + 1)
          · have e0 : us.take k = us := List.take_of_length_le (by omega)
            rw [e0, ← hok]
            cases hv : okUse old s.frags[i] s.g.rules[i].right with
            | true =>
              rw [hpe, hv, if_pos rfl, if_pos rfl] at hst
              repeat (first | refine wk ?_ | refine s_field (hr := ?_))
              exact t_next (i + 1) (a := ⟨by omega, hp.trans hst⟩)
            | false =>
              rw [hpe, hv, if_neg (by decide), if_neg (by decide)] at hst
              rw [hp, hst]
              repeat (first | refine wk ?_ | refine s_field (hr := ?_))
              refine s_call [] (hA := f_sim) (hr := ?_)
              repeat (first | refine wk ?_ | refine s_field (hr := ?_))
              exact fin
      · rw [hp, sfirst_end hlt]
        repeat (first | refine wk ?_ | refine s_field (hr := ?_))
        exact fin
end Go.Proofs.Yticnpbopelgmiaa
