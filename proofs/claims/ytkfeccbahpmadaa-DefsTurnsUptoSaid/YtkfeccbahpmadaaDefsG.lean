/-
  Sim: DefsTurns returns true.
-/
import Derived.Test.YtkfeccbahpmadaaDeD
import Derived.Test.YtkfeccbahpmadaaDefsF
set_option linter.unusedVariables false
set_option linter.unusedSimpArgs false
set_option linter.unusedSectionVars false
namespace Go.Proofs.Ytkfeccbahpmadaa
open Go.RowKit
set_option maxRecDepth 100000
-- SimX

set_option maxHeartbeats 4000000 in
theorem defsTurns_sim {l : List Dfn} {by_ : Int} (hf : TextFit l) (hb1 : -9223372036854775808 ≤ by_) (hb2 : by_ ≤ 9223372036854775807) : ACalls Try.prog 6 [.d (textD false l), I by_] [] (B true) [] := by
  refine ACalls.intro (n := 92) Try.func6 rfl rfl (by simp) (by rfl) ?_
  simp only [argFr]
  have hg := greatText_sim (t := false) hf
  cases h : greatT l with
  | true =>
    rw [h] at hg
    repeat (first | refine wk ?_ | refine s_field (hr := ?_))
    refine s_call [] (hA := defsBegun_sim) (hr := ?_)
    repeat (first | refine wk ?_ | refine s_field (hr := ?_))
    refine s_call [] (hA := hg) (hr := ?_)
    (repeat (first | refine wkz ?_ | refine s_field (hr := ?_)))
    exact fin
  | false =>
    rw [h] at hg
    obtain ⟨hc, _⟩ := great_def h
    have hl := hc.l100
    by_cases h0 : l.length = 0
    · repeat (first | refine wk ?_ | refine s_field (hr := ?_))
      refine s_call [] (hA := defsBegun_sim) (hr := ?_)
      repeat (first | refine wk ?_ | refine s_field (hr := ?_))
      refine s_call [] (hA := hg) (hr := ?_)
      (repeat (first | refine wkz ?_ | refine s_field (hr := ?_)))
      exact fin
    have hu : 0 ≤ IntKind.u64.wrap by_ ∧ IntKind.u64.wrap by_ < 18446744073709551616 := by
      have e : IntKind.u64.wrap by_ = by_ % 18446744073709551616 := rfl
      rw [e]; omega
    generalize hU : IntKind.u64.wrap by_ = U at *
    have hk1 : 0 ≤ U % (l.length : Int) := Int.emod_nonneg _ (by omega)
    have hk2 : U % (l.length : Int) < l.length := Int.emod_lt_of_pos _ (by omega)
    obtain ⟨k, hk⟩ : ∃ k : Nat, U % (l.length : Int) = k := ⟨(U % (l.length : Int)).toNat, by omega⟩
    have hkl : k < l.length := by omega
    repeat (first | refine wk ?_ | refine s_field (hr := ?_))
    refine s_call [] (hA := defsBegun_sim) (hr := ?_)
    repeat (first | refine wk ?_ | refine s_field (hr := ?_))
    refine s_call [] (hA := hg) (hr := ?_)
    repeat (first | refine wk ?_ | refine s_field (hr := ?_))
    refine d_conv (c := U) rfl gOk_none rfl Try.underlying3 Try.underlying52 hU ?_
    repeat (first | refine wk ?_ | refine s_field (hr := ?_))
    refine d_conv (c := (l.length : Int)) rfl gOk_none rfl Try.underlying3 Try.underlying52 (IntWalk.u64_in _ ⟨by omega, by omega⟩) ?_
    refine d_rem rfl gOk_none rfl rfl hu.1 (by omega) ?_
    refine d_conv (c := (k : Int)) rfl gOk_none rfl Try.underlying52 Try.underlying3 (by rw [hk]; exact IntWalk.i64_in _ ⟨by omega, by omega⟩) ?_
    refine s_assign (hr := ?_)
    refine dops_end ?_
    refine andThen_n ?_
    iterate 5 (refine wk1 ?_)
    refine aw_nilCell 6 0 900 87 5 rfl rfl rfl rfl ?_
    repeat (first | refine wk ?_ | refine s_field (hr := ?_))
    have hrot : ([] ++ List.drop k (List.take (l.map (dfnD false)).length (l.map (dfnD false))) ++ List.drop 0 (List.take k (l.map (dfnD false)))) = (rotD l k).map (dfnD false) := by
      rw [List.nil_append, List.take_length, List.drop_zero, rotD, List.map_append, List.map_drop, List.map_take]
    have hlit : textD false (rotD l k) = .agg [.sl false 5 ([] ++ List.drop k (List.take (l.map (dfnD false)).length (l.map (dfnD false))) ++ List.drop 0 (List.take k (l.map (dfnD false))))] := by rw [hrot]; rfl
    have hcu := rot_fit hc k
    have f1 := defsCheck_sim (t := false) hc
    have f2 := defsCheck_sim (t := false) hcu
    have f3 := check_sim (t := false) hc.toChkFit
    have f4 := terms_sim (t := false) hc.l100 hc.e5
    have f5 := terms_sim (t := false) hcu.l100 hcu.e5
    rw [hlit] at f2 f5
    have htl := trms_small hc
    have htu := trms_small hcu
    refine s_call [] (hA := f1) (hr := ?_)
    repeat (first | refine wk ?_ | refine s_field (hr := ?_))
    refine s_call [] (hA := f2) (hr := ?_)
    repeat (first | refine wk ?_ | refine s_field (hr := ?_))
    refine s_call [] (hA := f3) (hr := ?_)
    by_cases hr : (renF l).code = 0
    rotate_left
    · have hru : (renF (rotD l k)).code ≠ 0 := fun h => hr ((rot_ren l k).1 h)
      have e1 : defsF l = renF l := by unfold defsF; rw [if_neg hr]
      have e2 : (defsF (rotD l k)).code ≠ 0 := by unfold defsF; rw [if_neg hru]; exact hru
      rw [e1]
      generalize defsF (rotD l k) = g2 at *
      generalize renF l = g1 at *
      have q2 : decide (g1 = g1) = true := by simp
      repeat (first | refine wk ?_ | refine s_field (hr := ?_))
      exact fin
    have hco := rot_defs l k hr
    have hlen := rot_tlen l k
    have hmem := rot_tmem l k
    rw [(renF_good hr).1]
    generalize defsF (rotD l k) = g2 at *
    generalize defsF l = g1 at *
    generalize trms (rotD l k) = TU at *
    generalize trms l = TL at *
    repeat (first | refine wk ?_ | refine s_field (hr := ?_))
    refine s_call [] (hA := f4) (hr := ?_)
    repeat (first | refine wk ?_ | refine s_field (hr := ?_))
    refine s_call [] (hA := f5) (hr := ?_)
    repeat (first | refine wk ?_ | refine s_field (hr := ?_))
    refine t_loop (X := Nat) (fun i => i ≤ TL.length) (fun i => [(12, I i), (11, .d (strs false TU)), (10, .d (strs false TL)), (8, .ptr 8 0), (7, .ptr 7 0)]) (fun _ => [(7, .box 33 [I g1.code, I g1.at_]), (8, .box 33 [I g2.code, I g2.at_])]) (fun i => TL.length - i) 0 (Nat.zero_le _) ?_
    intro i hi
    by_cases hlt : i < TL.length
    · have hpo := placeOf_sim (t := false) (l := TU) (s := TL[i]) (by omega)
      have hcm := plc_lt (l := TU) (s := TL[i])
      rw [decide_eq_true ((hmem _).2 (List.getElem_mem hlt))] at hcm
      have hpl : ¬ plc TU TL[i] < 0 := of_decide_eq_false hcm
      repeat (first | refine wk ?_ | refine s_field (hr := ?_))
      refine s_call [] (hA := hpo) (hr := ?_)
      repeat (first | refine wk ?_ | refine s_field (hr := ?_))
      exact t_next (i + 1)
    · have e1 : (decide (g1.code = 0) == decide (g2.code = 0)) = true := by
        by_cases hh : g1.code = 0
        · rw [decide_eq_true hh, decide_eq_true (hco.2 hh)]; rfl
        · rw [decide_eq_false hh, decide_eq_false (fun h => hh (hco.1 h))]; rfl
      repeat (first | refine wk ?_ | refine s_field (hr := ?_))
      exact Fin.norm (Fin.r1 rfl (.of_tmp rfl) (co_b (decide_eq_true (by omega))) trivial rfl)
theorem wf_i64 {n : Int} (h : (Lit.int .i64 n).wf = true) : -9223372036854775808 ≤ n ∧ n ≤ 9223372036854775807 := by
  simp only [Lit.wf, Bool.and_eq_true, decide_eq_true_eq] at h
  exact h
end Go.Proofs.Ytkfeccbahpmadaa
