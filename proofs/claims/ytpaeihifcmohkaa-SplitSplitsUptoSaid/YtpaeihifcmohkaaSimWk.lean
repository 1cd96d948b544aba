/-
  Sim: a load of a cell of an object that operations of the same region may write in any order, as long as the cell stays.
-/
import Derived.Test.YtpaeihifcmohkaaSimZ
set_option linter.unusedVariables false
set_option linter.unusedSimpArgs false
namespace Go.Proofs.Ytpaeihifcmohkaa
open Go.RowKit

def CellIs (off : Nat) (c : V) (ob : Ob) : Prop := ∃ bt cs, ob = .box bt cs ∧ cs[off]? = some c
section
variable {P : Program} {n : Nat} {ops : Array Oper} {K : Fr → Hp → Prop} {dr : Bool} {rest : List Oper} {log : List Rec} {fr : Fr} {h : Hp} {d : Nat} {ty : TypeId} {pos : String} {after : Array Edge} {g : Option (Nat × Bool)}
variable (T : TT P)
theorem d_loadW {x : Operand} {t : TypeId} {y : Ty} {k off : Nat} {bt : TypeId} {cs : List V} {c : V} (hdn : Nat.blt d n = true) (hg : gOk ops fr g) (hx : oev fr x = .ptr k off) (hk : hget h k = some (.box bt cs)) (ht : T.rows[t]? = some y) (hrow : y.row = false) (hc : cs[off]? = some c) (hlog : (log.all fun r => r.wk.all fun j => !Nat.beq j k) = true)
    (hr : dops P n dr ops rest (⟨(gIns ops g ++ insOf x (.ptr k off)).map Prod.fst, [d], [], []⟩ :: log) (fun fr' h' => K fr' h' ∧ ∃ u, h' = u ++ h ∧ ∀ q ∈ u, q.1 = k → CellIs off c q.2) ((d, c) :: fr) h) : dops P n dr ops (⟨some d, .load t x, ty, pos, after, g⟩ :: rest) log K fr h := by
  refine .inr ⟨gIns ops g ++ insOf x (.ptr k off), k, CellIs off c, c, ?_, fun p hp => ?_, ⟨_, hk, bt, cs, rfl, hc⟩, fun r hr hm => ?_, hr⟩
  · intro G E fr' h' a w K Q hn C hi ho hK
    obtain ⟨ob, hk', bt', cs', rfl, hc'⟩ := ho
    have hgo : gOk ops fr' g := gOk_of hg (fun p hp => hi p (List.mem_append.2 (.inl hp)))
    obtain ⟨r, _⟩ := C.oev (oev_of hx (fun p hp => hi p (List.mem_append.2 (.inr hp)))) (oneOpd_spec (oneOpd_of hx rfl))
    simp only [V.Rep] at r
    obtain ⟨us, g1, g2, _⟩ := C.heap.obs k _ hk'
    obtain ⟨u, q1, q2⟩ := g2.get hc'
    obtain ⟨_, ds, _, h2, _, _, h5, _⟩ := tyOf_spec (T.at ht)
    have hl := run_loadAt_one (P := P) h2 (by rw [h5]; exact hrow) (w := w) (b := E.blk k) (o := off) (u := u) (by rw [cell_of_row w _ off _ bt' _ g1]; simpa using q1)
    unfold wpS
    rw [if_pos (gOk_wanted C hgo)]
    refine .inl ?_
    unfold Oper.wp
    have he : (execOp a.eval ⟨some d, .load t x, ty, pos, after, g⟩).run P w = .ok (.value u) w := by
      simp only [execOp, r, Sem.run_bind, hl, Result.andThen_ok, Sem.run_pure]
    rw [he]
    simp only [Oper.upon]
    refine hK E _ w ?_
    exact C.put (by rw [hn]; simpa [Nat.blt_eq] using hdn) q2 (fun j hj => C.heap.closed k _ hk' j (by simp only [Ob.keys]; exact V.keyss_mem.2 ⟨c, List.mem_of_getElem? hc', hj⟩))
  · rcases List.mem_append.1 hp with hp | hp
    · exact gOk_ins hg p hp
    · exact oev_ins hx p hp
  · rw [List.all_eq_true] at hlog
    have h1 := hlog r hr
    rw [List.all_eq_true] at h1
    have h2 := h1 k hm
    rw [Nat.beq_refl] at h2; cases h2
end
/-- One step of the walk. -/
theorem wk1 {G K : Prop} (hK : K) (h : Bx K → G := by intro hK; (first | (refine gOp ?_; first | refine s_move (hr := ?_) | refine s_assign (hr := ?_) | (refine gLoad ?_; first | refine s_load TY (hr := ?_) | refine s_loadE TY (hr := ?_) | refine s_loadA TY (hr := ?_) | refine s_loadEA TY (hr := ?_)) | (refine gField ?_; first | refine s_fieldAddr TY (hr := ?_) | refine s_fieldAddrE TY (hr := ?_) | refine s_fieldAddrO TY (hr := ?_)) | (refine gIndex ?_; first | refine s_indexAddr TY (hr := ?_) | refine s_indexAddrO TY (hr := ?_)) | (refine gBin ?_; first | refine s_cmp (hr := ?_) | refine s_add (hr := ?_) | refine s_sub (hr := ?_) | refine s_cat (hr := ?_) | refine s_eqS (hr := ?_) | refine s_neS (hr := ?_) | refine s_eqA (hr := ?_) | refine s_neA (hr := ?_) | refine s_eqB (hr := ?_) | refine s_neB (hr := ?_) | refine s_mul (hr := ?_) | refine s_or (hr := ?_) | refine s_and (hr := ?_) | refine s_shr (hr := ?_) | refine s_shl (hr := ?_) | refine s_rem (hr := ?_) | refine s_quo (hr := ?_)) | (refine gCall ?_; first | refine s_len TY (hr := ?_) | refine s_lenS TY (hr := ?_) | refine s_app TY (hr := ?_) | refine s_appNew TY (hr := ?_) | refine s_min (hr := ?_) | refine s_max (hr := ?_)) | (refine gPick ?_; first | refine s_pick true (hr := ?_) | refine s_pick false (hr := ?_) | refine s_pickB (hr := ?_)) | (refine gNil ?_; first | refine s_nilCheck (hr := ?_) | refine s_nilCheckO (hr := ?_)) | (refine gStore ?_; first | refine s_store TY (hr := ?_) | refine s_storeO TY (hr := ?_)) | (refine gUn ?_; first | refine s_not (hr := ?_) | refine s_neg (hr := ?_)) | refine s_box (hr := ?_) | refine s_alloc TY (hr := ?_) | refine s_buildSlice TY (hr := ?_) | refine s_build TY (hr := ?_) | refine s_extract (hr := ?_) | refine s_makeFunc (hr := ?_) | refine s_slice TY (hr := ?_) | refine s_skip (hr := ?_) | refine s_makeSlice TY (hr := ?_) | refine s_conv (hr := ?_)) | refine aw_seq ?_ | refine t_reg ?_ | refine andThen_n ?_ | refine dops_end ?_ | refine aw_block ?_ | refine aw_skip ?_ | refine aw_exit ?_ | refine aw_ret ?_ | refine aw_label ?_ | refine andThen_e ?_ | refine andThen_r ?_ | refine inBlock_n ?_ | refine inBlock_r ?_ | refine inBlock_e ?_ | refine t_inBlock_o ?_ | refine t_drawn ?_ | refine t_condT ?_ | refine t_condF ?_); exact hK.out) : G := h ⟨hK⟩
/-- The end of such a region. -/
theorem keepsCell {K : Fr → Hp → Prop} {k off : Nat} {c : V} {fr : Fr} {h h' u : Hp} (hK : K fr h') (hu : h' = u ++ h) (hq : ∀ q ∈ u, q.1 = k → CellIs off c q.2) : (fun fr' h' => K fr' h' ∧ ∃ u, h' = u ++ h ∧ ∀ q ∈ u, q.1 = k → CellIs off c q.2) fr h' := ⟨hK, u, hu, hq⟩
end Go.Proofs.Ytpaeihifcmohkaa
