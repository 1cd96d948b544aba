/-
  Sim: the walk that stops ahead of a return. Sim: a row of the call's own without its first elements, or under another number. Sim: a load of a cell of an object that operations of the same region may write in any order, as long as the cell stays. Faults compared. Sim: SameGram, Clone, OwnGram, bare, ownInts. Trees, plain: counted, fitting, their words, their order.
-/
import Derived.Test.YticnpbopelgmiaaSimW
import Derived.Test.YticnpbopelgmiaaS4
import Derived.Test.YticnpbopelgmiaaG1
set_option linter.unusedVariables false
set_option linter.unusedSimpArgs false
set_option linter.unusedSectionVars false
namespace Go.Proofs.Yticnpbopelgmiaa
open Go.RowKit
theorem wkr {G K : Prop} (hK : K) (h : Bx K → G := by intro hK; (first | (refine gOp ?_; first | refine s_move (hr := ?_) | refine s_assign (hr := ?_) | (refine gLoad ?_; first | refine s_load TY (hr := ?_) | refine s_loadE TY (hr := ?_) | refine s_loadA TY (hr := ?_) | refine s_loadEA TY (hr := ?_)) | (refine gField ?_; first | refine s_fieldAddr TY (hr := ?_) | refine s_fieldAddrE TY (hr := ?_) | refine s_fieldAddrO TY (hr := ?_)) | (refine gIndex ?_; first | refine s_indexAddr TY (hr := ?_) | refine s_indexAddrO TY (hr := ?_)) | (refine gBin ?_; first | refine s_cmp (hr := ?_) | refine s_add (hr := ?_) | refine s_sub (hr := ?_) | refine s_cat (hr := ?_) | refine s_eqS (hr := ?_) | refine s_neS (hr := ?_) | refine s_eqA (hr := ?_) | refine s_neA (hr := ?_) | refine s_eqB (hr := ?_) | refine s_neB (hr := ?_) | refine s_mul (hr := ?_) | refine s_or (hr := ?_) | refine s_and (hr := ?_) | refine s_shr (hr := ?_) | refine s_shl (hr := ?_) | refine s_rem (hr := ?_) | refine s_quo (hr := ?_)) | (refine gCall ?_; first | refine s_len TY (hr := ?_) | refine s_lenS TY (hr := ?_) | refine s_app TY (hr := ?_) | refine s_appNew TY (hr := ?_) | refine s_min (hr := ?_) | refine s_max (hr := ?_)) | (refine gPick ?_; first | refine s_pick true (hr := ?_) | refine s_pick false (hr := ?_) | refine s_pickB (hr := ?_)) | (refine gNil ?_; first | refine s_nilCheck (hr := ?_) | refine s_nilCheckO (hr := ?_)) | (refine gStore ?_; first | refine s_store TY (hr := ?_) | refine s_storeO TY (hr := ?_)) | (refine gUn ?_; first | refine s_not (hr := ?_) | refine s_neg (hr := ?_)) | refine s_box (hr := ?_) | refine s_alloc TY (hr := ?_) | refine s_buildSlice TY (hr := ?_) | refine s_build TY (hr := ?_) | refine s_extract (hr := ?_) | refine s_makeFunc (hr := ?_) | refine s_slice TY (hr := ?_) | refine s_skip (hr := ?_) | refine s_makeSlice TY (hr := ?_) | refine s_conv (hr := ?_)) | refine aw_seq ?_ | refine t_reg ?_ | refine andThen_n ?_ | refine dops_end ?_ | refine aw_block ?_ | refine aw_skip ?_ | refine aw_exit ?_ | refine aw_label ?_ | refine andThen_e ?_ | refine andThen_r ?_ | refine inBlock_n ?_ | refine inBlock_r ?_ | refine inBlock_e ?_ | refine t_inBlock_o ?_ | refine t_drawn ?_ | refine t_condT ?_ | refine t_condF ?_); (repeat (first | (refine gOp ?_; first | refine s_move (hr := ?_) | refine s_assign (hr := ?_) | (refine gLoad ?_; first | refine s_load TY (hr := ?_) | refine s_loadE TY (hr := ?_) | refine s_loadA TY (hr := ?_) | refine s_loadEA TY (hr := ?_)) | (refine gField ?_; first | refine s_fieldAddr TY (hr := ?_) | refine s_fieldAddrE TY (hr := ?_) | refine s_fieldAddrO TY (hr := ?_)) | (refine gIndex ?_; first | refine s_indexAddr TY (hr := ?_) | refine s_indexAddrO TY (hr := ?_)) | (refine gBin ?_; first | refine s_cmp (hr := ?_) | refine s_add (hr := ?_) | refine s_sub (hr := ?_) | refine s_cat (hr := ?_) | refine s_eqS (hr := ?_) | refine s_neS (hr := ?_) | refine s_eqA (hr := ?_) | refine s_neA (hr := ?_) | refine s_eqB (hr := ?_) | refine s_neB (hr := ?_) | refine s_mul (hr := ?_) | refine s_or (hr := ?_) | refine s_and (hr := ?_) | refine s_shr (hr := ?_) | refine s_shl (hr := ?_) | refine s_rem (hr := ?_) | refine s_quo (hr := ?_)) | (refine gCall ?_; first | refine s_len TY (hr := ?_) | refine s_lenS TY (hr := ?_) | refine s_app TY (hr := ?_) | refine s_appNew TY (hr := ?_) | refine s_min (hr := ?_) | refine s_max (hr := ?_)) | (refine gPick ?_; first | refine s_pick true (hr := ?_) | refine s_pick false (hr := ?_) | refine s_pickB (hr := ?_)) | (refine gNil ?_; first | refine s_nilCheck (hr := ?_) | refine s_nilCheckO (hr := ?_)) | (refine gStore ?_; first | refine s_store TY (hr := ?_) | refine s_storeO TY (hr := ?_)) | (refine gUn ?_; first | refine s_not (hr := ?_) | refine s_neg (hr := ?_)) | refine s_box (hr := ?_) | refine s_alloc TY (hr := ?_) | refine s_buildSlice TY (hr := ?_) | refine s_build TY (hr := ?_) | refine s_extract (hr := ?_) | refine s_makeFunc (hr := ?_) | refine s_slice TY (hr := ?_) | refine s_skip (hr := ?_) | refine s_makeSlice TY (hr := ?_) | refine s_conv (hr := ?_)) | refine aw_seq ?_ | refine t_reg ?_ | refine andThen_n ?_ | refine dops_end ?_ | refine aw_block ?_ | refine aw_skip ?_ | refine aw_exit ?_ | refine aw_label ?_ | refine andThen_e ?_ | refine andThen_r ?_ | refine inBlock_n ?_ | refine inBlock_r ?_ | refine inBlock_e ?_ | refine t_inBlock_o ?_ | refine t_drawn ?_ | refine t_condT ?_ | refine t_condF ?_)); exact hK.out) : G := h ⟨hK⟩
theorem fldFault0 : FieldRun Try.prog 33 0 2 0 := fieldRun Try.underlying33 rfl rfl rfl Try.underlying3 rfl
theorem fldFault1 : FieldRun Try.prog 33 1 2 1 := fieldRun Try.underlying33 rfl rfl rfl Try.underlying3 rfl
section
variable {P : Program} {n : Nat} {dr : Bool} {ops : Array Oper} {rest : List Oper} {log : List Rec} {K : Exit → Fr → Hp → Prop} {fr : Fr} {h : Hp}
variable {d : Nat} {ty : TypeId} {pos : String} {after : Array Edge} {g : Option (Nat × Bool)}
theorem s_field {x : Operand} {st f m fo : Nat} {v c : V} {cs : List V} (hdn : Nat.blt d n = true := by exact rfl) (hg : gOk ops fr g := by first | exact gOk_none | exact gOk_some rfl rfl rfl | (apply gOk_some rfl rfl; (first | assumption | exact rfl | exact decide_eq_true rfl | exact congrArg not (decide_eq_true rfl) | ((try simp only [decide_eq_true_eq, decide_eq_false_iff_not, Bool.not_true, Bool.not_false, Bool.not_eq_true', Bool.not_eq_false', Bool.not_not, Int.not_lt, Int.not_le, Bool.and_eq_true, Bool.or_eq_true, Bool.and_eq_false_iff, Bool.or_eq_false_iff]); first | assumption | omega)))) (hF : FieldRun P st f m fo := by first | exact fldFault0 | exact fldFault1) (hx : oev fr x = v := by conv => lhs; whnf) (h1 : oneOpd x = true := by exact rfl) (hv : isAggV v = true := by exact rfl) (hcs : v.cellsOf = some cs := by exact rfl) (hm : cs.length = m := by exact rfl) (hc : cs[fo]? = some c := by exact rfl) (hr : dops P n dr ops rest (⟨(gIns ops g ++ insOf x v).map Prod.fst, [d], [], []⟩ :: log) K ((d, c) :: fr) h) : dops P n dr ops (⟨some d, .field st x f, ty, pos, after, g⟩ :: rest) log K fr h :=
  d_field hdn hg hF hx h1 hv hcs hm hc hr
end
section
variable {P : Program} {n : Nat} {Q : Exit → Fr → Hp → Prop} {K : Exit → Fr → Hp → Prop} {fr : Fr} {h : Hp}
theorem t_eqNil {id c d e st yt cty ty : Nat} {x : Operand} {t : Bool} {sz : Nat} {xs : List D} {pos1 pos2 : String} {af1 af2 : Array Edge} (hT : xs = [] → Q .normal ((d, B true) :: (c, .d (.sl t sz xs)) :: fr) h) (hF : Q .normal ((d, B false) :: (c, .d (.sl t sz xs)) :: fr) h) (hu : Try.prog.underlying st = some (.slice e)) (hcn : Nat.blt c n = true := by exact rfl) (hdn : Nat.blt d n = true := by exact rfl) (hx : oev fr x = .d (.sl t sz xs) := by exact rfl) :
    aw Try.prog n (.region id #[⟨some c, .move x, cty, pos1, af1, none⟩, ⟨some d, .binOp .eql st (.tmp c) (.const (.slice none 0 0)) yt, ty, pos2, af2, none⟩] false) Q fr h := aw_eqNil hcn hdn hx hu hT hF
theorem finx {G : Prop} (h : G := by (try refine Fin.norm ?_); first | exact Fin.r1 rfl (.of_tmp rfl) (co_own (by first | exact rfl | (simp; done) | omega | assumption | exact e | (simp [e]; done))) (by repeat' (first | exact trivial | exact VLe.refl _ | exact HElt.of rfl | assumption | exact HLe.append_left (by assumption) | exact HLe.of_self (by assumption) | (refine And.intro ?_ ?_) | (refine own_eq rfl ?_; first | exact rfl | assumption | omega | exact e | exact e.symm | (simp only [e]; done) | (simp [e, iD, bD, sD]; done) | (simp [e]; omega) | (simp; done) | (simp; omega)) | (refine row_eq rfl ?_; first | exact rfl | assumption | omega | exact e | exact e.symm | (simp only [e]; done) | (simp [e, iD, bD, sD]; done) | (simp [e]; omega) | (simp; done) | (simp; omega)) | (refine int_eq rfl ?_; first | exact rfl | assumption | omega | exact e | exact e.symm | (simp only [e]; done) | (simp [e, iD, bD, sD]; done) | (simp [e]; omega) | (simp; done) | (simp; omega)) | (refine str_eq rfl ?_; first | exact rfl | assumption | omega | exact e | exact e.symm | (simp only [e]; done) | (simp [e, iD, bD, sD]; done) | (simp [e]; omega) | (simp; done) | (simp; omega)) | (refine bool_eq rfl ?_; first | exact rfl | assumption | omega | exact e | exact e.symm | (simp only [e]; done) | (simp [e, iD, bD, sD]; done) | (simp [e]; omega) | (simp; done) | (simp; omega)) | (refine sl_eq rfl ?_; first | exact rfl | assumption | omega | exact e | exact e.symm | (simp only [e]; done) | (simp [e, iD, bD, sD]; done) | (simp [e]; omega) | (simp; done) | (simp; omega)) | (refine dd_eq rfl ?_; first | exact rfl | assumption | omega | exact e | exact e.symm | (simp only [e]; done) | (simp [e, iD, bD, sD]; done) | (simp [e]; omega) | (simp; done) | (simp; omega)) | (refine box_eq rfl ?_; first | exact rfl | assumption | omega | exact e | exact e.symm | (simp only [e]; done) | (simp [e, iD, bD, sD]; done) | (simp [e]; omega) | (simp; done) | (simp; omega)) | exact nil_le _ _ rfl | (refine row_le rfl ?_; (repeat' (first | exact DLes.refl _ | exact DLes.nil | exact DLe.refl _ | exact DLe.nil _ _ | assumption | exact e | refine DLes.cons ?_ ?_ | refine DLe.agg ?_ | refine DLe.sl ?_ | (apply DLes.snoc; (first | assumption | exact e | exact e.symm)))); done) | (refine frz_le rfl ?_; (repeat' (first | exact DLes.refl _ | exact DLes.nil | exact DLe.refl _ | exact DLe.nil _ _ | assumption | exact e | refine DLes.cons ?_ ?_ | refine DLe.agg ?_ | refine DLe.sl ?_ | (apply DLes.snoc; (first | assumption | exact e | exact e.symm)))); done) | (refine agg_le rfl ?_; (repeat' (first | exact DLes.refl _ | exact DLes.nil | exact DLe.refl _ | exact DLe.nil _ _ | assumption | exact e | refine DLes.cons ?_ ?_ | refine DLe.agg ?_ | refine DLe.sl ?_ | (apply DLes.snoc; (first | assumption | exact e | exact e.symm)))); done) | (refine box_le rfl ?_; (repeat' (first | exact VLes.refl _ | refine And.intro ?_ ?_ | exact trivial | exact VLe.refl _ | exact VLe.nil _ _)); done))) (by first | exact rfl | (simp [frIn, hpIn, V.inside, V.insides, *]; done)) | exact Fin.r1 rfl (.of_tmp rfl) (by repeat' (first | exact trivial | (refine ⟨?_, ?_⟩) | exact Co.refl _ | exact Co.froz rfl rfl | exact Co.froz rfl (by simp) | exact Co.nil _ _ | exact Co.nil false _)) (by repeat' (first | exact trivial | exact VLe.refl _ | exact HElt.of rfl | assumption | exact HLe.append_left (by assumption) | exact HLe.of_self (by assumption) | (refine And.intro ?_ ?_) | (refine own_eq rfl ?_; first | exact rfl | assumption | omega | exact e | exact e.symm | (simp only [e]; done) | (simp [e, iD, bD, sD]; done) | (simp [e]; omega) | (simp; done) | (simp; omega)) | (refine row_eq rfl ?_; first | exact rfl | assumption | omega | exact e | exact e.symm | (simp only [e]; done) | (simp [e, iD, bD, sD]; done) | (simp [e]; omega) | (simp; done) | (simp; omega)) | (refine int_eq rfl ?_; first | exact rfl | assumption | omega | exact e | exact e.symm | (simp only [e]; done) | (simp [e, iD, bD, sD]; done) | (simp [e]; omega) | (simp; done) | (simp; omega)) | (refine str_eq rfl ?_; first | exact rfl | assumption | omega | exact e | exact e.symm | (simp only [e]; done) | (simp [e, iD, bD, sD]; done) | (simp [e]; omega) | (simp; done) | (simp; omega)) | (refine bool_eq rfl ?_; first | exact rfl | assumption | omega | exact e | exact e.symm | (simp only [e]; done) | (simp [e, iD, bD, sD]; done) | (simp [e]; omega) | (simp; done) | (simp; omega)) | (refine sl_eq rfl ?_; first | exact rfl | assumption | omega | exact e | exact e.symm | (simp only [e]; done) | (simp [e, iD, bD, sD]; done) | (simp [e]; omega) | (simp; done) | (simp; omega)) | (refine dd_eq rfl ?_; first | exact rfl | assumption | omega | exact e | exact e.symm | (simp only [e]; done) | (simp [e, iD, bD, sD]; done) | (simp [e]; omega) | (simp; done) | (simp; omega)) | (refine box_eq rfl ?_; first | exact rfl | assumption | omega | exact e | exact e.symm | (simp only [e]; done) | (simp [e, iD, bD, sD]; done) | (simp [e]; omega) | (simp; done) | (simp; omega)) | exact nil_le _ _ rfl | (refine row_le rfl ?_; (repeat' (first | exact DLes.refl _ | exact DLes.nil | exact DLe.refl _ | exact DLe.nil _ _ | assumption | exact e | refine DLes.cons ?_ ?_ | refine DLe.agg ?_ | refine DLe.sl ?_ | (apply DLes.snoc; (first | assumption | exact e | exact e.symm)))); done) | (refine frz_le rfl ?_; (repeat' (first | exact DLes.refl _ | exact DLes.nil | exact DLe.refl _ | exact DLe.nil _ _ | assumption | exact e | refine DLes.cons ?_ ?_ | refine DLe.agg ?_ | refine DLe.sl ?_ | (apply DLes.snoc; (first | assumption | exact e | exact e.symm)))); done) | (refine agg_le rfl ?_; (repeat' (first | exact DLes.refl _ | exact DLes.nil | exact DLe.refl _ | exact DLe.nil _ _ | assumption | exact e | refine DLes.cons ?_ ?_ | refine DLe.agg ?_ | refine DLe.sl ?_ | (apply DLes.snoc; (first | assumption | exact e | exact e.symm)))); done) | (refine box_le rfl ?_; (repeat' (first | exact VLes.refl _ | refine And.intro ?_ ?_ | exact trivial | exact VLe.refl _ | exact VLe.nil _ _)); done))) (by first | exact rfl | (simp [frIn, hpIn, V.inside, V.insides, *]; done)) | exact Fin.r0 rfl (by repeat' (first | exact trivial | exact VLe.refl _ | exact HElt.of rfl | assumption | exact HLe.append_left (by assumption) | exact HLe.of_self (by assumption) | (refine And.intro ?_ ?_) | (refine own_eq rfl ?_; first | exact rfl | assumption | omega | exact e | exact e.symm | (simp only [e]; done) | (simp [e, iD, bD, sD]; done) | (simp [e]; omega) | (simp; done) | (simp; omega)) | (refine row_eq rfl ?_; first | exact rfl | assumption | omega | exact e | exact e.symm | (simp only [e]; done) | (simp [e, iD, bD, sD]; done) | (simp [e]; omega) | (simp; done) | (simp; omega)) | (refine int_eq rfl ?_; first | exact rfl | assumption | omega | exact e | exact e.symm | (simp only [e]; done) | (simp [e, iD, bD, sD]; done) | (simp [e]; omega) | (simp; done) | (simp; omega)) | (refine str_eq rfl ?_; first | exact rfl | assumption | omega | exact e | exact e.symm | (simp only [e]; done) | (simp [e, iD, bD, sD]; done) | (simp [e]; omega) | (simp; done) | (simp; omega)) | (refine bool_eq rfl ?_; first | exact rfl | assumption | omega | exact e | exact e.symm | (simp only [e]; done) | (simp [e, iD, bD, sD]; done) | (simp [e]; omega) | (simp; done) | (simp; omega)) | (refine sl_eq rfl ?_; first | exact rfl | assumption | omega | exact e | exact e.symm | (simp only [e]; done) | (simp [e, iD, bD, sD]; done) | (simp [e]; omega) | (simp; done) | (simp; omega)) | (refine dd_eq rfl ?_; first | exact rfl | assumption | omega | exact e | exact e.symm | (simp only [e]; done) | (simp [e, iD, bD, sD]; done) | (simp [e]; omega) | (simp; done) | (simp; omega)) | (refine box_eq rfl ?_; first | exact rfl | assumption | omega | exact e | exact e.symm | (simp only [e]; done) | (simp [e, iD, bD, sD]; done) | (simp [e]; omega) | (simp; done) | (simp; omega)) | exact nil_le _ _ rfl | (refine row_le rfl ?_; (repeat' (first | exact DLes.refl _ | exact DLes.nil | exact DLe.refl _ | exact DLe.nil _ _ | assumption | exact e | refine DLes.cons ?_ ?_ | refine DLe.agg ?_ | refine DLe.sl ?_ | (apply DLes.snoc; (first | assumption | exact e | exact e.symm)))); done) | (refine frz_le rfl ?_; (repeat' (first | exact DLes.refl _ | exact DLes.nil | exact DLe.refl _ | exact DLe.nil _ _ | assumption | exact e | refine DLes.cons ?_ ?_ | refine DLe.agg ?_ | refine DLe.sl ?_ | (apply DLes.snoc; (first | assumption | exact e | exact e.symm)))); done) | (refine agg_le rfl ?_; (repeat' (first | exact DLes.refl _ | exact DLes.nil | exact DLe.refl _ | exact DLe.nil _ _ | assumption | exact e | refine DLes.cons ?_ ?_ | refine DLe.agg ?_ | refine DLe.sl ?_ | (apply DLes.snoc; (first | assumption | exact e | exact e.symm)))); done) | (refine box_le rfl ?_; (repeat' (first | exact VLes.refl _ | refine And.intro ?_ ?_ | exact trivial | exact VLe.refl _ | exact VLe.nil _ _)); done))) (by first | exact rfl | (simp [frIn, hpIn, V.inside, V.insides, *]; done))) : G := h
theorem fin2 {G : Prop} (h : G := by (try refine Fin.norm ?_); exact Fin.r2 rfl (.aggT TY rfl rfl rfl rfl rfl) (.aggT TY rfl rfl rfl rfl rfl) (Co.tup (by repeat' (first | exact trivial | (refine ⟨?_, ?_⟩) | exact Co.refl _ | exact Co.froz rfl rfl | exact Co.froz rfl (by simp) | exact Co.nil _ _ | exact Co.nil false _ | exact Co.agg (Cos.refl _) | (refine Co.agg ?_)))) (by repeat' (first | exact trivial | exact VLe.refl _ | exact HElt.of rfl | assumption | exact HLe.append_left (by assumption) | exact HLe.of_self (by assumption) | (refine And.intro ?_ ?_) | (refine own_eq rfl ?_; first | exact rfl | assumption | omega | exact e | exact e.symm | (simp only [e]; done) | (simp [e, iD, bD, sD]; done) | (simp [e]; omega) | (simp; done) | (simp; omega)) | (refine row_eq rfl ?_; first | exact rfl | assumption | omega | exact e | exact e.symm | (simp only [e]; done) | (simp [e, iD, bD, sD]; done) | (simp [e]; omega) | (simp; done) | (simp; omega)) | (refine int_eq rfl ?_; first | exact rfl | assumption | omega | exact e | exact e.symm | (simp only [e]; done) | (simp [e, iD, bD, sD]; done) | (simp [e]; omega) | (simp; done) | (simp; omega)) | (refine str_eq rfl ?_; first | exact rfl | assumption | omega | exact e | exact e.symm | (simp only [e]; done) | (simp [e, iD, bD, sD]; done) | (simp [e]; omega) | (simp; done) | (simp; omega)) | (refine bool_eq rfl ?_; first | exact rfl | assumption | omega | exact e | exact e.symm | (simp only [e]; done) | (simp [e, iD, bD, sD]; done) | (simp [e]; omega) | (simp; done) | (simp; omega)) | (refine sl_eq rfl ?_; first | exact rfl | assumption | omega | exact e | exact e.symm | (simp only [e]; done) | (simp [e, iD, bD, sD]; done) | (simp [e]; omega) | (simp; done) | (simp; omega)) | (refine dd_eq rfl ?_; first | exact rfl | assumption | omega | exact e | exact e.symm | (simp only [e]; done) | (simp [e, iD, bD, sD]; done) | (simp [e]; omega) | (simp; done) | (simp; omega)) | (refine box_eq rfl ?_; first | exact rfl | assumption | omega | exact e | exact e.symm | (simp only [e]; done) | (simp [e, iD, bD, sD]; done) | (simp [e]; omega) | (simp; done) | (simp; omega)) | exact nil_le _ _ rfl | (refine row_le rfl ?_; (repeat' (first | exact DLes.refl _ | exact DLes.nil | exact DLe.refl _ | exact DLe.nil _ _ | assumption | exact e | refine DLes.cons ?_ ?_ | refine DLe.agg ?_ | refine DLe.sl ?_ | (apply DLes.snoc; (first | assumption | exact e | exact e.symm)))); done) | (refine frz_le rfl ?_; (repeat' (first | exact DLes.refl _ | exact DLes.nil | exact DLe.refl _ | exact DLe.nil _ _ | assumption | exact e | refine DLes.cons ?_ ?_ | refine DLe.agg ?_ | refine DLe.sl ?_ | (apply DLes.snoc; (first | assumption | exact e | exact e.symm)))); done) | (refine agg_le rfl ?_; (repeat' (first | exact DLes.refl _ | exact DLes.nil | exact DLe.refl _ | exact DLe.nil _ _ | assumption | exact e | refine DLes.cons ?_ ?_ | refine DLe.agg ?_ | refine DLe.sl ?_ | (apply DLes.snoc; (first | assumption | exact e | exact e.symm)))); done) | (refine box_le rfl ?_; (repeat' (first | exact VLes.refl _ | refine And.intro ?_ ?_ | exact trivial | exact VLe.refl _ | exact VLe.nil _ _)); done))) rfl) : G := h
end
end Go.Proofs.Yticnpbopelgmiaa
namespace Go.Proofs.Yticnpbopelgmiaa
open Go.RowKit

section
variable {G : Ctx} {E : Env} {fr : Fr} {h : Hp} {a : Act} {w : World}
end
section
variable {P : Program} {n : Nat} {Q : Exit → Fr → Hp → Prop} {fr : Fr} {h : Hp}
end
section
variable {P : Program} {n : Nat} {dr : Bool} {ops : Array Oper} {rest : List Oper} {log : List Rec} {K : Exit → Fr → Hp → Prop} {fr : Fr} {h : Hp}
variable {d : Nat} {ty : TypeId} {pos : String} {after : Array Edge} {g : Option (Nat × Bool)}
variable (T : TT P)
end
section
variable {P : Program} {n : Nat} {dr : Bool} {ops : Array Oper} {rest : List Oper} {log : List Rec} {K : Exit → Fr → Hp → Prop} {fr : Fr} {h : Hp}
variable {ty : TypeId} {pos : String} {after : Array Edge}
theorem LStep.skipU {PS : List PanicEntry → Fr → Hp → Prop} {o : Oper} {j : Nat} {want : Bool} {s : Nat} {v : V} (hd : ∀ d, o.dst = some d → Nat.blt d n = true) (hg : o.guard = some (j, want)) (hs : (ops[j]?).bind (·.dst) = some s) (hv : v = .tup [] ∨ v = B !want) : LStep P n ops PS o [(s, v)] [] (.tup []) [] := by
  intro G E fr' h' a w K Q hPan hn C hi _ hK
  have hf := C.frame s
  rw [hi (s, v) (by simp)] at hf
  have hw : ¬ Region.wanted o (yielded ops a.tmps) = true := by
    unfold Region.wanted yielded
    rw [hg]
    simp only [hs, Option.bind_some]
    rcases hv with rfl | rfl
    · simp only [V.Rep] at hf
      obtain ⟨us, h1, h2⟩ := hf
      simp only [V.Reps] at h2
      subst h2
      simp only [Array.getD_eq_getD_getElem?] at h1
      cases hb : a.tmps[s]? with
      | none => simp
      | some u => rw [hb] at h1; simp at h1; subst h1; simp
    · simp only [V.Rep, D.RepV, D.Rep, List.cons.injEq, and_true] at hf
      have := hf.1
      simp only [Array.getD_eq_getD_getElem?] at this
      cases hb : a.tmps[s]? with
      | none => simp
      | some u => rw [hb] at this; simp at this; subst this; cases want <;> simp
  unfold wpS
  rw [if_neg hw]
  refine hK E _ w ?_
  cases hdd : o.dst with
  | none => exact C
  | some d => exact C.put (by rw [hn]; simpa [Nat.blt_eq] using hd d hdd) (by simp only [V.Rep]; exact ⟨[], rfl, by simp [V.Reps]⟩) (by simp [V.keys, V.keyss])
theorem s_skipT {dst : Option Tmp} {op : Op} {j : Nat} {want : Bool} {s : Nat} {b : Bool} (hs : (ops[j]?).bind (·.dst) = some s := by exact rfl) (hb : fget fr s = .d (.raw (.bool b)) := by exact rfl) (hbw : b = !want := by first | assumption | exact rfl | exact decide_eq_true rfl | exact congrArg not (decide_eq_true rfl) | ((try simp only [decide_eq_true_eq, decide_eq_false_iff_not, Bool.not_true, Bool.not_false, Bool.not_eq_true', Bool.not_eq_false', Bool.not_not, Int.not_lt, Int.not_le, Bool.and_eq_true, Bool.or_eq_true, Bool.and_eq_false_iff, Bool.or_eq_false_iff]); first | assumption | omega)) (hd : ∀ d, dst = some d → Nat.blt d n = true := by simp) (hr : dops P n dr ops rest (⟨[s], dst.toList, [], []⟩ :: log) K (dput dst (.tup []) fr) h) : dops P n dr ops (⟨dst, op, ty, pos, after, some (j, want)⟩ :: rest) log K fr h :=
  dops_cons (ins := [(s, .d (.raw (.bool !want)))]) (objs := []) (LStep.skipU hd rfl hs (.inr rfl)) (by simp; rw [hb, hbw]) (by simp) hr
theorem s_skip2 {dst : Option Tmp} {op : Op} {j : Nat} {want : Bool} {s : Nat} (hs : (ops[j]?).bind (·.dst) = some s := by exact rfl) (hb : fget fr s = .tup [] := by exact rfl) (hd : ∀ d, dst = some d → Nat.blt d n = true := by simp) (hr : dops P n dr ops rest (⟨[s], dst.toList, [], []⟩ :: log) K (dput dst (.tup []) fr) h) : dops P n dr ops (⟨dst, op, ty, pos, after, some (j, want)⟩ :: rest) log K fr h :=
  dops_cons (ins := [(s, .tup [])]) (objs := []) (LStep.skipU hd rfl hs (.inl rfl)) (by simp; rw [hb]) (by simp) hr
end
theorem wkz {G K : Prop} (hK : K) (h : Bx K → G := by intro hK; (first | (refine gOp ?_; first | refine s_move (hr := ?_) | refine s_assign (hr := ?_) | (refine gLoad ?_; first | refine s_load TY (hr := ?_) | refine s_loadE TY (hr := ?_) | refine s_loadA TY (hr := ?_) | refine s_loadEA TY (hr := ?_)) | (refine gField ?_; first | refine s_fieldAddr TY (hr := ?_) | refine s_fieldAddrE TY (hr := ?_) | refine s_fieldAddrO TY (hr := ?_)) | (refine gIndex ?_; first | refine s_indexAddr TY (hr := ?_) | refine s_indexAddrO TY (hr := ?_)) | (refine gBin ?_; first | refine s_cmp (hr := ?_) | refine s_add (hr := ?_) | refine s_sub (hr := ?_) | refine s_cat (hr := ?_) | refine s_eqS (hr := ?_) | refine s_neS (hr := ?_) | refine s_eqA (hr := ?_) | refine s_neA (hr := ?_) | refine s_eqB (hr := ?_) | refine s_neB (hr := ?_) | refine s_mul (hr := ?_) | refine s_or (hr := ?_) | refine s_and (hr := ?_) | refine s_shr (hr := ?_) | refine s_shl (hr := ?_) | refine s_rem (hr := ?_) | refine s_quo (hr := ?_)) | (refine gCall ?_; first | refine s_len TY (hr := ?_) | refine s_lenS TY (hr := ?_) | refine s_app TY (hr := ?_) | refine s_appNew TY (hr := ?_) | refine s_min (hr := ?_) | refine s_max (hr := ?_)) | (refine gPick ?_; first | refine s_pick true (hr := ?_) | refine s_pick false (hr := ?_) | refine s_pickB (hr := ?_)) | (refine gNil ?_; first | refine s_nilCheck (hr := ?_) | refine s_nilCheckO (hr := ?_)) | (refine gStore ?_; first | refine s_store TY (hr := ?_) | refine s_storeO TY (hr := ?_)) | (refine gUn ?_; first | refine s_not (hr := ?_) | refine s_neg (hr := ?_)) | refine s_box (hr := ?_) | refine s_alloc TY (hr := ?_) | refine s_buildSlice TY (hr := ?_) | refine s_build TY (hr := ?_) | refine s_extract (hr := ?_) | refine s_makeFunc (hr := ?_) | refine s_slice TY (hr := ?_) | refine s_skipT (hr := ?_) | refine s_skip2 (hr := ?_) | refine s_makeSlice TY (hr := ?_) | refine s_conv (hr := ?_)) | refine aw_seq ?_ | refine t_reg ?_ | refine andThen_n ?_ | refine dops_end ?_ | refine aw_block ?_ | refine aw_skip ?_ | refine aw_exit ?_ | refine aw_ret ?_ | refine aw_label ?_ | refine andThen_e ?_ | refine andThen_r ?_ | refine inBlock_n ?_ | refine inBlock_r ?_ | refine inBlock_e ?_ | refine t_inBlock_o ?_ | refine t_drawn ?_ | refine t_condT ?_ | refine t_condF ?_); (repeat (first | (refine gOp ?_; first | refine s_move (hr := ?_) | refine s_assign (hr := ?_) | (refine gLoad ?_; first | refine s_load TY (hr := ?_) | refine s_loadE TY (hr := ?_) | refine s_loadA TY (hr := ?_) | refine s_loadEA TY (hr := ?_)) | (refine gField ?_; first | refine s_fieldAddr TY (hr := ?_) | refine s_fieldAddrE TY (hr := ?_) | refine s_fieldAddrO TY (hr := ?_)) | (refine gIndex ?_; first | refine s_indexAddr TY (hr := ?_) | refine s_indexAddrO TY (hr := ?_)) | (refine gBin ?_; first | refine s_cmp (hr := ?_) | refine s_add (hr := ?_) | refine s_sub (hr := ?_) | refine s_cat (hr := ?_) | refine s_eqS (hr := ?_) | refine s_neS (hr := ?_) | refine s_eqA (hr := ?_) | refine s_neA (hr := ?_) | refine s_eqB (hr := ?_) | refine s_neB (hr := ?_) | refine s_mul (hr := ?_) | refine s_or (hr := ?_) | refine s_and (hr := ?_) | refine s_shr (hr := ?_) | refine s_shl (hr := ?_) | refine s_rem (hr := ?_) | refine s_quo (hr := ?_)) | (refine gCall ?_; first | refine s_len TY (hr := ?_) | refine s_lenS TY (hr := ?_) | refine s_app TY (hr := ?_) | refine s_appNew TY (hr := ?_) | refine s_min (hr := ?_) | refine s_max (hr := ?_)) | (refine gPick ?_; first | refine s_pick true (hr := ?_) | refine s_pick false (hr := ?_) | refine s_pickB (hr := ?_)) | (refine gNil ?_; first | refine s_nilCheck (hr := ?_) | refine s_nilCheckO (hr := ?_)) | (refine gStore ?_; first | refine s_store TY (hr := ?_) | refine s_storeO TY (hr := ?_)) | (refine gUn ?_; first | refine s_not (hr := ?_) | refine s_neg (hr := ?_)) | refine s_box (hr := ?_) | refine s_alloc TY (hr := ?_) | refine s_buildSlice TY (hr := ?_) | refine s_build TY (hr := ?_) | refine s_extract (hr := ?_) | refine s_makeFunc (hr := ?_) | refine s_slice TY (hr := ?_) | refine s_skipT (hr := ?_) | refine s_skip2 (hr := ?_) | refine s_makeSlice TY (hr := ?_) | refine s_conv (hr := ?_)) | refine aw_seq ?_ | refine t_reg ?_ | refine andThen_n ?_ | refine dops_end ?_ | refine aw_block ?_ | refine aw_skip ?_ | refine aw_exit ?_ | refine aw_ret ?_ | refine aw_label ?_ | refine andThen_e ?_ | refine andThen_r ?_ | refine inBlock_n ?_ | refine inBlock_r ?_ | refine inBlock_e ?_ | refine t_inBlock_o ?_ | refine t_drawn ?_ | refine t_condT ?_ | refine t_condF ?_)); exact hK.out) : G := h ⟨hK⟩
end Go.Proofs.Yticnpbopelgmiaa
namespace Go.Proofs.Yticnpbopelgmiaa
open Go.RowKit

section
variable {P : Program} {n : Nat} {ops : Array Oper} {K : Exit → Fr → Hp → Prop} {dr : Bool} {rest : List Oper} {log : List Rec} {fr : Fr} {h : Hp} {d : Nat} {ty : TypeId} {pos : String} {after : Array Edge} {g : Option (Nat × Bool)}
variable (T : TT P)
end
/-- One step of the walk. -/
theorem wk1 {G K : Prop} (hK : K) (h : Bx K → G := by intro hK; (first | (refine gOp ?_; first | refine s_move (hr := ?_) | refine s_assign (hr := ?_) | (refine gLoad ?_; first | refine s_load TY (hr := ?_) | refine s_loadE TY (hr := ?_) | refine s_loadA TY (hr := ?_) | refine s_loadEA TY (hr := ?_)) | (refine gField ?_; first | refine s_fieldAddr TY (hr := ?_) | refine s_fieldAddrE TY (hr := ?_) | refine s_fieldAddrO TY (hr := ?_)) | (refine gIndex ?_; first | refine s_indexAddr TY (hr := ?_) | refine s_indexAddrO TY (hr := ?_)) | (refine gBin ?_; first | refine s_cmp (hr := ?_) | refine s_add (hr := ?_) | refine s_sub (hr := ?_) | refine s_cat (hr := ?_) | refine s_eqS (hr := ?_) | refine s_neS (hr := ?_) | refine s_eqA (hr := ?_) | refine s_neA (hr := ?_) | refine s_eqB (hr := ?_) | refine s_neB (hr := ?_) | refine s_mul (hr := ?_) | refine s_or (hr := ?_) | refine s_and (hr := ?_) | refine s_shr (hr := ?_) | refine s_shl (hr := ?_) | refine s_rem (hr := ?_) | refine s_quo (hr := ?_)) | (refine gCall ?_; first | refine s_len TY (hr := ?_) | refine s_lenS TY (hr := ?_) | refine s_app TY (hr := ?_) | refine s_appNew TY (hr := ?_) | refine s_min (hr := ?_) | refine s_max (hr := ?_)) | (refine gPick ?_; first | refine s_pick true (hr := ?_) | refine s_pick false (hr := ?_) | refine s_pickB (hr := ?_)) | (refine gNil ?_; first | refine s_nilCheck (hr := ?_) | refine s_nilCheckO (hr := ?_)) | (refine gStore ?_; first | refine s_store TY (hr := ?_) | refine s_storeO TY (hr := ?_)) | (refine gUn ?_; first | refine s_not (hr := ?_) | refine s_neg (hr := ?_)) | refine s_box (hr := ?_) | refine s_alloc TY (hr := ?_) | refine s_buildSlice TY (hr := ?_) | refine s_build TY (hr := ?_) | refine s_extract (hr := ?_) | refine s_makeFunc (hr := ?_) | refine s_slice TY (hr := ?_) | refine s_skip (hr := ?_) | refine s_makeSlice TY (hr := ?_) | refine s_conv (hr := ?_)) | refine aw_seq ?_ | refine t_reg ?_ | refine andThen_n ?_ | refine dops_end ?_ | refine aw_block ?_ | refine aw_skip ?_ | refine aw_exit ?_ | refine aw_ret ?_ | refine aw_label ?_ | refine andThen_e ?_ | refine andThen_r ?_ | refine inBlock_n ?_ | refine inBlock_r ?_ | refine inBlock_e ?_ | refine t_inBlock_o ?_ | refine t_drawn ?_ | refine t_condT ?_ | refine t_condF ?_); exact hK.out) : G := h ⟨hK⟩
end Go.Proofs.Yticnpbopelgmiaa
namespace Go.Proofs.Yticnpbopelgmiaa
open Go.RowKit
set_option maxRecDepth 100000
theorem run_eqFault (w : World) (a b c d : Int) : (Op.equal 33 (.agg #[.int .i64 a, .int .i64 b]) (.agg #[.int .i64 c, .int .i64 d])).run Try.prog w = .ok (decide ((⟨a, b⟩ : Fault) = ⟨c, d⟩)) w := by
  unfold Op.equal
  rw [show Op.maxDepth = 9998 + 1 + 1 from rfl]
  unfold Op.equalIn
  simp only [Sem.run_bind, run_underlying Try.underlying33, Result.andThen_ok]
  simp [Sem.run_bind, go_sem]
  by_cases h1 : a = c <;> by_cases h2 : b = d <;> simp [h1, h2]
theorem eqGuardFault : Try.prog.eqGuardType Try.prog.depth 33 = false := by kernel_rfl
theorem eqFault (a b c d : Int) : EqRun Try.prog 33 (.agg #[.int .i64 a, .int .i64 b]) (.agg #[.int .i64 c, .int .i64 d]) (decide ((⟨a, b⟩ : Fault) = ⟨c, d⟩)) := fun w => ⟨run_eqFault w a b c d, eqGuardFault⟩
end Go.Proofs.Yticnpbopelgmiaa
namespace Go.Proofs.Yticnpbopelgmiaa
open Go.RowKit
set_option maxRecDepth 100000

abbrev nilT : D := .raw (.slice none 0 0)
theorem clone_sim {t : Bool} {xs : List Int} (hl : xs.length ≤ 100000000 := by ((try simp only [List.length_map, List.length_append, List.length_cons, List.length_nil, List.length_replicate, List.length_set, List.length_take, List.length_drop]); first | omega | assumption)) :
    ACalls Try.prog 57 [.d (ints t xs)] [] (.own 5 xs.length) [(5, .row 3 1 (xs.map iD))] := by
  refine ACalls.intro (n := 8) Try.func57 rfl rfl (by simp) (by rfl) ?_
  simp only [argFr]
  refine aw_seq ?_
  refine t_reg ?_
  refine s_assign (hr := ?_)
  refine dops_end ?_
  refine andThen_n ?_
  refine aw_seq ?_
  refine aw_seq ?_
  refine t_eqNil ?_ ?_ undInts
  · intro hx
    have hx' : xs = [] := by simpa using hx
    subst hx'
    repeat (first | refine wkr ?_ | refine s_field (hr := ?_))
    refine aw_nil 2 5 3 1 rfl rfl rfl ?_
    repeat (first | refine wk ?_ | refine s_field (hr := ?_))
    exact fin
  · repeat (first | refine wk ?_ | refine s_field (hr := ?_))
    exact finx
end Go.Proofs.Yticnpbopelgmiaa
namespace Go.Proofs.Yticnpbopelgmiaa
open Go.RowKit

theorem Tree.eta (x : Tree) : x = .mk x.rule x.kids := by cases x; rfl
theorem Tree.lt {x y : Tree} (h : y ∈ x.kids) : SizeOf.sizeOf y < SizeOf.sizeOf x := by
  cases x with
  | mk r k =>
    simp only [Tree.kids] at h
    have := List.sizeOf_lt_of_mem h
    simp; omega
theorem Tree.ind {P : Tree → Prop} (h : ∀ x, (∀ y ∈ x.kids, P y) → P x) : ∀ x, P x := by
  have key : ∀ (n : Nat) (x : Tree), SizeOf.sizeOf x < n → P x := by
    intro n
    induction n with
    | zero => intro x hx; omega
    | succ n ih => exact fun x hx => h x (fun y hy => ih y (by have := Tree.lt hy; omega))
  exact fun x => key _ x (Nat.lt_succ_self _)

/-! ### Counted -/
mutual
def cnt : Tree → Nat
  | .mk _ k => 1 + cnts k
def cnts : List Tree → Nat
  | [] => 0
  | x :: r => cnt x + cnts r
end
theorem cnt_eq (x : Tree) : cnt x = 1 + cnts x.kids := by cases x; rfl
theorem cnt_pos (x : Tree) : 1 ≤ cnt x := by rw [cnt_eq]; omega
theorem cnts_append : ∀ (a b : List Tree), cnts (a ++ b) = cnts a + cnts b
  | [], b => by simp [cnts]
  | x :: a, b => by simp only [List.cons_append, cnts, cnts_append a b]; omega
theorem cnts_mem {x : Tree} : ∀ {l : List Tree}, x ∈ l → cnt x ≤ cnts l
  | y :: l, h => by
    simp only [cnts]
    rcases List.mem_cons.1 h with rfl | h
    · omega
    · have := cnts_mem h; omega
theorem cnts_len : ∀ (l : List Tree), l.length ≤ cnts l
  | [] => by simp
  | x :: l => by have := cnts_len l; have := cnt_pos x; simp only [List.length_cons, cnts]; omega
theorem cnts_drop {l : List Tree} {i : Nat} (h : i < l.length) : cnts (l.drop i) = cnt l[i] + cnts (l.drop (i + 1)) := by
  rw [List.drop_eq_getElem_cons h, cnts]
theorem cnts_take {l : List Tree} {i : Nat} (h : i < l.length) : cnts (l.take (i + 1)) = cnts (l.take i) + cnt l[i] := by
  rw [List.take_succ_eq_append_getElem h, cnts_append]; simp [cnts]
/-- How many may still come. -/
def left_ (l : Int) (n : Nat) : Int := if (n : Int) ≤ l then l - n else -1

/-! ### Fitting -/
mutual
def fits (g : Gram) : Tree → Int → Bool
  | .mk r k, v => match (if 0 ≤ r then g.rules[r.toNat]? else none) with
    | none => false
    | some ru => decide (ru.left = v) && (decide ((kids ru.right).length = k.length) && fitss g k (kids ru.right))
def fitss (g : Gram) : List Tree → List Int → Bool
  | x :: k, v :: vs => fits g x v && fitss g k vs
  | _, _ => true
end
theorem fits_eq (g : Gram) (x : Tree) (v : Int) : fits g x v = match (if 0 ≤ x.rule then g.rules[x.rule.toNat]? else none) with
    | none => false
    | some ru => decide (ru.left = v) && (decide ((kids ru.right).length = x.kids.length) && fitss g x.kids (kids ru.right)) := by cases x; rw [fits]; rfl
theorem fitss_drop {g : Gram} {k : List Tree} {vs : List Int} {i : Nat} (h1 : i < k.length) (h2 : i < vs.length) : fitss g (k.drop i) (vs.drop i) = (fits g k[i] vs[i] && fitss g (k.drop (i + 1)) (vs.drop (i + 1))) := by
  rw [List.drop_eq_getElem_cons h1, List.drop_eq_getElem_cons h2, fitss]
theorem fitss_end {g : Gram} {k : List Tree} {vs : List Int} {i : Nat} (h1 : ¬ i < k.length) : fitss g (k.drop i) (vs.drop i) = true := by
  rw [List.drop_of_length_le (by omega)]; simp [fitss]

/-! ### Words -/
mutual
def wordT (g : Gram) : Tree → List Int
  | .mk r k => wordL g ((g.rules[r.toNat]?).getD ⟨0, []⟩).right k
  termination_by x => (cnt x, 0)
  decreasing_by simp [cnt, Prod.lex_def]
def wordL (g : Gram) : List Int → List Tree → List Int
  | [], _ => []
  | s :: ss, k => if s < 0 then (-1 - s) :: wordL g ss k else match k with
    | x :: k => wordT g x ++ wordL g ss k
    | [] => wordL g ss []
  termination_by ss k => (cnts k, ss.length + 1)
  decreasing_by all_goals (simp [cnts, Prod.lex_def]; try omega)
end

/-! ### Order -/
mutual
def ordT : Tree → Tree → Int
  | .mk r k, .mk s l => if r < s then -1 else if s < r then 1 else ordL k l
def ordL : List Tree → List Tree → Int
  | [], [] => 0
  | [], _ :: _ => -1
  | _ :: _, [] => 1
  | a :: k, b :: l => if ordT a b = 0 then ordL k l else ordT a b
end
theorem ordT_eq (a b : Tree) : ordT a b = if a.rule < b.rule then -1 else if b.rule < a.rule then 1 else ordL a.kids b.kids := by cases a; cases b; rw [ordT]; rfl
theorem ordL_step {k l : List Tree} {i : Nat} (h1 : i < k.length) (h2 : i < l.length) : ordL (k.drop i) (l.drop i) = if ordT k[i] l[i] = 0 then ordL (k.drop (i + 1)) (l.drop (i + 1)) else ordT k[i] l[i] := by
  rw [List.drop_eq_getElem_cons h1, List.drop_eq_getElem_cons h2, ordL]
theorem ordL_lt {k l : List Tree} {i : Nat} (h1 : ¬ i < k.length) (h2 : i < l.length) : ordL (k.drop i) (l.drop i) = -1 := by
  rw [List.drop_of_length_le (by omega), List.drop_eq_getElem_cons h2, ordL]
theorem ordL_gt {k l : List Tree} {i : Nat} (h1 : i < k.length) (h2 : ¬ i < l.length) : ordL (k.drop i) (l.drop i) = 1 := by
  rw [List.drop_eq_getElem_cons h1, List.drop_of_length_le (show l.length ≤ i by omega), ordL]
theorem ordL_end {k l : List Tree} {i : Nat} (h1 : ¬ i < k.length) (h2 : ¬ i < l.length) : ordL (k.drop i) (l.drop i) = 0 := by
  rw [List.drop_of_length_le (by omega), List.drop_of_length_le (by omega), ordL]
mutual
theorem ordT_neg : ∀ (a b : Tree), ordT b a = -ordT a b
  | .mk r k, .mk s l => by
    have := ordL_neg k l
    rw [ordT, ordT]
    by_cases h1 : r < s
    · have h2 : ¬ s < r := by omega
      simp [h1, h2]
    · by_cases h2 : s < r
      · simp [h1, h2]
      · simp [h1, h2, this]
theorem ordL_neg : ∀ (a b : List Tree), ordL b a = -ordL a b
  | [], [] => by simp [ordL]
  | [], _ :: _ => by simp [ordL]
  | _ :: _, [] => by simp [ordL]
  | a :: k, b :: l => by
    have h1 := ordT_neg a b
    have h2 := ordL_neg k l
    rw [ordL, ordL, h1, h2]
    by_cases h : ordT a b = 0
    · rw [if_pos h, if_pos (by omega)]
    · rw [if_neg h, if_neg (by omega)]
end
mutual
theorem ordT_refl : ∀ (a : Tree), ordT a a = 0
  | .mk r k => by rw [ordT, if_neg (by omega), if_neg (by omega)]; exact ordL_refl k
theorem ordL_refl : ∀ (a : List Tree), ordL a a = 0
  | [] => by simp [ordL]
  | a :: k => by rw [ordL, ordT_refl a, if_pos rfl]; exact ordL_refl k
end
mutual
theorem ordT_zero : ∀ (a b : Tree), ordT a b = 0 → a = b
  | .mk r k, .mk s l, h => by
    rw [ordT] at h
    by_cases h1 : r < s
    · rw [if_pos h1] at h; cases h
    · by_cases h2 : s < r
      · rw [if_neg h1, if_pos h2] at h; cases h
      · rw [if_neg h1, if_neg h2] at h
        obtain rfl : r = s := by omega
        rw [ordL_zero k l h]
theorem ordL_zero : ∀ (a b : List Tree), ordL a b = 0 → a = b
  | [], [], _ => rfl
  | [], _ :: _, h => by simp [ordL] at h
  | _ :: _, [], h => by simp [ordL] at h
  | a :: k, b :: l, h => by
    rw [ordL] at h
    by_cases h1 : ordT a b = 0
    · rw [if_pos h1] at h; rw [ordT_zero a b h1, ordL_zero k l h]
    · rw [if_neg h1] at h; exact absurd h h1
end
mutual
theorem ordT_trans : ∀ (a b c : Tree), ordT a b ≤ 0 → ordT b c ≤ 0 → ordT a c ≤ 0
  | .mk r k, .mk s l, .mk q m, h1, h2 => by
    rw [ordT] at h1 h2 ⊢
    by_cases a1 : r < s
    · by_cases b1 : s < q
      · rw [if_pos (by omega)]; decide
      · by_cases b2 : q < s
        · rw [if_neg b1, if_pos b2] at h2; omega
        · rw [if_pos (by omega)]; decide
    · by_cases a2 : s < r
      · rw [if_neg a1, if_pos a2] at h1; omega
      · rw [if_neg a1, if_neg a2] at h1
        by_cases b1 : s < q
        · rw [if_pos (by omega)]; decide
        · by_cases b2 : q < s
          · rw [if_neg b1, if_pos b2] at h2; omega
          · rw [if_neg b1, if_neg b2] at h2
            rw [if_neg (by omega), if_neg (by omega)]
            exact ordL_trans k l m h1 h2
theorem ordL_trans : ∀ (a b c : List Tree), ordL a b ≤ 0 → ordL b c ≤ 0 → ordL a c ≤ 0
  | [], _, [], _, _ => by simp [ordL]
  | [], _, _ :: _, _, _ => by simp [ordL]
  | _ :: _, [], _, h1, _ => by simp [ordL] at h1
  | _ :: _, _ :: _, [], _, h2 => by simp [ordL] at h2
  | a :: k, b :: l, c :: m, h1, h2 => by
    rw [ordL] at h1 h2 ⊢
    by_cases a0 : ordT a b = 0
    · obtain rfl := ordT_zero a b a0
      rw [if_pos a0] at h1
      by_cases b0 : ordT a c = 0
      · rw [if_pos b0] at h2 ⊢; exact ordL_trans k l m h1 h2
      · rw [if_neg b0] at h2 ⊢; exact h2
    · rw [if_neg a0] at h1
      by_cases b0 : ordT b c = 0
      · obtain rfl := ordT_zero b c b0
        rw [if_neg a0]; exact h1
      · rw [if_neg b0] at h2
        have h3 := ordT_trans a b c h1 h2
        by_cases c0 : ordT a c = 0
        · exfalso
          obtain rfl := ordT_zero a c c0
          have := ordT_neg a b
          omega
        · rw [if_neg c0]; exact h3
end
/-! ### As data -/
theorem IsElt.treeE {h : Hp} {t u : Bool} {sz i off : Nat} {xs : List Tree} (hi : i < xs.length) : IsElt h (.eptr t sz (xs.map (treeD u)) i off) (treeA u xs[i]) off [] := by
  have := IsElt.mapE (h := h) (t := t) (sz := sz) (off := off) (f := treeD u) hi
  rwa [treeA_eq] at this
theorem IsElt.treeO {h : Hp} {u : Bool} {k m sz i off : Nat} {e : TypeId} {xs : List Tree} (hk : hget h k = some (.row e sz (xs.map (treeD u)))) (hm : (xs.map (treeD u)).length = m) (hi : i < xs.length) : IsElt h (.optr k m i off) (treeA u xs[i]) off [(k, some (.row e sz (xs.map (treeD u))))] := by
  have := IsElt.mapO (f := treeD u) (off := off) hk hm hi
  rwa [treeA_eq] at this
end Go.Proofs.Yticnpbopelgmiaa
