/-
  Words.
-/
import Derived.KernelRfl
namespace Go.Proofs.YtbpmepgnjanhnaaGreat
theorem Ha:type_of% @if_neg:=@if_neg
theorem Hb:type_of% @if_pos:=@if_pos
theorem He:type_of% @List.getElem_mem:=@List.getElem_mem
theorem Hf:type_of% @List.getD_eq_getElem?_getD:=@List.getD_eq_getElem?_getD
theorem Hg:type_of% @Nat.le_refl:=@Nat.le_refl
theorem Hh:type_of% @Nat.zero_le:=@Nat.zero_le
theorem Hi:type_of% @List.length_map:=@List.length_map
theorem Hj:type_of% @List.getElem?_eq_getElem:=@List.getElem?_eq_getElem
theorem Hk:type_of% @List.length_append:=@List.length_append
theorem Hl:type_of% @List.length_cons:=@List.length_cons
theorem Hm:type_of% @List.map_cons:=@List.map_cons
theorem Hn:type_of% @Int.toNat_natCast:=@Int.toNat_natCast
theorem Ho:type_of% @List.map_append:=@List.map_append
theorem Hq:type_of% @Nat.le_trans:=@Nat.le_trans
theorem Hr:type_of% @Bool.and_eq_true:=@Bool.and_eq_true
theorem Hs:type_of% @List.length_take:=@List.length_take
theorem Ht:type_of% @List.append_nil:=@List.append_nil
theorem Hu:type_of% @decide_eq_true:=@decide_eq_true
theorem Hv:type_of% @List.cons_append:=@List.cons_append
theorem Hw:type_of% @List.drop_eq_getElem_cons:=@List.drop_eq_getElem_cons
theorem Hx:type_of% @Option.some.injEq:=@Option.some.injEq
theorem Hy:type_of% @congrArg:=@congrArg
theorem Hz:type_of% @List.cons.injEq:=@List.cons.injEq
theorem HA:type_of% @and_true:=@and_true
theorem HB:type_of% @List.length_nil:=@List.length_nil
theorem HC:type_of% @decide_eq_false:=@decide_eq_false
theorem HD:type_of% @List.take_succ_eq_append_getElem:=@List.take_succ_eq_append_getElem
theorem HE:type_of% @Nat.zero_add:=@Nat.zero_add
theorem HF:type_of% @List.map_nil:=@List.map_nil
theorem HG:type_of% @List.length_drop:=@List.length_drop
theorem HH:type_of% @List.append_assoc:=@List.append_assoc
theorem HI:type_of% @List.getElem?_eq_none:=@List.getElem?_eq_none
theorem HJ:type_of% @List.length_set:=@List.length_set
theorem HK:type_of% @List.mem_cons_of_mem:=@List.mem_cons_of_mem
theorem HL:type_of% @List.drop_of_length_le:=@List.drop_of_length_le
theorem HM:type_of% @List.length_replicate:=@List.length_replicate
theorem HN:type_of% @Classical.byContradiction:=@Classical.byContradiction
theorem HO:type_of% @List.take_length:=@List.take_length
theorem HP:type_of% @List.flatMap_cons:=@List.flatMap_cons
theorem HQ:type_of% @Nat.eq_of_beq_eq_true:=@Nat.eq_of_beq_eq_true
theorem HR:type_of% @List.all_eq_true:=@List.all_eq_true
theorem HS:type_of% @List.length_singleton:=@List.length_singleton
theorem HT:type_of% @List.mem_cons_self:=@List.mem_cons_self
theorem HU:type_of% @Nat.blt_eq:=@Nat.blt_eq
theorem HV:type_of% @List.mem_append:=@List.mem_append
theorem HW:type_of% @Option.getD_some:=@Option.getD_some
theorem HX:type_of% @List.eq_nil_of_length_eq_zero:=@List.eq_nil_of_length_eq_zero
theorem HY:type_of% @List.cons.inj:=@List.cons.inj
theorem HZ:type_of% @decide_eq_true_eq:=@decide_eq_true_eq
theorem H0:type_of% @of_decide_eq_true:=@of_decide_eq_true
theorem H3:type_of% @List.nil_append:=@List.nil_append
theorem H5:type_of% @Bool.true_and:=@Bool.true_and
theorem H6:type_of% @List.take_of_length_le:=@List.take_of_length_le
theorem H7:type_of% @List.Pairwise.nil:=@List.Pairwise.nil
theorem H8:type_of% @List.map_map:=@List.map_map
theorem H9:type_of% @Option.map_some:=@Option.map_some
theorem Ga:type_of% @Nat.sub_self:=@Nat.sub_self
theorem Gb:type_of% @Nat.add_mul:=@Nat.add_mul
theorem Gc:type_of% @cond_true:=@cond_true
theorem Gd:type_of% @List.length_filter_le:=@List.length_filter_le
theorem Ge:type_of% @List.pairwise_map:=@List.pairwise_map
theorem Gf:type_of% @List.mem_of_mem_take:=@List.mem_of_mem_take
theorem Gg:type_of% @List.getElem?_map:=@List.getElem?_map
theorem Gh:type_of% @List.take_append_drop:=@List.take_append_drop
theorem Gi:type_of% @Nat.mul_le_mul_right:=@Nat.mul_le_mul_right
theorem Gj:type_of% @Bool.or_eq_true:=@Bool.or_eq_true
theorem Gk:type_of% @Nat.lt_succ_self:=@Nat.lt_succ_self
theorem Gl:type_of% @List.drop_zero:=@List.drop_zero
theorem Gm:type_of% @Nat.lt_of_lt_of_le:=@Nat.lt_of_lt_of_le
theorem Gn:type_of% @List.range_succ:=@List.range_succ
theorem Gp:type_of% @List.getElem?_append_right:=@List.getElem?_append_right
theorem Gq:type_of% @List.mem_cons:=@List.mem_cons
theorem Gr:type_of% @List.filter_cons_of_pos:=@List.filter_cons_of_pos
theorem Gs:type_of% @Nat.min_eq_left:=@Nat.min_eq_left
theorem Gt:type_of% @Nat.beq_refl:=@Nat.beq_refl
theorem Gu:type_of% @List.getElem_map:=@List.getElem_map
theorem Gv:type_of% @List.mem_map:=@List.mem_map
theorem Gw:type_of% @List.mem_singleton:=@List.mem_singleton
theorem Gx:type_of% @Nat.add_zero:=@Nat.add_zero
theorem Gy:type_of% @List.getElem?_drop:=@List.getElem?_drop
theorem Gz:type_of% @Bool.false_and:=@Bool.false_and
theorem GA:type_of% @List.Pairwise.imp_of_mem:=@List.Pairwise.imp_of_mem
theorem GB:type_of% @List.not_mem_nil:=@List.not_mem_nil
theorem GC:type_of% @List.getElem?_take:=@List.getElem?_take
theorem GD:type_of% @Bool.false_or:=@Bool.false_or
theorem GE:type_of% @List.flatten_cons:=@List.flatten_cons
theorem GF:type_of% @Option.some.inj:=@Option.some.inj
theorem GG:type_of% @List.all_cons:=@List.all_cons
theorem GH:type_of% @List.getElem?_append_left:=@List.getElem?_append_left
theorem GI:type_of% @List.getD_cons_zero:=@List.getD_cons_zero
theorem GJ:type_of% @List.filter_cons_of_neg:=@List.filter_cons_of_neg
theorem GK:type_of% @Nat.zero_mul:=@Nat.zero_mul
theorem GL:type_of% @List.map_congr_left:=@List.map_congr_left
theorem GM:type_of% @List.drop_length:=@List.drop_length
theorem GN:type_of% @List.map_set:=@List.map_set
theorem GO:type_of% @List.getElem?_set_ne:=@List.getElem?_set_ne
theorem GP:type_of% @List.ext_getElem:=@List.ext_getElem
theorem GQ:type_of% @List.getElem_cons_succ:=@List.getElem_cons_succ
theorem GR:type_of% @Nat.add_assoc:=@Nat.add_assoc
theorem GS:type_of% @List.filter_append:=@List.filter_append
theorem GT:type_of% @List.take_succ_cons:=@List.take_succ_cons
theorem GU:type_of% @List.mem_or_eq_of_mem_set:=@List.mem_or_eq_of_mem_set
theorem GV:type_of% @List.drop_left:=@List.drop_left
theorem GW:type_of% @List.take_zero:=@List.take_zero
theorem GX:type_of% @Bool.eq_iff_iff:=@Bool.eq_iff_iff
theorem GY:type_of% @And.intro:=@And.intro
theorem GZ:type_of% @List.drop_succ_cons:=@List.drop_succ_cons
theorem G0:type_of% @List.mem_flatMap:=@List.mem_flatMap
theorem G1:type_of% @List.pairwise_flatMap:=@List.pairwise_flatMap
theorem G3:type_of% @List.getElem?_cons_zero:=@List.getElem?_cons_zero
theorem G4:type_of% @decide_eq_false_iff_not:=@decide_eq_false_iff_not
theorem G5:type_of% @List.mem_of_mem_drop:=@List.mem_of_mem_drop
theorem G6:type_of% @Bool.and_false:=@Bool.and_false
theorem G7:type_of% @List.replicate_succ:=@List.replicate_succ
theorem G8:type_of% @List.getElem?_set_self:=@List.getElem?_set_self
theorem G9:type_of% @Nat.lt_trichotomy:=@Nat.lt_trichotomy
theorem Ja:type_of% @Int.le_refl:=@Int.le_refl
theorem Jb:type_of% @Bool.not_eq_true:=@Bool.not_eq_true
theorem Jc:type_of% @List.mem_range:=@List.mem_range
theorem Jd:type_of% @Array.getD_eq_getD_getElem?:=@Array.getD_eq_getD_getElem?
theorem Je:type_of% @Prod.mk.inj:=@Prod.mk.inj
theorem Jf:type_of% @Nat.le_of_ble_eq_true:=@Nat.le_of_ble_eq_true
theorem Jg:type_of% @List.set_append_right:=@List.set_append_right
theorem Jh:type_of% @Nat.lt_or_ge:=@Nat.lt_or_ge
theorem Ji:type_of% @Nat.mul_le_mul_left:=@Nat.mul_le_mul_left
theorem Jj:type_of% @Nat.mul_add:=@Nat.mul_add
theorem Jk:type_of% @Bool.or_false:=@Bool.or_false
theorem Jl:type_of% @Option.bind_some:=@Option.bind_some
theorem Jm:type_of% @List.any_eq_true:=@List.any_eq_true
theorem Jn:type_of% @Nat.sub_zero:=@Nat.sub_zero
theorem Jo:type_of% @List.mem_of_getElem?:=@List.mem_of_getElem?
theorem Jp:type_of% @List.getElem_append_left:=@List.getElem_append_left
theorem Jq:type_of% @List.getElem_drop:=@List.getElem_drop
theorem Jr:type_of% @List.replicate_succ':=@List.replicate_succ'
theorem Js:type_of% @List.singleton_append:=@List.singleton_append
theorem Jt:type_of% @List.getD_cons_succ:=@List.getD_cons_succ
theorem Ju:type_of% @Bool.or_eq_false_iff:=@Bool.or_eq_false_iff
theorem Jv:type_of% @List.getElem_cons_zero:=@List.getElem_cons_zero
theorem Jw:type_of% @Nat.min_zero:=@Nat.min_zero
theorem Jx:type_of% @Nat.min_le_left:=@Nat.min_le_left
theorem Jy:type_of% @Array.length_toList:=@Array.length_toList
theorem Jz:type_of% @Prod.mk.injEq:=@Prod.mk.injEq
theorem JA:type_of% @List.getElem?_set:=@List.getElem?_set
theorem JB:type_of% @List.size_toArray:=@List.size_toArray
theorem JC:type_of% @List.getElem_append_right:=@List.getElem_append_right
theorem JD:type_of% @Array.getElem?_modify:=@Array.getElem?_modify
theorem JE:type_of% @List.range'_succ:=@List.range'_succ
theorem JF:type_of% @List.getElem_inj:=@List.getElem_inj
theorem JG:type_of% @List.append_inj':=@List.append_inj'
theorem JH:type_of% @Int.natCast_ediv:=@Int.natCast_ediv
theorem JI:type_of% @Option.getD_none:=@Option.getD_none
theorem JJ:type_of% @List.any_eq_false:=@List.any_eq_false
theorem JK:type_of% @List.getElem?_replicate:=@List.getElem?_replicate
theorem JL:type_of% @List.flatMap_append:=@List.flatMap_append
theorem JM:type_of% @List.getElem?_range:=@List.getElem?_range
theorem JN:type_of% @Array.getElem?_toList:=@Array.getElem?_toList
theorem JO:type_of% @List.pairwise_iff_getElem:=@List.pairwise_iff_getElem
theorem JP:type_of% @Option.isNone_none:=@Option.isNone_none
theorem JQ:type_of% @Array.getElem?_append_left:=@Array.getElem?_append_left
theorem JR:type_of% @List.pairwise_lt_range:=@List.pairwise_lt_range
theorem JS:type_of% @List.getElem?_cons_succ:=@List.getElem?_cons_succ
theorem JT:type_of% @List.mem_of_mem_tail:=@List.mem_of_mem_tail
theorem JU:type_of% @List.getElem?_toArray:=@List.getElem?_toArray
theorem JV:type_of% @Option.map_eq_some_iff:=@Option.map_eq_some_iff
theorem JW:type_of% @Array.getElem?_eq_getElem:=@Array.getElem?_eq_getElem
theorem Va {P:Prop} (h:P:=by first|exact Ao.treeE (by ((try simp only[Hi,Hk,Hl,HB,HM,HJ,Hs,HG]);first|omega|assumption))|exact Ao.treeO rfl (by first|exact rfl|assumption|(simp only[Hi,Hk,Hl,HB,HM,HJ,Hs,HG];done)|((try simp only[Hi,Hk,Hl,HB,HM,HJ,Hs,HG]);first|assumption|omega)) (by ((try simp only[Hi,Hk,Hl,HB,HM,HJ,Hs,HG]);first|omega|assumption))|exact Ao.fragE (by ((try simp only[Hi,Hk,Hl,HB,HM,HJ,Hs,HG]);first|omega|assumption))|exact Ao.fragO rfl (by first|exact rfl|assumption|(simp only[Hi,Hk,Hl,HB,HM,HJ,Hs,HG];done)|((try simp only[Hi,Hk,Hl,HB,HM,HJ,Hs,HG]);first|assumption|omega)) (by ((try simp only[Hi,Hk,Hl,HB,HM,HJ,Hs,HG]);first|omega|assumption))|exact Ao.exprE (by ((try simp only[Hi,Hk,Hl,HB,HM,HJ,Hs,HG]);first|omega|assumption))|exact Ao.exprO rfl (by first|exact rfl|assumption|(simp only[Hi,Hk,Hl,HB,HM,HJ,Hs,HG];done)|((try simp only[Hi,Hk,Hl,HB,HM,HJ,Hs,HG]);first|assumption|omega)) (by ((try simp only[Hi,Hk,Hl,HB,HM,HJ,Hs,HG]);first|omega|assumption))|exact Ao.auxE (by ((try simp only[Hi,Hk,Hl,HB,HM,HJ,Hs,HG]);first|omega|assumption))|exact Ao.auxO rfl (by first|exact rfl|assumption|(simp only[Hi,Hk,Hl,HB,HM,HJ,Hs,HG];done)|((try simp only[Hi,Hk,Hl,HB,HM,HJ,Hs,HG]);first|assumption|omega)) (by ((try simp only[Hi,Hk,Hl,HB,HM,HJ,Hs,HG]);first|omega|assumption))|exact Ao.mapE (by ((try simp only[Hi,Hk,Hl,HB,HM,HJ,Hs,HG]);first|omega|assumption))|exact Ao.mapO rfl (by first|exact rfl|assumption|(simp only[Hi,Hk,Hl,HB,HM,HJ,Hs,HG];done)|((try simp only[Hi,Hk,Hl,HB,HM,HJ,Hs,HG]);first|assumption|omega)) (by ((try simp only[Hi,Hk,Hl,HB,HM,HJ,Hs,HG]);first|omega|assumption))|exact Ao.e rfl|exact Ao.o rfl (by first|exact rfl|assumption|(simp only[Hi,Hk,Hl,HB,HM,HJ,Hs,HG];done)|((try simp only[Hi,Hk,Hl,HB,HM,HJ,Hs,HG]);first|assumption|omega)) rfl|exact Ao.e (by assumption)|exact Ao.o rfl (by first|exact rfl|assumption|(simp only[Hi,Hk,Hl,HB,HM,HJ,Hs,HG];done)|((try simp only[Hi,Hk,Hl,HB,HM,HJ,Hs,HG]);first|assumption|omega)) (by assumption)):P:=h
theorem Vc {P:Prop} (h:P:=by repeat' (first|exact trivial|exact VLe.refl _|exact Ap.of rfl|assumption|exact HLe.append_left (by assumption)|exact HLe.of_self (by assumption)|(refine GY ?_ ?_)|(refine Zc9 rfl ?_;first|exact rfl|assumption|omega|exact e|exact e.symm|(simp only[e];done)|(simp[e,iD,bD,sD];done)|(simp[e];omega)|(simp;done)|(simp;omega))|(refine Zda rfl ?_;first|exact rfl|assumption|omega|exact e|exact e.symm|(simp only[e];done)|(simp[e,iD,bD,sD];done)|(simp[e];omega)|(simp;done)|(simp;omega))|(refine Zcw rfl ?_;first|exact rfl|assumption|omega|exact e|exact e.symm|(simp only[e];done)|(simp[e,iD,bD,sD];done)|(simp[e];omega)|(simp;done)|(simp;omega))|(refine Zdb rfl ?_;first|exact rfl|assumption|omega|exact e|exact e.symm|(simp only[e];done)|(simp[e,iD,bD,sD];done)|(simp[e];omega)|(simp;done)|(simp;omega))|(refine ZbT rfl ?_;first|exact rfl|assumption|omega|exact e|exact e.symm|(simp only[e];done)|(simp[e,iD,bD,sD];done)|(simp[e];omega)|(simp;done)|(simp;omega))|(refine ZfJ rfl ?_;first|exact rfl|assumption|omega|exact e|exact e.symm|(simp only[e];done)|(simp[e,iD,bD,sD];done)|(simp[e];omega)|(simp;done)|(simp;omega))|(refine ZfK rfl ?_;first|exact rfl|assumption|omega|exact e|exact e.symm|(simp only[e];done)|(simp[e,iD,bD,sD];done)|(simp[e];omega)|(simp;done)|(simp;omega))|(refine ZcW rfl ?_;first|exact rfl|assumption|omega|exact e|exact e.symm|(simp only[e];done)|(simp[e,iD,bD,sD];done)|(simp[e];omega)|(simp;done)|(simp;omega))|exact Zdc _ _ rfl|(refine ZcF rfl ?_;(repeat' (first|exact DLes.refl _|exact DLes.nil|exact DLe.refl _|exact DLe.nil _ _|assumption|exact e|refine DLes.cons ?_ ?_|refine DLe.agg ?_|refine DLe.sl ?_|(apply DLes.snoc;(first|assumption|exact e|exact e.symm))));done)|(refine Zde rfl ?_;(repeat' (first|exact DLes.refl _|exact DLes.nil|exact DLe.refl _|exact DLe.nil _ _|assumption|exact e|refine DLes.cons ?_ ?_|refine DLe.agg ?_|refine DLe.sl ?_|(apply DLes.snoc;(first|assumption|exact e|exact e.symm))));done)|(refine Zdd rfl ?_;(repeat' (first|exact DLes.refl _|exact DLes.nil|exact DLe.refl _|exact DLe.nil _ _|assumption|exact e|refine DLes.cons ?_ ?_|refine DLe.agg ?_|refine DLe.sl ?_|(apply DLes.snoc;(first|assumption|exact e|exact e.symm))));done)|(refine ZcG rfl ?_;(repeat' (first|exact VLes.refl _|refine GY ?_ ?_|exact trivial|exact VLe.refl _|exact VLe.nil _ _));done))):P:=h
theorem Vf {P:Prop} (h:P:=by first|exact Zag|exact Zaf rfl rfl rfl|(apply Zaf rfl rfl;(exact Vh))):P:=h
theorem Vg {P:Prop} (h:P:=by first|exact rfl|assumption|(simp only[Hi,Hk,Hl,HB,HM,HJ,Hs,HG];done)|((try simp only[Hi,Hk,Hl,HB,HM,HJ,Hs,HG]);first|assumption|omega)):P:=h
theorem Vh {P:Prop} (h:P:=by first|assumption|exact rfl|exact Hu rfl|exact Hy not (Hu rfl)|((try simp only[HZ,G4,Bool.not_true,Bool.not_false,Bool.not_eq_true',Bool.not_eq_false',Bool.not_not,Int.not_lt,Int.not_le,Hr,Gj,Bool.and_eq_false_iff,Ju]);first|assumption|omega)):P:=h
theorem Vi {P:Prop} (h:P:=by first|exact Zd6 _|exact Zeq _|exact Zfa _|exact ZaI (.Aa _ _)|exact ZaI (.trees _ _)|exact ZaI (.tree1 _ _)|exact ZaI (.frags _ _)|exact ZaI (.frag1 _ _)|exact views_fragss _ _|exact views_intss _ _|exact views_exprs _ _|exact views_expr1 _ _|exact views_defs _ _|exact views_toks _|exact views_aux _ _|exact rfl):P:=h
theorem Vj {P:Prop} (h:P:=by first|(conv=>lhs;simp only[Zek,cut,ZgF,Hm,HF,GZ,Gl,List.drop_nil,GT,GW,Hv,H3,Ht,Hl,HB,HE,Nat.reduceAdd])|exact rfl):P:=h
theorem Vk {P:Prop} (h:P:=by first|exact Or.inl rfl|exact Or.inr ⟨trivial,trivial⟩|exact Or.inr ⟨⟨trivial,trivial⟩,trivial⟩|(refine Or.inr ⟨?_,?_⟩ <;> simp[V.clean,V.cleans,D.clean,D.cleans,HpClean,Ob.clean,Zgq,Zg0,Zef,Zeg])):P:=h
theorem Vl {P:Prop} (h:P:=by repeat' (first|exact trivial|(refine⟨?_,?_⟩)|exact Co.refl _|exact Co.froz rfl rfl|exact Co.froz rfl (by simp)|exact Co.nil _ _|exact Co.nil false _|exact Co.agg (Cos.refl _)|(refine Co.agg ?_))):P:=h
theorem Vm {P:Prop} (h:P:=by ((try simp only[Hi,Hk,Hl,HB,HM,HJ,Hs,HG]);first|omega|assumption)):P:=h
theorem Vn {P:Prop} (h:P:=by first|(conv=>lhs;simp only[dput,V.ren,V.rens,Ob.ren,Hp.ren,renK,Nat.reduceBEq,Gc,cond_false,Hv,H3,Ht])|exact rfl):P:=h
theorem Vo {P:Prop} (h:P:=by repeat' (first|exact trivial|(refine⟨?_,?_⟩)|exact Co.refl _|exact Co.froz rfl rfl|exact Co.froz rfl (by simp)|exact Co.nil _ _|exact Co.nil false _)):P:=h
theorem Vp {P:Prop} (h:P:=by first|exact rfl|exact (rfl:(0:Int)=((0:Nat):Int))|exact (rfl:(1:Int)=((1:Nat):Int))|assumption|omega):P:=h
theorem Vq {P:Prop} (h:P:=by first|exact True.intro|exact⟨rfl,True.intro⟩|exact⟨rfl,rfl,True.intro⟩|exact⟨rfl,rfl,rfl,True.intro⟩):P:=h
theorem Vr {P:Prop} (h:P:=by first|exact rfl|(simp[frIn,hpIn,V.inside,V.insides, *];done)):P:=h
theorem Vs {P:Prop} (h:P:=by repeat' (first|exact LinkH.nil|(apply LinkH.cons;exact rfl))):P:=h
theorem Vt {P:Prop} (h:P:=by repeat' (first|exact ZdC|(apply Zc8;conv=>lhs;whnf))):P:=h
theorem Vu {P:Prop} (h:P:=by conv=>lhs;whnf):P:=h
theorem Vw {P:Prop} (h:P:=by repeat' (first|exact Aq.one (.d _)|exact Aq.one (.own rfl Vg)|exact Aq.one (.frz rfl Vg)|exact Aq.one (.full _ _ _)|apply Aq.agg|exact Embs.nil|apply Embs.cons|exact Emb.d _|exact Emb.own rfl Vg|exact Emb.frz rfl Vg|exact Emb.full _ _ _)):P:=h
theorem Vx {P:Prop} (h:P:=by first|exact At.sl|exact At.nil|exact At.own rfl Vg|exact At.full|exact At.frz rfl Vg):P:=h
theorem Vy {P:Prop} (h:P:=by repeat' (first|exact As.nil|(apply As.cons)|exact Ar.same rfl|exact Ar.vw rfl Vg Vi|exact Ar.emb Vw)):P:=h
end Go.Proofs.YtbpmepgnjanhnaaGreat
