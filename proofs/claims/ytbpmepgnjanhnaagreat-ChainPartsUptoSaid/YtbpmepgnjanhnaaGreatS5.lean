import Derived.Test.YtbpmepgnjanhnaaGreatSimW
import Derived.Test.YtbpmepgnjanhnaaGreatQTab
set_option linter.unusedVariables false
set_option linter.unusedSimpArgs false
set_option linter.unusedSectionVars false
namespace Go.Proofs.YtbpmepgnjanhnaaGreat
open Go.RowKit
theorem wkr {G K:Prop} (hK:K) (h:Bx K→G:=by intro hK;(first|(refine gOp ?_;first|refine ZyB (hr:=?_)|refine Zv8 (hr:=?_)|(refine ZoP ?_;first|refine ZyE TY (hr:=?_)|refine ZxC TY (hr:=?_)|refine ZxB TY (hr:=?_)|refine Zv9 TY (hr:=?_))|(refine Zi1 ?_;first|refine ZiP TY (hr:=?_)|refine Znc TY (hr:=?_)|refine Znd TY (hr:=?_))|(refine Zi2 ?_;first|refine Zch TY (hr:=?_)|refine ZbK TY (hr:=?_))|(refine gBin ?_;first|refine Zza (hr:=?_)|refine Zy7 (hr:=?_)|refine Zy8 (hr:=?_)|refine Zzh (hr:=?_)|refine Zzi (hr:=?_)|refine Zzj (hr:=?_)|refine Zzk (hr:=?_)|refine Zzl (hr:=?_)|refine Zzm (hr:=?_)|refine Zzn (hr:=?_)|refine Zy9 (hr:=?_)|refine d_or (hr:=?_)|refine ZyX (hr:=?_)|refine ZyY (hr:=?_)|refine ZyZ (hr:=?_)|refine Zy0 (hr:=?_)|refine Zy1 (hr:=?_))|(refine ZoQ ?_;first|refine Zzf TY (hr:=?_)|refine ZyF TY (hr:=?_)|refine Zze TY (hr:=?_)|refine Zb8 TY (hr:=?_)|refine Zy2 (hr:=?_)|refine Zy3 (hr:=?_))|(refine ZoR ?_;first|refine ZyC true (hr:=?_)|refine ZyC false (hr:=?_)|refine ZxA (hr:=?_))|(refine gNil ?_;first|refine Zrj (hr:=?_)|refine Zon (hr:=?_))|(refine Zi3 ?_;first|refine ZxH TY (hr:=?_)|refine Zwa TY (hr:=?_))|(refine gUn ?_;first|refine Zzb (hr:=?_)|refine Zzc (hr:=?_))|refine Zzd (hr:=?_)|refine ZxF TY (hr:=?_)|refine Zni TY (hr:=?_)|refine ZxG TY (hr:=?_)|refine Zt1 (hr:=?_)|refine Zrk (hr:=?_)|refine ZxI TY (hr:=?_)|refine Zyz (hr:=?_)|refine Zop TY (hr:=?_)|refine ZpN (hr:=?_))|refine ZdS ?_|refine Zlq ?_|refine Zby ?_|refine Zb7 ?_|refine Zeg ?_|refine Zfq ?_|refine Zfr ?_|refine Zef ?_|refine Zdj ?_|refine Zdk ?_|refine Zdl ?_|refine Zdm ?_|refine Zdn ?_|refine Zck ?_|refine ZeF ?_|refine ZfD ?_|refine ZfE ?_);(repeat (first|(refine gOp ?_;first|refine ZyB (hr:=?_)|refine Zv8 (hr:=?_)|(refine ZoP ?_;first|refine ZyE TY (hr:=?_)|refine ZxC TY (hr:=?_)|refine ZxB TY (hr:=?_)|refine Zv9 TY (hr:=?_))|(refine Zi1 ?_;first|refine ZiP TY (hr:=?_)|refine Znc TY (hr:=?_)|refine Znd TY (hr:=?_))|(refine Zi2 ?_;first|refine Zch TY (hr:=?_)|refine ZbK TY (hr:=?_))|(refine gBin ?_;first|refine Zza (hr:=?_)|refine Zy7 (hr:=?_)|refine Zy8 (hr:=?_)|refine Zzh (hr:=?_)|refine Zzi (hr:=?_)|refine Zzj (hr:=?_)|refine Zzk (hr:=?_)|refine Zzl (hr:=?_)|refine Zzm (hr:=?_)|refine Zzn (hr:=?_)|refine Zy9 (hr:=?_)|refine d_or (hr:=?_)|refine ZyX (hr:=?_)|refine ZyY (hr:=?_)|refine ZyZ (hr:=?_)|refine Zy0 (hr:=?_)|refine Zy1 (hr:=?_))|(refine ZoQ ?_;first|refine Zzf TY (hr:=?_)|refine ZyF TY (hr:=?_)|refine Zze TY (hr:=?_)|refine Zb8 TY (hr:=?_)|refine Zy2 (hr:=?_)|refine Zy3 (hr:=?_))|(refine ZoR ?_;first|refine ZyC true (hr:=?_)|refine ZyC false (hr:=?_)|refine ZxA (hr:=?_))|(refine gNil ?_;first|refine Zrj (hr:=?_)|refine Zon (hr:=?_))|(refine Zi3 ?_;first|refine ZxH TY (hr:=?_)|refine Zwa TY (hr:=?_))|(refine gUn ?_;first|refine Zzb (hr:=?_)|refine Zzc (hr:=?_))|refine Zzd (hr:=?_)|refine ZxF TY (hr:=?_)|refine Zni TY (hr:=?_)|refine ZxG TY (hr:=?_)|refine Zt1 (hr:=?_)|refine Zrk (hr:=?_)|refine ZxI TY (hr:=?_)|refine Zyz (hr:=?_)|refine Zop TY (hr:=?_)|refine ZpN (hr:=?_))|refine ZdS ?_|refine Zlq ?_|refine Zby ?_|refine Zb7 ?_|refine Zeg ?_|refine Zfq ?_|refine Zfr ?_|refine Zef ?_|refine Zdj ?_|refine Zdk ?_|refine Zdl ?_|refine Zdm ?_|refine Zdn ?_|refine Zck ?_|refine ZeF ?_|refine ZfD ?_|refine ZfE ?_));exact hK.out):G:=h ⟨hK⟩
theorem Zuf:ZeU Tryz.prog 31 0 2 0:=Zk7 Tryz.underlying31 rfl rfl rfl Tryz.underlying3 rfl
theorem Zug:ZeU Tryz.prog 31 1 2 1:=Zk7 Tryz.underlying31 rfl rfl rfl Tryz.underlying3 rfl
section
variable {P:Program} {n:Nat} {dr:Bool} {ops:Array Oper} {rest:List Oper} {log:List Rec} {K:Exit→Fr→Hp→Prop} {fr:Fr} {h:Hp}
variable {d:Nat} {ty:TypeId} {pos:String} {after:Array Edge} {g:Option (Nat×Bool)}
theorem Zaa {x:Operand} {st f m fo:Nat} {v c:V} {cs:List V} (hdn:Nat.blt d n=true:=by exact rfl) (hg:gOk ops fr g:=by exact Vf) (hF:ZeU P st f m fo:=by first|exact Zuf|exact Zug) (hx:oev fr x=v:=by exact Vu) (h1:ZaC x=true:=by exact rfl) (hv:ZtA v=true:=by exact rfl) (hcs:v.cellsOf=some cs:=by exact rfl) (hm:cs.length=m:=by exact rfl) (hc:cs[fo]? = some c:=by exact rfl) (hr:dops P n dr ops rest (⟨(gIns ops g++Zaz x v).map Prod.fst,[d],[],[]⟩::log) K ((d,c)::fr) h):dops P n dr ops (⟨some d,.field st x f,ty,pos,after,g⟩::rest) log K fr h :=
 Zxn hdn hg hF hx h1 hv hcs hm hc hr
structure Vz (Q:Prop):Prop where out:Q
theorem VA {P Q:Prop} (q:Q) (k:Vz Q→P:=by intro q;(repeat (first|refine wk ?_|refine Zaa (hr:=?_)));exact q.out):P:=k ⟨q⟩
end
section
variable {P:Program} {n:Nat} {Q:Exit→Fr→Hp→Prop} {K:Exit→Fr→Hp→Prop} {fr:Fr} {h:Hp}
theorem Zuh {id c d e st yt cty ty:Nat} {x:Operand} {t:Bool} {sz:Nat} {xs:List D} {pos1 pos2:String} {af1 af2:Array Edge} (hT:xs=[]→Q .normal ((d,B true)::(c,.d (.sl t sz xs))::fr) h) (hF:Q .normal ((d,B false)::(c,.d (.sl t sz xs))::fr) h) (hu:Tryz.prog.underlying st=some (.slice e)) (hcn:Nat.blt c n=true:=by exact rfl) (hdn:Nat.blt d n=true:=by exact rfl) (hx:oev fr x=.d (.sl t sz xs):=by exact rfl) :
  aw Tryz.prog n (.region id #[⟨some c,.move x,cty,pos1,af1,none⟩,⟨some d,.binOp .eql st (.tmp c) (.const (.slice none 0 0)) yt,ty,pos2,af2,none⟩] false) Q fr h:=Zwf hcn hdn hx hu hT hF
theorem finx {G:Prop} (h:G:=by (try refine Fin.norm ?_);first|exact Fin.r1 rfl (.of_tmp rfl) (ZyH (by first|exact rfl|(simp;done)|omega|assumption|exact e|(simp[e];done))) Vc Vs|exact Fin.r1 rfl (.of_tmp rfl) Vo Vc Vs|exact Fin.r0 rfl Vc Vs):G:=h
theorem fin2 {G:Prop} (h:G:=by (try refine Fin.norm ?_);exact Fin.r2 rfl (.aggT TY rfl rfl rfl rfl rfl) (.aggT TY rfl rfl rfl rfl rfl) (Co.tup Vl) Vc rfl):G:=h
end
section
variable {G:Ctx} {E:Env} {fr:Fr} {h:Hp} {a:Act} {w:World}
theorem Conc.takeOver (C:Conc G E fr h a w) {k k':Nat} {e sz:Nat} {xs xs':List D} {v':Value} (hk:hget h k=some (.row e sz xs)) (hk':hget h k'=none) (hlow:k' < 1000)
  (hr:∀ M,RowAt M w e sz (E.row k) xs→RowAt M w e sz v' xs') (hb:∀ b,obOf v'=some b→obOf (E.row k)=some b) :
  Conc G ⟨E.blk,fun j=>if j=k' then v' else E.row j,E.fp⟩ fr ((k',.row e sz xs')::(k,.dead xs.length)::h) a w:=by
 have hne:k≠k':=by rintro rfl;rw[hk] at hk';cases hk'
 have hg1:hget ((k',.row e sz xs')::(k,.dead xs.length)::h) k'=some (.row e sz xs'):=Zai _ _ _
 have hg2:hget ((k',.row e sz xs')::(k,.dead xs.length)::h) k=some (.dead xs.length):=by rw[Zaq _ _ hne.symm,Zai]
 have hg3:∀ j,j≠k→j≠k'→hget ((k',.row e sz xs')::(k,.dead xs.length)::h) j=hget h j:=fun j h1 h2=>by rw[Zaq _ _ h2.symm,Zaq _ _ h1.symm]
 generalize ((k',.row e sz xs')::(k,.dead xs.length)::h:Hp)=h2 at hg1 hg2 hg3 ⊢
 have hmono:∀ j,(hget h j).isSome=true→(hget h2 j).isSome=true:=fun j hj=>by
  by_cases e1:j=k
  ·subst e1;rw[hg2];rfl
  ·by_cases e2:j=k'
   ·subst e2;rw[hg1];rfl
   ·rw[hg3 j e1 e2];exact hj
 have hblk:∀ j b,blkOf ⟨E.blk,fun j=>if j=k' then v' else E.row j,E.fp⟩ h2 j b→(j=k'∧blkOf E h k b)∨(j≠k∧j≠k'∧blkOf E h j b):=fun j b hj=>by
  by_cases e2:j=k'
  ·subst e2
   refine .inl ⟨rfl,?_⟩
   unfold blkOf at hj ⊢
   rw[hg1] at hj
   rw[hk]
   exact hb b (by simpa using hj)
  ·by_cases e1:j=k
   ·subst e1;unfold blkOf at hj;rw[hg2] at hj;cases hj
   ·refine .inr ⟨e1,e2,?_⟩
    unfold blkOf at hj ⊢
    rw[hg3 j e1 e2] at hj
    simpa[e2] using hj
 have hlive:∀ b,Live ⟨E.blk,fun j=>if j=k' then v' else E.row j,E.fp⟩ h2 b→Live E h b:=fun b ⟨j,hj⟩=>by
  rcases hblk j b hj with ⟨_,h1⟩|⟨_,_,h1⟩
  ·exact⟨k,h1⟩
  ·exact⟨j,h1⟩
 have T:Trans E h (bars E h G.o) w ⟨E.blk,fun j=>if j=k' then v' else E.row j,E.fp⟩ h2 (bars ⟨E.blk,fun j=>if j=k' then v' else E.row j,E.fp⟩ h2 G.o) w:=by
  refine⟨fun _ _ _=>rfl,fun j _ m hv=>?_,fun j hj s n hv=>?_,fun t b _ hm=>⟨rfl,?_⟩,Nat.le_refl _⟩
  ·by_cases e1:j=k
   ·subst e1
    refine⟨m,.inr (.inr (.inl ?_)),Nat.le_refl _,fun _=>by simp[hne]⟩
    rw[hg2]
    rcases hv with ⟨_,_,_,h1,h2⟩|⟨_,_,h1,_⟩|h1|⟨_,_,_,_,h1,_⟩ <;> rw[hk] at h1 <;> cases h1
    rw[h2]
   ·by_cases e2:j=k'
    ·subst e2
     exfalso
     rcases hv with ⟨_,_,_,h1,_⟩|⟨_,_,h1,_⟩|h1|⟨_,_,_,_,h1,_⟩ <;> rw[hk'] at h1 <;> cases h1
    ·exact⟨m,by unfold verAny;rw[hg3 j e1 e2];exact hv,Nat.le_refl _,fun _=>by simp[e2]⟩
  ·by_cases e1:j=k
   ·subst e1;rcases hv with ⟨_,_,h1,_⟩|⟨_,_,_,_,h1,_⟩ <;> (rw[hg2] at h1;cases h1)
   ·by_cases e2:j=k'
    ·subst e2;rw[hk'] at hj;cases hj
    ·exact⟨n,by unfold verRow at hv ⊢;rw[hg3 j e1 e2] at hv;exact hv⟩
  ·rintro (hl|ho)
   ·exact hm (.inl (hlive b hl))
   ·exact hm (.inr ho)
 refine⟨C.size,C.defers,fun i=>(C.frame i).move T (C.closed i) (fun j hj=>hmono j (C.closed i j hj)),⟨fun j ob hj=>?_,fun j j' b h1 h2=>?_,fun j ob hj i hi=>?_⟩,fun i j hj=>hmono j (C.closed i j hj),C.ext,fun j b hj=>?_,fun j hj hs=>?_,C.outer,C.sub⟩
 ·by_cases e2:j=k'
  ·subst e2
   rw[hg1] at hj;cases hj
   simp only[ObRep,if_true]
   have:=C.heap.obs k _ hk
   simp only[ObRep] at this
   exact hr _ (this.move T.carry (fun _ _=>rfl))
  ·by_cases e1:j=k
   ·subst e1;rw[hg2] at hj;cases hj;trivial
   ·rw[hg3 j e1 e2] at hj
    have hr':=C.heap.obs j _ hj
    exact hr'.move T hj rfl (by simp only[if_neg e2]) rfl (fun _ _=>rfl) (C.heap.closed j _ hj) (fun i hi=>hmono i (C.heap.closed j _ hj i hi))
 ·rcases hblk j b h1 with ⟨rfl,a1⟩|⟨n1,n2,a1⟩ <;> rcases hblk j' b h2 with ⟨rfl,a2⟩|⟨n3,n4,a2⟩
  ·rfl
  ·exact absurd (C.heap.apart k j' b a1 a2) (Ne.symm n3)
  ·exact absurd (C.heap.apart j k b a1 a2) n1
  ·exact C.heap.apart j j' b a1 a2
 ·by_cases e2:j=k'
  ·subst e2;rw[hg1] at hj;cases hj;simp[Ob.keys] at hi
  ·by_cases e1:j=k
   ·subst e1;rw[hg2] at hj;cases hj;simp[Ob.keys] at hi
   ·rw[hg3 j e1 e2] at hj;exact hmono i (C.heap.closed j _ hj i hi)
 ·rcases hblk j b hj with ⟨_,h1⟩|⟨_,_,h1⟩
  ·exact C.fresh k b h1
  ·exact C.fresh j b h1
 ·have e2:j≠k':=by omega
  have hold:(hget h j).isSome=true:=by
   by_cases e1:j=k
   ·subst e1;rw[hk];rfl
   ·rw[hg3 j e1 e2] at hs;exact hs
  obtain⟨g0,g1,g2,g3⟩:=C.keep j hj hold
  refine⟨g0,g1,fun m hm=>?_,fun s n hv=>?_⟩
  ·obtain⟨m1,k1,k2,k3⟩:=g2 m hm
   obtain⟨m2,l1,l2,l3⟩:=T.ver j (hmono j hold) m1 k1
   exact⟨m2,l1,by omega,fun e=>(l3 (by omega)).trans (k3 (by omega))⟩
  ·obtain⟨m,hm⟩:=T.verR j hold s n hv
   exact g3 s m hm
end
section
variable {P:Program} {n:Nat} {Q:Exit→Fr→Hp→Prop} {fr:Fr} {h:Hp}
theorem Zzo {c:Code} (i k':Nat) {k m e sz:Nat} {xs:List D} (hi:fget fr i=.own k m) (hk:hget h k=some (.row e sz xs)) (hm:xs.length=m) (hk':hget h k'=none) (hlow:Nat.blt k' 1000=true)
  (hc:aw P n c Q ((i,.own k' m)::fr) ((k',.row e sz xs)::(k,.dead m)::h)):aw P n c Q fr h:=by
 intro G E a w hn C
 subst hm
 have hne:k≠k':=by rintro rfl;rw[hk] at hk';cases hk'
 have C':=C.takeOver (v':=E.row k) (xs':=xs) hk hk' (by simpa[Nat.blt_eq] using hlow) (fun _ h=>h) (fun _ h=>h)
 refine hc G _ a w hn ⟨C'.size,C'.defers,fun j=>?_,C'.heap,fun j=>?_,C'.ext,C'.fresh,C'.keep,C'.outer,C'.sub⟩
 ·by_cases e1:i=j
  ·subst e1
   rw[ZaZ]
   have hf:=C.frame i
   rw[hi] at hf
   simp only[V.Rep] at hf ⊢
   obtain⟨m,h1,h2,h3,h4⟩:=hf
   have:=ZaS h1 (.inl ⟨_,_,_,hk,rfl⟩)
   exact⟨xs.length,.inl ⟨_,_,_,Zai _ _ _,rfl⟩,Nat.le_refl _,h3,fun _=>by simp only[if_true];exact h4 this.symm⟩
  ·rw[ZaU _ _ e1];exact C'.frame j
 ·by_cases e1:i=j
  ·subst e1;rw[ZaZ];intro q hq;simp[V.keys] at hq;subst hq;rw[Zai];rfl
  ·rw[ZaU _ _ e1];exact C'.closed j
end
section
variable {P:Program} {n:Nat} {dr:Bool} {ops:Array Oper} {rest:List Oper} {log:List Rec} {K:Exit→Fr→Hp→Prop} {fr:Fr} {h:Hp}
variable {d:Nat} {ty:TypeId} {pos:String} {after:Array Edge} {g:Option (Nat×Bool)}
variable (T:TT P)
end
section
variable {P:Program} {n:Nat} {dr:Bool} {ops:Array Oper} {rest:List Oper} {log:List Rec} {K:Exit→Fr→Hp→Prop} {fr:Fr} {h:Hp}
variable {ty:TypeId} {pos:String} {after:Array Edge}
theorem LStep.skipU {PS:List PanicEntry→Fr→Hp→Prop} {o:Oper} {j:Nat} {want:Bool} {s:Nat} {v:V} (hd:∀ d,o.dst=some d→Nat.blt d n=true) (hg:o.guard=some (j,want)) (hs:(ops[j]?).bind (·.dst)=some s) (hv:v=.tup []∨v=B !want):LStep P n ops PS o [(s,v)] [] (.tup []) []:=by
 intro G E fr' h' a w K Q hPan hn C hi _ hK
 have hf:=C.frame s
 rw[hi (s,v) (by simp)] at hf
 have hw:¬ Region.wanted o (yielded ops a.tmps)=true:=by
  unfold Region.wanted yielded
  rw[hg]
  simp only[hs,Option.bind_some]
  rcases hv with rfl|rfl
  ·simp only[V.Rep] at hf
   obtain⟨us,h1,h2⟩:=hf
   simp only[V.Reps] at h2
   subst h2
   simp only[Array.getD_eq_getD_getElem?] at h1
   cases hb:a.tmps[s]? with
   | none=>simp
   | some u=>rw[hb] at h1;simp at h1;subst h1;simp
  ·simp only[V.Rep,D.RepV,D.Rep,List.cons.injEq,and_true] at hf
   have:=hf.1
   simp only[Array.getD_eq_getD_getElem?] at this
   cases hb:a.tmps[s]? with
   | none=>simp
   | some u=>rw[hb] at this;simp at this;subst this;cases want <;> simp
 unfold wpS
 rw[if_neg hw]
 refine hK E _ w ?_
 cases hdd:o.dst with
 | none=>exact C
 | some d=>exact C.put (by rw[hn];simpa[Nat.blt_eq] using hd d hdd) (by simp only[V.Rep];exact⟨[],rfl,by simp[V.Reps]⟩) (by simp[V.keys,V.keyss])
theorem Zui {dst:Option Tmp} {op:Op} {j:Nat} {want:Bool} {s:Nat} {b:Bool} (hs:(ops[j]?).bind (·.dst)=some s:=by exact rfl) (hb:fget fr s=.d (.raw (.bool b)):=by exact rfl) (hbw:b=!want:=by exact Vh) (hd:∀ d,dst=some d→Nat.blt d n=true:=by simp) (hr:dops P n dr ops rest (⟨[s],dst.toList,[],[]⟩::log) K (dput dst (.tup []) fr) h):dops P n dr ops (⟨dst,op,ty,pos,after,some (j,want)⟩::rest) log K fr h :=
 Zaw (ins:=[(s,.d (.raw (.bool !want)))]) (objs:=[]) (LStep.skipU hd rfl hs (.inr rfl)) (by simp;rw[hb,hbw]) (by simp) hr
theorem Zuj {dst:Option Tmp} {op:Op} {j:Nat} {want:Bool} {s:Nat} (hs:(ops[j]?).bind (·.dst)=some s:=by exact rfl) (hb:fget fr s=.tup []:=by exact rfl) (hd:∀ d,dst=some d→Nat.blt d n=true:=by simp) (hr:dops P n dr ops rest (⟨[s],dst.toList,[],[]⟩::log) K (dput dst (.tup []) fr) h):dops P n dr ops (⟨dst,op,ty,pos,after,some (j,want)⟩::rest) log K fr h :=
 Zaw (ins:=[(s,.tup [])]) (objs:=[]) (LStep.skipU hd rfl hs (.inl rfl)) (by simp;rw[hb]) (by simp) hr
end
theorem wkz {G K:Prop} (hK:K) (h:Bx K→G:=by intro hK;(first|(refine gOp ?_;first|refine ZyB (hr:=?_)|refine Zv8 (hr:=?_)|(refine ZoP ?_;first|refine ZyE TY (hr:=?_)|refine ZxC TY (hr:=?_)|refine ZxB TY (hr:=?_)|refine Zv9 TY (hr:=?_))|(refine Zi1 ?_;first|refine ZiP TY (hr:=?_)|refine Znc TY (hr:=?_)|refine Znd TY (hr:=?_))|(refine Zi2 ?_;first|refine Zch TY (hr:=?_)|refine ZbK TY (hr:=?_))|(refine gBin ?_;first|refine Zza (hr:=?_)|refine Zy7 (hr:=?_)|refine Zy8 (hr:=?_)|refine Zzh (hr:=?_)|refine Zzi (hr:=?_)|refine Zzj (hr:=?_)|refine Zzk (hr:=?_)|refine Zzl (hr:=?_)|refine Zzm (hr:=?_)|refine Zzn (hr:=?_)|refine Zy9 (hr:=?_)|refine d_or (hr:=?_)|refine ZyX (hr:=?_)|refine ZyY (hr:=?_)|refine ZyZ (hr:=?_)|refine Zy0 (hr:=?_)|refine Zy1 (hr:=?_))|(refine ZoQ ?_;first|refine Zzf TY (hr:=?_)|refine ZyF TY (hr:=?_)|refine Zze TY (hr:=?_)|refine Zb8 TY (hr:=?_)|refine Zy2 (hr:=?_)|refine Zy3 (hr:=?_))|(refine ZoR ?_;first|refine ZyC true (hr:=?_)|refine ZyC false (hr:=?_)|refine ZxA (hr:=?_))|(refine gNil ?_;first|refine Zrj (hr:=?_)|refine Zon (hr:=?_))|(refine Zi3 ?_;first|refine ZxH TY (hr:=?_)|refine Zwa TY (hr:=?_))|(refine gUn ?_;first|refine Zzb (hr:=?_)|refine Zzc (hr:=?_))|refine Zzd (hr:=?_)|refine ZxF TY (hr:=?_)|refine Zni TY (hr:=?_)|refine ZxG TY (hr:=?_)|refine Zt1 (hr:=?_)|refine Zrk (hr:=?_)|refine ZxI TY (hr:=?_)|refine Zui (hr:=?_)|refine Zuj (hr:=?_)|refine Zop TY (hr:=?_)|refine ZpN (hr:=?_))|refine ZdS ?_|refine Zlq ?_|refine Zby ?_|refine Zb7 ?_|refine Zeg ?_|refine Zfq ?_|refine Zfr ?_|refine Zna ?_|refine Zef ?_|refine Zdj ?_|refine Zdk ?_|refine Zdl ?_|refine Zdm ?_|refine Zdn ?_|refine Zck ?_|refine ZeF ?_|refine ZfD ?_|refine ZfE ?_);(repeat (first|(refine gOp ?_;first|refine ZyB (hr:=?_)|refine Zv8 (hr:=?_)|(refine ZoP ?_;first|refine ZyE TY (hr:=?_)|refine ZxC TY (hr:=?_)|refine ZxB TY (hr:=?_)|refine Zv9 TY (hr:=?_))|(refine Zi1 ?_;first|refine ZiP TY (hr:=?_)|refine Znc TY (hr:=?_)|refine Znd TY (hr:=?_))|(refine Zi2 ?_;first|refine Zch TY (hr:=?_)|refine ZbK TY (hr:=?_))|(refine gBin ?_;first|refine Zza (hr:=?_)|refine Zy7 (hr:=?_)|refine Zy8 (hr:=?_)|refine Zzh (hr:=?_)|refine Zzi (hr:=?_)|refine Zzj (hr:=?_)|refine Zzk (hr:=?_)|refine Zzl (hr:=?_)|refine Zzm (hr:=?_)|refine Zzn (hr:=?_)|refine Zy9 (hr:=?_)|refine d_or (hr:=?_)|refine ZyX (hr:=?_)|refine ZyY (hr:=?_)|refine ZyZ (hr:=?_)|refine Zy0 (hr:=?_)|refine Zy1 (hr:=?_))|(refine ZoQ ?_;first|refine Zzf TY (hr:=?_)|refine ZyF TY (hr:=?_)|refine Zze TY (hr:=?_)|refine Zb8 TY (hr:=?_)|refine Zy2 (hr:=?_)|refine Zy3 (hr:=?_))|(refine ZoR ?_;first|refine ZyC true (hr:=?_)|refine ZyC false (hr:=?_)|refine ZxA (hr:=?_))|(refine gNil ?_;first|refine Zrj (hr:=?_)|refine Zon (hr:=?_))|(refine Zi3 ?_;first|refine ZxH TY (hr:=?_)|refine Zwa TY (hr:=?_))|(refine gUn ?_;first|refine Zzb (hr:=?_)|refine Zzc (hr:=?_))|refine Zzd (hr:=?_)|refine ZxF TY (hr:=?_)|refine Zni TY (hr:=?_)|refine ZxG TY (hr:=?_)|refine Zt1 (hr:=?_)|refine Zrk (hr:=?_)|refine ZxI TY (hr:=?_)|refine Zui (hr:=?_)|refine Zuj (hr:=?_)|refine Zop TY (hr:=?_)|refine ZpN (hr:=?_))|refine ZdS ?_|refine Zlq ?_|refine Zby ?_|refine Zb7 ?_|refine Zeg ?_|refine Zfq ?_|refine Zfr ?_|refine Zna ?_|refine Zef ?_|refine Zdj ?_|refine Zdk ?_|refine Zdl ?_|refine Zdm ?_|refine Zdn ?_|refine Zck ?_|refine ZeF ?_|refine ZfD ?_|refine ZfE ?_));exact hK.out):G:=h ⟨hK⟩
def Zp5 (off:Nat) (c:V) (ob:Ob):Prop:=∃ bt cs,ob=.box bt cs∧cs[off]? = some c
section
variable {P:Program} {n:Nat} {ops:Array Oper} {K:Exit→Fr→Hp→Prop} {dr:Bool} {rest:List Oper} {log:List Rec} {fr:Fr} {h:Hp} {d:Nat} {ty:TypeId} {pos:String} {after:Array Edge} {g:Option (Nat×Bool)}
variable (T:TT P)
theorem Zuk {x:Operand} {t:TypeId} {y:Ty} {k off:Nat} {bt:TypeId} {cs:List V} {c:V} (hdn:Nat.blt d n=true) (hg:gOk ops fr g) (hx:oev fr x=.ptr k off) (hk:hget h k=some (.box bt cs)) (ht:T.rows[t]? = some y) (hrow:y.row=false) (hc:cs[off]? = some c) (hlog:(log.all fun r=>r.wk.all fun j=>!Nat.beq j k)=true)
  (hr:dops P n dr ops rest (⟨(gIns ops g++Zaz x (.ptr k off)).map Prod.fst,[d],[],[]⟩::log) (fun e fr' h'=>K e fr' h'∧(e=.normal→∃ u,h'=u++h∧∀ q∈u,q.1=k→Zp5 off c q.2)) ((d,c)::fr) h):dops P n dr ops (⟨some d,.load t x,ty,pos,after,g⟩::rest) log K fr h:=by
 refine .inr ⟨gIns ops g++Zaz x (.ptr k off),k,Zp5 off c,c,?_,fun p hp=>?_,⟨_,hk,bt,cs,rfl,hc⟩,fun r hr hm=>?_,hr⟩
 ·intro G E fr' h' a w K Q hPan hn C hi ho hK
  obtain⟨ob,hk',bt',cs',rfl,hc'⟩:=ho
  have hgo:gOk ops fr' g:=Zgg hg (fun p hp=>hi p (List.mem_append.2 (.inl hp)))
  obtain⟨r,_⟩:=C.oev (Zb2 hx (fun p hp=>hi p (List.mem_append.2 (.inr hp)))) (Zao (Zaj hx rfl))
  simp only[V.Rep] at r
  obtain⟨us,g1,g2,_⟩:=C.heap.obs k _ hk'
  obtain⟨u,q1,q2⟩:=g2.get hc'
  obtain⟨_,ds,_,h2,_,_,h5,_⟩:=ZaA (T.at ht)
  have hl:=ZdD (P:=P) h2 (by rw[h5];exact hrow) (w:=w) (b:=E.blk k) (o:=off) (u:=u) (by rw[cell_of_row w _ off _ bt' _ g1];simpa using q1)
  unfold wpS
  rw[if_pos (ZbR C hgo)]
  refine .inl ?_
  unfold Oper.wp
  have he:(execOp a.eval ⟨some d,.load t x,ty,pos,after,g⟩).run P w=.ok (.value u) w:=by
   simp only[execOp,r,Sem.run_bind,hl,Result.andThen_ok,Sem.run_pure]
  rw[he]
  simp only[Oper.upon]
  refine hK E _ w ?_
  exact C.put (by rw[hn];simpa[Nat.blt_eq] using hdn) q2 (fun j hj=>C.heap.closed k _ hk' j (by simp only[Ob.keys];exact V.keyss_mem.2 ⟨c,List.mem_of_getElem? hc',hj⟩))
 ·rcases List.mem_append.1 hp with hp|hp
  ·exact ZcV hg p hp
  ·exact Zbp hx p hp
 ·rw[List.all_eq_true] at hlog
  have h1:=hlog r hr
  rw[List.all_eq_true] at h1
  have h2:=h1 k hm
  rw[Nat.beq_refl] at h2;cases h2
end
theorem wk1 {G K:Prop} (hK:K) (h:Bx K→G:=by intro hK;(first|(refine gOp ?_;first|refine ZyB (hr:=?_)|refine Zv8 (hr:=?_)|(refine ZoP ?_;first|refine ZyE TY (hr:=?_)|refine ZxC TY (hr:=?_)|refine ZxB TY (hr:=?_)|refine Zv9 TY (hr:=?_))|(refine Zi1 ?_;first|refine ZiP TY (hr:=?_)|refine Znc TY (hr:=?_)|refine Znd TY (hr:=?_))|(refine Zi2 ?_;first|refine Zch TY (hr:=?_)|refine ZbK TY (hr:=?_))|(refine gBin ?_;first|refine Zza (hr:=?_)|refine Zy7 (hr:=?_)|refine Zy8 (hr:=?_)|refine Zzh (hr:=?_)|refine Zzi (hr:=?_)|refine Zzj (hr:=?_)|refine Zzk (hr:=?_)|refine Zzl (hr:=?_)|refine Zzm (hr:=?_)|refine Zzn (hr:=?_)|refine Zy9 (hr:=?_)|refine d_or (hr:=?_)|refine ZyX (hr:=?_)|refine ZyY (hr:=?_)|refine ZyZ (hr:=?_)|refine Zy0 (hr:=?_)|refine Zy1 (hr:=?_))|(refine ZoQ ?_;first|refine Zzf TY (hr:=?_)|refine ZyF TY (hr:=?_)|refine Zze TY (hr:=?_)|refine Zb8 TY (hr:=?_)|refine Zy2 (hr:=?_)|refine Zy3 (hr:=?_))|(refine ZoR ?_;first|refine ZyC true (hr:=?_)|refine ZyC false (hr:=?_)|refine ZxA (hr:=?_))|(refine gNil ?_;first|refine Zrj (hr:=?_)|refine Zon (hr:=?_))|(refine Zi3 ?_;first|refine ZxH TY (hr:=?_)|refine Zwa TY (hr:=?_))|(refine gUn ?_;first|refine Zzb (hr:=?_)|refine Zzc (hr:=?_))|refine Zzd (hr:=?_)|refine ZxF TY (hr:=?_)|refine Zni TY (hr:=?_)|refine ZxG TY (hr:=?_)|refine Zt1 (hr:=?_)|refine Zrk (hr:=?_)|refine ZxI TY (hr:=?_)|refine Zyz (hr:=?_)|refine Zop TY (hr:=?_)|refine ZpN (hr:=?_))|refine ZdS ?_|refine Zlq ?_|refine Zby ?_|refine Zb7 ?_|refine Zeg ?_|refine Zfq ?_|refine Zfr ?_|refine Zna ?_|refine Zef ?_|refine Zdj ?_|refine Zdk ?_|refine Zdl ?_|refine Zdm ?_|refine Zdn ?_|refine Zck ?_|refine ZeF ?_|refine ZfD ?_|refine ZfE ?_);exact hK.out):G:=h ⟨hK⟩
theorem Zul {K:Exit→Fr→Hp→Prop} {k off:Nat} {c:V} {fr:Fr} {h h' u:Hp} (hK:K .normal fr h') (hu:h'=u++h) (hq:∀ q∈u,q.1=k→Zp5 off c q.2):(fun e fr' h'=>K e fr' h'∧(e=.normal→∃ u,h'=u++h∧∀ q∈u,q.1=k→Zp5 off c q.2)) .normal fr h':=⟨hK,fun _=>⟨u,hu,hq⟩⟩
set_option maxRecDepth 100000
theorem Zos (w:World) (a b c d:Int):(Op.equal 31 (.agg #[.int .i64 a,.int .i64 b]) (.agg #[.int .i64 c,.int .i64 d])).run Tryz.prog w=.ok (decide ((⟨a,b⟩:Fault)=⟨c,d⟩)) w:=by
 unfold Op.equal
 rw[show Op.maxDepth=9998+1+1 from rfl]
 unfold Op.equalIn
 simp only[Sem.run_bind,run_underlying Tryz.underlying31,Result.andThen_ok]
 simp[Sem.run_bind,go_sem]
 by_cases h1:a=c <;> by_cases h2:b=d <;> simp[h1,h2]
theorem Znp:Tryz.prog.eqGuardType Tryz.prog.depth 31=false:=by kernel_rfl
theorem Zum (a b c d:Int):Zue Tryz.prog 31 (.agg #[.int .i64 a,.int .i64 b]) (.agg #[.int .i64 c,.int .i64 d]) (decide ((⟨a,b⟩:Fault)=⟨c,d⟩)):=fun w=>⟨Zos w a b c d,Znp⟩
end Go.Proofs.YtbpmepgnjanhnaaGreat
