import Derived.Test.YtbpmepgnjanhnaaGreatG1
set_option linter.unusedVariables false
set_option linter.unusedSimpArgs false
set_option linter.unusedSectionVars false
set_option maxRecDepth 100000
namespace Go.Proofs.YtbpmepgnjanhnaaGreat
variable {P:Program} {n:Nat} {dr:Bool} {ops:Array Oper} {rest:List Oper} {log:List Rec} {K:Exit→Fr→Hp→Prop} {fr:Fr}
open Go.RowKit
theorem wkr {G K:Prop} (hK:K) (h:Bx K→G:=by intro hK;(first|(refine gOp ?_;first|refine ZEx (hr:=?_)|refine ZBw (hr:=?_)|(refine Zsy ?_;first|refine ZEA TY (hr:=?_)|refine ZDm TY (hr:=?_)|refine ZDl TY (hr:=?_)|refine ZBx TY (hr:=?_))|(refine ZlF ?_;first|refine Zlp TY (hr:=?_)|refine Zqy TY (hr:=?_)|refine Zqz TY (hr:=?_))|(refine ZlG ?_;first|refine ZcO TY (hr:=?_)|refine Zco TY (hr:=?_))|(refine gBin ?_;first|refine ZFf (hr:=?_)|refine ZFc (hr:=?_)|refine ZFd (hr:=?_)|refine s_cat (hr:=?_)|refine s_eqS (hr:=?_)|refine s_neS (hr:=?_)|refine s_eqA (hr:=?_)|refine s_neA (hr:=?_)|refine s_eqB (hr:=?_)|refine s_neB (hr:=?_)|refine ZFe (hr:=?_)|refine d_or (hr:=?_)|refine ZE2 (hr:=?_)|refine ZE3 (hr:=?_)|refine ZE4 (hr:=?_)|refine ZE5 (hr:=?_)|refine ZE6 (hr:=?_))|(refine Zsz ?_;first|refine ZFk TY (hr:=?_)|refine s_lenS TY (hr:=?_)|refine ZFj TY (hr:=?_)|refine ZcL TY (hr:=?_)|refine ZE7 (hr:=?_)|refine ZE8 (hr:=?_))|(refine ZsA ?_;first|refine ZEy true (hr:=?_)|refine ZEy false (hr:=?_)|refine s_pickB (hr:=?_))|(refine gNil ?_;first|refine ZvE (hr:=?_)|refine s_nilCheckO (hr:=?_))|(refine ZlH ?_;first|refine ZDr TY (hr:=?_)|refine ZBy TY (hr:=?_))|(refine gUn ?_;first|refine ZFg (hr:=?_)|refine ZFh (hr:=?_))|refine ZFi (hr:=?_)|refine ZDp TY (hr:=?_)|refine ZqE TY (hr:=?_)|refine ZDq TY (hr:=?_)|refine ZyY (hr:=?_)|refine ZvF (hr:=?_)|refine ZDs TY (hr:=?_)|refine ZEv (hr:=?_)|refine Zsb TY (hr:=?_)|refine s_conv (hr:=?_))|refine Ze6 ?_|refine ZoN ?_|refine Zb2 ?_|refine ZcK ?_|refine ZfC ?_|refine Zg6 ?_|refine Zg7 ?_|refine ZfB ?_|refine Zel ?_|refine Zem ?_|refine Zen ?_|refine Zeo ?_|refine Zep ?_|refine ZcQ ?_|refine Zgf ?_|refine Zhj ?_|refine Zhk ?_);(repeat (first|(refine gOp ?_;first|refine ZEx (hr:=?_)|refine ZBw (hr:=?_)|(refine Zsy ?_;first|refine ZEA TY (hr:=?_)|refine ZDm TY (hr:=?_)|refine ZDl TY (hr:=?_)|refine ZBx TY (hr:=?_))|(refine ZlF ?_;first|refine Zlp TY (hr:=?_)|refine Zqy TY (hr:=?_)|refine Zqz TY (hr:=?_))|(refine ZlG ?_;first|refine ZcO TY (hr:=?_)|refine Zco TY (hr:=?_))|(refine gBin ?_;first|refine ZFf (hr:=?_)|refine ZFc (hr:=?_)|refine ZFd (hr:=?_)|refine s_cat (hr:=?_)|refine s_eqS (hr:=?_)|refine s_neS (hr:=?_)|refine s_eqA (hr:=?_)|refine s_neA (hr:=?_)|refine s_eqB (hr:=?_)|refine s_neB (hr:=?_)|refine ZFe (hr:=?_)|refine d_or (hr:=?_)|refine ZE2 (hr:=?_)|refine ZE3 (hr:=?_)|refine ZE4 (hr:=?_)|refine ZE5 (hr:=?_)|refine ZE6 (hr:=?_))|(refine Zsz ?_;first|refine ZFk TY (hr:=?_)|refine s_lenS TY (hr:=?_)|refine ZFj TY (hr:=?_)|refine ZcL TY (hr:=?_)|refine ZE7 (hr:=?_)|refine ZE8 (hr:=?_))|(refine ZsA ?_;first|refine ZEy true (hr:=?_)|refine ZEy false (hr:=?_)|refine s_pickB (hr:=?_))|(refine gNil ?_;first|refine ZvE (hr:=?_)|refine s_nilCheckO (hr:=?_))|(refine ZlH ?_;first|refine ZDr TY (hr:=?_)|refine ZBy TY (hr:=?_))|(refine gUn ?_;first|refine ZFg (hr:=?_)|refine ZFh (hr:=?_))|refine ZFi (hr:=?_)|refine ZDp TY (hr:=?_)|refine ZqE TY (hr:=?_)|refine ZDq TY (hr:=?_)|refine ZyY (hr:=?_)|refine ZvF (hr:=?_)|refine ZDs TY (hr:=?_)|refine ZEv (hr:=?_)|refine Zsb TY (hr:=?_)|refine s_conv (hr:=?_))|refine Ze6 ?_|refine ZoN ?_|refine Zb2 ?_|refine ZcK ?_|refine ZfC ?_|refine Zg6 ?_|refine Zg7 ?_|refine ZfB ?_|refine Zel ?_|refine Zem ?_|refine Zen ?_|refine Zeo ?_|refine Zep ?_|refine ZcQ ?_|refine Zgf ?_|refine Zhj ?_|refine Zhk ?_));exact hK.out):G:=h ⟨hK⟩
theorem ZxH:Zgs Tryz.prog 31 0 2 0:=Zoi Tryz.underlying31 rfl rfl rfl Tryz.underlying3 rfl
theorem ZxI:Zgs Tryz.prog 31 1 2 1:=Zoi Tryz.underlying31 rfl rfl rfl Tryz.underlying3 rfl
section
variable {h:Hp}
variable {d:Nat} {ty:TypeId} {pos:String} {after:Array Edge} {g:Option (Nat×Bool)}
theorem Zaa {x:Operand} {st f m fo:Nat} {v c:V} {cs:List V} (hdn:Nat.blt d n=true:=by exact rfl) (hg:gOk ops fr g:=by exact Vf) (hF:Zgs P st f m fo:=by first|exact ZxH|exact ZxI) (hx:oev fr x=v:=by exact Vu) (h1:ZaP x=true:=by exact rfl) (hv:Zym v=true:=by exact rfl) (hcs:v.cellsOf=some cs:=by exact rfl) (hm:cs.length=m:=by exact rfl) (hc:cs[fo]? = some c:=by exact rfl) (hr:dops P n dr ops rest (⟨(gIns ops g++ZaG x v).map Prod.fst,[d],[],[]⟩::log) K ((d,c)::fr) h):dops P n dr ops (⟨some d,.field st x f,ty,pos,after,g⟩::rest) log K fr h :=
 ZCY hdn hg hF hx h1 hv hcs hm hc hr
structure Vz (Q:Prop):Prop where out:Q
theorem VA {P Q:Prop} (q:Q) (k:Vz Q→P:=by intro q;(repeat (first|refine wk ?_|refine Zaa (hr:=?_)));exact q.out):P:=k ⟨q⟩
end
section
variable {P:Program} {n:Nat} {Q:Exit→Fr→Hp→Prop} {K:Exit→Fr→Hp→Prop} {fr:Fr} {h:Hp}
theorem ZxJ {id c d e st yt cty ty:Nat} {x:Operand} {t:Bool} {sz:Nat} {xs:List D} {pos1 pos2:String} {af1 af2:Array Edge} (hT:xs=[]→Q .normal ((d,B true)::(c,.d (.sl t sz xs))::fr) h) (hF:Q .normal ((d,B false)::(c,.d (.sl t sz xs))::fr) h) (hu:Tryz.prog.underlying st=some (.slice e)) (hcn:Nat.blt c n=true:=by exact rfl) (hdn:Nat.blt d n=true:=by exact rfl) (hx:oev fr x=.d (.sl t sz xs):=by exact rfl) :
  aw Tryz.prog n (.region id #[⟨some c,.move x,cty,pos1,af1,none⟩,⟨some d,.binOp .eql st (.tmp c) (.const (.slice none 0 0)) yt,ty,pos2,af2,none⟩] false) Q fr h:=ZBD hcn hdn hx hu hT hF
theorem finx {G:Prop} (h:G:=by (try refine Fin.norm ?_);first|exact Fin.r1 rfl (.of_tmp rfl) (ZEC (by first|exact rfl|(simp;done)|omega|assumption|exact e|(simp[e];done))) Vc Vr|exact Fin.r1 rfl (.of_tmp rfl) Vo Vc Vr|exact Fin.r0 rfl Vc Vr):G:=h
theorem fin2 {G:Prop} (h:G:=by (try refine Fin.norm ?_);exact Fin.r2 rfl (.aggT TY rfl rfl rfl rfl rfl) (.aggT TY rfl rfl rfl rfl rfl) (Co.tup Vl) Vc rfl):G:=h
end
section
variable {G:Ctx} {E:Env} {fr:Fr} {h:Hp} {a:Act} {w:World}
theorem An.takeOver (C:An G E fr h a w) {k k':Nat} {e sz:Nat} {xs xs':List D} {v':Value} (hk:Ah h k=some (.row e sz xs)) (hk':Ah h k'=none) (hlow:k' < 1000)
  (hr:∀ M,RowAt M w e sz (E.row k) xs→RowAt M w e sz v' xs') (hb:∀ b,obOf v'=some b→obOf (E.row k)=some b) :
  An G ⟨E.blk,fun j=>if j=k' then v' else E.row j,E.fp⟩ fr ((k',.row e sz xs')::(k,.dead xs.length)::h) a w:=by
 have hne:k≠k':=by rintro rfl;rw[hk] at hk';cases hk'
 have hg1:Ah ((k',.row e sz xs')::(k,.dead xs.length)::h) k'=some (.row e sz xs'):=Zai _ _ _;have hg2:Ah ((k',.row e sz xs')::(k,.dead xs.length)::h) k=some (.dead xs.length):=by rw[Zar _ _ hne.symm,Zai]
 have hg3:∀ j,j≠k→j≠k'→Ah ((k',.row e sz xs')::(k,.dead xs.length)::h) j=Ah h j:=fun j h1 h2=>by rw[Zar _ _ h2.symm,Zar _ _ h1.symm]
 generalize ((k',.row e sz xs')::(k,.dead xs.length)::h:Hp)=h2 at hg1 hg2 hg3 ⊢;have hmono:∀ j,(Ah h j).isSome=true→(Ah h2 j).isSome=true:=fun j hj=>by
  by_cases e1:j=k
  ·subst e1;rw[hg2];rfl
  ·by_cases e2:j=k'
   ·subst e2;rw[hg1];rfl
   ·rw[hg3 j e1 e2];exact hj
 have hblk:∀ j b,Ai ⟨E.blk,fun j=>if j=k' then v' else E.row j,E.fp⟩ h2 j b→(j=k'∧Ai E h k b)∨(j≠k∧j≠k'∧Ai E h j b):=fun j b hj=>by
  by_cases e2:j=k'
  ·subst e2;refine .inl ⟨rfl,?_⟩;unfold Ai at hj ⊢;rw[hg1] at hj;rw[hk];exact hb b (by simpa using hj)
  ·by_cases e1:j=k
   ·subst e1;unfold Ai at hj;rw[hg2] at hj;cases hj
   ·refine .inr ⟨e1,e2,?_⟩;unfold Ai at hj ⊢;rw[hg3 j e1 e2] at hj;simpa[e2] using hj
 have hlive:∀ b,Live ⟨E.blk,fun j=>if j=k' then v' else E.row j,E.fp⟩ h2 b→Live E h b:=fun b ⟨j,hj⟩=>by
  rcases hblk j b hj with ⟨_,h1⟩|⟨_,_,h1⟩
  ·exact⟨k,h1⟩
  ·exact⟨j,h1⟩
 have T:Trans E h (bars E h G.o) w ⟨E.blk,fun j=>if j=k' then v' else E.row j,E.fp⟩ h2 (bars ⟨E.blk,fun j=>if j=k' then v' else E.row j,E.fp⟩ h2 G.o) w:=by
  refine⟨fun _ _ _=>rfl,fun j _ m hv=>?_,fun j hj s n hv=>?_,fun t b _ hm=>⟨rfl,?_⟩,Hg _⟩
  ·by_cases e1:j=k
   ·subst e1;refine⟨m,.inr (.inr (.inl ?_)),Hg _,fun _=>by simp[hne]⟩;rw[hg2];rcases hv with ⟨_,_,_,h1,h2⟩|⟨_,_,h1,_⟩|h1|⟨_,_,_,_,h1,_⟩ <;> rw[hk] at h1 <;> cases h1
    rw[h2]
   ·by_cases e2:j=k'
    ·subst e2;exfalso;rcases hv with ⟨_,_,_,h1,_⟩|⟨_,_,h1,_⟩|h1|⟨_,_,_,_,h1,_⟩ <;> rw[hk'] at h1 <;> cases h1
    ·exact⟨m,by unfold verAny;rw[hg3 j e1 e2];exact hv,Hg _,fun _=>by simp[e2]⟩
  ·by_cases e1:j=k
   ·subst e1;rcases hv with ⟨_,_,h1,_⟩|⟨_,_,_,_,h1,_⟩ <;> (rw[hg2] at h1;cases h1)
   ·by_cases e2:j=k'
    ·subst e2;rw[hk'] at hj;cases hj
    ·exact⟨n,by unfold verRow at hv ⊢;rw[hg3 j e1 e2] at hv;exact hv⟩
  ·rintro (hl|ho)
   ·exact hm (.inl (hlive b hl))
   ·exact hm (.inr ho)
 refine⟨C.size,C.defers,fun i=>(C.frame i).move T (C.closed i) (fun j hj=>hmono j (C.closed i j hj)),⟨fun j ob hj=>?_,fun j j' b h1 h2=>?_,fun j ob hj i hi=>?_⟩,fun i j hj=>hmono j (C.closed i j hj),C.ext,fun j b hj=>?_,fun j hj hs=>?_,C.outer,C.sub⟩
 ·by_cases e2:j=k'
  ·subst e2;rw[hg1] at hj;cases hj;simp only[ObRep,if_true];have:=C.heap.obs k _ hk;simp only[ObRep] at this;exact hr _ (this.move T.carry (fun _ _=>rfl))
  ·by_cases e1:j=k
   ·subst e1;rw[hg2] at hj;cases hj;trivial
   ·rw[hg3 j e1 e2] at hj;have hr':=C.heap.obs j _ hj;exact hr'.move T hj rfl (by simp only[Ha e2]) rfl (fun _ _=>rfl) (C.heap.closed j _ hj) (fun i hi=>hmono i (C.heap.closed j _ hj i hi))
 ·rcases hblk j b h1 with ⟨rfl,a1⟩|⟨n1,n2,a1⟩ <;> rcases hblk j' b h2 with ⟨rfl,a2⟩|⟨n3,n4,a2⟩
  ·rfl
  ·exact absurd (C.heap.apart k j' b a1 a2) (Ne.symm n3)
  ·exact absurd (C.heap.apart j k b a1 a2) n1
  ·exact C.heap.apart j j' b a1 a2
 ·by_cases e2:j=k'
  ·subst e2;rw[hg1] at hj;cases hj;simp[Ob.keys] at hi
  ·by_cases e1:j=k
   ·subst e1;rw[hg2] at hj;cases hj;simp[Ob.keys] at hi
   ·rw[hg3 j e1 e2] at hj;exact hmono i (C.heap.closed j _ hj i hi)
 ·rcases hblk j b hj with ⟨_,h1⟩|⟨_,_,h1⟩
  ·exact C.fresh k b h1
  ·exact C.fresh j b h1
 ·have e2:j≠k':=by omega
  have hold:(Ah h j).isSome=true:=by
   by_cases e1:j=k
   ·subst e1;rw[hk];rfl
   ·rw[hg3 j e1 e2] at hs;exact hs
  obtain⟨g0,g1,g2,g3⟩:=C.keep j hj hold;refine⟨g0,g1,fun m hm=>?_,fun s n hv=>?_⟩
  ·obtain⟨m1,k1,k2,k3⟩:=g2 m hm;obtain⟨m2,l1,l2,l3⟩:=T.ver j (hmono j hold) m1 k1;exact⟨m2,l1,by omega,fun e=>(l3 (by omega)).trans (k3 (by omega))⟩
  ·obtain⟨m,hm⟩:=T.verR j hold s n hv;exact g3 s m hm
end
section
variable {P:Program} {n:Nat} {Q:Exit→Fr→Hp→Prop} {fr:Fr} {h:Hp}
theorem ZEY {c:Code} (i k':Nat) {k m e sz:Nat} {xs:List D} (hi:fget fr i=.own k m) (hk:Ah h k=some (.row e sz xs)) (hm:xs.length=m) (hk':Ah h k'=none) (hlow:Nat.blt k' 1000=true)
  (hc:aw P n c Q ((i,.own k' m)::fr) ((k',.row e sz xs)::(k,.dead m)::h)):aw P n c Q fr h:=by
 intro G E a w hn C;subst hm;have hne:k≠k':=by rintro rfl;rw[hk] at hk';cases hk'
 have C':=C.takeOver (v':=E.row k) (xs':=xs) hk hk' (by simpa[HU] using hlow) (fun _ h=>h) (fun _ h=>h);refine hc G _ a w hn ⟨C'.size,C'.defers,fun j=>?_,C'.heap,fun j=>?_,C'.ext,C'.fresh,C'.keep,C'.outer,C'.sub⟩
 ·by_cases e1:i=j
  ·subst e1;rw[Zbc];have hf:=C.frame i;rw[hi] at hf;simp only[V.Rep] at hf ⊢;obtain⟨m,h1,h2,h3,h4⟩:=hf;have:=Za9 h1 (.inl ⟨_,_,_,hk,rfl⟩);exact⟨xs.length,.inl ⟨_,_,_,Zai _ _ _,rfl⟩,Hg _,h3,fun _=>by simp only[if_true];exact h4 this.symm⟩
  ·rw[Za8 _ _ e1];exact C'.frame j
 ·by_cases e1:i=j
  ·subst e1;rw[Zbc];intro q hq;simp[V.keys] at hq;subst hq;rw[Zai];rfl
  ·rw[Za8 _ _ e1];exact C'.closed j
end
section
variable {h:Hp}
variable {d:Nat} {ty:TypeId} {pos:String} {after:Array Edge} {g:Option (Nat×Bool)}
variable (T:TT P)
end
section
variable {h:Hp}
variable {ty:TypeId} {pos:String} {after:Array Edge}
theorem LStep.skipU {PS:List PanicEntry→Fr→Hp→Prop} {o:Oper} {j:Nat} {want:Bool} {s:Nat} {v:V} (hd:∀ d,o.dst=some d→Nat.blt d n=true) (hg:o.guard=some (j,want)) (hs:(ops[j]?).bind (·.dst)=some s) (hv:v=.tup []∨v=B !want):LStep P n ops PS o [(s,v)] [] (.tup []) []:=by
 intro G E fr' h' a w K Q hPan hn C hi _ hK;have hf:=C.frame s;rw[hi (s,v) (by simp)] at hf;have hw:¬ Region.wanted o (yielded ops a.tmps)=true:=by
  unfold Region.wanted yielded;rw[hg];simp only[hs,Jl];rcases hv with rfl|rfl
  ·simp only[V.Rep] at hf;obtain⟨us,h1,h2⟩:=hf;simp only[V.Reps] at h2;subst h2;simp only[Jd] at h1;cases hb:a.tmps[s]? with
   | none=>simp
   | some u=>rw[hb] at h1;simp at h1;subst h1;simp
  ·simp only[V.Rep,D.RepV,D.Rep,Hz,HA] at hf;have:=hf.1;simp only[Jd] at this;cases hb:a.tmps[s]? with
   | none=>simp
   | some u=>rw[hb] at this;simp at this;subst this;cases want <;> simp
 unfold wpS;rw[Ha hw];refine hK E _ w ?_;cases hdd:o.dst with
 | none=>exact C
 | some d=>exact C.put (by rw[hn];simpa[HU] using hd d hdd) (by simp only[V.Rep];exact⟨[],rfl,by simp[V.Reps]⟩) (by simp[V.keys,V.keyss])
theorem ZxK {dst:Option Tmp} {op:Op} {j:Nat} {want:Bool} {s:Nat} {b:Bool} (hs:(ops[j]?).bind (·.dst)=some s:=by exact rfl) (hb:fget fr s=.d (.raw (.bool b)):=by exact rfl) (hbw:b=!want:=by exact Vh) (hd:∀ d,dst=some d→Nat.blt d n=true:=by simp) (hr:dops P n dr ops rest (⟨[s],dst.toList,[],[]⟩::log) K (dput dst (.tup []) fr) h):dops P n dr ops (⟨dst,op,ty,pos,after,some (j,want)⟩::rest) log K fr h :=
 ZaA (ins:=[(s,.d (.raw (.bool !want)))]) (objs:=[]) (LStep.skipU hd rfl hs (.inr rfl)) (by simp;rw[hb,hbw]) (by simp) hr
theorem ZxL {dst:Option Tmp} {op:Op} {j:Nat} {want:Bool} {s:Nat} (hs:(ops[j]?).bind (·.dst)=some s:=by exact rfl) (hb:fget fr s=.tup []:=by exact rfl) (hd:∀ d,dst=some d→Nat.blt d n=true:=by simp) (hr:dops P n dr ops rest (⟨[s],dst.toList,[],[]⟩::log) K (dput dst (.tup []) fr) h):dops P n dr ops (⟨dst,op,ty,pos,after,some (j,want)⟩::rest) log K fr h :=
 ZaA (ins:=[(s,.tup [])]) (objs:=[]) (LStep.skipU hd rfl hs (.inl rfl)) (by simp;rw[hb]) (by simp) hr
end
theorem wkz {G K:Prop} (hK:K) (h:Bx K→G:=by intro hK;(first|(refine gOp ?_;first|refine ZEx (hr:=?_)|refine ZBw (hr:=?_)|(refine Zsy ?_;first|refine ZEA TY (hr:=?_)|refine ZDm TY (hr:=?_)|refine ZDl TY (hr:=?_)|refine ZBx TY (hr:=?_))|(refine ZlF ?_;first|refine Zlp TY (hr:=?_)|refine Zqy TY (hr:=?_)|refine Zqz TY (hr:=?_))|(refine ZlG ?_;first|refine ZcO TY (hr:=?_)|refine Zco TY (hr:=?_))|(refine gBin ?_;first|refine ZFf (hr:=?_)|refine ZFc (hr:=?_)|refine ZFd (hr:=?_)|refine s_cat (hr:=?_)|refine s_eqS (hr:=?_)|refine s_neS (hr:=?_)|refine s_eqA (hr:=?_)|refine s_neA (hr:=?_)|refine s_eqB (hr:=?_)|refine s_neB (hr:=?_)|refine ZFe (hr:=?_)|refine d_or (hr:=?_)|refine ZE2 (hr:=?_)|refine ZE3 (hr:=?_)|refine ZE4 (hr:=?_)|refine ZE5 (hr:=?_)|refine ZE6 (hr:=?_))|(refine Zsz ?_;first|refine ZFk TY (hr:=?_)|refine s_lenS TY (hr:=?_)|refine ZFj TY (hr:=?_)|refine ZcL TY (hr:=?_)|refine ZE7 (hr:=?_)|refine ZE8 (hr:=?_))|(refine ZsA ?_;first|refine ZEy true (hr:=?_)|refine ZEy false (hr:=?_)|refine s_pickB (hr:=?_))|(refine gNil ?_;first|refine ZvE (hr:=?_)|refine s_nilCheckO (hr:=?_))|(refine ZlH ?_;first|refine ZDr TY (hr:=?_)|refine ZBy TY (hr:=?_))|(refine gUn ?_;first|refine ZFg (hr:=?_)|refine ZFh (hr:=?_))|refine ZFi (hr:=?_)|refine ZDp TY (hr:=?_)|refine ZqE TY (hr:=?_)|refine ZDq TY (hr:=?_)|refine ZyY (hr:=?_)|refine ZvF (hr:=?_)|refine ZDs TY (hr:=?_)|refine ZxK (hr:=?_)|refine ZxL (hr:=?_)|refine Zsb TY (hr:=?_)|refine s_conv (hr:=?_))|refine Ze6 ?_|refine ZoN ?_|refine Zb2 ?_|refine ZcK ?_|refine ZfC ?_|refine Zg6 ?_|refine Zg7 ?_|refine Zqw ?_|refine ZfB ?_|refine Zel ?_|refine Zem ?_|refine Zen ?_|refine Zeo ?_|refine Zep ?_|refine ZcQ ?_|refine Zgf ?_|refine Zhj ?_|refine Zhk ?_);(repeat (first|(refine gOp ?_;first|refine ZEx (hr:=?_)|refine ZBw (hr:=?_)|(refine Zsy ?_;first|refine ZEA TY (hr:=?_)|refine ZDm TY (hr:=?_)|refine ZDl TY (hr:=?_)|refine ZBx TY (hr:=?_))|(refine ZlF ?_;first|refine Zlp TY (hr:=?_)|refine Zqy TY (hr:=?_)|refine Zqz TY (hr:=?_))|(refine ZlG ?_;first|refine ZcO TY (hr:=?_)|refine Zco TY (hr:=?_))|(refine gBin ?_;first|refine ZFf (hr:=?_)|refine ZFc (hr:=?_)|refine ZFd (hr:=?_)|refine s_cat (hr:=?_)|refine s_eqS (hr:=?_)|refine s_neS (hr:=?_)|refine s_eqA (hr:=?_)|refine s_neA (hr:=?_)|refine s_eqB (hr:=?_)|refine s_neB (hr:=?_)|refine ZFe (hr:=?_)|refine d_or (hr:=?_)|refine ZE2 (hr:=?_)|refine ZE3 (hr:=?_)|refine ZE4 (hr:=?_)|refine ZE5 (hr:=?_)|refine ZE6 (hr:=?_))|(refine Zsz ?_;first|refine ZFk TY (hr:=?_)|refine s_lenS TY (hr:=?_)|refine ZFj TY (hr:=?_)|refine ZcL TY (hr:=?_)|refine ZE7 (hr:=?_)|refine ZE8 (hr:=?_))|(refine ZsA ?_;first|refine ZEy true (hr:=?_)|refine ZEy false (hr:=?_)|refine s_pickB (hr:=?_))|(refine gNil ?_;first|refine ZvE (hr:=?_)|refine s_nilCheckO (hr:=?_))|(refine ZlH ?_;first|refine ZDr TY (hr:=?_)|refine ZBy TY (hr:=?_))|(refine gUn ?_;first|refine ZFg (hr:=?_)|refine ZFh (hr:=?_))|refine ZFi (hr:=?_)|refine ZDp TY (hr:=?_)|refine ZqE TY (hr:=?_)|refine ZDq TY (hr:=?_)|refine ZyY (hr:=?_)|refine ZvF (hr:=?_)|refine ZDs TY (hr:=?_)|refine ZxK (hr:=?_)|refine ZxL (hr:=?_)|refine Zsb TY (hr:=?_)|refine s_conv (hr:=?_))|refine Ze6 ?_|refine ZoN ?_|refine Zb2 ?_|refine ZcK ?_|refine ZfC ?_|refine Zg6 ?_|refine Zg7 ?_|refine Zqw ?_|refine ZfB ?_|refine Zel ?_|refine Zem ?_|refine Zen ?_|refine Zeo ?_|refine Zep ?_|refine ZcQ ?_|refine Zgf ?_|refine Zhj ?_|refine Zhk ?_));exact hK.out):G:=h ⟨hK⟩
def Ztn (off:Nat) (c:V) (ob:Ob):Prop:=∃ bt cs,ob=.box bt cs∧cs[off]? = some c
section
variable {P:Program} {n:Nat} {ops:Array Oper} {K:Exit→Fr→Hp→Prop} {dr:Bool} {rest:List Oper} {log:List Rec} {fr:Fr} {h:Hp} {d:Nat} {ty:TypeId} {pos:String} {after:Array Edge} {g:Option (Nat×Bool)}
variable (T:TT P)
theorem ZxM {x:Operand} {t:TypeId} {y:Ty} {k off:Nat} {bt:TypeId} {cs:List V} {c:V} (hdn:Nat.blt d n=true) (hg:gOk ops fr g) (hx:oev fr x=.ptr k off) (hk:Ah h k=some (.box bt cs)) (ht:T.rows[t]? = some y) (hrow:y.row=false) (hc:cs[off]? = some c) (hlog:(log.all fun r=>r.wk.all fun j=>!Nat.beq j k)=true)
  (hr:dops P n dr ops rest (⟨(gIns ops g++ZaG x (.ptr k off)).map Prod.fst,[d],[],[]⟩::log) (fun e fr' h'=>K e fr' h'∧(e=.normal→∃ u,h'=u++h∧∀ q∈u,q.1=k→Ztn off c q.2)) ((d,c)::fr) h):dops P n dr ops (⟨some d,.load t x,ty,pos,after,g⟩::rest) log K fr h:=by
 refine .inr ⟨gIns ops g++ZaG x (.ptr k off),k,Ztn off c,c,?_,fun p hp=>?_,⟨_,hk,bt,cs,rfl,hc⟩,fun r hr hm=>?_,hr⟩
 ·intro G E fr' h' a w K Q hPan hn C hi ho hK;obtain⟨ob,hk',bt',cs',rfl,hc'⟩:=ho;have hgo:gOk ops fr' g:=Zh5 hg (fun p hp=>hi p (List.mem_append.2 (.inl hp)));obtain⟨r,_⟩:=C.oev (ZcE hx (fun p hp=>hi p (List.mem_append.2 (.inr hp)))) (Zao (Zap hx rfl));simp only[V.Rep] at r;obtain⟨us,g1,g2,_⟩:=C.heap.obs k _ hk';obtain⟨u,q1,q2⟩:=g2.get hc';obtain⟨_,ds,_,h2,_,_,h5,_⟩:=ZaH (T.at ht);have hl:=ZeQ (P:=P) h2 (by rw[h5];exact hrow) (w:=w) (b:=E.blk k) (o:=off) (u:=u) (by rw[cell_of_row w _ off _ bt' _ g1];simpa using q1);unfold wpS;rw[Hb (Zcs C hgo)];refine .inl ?_;unfold Oper.wp;have he:(execOp a.eval ⟨some d,.load t x,ty,pos,after,g⟩).run P w=.ok (.value u) w:=by
   simp only[execOp,r,Sem.run_bind,hl,Result.andThen_ok,Sem.run_pure]
  rw[he];simp only[Oper.upon];refine hK E _ w ?_;exact C.put (by rw[hn];simpa[HU] using hdn) q2 (fun j hj=>C.heap.closed k _ hk' j (by simp only[Ob.keys];exact V.keyss_mem.2 ⟨c,Jo hc',hj⟩))
 ·rcases List.mem_append.1 hp with hp|hp
  ·exact ZdL hg p hp
  ·exact ZbN hx p hp
 ·rw[HR] at hlog;have h1:=hlog r hr;rw[HR] at h1;have h2:=h1 k hm;rw[Gt] at h2;cases h2
end
theorem wk1 {G K:Prop} (hK:K) (h:Bx K→G:=by intro hK;(first|(refine gOp ?_;first|refine ZEx (hr:=?_)|refine ZBw (hr:=?_)|(refine Zsy ?_;first|refine ZEA TY (hr:=?_)|refine ZDm TY (hr:=?_)|refine ZDl TY (hr:=?_)|refine ZBx TY (hr:=?_))|(refine ZlF ?_;first|refine Zlp TY (hr:=?_)|refine Zqy TY (hr:=?_)|refine Zqz TY (hr:=?_))|(refine ZlG ?_;first|refine ZcO TY (hr:=?_)|refine Zco TY (hr:=?_))|(refine gBin ?_;first|refine ZFf (hr:=?_)|refine ZFc (hr:=?_)|refine ZFd (hr:=?_)|refine s_cat (hr:=?_)|refine s_eqS (hr:=?_)|refine s_neS (hr:=?_)|refine s_eqA (hr:=?_)|refine s_neA (hr:=?_)|refine s_eqB (hr:=?_)|refine s_neB (hr:=?_)|refine ZFe (hr:=?_)|refine d_or (hr:=?_)|refine ZE2 (hr:=?_)|refine ZE3 (hr:=?_)|refine ZE4 (hr:=?_)|refine ZE5 (hr:=?_)|refine ZE6 (hr:=?_))|(refine Zsz ?_;first|refine ZFk TY (hr:=?_)|refine s_lenS TY (hr:=?_)|refine ZFj TY (hr:=?_)|refine ZcL TY (hr:=?_)|refine ZE7 (hr:=?_)|refine ZE8 (hr:=?_))|(refine ZsA ?_;first|refine ZEy true (hr:=?_)|refine ZEy false (hr:=?_)|refine s_pickB (hr:=?_))|(refine gNil ?_;first|refine ZvE (hr:=?_)|refine s_nilCheckO (hr:=?_))|(refine ZlH ?_;first|refine ZDr TY (hr:=?_)|refine ZBy TY (hr:=?_))|(refine gUn ?_;first|refine ZFg (hr:=?_)|refine ZFh (hr:=?_))|refine ZFi (hr:=?_)|refine ZDp TY (hr:=?_)|refine ZqE TY (hr:=?_)|refine ZDq TY (hr:=?_)|refine ZyY (hr:=?_)|refine ZvF (hr:=?_)|refine ZDs TY (hr:=?_)|refine ZEv (hr:=?_)|refine Zsb TY (hr:=?_)|refine s_conv (hr:=?_))|refine Ze6 ?_|refine ZoN ?_|refine Zb2 ?_|refine ZcK ?_|refine ZfC ?_|refine Zg6 ?_|refine Zg7 ?_|refine Zqw ?_|refine ZfB ?_|refine Zel ?_|refine Zem ?_|refine Zen ?_|refine Zeo ?_|refine Zep ?_|refine ZcQ ?_|refine Zgf ?_|refine Zhj ?_|refine Zhk ?_);exact hK.out):G:=h ⟨hK⟩
theorem ZxN {K:Exit→Fr→Hp→Prop} {k off:Nat} {c:V} {fr:Fr} {h h' u:Hp} (hK:K .normal fr h') (hu:h'=u++h) (hq:∀ q∈u,q.1=k→Ztn off c q.2):(fun e fr' h'=>K e fr' h'∧(e=.normal→∃ u,h'=u++h∧∀ q∈u,q.1=k→Ztn off c q.2)) .normal fr h':=⟨hK,fun _=>⟨u,hu,hq⟩⟩
abbrev nilT:D:=.raw (.slice none 0 0)
theorem ZcA {t:Bool} {xs:List Int} (hl:xs.length≤100000000:=by exact Vm) :
  Af Tryz.prog 52 [.d (ints t xs)] [] (.own 5 xs.length) [(5,.row 3 1 (xs.map iD))]:=by
 refine Af.intro (n:=8) Tryz.func52 (hw:=?_);simp only[Zal];refine Ze6 ?_;refine ZoN ?_;refine ZBw (hr:=?_);refine ZcK ?_;refine Zb2 ?_;refine Ze6 ?_;refine Ze6 ?_;refine ZxJ ?_ ?_ ZDv
 ·intro hx;have hx':xs=[]:=by simpa using hx
  subst hx';repeat (first|refine wkr ?_|refine Zaa (hr:=?_))
  refine ZbB 2 5 3 1 rfl rfl rfl ?_;refine VA ?_;exact fin
 ·refine VA ?_;exact finx
theorem Tree.eta (x:Tree):x=.mk x.rule x.Ab:=by cases x;rfl
theorem Tree.lt {x y:Tree} (h:y∈x.Ab):SizeOf.sizeOf y < SizeOf.sizeOf x:=by
 cases x with
 | mk r k =>
  simp only[Tree.Ab] at h;have:=List.sizeOf_lt_of_mem h;simp;omega
theorem Tree.ind {P:Tree→Prop} (h:∀ x,(∀ y∈x.Ab,P y)→P x):∀ x,P x:=by
 have key:∀ (n:Nat) (x:Tree),SizeOf.sizeOf x < n→P x:=by
  intro n
  induction n with
  | zero=>intro x hx;omega
  | succ n ih=>exact fun x hx=>h x (fun y hy=>ih y (by have:=Tree.lt hy;omega))
 exact fun x=>key _ x (Gk _)
mutual
def cnt:Tree→Nat
 | .mk _ k=>1+cnts k
def cnts:List Tree→Nat
 | []=>0
 | x::r=>cnt x+cnts r
end
theorem ZcB (x:Tree):cnt x=1+cnts x.Ab:=by cases x;rfl
theorem Zf0 (x:Tree):1≤cnt x:=by rw[ZcB];omega
theorem ZaK:∀ (a b:List Tree),cnts (a++b)=cnts a+cnts b
 | [],b=>by simp[cnts]
 | x::a,b=>by simp only[Hv,cnts,ZaK a b];omega
theorem Zbn {x:Tree}:∀ {l:List Tree},x∈l→cnt x≤cnts l
 | y::l,h=>by
  simp only[cnts];rcases List.mem_cons.1 h with rfl|h
  ·omega
  ·have:=Zbn h;omega
theorem Zcb:∀ (l:List Tree),l.length≤cnts l
 | []=>by simp
 | x::l=>by have:=Zcb l;have:=Zf0 x;simp only[Hl,cnts];omega
theorem ZpZ {l:List Tree} {i:Nat} (h:i < l.length):cnts (l.drop i)=cnt l[i]+cnts (l.drop (i+1)):=by
 rw[Hw h,cnts]
theorem ZkX {l:List Tree} {i:Nat} (h:i < l.length):cnts (l.take (i+1))=cnts (l.take i)+cnt l[i]:=by
 rw[HD h,ZaK];simp[cnts]
def ZgD (l:Int) (n:Nat):Int:=if (n:Int)≤l then l - n else -1
mutual
def fits (g:Ac):Tree→Int→Bool
 | .mk r k,v=>match (if 0≤r then g.Aa[r.toNat]? else none) with
  | none=>false
  | some ru=>decide (ru.left=v) && (decide ((Ab ru.right).length=k.length) && fitss g k (Ab ru.right))
def fitss (g:Ac):List Tree→List Int→Bool
 | x::k,v::vs=>fits g x v && fitss g k vs
 | _,_=>true
end
theorem Zf1 (g:Ac) (x:Tree) (v:Int):fits g x v=match (if 0≤x.rule then g.Aa[x.rule.toNat]? else none) with
  | none=>false
  | some ru=>decide (ru.left=v) && (decide ((Ab ru.right).length=x.Ab.length) && fitss g x.Ab (Ab ru.right)):=by cases x;rw[fits];rfl
theorem Zu8 {g:Ac} {k:List Tree} {vs:List Int} {i:Nat} (h1:i < k.length) (h2:i < vs.length):fitss g (k.drop i) (vs.drop i)=(fits g k[i] vs[i] && fitss g (k.drop (i+1)) (vs.drop (i+1))):=by
 rw[Hw h1,Hw h2,fitss]
theorem ZxO {g:Ac} {k:List Tree} {vs:List Int} {i:Nat} (h1:¬ i < k.length):fitss g (k.drop i) (vs.drop i)=true:=by
 rw[HL (by omega)];simp[fitss]
mutual
def Zbo (g:Ac):Tree→List Int
 | .mk r k=>wordL g ((g.Aa[r.toNat]?).getD ⟨0,[]⟩).right k
 termination_by x=>(cnt x,0)
 decreasing_by simp[cnt,Prod.lex_def]
def wordL (g:Ac):List Int→List Tree→List Int
 | [],_=>[]
 | s::ss,k=>if s < 0 then (-1 - s)::wordL g ss k else match k with
  | x::k=>Zbo g x++wordL g ss k
  | []=>wordL g ss []
 termination_by ss k=>(cnts k,ss.length+1)
 decreasing_by all_goals (simp[cnts,Prod.lex_def];try omega)
end
mutual
def ordT:Tree→Tree→Int
 | .mk r k,.mk s l=>if r < s then -1 else if s < r then 1 else ordL k l
def ordL:List Tree→List Tree→Int
 | [],[]=>0
 | [],_::_ => -1
 | _::_,[]=>1
 | a::k,b::l=>if ordT a b=0 then ordL k l else ordT a b
end
theorem ZxP (a b:Tree):ordT a b=if a.rule < b.rule then -1 else if b.rule < a.rule then 1 else ordL a.Ab b.Ab:=by cases a;cases b;rw[ordT];rfl
theorem Zp0 {k l:List Tree} {i:Nat} (h1:i < k.length) (h2:i < l.length):ordL (k.drop i) (l.drop i)=if ordT k[i] l[i]=0 then ordL (k.drop (i+1)) (l.drop (i+1)) else ordT k[i] l[i]:=by
 rw[Hw h1,Hw h2,ordL]
theorem ZxQ {k l:List Tree} {i:Nat} (h1:¬ i < k.length) (h2:i < l.length):ordL (k.drop i) (l.drop i) = -1:=by
 rw[HL (by omega),Hw h2,ordL]
theorem ZxR {k l:List Tree} {i:Nat} (h1:i < k.length) (h2:¬ i < l.length):ordL (k.drop i) (l.drop i)=1:=by
 rw[Hw h1,HL (show l.length≤i by omega),ordL]
theorem Zto {k l:List Tree} {i:Nat} (h1:¬ i < k.length) (h2:¬ i < l.length):ordL (k.drop i) (l.drop i)=0:=by
 rw[HL (by omega),HL (by omega),ordL]
mutual
theorem ZdU:∀ (a b:Tree),ordT b a = -ordT a b
 | .mk r k,.mk s l=>by
  have:=Ztp k l;rw[ordT,ordT];by_cases h1:r < s
  ·have h2:¬ s < r:=by omega
   simp[h1,h2]
  ·by_cases h2:s < r
   ·simp[h1,h2]
   ·simp[h1,h2,this]
theorem Ztp:∀ (a b:List Tree),ordL b a = -ordL a b
 | [],[]=>by simp[ordL]
 | [],_::_=>by simp[ordL]
 | _::_,[]=>by simp[ordL]
 | a::k,b::l=>by
  have h1:=ZdU a b;have h2:=Ztp k l;rw[ordL,ordL,h1,h2];by_cases h:ordT a b=0
  ·rw[Hb h,Hb (by omega)]
  ·rw[Ha h,Ha (by omega)]
end
mutual
theorem ZkY:∀ (a:Tree),ordT a a=0
 | .mk r k=>by rw[ordT,Ha (by omega),Ha (by omega)];exact Zp1 k
theorem Zp1:∀ (a:List Tree),ordL a a=0
 | []=>by simp[ordL]
 | a::k=>by rw[ordL,ZkY a,Hb rfl];exact Zp1 k
end
mutual
theorem Ze4:∀ (a b:Tree),ordT a b=0→a=b
 | .mk r k,.mk s l,h=>by
  rw[ordT] at h;by_cases h1:r < s
  ·rw[Hb h1] at h;cases h
  ·by_cases h2:s < r
   ·rw[Ha h1,Hb h2] at h;cases h
   ·rw[Ha h1,Ha h2] at h;obtain rfl:r=s:=(by omega);rw[Zp2 k l h]
theorem Zp2:∀ (a b:List Tree),ordL a b=0→a=b
 | [],[],_=>rfl
 | [],_::_,h=>by simp[ordL] at h
 | _::_,[],h=>by simp[ordL] at h
 | a::k,b::l,h=>by
  rw[ordL] at h;by_cases h1:ordT a b=0
  ·rw[Hb h1] at h;rw[Ze4 a b h1,Zp2 k l h]
  ·rw[Ha h1] at h;exact absurd h h1
end
mutual
theorem Zgo:∀ (a b c:Tree),ordT a b≤0→ordT b c≤0→ordT a c≤0
 | .mk r k,.mk s l,.mk q m,h1,h2=>by
  rw[ordT] at h1 h2 ⊢;by_cases a1:r < s
  ·by_cases b1:s < q
   ·rw[Hb (by omega)];decide
   ·by_cases b2:q < s
    ·rw[Ha b1,Hb b2] at h2;omega
    ·rw[Hb (by omega)];decide
  ·by_cases a2:s < r
   ·rw[Ha a1,Hb a2] at h1;omega
   ·rw[Ha a1,Ha a2] at h1;by_cases b1:s < q
    ·rw[Hb (by omega)];decide
    ·by_cases b2:q < s
     ·rw[Ha b1,Hb b2] at h2;omega
     ·rw[Ha b1,Ha b2] at h2;rw[Ha (by omega),Ha (by omega)];exact ZmA k l m h1 h2
theorem ZmA:∀ (a b c:List Tree),ordL a b≤0→ordL b c≤0→ordL a c≤0
 | [],_,[],_,_=>by simp[ordL]
 | [],_,_::_,_,_=>by simp[ordL]
 | _::_,[],_,h1,_=>by simp[ordL] at h1
 | _::_,_::_,[],_,h2=>by simp[ordL] at h2
 | a::k,b::l,c::m,h1,h2=>by
  rw[ordL] at h1 h2 ⊢;by_cases a0:ordT a b=0
  ·obtain rfl:=Ze4 a b a0;rw[Hb a0] at h1;by_cases b0:ordT a c=0
   ·rw[Hb b0] at h2 ⊢;exact ZmA k l m h1 h2
   ·rw[Ha b0] at h2 ⊢;exact h2
  ·rw[Ha a0] at h1;by_cases b0:ordT b c=0
   ·obtain rfl:=Ze4 b c b0;rw[Ha a0];exact h1
   ·rw[Ha b0] at h2;have h3:=Zgo a b c h1 h2;by_cases c0:ordT a c=0
    ·exfalso;obtain rfl:=Ze4 a c c0;have:=ZdU a b;omega
    ·rw[Ha c0];exact h3
end
theorem Ao.treeE {h:Hp} {t u:Bool} {sz i off:Nat} {xs:List Tree} (hi:i < xs.length):Ao h (.eptr t sz (xs.map (ZaV u)) i off) (Zbz u xs[i]) off []:=by
 have:=Ao.mapE (h:=h) (t:=t) (sz:=sz) (off:=off) (f:=ZaV u) hi
 rwa [Zdz] at this
theorem Ao.treeO {h:Hp} {u:Bool} {k m sz i off:Nat} {e:TypeId} {xs:List Tree} (hk:Ah h k=some (.row e sz (xs.map (ZaV u)))) (hm:(xs.map (ZaV u)).length=m) (hi:i < xs.length):Ao h (.optr k m i off) (Zbz u xs[i]) off [(k,some (.row e sz (xs.map (ZaV u))))]:=by
 have:=Ao.mapO (f:=ZaV u) (off:=off) hk hm hi
 rwa [Zdz] at this
theorem VB {P Q:Prop} (q:Q) (k:Vz Q→P:=by intro q;(repeat (first|refine wkz ?_|refine Zaa (hr:=?_)));exact q.out):P:=k ⟨q⟩
end Go.Proofs.YtbpmepgnjanhnaaGreat
