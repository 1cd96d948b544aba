import Derived.Test.YtbpmepgnjanhnaaGreatQS5
import Derived.MapKept
set_option linter.unusedVariables false
set_option linter.unusedSimpArgs false
set_option linter.unusedSectionVars false
namespace Go.Proofs.YtbpmepgnjanhnaaGreat
variable {P:Program} {n:Nat} {dr:Bool} {ops:Array Oper} {rest:List Oper} {log:List Rec} {K:Exit→Fr→Hp→Prop} {fr:Fr}
open Go.RowKit
section
variable {G:Ctx} {E:Env} {fr:Fr} {h:Hp} {a:Act} {w:World}
end
section
variable {P:Program} {n:Nat} {Q:Exit→Fr→Hp→Prop} {fr:Fr} {h:Hp}
theorem Zzf {c:Code} (i k k':Nat) {m e sz:Nat} {xs:List D} (hi:fget fr i=.own k m) (hk:Ah h k=some (.row e sz xs)) (hm:xs.length=m) (F:Fr) (H:Hp) (hk':Ah ((k,.row e sz xs)::H) k'=none) (hlow:Nat.blt k' 1000=true)
  (hI:(frIn ((k,.row e sz xs)::H) ((i,.own k m)::F) && hpIn ((k,.row e sz xs)::H) ((k,.row e sz xs)::H))=true) (hf:FLe fr F) (hh:HLe h H)
  (hc:aw P n c Q ((i,.own k' m)::(i,.own k m)::F) ((k',.row e sz xs)::(k,.dead m)::(k,.row e sz xs)::H)):aw P n c Q fr h :=
 Zr7 ((i,.own k m)::F) ((k,.row e sz xs)::H) ⟨VLe.of hi,hf⟩ ⟨Ap.of hk,hh⟩ hI (ZEY i k' (Zbc _ _ _) (Zai _ _ _) hm hk' hlow hc)
end
section
variable {G:Ctx} {E:Env} {fr:Fr} {h:Hp} {a:Act} {w:World}
end
section
variable {P:Program} {n:Nat} {Q:Exit→Fr→Hp→Prop} {fr:Fr} {h:Hp}
end
section
variable {h:Hp}
variable {d:Nat} {ty:TypeId} {pos:String} {after:Array Edge} {g:Option (Nat×Bool)}
variable (T:TT P)
end
abbrev ML:=List ((Int×Int×Int)×Int)
def lkp:ML→Int×Int×Int→Option Int
 | [],_=>none
 | x::r,k=>if k=x.1 then some x.2 else lkp r k
def sto:ML→Int×Int×Int→Int→ML
 | [],k,n=>[(k,n)]
 | x::r,k,n=>if k=x.1 then (k,n)::r else x::sto r k n
theorem Zzg:∀ {l:ML} {k:Int×Int×Int} {n:Int},lkp l k=some n→(k,n)∈l
 | [],_,_,h=>by simp[lkp] at h
 | x::r,k,n,h=>by
  simp only[lkp] at h;split at h
  ·rename_i e;cases h;subst e;simp
  ·exact HK _ (Zzg h)
theorem Zzh:∀ {l:ML} {k:Int×Int×Int} {n:Int} {x},x∈sto l k n→x=(k,n)∨x∈l
 | [],_,_,_,h=>by simp[sto] at h;exact .inl h
 | y::r,k,n,x,h=>by
  simp only[sto] at h;split at h
  ·rcases List.mem_cons.1 h with h|h
   ·exact .inl h
   ·exact .inr (HK _ h)
  ·rcases List.mem_cons.1 h with h|h
   ·exact .inr (by simp[h])
   ·exact (Zzh h).imp id (HK _)
structure KeyRun (P:Program) (mt kt et:TypeId):Prop where
 hm:P.underlying mt=some (.map kt et)
 chk:∀ (em:Bool) (k:Int×Int×Int) (w:World),(Instr.checkKey em 10000 kt (spK k)).run P w=.ok () w
 now:∃ ds,P.underlying kt=some ds∧∀ k k':Int×Int×Int,Instr.sameNow ds (spK k) (spK k')=none
 eq:∀ (k k':Int×Int×Int) (w:World),(Op.equal kt (spK k) (spK k')).run P w=.ok (decide (k=k')) w
 zero:∀ w:World,(zeroValue et).run P w=.ok (.int .i64 0) w
def lkI:ML→Int×Int×Int→Nat→Option (Nat×Value)
 | [],_,_=>none
 | x::r,k,i=>if k=x.1 then some (i,.int .i64 x.2) else lkI r k (i+1)
theorem Zzi:∀ (l:ML) (k:Int×Int×Int) (i:Nat),(lkI l k i).map Prod.snd=(lkp l k).map (Value.int .i64)
 | [],_,_=>rfl
 | x::r,k,i=>by
  simp only[lkI,lkp];split
  ·rfl
  ·exact Zzi r k (i+1)
section
variable {P:Program} {mt kt et:TypeId} (R:KeyRun P mt kt et)
include R
theorem KeyRun.asking (k:Int×Int×Int) (w:World):∀ (l:ML) (es:List MapEntry) (i:Nat),(es.map fun x=>(x.key,x.val))=l.map (fun x=>(spK x.1,Value.int .i64 x.2))→(Instr.findAsking kt (spK k) es i).run P w=.ok (lkI l k i) w
 | [],[],i,_=>by simp[Instr.findAsking,lkI]
 | [],e::es,i,h=>by simp at h
 | x::l,[],i,h=>by simp at h
 | x::l,e::es,i,h=>by
  simp only[Hm,Hz,Jz] at h;obtain⟨⟨h1,h2⟩,h3⟩:=h;simp only[Instr.findAsking,Sem.run_bind,h1,R.eq,Result.andThen_ok,lkI];by_cases e1:k=x.1
  ·simp[e1,h2]
  ·simp only[e1,decide_false,if_false,Bool.false_eq_true];exact KeyRun.asking k w l es (i+1) h3
theorem KeyRun.find (k:Int×Int×Int) (w:World) {l:ML} {es:List MapEntry} (h:(es.map fun x=>(x.key,x.val))=l.map (fun x=>(spK x.1,Value.int .i64 x.2))):(Instr.findKey kt (spK k) es).run P w=.ok (lkI l k 0) w:=by
 obtain⟨ds,h1,h2⟩:=R.now;unfold Instr.findKey;simp only[Sem.run_bind,run_underlying h1,Result.andThen_ok]
 match l,es,h with
 | [],[],_=>simp[Instr.findNow,lkI]
 | [],e::es,h=>simp at h
 | x::l,[],h=>simp at h
 | x::l,e::es,h =>
  have h':=h;simp only[Hm,Hz,Jz] at h';simp only[Instr.findNow,h'.1.1,h2];exact R.asking k w (x::l) (e::es) 0 h
theorem KeyRun.lookup (k:Int×Int×Int) {w:World} {b:Nat} {es:Array MapEntry} {clock:Nat} {l:ML} (hb:w.heap[b]? = some (.map es clock)) (h:(es.toList.map fun x=>(x.key,x.val))=l.map (fun x=>(spK x.1,Value.int .i64 x.2))) :
  (Instr.lookup mt (.map (some b)) (spK k) true).run P w=.ok (.tuple #[.int .i64 ((lkp l k).getD 0),.bool (lkp l k).isSome]) w:=by
 have hv:=Zzi l k 0;simp only[Instr.lookup,Sem.run_bind,run_underlying R.hm,Result.andThen_ok,MapKept.run_getObj_map hb,R.chk,R.find k w h,Sem.run_pure];cases e1:lkI l k 0 with
 | none =>
  rw[e1] at hv;have e2:lkp l k=none:=by cases e3:lkp l k <;> simp_all
  simp[e2,R.zero]
 | some p =>
  rw[e1] at hv;obtain⟨n,e2⟩:∃ n,lkp l k=some n:=by cases e3:lkp l k <;> simp_all
  rw[e2] at hv;simp at hv;simp[e2,hv]
theorem Zt9:∀ {l:ML} {k:Int×Int×Int} {i j:Nat} {v:Value},lkI l k i=some (j,v)→i≤j∧∃ x,l[j - i]? = some x∧x.1=k∧∀ n,sto l k n=l.set (j - i) (k,n)
 | [],_,_,_,_,h=>by simp[lkI] at h
 | x::r,k,i,j,v,h=>by
  simp only[lkI] at h;split at h
  ·rename_i e;simp only[Hx,Jz] at h;obtain⟨rfl,_⟩:=h;refine⟨Hg _,x,by simp,e.symm,fun n=>?_⟩;simp[sto,e]
  ·rename_i e;obtain⟨h1,y,h2,h3,h4⟩:=Zt9 h;refine⟨by omega,y,?_,h3,fun n=>?_⟩
   ·rw[show j - i=(j - (i+1))+1 by omega];simpa using h2
   ·rw[show j - i=(j - (i+1))+1 by omega];simp only[sto,Ha e,h4 n,List.set_cons_succ]
omit R in
theorem Zua:∀ {l:ML} {k:Int×Int×Int} {i:Nat},lkI l k i=none→∀ n,sto l k n=l++[(k,n)]
 | [],_,_,_,n=>rfl
 | x::r,k,i,h,n=>by
  simp only[lkI] at h;split at h
  ·cases h
  ·rename_i e;simp only[sto,Ha e,Zua h n,Hv]
theorem KeyRun.update (k:Int×Int×Int) (n:Int) {w:World} {b:Nat} {es:Array MapEntry} {clock:Nat} {l:ML} (hb:w.heap[b]? = some (.map es clock)) (h:(es.toList.map fun x=>(x.key,x.val))=l.map (fun x=>(spK x.1,Value.int .i64 x.2))) :
  ∃ es' clock',(Instr.mapUpdate mt (.map (some b)) (spK k) (.int .i64 n)).run P w=.ok () { w with heap:=w.heap.setIfInBounds b (.map es' clock') }∧(es'.toList.map fun x=>(x.key,x.val))=(sto l k n).map (fun x=>(spK x.1,Value.int .i64 x.2)):=by
 have hf:=R.find k w h;cases e1:lkI l k 0 with
 | none =>
  rw[e1] at hf;refine⟨es.push ⟨spK k,.int .i64 n,clock⟩,clock+1,?_,?_⟩
  ·simp[Instr.mapUpdate,run_underlying R.hm,MapKept.run_getObj_map hb,R.chk,hf,MapKept.run_setObj_map _ hb]
  ·rw[Zua e1];simp[h]
 | some p =>
  obtain⟨j,v⟩:=p;rw[e1] at hf;obtain⟨_,x,h2,h3,h4⟩:=Zt9 R e1;simp only[Jn] at h2 h4;have hjl:j < l.length:=(List.getElem?_eq_some_iff.1 h2).1;have hlen:es.toList.length=l.length:=by have:=Hy List.length h;simpa using this
  have hje:j < es.size:=by rw[Jy] at hlen;omega
  obtain⟨e0,he0⟩:∃ e0,es[j]? = some e0:=⟨es[j],by simp[hje]⟩
  have hkey:e0.key=spK k:=by
   have:=Hy (fun l=>l[j]?) h;simp only[Gg,h2] at this;have he0':es.toList[j]? = some e0:=by simpa using he0
   rw[he0'] at this;simp only[H9,Hx,Jz] at this;rw[this.1,h3]
  have hstay:(Instr.keyThatStays (spK k) (spK k)).run P w=.ok (spK k) w:=by
   have:Instr.sameBits 10000 (spK k) (spK k)=true:=by simp[Instr.sameBits,spK]
   simp[Instr.keyThatStays,this]
  refine⟨es.modify j (fun e=>{ e with key:=spK k,val:=.int .i64 n }),clock,?_,?_⟩
  ·simp[Instr.mapUpdate,run_underlying R.hm,MapKept.run_getObj_map hb,R.chk,hf,he0,hkey,hstay,MapKept.run_setObj_map _ hb]
  ·rw[h4 n];apply List.ext_getElem?;intro i;have hi:=Hy (fun l=>l[i]?) h;simp only[Gg,JN] at hi;simp only[Gg,JN,JD,JA];by_cases e:j=i
   ·subst e;simp only[if_true,Hb hjl,JW hje,H9]
   ·simp only[Ha e];exact hi
end
section
variable {G:Ctx} {E:Env} {fr:Fr} {h:Hp} {a:Act} {w:World}
theorem An.newMap (C:An G E fr h a w) {k:Nat} (hk:Ah h k=none) (hlow:Nat.blt k 1000=true):∃ E',An G E' fr ((k,.mp (Eq []))::h) a (w.alloc (.map #[] 0))∧E'.blk k=w.heap.size:=by
 refine⟨⟨fun j=>if j=k then w.heap.size else E.blk j,E.row,E.fp⟩,?_,by simp⟩;have U:Upd E h w k (.mp (Eq [])) ⟨fun j=>if j=k then w.heap.size else E.blk j,E.row,E.fp⟩ (w.alloc (.map #[] 0)) :=
  ⟨fun j hj=>by simp[hj],fun _ _=>rfl,fun _ _=>rfl,(fun hs=>by rw[hk] at hs;cases hs),fun _=>by simpa[HU] using hlow,fun m hm=>(ZDn hk hm).elim,(fun hs=>by rw[hk] at hs;cases hs),Ext.new _ _,
   (fun b hb=>by unfold Ai at hb;rw[Zai] at hb;simp at hb;exact .inr (by omega))⟩
 exact C.upd U ⟨#[],0,[],by simpa using heap_alloc_new w _,rfl,rfl⟩ (by simp[Ob.keys])
theorem ZDw {h:Hp} {k m:Nat} {p:ML→Prop} (hk:Ah h k=some (.mp p)):¬ verAny h k m:=by
 rintro (⟨_,_,_,h1,_⟩|⟨_,_,h1,_⟩|h1|⟨_,_,_,_,h1,_⟩) <;> rw[hk] at h1 <;> cases h1
theorem ZDx {h:Hp} {k sz m:Nat} {p:ML→Prop} (hk:Ah h k=some (.mp p)):¬ verRow h k sz m:=by
 rintro (⟨_,_,h1,_⟩|⟨_,_,_,_,h1,_⟩) <;> rw[hk] at h1 <;> cases h1
theorem An.setMap (C:An G E fr h a w) {k:Nat} {p q:ML→Prop} (hk:Ah h k=some (.mp p)) {w':World} (hE:Ext (fun b=>b=E.blk k) w w') (hq:MapAt w' (E.blk k) q):An G E fr ((k,.mp q)::h) a w':=by
 have hbk:Ai E h k (E.blk k):=by simp[Ai,hk]
 have U:Upd E h w k (.mp q) E w' :=
  ⟨fun _ _=>rfl,fun _ _=>rfl,fun _ _=>rfl,fun _=>rfl,(fun hn=>by rw[hk] at hn;cases hn),(fun m hm=>(ZDw hk hm).elim),(fun _ sz n hv=>(ZDx (Zai _ _ _) hv).elim),
   hE.mono (fun b hb=>by rw[hb];exact hbk),(fun b hb=>.inl (by unfold Ai at hb ⊢;rw[Zai] at hb;rw[hk];exact hb))⟩
 exact C.upd U hq (by simp[Ob.keys])
end
section
variable {P:Program} {n:Nat} {Q:Exit→Fr→Hp→Prop} {fr:Fr} {h:Hp}
theorem ZvN {c:Code} (k:Nat) {p:ML→Prop} (hk:Ah h k=some (.mp p)) (hc:∀ l,p l→aw P n c Q fr ((k,.mp (Eq l))::h)):aw P n c Q fr h:=fun G E a w hn C=>by
 obtain⟨es,clock,l,h1,h2,h3⟩:=C.heap.obs k _ hk;exact hc l h3 G E a w hn (C.setMap hk (Ext.refl _ _) ⟨es,clock,l,h1,h2,rfl⟩)
end
section
variable {h:Hp}
variable {d:Nat} {ty:TypeId} {pos:String} {after:Array Edge} {g:Option (Nat×Bool)}
theorem Zzj {t:TypeId} (hdn:Nat.blt d n=true) (hlow:Nat.blt d 1000=true) (hg:gOk ops fr g) (hk:Ah h d=none)
  (hr:dops P n dr ops rest (⟨(gIns ops g).map Prod.fst,[d],[d],[d]⟩::log) K ((d,.mapv d)::fr) ((d,.mp (Eq []))::h)):dops P n dr ops (⟨some d,.makeMap t none,ty,pos,after,g⟩::rest) log K fr h:=by
 refine ZaA (ins:=gIns ops g++[]) (objs:=[(d,none)]) (v:=.mapv d) (upd:=[(d,.mp (Eq []))]) (LStep.updV rfl hdn rfl hg _ _ _ _ fun G E fr' h' a w C hi ho=>?_) (Zc7 hg (by simp)) (by simpa using hk) (by rw[Ht];exact hr);have hk':Ah h' d=none:=ho (d,none) (by simp);obtain⟨E',C',hb⟩:=C.newMap hk' hlow;refine⟨.map (some w.heap.size),E',_,?_,C',by simp only[V.Rep];rw[hb],by intro q hq;simp[V.keys] at hq;subst hq;simp[Zai]⟩;simp[execOp,Instr.makeMap]
theorem ZBH {x ix:Operand} {mt kt et:TypeId} {k:Nat} {v:V} {a1 a2 a3:Int} {l:ML} (R:KeyRun P mt kt et) (hdn:Nat.blt d n=true) (hg:gOk ops fr g) (hx:oev fr x=.mapv k) (hy:oev fr ix=v) (h1:ZaP ix=true) (hv:vval v=some (.agg #[.int .i64 a1,.int .i64 a2,.int .i64 a3])) (hk:Ah h k=some (.mp (Eq l)))
  (hr:dops P n dr ops rest (⟨(gIns ops g++Zaq [x,ix] [.mapv k,v]).map Prod.fst,[d],[k],[]⟩::log) K ((d,.tup [I ((lkp l (a1,a2,a3)).getD 0),B (lkp l (a1,a2,a3)).isSome])::fr) h) :
  dops P n dr ops (⟨some d,.lookup mt x ix true,ty,pos,after,g⟩::rest) log K fr h:=by
 refine ZaA (ins:=gIns ops g++Zaq [x,ix] [.mapv k,v]) (objs:=[(k,some (.mp (Eq l)))]) (v:=.tup [I ((lkp l (a1,a2,a3)).getD 0),B (lkp l (a1,a2,a3)).isSome]) (upd:=[]) (LStep.updV rfl hdn rfl hg _ _ _ _ fun G E fr' h' a w C hi ho=>?_) (Zc7 hg (ZbK ⟨hx,hy,trivial⟩)) (by simpa using hk) hr;have hk':Ah h' k=some (.mp (Eq l)):=ho (k,_) (by simp);have hx':=Zcy (xs:=[x,ix]) (vs:=[.mapv k,v]) ⟨hx,hy,trivial⟩ hi;simp only[oevs] at hx';obtain⟨p1,_⟩:=C.oev hx'.1 (Zao (Zap hx rfl));obtain⟨q1,_⟩:=C.oev hx'.2.1 (Zao h1);have e1:=ZoH q1 hv;simp only[V.Rep] at p1;obtain⟨es,clock,l',m1,m2,rfl⟩:=C.heap.obs k _ hk';have hrun:=R.lookup (a1,a2,a3) m1 m2;refine⟨.tuple #[.int .i64 ((lkp l (a1,a2,a3)).getD 0),.bool (lkp l (a1,a2,a3)).isSome],E,w,?_,C,?_,by simp[V.keys,V.keyss]⟩
 ·simp only[execOp,p1,e1,Sem.run_bind];rw[show (Value.agg #[.int .i64 a1,.int .i64 a2,.int .i64 a3])=spK (a1,a2,a3) from rfl,hrun];simp only[Result.andThen_ok,Sem.run_pure]
 ·simp[V.Rep,V.Reps,D.RepV,D.Rep,Value.oneCell']
theorem ZsB {x ix yv:Operand} {mt kt et:TypeId} {k:Nat} {v:V} {a1 a2 a3 c:Int} {p:ML→Prop} (R:KeyRun P mt kt et) (q:ML→Prop) (hg:gOk ops fr g) (hx:oev fr x=.mapv k) (hy:oev fr ix=v) (h1:ZaP ix=true) (hv:vval v=some (.agg #[.int .i64 a1,.int .i64 a2,.int .i64 a3])) (hz:oev fr yv=I c) (hk:Ah h k=some (.mp p))
  (hq:∀ l,p l→q (sto l (a1,a2,a3) c))
  (hr:dops P n dr ops rest (⟨(gIns ops g++Zaq [x,ix,yv] [.mapv k,v,I c]).map Prod.fst,[],[k],[k]⟩::log) K fr ((k,.mp q)::h)) :
  dops P n dr ops (⟨none,.mapUpdate mt x ix yv,ty,pos,after,g⟩::rest) log K fr h:=by
 refine ZaA (ins:=gIns ops g++Zaq [x,ix,yv] [.mapv k,v,I c]) (objs:=[(k,some (.mp p))]) (v:=.junk) (upd:=[(k,.mp q)]) (LStep.updS rfl rfl hg _ _ _ fun G E fr' h' a w C hi ho=>?_) (Zc7 hg (ZbK ⟨hx,hy,hz,trivial⟩)) (by simpa using hk) hr;have hk':Ah h' k=some (.mp p):=ho (k,_) (by simp);have hx':=Zcy (xs:=[x,ix,yv]) (vs:=[.mapv k,v,I c]) ⟨hx,hy,hz,trivial⟩ hi;simp only[oevs] at hx';obtain⟨p1,_⟩:=C.oev hx'.1 (Zao (Zap hx rfl));obtain⟨q1,_⟩:=C.oev hx'.2.1 (Zao h1);obtain⟨r1,_⟩:=C.oev hx'.2.2.1 (Zao (Zap hz rfl));have e1:=ZoH q1 hv;simp only[V.Rep] at p1;have e2:a.eval yv=.int .i64 c:=by simpa[V.Rep,D.RepV,D.Rep,Value.oneCell'] using r1
 obtain⟨es,clock,l,m1,m2,m3⟩:=C.heap.obs k _ hk';obtain⟨es',clock',r2,r3⟩:=R.update (a1,a2,a3) c m1 m2;have hbl:E.blk k < w.heap.size:=(Array.getElem?_eq_some_iff.1 m1).1;refine⟨E,_,?_,C.setMap hk' (w':={ w with heap:=w.heap.setIfInBounds (E.blk k) (.map es' clock') }) ⟨rfl,rfl,rfl,by simp,fun b hb hne=>?_,Hg _⟩ ⟨es',clock',_,?_,r3,hq l m3⟩⟩
 ·simp only[execOp,p1,e1,e2,Sem.run_bind];rw[show (Value.agg #[.int .i64 a1,.int .i64 a2,.int .i64 a3])=spK (a1,a2,a3) from rfl,r2];simp only[Result.andThen_ok,Sem.run_pure]
 ·rw[Array.getElem?_setIfInBounds_ne (Ne.symm hne)]
 ·simp[hbl]
end
section
variable {G:Ctx} {E:Env} {fr:Fr} {h:Hp} {a:Act} {w:World}
theorem An.reBox (C:An G E fr h a w) {k j:Nat} {ty:TypeId} {cs:List V} {c c':V} (hk:Ah h k=some (.box ty cs)) (hj:cs[j]? = some c) (hco:Co h c c') (hin:c'.inside h=true):An G E fr ((k,.box ty (cs.set j c'))::h) a w:=by
 obtain⟨us,g1,g2,g3⟩:=C.heap.obs k _ hk;have hcl:=C.heap.closed k _ hk;have U:Upd E h w k (.box ty (cs.set j c')) E w :=
  ⟨fun _ _=>rfl,fun _ _=>rfl,fun _ _=>rfl,fun _=>rfl,(fun hn=>by rw[hk] at hn;cases hn),
   (fun m hm=>by exfalso;rcases hm with ⟨_,_,_,h1,_⟩|⟨_,_,h1,_⟩|h1|⟨_,_,_,_,h1,_⟩ <;> rw[hk] at h1 <;> cases h1),
   (fun _ sz n hv=>by exfalso;rcases hv with ⟨_,_,h1,_⟩|⟨_,_,_,_,h1,_⟩ <;> (rw[Zai] at h1;cases h1)),
   Ext.refl _ _,(fun x hx=>.inl (by unfold Ai at hx ⊢;rw[Zai] at hx;rw[hk];exact hx))⟩
 have hkeys:∀ i∈V.keyss (cs.set j c'),(Ah h i).isSome=true:=fun i hi=>by
  obtain⟨v,hv,hi'⟩:=V.keyss_mem.1 hi;rcases GU hv with hv|rfl
  ·exact hcl i (by simp only[Ob.keys];exact V.keyss_mem.2 ⟨v,hv,hi'⟩)
  ·exact V.inside_spec hin i hi'
 refine C.upd U ⟨us,g1,?_,g3⟩ (fun i hi=>U.mono i (hkeys i (by simpa[Ob.keys] using hi)));obtain⟨u,hu,hur⟩:=g2.get hj;have hs:=g2.set (i:=j) (hco E G.o w u C.heap C.sub hur);have e:us.set j u=us:=by
  apply List.ext_getElem?;intro i;rw[JA];split
  ·rename_i e;subst e;rw[hu];split <;> simp_all
  ·rfl
 rw[e] at hs;exact hs.move (U.trans G.o) hkeys (fun i hi=>U.mono i (hkeys i hi))
end
section
variable {P:Program} {n:Nat} {Q:Exit→Fr→Hp→Prop} {fr:Fr} {h:Hp}
theorem ZoO {c0:Code} (k j:Nat) {ty:TypeId} {cs:List V} {c:V} (c':V) (hk:Ah h k=some (.box ty cs)) (hj:cs[j]? = some c) (hco:Co h c c') (hin:c'.inside h=true) (hc:aw P n c0 Q fr ((k,.box ty (cs.set j c'))::h)):aw P n c0 Q fr h :=
 fun G E a w hn C=>hc G E a w hn (C.reBox hk hj hco hin)
def now (K:Fr→Hp→Prop) (fr:Fr) (h:Hp):Prop:=∀ (G:Ctx) (E:Env) (a:Act) (w:World),An G E fr h a w→∃ E' fr' h',K fr' h'∧An G E' fr' h' a w
end
section
variable {h:Hp}
variable {ty:TypeId} {pos:String} {after:Array Edge} {g:Option (Nat×Bool)}
theorem ZDy {dst:Option Tmp} {fop:Operand} {xs:List Operand} {args:Array Operand} {ats:Array TypeId} {vs caps cargs:List V} {f:FuncId} {hc:Hp} {r:V} (φ:List (Nat×Nat)) {objs:List (Nat×Option Ob)} {fz:Hp} {W:List Nat}
  (hg:gOk ops fr g) (hd:ZoF n dst=true) (hxs:args.toList=xs) (hf:oev fr fop=.fn (.func f) [] caps) (hx:oevs fr xs vs) (h1:xs.all ZaP=true) (hA:Af P f cargs hc r hc) (ha:As φ h (vs++caps) cargs objs fz W)
  (hlink:LinkH h φ hc) (hnew:NewH h (ZbA φ hc hc)) (hok:Ze8 φ hc hc fz W=true) (hin:(hpIn hc hc && V.insides hc cargs)=true) (hcl:W=[]∨(r.clean∧HpClean hc)) {fr':Fr} {h':Hp} (hfr:dput dst (r.ren φ) fr=fr') (hh:fz++h=h')
  (hr:dops P n dr ops rest (⟨(gIns ops g++(ZaG fop (.fn (.func f) [] caps)++Zaq xs vs)).map Prod.fst,dst.toList,(ZbL φ hc hc objs).map Prod.fst,fz.map Prod.fst⟩::log) K fr' h') :
  dops P n dr ops (⟨dst,.call { callee:=.value fop,args:=args,argTypes:=ats },ty,pos,after,g⟩::rest) log K fr h:=by
 have hargs:args=xs.toArray:=by rw[←hxs]
 subst hargs;subst hfr;subst hh;simp only[Hr] at hin;have hnewo:Am h ((ZbA φ hc hc).map (fun k=>(k,(none:Option Ob)))):=fun p hp=>by
  obtain⟨k,hk,rfl⟩:=List.mem_map.1 hp;exact hnew.get k hk
 refine ZaA (ins:=gIns ops g++(ZaG fop (.fn (.func f) [] caps)++Zaq xs vs)) (objs:=ZbL φ hc hc objs) (v:=r.ren φ) (upd:=fz) ?_ (Zc7 hg (fun p hp=>(List.mem_append.1 hp).elim (ZbN hf p) (ZbK hx p)))
  (Am.append.2 ⟨LinkH.iff.1 hlink,Am.append.2 ⟨hnewo,ha.objs⟩⟩) hr
 intro G E fr' h' a w K Q hPan hn C hi ho hK;have hgo:gOk ops fr' g:=Zh5 hg (fun p hp=>hi p (List.mem_append.2 (.inl hp)));have ho':=Am.append.1 (show Am h' (ZbL φ hc hc objs) from ho);have ho'':=Am.append.1 ho'.2;have ha':=ha.of ho''.2;have hlink':LinkH h' φ hc:=LinkH.iff.2 ho'.1;have hf':=ZcE hf (fun p hp=>hi p (List.mem_append.2 (.inr (List.mem_append.2 (.inl hp)))));have hx':=Zcy hx (fun p hp=>hi p (List.mem_append.2 (.inr (List.mem_append.2 (.inr hp)))));simp only[Ze8,Hr] at hok;obtain⟨⟨⟨⟨⟨⟨c1,c2⟩,c3⟩,c4⟩,c5⟩,c6⟩,c7⟩:=hok;have C1:=C.frozs ha'.fz;have hoff:∀ k,(∀ p∈fz,p.1≠k)→Ah (fz++h') k=Ah h' k:=fun k hk=>by
  rw[ZaL,ZcD (fun hm=>by obtain⟨p,hp,e⟩:=List.mem_map.1 hm;exact hk p hp e)]
 have hlinkz:LinkH (fz++h') φ hc:=by
  refine LinkH.iff.2 (fun p hp=>?_);rw[hoff p.1 (fun q hq e=>?_)]
  ·exact ho'.1 p hp
  ·have hmem:∀ {l:Hp},p∈Zcd φ l→∃ q∈l,renK φ q.1=p.1:=by
    intro l
    induction l with
    | nil=>intro hp;simp[Zcd] at hp
    | cons q l ih =>
     intro hp;obtain⟨j,ob⟩:=q;simp only[Zcd,Gq] at hp;rcases hp with rfl|hp
     ·exact⟨_,HT,rfl⟩
     ·obtain⟨q,hq,e⟩:=ih hp;exact⟨q,HK _ hq,e⟩
   obtain⟨q',hq',e'⟩:=hmem hp;have:=List.all_eq_true.1 (List.all_eq_true.1 c5 q hq) q' hq';rw[e,e',Gt] at this;simp at this
 have hnewz:NewH (fz++h') (ZbA φ hc hc):=by
  have key:∀ (l:List Nat),(∀ k∈l,Ah h' k=none)→NewH (fz++h') l:=by
   intro l
   induction l with
   | nil=>intro _;trivial
   | cons k l ih =>
    intro hl;refine⟨?_,ih (fun j hj=>hl j (HK _ hj))⟩;rw[hoff k (fun p hp e=>?_)]
    ·exact hl k HT
    ·obtain⟨_,_,_,_,q⟩:=ha'.fz p hp;rw[e,hl k HT] at q;cases q
  exact key _ (fun k hk=>ho''.1 (k,none) (List.mem_map.2 ⟨k,hk,rfl⟩))
 have hWf:∀ k∈W,k ∉ fz.map Prod.fst:=fun k hk hm=>by
  obtain⟨p,hp,rfl⟩:=List.mem_map.1 hm;have:=List.all_eq_true.1 (List.all_eq_true.1 c7 p hp) _ hk;simp at this
 obtain⟨r1,_⟩:=C1.oev hf' (Zao (Zap hf rfl));obtain⟨r2,_⟩:=ZdB C1 hx' h1;simp only[V.Rep] at r1;obtain⟨af,cf,e1,e2,e3⟩:=r1;simp only[V.Reps] at e2;subst e2;have hus:=r2.append e3;have hsame:∀ k,Ah (Hp.ren φ hc++(fz++h')) k=Ah (fz++h') k:=fun k=>by
  rw[ZaL];cases hq:Ah (Hp.ren φ hc) k with
  | none=>rfl
  | some ob =>
   simp only;have hk:k∈(Hp.ren φ hc).map Prod.fst:=HN fun hn=>by rw[ZcD hn] at hq;cases hq
   rw[ren_keys] at hk;obtain⟨k0,hk0,rfl⟩:=List.mem_map.1 hk;obtain⟨p,hp,rfl⟩:=List.mem_map.1 hk0;have h2:=ZoD (φ:=φ) (g:=hc) (k:=p.1) (fun j hj e=>Ze9 c2 hj hk0 e);obtain⟨o1,ho1⟩:=Option.isSome_iff_exists.1 (ZoC hp);rw[h2,ho1] at hq;simp only[H9,Hx] at hq;rw[hlinkz.get ho1,hq]
 have hcall:=C1.call hA φ W hlinkz hnewz c1 hin.1 c2 c3 c4 (fun k hk=>⟨?_,fun q hq e=>?_⟩) hcl (us:=xs.map a.eval++cf) (fun Ec M L hAl hvw=>ha'.rep C1 ha'.fz L hAl hvw (fun _ hp=>hp) (fun _ hk=>hk) hWf (V.insides_spec hin.2) hus) (V.insides_spec hin.2)
 ·unfold wpS;rw[Hb (Zcs (o:=⟨dst,_,ty,pos,after,g⟩) C hgo)];refine .inl ?_;unfold Oper.wp;rw[ZoE hA.1 a.eval cf e1];simp only[Oper.upon];refine hcall.mono ?_;rintro e w' ⟨E',u,rfl,C',hru,hku⟩;have C':=An.congr (fun _=>rfl) hsame C';have hru:=(show V.Rep E' (fz++h') (bars E' (fz++h') G.o) w' (r.ren φ) u from by
   have e:∀ k,Ah (Hp.ren φ hc++(fz++h')) k=Ah (fz++h') k:=hsame
   have hB:bars E' (Hp.ren φ hc++(fz++h')) G.o=bars E' (fz++h') G.o:=by
    funext t b;have:∀ k,Ai E' (Hp.ren φ hc++(fz++h')) k=Ai E' (fz++h') k:=(fun k=>by funext b;unfold Ai;rw[e k]);unfold bars Live;simp only[this]
   have T:Trans E' (Hp.ren φ hc++(fz++h')) (bars E' (Hp.ren φ hc++(fz++h')) G.o) w' E' (fz++h') (bars E' (fz++h') G.o) w':=by
    refine⟨fun _ _ _=>rfl,fun k _ m hv=>⟨m,?_,Hg _,fun _=>rfl⟩,fun k _ sz n hv=>⟨n,?_⟩,?_⟩
    ·unfold verAny at hv ⊢;rw[←e k];exact hv
    ·unfold verRow at hv ⊢;rw[e k];exact hv
    ·rw[hB];exact Carry.refl _ _
   exact hru.move T hku (fun k hk=>by rw[←e k];exact hku k hk))
  have hku:∀ k∈(r.ren φ).keys,(Ah (fz++h') k).isSome=true:=fun k hk=>by rw[←hsame k];exact hku k hk
  refine hK E' _ w' ?_;cases dst with
  | none=>exact C'.putNone _
  | some d=>exact C'.put (by rw[hn];simpa[ZoF,HU] using hd) hru hku
 ·obtain⟨e,sz,xs',q⟩:=ha'.vwRow k hk;exact⟨e,sz,xs',by rw[hoff k (fun p hp e=>hWf k hk (List.mem_map.2 ⟨p,hp,e⟩))];exact q⟩
 ·have:=List.all_eq_true.1 (List.all_eq_true.1 c6 k hk) q hq;rw[e,Gt] at this;simp at this
end
section
theorem Zau {ty:TypeId} {pos:String} {after:Array Edge} {g:Option (Nat×Bool)} {h:Hp} {r':V} {dst:Option Tmp} {fop:Operand} {xs:List Operand} {args:Array Operand} {ats:Array TypeId} {vs caps cargs:List V} {f:FuncId} {hc:Hp} {r:V} (φ:List (Nat×Nat)) {objs:List (Nat×Option Ob)} {fz:Hp} {W:List Nat} {fr':Fr} {h':Hp} (hg:gOk ops fr g:=by exact Vf) (hd:ZoF n dst=true:=by exact rfl) (hxs:args.toList=xs:=by exact rfl) (hf:oev fr fop=.fn (.func f) [] caps:=by exact rfl) (hx:oevs fr xs vs:=by exact Vt) (h1:xs.all ZaP=true:=by exact rfl) (ha:As φ h (vs++caps) cargs objs fz W:=by exact Vy) (hlink:LinkH h φ hc:=by exact Vs) (hnew:NewH h (ZbA φ hc hc):=by exact Vq) (hok:Ze8 φ hc hc fz W=true:=by exact rfl) (hin:(hpIn hc hc && V.insides hc cargs)=true:=by exact rfl) (hcl:W=[]∨(r.clean∧HpClean hc):=by exact Vk) (hr0:r.ren φ=r':=by exact Vn) (hfr:dput dst r' fr=fr':=by exact Vu) (hh:fz++h=h':=by exact Vu) (hA:Af P f cargs hc r hc) (hr:dops P n dr ops rest (⟨(gIns ops g++(ZaG fop (.fn (.func f) [] caps)++Zaq xs vs)).map Prod.fst,dst.toList,(ZbL φ hc hc objs).map Prod.fst,fz.map Prod.fst⟩::log) K fr' h') :dops P n dr ops (⟨dst,.call { callee:=.value fop,args:=args,argTypes:=ats },ty,pos,after,g⟩::rest) log K fr h:=ZDy φ hg hd hxs hf hx h1 hA ha hlink hnew hok hin hcl (by rw[hr0];exact hfr) hh hr
end
section
variable {P:Program} {n:Nat} {Q:Exit→Fr→Hp→Prop} {fr:Fr} {h:Hp}
end
end Go.Proofs.YtbpmepgnjanhnaaGreat
