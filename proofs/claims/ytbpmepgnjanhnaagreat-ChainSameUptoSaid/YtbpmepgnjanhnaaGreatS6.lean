import Derived.Test.YtbpmepgnjanhnaaGreatQS5
import Derived.Recover
set_option linter.unusedVariables false
set_option linter.unusedSimpArgs false
set_option linter.unusedSectionVars false
namespace Go.Proofs.YtbpmepgnjanhnaaGreat
open Go.RowKit
section
variable {P:Program} {n:Nat} {Q:Exit→Fr→Hp→Prop} {fr:Fr} {h:Hp}
theorem An.never {G:Ctx} {E:Env} {a:Act} {w:World} (C:An G E fr h a w) {i:Nat} (hi:fget fr i=never):False:=by
 have:=C.frame i;rw[hi] at this;simp only[never,V.Rep] at this;obtain⟨_,_,_,_,h2,_⟩:=this;simp at h2
def Nev (fr:Fr) (h:Hp):Prop:=(∃ i,fget fr i=never)∨∃ k ty,Ah h k=some (.box ty [never])
theorem Nev.slot {fr:Fr} {h:Hp} (i:Nat) (hi:fget fr i=never):Nev fr h:=.inl ⟨i,hi⟩
theorem Nev.obj {fr:Fr} {h:Hp} (k:Nat) {ty:TypeId} (hk:Ah h k=some (.box ty [never])):Nev fr h:=.inr ⟨k,ty,hk⟩
theorem An.nev {G:Ctx} {E:Env} {a:Act} {w:World} (C:An G E fr h a w) (hv:Nev fr h):False:=by
 rcases hv with ⟨i,hi⟩|⟨k,ty,hk⟩
 ·exact C.never hi
 ·obtain⟨us,_,g2,_⟩:=C.heap.obs k _ hk;simp only[V.Reps,never,V.Rep] at g2;obtain⟨_,_,_,⟨_,_,_,_,h2,_⟩,_⟩:=g2;simp at h2
theorem ZqK {c:Code} (hv:Nev fr h):aw P n c Q fr h:=fun _ _ _ _ _ C=>(C.nev hv).elim
theorem An.start {fn:Func} {args:List V} {us:List Value} {E:Env} {o:Bars} {w:World} (hn:fn.ntmps=n) (ha:args.length≤n) (H:HRep E h o w) (hr:V.Reps E h (bars E h o) w args us) (hk:∀ k∈V.keyss args,(Ah h k).isSome=true)
  (ho:∀ t b,o t b→b < w.heap.size∧¬ Live E h b) (hs:∀ b,o true b→o false b):An ⟨n,w,Live E h,E,h,o,[]⟩ E (Zal 0 args) h { tmps:=us.toArray++Array.replicate (fn.ntmps - us.toArray.size) undef,defers:=[] } w:=by
 have hl:=hr.length;refine⟨by simp[hn];omega,rfl,fun i=>?_,H,fun i k hi=>hk k (Zi4 args 0 i k hi),Ext.refl _ _,fun k b hb=>.inl ⟨k,hb⟩,fun k hk hsm=>⟨hsm,rfl,fun m hm=>⟨m,hm,Hg _,fun _=>rfl⟩,fun sz n hv=>⟨n,hv⟩⟩,ho,hs⟩;have:=Zln hr 0 i;rw[Hb (Hh _),Jn] at this;have e:(us.toArray++Array.replicate (fn.ntmps - us.toArray.size) undef).getD i undef=us.getD i undef:=by
  simp only[Jd,Hf];rw[Array.getElem?_append];simp only[JB,JU,Array.getElem?_replicate];by_cases h1:i < us.length
  ·rw[Hb h1]
  ·rw[Ha h1,HI (by omega)];split <;> rfl
 show V.Rep E h (bars E h o) w _ ((us.toArray++Array.replicate (fn.ntmps - us.toArray.size) undef).getD i undef);rw[e];exact this
def PFin (u:Value) (h':Hp):Exit→Fr→Hp→Prop
 | .panic ch,_,h=>ch=[{ v:=u,recovered:=false }]∧HLe h h'∧hpIn h' h'=true
 | .normal,fr,h|.ret,fr,h=>Nev fr h
 | _,_,_=>False
theorem APan.intro {f:FuncId} {fn:Func} {c:Code} {args:List V} {u:Value} {h':Hp} (hf:P.funcs[f]? = some fn) (hb:fn.body=some c) (hn:fn.ntmps=n) (ha:args.length≤n) (hnm:(fn.name == "runtime.NumGoroutine")=false) (hu:u.oneCell'=true)
  (hw:aw P n c (PFin u h') (Zal 0 args) h):APan P f args h u h':=by
 refine⟨⟨fn,hf,hnm,by rw[hb];rfl⟩,?_⟩;intro E w us o H hr hk ho hs;refine calls_of_wp hf hb ?_;refine wp_mono (hw _ E _ w rfl (An.start hn ha H hr hk ho hs)) fun e a w' ⟨E',fr',g,hq,C'⟩=>?_
 cases e with
 | normal=>exact (C'.nev hq).elim
 | ret=>exact (C'.nev hq).elim
 | exit id=>exact hq
 | goto l=>exact hq
 | panic ch =>
  obtain⟨rfl,k3,k4⟩:=hq;refine⟨C'.defers,E',u,rfl,?_,by simp[V.Rep,D.RepV,D.Rep,hu],by simp[V.keys],?_,fun k hk hsm=>?_,fun k b hb=>?_⟩
  ·exact C'.heap.sub k3 k4
  ·exact C'.ext
  ·obtain⟨g0,g1,g2,g3⟩:=C'.keep k hk (k3.isSome hsm);refine⟨g0,g1,fun m hm=>?_,fun sz n hv=>g3 sz n (k3.verRow hv)⟩;obtain⟨m',l1,l2,l3⟩:=g2 m hm;exact⟨m',k3.verAny hsm l1,l2,l3⟩
  ·exact C'.fresh k b (k3.Ai hb)
 | outgrown=>exact hq.elim
end
section
variable {P:Program} {n:Nat} {dr:Bool} {ops:Array Oper} {rest:List Oper} {log:List Rec} {K:Exit→Fr→Hp→Prop} {fr:Fr} {h:Hp}
variable {ty:TypeId} {pos:String} {after:Array Edge} {g:Option (Nat×Bool)}
theorem ZqL {d:Tmp} {u0:Value} (exf:List (Nat×V)) (extra:List (Nat×Option Ob)) {fop:Operand} {xs:List Operand} {args:Array Operand} {ats:Array TypeId} {vs caps cargs:List V} {f:FuncId} {hc hc':Hp} (φ:List (Nat×Nat)) {objs:List (Nat×Option Ob)} {fz:Hp} {W:List Nat}
  (hg:gOk ops fr g) (hd:Nat.blt d n=true) (hxs:args.toList=xs) (hf:oev fr fop=.fn (.func f) [] caps) (hx:oevs fr xs vs) (h1:xs.all ZaP=true) (hA:APan P f cargs hc u0 hc') (ha:As φ h (vs++caps) cargs objs fz W)
  (hlink:LinkH h φ hc) (hnew:NewH h (ZbA φ hc hc')) (hok:Ze8 φ hc hc' fz W=true) (hin:(hpIn hc hc && V.insides hc cargs)=true) (hcl:W=[]∨HpClean hc') {hd':Hp} (hh:Hp.ren φ hc'++fz=hd') (hex:Am h extra) (hexf:∀ p∈exf,fget fr p.1=p.2)
  (hpn:∀ fr' h',(∀ p∈exf,fget fr' p.1=p.2)→Am h' extra→K (.panic [{ v:=u0,recovered:=false }]) fr' (hd'++h'))
  (hr:dops P n dr ops rest (⟨(gIns ops g++(ZaG fop (.fn (.func f) [] caps)++(Zaq xs vs++exf))).map Prod.fst,[d],(ZbL φ hc hc' objs++extra).map Prod.fst,[]⟩::log) K ((d,never)::fr) h) :
  dops P n dr ops (⟨some d,.call { callee:=.value fop,args:=args,argTypes:=ats },ty,pos,after,g⟩::rest) log K fr h:=by
 have hargs:args=xs.toArray:=by rw[←hxs]
 subst hargs;subst hh;simp only[Hr] at hin;have hnewo:Am h ((ZbA φ hc hc').map (fun k=>(k,(none:Option Ob)))):=fun p hp=>by
  obtain⟨k,hk,rfl⟩:=List.mem_map.1 hp;exact hnew.get k hk
 refine ZaA (ins:=gIns ops g++(ZaG fop (.fn (.func f) [] caps)++(Zaq xs vs++exf))) (objs:=ZbL φ hc hc' objs++extra) (v:=never) (upd:=[]) ?_ (Zc7 hg (fun p hp=>(List.mem_append.1 hp).elim (ZbN hf p) (fun hp=>(List.mem_append.1 hp).elim (ZbK hx p) (hexf p))))
  (Am.append.2 ⟨Am.append.2 ⟨LinkH.iff.1 hlink,Am.append.2 ⟨hnewo,ha.objs⟩⟩,hex⟩) hr
 intro G E fr' h' a w K Q hPan hn C hi ho hK;have hgo:gOk ops fr' g:=Zh5 hg (fun p hp=>hi p (List.mem_append.2 (.inl hp)));have hoe:=Am.append.1 (show Am h' (ZbL φ hc hc' objs++extra) from ho);have ho':=Am.append.1 (show Am h' (ZbL φ hc hc' objs) from hoe.1);have ho'':=Am.append.1 ho'.2;have ha':=ha.of ho''.2;have hlink':LinkH h' φ hc:=LinkH.iff.2 ho'.1;have hf':=ZcE hf (fun p hp=>hi p (List.mem_append.2 (.inr (List.mem_append.2 (.inl hp)))));have hx':=Zcy hx (fun p hp=>hi p (List.mem_append.2 (.inr (List.mem_append.2 (.inr (List.mem_append.2 (.inl hp)))))));have hxf':∀ p∈exf,fget fr' p.1=p.2:=fun p hp=>hi p (List.mem_append.2 (.inr (List.mem_append.2 (.inr (List.mem_append.2 (.inr hp))))))
 simp only[Ze8,Hr] at hok;obtain⟨⟨⟨⟨⟨⟨c1,c2⟩,c3⟩,c4⟩,c5⟩,c6⟩,c7⟩:=hok;have C1:=C.frozs ha'.fz;have hoff:∀ k,(∀ p∈fz,p.1≠k)→Ah (fz++h') k=Ah h' k:=fun k hk=>by
  rw[ZaL,ZcD (fun hm=>by obtain⟨p,hp,e⟩:=List.mem_map.1 hm;exact hk p hp e)]
 have hlinkz:LinkH (fz++h') φ hc:=by
  refine LinkH.iff.2 (fun p hp=>?_);rw[hoff p.1 (fun q hq e=>?_)]
  ·exact ho'.1 p hp
  ·have hmem:∀ {l:Hp},p∈Zcd φ l→∃ q∈l,renK φ q.1=p.1:=by
    intro l
    induction l with
    | nil=>intro hp;simp[Zcd] at hp
    | cons q l ih =>
     intro hp;obtain⟨j,ob⟩:=q;simp only[Zcd,Gq] at hp;rcases hp with rfl|hp
     ·exact⟨_,HT,rfl⟩
     ·obtain⟨q,hq,e⟩:=ih hp;exact⟨q,HK _ hq,e⟩
   obtain⟨q',hq',e'⟩:=hmem hp;have:=List.all_eq_true.1 (List.all_eq_true.1 c5 q hq) q' hq';rw[e,e',Gt] at this;simp at this
 have hnewz:NewH (fz++h') (ZbA φ hc hc'):=by
  have key:∀ (l:List Nat),(∀ k∈l,Ah h' k=none)→NewH (fz++h') l:=by
   intro l
   induction l with
   | nil=>intro _;trivial
   | cons k l ih =>
    intro hl;refine⟨?_,ih (fun j hj=>hl j (HK _ hj))⟩;rw[hoff k (fun p hp e=>?_)]
    ·exact hl k HT
    ·obtain⟨_,_,_,_,q⟩:=ha'.fz p hp;rw[e,hl k HT] at q;cases q
  exact key _ (fun k hk=>ho''.1 (k,none) (List.mem_map.2 ⟨k,hk,rfl⟩))
 have hWf:∀ k∈W,k ∉ fz.map Prod.fst:=fun k hk hm=>by
  obtain⟨p,hp,rfl⟩:=List.mem_map.1 hm;have:=List.all_eq_true.1 (List.all_eq_true.1 c7 p hp) _ hk;simp at this
 obtain⟨r1,_⟩:=C1.oev hf' (Zao (Zap hf rfl));obtain⟨r2,_⟩:=ZdB C1 hx' h1;simp only[V.Rep] at r1;obtain⟨af,cf,e1,e2,e3⟩:=r1;simp only[V.Reps] at e2;subst e2;have hus:=r2.append e3;have hcall:=C1.call hA φ W hlinkz hnewz c1 hin.1 c2 c3 c4 (fun k hk=>⟨?_,fun q hq e=>?_⟩) (hcl.imp id (fun q=>⟨trivial,q⟩)) (us:=xs.map a.eval++cf) (fun Ec M L hAl hvw=>ha'.rep C1 ha'.fz L hAl hvw (fun _ hp=>hp) (fun _ hk=>hk) hWf (V.insides_spec hin.2) hus) (V.insides_spec hin.2)
 ·unfold wpS;rw[Hb (Zcs (o:=⟨some d,_,ty,pos,after,g⟩) C hgo)];refine .inl ?_;unfold Oper.wp;rw[ZoE hA.1 a.eval cf e1];simp only[Oper.upon];refine hcall.mono ?_;rintro e w' ⟨E',u,rfl,C',hru,hku⟩;have hq:=hpn fr' h' hxf' hoe.2;simp only[V.ren,V.Rep,D.RepV,D.Rep,Hz,HA] at hru;rw[hru.1];refine hPan _ E' fr' _ a w' hq ?_;rw[HH];exact C'
 ·obtain⟨e,sz,xs',q⟩:=ha'.vwRow k hk;exact⟨e,sz,xs',by rw[hoff k (fun p hp e=>hWf k hk (List.mem_map.2 ⟨p,hp,e⟩))];exact q⟩
 ·have:=List.all_eq_true.1 (List.all_eq_true.1 c6 k hk) q hq;rw[e,Gt] at this;simp at this
end
section
variable {P:Program} {n:Nat} {dr:Bool} {ops:Array Oper} {rest:List Oper} {log:List Rec} {K:Exit→Fr→Hp→Prop} {fr:Fr} {h:Hp}
variable {d:Nat} {ty:TypeId} {pos:String} {after:Array Edge} {g:Option (Nat×Bool)}
def Zj0:TypeDesc→Bool
 | .interface _=>false
 | _=>true
theorem Zse {x:Operand} {xt:TypeId} {v:V} {u:Value} {ds:TypeDesc} (hdn:Nat.blt d n=true) (hg:gOk ops fr g) (hx:oev fr x=v) (hv:vval v=some u) (h1:ZaP x=true) (hu:P.underlying xt=some ds) (hi:Zj0 ds=true)
  (hr:dops P n dr ops rest (⟨(gIns ops g++Zaq [x] [v]).map Prod.fst,[d],[],[]⟩::log) K ((d,.d (.raw (.iface xt u)))::fr) h):dops P n dr ops (⟨some d,.makeInterface xt x,ty,pos,after,g⟩::rest) log K fr h:=by
 refine ZFm [x] [v] [u] (.iface xt u) (by simp[ZvJ,hv]) (fun ρ w hρ=>?_) rfl hdn hg ⟨hx,trivial⟩ (by simp[h1]) hr;simp only[Hm,HF,Hz,HA] at hρ;cases ds <;> first
  | (simp[Zj0] at hi;done)
  | simp only[execOp,hρ,Instr.makeInterface,Sem.run_bind,run_underlying hu,Result.andThen_ok,Sem.run_pure]
def Zgy:Value→Option Bool
 | .nilIface=>some true
 | .iface _ _=>some false
 | _=>none
theorem ZoJ {x:Operand} {xt yt:TypeId} {u:Value} {b:Bool} {ms} (hdn:Nat.blt d n=true) (hg:gOk ops fr g) (hx:oev fr x=.d (.raw u)) (hb:Zgy u=some b) (hu:P.underlying xt=some (.interface ms))
  (hr:dops P n dr ops rest (⟨(gIns ops g++Zaq [x,.const .nilIface] (raws [u,.nilIface])).map Prod.fst,[d],[],[]⟩::log) K ((d,B (!b))::fr) h):dops P n dr ops (⟨some d,.binOp .neq xt x (.const .nilIface) yt,ty,pos,after,g⟩::rest) log K fr h:=by
 refine Zr9 [x,.const .nilIface] [u,.nilIface] (.bool !b) (fun ρ w hρ=>?_) rfl hdn hg ⟨hx,rfl,trivial⟩ ?_ hr
 ·simp only[Hm,HF,Hz,HA] at hρ;have e:(Op.equal xt u .nilIface).run P w=.ok b w:=by
   unfold Op.equal;rw[show Op.maxDepth=9999+1 from rfl];unfold Op.equalIn;cases u <;> simp only[Zgy,Hx,reduceCtorEq] at hb
   ·subst hb;simp only[Sem.run_bind,run_underlying hu,Result.andThen_ok,Sem.run_pure]
   ·subst hb;simp only[Sem.run_bind,run_underlying hu,Result.andThen_ok,Sem.run_pure]
  have eg:(eqGuard .neq xt x (.const .nilIface) u .nilIface).run P w=.ok () w:=by
   unfold eqGuard;cases u <;> simp only[Zgy,Hx,reduceCtorEq] at hb <;> cases x <;> rfl
  have eb:(binOp .neq xt u .nilIface).run P w=.ok (.bool !b) w:=by
   cases u <;> simp only[Zgy,Hx,reduceCtorEq] at hb <;> simp[binOp,go_sem,e]
  simp only[execOp,Sem.run_bind,hρ.1,hρ.2,eg,eb,Result.andThen_ok,Sem.run_pure]
 ·simp only[GG,List.all_nil,Zap hx rfl];rfl
theorem ZqM {E:Env} {h:Hp} {M:Bars} {w:World}:∀ {us:List Value},(∀ u∈us,u.oneCell'=true)→V.Reps E h M w (raws us) us
 | [],_=>by simp[raws,V.Reps]
 | u::us,hu=>by
  have:=ZqM (E:=E) (h:=h) (M:=M) (w:=w) (us:=us) (fun x hx=>hu x (by simp[hx]));simp only[raws,Hm,V.Reps,V.Rep,D.RepV,D.Rep] at this ⊢;exact⟨u,us,rfl,⟨rfl,hu u (by simp)⟩,this⟩
theorem Zm6:∀ (us:List Value),V.keyss (raws us)=[]
 | []=>rfl
 | u::us=>by simpa[raws,V.keyss,V.keys] using Zm6 us
theorem Zt2 {x:Operand} {xt at_:TypeId} {us:List Value} {cs:List V} {ds:TypeDesc} (hdn:Nat.blt d n=true) (hg:gOk ops fr g) (hx:oev fr x=.d (.raw (.iface at_ (.agg us.toArray)))) (hu:P.underlying at_=some ds) (hi:Zj0 ds=true) (hus:us.all (·.oneCell')=true) (hcs:raws us=cs)
  (hr:dops P n dr ops rest (⟨(gIns ops g++ZaG x (.d (.raw (.iface at_ (.agg us.toArray))))).map Prod.fst,[d],[],[]⟩::log) K ((d,.tup [.agg cs,B true])::fr) h):dops P n dr ops (⟨some d,.typeAssert x xt at_ true,ty,pos,after,g⟩::rest) log K fr h:=by
 subst hcs;refine ZaA (ins:=gIns ops g++ZaG x (.d (.raw (.iface at_ (.agg us.toArray))))) (objs:=[]) (v:=.tup [.agg (raws us),B true]) (upd:=[]) (LStep.pure rfl hdn rfl hg (ZaG x _) [] _ fun G E fr' h' a w C hi' _=>?_) (fun p hp=>?_) (by simp) hr
 ·obtain⟨r1,_⟩:=C.oev (ZcE hx hi') (Zao (Zap hx rfl));simp only[V.Rep,D.RepV,D.Rep,Hz,HA] at r1;have hone:∀ u∈us,u.oneCell'=true:=fun u hu=>List.all_eq_true.1 hus u hu
  refine⟨.tuple #[.agg us.toArray,.bool true],?_,?_,?_⟩
  ·cases ds <;> first
    | (simp[Zj0] at hi;done)
    | simp[execOp,r1.1,Instr.typeAssert,Sem.run_bind,run_underlying hu,Result.andThen_ok,Sem.run_pure]
  ·simp only[V.Rep,V.Reps];exact⟨_,rfl,_,_,rfl,⟨us,rfl,ZqM hone,hone⟩,_,_,rfl,by simp[D.RepV,D.Rep,Value.oneCell'],rfl⟩
  ·simp[V.keys,V.keyss,Zm6 us]
 ·rcases List.mem_append.1 hp with hp|hp
  ·exact ZdL hg p hp
  ·exact ZbN hx p hp
theorem Zsf {x:Operand} {t:TypeId} {v:Value} (extra:List (Nat×Option Ob)) (k:Nat) (hg:gOk ops fr g) (hx:oev fr x=.d (.raw (.iface t v))) (hex:Am h extra)
  (hpn:∀ fr' h',Am h' extra→K (.panic [{ v:=.iface t v,recovered:=false }]) fr' h')
  (hr:dops P n dr ops rest (⟨(gIns ops g++ZaG x (.d (.raw (.iface t v)))).map Prod.fst,[],extra.map Prod.fst,[k]⟩::log) K fr ((k,.box 0 [never])::h)):dops P n dr ops (⟨none,.panic x,ty,pos,after,g⟩::rest) log K fr h:=by
 refine ZaA (ins:=gIns ops g++ZaG x (.d (.raw (.iface t v)))) (objs:=extra) (v:=.junk) (upd:=[(k,.box 0 [never])]) ?_ (fun p hp=>?_) hex hr
 ·intro G E fr' h' a w K Q hPan hn C hi ho hK;have hgo:gOk ops fr' g:=Zh5 hg (fun p hp=>hi p (List.mem_append.2 (.inl hp)));obtain⟨r1,_⟩:=C.oev (ZcE hx (fun p hp=>hi p (List.mem_append.2 (.inr hp)))) (Zao (Zap hx rfl));simp only[V.Rep,D.RepV,D.Rep,Hz,HA] at r1;unfold wpS;rw[Hb (Zcs C hgo)];refine .inl ?_;unfold Oper.wp;have he:(execOp a.eval ⟨none,.panic x,ty,pos,after,g⟩).run P w=.halt (.panic (.iface t v)) w:=by
   simp only[execOp,r1.1,Instr.panic];rfl
  rw[he];exact hPan _ E fr' h' a w (hpn fr' h' ho) C
 ·rcases List.mem_append.1 hp with hp|hp
  ·exact ZdL hg p hp
  ·exact ZbN hx p hp
end
def ADefer (P:Program) (f:FuncId) (args:List V) (h:Hp) (m m':FrameMode) (h':Hp):Prop :=
 ∀ (E:Env) (w:World) (us:List Value) (o:Bars),HRep E h o w→V.Reps E h (bars E h o) w args us→(∀ k∈V.keyss args,(Ah h k).isSome=true) →
  (∀ t b,o t b→b < w.heap.size∧¬ Live E h b)→(∀ b,o true b→o false b) →
  CallsD P f us.toArray m w fun e m'' w'=>∃ E' v,e=.returned v∧m''=m'∧HRep E' h' o w'∧Ext (Live E h) w w'∧Hist E h E' h'∧(∀ k b,Ai E' h' k b→Live E h b∨w.heap.size≤b)
section
variable {P:Program} {n:Nat}
inductive ZoK:FrameMode→Value→FrameMode→Prop
 | nil:ZoK .returning .nilIface .returning
 | pan (v:Value):ZoK (.panicking [{ v:=v,recovered:=false }]) v (.panicking [{ v:=v,recovered:=true }])
theorem ADefer.intro {f:FuncId} {fn:Func} {id:Nat} {rest:Code} {args:List V} {h h':Hp} {m m':FrameMode} {v:Value} {d1 d2:Nat} {o1 o2:Op} {ty1 ty2:TypeId} {p1 p2:String} {af1 af2:Array Edge} (hf:P.funcs[f]? = some fn)
  (hb:fn.body=some (.seq (.region id #[⟨some d1,o1,ty1,p1,af1,none⟩,⟨some d2,o2,ty2,p2,af2,none⟩] false) rest)) (hn:fn.ntmps=n) (ha:args.length≤n)
  (ho:∀ (ρ:Operand→Value) (w:World),(execOp ρ ⟨some d1,o1,ty1,p1,af1,none⟩).run P w=.ok .recover w) (ho2:∀ (ρ:Operand→Value) (w:World),(execOp ρ ⟨some d2,o2,ty2,p2,af2,none⟩).run P w=.ok (.value (ρ (.tmp d1))) w) (h1:Nat.blt d1 n=true) (h2:Nat.blt d2 n=true) (hm:ZoK m v m') (hv:v.oneCell'=true) (hres:fn.results.toList=[])
  (hw:aw P n rest (Fin P fn (.tup []) h') ((d2,.d (.raw v))::(d1,.d (.raw v))::Zal 0 args) h):ADefer P f args h m m' h':=by
 intro E w us o H hr hk hoo hs;refine callsD_of_wpS hf hb fun c₀ cs hc₀=>wpS_seq (wpS_region ?_)
 have C:=An.start (n:=n) hn ha H hr hk hoo hs;have hrv:∀ {w':World} {E':Env} {g:Hp} {M:Bars},V.Rep E' g M w' (.d (.raw v)) v:=fun {w' E' g M}=>by simp[V.Rep,D.RepV,D.Rep,hv]
 have C1:=C.put (d:=d1) (v:=.d (.raw v)) (u:=v) (by simpa[HU] using h1) hrv (by simp[V.keys]);have C2:=C1.put (d:=d2) (v:=.d (.raw v)) (u:=v) (by simpa[HU] using h2) hrv (by simp[V.keys]);have hget1:∀ (a:Act),a.tmps.size=n→(a.put (some d1) v).tmps.getD d1 undef=v:=fun a ha=>by rw[ZfA (by rw[ha];simpa[HU] using h1),Hb rfl]
 generalize hA:({ tmps:=us.toArray++Array.replicate (fn.ntmps - us.toArray.size) undef,defers:=[] }:Act)=a at *;have fin:∀ (cs':List Frame),cs'={ c₀ with mode:=m' }::cs→rest.wpS P (bodyPostS P fn c₀ cs fun e m'' w'=>∃ E' v,e=.returned v∧m''=m'∧HRep E' h' o w'∧Ext (Live E h) w w'∧Hist E h E' h'∧(∀ k b,Ai E' h' k b→Live E h b∨w.heap.size≤b)) ((a.put (some d1) v).put (some d2) v) cs' w:=by
  rintro cs' rfl;refine wpS_of_wp (wp_mono (hw _ E _ w rfl C2) fun e a' w' ⟨E',fr',g,hq,C'⟩=>?_);have key:(∃ vs,Results P fr' g fn.results.toList vs∧Co g (resV vs) (.tup [])∧HLe g h'∧((V.tup []).inside h' && hpIn h' h')=true)→a'.defers=[]∧∃ u',({ c₀ with mode:=m' }:Frame)::cs={ c₀ with mode:=u' }::cs∧∃ v,(results fn a'.tmps).run P w'=.ok v w' ∧
    ∃ E' v',Ending.returned v=.returned v'∧u'=m'∧HRep E' h' o w'∧Ext (Live E h) w w'∧Hist E h E' h'∧(∀ k b,Ai E' h' k b→Live E h b∨w.heap.size≤b):=by
   rintro⟨vs,k1,k2,k3,k4⟩;simp only[Hr] at k4;obtain⟨u,q1,q2,q3⟩:=Zei C' rfl k1;refine⟨C'.defers,m',rfl,u,q1,E',u,rfl,rfl,C'.heap.sub k3 k4.2,C'.ext,fun k hk hsm=>?_,fun k b hb=>C'.fresh k b (k3.Ai hb)⟩;obtain⟨g0,g1,g2,g3⟩:=C'.keep k hk (k3.isSome hsm);refine⟨g0,g1,fun m hm=>?_,fun sz n hv=>g3 sz n (k3.verRow hv)⟩;obtain⟨m1,l1,l2,l3⟩:=g2 m hm;exact⟨m1,k3.verAny hsm l1,l2,l3⟩
  cases e with
  | normal=>exact key hq
  | ret=>exact key hq
  | exit id=>exact hq
  | goto l=>exact hq
  | panic ch=>exact hq.elim
  | outgrown=>exact hq.elim
 have hsz:a.tmps.size=n:=C.size;have step2:∀ cs',cs'={ c₀ with mode:=m' }::cs→wpOpsS P #[⟨some d1,o1,ty1,p1,af1,none⟩,⟨some d2,o2,ty2,p2,af2,none⟩] (Exit.thenS (rest.wpS P (bodyPostS P fn c₀ cs fun e m'' w'=>∃ E' v,e=.returned v∧m''=m'∧HRep E' h' o w'∧Ext (Live E h) w w'∧Hist E h E' h'∧(∀ k b,Ai E' h' k b→Live E h b∨w.heap.size≤b))) (bodyPostS P fn c₀ cs fun e m'' w'=>∃ E' v,e=.returned v∧m''=m'∧HRep E' h' o w'∧Ext (Live E h) w w'∧Hist E h E' h'∧(∀ k b,Ai E' h' k b→Live E h b∨w.heap.size≤b))) [1] (a.put (some d1) v) cs' w:=by
  intro cs' hcs;have hev:(execOp (a.put (some d1) v).eval ⟨some d2,o2,ty2,p2,af2,none⟩).run P w=.ok (.value v) w:=by
   have:=hget1 a hsz;rw[ho2];simp only[Act.eval];rw[this]
  simp only[wpOpsS,JU,JS,G3,Region.wanted,if_true,hev];exact fin cs' hcs
 show wpOpsS P _ _ [0,1] a (c₀::cs) w;rw[wpOpsS];simp only[JU,G3,Region.wanted,if_true,ho];cases hm with
 | nil =>
  rw[show recoverD (c₀::cs)=none by simp[recoverD,hc₀]];refine step2 _ ?_;rw[←hc₀]
 | pan v =>
  rw[show recoverD (c₀::cs)=some (v,{ c₀ with mode:=.panicking [{ v:=v,recovered:=true }] }::cs) by simp[recoverD,hc₀]];exact step2 _ rfl
end
section
variable {P:Program} {n:Nat}
def EndD (P:Program) (r:V) (G:Ctx):Ending→World→Prop:=fun e w'=>∃ E' u,e=.returned u∧HRep E' [] G.o w'∧V.Rep E' [] (bars E' [] G.o) w' r u∧Ext G.S G.w0 w'
def awT (P:Program) (fn:Func) (r:V) (G:Ctx) (c:Code) (fr:Fr) (h:Hp):Prop:=∀ (E:Env) (a:Act) (w:World),An G E fr h a w→c.wp P (bodyPostD P fn (EndD P r G)) a w
variable {fn:Func} {r:V} {G:Ctx} {fr:Fr} {h:Hp}
theorem Zt3 {E:Env} {o:Bars} {w:World}:HRep E [] o w:=⟨fun k ob hk=>by simp[Ah] at hk,fun k k' b hk=>by simp[Ai,Ah] at hk,fun k ob hk=>by simp[Ah] at hk⟩
theorem Zsg {E E':Env} {h:Hp} {M M':Bars} {w:World} {v:V} {u:Value} (hk:v.keys=[]) (hM:∀ t b,M' t b→M t b) (hr:V.Rep E h M w v u):V.Rep E' [] M' w v u:=by
 have T:Trans E h M w E' [] M' w:=⟨fun k _ hs=>by simp[Ah] at hs,fun k hs=>by simp[Ah] at hs,fun k _ sz n hv=>by rcases hv with ⟨_,_,h1,_⟩|⟨_,_,_,_,h1,_⟩ <;> simp[Ah] at h1,⟨fun t k _ hm=>⟨rfl,fun hx=>hm (hM t k hx)⟩,Hg _⟩⟩
 exact V.Rep.move T (by rw[hk];simp) (by rw[hk];simp) hr
theorem ZDt {E:Env} {a:Act} {w:World} (C:An G E fr h a w) (hrk:r.keys=[]) {vs:List V} (h1:Results P fr h fn.results.toList vs) (h2:Co h (resV vs) r):∃ v,(results fn a.tmps).run P w=.ok v w∧EndD P r G (.returned v) w:=by
 obtain⟨u,q1,q2,q3⟩:=Zei C rfl h1;refine⟨u,q1,E,u,rfl,Zt3,?_,C.ext⟩;exact Zsg hrk (fun t b hb=>by
                   rcases hb with ⟨k,hk⟩|hb;· simp[Ai,Ah] at hk
                   ·exact .inr hb) (h2 E G.o w u C.heap C.sub q2)
theorem Zbk {x y:Code} (hG:G.df=[]) (hrk:r.keys=[]) (hx:aw P G.n x (andThen (awT P fn r G y) (Fin P fn r [])) fr h):awT P fn r G (.seq x y) fr h:=fun E a w C=>by
 refine wp_seq (wp_mono (hx G E a w rfl C) fun e a' w' ⟨E',fr',g,hq,C'⟩=>?_);have key:(∃ vs,Results P fr' g fn.results.toList vs∧Co g (resV vs) r∧HLe g []∧(r.inside [] && hpIn [] [])=true)→Leaves P fn a'.tmps (EndD P r G) a'.defers .returning w':=by
  rintro⟨vs,k1,k2,_,_⟩;rw[C'.defers,hG];exact ZDt C' hrk k1 k2
 cases e with
 | normal=>exact hq E' a' w' C'
 | ret=>exact key hq
 | exit id=>exact hq.elim
 | goto l=>exact hq.elim
 | panic ch=>exact hq.elim
 | outgrown=>exact hq.elim
theorem Af.introD {f:FuncId} {c:Code} {args:List V} (hf:P.funcs[f]? = some fn) (hb:fn.body=some c) (hn:fn.ntmps=n) (ha:args.length≤n) (hnm:(fn.name == "runtime.NumGoroutine")=false) (hrk:r.keys=[])
  (hw:∀ G:Ctx,G.n=n→G.df=[]→awT P fn r G c (Zal 0 args) []):Af P f args [] r []:=by
 refine⟨⟨fn,hf,hnm,by rw[hb];rfl⟩,?_⟩;intro E w us o H hr hk ho hs;have h1:=calls_of_wp_defers hf hb (hw _ rfl rfl E _ w (An.start hn ha H hr hk ho hs));refine h1.mono fun e w' ⟨E',u,h2,h3,h4,h5⟩=>⟨E',u,h2,h3,h4,by rw[hrk];simp,h5,fun k _ hs=>by simp[Ah] at hs,fun k b hb=>by simp[Ai,Ah] at hb⟩
def DFin (m:FrameMode) (frd:Fr) (hd:Hp):Exit→Fr→Hp→Prop
 | .normal,fr,h|.ret,fr,h=>Nev fr h∨(m=.returning∧FLe fr frd∧HLe h hd)
 | .panic ch,fr,h=>m=.panicking ch∧FLe fr frd∧HLe h hd
 | _,_,_=>False
def FrRen (φ:List (Nat×Nat)) (fr:Fr) (d1:Nat):Fr→Prop
 | []=>True
 | (i,v)::q=>(Nat.beq i d1=false∧fget fr i=v.ren φ)∧FrRen φ fr d1 q
theorem FrRen.get {φ:List (Nat×Nat)} {d1:Nat}:∀ {frc:Fr},FrRen φ fr d1 frc→∀ i,fget frc i=.junk∨(i≠d1∧fget fr i=(fget frc i).ren φ)
 | [],_,_=>.inl rfl
 | (j,v)::q,hq,i=>by
  by_cases e:j=i
  ·subst e;rw[Zbc];exact .inr ⟨fun e=>(by have:=hq.1.1;rw[e,Gt] at this;cases this),hq.1.2⟩
  ·rw[Za8 _ _ e];exact FrRen.get hq.2 i
def ZgG:List (Nat×Nat)→Fr
 | []=>[]
 | (i,k)::r=>(i,.ptr k 0)::ZgG r
def ZoL (h:Hp):List (Nat×Nat)→Bool
 | []=>true
 | (_,k)::r=>Nat.ble 1000 k && Zh4 h k && ZoL h r
theorem Zlx {h:Hp}:∀ {l:List (Nat×Nat)},ZoL h l=true→∀ i,fget (ZgG l) i=.junk∨∃ k,fget (ZgG l) i=.ptr k 0∧1000≤k∧(Ah h k).isSome=true
 | [],_,_=>.inl rfl
 | (j,k)::r,hq,i=>by
  simp only[ZoL,Hr] at hq;simp only[ZgG];by_cases e:j=i
  ·subst e;rw[Zbc];exact .inr ⟨k,rfl,Jf hq.1.1,hasKey_spec.1 hq.1.2⟩
  ·rw[Za8 _ _ e];exact Zlx hq.2 i
theorem Zh9 {h:Hp}:∀ {l:List (Nat×Nat)},ZoL h l=true→frIn h (ZgG l)=true
 | [],_=>rfl
 | (j,k)::r,hq=>by
  simp only[ZoL,Hr] at hq;simp only[ZgG,frIn,V.inside,Hr];exact⟨hq.1.2,Zh9 hq.2⟩
def ptrs (ks:List Nat):List V:=ks.map fun k=>.ptr k 0
theorem Zly {E:Env} {h:Hp} {M:Bars} {w:World}:∀ (ks:List Nat),V.Reps E h M w (ptrs ks) (ks.map fun k=>.pointer (some ⟨E.blk k,0,none⟩))
 | []=>by simp[ptrs,V.Reps]
 | k::ks=>by
  have:=Zly (E:=E) (h:=h) (M:=M) (w:=w) ks;simp only[ptrs,Hm,V.Reps,V.Rep] at this ⊢;exact⟨_,_,rfl,rfl,this⟩
theorem Zlz:∀ (ks:List Nat),V.keyss (ptrs ks)=ks
 | []=>rfl
 | k::ks=>by have:=Zlz ks;simp only[ptrs,Hm,V.keyss,V.keys] at this ⊢;rw[this];rfl
theorem ZlA {E:Env} {h:Hp} {M:Bars} {w:World}:∀ {ks:List Nat} {us:List Value},V.Reps E h M w (ptrs ks) us→us=ks.map fun k=>.pointer (some ⟨E.blk k,0,none⟩)
 | [],us,hr=>by simpa[ptrs,V.Reps] using hr
 | k::ks,us,hr=>by
  simp only[ptrs,Hm,V.Reps,V.Rep] at hr;obtain⟨x,y,rfl,rfl,h3⟩:=hr;rw[ZlA h3];rfl
def Zt4 (h:Hp) (ks:List Nat):Bool:=ks.all fun k=>Nat.ble 1000 k && Zh4 h k
set_option maxHeartbeats 1000000 in
theorem ZqN {rid:Nat} {rest:Code} {d1:Nat} {fd:FuncId} {xs:List Operand} {cap:Array Operand} {o2:Op} {dst2:Option Tmp} {ty1 ty2:TypeId} {p1 p2:String} {af1 af2:Array Edge}
  (φ:List (Nat×Nat)) (hc:Hp) (frc:Fr) (ks:List Nat) (m m':FrameMode) (rs:List (Nat×Nat)) (hd hd':Hp) (hG:G.df=[]) (hrk:r.keys=[]) (hcap:cap.toList=xs) (hx:oevs fr xs (ptrs (ks.map (renK φ)))) (h1:xs.all ZaP=true) (hd1:Nat.blt d1 G.n=true) (hd2:dst2=none)
  (ho2:∀ (ρ:Operand→Value) (cs:Array Value) (w:World),ρ (.tmp d1)=.func (.func fd) #[] cs→(execOp ρ ⟨dst2,o2,ty2,p2,af2,none⟩).run P w=.ok (.defer { target:=.fn (.func fd) cs,args:=#[] }) w)
  (hok:FnOk P fd) (hlink:LinkH h φ hc) (hhigh:ZfD hc=true) (hin:hpIn hc hc=true) (hinj:injB φ (hc.map Prod.fst)=true) (hfr:FrRen φ fr d1 frc) (hfi:frIn hc frc=true) (hks:Zt4 hd ks=true) (hkc:Zt4 hc ks=true)
  (hrs:ZoL hd rs=true) (hrs':ZoL hd' rs=true) (hdi:hpIn hd hd=true) (hm:settle m'=.returning) (hmr:m≠.run)
  (hD:ADefer P fd (ptrs ks) hd m m' hd') {vs:List V} (hres:Results P (ZgG rs) hd' fn.results.toList vs) (hco:Co hd' (resV vs) r) (hdi':hpIn hd' hd'=true)
  (hrest:aw P G.n rest (DFin m (ZgG rs) hd) frc hc) :
  awT P fn r G (.seq (.region rid #[⟨some d1,.makeFunc (.func fd) #[] cap,ty1,p1,af1,none⟩,⟨dst2,o2,ty2,p2,af2,none⟩] false) rest) fr h:=by
 subst hd2;intro E a w C
 let Ec:Env:=⟨fun k=>E.blk (renK φ k),fun k=>E.row (renK φ k),fun k=>E.fp (renK φ k)⟩
 have L:Link φ Ec hc E h:=⟨fun k hk=>by obtain⟨o,ho⟩:=Option.isSome_iff_exists.1 hk;rw[hlink.get ho,ho];rfl,fun _ _=>rfl,fun _ _=>rfl,fun _ _=>rfl⟩
 have hfoot:∀ b,Live Ec hc b→Live E h b:=fun b ⟨k,hk⟩=>⟨renK φ k,by rw[←L.Ai (ZbI hk)];exact hk⟩
 let oc:Bars:=fun t b=>¬ Live Ec hc b∧((∃ j,Ai E h j b)∨G.o t b)
 have hbars1:∀ t b,¬ bars E h G.o t b→¬ bars Ec hc oc t b:=fun t b hn hb=>by
  rcases hb with hb|⟨_,⟨j,hj⟩|hb⟩
  ·exact hn (.inl (hfoot b hb))
  ·exact hn (.inl ⟨j,hj⟩)
  ·exact hn (.inr hb)
 have hA1:Zew false (bars E h G.o) (bars Ec hc oc):=⟨hbars1 false,fun _=>hbars1 true⟩
 have hinjc:∀ {k k':Nat},(Ah hc k).isSome=true→(Ah hc k').isSome=true→renK φ k=renK φ k'→k=k':=fun {k k'} h1 h2 e=>by
  obtain⟨o1,p1⟩:=Option.isSome_iff_exists.1 h1;obtain⟨o2,p2⟩:=Option.isSome_iff_exists.1 h2;exact Ze9 hinj (List.mem_map.2 ⟨_,ZcM p1,rfl⟩) (List.mem_map.2 ⟨_,ZcM p2,rfl⟩) e
 have Hc:HRep Ec hc oc w:=by
  refine⟨fun k ob hk=>?_,fun k k' b h1 h2=>?_,fun k ob hk j hj=>?_⟩
  ·have hk':=hlink.get hk;have hr:=C.heap.obs _ _ hk';exact ObRep.unren L hA1 (by rw[hk];rfl) (Zc6 hin k _ hk) hr
  ·have k1:=ZbI h1;have k2:=ZbI h2;rw[L.Ai k1] at h1;rw[L.Ai k2] at h2;exact hinjc k1 k2 (C.heap.apart _ _ b h1 h2)
  ·exact Zc6 hin k ob hk j hj
 have hkey:∀ k∈ks,1000≤k∧(Ah hc k).isSome=true:=fun k hk=>by
  have:=List.all_eq_true.1 hkc k hk;simp only[Hr] at this;exact⟨Jf this.1,hasKey_spec.1 this.2⟩
 have hkeyd:∀ k∈ks,(Ah hd k).isSome=true:=fun k hk=>by
  have:=List.all_eq_true.1 hks k hk;simp only[Hr] at this;exact hasKey_spec.1 this.2
 obtain⟨hcv,_⟩:=ZdB C hx h1;have hcv':=ZlA hcv;have hcaps:xs.map a.eval=ks.map fun k=>.pointer (some ⟨Ec.blk k,0,none⟩):=by rw[hcv',H8];rfl
 let cs:Array Value:=(xs.map a.eval).toArray
 let a1:Act:=a.put (some d1) (.func (.func fd) #[] cs)
 have hs1:a1.tmps.size=G.n:=by simp[a1,Act.put,C.size]
 have hdn:d1 < a.tmps.size:=by rw[C.size];simpa[HU] using hd1
 let a2:Act:={ a1 with defers:=[{ target:=.fn (.func fd) cs,args:=#[] }] }
 let G2:Ctx:=⟨G.n,w,Live Ec hc,Ec,hc,oc,[{ target:=.fn (.func fd) cs,args:=#[] }]⟩
 have C2:An G2 Ec frc hc a2 w:=by
  refine⟨hs1,rfl,fun i=>?_,Hc,Zc5 hfi,Ext.refl _ _,fun k b hb=>.inl ⟨k,hb⟩,fun k hk hsm=>⟨hsm,rfl,fun m hm=>⟨m,hm,Hg _,fun _=>rfl⟩,fun sz n hv=>⟨n,hv⟩⟩,fun t b hb=>⟨?_,hb.1⟩,fun b hb=>⟨hb.1,hb.2.imp id (C.sub b)⟩⟩
  ·rcases hfr.get i with e|⟨hne,e⟩
   ·rw[e];simp only[V.Rep]
   ·have hf:=C.frame i;rw[e] at hf;show V.Rep Ec hc (bars Ec hc oc) w (fget frc i) (a1.tmps.getD i undef);rw[ZfA hdn,Ha hne];exact V.Rep.unren L hA1 (Zc5 hfi i) hf
  ·rcases hb.2 with ⟨j,hj⟩|ho
   ·exact C.heap.lt hj
   ·exact Gm (C.outer _ _ ho).1 C.ext.size
 have hoG:∀ t b,G.o t b→oc t b:=fun t b hb=>⟨fun hl=>by
  obtain⟨o1,o2⟩:=C.outer _ _ hb;obtain⟨k,hk⟩:=hfoot b hl;rcases C.fresh k b hk with q|q
  ·exact o2 q
  ·omega,.inr hb⟩
 refine wp_seq (wp_region_list ?_);have hev:(execOp a.eval ⟨some d1,.makeFunc (.func fd) #[] cap,ty1,p1,af1,none⟩).run P w=.ok (.value (.func (.func fd) #[] cs)) w:=by
  have:cap=xs.toArray:=by rw[←hcap]
  subst this;simp[execOp,Instr.makeFunc,cs]
 have hev2:=ho2 a1.eval cs w (by simp only[Act.eval,a1];rw[ZfA hdn,Hb rfl]);refine (?_:wpS P _ _ _ (wpList P _ _ _) a w);unfold wpS;rw[Hb (show Region.wanted _ _=true from rfl)];refine .inl ?_;unfold Oper.wp;rw[hev];refine (?_:wpS P _ _ _ (wpList P _ _ _) a1 w);unfold wpS;rw[Hb (show Region.wanted _ _=true from rfl)];refine .inl ?_;unfold Oper.wp;rw[hev2];have hdf:C.defers.trans hG=C.defers.trans hG:=rfl;have ha2:({ a1 with defers:={ target:=.fn (.func fd) cs,args:=#[] }::a1.defers }:Act)=a2:=by
  have:a1.defers=[]:=by show a.defers=[];rw[C.defers,hG]
  simp only[a2,this]
 show rest.wp P _ (({ a1 with defers:={ target:=.fn (.func fd) cs,args:=#[] }::a1.defers }:Act).put none undef) w;rw[ha2];refine wp_mono (hrest G2 Ec a2 w rfl C2) fun e a3 w3 ⟨E3,fr3,g3,hq,C3⟩=>?_
 have key:FLe fr3 (ZgG rs)→HLe g3 hd→Leaves P fn a3.tmps (EndD P r G) a3.defers m w3:=fun hf hh=>by
  have hfi3:frIn hd (ZgG rs)=true:=Zh9 hrs;have C4:=C3.weak hf hh (by rw[hfi3,hdi];rfl);rw[C3.defers];have hblk:∀ k∈ks,E3.blk k=Ec.blk k:=fun k hk=>(C4.keep k (hkey k hk).1 (hkeyd k hk)).2.1
  have hvals:xs.map a.eval=ks.map fun k=>.pointer (some ⟨E3.blk k,0,none⟩):=by
   rw[hcaps];exact GL fun k hk=>by rw[hblk k hk]
  refine leaves_cons (f:=fd) (args:=cs) hmr ?_ ((hD E3 w3 _ oc C4.heap (by rw[hvals];exact Zly ks) (by rw[Zlz];exact hkeyd) (fun t b hb=>?_) C4.sub).mono ?_)
  ·obtain⟨ff,q1,q2,q3⟩:=hok;have e1:¬ (ff.name="runtime.NumGoroutine"):=by simpa using q2
   have e3:¬ (ff.body=none):=fun e=>by rw[e] at q3;cases q3
   simp[invoke,callFunc,q1,e1,e3]
  ·obtain⟨o1,o2⟩:=C4.outer t b hb;refine⟨Gm o1 C4.ext.size,fun ⟨k,hk⟩=>?_⟩;rcases C4.fresh k b hk with q|q
   ·exact o2 q
   ·exact absurd o1 (by simpa using q)
  ·rintro e m4 w4 ⟨E4,v4,rfl,rfl,H4,hE4,hH4,hfr4⟩;show Leaves P fn a3.tmps (EndD P r G) [] (settle m4) w4;rw[hm]
   let a5:Act:={ a3 with defers:=G2.df }
   have hout:∀ t b,oc t b→b < w4.heap.size∧¬ Live E4 hd' b:=fun t b hb=>by
    obtain⟨o1,o2⟩:=C4.outer t b hb;refine⟨Gm o1 (Hq C4.ext.size hE4.size),fun ⟨k,hk⟩=>?_⟩;rcases hfr4 k b hk with ⟨j,hj⟩|q
    ·rcases C4.fresh j b hj with q|q
     ·exact o2 q
     ·exact absurd o1 (by simpa using q)
    ·have:=C4.ext.size;have:w.heap.size≤w3.heap.size:=this;have:b < w.heap.size:=o1;omega
   have C5:An ⟨G.n,w4,Live E4 hd',E4,hd',oc,G2.df⟩ E4 (ZgG rs) hd' a5 w4:=by
    refine⟨C3.size,rfl,fun i=>?_,H4,Zc5 (Zh9 hrs'),Ext.refl _ _,fun k b hb=>.inl ⟨k,hb⟩,fun k hk hsm=>⟨hsm,rfl,fun m hm=>⟨m,hm,Hg _,fun _=>rfl⟩,fun sz n hv=>⟨n,hv⟩⟩,hout,C4.sub⟩;rcases Zlx hrs' i with e|⟨k,e,hk1,hk2⟩
    ·rw[e];simp only[V.Rep]
    ·have hf:=C4.frame i;rw[e] at hf ⊢;simp only[V.Rep] at hf ⊢;rw[hf,(hH4 k hk1 hk2).2.1]
   obtain⟨u,q1,q2,_⟩:=Zei C5 rfl hres;refine⟨u,q1,E4,u,rfl,Zt3,?_,?_⟩
   ·refine Zsg hrk (fun t b hb=>?_) (hco E4 oc w4 u H4 C4.sub q2);rcases hb with ⟨k,hk⟩|hb
    ·simp[Ai,Ah] at hk
    ·exact .inr (hoG t b hb)
   ·refine (C.ext.trans C3.ext (fun x hx hl=>?_)).trans hE4 (fun x hx hl=>?_)
    ·obtain⟨k,hk⟩:=hfoot x hx;rcases C.fresh k x hk with q|q
     ·exact q
     ·omega
    ·obtain⟨k,hk⟩:=hx;rcases C4.fresh k x hk with q|q
     ·obtain⟨k,hk⟩:=hfoot x q;rcases C.fresh k x hk with q|q
      ·exact q
      ·omega
     ·have:=C.ext.size;have:w.heap.size≤x:=q;omega
 cases e with
 | normal =>
  rcases hq with hv|⟨rfl,hf,hh⟩
  ·exact (C3.nev hv).elim
  ·exact key hf hh
 | ret =>
  rcases hq with hv|⟨rfl,hf,hh⟩
  ·exact (C3.nev hv).elim
  ·exact key hf hh
 | exit id=>exact hq.elim
 | goto l=>exact hq.elim
 | panic ch=>obtain⟨rfl,hf,hh⟩:=hq;exact key hf hh
 | outgrown=>exact hq.elim
end
end Go.Proofs.YtbpmepgnjanhnaaGreat
