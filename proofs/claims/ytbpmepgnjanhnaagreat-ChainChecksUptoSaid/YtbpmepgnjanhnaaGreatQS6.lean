import Derived.Test.YtbpmepgnjanhnaaGreatS5
import Derived.Test.YtbpmepgnjanhnaaGreatQTab
import Derived.Recover
set_option linter.unusedVariables false
set_option linter.unusedSimpArgs false
set_option linter.unusedSectionVars false
namespace Go.Proofs.YtbpmepgnjanhnaaGreat
open Go.RowKit
section
variable {P:Program} {n:Nat} {Q:Exit→Fr→Hp→Prop} {fr:Fr} {h:Hp}
theorem Conc.never {G:Ctx} {E:Env} {a:Act} {w:World} (C:Conc G E fr h a w) {i:Nat} (hi:fget fr i=never):False:=by
 have:=C.frame i
 rw[hi] at this
 simp only[never,V.Rep] at this
 obtain⟨_,_,_,_,h2,_⟩:=this
 simp at h2
def Nev (fr:Fr) (h:Hp):Prop:=(∃ i,fget fr i=never)∨∃ k ty,hget h k=some (.box ty [never])
theorem Nev.slot {fr:Fr} {h:Hp} (i:Nat) (hi:fget fr i=never):Nev fr h:=.inl ⟨i,hi⟩
theorem Nev.obj {fr:Fr} {h:Hp} (k:Nat) {ty:TypeId} (hk:hget h k=some (.box ty [never])):Nev fr h:=.inr ⟨k,ty,hk⟩
theorem Conc.nev {G:Ctx} {E:Env} {a:Act} {w:World} (C:Conc G E fr h a w) (hv:Nev fr h):False:=by
 rcases hv with ⟨i,hi⟩|⟨k,ty,hk⟩
 ·exact C.never hi
 ·obtain⟨us,_,g2,_⟩:=C.heap.obs k _ hk
  simp only[V.Reps,never,V.Rep] at g2
  obtain⟨_,_,_,⟨_,_,_,_,h2,_⟩,_⟩:=g2
  simp at h2
theorem Zrh {c:Code} (hv:Nev fr h):aw P n c Q fr h:=fun _ _ _ _ _ C=>(C.nev hv).elim
theorem Conc.start {fn:Func} {args:List V} {us:List Value} {E:Env} {o:Bars} {w:World} (hn:fn.ntmps=n) (ha:args.length≤n) (H:HRep E h o w) (hr:V.Reps E h (bars E h o) w args us) (hk:∀ k∈V.keyss args,(hget h k).isSome=true)
  (ho:∀ t b,o t b→b < w.heap.size∧¬ Live E h b) (hs:∀ b,o true b→o false b):Conc ⟨n,w,Live E h,E,h,o,[]⟩ E (Zak 0 args) h { tmps:=us.toArray++Array.replicate (fn.ntmps - us.toArray.size) undef,defers:=[] } w:=by
 have hl:=hr.length
 refine⟨by simp[hn];omega,rfl,fun i=>?_,H,fun i k hi=>hk k (Zgi args 0 i k hi),Ext.refl _ _,fun k b hb=>.inl ⟨k,hb⟩,fun k hk hsm=>⟨hsm,rfl,fun m hm=>⟨m,hm,Nat.le_refl _,fun _=>rfl⟩,fun sz n hv=>⟨n,hv⟩⟩,ho,hs⟩
 have:=ZhZ hr 0 i
 rw[if_pos (Nat.zero_le _),Nat.sub_zero] at this
 have e:(us.toArray++Array.replicate (fn.ntmps - us.toArray.size) undef).getD i undef=us.getD i undef:=by
  simp only[Array.getD_eq_getD_getElem?,List.getD_eq_getElem?_getD]
  rw[Array.getElem?_append]
  simp only[List.size_toArray,List.getElem?_toArray,Array.getElem?_replicate]
  by_cases h1:i < us.length
  ·rw[if_pos h1]
  ·rw[if_neg h1,List.getElem?_eq_none (by omega)]
   split <;> rfl
 show V.Rep E h (bars E h o) w _ ((us.toArray++Array.replicate (fn.ntmps - us.toArray.size) undef).getD i undef)
 rw[e];exact this
def PFin (u:Value) (h':Hp):Exit→Fr→Hp→Prop
 | .panic ch,_,h=>ch=[{ v:=u,recovered:=false }]∧HLe h h'∧hpIn h' h'=true
 | .normal,fr,h|.ret,fr,h=>Nev fr h
 | _,_,_=>False
theorem APan.intro {f:FuncId} {fn:Func} {c:Code} {args:List V} {u:Value} {h':Hp} (hf:P.funcs[f]?=some fn) (hb:fn.body=some c) (hn:fn.ntmps=n) (ha:args.length≤n) (hnm:(fn.name == "runtime.NumGoroutine")=false) (hu:u.oneCell'=true)
  (hw:aw P n c (PFin u h') (Zak 0 args) h):APan P f args h u h':=by
 refine⟨⟨fn,hf,hnm,by rw[hb];rfl⟩,?_⟩
 intro E w us o H hr hk ho hs
 refine calls_of_wp hf hb ?_
 refine wp_mono (hw _ E _ w rfl (Conc.start hn ha H hr hk ho hs)) fun e a w' ⟨E',fr',g,hq,C'⟩=>?_
 cases e with
 | normal=>exact (C'.nev hq).elim
 | ret=>exact (C'.nev hq).elim
 | exit id=>exact hq
 | goto l=>exact hq
 | panic ch =>
  obtain⟨rfl,k3,k4⟩:=hq
  refine⟨C'.defers,E',u,rfl,?_,by simp[V.Rep,D.RepV,D.Rep,hu],by simp[V.keys],?_,fun k hk hsm=>?_,fun k b hb=>?_⟩
  ·exact C'.heap.sub k3 k4
  ·exact C'.ext
  ·obtain⟨g0,g1,g2,g3⟩:=C'.keep k hk (k3.isSome hsm)
   refine⟨g0,g1,fun m hm=>?_,fun sz n hv=>g3 sz n (k3.verRow hv)⟩
   obtain⟨m',l1,l2,l3⟩:=g2 m hm
   exact⟨m',k3.verAny hsm l1,l2,l3⟩
  ·exact C'.fresh k b (k3.blkOf hb)
 | outgrown=>exact hq.elim
end
section
variable {P:Program} {n:Nat} {dr:Bool} {ops:Array Oper} {rest:List Oper} {log:List Rec} {K:Exit→Fr→Hp→Prop} {fr:Fr} {h:Hp}
variable {ty:TypeId} {pos:String} {after:Array Edge} {g:Option (Nat×Bool)}
theorem Zlt {d:Tmp} {u0:Value} (exf:List (Nat×V)) (extra:List (Nat×Option Ob)) {fop:Operand} {xs:List Operand} {args:Array Operand} {ats:Array TypeId} {vs caps cargs:List V} {f:FuncId} {hc hc':Hp} (φ:List (Nat×Nat)) {objs:List (Nat×Option Ob)} {fz:Hp} {W:List Nat}
  (hg:gOk ops fr g) (hd:Nat.blt d n=true) (hxs:args.toList=xs) (hf:oev fr fop=.fn (.func f) [] caps) (hx:oevs fr xs vs) (h1:xs.all Zaz=true) (hA:APan P f cargs hc u0 hc') (ha:CArgs φ h (vs++caps) cargs objs fz W)
  (hlink:LinkH h φ hc) (hnew:NewH h (Za1 φ hc hc')) (hok:ZdA φ hc hc' fz W=true) (hin:(hpIn hc hc && V.insides hc cargs)=true) (hcl:W=[]∨HpClean hc') {hd':Hp} (hh:Hp.ren φ hc'++fz=hd') (hex:ObjsOk h extra) (hexf:∀ p∈exf,fget fr p.1=p.2)
  (hpn:∀ fr' h',(∀ p∈exf,fget fr' p.1=p.2)→ObjsOk h' extra→K (.panic [{ v:=u0,recovered:=false }]) fr' (hd'++h'))
  (hr:dops P n dr ops rest (⟨(gIns ops g++(Zay fop (.fn (.func f) [] caps)++(Zan xs vs++exf))).map Prod.fst,[d],(Zbb φ hc hc' objs++extra).map Prod.fst,[]⟩::log) K ((d,never)::fr) h) :
  dops P n dr ops (⟨some d,.call { callee:=.value fop,args:=args,argTypes:=ats },ty,pos,after,g⟩::rest) log K fr h:=by
 have hargs:args=xs.toArray:=by rw[←hxs]
 subst hargs
 subst hh
 simp only[Bool.and_eq_true] at hin
 have hnewo:ObjsOk h ((Za1 φ hc hc').map (fun k=>(k,(none:Option Ob)))):=fun p hp=>by
  obtain⟨k,hk,rfl⟩:=List.mem_map.1 hp
  exact hnew.get k hk
 refine Zav (ins:=gIns ops g++(Zay fop (.fn (.func f) [] caps)++(Zan xs vs++exf))) (objs:=Zbb φ hc hc' objs++extra) (v:=never) (upd:=[]) ?_ (ZbN hg (fun p hp=>(List.mem_append.1 hp).elim (Zbj hf p) (fun hp=>(List.mem_append.1 hp).elim (Za5 hx p) (hexf p))))
  (ObjsOk.append.2 ⟨ObjsOk.append.2 ⟨LinkH.iff.1 hlink,ObjsOk.append.2 ⟨hnewo,ha.objs⟩⟩,hex⟩) hr
 intro G E fr' h' a w K Q hPan hn C hi ho hK
 have hgo:gOk ops fr' g:=ZgB hg (fun p hp=>hi p (List.mem_append.2 (.inl hp)))
 have hoe:=ObjsOk.append.1 (show ObjsOk h' (Zbb φ hc hc' objs++extra) from ho)
 have ho':=ObjsOk.append.1 (show ObjsOk h' (Zbb φ hc hc' objs) from hoe.1)
 have ho'':=ObjsOk.append.1 ho'.2
 have ha':=ha.of ho''.2
 have hlink':LinkH h' φ hc:=LinkH.iff.2 ho'.1
 have hf':=Zcb hf (fun p hp=>hi p (List.mem_append.2 (.inr (List.mem_append.2 (.inl hp)))))
 have hx':=Zbx hx (fun p hp=>hi p (List.mem_append.2 (.inr (List.mem_append.2 (.inr (List.mem_append.2 (.inl hp)))))))
 have hxf':∀ p∈exf,fget fr' p.1=p.2:=fun p hp=>hi p (List.mem_append.2 (.inr (List.mem_append.2 (.inr (List.mem_append.2 (.inr hp))))))
 simp only[ZdA,Bool.and_eq_true] at hok
 obtain⟨⟨⟨⟨⟨⟨c1,c2⟩,c3⟩,c4⟩,c5⟩,c6⟩,c7⟩:=hok
 have C1:=C.frozs ha'.fz
 have hoff:∀ k,(∀ p∈fz,p.1≠k)→hget (fz++h') k=hget h' k:=fun k hk=>by
  rw[ZaD,ZbM (fun hm=>by obtain⟨p,hp,e⟩:=List.mem_map.1 hm;exact hk p hp e)]
 have hlinkz:LinkH (fz++h') φ hc:=by
  refine LinkH.iff.2 (fun p hp=>?_)
  rw[hoff p.1 (fun q hq e=>?_)]
  ·exact ho'.1 p hp
  ·have hmem:∀ {l:Hp},p∈Zbs φ l→∃ q∈l,renK φ q.1=p.1:=by
    intro l
    induction l with
    | nil=>intro hp;simp[Zbs] at hp
    | cons q l ih =>
     intro hp
     obtain⟨j,ob⟩:=q
     simp only[Zbs,List.mem_cons] at hp
     rcases hp with rfl|hp
     ·exact⟨_,List.mem_cons_self,rfl⟩
     ·obtain⟨q,hq,e⟩:=ih hp;exact⟨q,List.mem_cons_of_mem _ hq,e⟩
   obtain⟨q',hq',e'⟩:=hmem hp
   have:=List.all_eq_true.1 (List.all_eq_true.1 c5 q hq) q' hq'
   rw[e,e',Nat.beq_refl] at this
   simp at this
 have hnewz:NewH (fz++h') (Za1 φ hc hc'):=by
  have key:∀ (l:List Nat),(∀ k∈l,hget h' k=none)→NewH (fz++h') l:=by
   intro l
   induction l with
   | nil=>intro _;trivial
   | cons k l ih =>
    intro hl
    refine⟨?_,ih (fun j hj=>hl j (List.mem_cons_of_mem _ hj))⟩
    rw[hoff k (fun p hp e=>?_)]
    ·exact hl k List.mem_cons_self
    ·obtain⟨_,_,_,_,q⟩:=ha'.fz p hp
     rw[e,hl k List.mem_cons_self] at q;cases q
  exact key _ (fun k hk=>ho''.1 (k,none) (List.mem_map.2 ⟨k,hk,rfl⟩))
 have hWf:∀ k∈W,k ∉ fz.map Prod.fst:=fun k hk hm=>by
  obtain⟨p,hp,rfl⟩:=List.mem_map.1 hm
  have:=List.all_eq_true.1 (List.all_eq_true.1 c7 p hp) _ hk
  simp at this
 obtain⟨r1,_⟩:=C1.oev hf' (Zao (Zaj hf rfl))
 obtain⟨r2,_⟩:=ZcS C1 hx' h1
 simp only[V.Rep] at r1
 obtain⟨af,cf,e1,e2,e3⟩:=r1
 simp only[V.Reps] at e2
 subst e2
 have hus:=r2.append e3
 have hcall:=C1.call hA φ W hlinkz hnewz c1 hin.1 c2 c3 c4 (fun k hk=>⟨?_,fun q hq e=>?_⟩) (hcl.imp id (fun q=>⟨trivial,q⟩)) (us:=xs.map a.eval++cf) (fun Ec M L hAl hvw=>ha'.rep C1 ha'.fz L hAl hvw (fun _ hp=>hp) (fun _ hk=>hk) hWf (V.insides_spec hin.2) hus) (V.insides_spec hin.2)
 ·unfold wpS
  rw[if_pos (Zb3 (o:=⟨some d,_,ty,pos,after,g⟩) C hgo)]
  refine .inl ?_
  unfold Oper.wp
  rw[Zki hA.1 a.eval cf e1]
  simp only[Oper.upon]
  refine hcall.mono ?_
  rintro e w' ⟨E',u,rfl,C',hru,hku⟩
  have hq:=hpn fr' h' hxf' hoe.2
  simp only[V.ren,V.Rep,D.RepV,D.Rep,List.cons.injEq,and_true] at hru
  rw[hru.1]
  refine hPan _ E' fr' _ a w' hq ?_
  rw[List.append_assoc];exact C'
 ·obtain⟨e,sz,xs',q⟩:=ha'.vwRow k hk
  exact⟨e,sz,xs',by rw[hoff k (fun p hp e=>hWf k hk (List.mem_map.2 ⟨p,hp,e⟩))];exact q⟩
 ·have:=List.all_eq_true.1 (List.all_eq_true.1 c6 k hk) q hq
  rw[e,Nat.beq_refl] at this
  simp at this
end
end Go.Proofs.YtbpmepgnjanhnaaGreat
namespace Go.Proofs.YtbpmepgnjanhnaaGreat
open Go.RowKit
section
variable {P:Program} {n:Nat} {dr:Bool} {ops:Array Oper} {rest:List Oper} {log:List Rec} {K:Exit→Fr→Hp→Prop} {fr:Fr} {h:Hp}
variable {d:Nat} {ty:TypeId} {pos:String} {after:Array Edge} {g:Option (Nat×Bool)}
def ZgW:TypeDesc→Bool
 | .interface _=>false
 | _=>true
theorem ZuV {x:Operand} {xt:TypeId} {v:V} {u:Value} {ds:TypeDesc} (hdn:Nat.blt d n=true) (hg:gOk ops fr g) (hx:oev fr x=v) (hv:vval v=some u) (h1:Zaz x=true) (hu:P.underlying xt=some ds) (hi:ZgW ds=true)
  (hr:dops P n dr ops rest (⟨(gIns ops g++Zan [x] [v]).map Prod.fst,[d],[],[]⟩::log) K ((d,.d (.raw (.iface xt u)))::fr) h):dops P n dr ops (⟨some d,.makeInterface xt x,ty,pos,after,g⟩::rest) log K fr h:=by
 refine ZrY [x] [v] [u] (.iface xt u) (by simp[ZlY,hv]) (fun ρ w hρ=>?_) rfl hdn hg ⟨hx,trivial⟩ (by simp[h1]) hr
 simp only[List.map_cons,List.map_nil,List.cons.injEq,and_true] at hρ
 cases ds <;> first
  | (simp[ZgW] at hi;done)
  | simp only[execOp,hρ,Instr.makeInterface,Sem.run_bind,run_underlying hu,Result.andThen_ok,Sem.run_pure]
def Zer:Value→Option Bool
 | .nilIface=>some true
 | .iface _ _=>some false
 | _=>none
theorem Zri {x:Operand} {xt yt:TypeId} {u:Value} {b:Bool} {ms} (hdn:Nat.blt d n=true) (hg:gOk ops fr g) (hx:oev fr x=.d (.raw u)) (hb:Zer u=some b) (hu:P.underlying xt=some (.interface ms))
  (hr:dops P n dr ops rest (⟨(gIns ops g++Zan [x,.const .nilIface] (raws [u,.nilIface])).map Prod.fst,[d],[],[]⟩::log) K ((d,B (!b))::fr) h):dops P n dr ops (⟨some d,.binOp .neq xt x (.const .nilIface) yt,ty,pos,after,g⟩::rest) log K fr h:=by
 refine ZiA [x,.const .nilIface] [u,.nilIface] (.bool !b) (fun ρ w hρ=>?_) rfl hdn hg ⟨hx,rfl,trivial⟩ ?_ hr
 ·simp only[List.map_cons,List.map_nil,List.cons.injEq,and_true] at hρ
  have e:(Op.equal xt u .nilIface).run P w=.ok b w:=by
   unfold Op.equal
   rw[show Op.maxDepth=9999+1 from rfl]
   unfold Op.equalIn
   cases u <;> simp only[Zer,Option.some.injEq,reduceCtorEq] at hb
   ·subst hb;simp only[Sem.run_bind,run_underlying hu,Result.andThen_ok,Sem.run_pure]
   ·subst hb;simp only[Sem.run_bind,run_underlying hu,Result.andThen_ok,Sem.run_pure]
  have eg:(eqGuard .neq xt x (.const .nilIface) u .nilIface).run P w=.ok () w:=by
   unfold eqGuard
   cases u <;> simp only[Zer,Option.some.injEq,reduceCtorEq] at hb <;> cases x <;> rfl
  have eb:(binOp .neq xt u .nilIface).run P w=.ok (.bool !b) w:=by
   cases u <;> simp only[Zer,Option.some.injEq,reduceCtorEq] at hb <;> simp[binOp,go_sem,e]
  simp only[execOp,Sem.run_bind,hρ.1,hρ.2,eg,eb,Result.andThen_ok,Sem.run_pure]
 ·simp only[List.all_cons,List.all_nil,Zaj hx rfl];rfl
theorem Zlu {E:Env} {h:Hp} {M:Bars} {w:World}:∀ {us:List Value},(∀ u∈us,u.oneCell'=true)→V.Reps E h M w (raws us) us
 | [],_=>by simp[raws,V.Reps]
 | u::us,hu=>by
  have:=Zlu (E:=E) (h:=h) (M:=M) (w:=w) (us:=us) (fun x hx=>hu x (by simp[hx]))
  simp only[raws,List.map_cons,V.Reps,V.Rep,D.RepV,D.Rep] at this ⊢
  exact⟨u,us,rfl,⟨rfl,hu u (by simp)⟩,this⟩
theorem Zjf:∀ (us:List Value),V.keyss (raws us)=[]
 | []=>rfl
 | u::us=>by simpa[raws,V.keyss,V.keys] using Zjf us
theorem Ztu {x:Operand} {xt at_:TypeId} {us:List Value} {cs:List V} {ds:TypeDesc} (hdn:Nat.blt d n=true) (hg:gOk ops fr g) (hx:oev fr x=.d (.raw (.iface at_ (.agg us.toArray)))) (hu:P.underlying at_=some ds) (hi:ZgW ds=true) (hus:us.all (·.oneCell')=true) (hcs:raws us=cs)
  (hr:dops P n dr ops rest (⟨(gIns ops g++Zay x (.d (.raw (.iface at_ (.agg us.toArray))))).map Prod.fst,[d],[],[]⟩::log) K ((d,.tup [.agg cs,B true])::fr) h):dops P n dr ops (⟨some d,.typeAssert x xt at_ true,ty,pos,after,g⟩::rest) log K fr h:=by
 subst hcs
 refine Zav (ins:=gIns ops g++Zay x (.d (.raw (.iface at_ (.agg us.toArray))))) (objs:=[]) (v:=.tup [.agg (raws us),B true]) (upd:=[]) (LStep.pure rfl hdn rfl hg (Zay x _) [] _ fun G E fr' h' a w C hi' _=>?_) (fun p hp=>?_) (by simp) hr
 ·obtain⟨r1,_⟩:=C.oev (Zcb hx hi') (Zao (Zaj hx rfl))
  simp only[V.Rep,D.RepV,D.Rep,List.cons.injEq,and_true] at r1
  have hone:∀ u∈us,u.oneCell'=true:=fun u hu=>List.all_eq_true.1 hus u hu
  refine⟨.tuple #[.agg us.toArray,.bool true],?_,?_,?_⟩
  ·cases ds <;> first
    | (simp[ZgW] at hi;done)
    | simp[execOp,r1.1,Instr.typeAssert,Sem.run_bind,run_underlying hu,Result.andThen_ok,Sem.run_pure]
  ·simp only[V.Rep,V.Reps]
   exact⟨_,rfl,_,_,rfl,⟨us,rfl,Zlu hone,hone⟩,_,_,rfl,by simp[D.RepV,D.Rep,Value.oneCell'],rfl⟩
  ·simp[V.keys,V.keyss,Zjf us]
 ·rcases List.mem_append.1 hp with hp|hp
  ·exact Zc3 hg p hp
  ·exact Zbj hx p hp
theorem ZuW {x:Operand} {t:TypeId} {v:Value} (extra:List (Nat×Option Ob)) (k:Nat) (hg:gOk ops fr g) (hx:oev fr x=.d (.raw (.iface t v))) (hex:ObjsOk h extra)
  (hpn:∀ fr' h',ObjsOk h' extra→K (.panic [{ v:=.iface t v,recovered:=false }]) fr' h')
  (hr:dops P n dr ops rest (⟨(gIns ops g++Zay x (.d (.raw (.iface t v)))).map Prod.fst,[],extra.map Prod.fst,[k]⟩::log) K fr ((k,.box 0 [never])::h)):dops P n dr ops (⟨none,.panic x,ty,pos,after,g⟩::rest) log K fr h:=by
 refine Zav (ins:=gIns ops g++Zay x (.d (.raw (.iface t v)))) (objs:=extra) (v:=.junk) (upd:=[(k,.box 0 [never])]) ?_ (fun p hp=>?_) hex hr
 ·intro G E fr' h' a w K Q hPan hn C hi ho hK
  have hgo:gOk ops fr' g:=ZgB hg (fun p hp=>hi p (List.mem_append.2 (.inl hp)))
  obtain⟨r1,_⟩:=C.oev (Zcb hx (fun p hp=>hi p (List.mem_append.2 (.inr hp)))) (Zao (Zaj hx rfl))
  simp only[V.Rep,D.RepV,D.Rep,List.cons.injEq,and_true] at r1
  unfold wpS
  rw[if_pos (Zb3 C hgo)]
  refine .inl ?_
  unfold Oper.wp
  have he:(execOp a.eval ⟨none,.panic x,ty,pos,after,g⟩).run P w=.halt (.panic (.iface t v)) w:=by
   simp only[execOp,r1.1,Instr.panic]
   rfl
  rw[he]
  exact hPan _ E fr' h' a w (hpn fr' h' ho) C
 ·rcases List.mem_append.1 hp with hp|hp
  ·exact Zc3 hg p hp
  ·exact Zbj hx p hp
end
end Go.Proofs.YtbpmepgnjanhnaaGreat
namespace Go.Proofs.YtbpmepgnjanhnaaGreat
open Go.RowKit
def ADefer (P:Program) (f:FuncId) (args:List V) (h:Hp) (m m':FrameMode) (h':Hp):Prop :=
 ∀ (E:Env) (w:World) (us:List Value) (o:Bars),HRep E h o w→V.Reps E h (bars E h o) w args us→(∀ k∈V.keyss args,(hget h k).isSome=true) →
  (∀ t b,o t b→b < w.heap.size∧¬ Live E h b)→(∀ b,o true b→o false b) →
  CallsD P f us.toArray m w fun e m'' w'=>∃ E' v,e=.returned v∧m''=m'∧HRep E' h' o w'∧Ext (Live E h) w w'∧Hist E h E' h'∧(∀ k b,blkOf E' h' k b→Live E h b∨w.heap.size≤b)
section
variable {P:Program} {n:Nat}
inductive Zj9:FrameMode→Value→FrameMode→Prop
 | nil:Zj9 .returning .nilIface .returning
 | pan (v:Value):Zj9 (.panicking [{ v:=v,recovered:=false }]) v (.panicking [{ v:=v,recovered:=true }])
theorem ADefer.intro {f:FuncId} {fn:Func} {id:Nat} {rest:Code} {args:List V} {h h':Hp} {m m':FrameMode} {v:Value} {d1 d2:Nat} {o1 o2:Op} {ty1 ty2:TypeId} {p1 p2:String} {af1 af2:Array Edge} (hf:P.funcs[f]?=some fn)
  (hb:fn.body=some (.seq (.region id #[⟨some d1,o1,ty1,p1,af1,none⟩,⟨some d2,o2,ty2,p2,af2,none⟩] false) rest)) (hn:fn.ntmps=n) (ha:args.length≤n)
  (ho:∀ (ρ:Operand→Value) (w:World),(execOp ρ ⟨some d1,o1,ty1,p1,af1,none⟩).run P w=.ok .recover w) (ho2:∀ (ρ:Operand→Value) (w:World),(execOp ρ ⟨some d2,o2,ty2,p2,af2,none⟩).run P w=.ok (.value (ρ (.tmp d1))) w) (h1:Nat.blt d1 n=true) (h2:Nat.blt d2 n=true) (hm:Zj9 m v m') (hv:v.oneCell'=true) (hres:fn.results.toList=[])
  (hw:aw P n rest (Fin P fn (.tup []) h') ((d2,.d (.raw v))::(d1,.d (.raw v))::Zak 0 args) h):ADefer P f args h m m' h':=by
 intro E w us o H hr hk hoo hs
 refine callsD_of_wpS hf hb fun c₀ cs hc₀=>wpS_seq (wpS_region ?_)
 have C:=Conc.start (n:=n) hn ha H hr hk hoo hs
 have hrv:∀ {w':World} {E':Env} {g:Hp} {M:Bars},V.Rep E' g M w' (.d (.raw v)) v:=fun {w' E' g M}=>by simp[V.Rep,D.RepV,D.Rep,hv]
 have C1:=C.put (d:=d1) (v:=.d (.raw v)) (u:=v) (by simpa[Nat.blt_eq] using h1) hrv (by simp[V.keys])
 have C2:=C1.put (d:=d2) (v:=.d (.raw v)) (u:=v) (by simpa[Nat.blt_eq] using h2) hrv (by simp[V.keys])
 have hget1:∀ (a:Act),a.tmps.size=n→(a.put (some d1) v).tmps.getD d1 undef=v:=fun a ha=>by rw[ZfF (by rw[ha];simpa[Nat.blt_eq] using h1),if_pos rfl]
 generalize hA:({ tmps:=us.toArray++Array.replicate (fn.ntmps - us.toArray.size) undef,defers:=[] }:Act)=a at *
 have fin:∀ (cs':List Frame),cs'={ c₀ with mode:=m' }::cs→rest.wpS P (bodyPostS P fn c₀ cs fun e m'' w'=>∃ E' v,e=.returned v∧m''=m'∧HRep E' h' o w'∧Ext (Live E h) w w'∧Hist E h E' h'∧(∀ k b,blkOf E' h' k b→Live E h b∨w.heap.size≤b)) ((a.put (some d1) v).put (some d2) v) cs' w:=by
  rintro cs' rfl
  refine wpS_of_wp (wp_mono (hw _ E _ w rfl C2) fun e a' w' ⟨E',fr',g,hq,C'⟩=>?_)
  have key:(∃ vs,Results P fr' g fn.results.toList vs∧Co g (resV vs) (.tup [])∧HLe g h'∧((V.tup []).inside h' && hpIn h' h')=true)→a'.defers=[]∧∃ u',({ c₀ with mode:=m' }:Frame)::cs={ c₀ with mode:=u' }::cs∧∃ v,(results fn a'.tmps).run P w'=.ok v w' ∧
    ∃ E' v',Ending.returned v=.returned v'∧u'=m'∧HRep E' h' o w'∧Ext (Live E h) w w'∧Hist E h E' h'∧(∀ k b,blkOf E' h' k b→Live E h b∨w.heap.size≤b):=by
   rintro⟨vs,k1,k2,k3,k4⟩
   simp only[Bool.and_eq_true] at k4
   obtain⟨u,q1,q2,q3⟩:=Ze2 C' rfl k1
   refine⟨C'.defers,m',rfl,u,q1,E',u,rfl,rfl,C'.heap.sub k3 k4.2,C'.ext,fun k hk hsm=>?_,fun k b hb=>C'.fresh k b (k3.blkOf hb)⟩
   obtain⟨g0,g1,g2,g3⟩:=C'.keep k hk (k3.isSome hsm)
   refine⟨g0,g1,fun m hm=>?_,fun sz n hv=>g3 sz n (k3.verRow hv)⟩
   obtain⟨m1,l1,l2,l3⟩:=g2 m hm
   exact⟨m1,k3.verAny hsm l1,l2,l3⟩
  cases e with
  | normal=>exact key hq
  | ret=>exact key hq
  | exit id=>exact hq
  | goto l=>exact hq
  | panic ch=>exact hq.elim
  | outgrown=>exact hq.elim
 have hsz:a.tmps.size=n:=C.size
 have step2:∀ cs',cs'={ c₀ with mode:=m' }::cs→wpOpsS P #[⟨some d1,o1,ty1,p1,af1,none⟩,⟨some d2,o2,ty2,p2,af2,none⟩] (Exit.thenS (rest.wpS P (bodyPostS P fn c₀ cs fun e m'' w'=>∃ E' v,e=.returned v∧m''=m'∧HRep E' h' o w'∧Ext (Live E h) w w'∧Hist E h E' h'∧(∀ k b,blkOf E' h' k b→Live E h b∨w.heap.size≤b))) (bodyPostS P fn c₀ cs fun e m'' w'=>∃ E' v,e=.returned v∧m''=m'∧HRep E' h' o w'∧Ext (Live E h) w w'∧Hist E h E' h'∧(∀ k b,blkOf E' h' k b→Live E h b∨w.heap.size≤b))) [1] (a.put (some d1) v) cs' w:=by
  intro cs' hcs
  have hev:(execOp (a.put (some d1) v).eval ⟨some d2,o2,ty2,p2,af2,none⟩).run P w=.ok (.value v) w:=by
   have:=hget1 a hsz
   rw[ho2]
   simp only[Act.eval]
   rw[this]
  simp only[wpOpsS,List.getElem?_toArray,List.getElem?_cons_succ,List.getElem?_cons_zero,Region.wanted,if_true,hev]
  exact fin cs' hcs
 show wpOpsS P _ _ [0,1] a (c₀::cs) w
 rw[wpOpsS]
 simp only[List.getElem?_toArray,List.getElem?_cons_zero,Region.wanted,if_true,ho]
 cases hm with
 | nil =>
  rw[show recoverD (c₀::cs)=none by simp[recoverD,hc₀]]
  refine step2 _ ?_
  rw[←hc₀]
 | pan v =>
  rw[show recoverD (c₀::cs)=some (v,{ c₀ with mode:=.panicking [{ v:=v,recovered:=true }] }::cs) by simp[recoverD,hc₀]]
  exact step2 _ rfl
end
end Go.Proofs.YtbpmepgnjanhnaaGreat
namespace Go.Proofs.YtbpmepgnjanhnaaGreat
open Go.RowKit
section
variable {P:Program} {n:Nat}
variable {fn:Func} {r:V} {G:Ctx} {fr:Fr} {h:Hp}
theorem ZuX {E E':Env} {h:Hp} {M M':Bars} {w:World} {v:V} {u:Value} (hk:v.keys=[]) (hM:∀ t b,M' t b→M t b) (hr:V.Rep E h M w v u):V.Rep E' [] M' w v u:=by
 have T:Trans E h M w E' [] M' w:=⟨fun k _ hs=>by simp[hget] at hs,fun k hs=>by simp[hget] at hs,fun k _ sz n hv=>by rcases hv with ⟨_,_,h1,_⟩|⟨_,_,_,_,h1,_⟩ <;> simp[hget] at h1,⟨fun t k _ hm=>⟨rfl,fun hx=>hm (hM t k hx)⟩,Nat.le_refl _⟩⟩
 exact V.Rep.move T (by rw[hk];simp) (by rw[hk];simp) hr
def DFin (m:FrameMode) (frd:Fr) (hd:Hp):Exit→Fr→Hp→Prop
 | .normal,fr,h|.ret,fr,h=>Nev fr h∨(m=.returning∧FLe fr frd∧HLe h hd)
 | .panic ch,fr,h=>m=.panicking ch∧FLe fr frd∧HLe h hd
 | _,_,_=>False
def FrRen (φ:List (Nat×Nat)) (fr:Fr) (d1:Nat):Fr→Prop
 | []=>True
 | (i,v)::q=>(Nat.beq i d1=false∧fget fr i=v.ren φ)∧FrRen φ fr d1 q
theorem FrRen.get {φ:List (Nat×Nat)} {d1:Nat}:∀ {frc:Fr},FrRen φ fr d1 frc→∀ i,fget frc i=.junk∨(i≠d1∧fget fr i=(fget frc i).ren φ)
 | [],_,_=>.inl rfl
 | (j,v)::q,hq,i=>by
  by_cases e:j=i
  ·subst e;rw[ZaM];exact .inr ⟨fun e=>(by have:=hq.1.1;rw[e,Nat.beq_refl] at this;cases this),hq.1.2⟩
  ·rw[ZaI _ _ e];exact FrRen.get hq.2 i
def ZhP:List (Nat×Nat)→Fr
 | []=>[]
 | (i,k)::r=>(i,.ptr k 0)::ZhP r
def ZmW (h:Hp):List (Nat×Nat)→Bool
 | []=>true
 | (_,k)::r=>Nat.ble 1000 k && ZfI h k && ZmW h r
theorem Zlv {h:Hp}:∀ {l:List (Nat×Nat)},ZmW h l=true→∀ i,fget (ZhP l) i=.junk∨∃ k,fget (ZhP l) i=.ptr k 0∧1000≤k∧(hget h k).isSome=true
 | [],_,_=>.inl rfl
 | (j,k)::r,hq,i=>by
  simp only[ZmW,Bool.and_eq_true] at hq
  simp only[ZhP]
  by_cases e:j=i
  ·subst e;rw[ZaM];exact .inr ⟨k,rfl,Nat.le_of_ble_eq_true hq.1.1,hasKey_spec.1 hq.1.2⟩
  ·rw[ZaI _ _ e];exact Zlv hq.2 i
theorem Zka {h:Hp}:∀ {l:List (Nat×Nat)},ZmW h l=true→frIn h (ZhP l)=true
 | [],_=>rfl
 | (j,k)::r,hq=>by
  simp only[ZmW,Bool.and_eq_true] at hq
  simp only[ZhP,frIn,V.inside,Bool.and_eq_true]
  exact⟨hq.1.2,Zka hq.2⟩
def ptrs (ks:List Nat):List V:=ks.map fun k=>.ptr k 0
theorem Zlw {E:Env} {h:Hp} {M:Bars} {w:World}:∀ (ks:List Nat),V.Reps E h M w (ptrs ks) (ks.map fun k=>.pointer (some ⟨E.blk k,0,none⟩))
 | []=>by simp[ptrs,V.Reps]
 | k::ks=>by
  have:=Zlw (E:=E) (h:=h) (M:=M) (w:=w) ks
  simp only[ptrs,List.map_cons,V.Reps,V.Rep] at this ⊢
  exact⟨_,_,rfl,rfl,this⟩
theorem Zlx:∀ (ks:List Nat),V.keyss (ptrs ks)=ks
 | []=>rfl
 | k::ks=>by have:=Zlx ks;simp only[ptrs,List.map_cons,V.keyss,V.keys] at this ⊢;rw[this];rfl
theorem Zly {E:Env} {h:Hp} {M:Bars} {w:World}:∀ {ks:List Nat} {us:List Value},V.Reps E h M w (ptrs ks) us→us=ks.map fun k=>.pointer (some ⟨E.blk k,0,none⟩)
 | [],us,hr=>by simpa[ptrs,V.Reps] using hr
 | k::ks,us,hr=>by
  simp only[ptrs,List.map_cons,V.Reps,V.Rep] at hr
  obtain⟨x,y,rfl,rfl,h3⟩:=hr
  rw[Zly h3];rfl
def Zt9 (h:Hp) (ks:List Nat):Bool:=ks.all fun k=>Nat.ble 1000 k && ZfI h k
end
end Go.Proofs.YtbpmepgnjanhnaaGreat
namespace Go.Proofs.YtbpmepgnjanhnaaGreat
open Go.RowKit
def Zrj (d:Nat):List Oper→List Rec→List Rec
 | [],log=>log
 | o::rest,log=>Zrj d rest (⟨[d],o.dst.toList,[],[]⟩::log)
theorem Zor {P:Program} {n:Nat} {dr:Bool} {ops:Array Oper} {K:Exit→Fr→Hp→Prop} {h:Hp} (d:Nat):∀ (rest:List Oper) (log:List Rec) (fr:Fr),fget fr d=never→(∀ fr',fget fr' d=never→K .normal fr' h)→(dr=true→Zee ops.toList (Zrj d rest log).reverse=true)→dops P n dr ops rest log K fr h
 | [],log,fr,hf,hK,ho=>⟨ho,hK fr hf⟩
 | o::rest,log,fr,hf,hK,ho=>by
  refine Zav (ins:=[(d,never)]) (objs:=[]) (v:=never) (upd:=[]) (fun G E fr' h' a w K' Q _ hn C hi _ _=>((C.never (hi (d,never) (by simp))).elim)) (by simpa using hf) (by simp) ?_
  refine Zor d rest _ _ ?_ hK ho
  cases hd:o.dst with
  | none=>simpa[dput,hd] using hf
  | some x =>
   show fget ((x,never)::fr) d=never
   by_cases e:x=d
   ·subst e;rw[ZaM]
   ·rw[ZaI _ _ e];exact hf
theorem ZhQ {ty:TypeId} {pos:String} {after:Array Edge} {g:Option (Nat×Bool)} {P:Program} {n:Nat} {dr:Bool} {ops:Array Oper} {rest:List Oper} {log:List Rec} {K:Exit→Fr→Hp→Prop} {fr:Fr} {h:Hp} {hd':Hp} {d:Tmp} {u0:Value} {fop:Operand} {xs:List Operand} {args:Array Operand} {ats:Array TypeId} {vs caps cargs:List V} {f:FuncId} {hc hc':Hp} (φ:List (Nat×Nat)) {objs:List (Nat×Option Ob)} {fz:Hp} {W:List Nat} (exf:List (Nat×V)) (extra:List (Nat×Option Ob)) (hg:gOk ops fr g:=by first|exact Zag|exact Zae rfl rfl rfl|(apply Zae rfl rfl;(first|assumption|exact rfl|exact decide_eq_true rfl|exact congrArg not (decide_eq_true rfl)|((try simp only[decide_eq_true_eq,decide_eq_false_iff_not,Bool.not_true,Bool.not_false,Bool.not_eq_true',Bool.not_eq_false',Bool.not_not,Int.not_lt,Int.not_le,Bool.and_eq_true,Bool.or_eq_true,Bool.and_eq_false_iff,Bool.or_eq_false_iff]);first|assumption|omega)))) (hd:Nat.blt d n=true:=by exact rfl) (hxs:args.toList=xs:=by exact rfl) (hf:oev fr fop=.fn (.func f) [] caps:=by exact rfl) (hx:oevs fr xs vs:=by repeat' (first|exact ZcA|(apply Zcd;conv=>lhs;whnf))) (h1:xs.all Zaz=true:=by exact rfl) (ha:CArgs φ h (vs++caps) cargs objs fz W:=by repeat' (first|exact CArgs.nil|(apply CArgs.cons)|exact CArg.same rfl|exact CArg.vw rfl (by first|exact rfl|assumption|(simp only[List.length_map,List.length_append,List.length_cons,List.length_nil,List.length_replicate,List.length_set,List.length_take,List.length_drop];done)|((try simp only[List.length_map,List.length_append,List.length_cons,List.length_nil,List.length_replicate,List.length_set,List.length_take,List.length_drop]);first|assumption|omega)) (by first|exact ZcV _|exact Zc9 _|exact ZdB _|exact ZaB (.rules _ _)|exact ZaB (.trees _ _)|exact ZaB (.tree1 _ _)|exact ZaB (.frags _ _)|exact ZaB (.frag1 _ _)|exact views_fragss _ _|exact views_intss _ _|exact views_exprs _ _|exact views_expr1 _ _|exact views_defs _ _|exact views_toks _|exact views_aux _ _|exact rfl)|exact CArg.emb (by repeat' (first|exact EmbV.one (.d _)|exact EmbV.one (.own rfl (by first|exact rfl|assumption|(simp only[List.length_map,List.length_append,List.length_cons,List.length_nil,List.length_replicate,List.length_set,List.length_take,List.length_drop];done)|((try simp only[List.length_map,List.length_append,List.length_cons,List.length_nil,List.length_replicate,List.length_set,List.length_take,List.length_drop]);first|assumption|omega)))|exact EmbV.one (.frz rfl (by first|exact rfl|assumption|(simp only[List.length_map,List.length_append,List.length_cons,List.length_nil,List.length_replicate,List.length_set,List.length_take,List.length_drop];done)|((try simp only[List.length_map,List.length_append,List.length_cons,List.length_nil,List.length_replicate,List.length_set,List.length_take,List.length_drop]);first|assumption|omega)))|exact EmbV.one (.full _ _ _)|apply EmbV.agg|exact Embs.nil|apply Embs.cons|exact Emb.d _|exact Emb.own rfl (by first|exact rfl|assumption|(simp only[List.length_map,List.length_append,List.length_cons,List.length_nil,List.length_replicate,List.length_set,List.length_take,List.length_drop];done)|((try simp only[List.length_map,List.length_append,List.length_cons,List.length_nil,List.length_replicate,List.length_set,List.length_take,List.length_drop]);first|assumption|omega))|exact Emb.frz rfl (by first|exact rfl|assumption|(simp only[List.length_map,List.length_append,List.length_cons,List.length_nil,List.length_replicate,List.length_set,List.length_take,List.length_drop];done)|((try simp only[List.length_map,List.length_append,List.length_cons,List.length_nil,List.length_replicate,List.length_set,List.length_take,List.length_drop]);first|assumption|omega))|exact Emb.full _ _ _)))) (hlink:LinkH h φ hc:=by repeat' (first|exact LinkH.nil|(apply LinkH.cons;exact rfl))) (hnew:NewH h (Za1 φ hc hc'):=by first|exact True.intro|exact⟨rfl,True.intro⟩|exact⟨rfl,rfl,True.intro⟩|exact⟨rfl,rfl,rfl,True.intro⟩) (hok:ZdA φ hc hc' fz W=true:=by exact rfl) (hin:(hpIn hc hc && V.insides hc cargs)=true:=by exact rfl) (hcl:W=[]∨HpClean hc':=by first|exact Or.inl rfl|exact Or.inr ⟨⟨trivial,trivial,trivial,trivial,trivial⟩,trivial⟩|exact Or.inr trivial) (hh0:Hp.ren φ hc'=hd':=by first|(conv=>lhs;simp only[dput,V.ren,V.rens,Ob.ren,Hp.ren,renK,Nat.reduceBEq,cond_true,cond_false,List.cons_append,List.nil_append,List.append_nil])|exact rfl) (hex:ObjsOk h extra:=by first|(intro p hp;exact absurd hp List.not_mem_nil)|(intro p hp;rw[List.mem_singleton.1 hp];exact rfl)|(intro p hp;rcases List.mem_cons.1 hp with rfl|hp;exact rfl;rw[List.mem_singleton.1 hp];exact rfl)) (hexf:∀ p∈exf,fget fr p.1=p.2:=by first|(intro p hp;exact absurd hp List.not_mem_nil)|(intro p hp;rw[List.mem_singleton.1 hp];exact rfl)|(intro p hp;rcases List.mem_cons.1 hp with rfl|hp;exact rfl;rw[List.mem_singleton.1 hp];exact rfl)) (hpn:∀ fr' h',(∀ p∈exf,fget fr' p.1=p.2)→ObjsOk h' extra→K (.panic [{ v:=u0,recovered:=false }]) fr' ((hd'++fz)++h'):=by intro fr' h' _ _;first|exact⟨rfl,⟨HElt.of rfl,trivial⟩,rfl⟩|exact Or.inl ⟨rfl,⟨HElt.of rfl,trivial⟩,rfl⟩) (hA:APan P f cargs hc u0 hc') (hK:∀ fr',fget fr' d=never→K .normal fr' h:=by intro fr' hf;first|exact Zrh (Nev.slot _ hf)|exact Nev.slot _ hf|exact Or.inr (Nev.slot _ hf)) (ho:dr=true→Zee ops.toList (Zrj d rest (⟨(gIns ops g++(Zay fop (.fn (.func f) [] caps)++(Zan xs vs++exf))).map Prod.fst,[d],(Zbb φ hc hc' objs++extra).map Prod.fst,[]⟩::log)).reverse=true:=by first|(intro hdr;cases hdr;done)|(intro _;kernel_rfl)) :dops P n dr ops (⟨some d,.call { callee:=.value fop,args:=args,argTypes:=ats },ty,pos,after,g⟩::rest) log K fr h:=Zlt exf extra φ hg hd hxs hf hx h1 hA ha hlink hnew hok hin hcl (by rw[hh0]) hex hexf hpn (Zor d rest _ _ (ZaM _ _ _) hK ho)
theorem ZvW {P:Program} {n:Nat} {dr:Bool} {ops:Array Oper} {o:Oper} {rest:List Oper} {log:List Rec} {K:Exit→Fr→Hp→Prop} {fr:Fr} {h:Hp} (d:Nat) (hf:fget fr d=never) (hr:dops P n dr ops rest (⟨[d],o.dst.toList,[],[]⟩::log) K (dput o.dst never fr) h):dops P n dr ops (o::rest) log K fr h :=
 Zav (ins:=[(d,never)]) (objs:=[]) (v:=never) (upd:=[]) (fun G E fr' h' a w K' Q _ hn C hi _ _=>((C.never (hi (d,never) (by simp))).elim)) (by simpa using hf) (by simp) hr
theorem Zpw {ty:TypeId} {pos:String} {after:Array Edge} {g:Option (Nat×Bool)} {P:Program} {n:Nat} {dr:Bool} {ops:Array Oper} {rest:List Oper} {log:List Rec} {K:Exit→Fr→Hp→Prop} {fr:Fr} {h:Hp} {hd':Hp} {d:Tmp} {u0:Value} {fop:Operand} {xs:List Operand} {args:Array Operand} {ats:Array TypeId} {vs caps cargs:List V} {f:FuncId} {hc hc':Hp} (φ:List (Nat×Nat)) {objs:List (Nat×Option Ob)} {fz:Hp} {W:List Nat} (exf:List (Nat×V)) (extra:List (Nat×Option Ob)) (hg:gOk ops fr g:=by first|exact Zag|exact Zae rfl rfl rfl|(apply Zae rfl rfl;(first|assumption|exact rfl|exact decide_eq_true rfl|exact congrArg not (decide_eq_true rfl)|((try simp only[decide_eq_true_eq,decide_eq_false_iff_not,Bool.not_true,Bool.not_false,Bool.not_eq_true',Bool.not_eq_false',Bool.not_not,Int.not_lt,Int.not_le,Bool.and_eq_true,Bool.or_eq_true,Bool.and_eq_false_iff,Bool.or_eq_false_iff]);first|assumption|omega)))) (hd:Nat.blt d n=true:=by exact rfl) (hxs:args.toList=xs:=by exact rfl) (hf:oev fr fop=.fn (.func f) [] caps:=by exact rfl) (hx:oevs fr xs vs:=by repeat' (first|exact ZcA|(apply Zcd;conv=>lhs;whnf))) (h1:xs.all Zaz=true:=by exact rfl) (ha:CArgs φ h (vs++caps) cargs objs fz W:=by repeat' (first|exact CArgs.nil|(apply CArgs.cons)|exact CArg.same rfl|exact CArg.vw rfl (by first|exact rfl|assumption|(simp only[List.length_map,List.length_append,List.length_cons,List.length_nil,List.length_replicate,List.length_set,List.length_take,List.length_drop];done)|((try simp only[List.length_map,List.length_append,List.length_cons,List.length_nil,List.length_replicate,List.length_set,List.length_take,List.length_drop]);first|assumption|omega)) (by first|exact ZcV _|exact Zc9 _|exact ZdB _|exact ZaB (.rules _ _)|exact ZaB (.trees _ _)|exact ZaB (.tree1 _ _)|exact ZaB (.frags _ _)|exact ZaB (.frag1 _ _)|exact views_fragss _ _|exact views_intss _ _|exact views_exprs _ _|exact views_expr1 _ _|exact views_defs _ _|exact views_toks _|exact views_aux _ _|exact rfl)|exact CArg.emb (by repeat' (first|exact EmbV.one (.d _)|exact EmbV.one (.own rfl (by first|exact rfl|assumption|(simp only[List.length_map,List.length_append,List.length_cons,List.length_nil,List.length_replicate,List.length_set,List.length_take,List.length_drop];done)|((try simp only[List.length_map,List.length_append,List.length_cons,List.length_nil,List.length_replicate,List.length_set,List.length_take,List.length_drop]);first|assumption|omega)))|exact EmbV.one (.frz rfl (by first|exact rfl|assumption|(simp only[List.length_map,List.length_append,List.length_cons,List.length_nil,List.length_replicate,List.length_set,List.length_take,List.length_drop];done)|((try simp only[List.length_map,List.length_append,List.length_cons,List.length_nil,List.length_replicate,List.length_set,List.length_take,List.length_drop]);first|assumption|omega)))|exact EmbV.one (.full _ _ _)|apply EmbV.agg|exact Embs.nil|apply Embs.cons|exact Emb.d _|exact Emb.own rfl (by first|exact rfl|assumption|(simp only[List.length_map,List.length_append,List.length_cons,List.length_nil,List.length_replicate,List.length_set,List.length_take,List.length_drop];done)|((try simp only[List.length_map,List.length_append,List.length_cons,List.length_nil,List.length_replicate,List.length_set,List.length_take,List.length_drop]);first|assumption|omega))|exact Emb.frz rfl (by first|exact rfl|assumption|(simp only[List.length_map,List.length_append,List.length_cons,List.length_nil,List.length_replicate,List.length_set,List.length_take,List.length_drop];done)|((try simp only[List.length_map,List.length_append,List.length_cons,List.length_nil,List.length_replicate,List.length_set,List.length_take,List.length_drop]);first|assumption|omega))|exact Emb.full _ _ _)))) (hlink:LinkH h φ hc:=by repeat' (first|exact LinkH.nil|(apply LinkH.cons;exact rfl))) (hnew:NewH h (Za1 φ hc hc'):=by first|exact True.intro|exact⟨rfl,True.intro⟩|exact⟨rfl,rfl,True.intro⟩|exact⟨rfl,rfl,rfl,True.intro⟩) (hok:ZdA φ hc hc' fz W=true:=by exact rfl) (hin:(hpIn hc hc && V.insides hc cargs)=true:=by exact rfl) (hcl:W=[]∨HpClean hc':=by first|exact Or.inl rfl|exact Or.inr ⟨⟨trivial,trivial,trivial,trivial,trivial⟩,trivial⟩|exact Or.inr trivial) (hh0:Hp.ren φ hc'=hd':=by first|(conv=>lhs;simp only[dput,V.ren,V.rens,Ob.ren,Hp.ren,renK,Nat.reduceBEq,cond_true,cond_false,List.cons_append,List.nil_append,List.append_nil])|exact rfl) (hex:ObjsOk h extra:=by first|(intro p hp;exact absurd hp List.not_mem_nil)|(intro p hp;rw[List.mem_singleton.1 hp];exact rfl)|(intro p hp;rcases List.mem_cons.1 hp with rfl|hp;exact rfl;rw[List.mem_singleton.1 hp];exact rfl)) (hexf:∀ p∈exf,fget fr p.1=p.2:=by first|(intro p hp;exact absurd hp List.not_mem_nil)|(intro p hp;rw[List.mem_singleton.1 hp];exact rfl)|(intro p hp;rcases List.mem_cons.1 hp with rfl|hp;exact rfl;rw[List.mem_singleton.1 hp];exact rfl)) (hpn:∀ fr' h',(∀ p∈exf,fget fr' p.1=p.2)→ObjsOk h' extra→K (.panic [{ v:=u0,recovered:=false }]) fr' ((hd'++fz)++h'):=by intro fr' h' _ _;first|exact⟨rfl,⟨HElt.of rfl,trivial⟩,rfl⟩|exact Or.inl ⟨rfl,⟨HElt.of rfl,trivial⟩,rfl⟩) (hA:APan P f cargs hc u0 hc') (hr:dops P n dr ops rest (⟨(gIns ops g++(Zay fop (.fn (.func f) [] caps)++(Zan xs vs++exf))).map Prod.fst,[d],(Zbb φ hc hc' objs++extra).map Prod.fst,[]⟩::log) K ((d,never)::fr) h) :dops P n dr ops (⟨some d,.call { callee:=.value fop,args:=args,argTypes:=ats },ty,pos,after,g⟩::rest) log K fr h:=Zlt exf extra φ hg hd hxs hf hx h1 hA ha hlink hnew hok hin hcl (by rw[hh0]) hex hexf hpn hr
end Go.Proofs.YtbpmepgnjanhnaaGreat
