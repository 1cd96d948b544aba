import Derived.Test.YtbpmepgnjanhnaaGreatS2
set_option linter.unusedVariables false
set_option linter.unusedSimpArgs false
set_option linter.unusedSectionVars false
namespace Go.Proofs.YtbpmepgnjanhnaaGreat
variable {P:Program} {n:Nat} {dr:Bool} {ops:Array Oper} {rest:List Oper} {log:List Rec} {K:Exit→Fr→Hp→Prop} {fr:Fr}
open Go.RowKit
theorem Zsc {α:Type} (L v:List α) (o A N sz off:Nat) (h1:off+v.length≤sz) (h2:A+sz≤N) (h3:o+N≤L.length) :
  ((L.take (o+(A+off))++v++L.drop (o+(A+off)+v.length)).drop o).take N =
   ((L.drop o).take N).take A++(((((L.drop o).take N).drop A).take sz).take off++v++((((L.drop o).take N).drop A).take sz).drop (off+v.length))++((L.drop o).take N).drop (A+sz):=by
 have hW:(L.take (o+(A+off))++v++L.drop (o+(A+off)+v.length)).drop o=(L.drop o).take (A+off)++v++(L.drop o).drop (A+off+v.length):=by
  rw[HH,List.drop_append_of_le_length (by simp;omega),List.drop_take,HH,List.drop_drop,show o+(A+off) - o=A+off by omega,show o+(A+off)+v.length=o+(A+off+v.length) by omega]
 rw[hW];generalize hWd:L.drop o=W;have hWl:N≤W.length:=by rw[←hWd];simp;omega
 clear hW hWd h3;have e1:(W.take (A+off)++v++W.drop (A+off+v.length)).take N=W.take (A+off)++v++(W.take N).drop (A+off+v.length):=by
  rw[List.take_append,H6 (by simp;omega),List.drop_take];congr 2;simp;omega
 rw[e1];have hUl:(W.take N).length=N:=by simp;omega
 have e2:W.take (A+off)=(W.take N).take (A+off):=by rw[List.take_take];congr 1;omega
 rw[e2];generalize W.take N=U at hUl;clear e1 e2 hWl;have e3:U.take (A+off)=U.take A++((U.drop A).take sz).take off:=by rw[List.take_take,Gs (by omega),List.take_add]
 have e4:U.drop (A+off+v.length)=((U.drop A).take sz).drop (off+v.length)++U.drop (A+sz):=by
  have e5:U.drop A=(U.drop A).take sz++U.drop (A+sz):=(Gh sz (U.drop A)).symm.trans (by rw[List.drop_drop]);rw[GR,←List.drop_drop]
  conv=>lhs;rw[e5]
  rw[List.drop_append_of_le_length (by simp;omega)]
 rw[e3,e4];simp only[HH]
section
variable {h:Hp}
variable {d:Nat} {ty:TypeId} {pos:String} {after:Array Edge} {g:Option (Nat×Bool)}
variable (T:TT P)
theorem An.storeElt {G:Ctx} {E:Env} {a:Act} {w:World} (C:An G E fr h a w) {k m i off sz:Nat} {e:TypeId} {xs:List D} (hk:Ah h k=some (.row e sz xs)) (hm:xs.length=m) (hi:i < m) {x':D} {t:TypeId} {y:Ty} (ht:T.rows[t]? = some y)
  {up u:Value} (hp:V.Rep E h (bars E h G.o) w (.optr k m i off) up) (hu:u.cells.size=y.size) (h1:∀ z∈u.cells.toList,z.oneCell'=true) (hfit:off+y.size≤sz)
  (hx':∀ c,(xs[i]?.getD (.agg [])).Rep (bars E h G.o) w c→x'.Rep (bars E h G.o) w (c.take off++u.cells.toList++c.drop (off+u.cells.toList.length))) (hxs:x'.size=sz) :
  ∃ E' w',(Instr.storeAt t up u).run P w=.ok () w'∧An G E' fr ((k,.row e sz (xs.set i x'))::h) a w':=by
 simp only[V.Rep] at hp;obtain⟨m',q1,q2,_,q3⟩:=hp;have e1:=Za9 q1 (.inl ⟨e,sz,xs,hk,hm⟩);obtain⟨b,o,cap,h5,h4⟩:=q3 e1.symm sz (.inl ⟨e,xs,hk,hm⟩);have hrow:=C.heap.obs k _ hk;simp only[ObRep] at hrow;obtain⟨hsz,⟨ad,hv,hnil⟩|⟨gb,o',cap',cur,hv,hc0,hgb,hlc,hcm,hcs,hreps⟩⟩:=hrow
 ·subst hnil;simp at hm;omega
 ·rw[h5] at hv;simp only[Value.slice.injEq,Hx,Addr.mk.injEq,HA] at hv;obtain⟨⟨rfl,rfl⟩,_,rfl⟩:=hv;have hA:(i+1) * sz≤xs.length * sz:=Gi _ (by omega);have hN:xs.length * sz≤cap * sz:=Gi _ hlc;rw[Gb] at hA;have hul:u.cells.toList.length=y.size:=by simp[hu]
  have hrun:=Zh6 T (w:=w) (off:=o+(i * sz+off)) ht hgb hu (by omega) h1;have hxi:xs[i]? = some xs[i]:=by simp
  have Ah:=hreps.get hsz hxi;have hset:=hreps.set hsz (i:=i) (by omega) (hx' _ (by rw[hxi];exact Ah));have hspl:=Zsc cur.toList u.cells.toList o (i * sz) (xs.length * sz) sz off (by omega) (by omega) (by simp;omega);have hobk:obOf (E.row k)=some b:=by rw[h5];simp[obOf];omega
  obtain⟨E',C',hE'⟩:=C.setRow (xs':=xs.set i x') hk (v:=E.row k) (w':=w.setRow b (cur.toList.take (o+(i * sz+off))++u.cells.toList++cur.toList.drop (o+(i * sz+off)+u.cells.toList.length)).toArray) (Ext.setRow w b _ hobk) (fun b' hb'=>.inl hb') (by simp) (fun _=>rfl) (fun M' hM=>by
   refine⟨fun z hz=>?_,.inr ⟨b,o,cap,_,by rw[h5];simp[hm],hc0,setRow_heap w b cur _ e _ hgb,by simpa using hlc,hcm,?_,?_⟩⟩
   ·rcases GU hz with hz|rfl
    ·exact hsz z hz
    ·exact hxs
   ·simp only[JB,Hk,Hs,HG,Jy];omega
   ·simp only[HJ];rw[hspl];exact hset.carry hM)
  refine⟨E',_,?_,C'⟩;rw[h4];exact hrun
theorem ZBy {x yv:Operand} {t:TypeId} {k m i sz:Nat} {e:TypeId} {xs:List D} {v:V} {x':D} {objs:List (Nat×Option Ob)} {fz:Hp} {y:Ty} (hg:gOk ops fr g:=by exact Vf) (hx:oev fr x=.optr k m i 0:=by exact rfl) (hy:oev fr yv=v:=by exact Vu) (h1:ZaP yv=true:=by exact rfl) (hk:Ah h k=some (.row e sz xs):=by exact rfl) (hm:xs.length=m:=by exact Vg) (hi:i < m:=by exact Vm)
  (he:Aq h v x' objs fz:=by exact Vw) (hkf:fz.all (fun p=>!Nat.beq p.1 k)=true:=by exact rfl) (ht:T.rows[t]? = some y:=by exact rfl) (hl:Nat.beq y.size sz=true:=by exact rfl) (hxs:Nat.beq x'.size sz=true:=by exact rfl)
  (hr:dops P n dr ops rest (⟨(gIns ops g++Zaq [x,yv] [.optr k m i 0,v]).map Prod.fst,[],((k,some (Ob.row e sz xs))::objs).map Prod.fst,((k,Ob.row e sz (xs.set i x'))::fz).map Prod.fst⟩::log) K fr (((k,.row e sz (xs.set i x'))::fz)++h)):dops P n dr ops (⟨none,.store t x yv,ty,pos,after,g⟩::rest) log K fr h:=by
 refine ZaA (ins:=gIns ops g++Zaq [x,yv] [.optr k m i 0,v]) (objs:=(k,some (.row e sz xs))::objs) (v:=.junk) (upd:=(k,.row e sz (xs.set i x'))::fz) (LStep.updS rfl rfl hg _ _ _ fun G E fr' h' a w C hi' ho=>?_) (Zc7 hg (ZbK ⟨hx,hy,trivial⟩)) (Am.cons hk he.objs) hr;have hk':Ah h' k=some (.row e sz xs):=ho (k,_) (by simp);have he':=he.of (h':=h') (fun p hp=>ho p (by simp[hp]));have hx':=Zcy (xs:=[x,yv]) (vs:=[.optr k m i 0,v]) ⟨hx,hy,trivial⟩ hi';simp only[oevs] at hx';have C1:=C.frozs he'.fz;have hk1:Ah (fz++h') k=some (.row e sz xs):=by
  rw[ZaL,ZcD]
  ·exact hk'
  ·intro hmem;obtain⟨p,hp,rfl⟩:=List.mem_map.1 hmem;have:=List.all_eq_true.1 hkf p hp;simp[Gt] at this
 obtain⟨p1,_⟩:=C1.oev hx'.1 (Zao (Zap hx rfl));obtain⟨q1,_⟩:=C1.oev hx'.2.1 (Zao h1);have hd:=he'.co he'.fz (fun _ hp=>hp) _ _ _ _ C1.heap C1.sub q1;simp only[V.Rep] at hd;have hc:=hd.cells;have hcl:=hc.length;have e2:=HQ hl;have e3:=HQ hxs;obtain⟨E',w',r1,C'⟩:=C1.storeElt T hk1 hm hi (x':=x') ht p1 (u:=a.eval yv) (by simp at hcl;omega) hc.one (by omega) (fun c hcc=>by
  have hlen:=hcc.length;have hel:(xs[i]?.getD (.agg [])).size=sz:=by
   have hrow:=C1.heap.obs k _ hk1;rw[Hj (by omega:i < xs.length)];exact hrow.1 _ (He _)
  rw[HL (by simp at hcl ⊢;omega)];simpa using hc) e3
 refine⟨E',w',?_,C'⟩;simp only[execOp,Sem.run_bind,r1,Result.andThen_ok,Sem.run_pure]
inductive At (h:Hp) (sz:Nat):V→List D→List (Nat×Option Ob)→Prop
 | sl {t:Bool} {ys:List D}:At h sz (.d (.sl t sz ys)) ys []
 | full {t:Bool} {ys:List D}:At h sz (.full t sz ys) ys []
 | own {k m:Nat} {e:TypeId} {ys:List D} (hk:Ah h k=some (.row e sz ys)) (hm:ys.length=m):At h sz (.own k m) ys [(k,some (.row e sz ys))]
 | frz {k m:Nat} {ys:List D} (hk:Ah h k=some (.froz sz ys)) (hm:ys.length=m):At h sz (.own k m) ys [(k,some (.froz sz ys))]
 | nil:At h sz nilS [] []
theorem At.notAgg {sz:Nat} {v:V} {ys:List D} {o:List (Nat×Option Ob)} (ha:At h sz v ys o):notAgg v=true:=by cases ha <;> rfl
theorem At.objs {sz:Nat} {v:V} {ys:List D} {o:List (Nat×Option Ob)} (ha:At h sz v ys o):Am h o:=by cases ha <;> simp[Am] <;> assumption
theorem At.of {h':Hp} {sz:Nat} {v:V} {ys:List D} {o:List (Nat×Option Ob)} (ha:At h sz v ys o) (ho:Am h' o):At h' sz v ys o:=by
 cases ha with
 | sl=>exact .sl
 | full=>exact .full
 | own hk hm=>exact .own (ho (_,_) (List.mem_singleton.2 rfl)) hm
 | frz hk hm=>exact .frz (ho (_,_) (List.mem_singleton.2 rfl)) hm
 | nil=>exact .nil
def Zy1 (M:Bars) (w:World) (sz:Nat) (u:Value) (ys:List D):Prop:=∃ a c news,u=.slice a ys.length c∧D.Reps M w ys news∧(∀ x∈ys,x.size=sz)∧(ys≠[]→∃ b off,a=some ⟨b,off,none⟩∧∀ j,j < news.length→w.cell? ⟨b,off+j,none⟩=news[j]?)
theorem D.Rep.slArg {M:Bars} {w:World} {t:Bool} {sz:Nat} {ys:List D} {u:Value} (hr:D.Rep M w (.sl t sz ys) [u]):Zy1 M w sz u ys:=by
 simp only[D.Rep,Hz,HA] at hr;obtain⟨a,cap,us,rfl,_,_,h3,h4,h5⟩:=hr;refine⟨a,cap,us,rfl,h4,h3,fun hne=>?_⟩;obtain⟨b,off,h6,_,_,h7⟩:=h5 hne;exact⟨b,off,h6,h7⟩
theorem At.slArg {G:Ctx} {E:Env} {a:Act} {w:World} (C:An G E fr h a w) {sz:Nat} {v:V} {ys:List D} {o:List (Nat×Option Ob)} (ha:At h sz v ys o) {u:Value} (hr:V.Rep E h (bars E h G.o) w v u):Zy1 (bars E h G.o) w sz u ys:=by
 cases ha with
 | sl=>simp only[V.Rep,D.RepV] at hr;exact hr.slArg
 | full=>simp only[V.Rep] at hr;exact hr.1.slArg
 | @own k m e ys hk hm =>
  simp only[V.Rep] at hr;obtain⟨m',h1,_,_,h3⟩:=hr;have e1:=Za9 h1 (.inl ⟨e,sz,ys,hk,hm⟩);rw[h3 e1.symm];have hrow:=C.heap.obs k _ hk;simp only[ObRep] at hrow;by_cases hne:ys=[]
  ·subst hne;obtain⟨ad,cap,h4,_⟩:=hrow.shape;exact⟨ad,cap,[],h4,by simp[D.Reps],by simp,by simp⟩
  ·obtain⟨gb,off,cap,us,q1,_,q3,q4,_,q6⟩:=hrow.cells hne;exact⟨_,cap,us,q1,q3,hrow.1,fun _=>⟨gb,off,rfl,q6⟩⟩
 | @frz k m ys hk hm =>
  simp only[V.Rep] at hr;obtain⟨m',h1,_,_,h3⟩:=hr;have e1:=Za9 h1 (.inr (.inl ⟨sz,ys,hk,hm⟩));rw[h3 e1.symm];exact D.Rep.slArg (C.heap.obs k _ hk)
 | nil =>
  simp only[V.Rep,D.RepV,D.Rep,Hz,HA] at hr;exact⟨none,0,[],hr.1,by simp[D.Reps],by simp,by simp⟩
theorem Zjy (w:World) (t ty e:TypeId) (i:TypeInfo) (ht:P.underlying t=some (.slice e)) (hi:P.info? e=some i)
  (gb off sLen sCap:Nat) (cur:Array Value) (hg:w.heap[gb]? = some (.cells cur e (0,0)))
  (a:Addr) (m c:Nat) (news:List Value) (hl:news.length=m * i.size) (hnews:∀ j u,news[j]? = some u→w.cell? (a.add j)=some u) (h1:∀ u∈news,u.oneCell'=true)
  (hroom:sLen+m≤sCap) (hfit:off+sLen * i.size+news.length≤cur.size) :
  (Builtin.append_ #[t,t] ty #[.slice (some ⟨gb,off,none⟩) sLen sCap,.slice (some a) m c]).run P w =
   .ok (.slice (some ⟨gb,off,none⟩) (sLen+m) sCap) (w.setRow gb (cur.toList.take (off+sLen * i.size)++news++cur.toList.drop (off+sLen * i.size+news.length)).toArray):=by
 have hf:=run_firstCells_some (P:=P) w i.size m a m c news hl hnews;have hst:=run_storeCells_at P gb (off+sLen * i.size) e news 0 cur w hg (by simpa using hfit) h1;simp only[Gx] at hst;simp[Builtin.append_,run_underlying ht,sizeOf,typeInfo,hi,Builtin.lenOf,hroom,hf,Addr.add_mid,hst]
theorem Zy2 {M:Bars} {w:World} (S:Nat→Prop) {t ty e:TypeId} {y ye:Ty} {z:Value} {sz:Nat} (ht:T.rows[t]? = some y) (hel:y.elem=some e) (hte:T.rows[e]? = some ye) (hz:ye.zero=some z) (hsz:ye.size=sz) (hs0:0 < sz) (hzs:z.cells.size=sz)
  {u x:Value} {xs ys:List D} (hx:Zy1 M w sz x ys) (hbytes:(xs.length+ys.length) * ye.bytes≤140737488355328) (h63:xs.length+ys.length≤4611686018427387904) (hne:ys≠[])
  (hbase:(RowAt M w e sz u xs∧∀ b,obOf u=some b→S b)∨(Zy1 M w sz u xs∧∃ ad,u=.slice ad xs.length xs.length)) :
  ∃ v' w',(Builtin.append_ #[t,t] ty #[u,x]).run P w=.ok v' w'∧v'.oneCell'=true∧Ext S w w'∧(∀ b,obOf v'=some b→S b∨w.heap.size≤b)∧∀ M',Carry M M' w w'→RowAt M' w' e sz v' (xs++ys):=by
 obtain⟨_,ds,_,k2,_,_,_,_,k7,_⟩:=ZaH (T.at ht);obtain⟨i,_,g1,_,g3,g4,_,g6,_⟩:=ZaH (T.at hte);have hds:=k7 e hel;subst hds;subst hsz;obtain⟨xa,xc,news,rfl,hx4,hx3,hx5⟩:=hx;obtain⟨xb,xoff,rfl,hxc⟩:=hx5 hne;have hxl:=hx4.length;rw[D.sizes_eq hx3] at hxl;rw[←g4] at hbytes;have hyl:0 < ys.length:=List.length_pos_iff.2 hne;have hn:∀ j u,news[j]? = some u→w.cell? ((⟨xb,xoff,none⟩:Addr).add j)=some u:=fun j u hu=>by
  rw[Addr.add_mid,hxc j (List.getElem?_eq_some_iff.1 hu).1,hu]
 have grown:∀ (old:Nat) (es:List Value) ,D.Reps M w xs es→(∀ x∈xs,x.size=ye.size)→old < xs.length+ys.length→∀ M',Carry M M' w (w.drew.alloc (.cells (es.toArray++news.toArray++Builtin.zeroCells z.cells (grownCap w (xs.length+ys.length) old e - (xs.length+ys.length))) e)) →
   RowAt M' (w.drew.alloc (.cells (es.toArray++news.toArray++Builtin.zeroCells z.cells (grownCap w (xs.length+ys.length) old e - (xs.length+ys.length))) e)) e ye.size
    (.slice (some ⟨w.heap.size,0,none⟩) (xs.length+ys.length) (grownCap w (xs.length+ys.length) old e)) (xs++ys):=by
  intro old es q1 q2 ho M' hM;have hge:=grownCap_ge w (xs.length+ys.length) old e;have hcm:grownCap w (xs.length+ys.length) old e≤maxLen:=grownCap_le_maxLen w (xs.length+ys.length) old e (by simp[maxLen];omega);have hel:=q1.length;rw[D.sizes_eq q2] at hel;refine⟨fun x hx=>(List.mem_append.1 hx).elim (q2 x) (hx3 x),.inr ⟨w.heap.size,0,_,_,by rw[Hk],by omega,heap_alloc_new w.drew _,by rw[Hk];exact hge,hcm,?_,?_⟩⟩
  ·simp only[Array.size_append,JB,size_zeroCells,hzs,hel,hxl,←Gb,HE];congr 1;omega
  ·have e9:∀ Z:List Value,List.take ((xs++ys).length * ye.size) (es++news++Z)=es++news:=fun Z=>by
    have:(xs++ys).length * ye.size=(es++news).length:=(by rw[Hk,Hk,hel,hxl,Gb]);rw[this,List.take_left]
   simp only[Gl,Array.toList_append];rw[e9];exact (q1.append hx4).carry hM
 have hEg:∀ o:Obj,Ext S w (w.drew.alloc o):=fun o=>(Ext.refl _ w).drew.alloc o
 have hnb:∀ c b,obOf (.slice (some ⟨w.heap.size,0,none⟩) (xs.length+ys.length) c)=some b→S b∨w.heap.size≤b:=fun c b hb=>by
  simp[obOf] at hb;exact .inr (by omega)
 have fromBase:∀ (ba:Option Addr) (cap:Nat) (es:List Value),u=.slice ba xs.length cap→D.Reps M w xs es→(∀ x∈xs,x.size=ye.size)→(∀ b,ba=some b→∀ j v,es[j]? = some v→w.cell? (b.add j)=some v)→(ba=none→xs=[]∧cap=0)→cap < xs.length+ys.length →
   ∃ v' w',(Builtin.append_ #[t,t] ty #[u,.slice (some ⟨xb,xoff,none⟩) ys.length xc]).run P w=.ok v' w'∧v'.oneCell'=true∧Ext S w w'∧(∀ b,obOf v'=some b→S b∨w.heap.size≤b)∧∀ M',Carry M M' w w'→RowAt M' w' e ye.size v' (xs++ys):=by
  intro ba cap es hu q1 q2 q3 q4 q5;have hel:=q1.length;rw[D.sizes_eq q2] at hel;cases ba with
  | none =>
   obtain⟨rfl,rfl⟩:=q4 rfl;simp only[D.Reps] at q1;subst q1;have hr:=run_append_nil (P:=P) w t ty e i z k2 g1 (by rw[g6,hz]) ⟨xb,xoff,none⟩ ys.length xc news (by rw[hxl,g3]) hn (by omega) (by omega) (by simp at hbytes;omega);have hg2:=grown 0 [] (by simp[D.Reps]) (by simp) (by simp;omega);simp only[HB,HE,H3,Array.empty_append] at hg2 hnb ⊢;exact⟨_,_,by rw[hu];exact hr,rfl,hEg _,hnb _,hg2⟩
  | some b =>
   have hr:=run_append_grow (P:=P) w t ty e i z k2 g1 (by rw[g6,hz]) b xs.length cap es (by rw[hel,g3]) (q3 b rfl) ⟨xb,xoff,none⟩ ys.length xc news (by rw[hxl,g3]) hn (by omega) (by omega) (growslice_fits (by omega) hbytes);exact⟨_,_,by rw[hu];exact hr,rfl,hEg _,hnb _,grown cap es q1 q2 q5⟩
 rcases hbase with ⟨hrow,hS⟩|⟨hsl,ad,hu⟩
 ·obtain⟨hs,⟨ad,hu,rfl⟩|⟨gb,off,cap,cur,hu,hc0,hgb,hlc,hcm,hcs,hreps⟩⟩:=hrow
  ·cases ad with
   | none=>exact fromBase none 0 [] hu (by simp[D.Reps]) (by simp) (by simp) (by simp) (by simp;omega)
   | some b=>exact fromBase (some b) 0 [] hu (by simp[D.Reps]) (by simp) (by simp) (by simp) (by simp;omega)
  ·have hrl:=hreps.length;rw[D.sizes_eq hs] at hrl;have hN:xs.length * ye.size≤cap * ye.size:=Gi _ hlc;by_cases hroom:xs.length+ys.length≤cap
   ·have hN2:(xs.length+ys.length) * ye.size≤cap * ye.size:=Gi _ hroom;rw[Gb] at hN2;have hr:=Zjy (P:=P) w t ty e i k2 g1 gb off xs.length cap cur hgb ⟨xb,xoff,none⟩ ys.length xc news (by rw[hxl,g3]) hn hx4.one hroom (by rw[g3,hxl];omega);rw[g3] at hr;have hou:obOf u=some gb:=(by rw[hu];simp[obOf];omega);refine⟨_,_,by rw[hu];exact hr,rfl,Ext.setRow w gb _ (hS gb hou),(fun b hb=>.inl (hS b (by rw[hou];simp[obOf] at hb;rw[←hb.2]))),fun M' hM=>?_⟩;refine⟨fun x hx=>(List.mem_append.1 hx).elim (hs x) (hx3 x),.inr ⟨gb,off,cap,_,by rw[Hk],hc0,setRow_heap w gb cur _ e _ hgb,by rw[Hk];exact hroom,hcm,?_,?_⟩⟩
    ·simp only[JB,Hk,Hs,HG,Jy];omega
    ·rw[Hk,Gb];have e1:((cur.toList.take (off+xs.length * ye.size)++news++cur.toList.drop (off+xs.length * ye.size+news.length)).drop off).take (xs.length * ye.size+ys.length * ye.size)=(cur.toList.drop off).take (xs.length * ye.size)++news:=by
      apply List.ext_getElem?;intro j;simp only[GC,Gy,List.getElem?_append,Hk,Hs,HG,Jy]
      repeat' split
      all_goals first
       | omega
       | rfl
       | (congr 1;omega)
       | (symm;apply HI;omega)
     simp only[];rw[e1];exact (hreps.append hx4).carry hM
   ·refine fromBase (some ⟨gb,off,none⟩) cap _ hu hreps hs (fun b hb j v hv=>?_) (by simp) (by omega);cases hb;rw[Addr.add_mid];simp only[World.cell?,hgb];rw[GC] at hv;split at hv
    ·rw[Gy] at hv;simpa using hv
    ·cases hv
 ·obtain⟨ba,bc,es,h1,q1,q2,q3⟩:=hsl;rw[hu] at h1;simp only[Value.slice.injEq,true_and] at h1;obtain⟨rfl,rfl⟩:=h1;have hel:=q1.length;rw[D.sizes_eq q2] at hel;refine fromBase ad xs.length es hu q1 q2 (fun b hb j v hv=>?_) (fun hb=>?_) (by omega)
  ·have hxne:xs≠[]:=by rintro rfl;simp at hel;subst hel;simp at hv
   obtain⟨b',off,rfl,hc⟩:=q3 hxne;cases hb;rw[Addr.add_mid,hc j (List.getElem?_eq_some_iff.1 hv).1];exact hv
  ·have:xs=[]:=by
    apply HN;intro hxne;obtain⟨b',off,h2,_⟩:=q3 hxne;rw[hb] at h2;cases h2
   exact⟨this,by simp[this]⟩
theorem Zt1 {w:World} {t ty e:TypeId} {y:Ty} {ye:Ty} (ht:T.rows[t]? = some y) (hel:y.elem=some e) (hte:T.rows[e]? = some ye) {ba xa:Option Addr} {m cap xc:Nat} (hc:m≤cap) :
  (Builtin.append_ #[t,t] ty #[.slice ba m cap,.slice xa 0 xc]).run P w=.ok (.slice ba m cap) w:=by
 obtain⟨_,ds,_,k2,_,_,_,_,k7,_⟩:=ZaH (T.at ht);obtain⟨i,_,g1,_⟩:=ZaH (T.at hte);have hds:=k7 e hel;subst hds;cases xa <;> cases ba <;> simp[Builtin.append_,run_underlying k2,sizeOf,typeInfo,g1,Builtin.lenOf,Builtin.firstCells,loadCells,loadCellsFrom,storeCells,hc]
theorem Zlt {ρ:Operand→Value} {t:TypeId} {x y:Operand} {w w':World} {v:Value} (h:(Builtin.append_ #[t,t] ty #[ρ x,ρ y]).run P w=.ok v w') :
  (execOp ρ ⟨some d,.call { callee:=.builtin .append,args:=#[x,y],argTypes:=#[t,t] },ty,pos,after,g⟩).run P w=.ok (.value v) w':=by
 simp only[execOp,resolve,Sem.run_bind,Sem.run_pure,Result.andThen_ok,invoke,builtin,List.map_toArray,Hm,HF,h]
theorem ZFj {x xy:Operand} {t e:TypeId} {k m sz:Nat} {xs ys:List D} {v:V} {objs:List (Nat×Option Ob)} {y ye:Ty} {z:Value} (hdn:Nat.blt d n=true:=by exact rfl) (hg:gOk ops fr g:=by exact Vf) (hx:oev fr x=.own k m:=by exact rfl) (hy:oev fr xy=v:=by exact Vu) (hk:Ah h k=some (.row e sz xs):=by exact rfl) (hm:xs.length=m:=by exact Vg) (ha:At h sz v ys objs:=by exact Vx)
  (ht:T.rows[t]? = some y:=by exact rfl) (hel:y.elem=some e:=by exact rfl) (hte:T.rows[e]? = some ye:=by exact rfl) (hz:ye.zero=some z:=by exact rfl) (hsz:Nat.beq ye.size sz=true:=by exact rfl) (hs0:Nat.blt 0 sz=true:=by exact rfl) (hzs:Nat.beq z.cells.size sz=true:=by exact rfl) {nb:Nat} (hnb:ye.bytes=nb:=by exact Vu) (hbytes:(xs.length+ys.length) * nb≤140737488355328:=by exact Vm) (h63:xs.length+ys.length≤4611686018427387904:=by exact Vm)
  (hr:dops P n dr ops rest (⟨(gIns ops g++Zaq [x,xy] [.own k m,v]).map Prod.fst,[d],((k,some (Ob.row e sz xs))::objs).map Prod.fst,[k]⟩::log) K ((d,.own k (xs++ys).length)::fr) ((k,.row e sz (xs++ys))::h)) :
  dops P n dr ops (⟨some d,.call { callee:=.builtin .append,args:=#[x,xy],argTypes:=#[t,t] },ty,pos,after,g⟩::rest) log K fr h:=by
 subst hnb;refine ZaA (ins:=gIns ops g++Zaq [x,xy] [.own k m,v]) (objs:=(k,some (.row e sz xs))::objs) (v:=.own k (xs++ys).length) (upd:=[(k,.row e sz (xs++ys))]) (LStep.updV rfl hdn rfl hg _ _ _ _ fun G E fr' h' a w C hi ho=>?_) (Zc7 hg (ZbK ⟨hx,hy,trivial⟩)) (Am.cons hk ha.objs) hr;have hk':Ah h' k=some (.row e sz xs):=ho (k,_) (by simp);have ha':=ha.of (h':=h') (fun p hp=>ho p (by simp[hp]));have hx':=Zcy (xs:=[x,xy]) (vs:=[.own k m,v]) ⟨hx,hy,trivial⟩ hi;simp only[oevs] at hx';obtain⟨p1,_⟩:=C.oev hx'.1 (Zao (Zap hx rfl));obtain⟨q1,_⟩:=C.oev hx'.2.1 (Zao (Zap hy ha.notAgg));have hsa:=ha'.slArg C q1;simp only[V.Rep] at p1;obtain⟨m',h1,_,_,h3⟩:=p1;have e1:=Za9 h1 (.inl ⟨e,sz,xs,hk',hm⟩);have hev:=h3 e1.symm;have hrow:=C.heap.obs k _ hk';simp only[ObRep] at hrow;have fin:∀ (v':Value) (w':World),(Builtin.append_ #[t,t] ty #[a.eval x,a.eval xy]).run P w=.ok v' w'→Ext (fun b=>obOf (E.row k)=some b) w w'→(∀ b,obOf v'=some b→obOf (E.row k)=some b∨w.heap.size≤b)→(xs.length=(xs++ys).length→v'=E.row k)→(v'.oneCell'=true)→(∀ M',Carry (bars E h' G.o) M' w w'→RowAt M' w' e sz v' (xs++ys)) →
   ∃ u E' w',(execOp a.eval ⟨some d,.call { callee:=.builtin .append,args:=#[x,xy],argTypes:=#[t,t] },ty,pos,after,g⟩).run P w=.ok (.value u) w'∧An G E' fr' ([(k,.row e sz (xs++ys))]++h') a w'∧V.Rep E' ([(k,.row e sz (xs++ys))]++h') (bars E' ([(k,.row e sz (xs++ys))]++h') G.o) w' (.own k (xs++ys).length) u∧∀ j∈(V.own k (xs++ys).length).keys,(Ah ([(k,.row e sz (xs++ys))]++h') j).isSome=true:=by
  intro v' w' r1 r2 r3 r4 r5 r6;obtain⟨E',C',hE⟩:=C.setRow hk' (v:=v') r2 r3 (by simp) r4 r6;refine⟨v',E',w',Zlt r1,C',?_,by intro q hq;simp[V.keys] at hq;subst hq;simp[Zai]⟩;simp only[V.Rep];exact⟨_,.inl ⟨e,sz,_,Zai _ _ _,rfl⟩,Hg _,r5,fun _=>hE.symm⟩
 by_cases hne:ys=[]
 ·subst hne;obtain⟨ad,cap,s1,s2,_⟩:=hrow.shape;obtain⟨xa,xc,news,s3,_⟩:=hsa;refine fin (E.row k) w ?_ (Ext.refl _ _) (fun b hb=>.inl hb) (fun _=>rfl) (by rw[s1];rfl) (fun M' hM=>by rw[Ht];exact hrow.move hM (fun _ _=>rfl));rw[hev,s3,s1];exact Zt1 T ht hel hte s2
 ·obtain⟨v',w',r1,r0,r2,r3,r4⟩:=Zy2 T (fun b=>obOf (E.row k)=some b) (ty:=ty) ht hel hte hz (HQ hsz) (by simpa[HU] using hs0) (HQ hzs) hsa hbytes h63 hne (.inl ⟨hrow,fun b hb=>hb⟩);refine fin v' w' (by rw[hev];exact r1) r2 r3 (fun hl=>?_) r0 r4;exact absurd (by simpa using hl) hne
theorem ZcL {x xy:Operand} {t e:TypeId} {sz:Nat} {xs ys:List D} {b v:V} {objs:List (Nat×Option Ob)} {y ye:Ty} {z:Value} (hdn:Nat.blt d n=true:=by exact rfl) (hlow:Nat.blt d 1000=true:=by exact rfl) (hg:gOk ops fr g:=by exact Vf) (hx:oev fr x=b:=by exact Vu) (hy:oev fr xy=v:=by exact Vu) (hk:Ah h d=none:=by exact rfl) (ha:At h sz v ys objs:=by exact Vx)
  (hb:(b=nilS∧xs=[])∨((∃ t,b=.full t sz xs)∧(xs=[]∨ys≠[])):=by first|exact .inl ⟨rfl,rfl⟩|exact .inr ⟨⟨_,rfl⟩,.inl rfl⟩)
  (ht:T.rows[t]? = some y:=by exact rfl) (hel:y.elem=some e:=by exact rfl) (hte:T.rows[e]? = some ye:=by exact rfl) (hz:ye.zero=some z:=by exact rfl) (hsz:Nat.beq ye.size sz=true:=by exact rfl) (hs0:Nat.blt 0 sz=true:=by exact rfl) (hzs:Nat.beq z.cells.size sz=true:=by exact rfl) {nb:Nat} (hnb:ye.bytes=nb:=by exact Vu) (hbytes:(xs.length+ys.length) * nb≤140737488355328:=by exact Vm) (h63:xs.length+ys.length≤4611686018427387904:=by exact Vm)
  (hr:dops P n dr ops rest (⟨(gIns ops g++Zaq [x,xy] [b,v]).map Prod.fst,[d],((d,none)::objs).map Prod.fst,[d]⟩::log) K ((d,.own d (xs++ys).length)::fr) ((d,.row e sz (xs++ys))::h)) :
  dops P n dr ops (⟨some d,.call { callee:=.builtin .append,args:=#[x,xy],argTypes:=#[t,t] },ty,pos,after,g⟩::rest) log K fr h:=by
 subst hnb;refine ZaA (ins:=gIns ops g++Zaq [x,xy] [b,v]) (objs:=(d,none)::objs) (v:=.own d (xs++ys).length) (upd:=[(d,.row e sz (xs++ys))]) (LStep.updV rfl hdn rfl hg _ _ _ _ fun G E fr' h' a w C hi ho=>?_) (Zc7 hg (ZbK ⟨hx,hy,trivial⟩)) (Am.cons hk ha.objs) hr;have hk':Ah h' d=none:=ho (d,_) (by simp);have ha':=ha.of (h':=h') (fun p hp=>ho p (by simp[hp]));have hx':=Zcy (xs:=[x,xy]) (vs:=[b,v]) ⟨hx,hy,trivial⟩ hi;simp only[oevs] at hx';have hbn:notAgg b=true:=by
  rcases hb with ⟨rfl,_⟩|⟨⟨t,rfl⟩,_⟩ <;> rfl
 obtain⟨p1,_⟩:=C.oev hx'.1 (Zao (Zap hx hbn));obtain⟨q1,_⟩:=C.oev hx'.2.1 (Zao (Zap hy ha.notAgg));have hsa:=ha'.slArg C q1;have fin:∀ (v':Value) (w':World),(Builtin.append_ #[t,t] ty #[a.eval x,a.eval xy]).run P w=.ok v' w'→Ext NoB w w'→(∀ b,obOf v'=some b→w.heap.size≤b)→(v'.oneCell'=true)→(∀ M',Carry (bars E h' G.o) M' w w'→RowAt M' w' e sz v' (xs++ys)) →
   ∃ u E' w',(execOp a.eval ⟨some d,.call { callee:=.builtin .append,args:=#[x,xy],argTypes:=#[t,t] },ty,pos,after,g⟩).run P w=.ok (.value u) w'∧An G E' fr' ([(d,.row e sz (xs++ys))]++h') a w'∧V.Rep E' ([(d,.row e sz (xs++ys))]++h') (bars E' ([(d,.row e sz (xs++ys))]++h') G.o) w' (.own d (xs++ys).length) u∧∀ j∈(V.own d (xs++ys).length).keys,(Ah ([(d,.row e sz (xs++ys))]++h') j).isSome=true:=by
  intro v' w' r1 r2 r3 r5 r6;obtain⟨E',C',hE⟩:=C.newRow hk' hlow (v:=v') r2 r3 r6;refine⟨v',E',w',Zlt r1,C',?_,by intro q hq;simp[V.keys] at hq;subst hq;simp[Zai]⟩;simp only[V.Rep];exact⟨_,.inl ⟨e,sz,_,Zai _ _ _,rfl⟩,Hg _,r5,fun _=>hE.symm⟩
 have hbase:(∃ ad,a.eval x=.slice ad xs.length xs.length)∧Zy1 (bars E h' G.o) w sz (a.eval x) xs∧(xs=[]∨ys≠[]∨False):=by
  rcases hb with ⟨rfl,rfl⟩|⟨⟨t,rfl⟩,hne⟩
  ·simp only[V.Rep,D.RepV,D.Rep,Hz,HA] at p1;exact⟨⟨none,p1.1⟩,⟨none,0,[],p1.1,by simp[D.Reps],by simp,by simp⟩,.inl rfl⟩
  ·simp only[V.Rep] at p1;exact⟨p1.2,p1.1.slArg,hne.imp id .inl⟩
 obtain⟨⟨ad,hu⟩,hsl,hne⟩:=hbase;by_cases hys:ys=[]
 ·subst hys;have hxs:xs=[]:=by simpa using hne
  subst hxs;obtain⟨xa,xc,news,s3,_⟩:=hsa;refine fin (.slice ad 0 0) w ?_ (Ext.refl _ _) (fun b hb=>by cases ad <;> simp[obOf] at hb) rfl (fun M' hM=>⟨by simp,.inl ⟨ad,rfl,by simp⟩⟩);rw[hu,s3];exact Zt1 T ht hel hte (Hg _)
 ·obtain⟨v',w',r1,r0,r2,r3,r4⟩:=Zy2 T NoB (ty:=ty) ht hel hte hz (HQ hsz) (by simpa[HU] using hs0) (HQ hzs) hsa hbytes h63 hys (.inr ⟨hsl,ad,hu⟩);exact fin v' w' r1 r2 (fun b hb=>(r3 b hb).elim (fun q=>q.elim) id) r0 r4
theorem Zlu {ρ:Operand→Value} {t:TypeId} {x:Operand} {w:World} {v:Value} (h:(Builtin.len_ #[t] ty #[ρ x]).run P w=.ok v w) :
  (execOp ρ ⟨some d,.call { callee:=.builtin .len,args:=#[x],argTypes:=#[t] },ty,pos,after,g⟩).run P w=.ok (.value v) w:=by
 simp only[execOp,resolve,Sem.run_bind,Sem.run_pure,Result.andThen_ok,invoke,builtin,List.map_toArray,Hm,HF,h]
theorem ZFk {x:Operand} {t e sz:Nat} {ys:List D} {v:V} {objs:List (Nat×Option Ob)} {y:Ty} (hdn:Nat.blt d n=true:=by exact rfl) (hg:gOk ops fr g:=by exact Vf) (hx:oev fr x=v:=by exact Vu) (ha:At h sz v ys objs:=by exact Vx) (ht:T.rows[t]? = some y:=by exact rfl) (hel:y.elem=some e:=by exact rfl) {m:Nat} (hm:ys.length=m:=by first|(conv=>lhs;simp only[Hi,Hk,Hl,HB,HM,HJ,Hs,HG])|exact rfl)
  (hr:dops P n dr ops rest (⟨(gIns ops g++ZaG x v).map Prod.fst,[d],objs.map Prod.fst,[]⟩::log) K ((d,I m)::fr) h):dops P n dr ops (⟨some d,.call { callee:=.builtin .len,args:=#[x],argTypes:=#[t] },ty,pos,after,g⟩::rest) log K fr h:=by
 subst hm;refine d_un x v (I ys.length) objs ha.objs (Zap hx ha.notAgg) (fun G E fr h' a w C ho r hk=>?_) hdn hg hx hr;obtain⟨ad,c,news,h1,_⟩:=(ha.of ho).slArg C r;obtain⟨_,ds,_,k2,_,_,_,_,k7,_⟩:=ZaH (T.at ht);have hds:=k7 e hel;subst hds;refine⟨.int .i64 ys.length,Zlu ?_,by simp[V.Rep,D.RepV,D.Rep,Value.oneCell'],by simp[V.keys]⟩;rw[h1];simp[Builtin.len_,run_underlying k2,goInt]
theorem ZvH {t e:TypeId} {y ye:Ty} (ht:T.rows[t]? = some y) (hel:y.elem=some e) (hte:T.rows[e]? = some ye) {ba:Option Addr} {len cap lo hi:Nat} {kl kh:IntKind} (vl vh:Option Value) (hl:(vl=none∧lo=0)∨vl=some (.int kl lo)) (hh:(vh=none∧hi=len)∨vh=some (.int kh hi)) (h1:lo≤hi) (h2:hi≤cap) (w:World) :
  (Instr.sliceAt t (.slice ba len cap) vl vh none).run P w=.ok (.slice (if cap=lo then ba else ba.map (·.add (lo * ye.size))) (hi - lo) (cap - lo)) w:=by
 obtain⟨_,ds,_,k2,_,_,_,_,k7,_⟩:=ZaH (T.at ht);obtain⟨i,_,g1,_,g3,_⟩:=ZaH (T.at hte);have hds:=k7 e hel;subst hds;have e1:(0:Int)≤(hi:Int)∧(hi:Int)≤(cap:Int):=by omega
 have e2:(0:Int)≤(lo:Int)∧(lo:Int)≤(hi:Int):=by omega
 rcases hl with ⟨rfl,rfl⟩|rfl <;> rcases hh with ⟨rfl,rfl⟩|rfl <;>
  simp[Instr.sliceAt,run_underlying k2,Instr.slice,Instr.sliceBounds,Instr.sliceBound,asIntOf,sizeOf,typeInfo,g1,g3,h1,h2]
theorem ZEB {M:Bars} {w:World} {t:Bool} {sz lo hi:Nat} {es:List D} {ba:Option Addr} {cap cap':Nat} (hr:D.Rep M w (.sl t sz es) [.slice ba es.length cap]) (h1:lo≤hi) (h2:hi≤es.length) (hc:hi - lo≤cap') (hcm:cap'≤maxLen) :
  D.Rep M w (.sl t sz ((es.take hi).drop lo)) [.slice (if cap=lo then ba else ba.map (·.add (lo * sz))) (hi - lo) cap']:=by
 have hlen:((es.take hi).drop lo).length=hi - lo:=by simp;omega
 simp only[D.Rep,Hz,HA,Value.slice.injEq] at hr ⊢;obtain⟨a,cp,us,⟨rfl,_,rfl⟩,q1,q2,q3,q4,q5⟩:=hr;have hm:∀ x∈(es.take hi).drop lo,x.size=sz:=fun x hx=>q3 x (Gf (G5 hx))
 have hsp:es=es.take lo++(((es.take hi).drop lo)++es.drop hi):=by
  have e1:es.take hi=es.take lo++(es.take hi).drop lo:=by
   have:=(Gh lo (es.take hi)).symm
   rwa [List.take_take,Gs h1] at this
  rw[←HH,←e1,Gh]
 have hz1:D.sizes (es.take lo)=lo * sz:=by rw[D.sizes_eq (sz:=sz) (fun x hx=>q3 x (Gf hx)),Hs,Gs (by omega)]
 have hz2:D.sizes ((es.take hi).drop lo)=(hi - lo) * sz:=by rw[D.sizes_eq hm,hlen]
 have q4':=q4;rw[hsp] at q4';have q6:=(D.Reps.split (D.Reps.split q4').2).1;rw[hz1,hz2] at q6;have hul:=q4.length;rw[D.sizes_eq q3] at hul;refine⟨_,cap',_,⟨rfl,hlen.symm,rfl⟩,by omega,hcm,hm,q6,fun hne=>?_⟩;have hpos:0 < hi - lo:=by rw[←hlen];exact List.length_pos_iff.2 hne
 obtain⟨b,off,rfl,g1,g2,g3⟩:=q5 (by rintro rfl;simp at h2;omega);rw[Ha (by omega)];refine⟨b,off+lo * sz,by simp[Addr.add_mid],g1,g2,fun j hj=>?_⟩;have hle:(lo+(hi - lo)) * sz≤es.length * sz:=Gi _ (by omega);rw[Gb] at hle;simp only[Hs,HG,hul] at hj;rw[GR,g3 _ (by omega),GC,Hb (by omega),Gy]
def ZvI (fr:Fr):Option Operand→Nat→Nat→Prop
 | none,dflt,i=>i=dflt
 | some x,_,i=>oev fr x=I (i:Int)
def Zh7:Option Operand→Nat→List (Nat×V)
 | none,_=>[]
 | some x,i=>ZaG x (I (i:Int))
theorem ZqG {x:Option Operand} {dflt i:Nat} (hb:ZvI fr x dflt i):∀ p∈Zh7 x i,fget fr p.1=p.2:=by
 cases x with
 | none=>simp[Zh7]
 | some x=>exact ZbN hb
theorem Zy3 {G:Ctx} {E:Env} {fr':Fr} {a:Act} {w:World} (C:An G E fr' h a w) {x:Option Operand} {dflt i:Nat} (hb:ZvI fr x dflt i) (hi:∀ p∈Zh7 x i,fget fr' p.1=p.2):(x.map a.eval=none∧i=dflt)∨x.map a.eval=some (.int .i64 (i:Int)):=by
 cases x with
 | none=>exact .inl ⟨rfl,hb⟩
 | some x =>
  obtain⟨r,_⟩:=C.oev (ZcE hb hi) (Zao (Zap hb rfl));simp only[V.Rep,D.RepV,D.Rep,Hz,HA] at r;exact .inr (by simp[r.1])
theorem ZDs {x:Operand} {xl xh:Option Operand} {t e:Nat} {tb:Bool} {sz lo hi:Nat} {es:List D} {y ye:Ty} (hdn:Nat.blt d n=true:=by exact rfl) (hg:gOk ops fr g:=by exact Vf) (hx:oev fr x=.d (.sl tb sz es):=by exact rfl) (hl:ZvI fr xl 0 lo:=by exact rfl) (hh:ZvI fr xh es.length hi:=by exact rfl) (h1:lo≤hi:=by exact Vm) (h2:hi≤es.length:=by exact Vm)
  (ht:T.rows[t]? = some y:=by exact rfl) (hel:y.elem=some e:=by exact rfl) (hte:T.rows[e]? = some ye:=by exact rfl) (hsz:Nat.beq ye.size sz=true:=by exact rfl)
  (hr:dops P n dr ops rest (⟨(gIns ops g++(ZaG x (.d (.sl tb sz es))++(Zh7 xl lo++Zh7 xh hi))).map Prod.fst,[d],[],[]⟩::log) K ((d,.d (.sl tb sz ((es.take hi).drop lo)))::fr) h):dops P n dr ops (⟨some d,.slice t x xl xh none,ty,pos,after,g⟩::rest) log K fr h:=by
 refine ZaA (ins:=gIns ops g++(ZaG x (.d (.sl tb sz es))++(Zh7 xl lo++Zh7 xh hi))) (objs:=[]) (v:=.d (.sl tb sz ((es.take hi).drop lo))) (upd:=[]) (LStep.pure rfl hdn rfl hg _ [] _ fun G E fr' h' a w C hi' _=>?_) (Zc7 hg (fun p hp=>?_)) (by simp) hr
 ·simp only[HV] at hi';obtain⟨r,_⟩:=C.oev (ZcE hx (fun p hp=>hi' p (.inl hp))) (Zao (Zap hx rfl));have b1:=Zy3 C hl (fun p hp=>hi' p (.inr (.inl hp)));have b2:=Zy3 C hh (fun p hp=>hi' p (.inr (.inr hp)));simp only[V.Rep,D.RepV] at r;have r':=r;simp only[D.Rep,Hz,HA] at r';obtain⟨ba,cap,us,hev,q1,q2,_⟩:=r';rw[hev] at r;have hs:=HQ hsz;have hrun:=ZvH T ht hel hte (ba:=ba) (len:=es.length) (cap:=cap) (lo:=lo) (hi:=hi) (kl:=.i64) (kh:=.i64) (xl.map a.eval) (xh.map a.eval) b1 b2 h1 (by omega) w;rw[hs] at hrun;refine⟨_,?_,by simp only[V.Rep,D.RepV];exact ZEB r h1 h2 (cap':=cap - lo) (by omega) (by omega),by simp[V.keys]⟩;simp only[execOp,hev,Option.map_none,Sem.run_bind,hrun,Result.andThen_ok,Sem.run_pure]
 ·simp only[HV] at hp;rcases hp with hp|hp|hp
  ·exact ZbN hx p hp
  ·exact ZqG hl p hp
  ·exact ZqG hh p hp
end
def renK:List (Nat×Nat)→Nat→Nat
 | [],k=>k
 | (a,b)::r,k=>bif a == k then b else renK r k
mutual
def V.ren (φ:List (Nat×Nat)):V→V
 | .d x=>.d x
 | .full t sz es=>.full t sz es
 | .own k n=>.own (renK φ k) n
 | .ptr k off=>.ptr (renK φ k) off
 | .eptr t sz es i off=>.eptr t sz es i off
 | .optr k n i off=>.optr (renK φ k) n i off
 | .fn f a c=>.fn f (V.rens φ a) (V.rens φ c)
 | .agg cs=>.agg (V.rens φ cs)
 | .tup vs=>.tup (V.rens φ vs)
 | .mapv k=>.mapv (renK φ k)
 | .opn p=>.opn p
 | .junk=>.junk
def V.rens (φ:List (Nat×Nat)):List V→List V
 | []=>[]
 | v::r=>v.ren φ::V.rens φ r
end
def Ob.ren (φ:List (Nat×Nat)):Ob→Ob
 | .box ty cs=>.box ty (V.rens φ cs)
 | .nest e A r B=>.nest e A (r.map fun p=>(renK φ p.1,p.2)) B
 | o=>o
def Hp.ren (φ:List (Nat×Nat)):Hp→Hp
 | []=>[]
 | (k,o)::r=>(renK φ k,o.ren φ)::Hp.ren φ r
structure Link (φ:List (Nat×Nat)) (Ec:Env) (hc:Hp) (E:Env) (h:Hp):Prop where
 obj:∀ k,(Ah hc k).isSome=true→Ah h (renK φ k)=(Ah hc k).map (Ob.ren φ)
 blk:∀ k,(Ah hc k).isSome=true→Ec.blk k=E.blk (renK φ k)
 row:∀ k,(Ah hc k).isSome=true→Ec.row k=E.row (renK φ k)
 fp:∀ k,(Ah hc k).isSome=true→Ec.fp k=E.fp (renK φ k)
section
variable {φ:List (Nat×Nat)} {Ec E:Env} {hc h:Hp}
theorem Link.any (L:Link φ Ec hc E h) {k m:Nat} (hk:(Ah hc k).isSome=true):verAny h (renK φ k) m↔verAny hc k m:=by
 unfold verAny;rw[L.obj k hk];obtain⟨o,ho⟩:=Option.isSome_iff_exists.1 hk;rw[ho];cases o with
 | nest e A r B =>
  simp only[H9,Ob.ren,Hx,reduceCtorEq,false_and,exists_false,false_or,Ob.nest.injEq];constructor
  ·rintro⟨_,_,_,_,⟨rfl,rfl,rfl,rfl⟩,h2⟩;exact⟨e,A,r,B,⟨rfl,rfl,rfl,rfl⟩,by simpa using h2⟩
  ·rintro⟨_,_,_,_,⟨rfl,rfl,rfl,rfl⟩,h2⟩;exact⟨_,_,_,_,⟨rfl,rfl,rfl,rfl⟩,by simpa using h2⟩
 | _=>simp[Ob.ren]
theorem Link.rowv (L:Link φ Ec hc E h) {k sz m:Nat} (hk:(Ah hc k).isSome=true):verRow h (renK φ k) sz m↔verRow hc k sz m:=by
 unfold verRow;rw[L.obj k hk];obtain⟨o,ho⟩:=Option.isSome_iff_exists.1 hk;rw[ho];cases o with
 | nest e A r B =>
  simp only[H9,Ob.ren,Hx,reduceCtorEq,false_and,exists_false,false_or,Ob.nest.injEq];constructor
  ·rintro⟨_,_,_,_,⟨rfl,rfl,rfl,rfl⟩,h2⟩;exact⟨e,A,r,B,⟨rfl,rfl,rfl,rfl⟩,by simpa using h2⟩
  ·rintro⟨_,_,_,_,⟨rfl,rfl,rfl,rfl⟩,h2⟩;exact⟨_,_,_,_,⟨rfl,rfl,rfl,rfl⟩,by simpa using h2⟩
 | _=>simp[Ob.ren]
mutual
def D.clean:D→Prop
 | .raw _=>True
 | .sl t _ es=>t=false∧D.cleans es
 | .agg fs=>D.cleans fs
def D.cleans:List D→Prop
 | []=>True
 | d::ds=>d.clean∧D.cleans ds
end
mutual
def V.clean:V→Prop
 | .d x=>x.clean
 | .full t _ es=>t=false∧D.cleans es
 | .own _ _|.ptr _ _|.optr _ _ _ _|.mapv _|.opn _|.junk=>True
 | .eptr t _ es _ _=>t=false∧D.cleans es
 | .fn _ a c=>V.cleans a∧V.cleans c
 | .agg cs=>V.cleans cs
 | .tup vs=>V.cleans vs
def V.cleans:List V→Prop
 | []=>True
 | v::r=>v.clean∧V.cleans r
end
def Zew (cl:Bool) (M M':Bars):Prop:=(∀ b,¬ M false b→¬ M' false b)∧(cl=false→∀ b,¬ M true b→¬ M' true b)
mutual
theorem D.Rep.allow {cl:Bool} {M M':Bars} {w:World} (hA:Zew cl M M'):∀ {d:D} {cs:List Value},(cl=true→d.clean)→d.Rep M w cs→d.Rep M' w cs
 | .raw _,_,_,r=>by simp only[D.Rep] at r ⊢;exact r
 | .agg fs,_,hc,r=>by simp only[D.Rep] at r ⊢;exact D.Reps.allow hA (fun e=>by simpa[D.clean] using hc e) r
 | .sl t sz es,_,hc,r=>by
  simp only[D.Rep] at r ⊢;obtain⟨a,cap,us,h1,h2,h3,h4,h5,h6⟩:=r;refine⟨a,cap,us,h1,h2,h3,h4,D.Reps.allow hA (fun e=>by have:=hc e;simp only[D.clean] at this;exact this.2) h5,fun hne=>?_⟩;obtain⟨b,off,g1,g2,g3⟩:=h6 hne;refine⟨b,off,g1,?_,g3⟩;cases t with
  | false=>exact hA.1 b g2
  | true =>
   cases cl with
   | false=>exact hA.2 rfl b g2
   | true=>have:=hc rfl;simp[D.clean] at this
theorem D.Reps.allow {cl:Bool} {M M':Bars} {w:World} (hA:Zew cl M M'):∀ {ds:List D} {cs:List Value},(cl=true→D.cleans ds)→D.Reps M w ds cs→D.Reps M' w ds cs
 | [],_,_,r=>by simp only[D.Reps] at r ⊢;exact r
 | d::ds,_,hc,r=>by
  simp only[D.Reps] at r ⊢;obtain⟨c,q,h1,h2,h3⟩:=r;exact⟨c,q,h1,D.Rep.allow hA (fun e=>by have:=hc e;simp only[D.cleans] at this;exact this.1) h2,D.Reps.allow hA (fun e=>by have:=hc e;simp only[D.cleans] at this;exact this.2) h3⟩
end
theorem D.RepV.allow {cl:Bool} {M M':Bars} {w:World} (hA:Zew cl M M') {d:D} {u:Value} (hc:cl=true→d.clean) (r:d.RepV M w u):d.RepV M' w u:=by
 cases d with
 | agg fs=>obtain⟨us,h1,h2⟩:=r;exact⟨us,h1,h2.allow hA (fun e=>by simpa[D.clean] using hc e)⟩
 | raw v=>exact D.Rep.allow hA hc r
 | sl t sz es=>exact D.Rep.allow hA hc r
mutual
theorem V.Rep.ren (L:Link φ Ec hc E h) {cl:Bool} {M M':Bars} {w:World} (hA:Zew cl M M'):∀ {v:V} {u:Value},(∀ k∈v.keys,(Ah hc k).isSome=true)→(cl=true→v.clean)→V.Rep Ec hc M w v u→V.Rep E h M' w (v.ren φ) u
 | .d x,_,_,hcl,r=>by simp only[V.ren,V.Rep] at r ⊢;exact r.allow hA (fun e=>by simpa[V.clean] using hcl e)
 | .full t sz es,_,_,hcl,r=>by
  simp only[V.ren,V.Rep] at r ⊢;exact⟨D.Rep.allow hA (fun e=>by simpa[V.clean,D.clean] using hcl e) r.1,r.2⟩
 | .own k n,_,hk,_,r=>by
  simp only[V.ren,V.Rep] at r ⊢;have hkk:=hk k (by simp[V.keys]);obtain⟨m,h1,h2,h3,h4⟩:=r;exact⟨m,(L.any hkk).2 h1,h2,h3,fun e=>by rw[h4 e,L.row k hkk]⟩
 | .ptr k off,_,hk,_,r=>by
  simp only[V.ren,V.Rep] at r ⊢;rw[r,L.blk k (hk k (by simp[V.keys]))]
 | .eptr t sz es i off,_,_,hcl,r=>by
  simp only[V.ren,V.Rep] at r ⊢;obtain⟨b,o,us,h1,h2,h3,h4,h5,h6⟩:=r;refine⟨b,o,us,h1,h2,h3,h4.allow hA (fun e=>by have:=hcl e;simp only[V.clean] at this;exact this.2),?_,h6⟩;cases t with
  | false=>exact hA.1 b h5
  | true =>
   cases cl with
   | false=>exact hA.2 rfl b h5
   | true=>have:=hcl rfl;simp[V.clean] at this
 | .optr k n i off,_,hk,_,r=>by
  simp only[V.ren,V.Rep] at r ⊢;have hkk:=hk k (by simp[V.keys]);obtain⟨m,h1,h2,h3,h4⟩:=r;refine⟨m,(L.any hkk).2 h1,h2,h3,fun e sz hv=>?_⟩;rw[←L.row k hkk];exact h4 e sz ((L.rowv hkk).1 hv)
 | .fn f a c,_,hk,hcl,r=>by
  simp only[V.ren,V.Rep] at r ⊢;obtain⟨x,y,h1,h2,h3⟩:=r;exact⟨x,y,h1,V.Reps.ren L hA (fun k hx=>hk k (by simp[V.keys,hx])) (fun e=>by have:=hcl e;simp only[V.clean] at this;exact this.1) h2,V.Reps.ren L hA (fun k hx=>hk k (by simp[V.keys,hx])) (fun e=>by have:=hcl e;simp only[V.clean] at this;exact this.2) h3⟩
 | .agg cs,_,hk,hcl,r=>by
  simp only[V.ren,V.Rep] at r ⊢;obtain⟨us,h1,h2,h3⟩:=r;exact⟨us,h1,V.Reps.ren L hA (fun k hx=>hk k (by simpa[V.keys] using hx)) (fun e=>by simpa[V.clean] using hcl e) h2,h3⟩
 | .tup cs,_,hk,hcl,r=>by
  simp only[V.ren,V.Rep] at r ⊢;obtain⟨us,h1,h2⟩:=r;exact⟨us,h1,V.Reps.ren L hA (fun k hx=>hk k (by simpa[V.keys] using hx)) (fun e=>by simpa[V.clean] using hcl e) h2⟩
 | .mapv k,_,hk,_,r=>by
  simp only[V.ren,V.Rep] at r ⊢;rw[r,L.blk k (hk k (by simp[V.keys]))]
 | .opn p,_,_,_,r=>by simp only[V.ren,V.Rep] at r ⊢;exact r
 | .junk,_,_,_,_=>by simp only[V.ren,V.Rep]
theorem V.Reps.ren (L:Link φ Ec hc E h) {cl:Bool} {M M':Bars} {w:World} (hA:Zew cl M M'):∀ {vs:List V} {us:List Value},(∀ k∈V.keyss vs,(Ah hc k).isSome=true)→(cl=true→V.cleans vs)→V.Reps Ec hc M w vs us→V.Reps E h M' w (V.rens φ vs) us
 | [],_,_,_,r=>by simp only[V.rens,V.Reps] at r ⊢;exact r
 | v::vs,_,hk,hcl,r=>by
  simp only[V.rens,V.Reps] at r ⊢;obtain⟨x,y,h1,h2,h3⟩:=r;exact⟨x,y,h1,V.Rep.ren L hA (fun k hx=>hk k (by simp[V.keyss,hx])) (fun e=>by have:=hcl e;simp only[V.cleans] at this;exact this.1) h2,V.Reps.ren L hA (fun k hx=>hk k (by simp[V.keyss,hx])) (fun e=>by have:=hcl e;simp only[V.cleans] at this;exact this.2) h3⟩
end
mutual
theorem V.Rep.unren (L:Link φ Ec hc E h) {M M':Bars} {w:World} (hA:Zew false M' M):∀ {v:V} {u:Value},(∀ k∈v.keys,(Ah hc k).isSome=true)→V.Rep E h M' w (v.ren φ) u→V.Rep Ec hc M w v u
 | .d x,_,_,r=>by simp only[V.ren,V.Rep] at r ⊢;exact r.allow hA (by simp)
 | .full t sz es,_,_,r=>by
  simp only[V.ren,V.Rep] at r ⊢;exact⟨D.Rep.allow hA (by simp) r.1,r.2⟩
 | .own k n,_,hk,r=>by
  simp only[V.ren,V.Rep] at r ⊢;have hkk:=hk k (by simp[V.keys]);obtain⟨m,h1,h2,h3,h4⟩:=r;exact⟨m,(L.any hkk).1 h1,h2,h3,fun e=>by rw[h4 e,L.row k hkk]⟩
 | .ptr k off,_,hk,r=>by
  simp only[V.ren,V.Rep] at r ⊢;rw[r,L.blk k (hk k (by simp[V.keys]))]
 | .eptr t sz es i off,_,_,r=>by
  simp only[V.ren,V.Rep] at r ⊢;obtain⟨b,o,us,h1,h2,h3,h4,h5,h6⟩:=r;refine⟨b,o,us,h1,h2,h3,h4.allow hA (by simp),?_,h6⟩;cases t with
  | false=>exact hA.1 b h5
  | true=>exact hA.2 rfl b h5
 | .optr k n i off,_,hk,r=>by
  simp only[V.ren,V.Rep] at r ⊢;have hkk:=hk k (by simp[V.keys]);obtain⟨m,h1,h2,h3,h4⟩:=r;refine⟨m,(L.any hkk).1 h1,h2,h3,fun e sz hv=>?_⟩;rw[L.row k hkk];exact h4 e sz ((L.rowv hkk).2 hv)
 | .fn f a c,_,hk,r=>by
  simp only[V.ren,V.Rep] at r ⊢;obtain⟨x,y,h1,h2,h3⟩:=r;exact⟨x,y,h1,V.Reps.unren L hA (fun k hx=>hk k (by simp[V.keys,hx])) h2,V.Reps.unren L hA (fun k hx=>hk k (by simp[V.keys,hx])) h3⟩
 | .agg cs,_,hk,r=>by
  simp only[V.ren,V.Rep] at r ⊢;obtain⟨us,h1,h2,h3⟩:=r;exact⟨us,h1,V.Reps.unren L hA (fun k hx=>hk k (by simpa[V.keys] using hx)) h2,h3⟩
 | .tup cs,_,hk,r=>by
  simp only[V.ren,V.Rep] at r ⊢;obtain⟨us,h1,h2⟩:=r;exact⟨us,h1,V.Reps.unren L hA (fun k hx=>hk k (by simpa[V.keys] using hx)) h2⟩
 | .mapv k,_,hk,r=>by
  simp only[V.ren,V.Rep] at r ⊢;rw[r,L.blk k (hk k (by simp[V.keys]))]
 | .opn p,_,_,r=>by simp only[V.ren,V.Rep] at r ⊢;exact r
 | .junk,_,_,_=>by simp only[V.Rep]
theorem V.Reps.unren (L:Link φ Ec hc E h) {M M':Bars} {w:World} (hA:Zew false M' M):∀ {vs:List V} {us:List Value},(∀ k∈V.keyss vs,(Ah hc k).isSome=true)→V.Reps E h M' w (V.rens φ vs) us→V.Reps Ec hc M w vs us
 | [],_,_,r=>by simp only[V.rens,V.Reps] at r ⊢;exact r
 | v::vs,_,hk,r=>by
  simp only[V.rens,V.Reps] at r ⊢;obtain⟨x,y,h1,h2,h3⟩:=r;exact⟨x,y,h1,V.Rep.unren L hA (fun k hx=>hk k (by simp[V.keyss,hx])) h2,V.Reps.unren L hA (fun k hx=>hk k (by simp[V.keyss,hx])) h3⟩
end
mutual
theorem V.ren_keys (φ:List (Nat×Nat)):∀ (v:V),(v.ren φ).keys=v.keys.map (renK φ)
 | .d _=>rfl
 | .full ..=>rfl
 | .own _ _=>rfl
 | .ptr _ _=>rfl
 | .eptr ..=>rfl
 | .optr ..=>rfl
 | .fn _ a c=>by simp only[V.ren,V.keys,V.rens_keys φ a,V.rens_keys φ c,Ho]
 | .agg cs=>by simp only[V.ren,V.keys,V.rens_keys φ cs]
 | .tup cs=>by simp only[V.ren,V.keys,V.rens_keys φ cs]
 | .mapv _=>rfl
 | .opn _=>rfl
 | .junk=>rfl
theorem V.rens_keys (φ:List (Nat×Nat)):∀ (vs:List V),V.keyss (V.rens φ vs)=(V.keyss vs).map (renK φ)
 | []=>rfl
 | v::vs=>by simp only[V.rens,V.keyss,V.ren_keys φ v,V.rens_keys φ vs,Ho]
end
theorem Ob.ren_keys (φ:List (Nat×Nat)) (o:Ob):(o.ren φ).keys=o.keys.map (renK φ):=by
 cases o <;> simp[Ob.ren,Ob.keys,V.rens_keys]
theorem RowAt.allow {cl:Bool} {M M':Bars} {w:World} (hA:Zew cl M M') {e sz:Nat} {v:Value} {xs:List D} (hc:cl=true→D.cleans xs) (h:RowAt M w e sz v xs):RowAt M' w e sz v xs:=by
 obtain⟨h0,h1⟩:=h;refine⟨h0,?_⟩;rcases h1 with h1|⟨g,off,cap,cur,k1,k2,k3,k4,k5,k6,k7⟩
 ·exact .inl h1
 ·exact .inr ⟨g,off,cap,cur,k1,k2,k3,k4,k5,k6,k7.allow hA hc⟩
mutual
def Tr.clean:Tr→Prop
 | .row _ _ xs=>D.cleans xs
 | .node _ ts=>Tr.cleans ts
def Tr.cleans:List Tr→Prop
 | []=>True
 | t::ts=>t.clean∧Tr.cleans ts
end
theorem Zha:∀ (us:List Value),D.cleans (us.map D.raw)
 | []=>trivial
 | u::us=>⟨trivial,Zha us⟩
mutual
theorem Tr.Rep.allow {cl:Bool} {M M':Bars} {w:World} (hA:Zew cl M M'):∀ {t:Tr} {f:List Nat} {u:Value},(cl=true→t.clean)→Tr.Rep M w t f u→Tr.Rep M' w t f u
 | .row e sz xs,_,_,hc,r=>by
  simp only[Tr.Rep] at r ⊢;exact⟨r.1.allow hA (fun e=>by simpa[Tr.clean] using hc e),r.2⟩
 | .node e ts,_,_,hc,r=>by
  simp only[Tr.Rep] at r ⊢;obtain⟨us,f',r1,r2,r3⟩:=r;exact⟨us,f',r1.allow hA (fun _=>Zha us),Tr.Reps.allow hA (fun e=>by simpa[Tr.clean] using hc e) r2,r3⟩
theorem Tr.Reps.allow {cl:Bool} {M M':Bars} {w:World} (hA:Zew cl M M'):∀ {ts:List Tr} {f:List Nat} {us:List Value},(cl=true→Tr.cleans ts)→Tr.Reps M w ts f us→Tr.Reps M' w ts f us
 | [],_,_,_,r=>by simp only[Tr.Reps] at r ⊢;exact r
 | t::ts,_,_,hc,r=>by
  simp only[Tr.Reps] at r ⊢;obtain⟨f1,f2,u,vs,h1,h2,r1,r2⟩:=r;exact⟨f1,f2,u,vs,h1,h2,Tr.Rep.allow hA (fun e=>by have:=hc e;simp only[Tr.cleans] at this;exact this.1) r1,Tr.Reps.allow hA (fun e=>by have:=hc e;simp only[Tr.cleans] at this;exact this.2) r2⟩
end
def NE.ren (φ:List (Nat×Nat)):NE→NE
 | .tr t=>.tr t
 | .ref k n=>.ref (renK φ k) n
def NE.clean:NE→Prop
 | .tr t=>t.clean
 | .ref _ _=>True
theorem Zy4 (φ:List (Nat×Nat)) (A:List Tr) (r:List (Nat×Nat)) (B:List Tr):(nes A r B).map (NE.ren φ)=nes A (r.map fun p=>(renK φ p.1,p.2)) B:=by
 simp[nes,NE.ren,Function.comp_def]
theorem NE.Reps.ren (L:Link φ Ec hc E h) {cl:Bool} {M M':Bars} {w:World} (hA:Zew cl M M'):∀ {xs:List NE} {f:List Nat} {us:List Value},(∀ k∈xs.flatMap NE.keys,(Ah hc k).isSome=true)→(cl=true→∀ x∈xs,x.clean) →
  NE.Reps Ec hc M w xs f us→NE.Reps E h M' w (xs.map (NE.ren φ)) f us
 | [],_,_,_,_,r=>by simp only[NE.Reps,HF] at r ⊢;exact r
 | .tr t::xs,_,_,hk,hcl,r=>by
  simp only[NE.Reps,Hm,NE.ren] at r ⊢;obtain⟨f1,f2,u,vs,h1,h2,r1,r2⟩:=r;exact⟨f1,f2,u,vs,h1,h2,r1.allow hA (fun e=>hcl e (.tr t) (by simp)),NE.Reps.ren L hA (fun k hx=>hk k (by simp only[HP,HV];exact .inr hx)) (fun e x hx=>hcl e x (by simp[hx])) r2⟩
 | .ref k n::xs,_,_,hk,hcl,r=>by
  simp only[NE.Reps,Hm,NE.ren] at r ⊢;obtain⟨u,vs,h2,r1,r2⟩:=r;exact⟨u,vs,h2,V.Rep.ren (v:=.own k n) L hA (fun j hj=>hk j (by simp[V.keys] at hj;simp[NE.keys,hj])) (fun _=>by simp[V.clean]) r1,NE.Reps.ren L hA (fun k hx=>hk k (by simp only[HP,HV];exact .inr hx)) (fun e x hx=>hcl e x (by simp[hx])) r2⟩
theorem NE.Reps.unren (L:Link φ Ec hc E h) {M M':Bars} {w:World} (hA:Zew false M' M):∀ {xs:List NE} {f:List Nat} {us:List Value},(∀ k∈xs.flatMap NE.keys,(Ah hc k).isSome=true) →
  NE.Reps E h M' w (xs.map (NE.ren φ)) f us→NE.Reps Ec hc M w xs f us
 | [],_,_,_,r=>by simp only[NE.Reps,HF] at r ⊢;exact r
 | .tr t::xs,_,_,hk,r=>by
  simp only[NE.Reps,Hm,NE.ren] at r ⊢;obtain⟨f1,f2,u,vs,h1,h2,r1,r2⟩:=r;exact⟨f1,f2,u,vs,h1,h2,r1.allow hA (by simp),NE.Reps.unren L hA (fun k hx=>hk k (by simp only[HP,HV];exact .inr hx)) r2⟩
 | .ref k n::xs,_,_,hk,r=>by
  simp only[NE.Reps,Hm,NE.ren] at r ⊢;obtain⟨u,vs,h2,r1,r2⟩:=r;exact⟨u,vs,h2,V.Rep.unren (v:=.own k n) L hA (fun j hj=>hk j (by simp[V.keys] at hj;simp[NE.keys,hj])) r1,NE.Reps.unren L hA (fun k hx=>hk k (by simp only[HP,HV];exact .inr hx)) r2⟩
theorem Link.Ai (L:Link φ Ec hc E h) {k:Nat} (hk:(Ah hc k).isSome=true):Ai Ec hc k=Ai E h (renK φ k):=by
 funext b;unfold Proofs.YtbpmepgnjanhnaaGreat.Ai;rw[L.obj k hk];obtain⟨o,ho⟩:=Option.isSome_iff_exists.1 hk;rw[ho];cases o with
 | box ty cs=>simp[Ob.ren,L.blk k hk]
 | row e sz xs=>simp[Ob.ren,L.row k hk]
 | mp p=>simp[Ob.ren,L.blk k hk]
 | nest e A r B=>simp[Ob.ren,L.row k hk,L.fp k hk]
 | _=>simp[Ob.ren]
end
theorem ZbI {E:Env} {h:Hp} {k b:Nat} (hb:Ai E h k b):(Ah h k).isSome=true:=by
 unfold Ai at hb;cases hh:Ah h k with
 | none=>rw[hh] at hb;cases hb
 | some _=>rfl
def aggSplit:List V→Option (List D×(Nat×Nat)×List D)
 | .d x::r=>(aggSplit r).map fun p=>(x::p.1,p.2)
 | .own k n::r=>(dsOf r).map fun p=>([],(k,n),p)
 | _=>none
where dsOf:List V→Option (List D)
 | []=>some []
 | .d x::r=>(dsOf r).map (x::·)
 | _=>none
theorem ZqH:∀ {vs:List V} {xs:List D},aggSplit.dsOf vs=some xs→vs=xs.map V.d
 | [],xs,h=>by simp only[aggSplit.dsOf,Hx] at h;subst h;rfl
 | .d x::r,xs,h=>by
  simp only[aggSplit.dsOf] at h;cases hq:aggSplit.dsOf r with
  | none=>rw[hq] at h;cases h
  | some p=>rw[hq] at h;cases h;rw[ZqH hq];rfl
 | .full ..::_,_,h=>by simp[aggSplit.dsOf] at h
 | .own ..::_,_,h=>by simp[aggSplit.dsOf] at h
 | .ptr ..::_,_,h=>by simp[aggSplit.dsOf] at h
 | .eptr ..::_,_,h=>by simp[aggSplit.dsOf] at h
 | .optr ..::_,_,h=>by simp[aggSplit.dsOf] at h
 | .fn ..::_,_,h=>by simp[aggSplit.dsOf] at h
 | .agg ..::_,_,h=>by simp[aggSplit.dsOf] at h
 | .tup ..::_,_,h=>by simp[aggSplit.dsOf] at h
 | .junk::_,_,h=>by simp[aggSplit.dsOf] at h
theorem Zh8:∀ {vs:List V} {pre post:List D} {k n:Nat},aggSplit vs=some (pre,(k,n),post)→vs=pre.map V.d++.own k n::post.map V.d
 | [],_,_,_,_,h=>by simp[aggSplit] at h
 | .d x::r,pre,post,k,n,h=>by
  simp only[aggSplit] at h;cases hq:aggSplit r with
  | none=>rw[hq] at h;cases h
  | some p =>
   obtain⟨p1,⟨k',n'⟩,p3⟩:=p;rw[hq] at h;cases h;rw[Zh8 hq];rfl
 | .own k' n'::r,pre,post,k,n,h=>by
  simp only[aggSplit] at h;cases hq:aggSplit.dsOf r with
  | none=>rw[hq] at h;cases h
  | some p=>rw[hq] at h;cases h;rw[ZqH hq];rfl
 | .full ..::_,_,_,_,_,h=>by simp[aggSplit] at h
 | .ptr ..::_,_,_,_,_,h=>by simp[aggSplit] at h
 | .eptr ..::_,_,_,_,_,h=>by simp[aggSplit] at h
 | .optr ..::_,_,_,_,_,h=>by simp[aggSplit] at h
 | .fn ..::_,_,_,_,_,h=>by simp[aggSplit] at h
 | .agg ..::_,_,_,_,_,h=>by simp[aggSplit] at h
 | .tup ..::_,_,_,_,_,h=>by simp[aggSplit] at h
 | .junk::_,_,_,_,_,h=>by simp[aggSplit] at h
inductive Ar (φ:List (Nat×Nat)) (h:Hp):V→V→List (Nat×Option Ob)→Hp→List Nat→Prop
 | same {v c:V} (hv:c.ren φ=v):Ar φ h v c [] [] []
 | emb {v:V} {x:D} {o:List (Nat×Option Ob)} {f:Hp} (he:Aq h v x o f):Ar φ h v (.d x) o f []
 | vwd {x y:D} (hy:x.view=y):Ar φ h (.d x) (.d y) [] [] []
 | vw {k n sz:Nat} {e:TypeId} {xs ys:List D} (hk:Ah h k=some (.row e sz xs)) (hn:xs.length=n) (hy:D.views xs=ys):Ar φ h (.own k n) (.d (.sl true sz ys)) [(k,some (.row e sz xs))] [] [k]
 | aggvw {vs:List V} {k n sz:Nat} {e:TypeId} {xs ys pre post pre' post':List D} (hs:aggSplit vs=some (pre,(k,n),post)) (hk:Ah h k=some (.row e sz xs)) (hn:xs.length=n) (hy:D.views xs=ys) (hp:D.views pre=pre') (hq:D.views post=post'):Ar φ h (.agg vs) (.d (.agg (pre'++.sl true sz ys::post'))) [(k,some (.row e sz xs))] [] [k]
inductive As (φ:List (Nat×Nat)) (h:Hp):List V→List V→List (Nat×Option Ob)→Hp→List Nat→Prop
 | nil:As φ h [] [] [] [] []
 | cons {v c:V} {vs cs:List V} {o1 o2:List (Nat×Option Ob)} {f1 f2:Hp} {w1 w2:List Nat} (h1:Ar φ h v c o1 f1 w1) (h2:As φ h vs cs o2 f2 w2):As φ h (v::vs) (c::cs) (o1++o2) (f1++f2) (w1++w2)
section
variable {φ:List (Nat×Nat)} {h:Hp}
theorem Ar.objs {v c:V} {o:List (Nat×Option Ob)} {f:Hp} {w:List Nat} (ha:Ar φ h v c o f w):Am h o:=by
 cases ha with
 | emb he=>exact he.objs
 | vw hk hn _=>simpa[Am] using hk
 | aggvw _ hk _ _ _ _=>simpa[Am] using hk
 | _=>simp[Am]
theorem As.objs {v c:List V} {o:List (Nat×Option Ob)} {f:Hp} {w:List Nat} (ha:As φ h v c o f w):Am h o:=by
 induction ha with
 | nil=>simp[Am]
 | cons h1 _ ih=>exact Am.append.2 ⟨h1.objs,ih⟩
theorem Ar.fz {v c:V} {o:List (Nat×Option Ob)} {f:Hp} {w:List Nat} (ha:Ar φ h v c o f w):FzOk h f:=by
 cases ha with
 | emb he=>exact he.fz
 | _=>simp[FzOk]
theorem As.fz {v c:List V} {o:List (Nat×Option Ob)} {f:Hp} {w:List Nat} (ha:As φ h v c o f w):FzOk h f:=by
 induction ha with
 | nil=>simp[FzOk]
 | cons h1 _ ih=>exact h1.fz.append ih
theorem Ar.of {h':Hp} {v c:V} {o:List (Nat×Option Ob)} {f:Hp} {w:List Nat} (ha:Ar φ h v c o f w) (ho:Am h' o):Ar φ h' v c o f w:=by
 cases ha with
 | same hv=>exact .same hv
 | emb he=>exact .emb (he.of ho)
 | vwd hy=>exact .vwd hy
 | vw hk hn hy=>exact .vw (ho (_,_) (List.mem_singleton.2 rfl)) hn hy
 | aggvw hs hk hn hy hp hq=>exact .aggvw hs (ho (_,_) (List.mem_singleton.2 rfl)) hn hy hp hq
theorem As.of {h':Hp} {v c:List V} {o:List (Nat×Option Ob)} {f:Hp} {w:List Nat} (ha:As φ h v c o f w) (ho:Am h' o):As φ h' v c o f w:=by
 induction ha with
 | nil=>exact .nil
 | cons h1 _ ih=>exact .cons (h1.of (Am.append.1 ho).1) (ih (Am.append.1 ho).2)
end
def LinkH (h:Hp) (φ:List (Nat×Nat)):Hp→Prop
 | []=>True
 | (k,o)::r=>Ah h (renK φ k)=some (o.ren φ)∧LinkH h φ r
def Zcd (φ:List (Nat×Nat)):Hp→List (Nat×Option Ob)
 | []=>[]
 | (k,o)::r=>(renK φ k,some (o.ren φ))::Zcd φ r
def ZbA (φ:List (Nat×Nat)) (hc:Hp):Hp→List Nat
 | []=>[]
 | (k,_)::r=>match Ah hc k with
  | some _=>ZbA φ hc r
  | none=>renK φ k::ZbA φ hc r
def NewH (h:Hp):List Nat→Prop
 | []=>True
 | k::r=>Ah h k=none∧NewH h r
def injB (φ:List (Nat×Nat)) (ks:List Nat):Bool:=ks.all fun k=>ks.all fun k'=>match Nat.beq (renK φ k) (renK φ k') with
 | true=>Nat.beq k k'
 | false=>true
def Ze8 (φ:List (Nat×Nat)) (hc hc' fz:Hp) (W:List Nat):Bool :=
 ZfD hc && injB φ (hc'.map Prod.fst) && hc.all (fun q=>Zh4 hc' q.1) && (ZbA φ hc hc').all (fun k=>Nat.blt k 1000) &&
  fz.all (fun p=>hc.all fun q=>!Nat.beq p.1 (renK φ q.1)) && W.all (fun k=>hc.all fun q=>!Nat.beq k (renK φ q.1)) && fz.all (fun p=>W.all fun k=>!Nat.beq p.1 k)
def Ob.clean:Ob→Prop
 | .box _ cs=>V.cleans cs
 | .row _ _ xs=>D.cleans xs
 | .froz _ xs=>D.cleans xs
 | .dead _=>True
 | .nest _ A _ B=>Tr.cleans A∧Tr.cleans B
 | .mp _=>True
def HpClean:Hp→Prop
 | []=>True
 | (_,o)::r=>o.clean∧HpClean r
theorem ZcM {h:Hp} {k:Nat} {o:Ob} (hk:Ah h k=some o):(k,o)∈h:=by
 induction h with
 | nil=>simp[Ah] at hk
 | cons p u ih =>
  obtain⟨j,ob⟩:=p;by_cases ej:j=k
  ·subst ej;rw[Zai] at hk;cases hk;simp
  ·rw[Zar _ _ ej] at hk;exact HK _ (ih hk)
theorem ZoC {h:Hp} {p:Nat×Ob} (hp:p∈h):(Ah h p.1).isSome=true:=by
 obtain⟨o,ho⟩:=Zh3 (u:=h) (k:=p.1) (List.mem_map.2 ⟨p,hp,rfl⟩);rw[ho];rfl
theorem LinkH.get {h:Hp} {φ:List (Nat×Nat)}:∀ {hc:Hp},LinkH h φ hc→∀ {k:Nat} {o:Ob},Ah hc k=some o→Ah h (renK φ k)=some (o.ren φ)
 | [],_,k,o,hk=>by simp[Ah] at hk
 | (j,ob)::r,hl,k,o,hk=>by
  simp only[LinkH] at hl;by_cases ej:j=k
  ·subst ej;rw[Zai] at hk;cases hk;exact hl.1
  ·rw[Zar _ _ ej] at hk;exact LinkH.get hl.2 hk
theorem LinkH.iff {h:Hp} {φ:List (Nat×Nat)}:∀ {hc:Hp},LinkH h φ hc↔Am h (Zcd φ hc)
 | []=>by simp[LinkH,Zcd,Am]
 | (j,ob)::r=>by
  simp only[LinkH,Zcd];rw[LinkH.iff (hc:=r)];constructor
  ·rintro⟨h1,h2⟩;exact Am.cons h1 h2
  ·intro q;exact⟨q (_,_) (HT),fun p hp=>q p (HK _ hp)⟩
theorem Zhb {φ:List (Nat×Nat)} {hc:Hp}:∀ {g:Hp} {k:Nat},(Ah g k).isSome=true→Ah hc k=none→renK φ k∈ZbA φ hc g
 | [],k,hk,_=>by simp[Ah] at hk
 | (j,ob)::r,k,hk,hn=>by
  simp only[ZbA];by_cases ej:j=k
  ·subst ej;rw[hn];simp
  ·rw[Zar _ _ ej] at hk;have:=Zhb (φ:=φ) hk hn;cases Ah hc j with
   | some _=>exact this
   | none=>exact HK _ this
theorem NewH.get {h:Hp}:∀ {l:List Nat},NewH h l→∀ k∈l,Ah h k=none
 | [],_,k,hk=>by cases hk
 | j::r,hn,k,hk=>by
  simp only[NewH] at hn;rcases List.mem_cons.1 hk with rfl|hk
  ·exact hn.1
  ·exact NewH.get hn.2 k hk
theorem Ze9 {φ:List (Nat×Nat)} {ks:List Nat} (hi:injB φ ks=true) {k k':Nat} (h1:k∈ks) (h2:k'∈ks) (e:renK φ k=renK φ k'):k=k':=by
 have:=List.all_eq_true.1 (List.all_eq_true.1 hi k h1) k' h2;rw[e,Gt] at this;exact HQ this
theorem ZoD {φ:List (Nat×Nat)}:∀ {g:Hp} {k:Nat},(∀ j∈g.map Prod.fst,renK φ j=renK φ k→j=k)→Ah (Hp.ren φ g) (renK φ k)=(Ah g k).map (Ob.ren φ)
 | [],k,_=>rfl
 | (j,ob)::r,k,hi=>by
  simp only[Hp.ren];by_cases ej:j=k
  ·subst ej;rw[Zai,Zai];rfl
  ·rw[Zar _ _ ej,Zar _ _ (fun e=>ej (hi j (by simp) e))];exact ZoD (fun i hi'=>hi i (by simp only[Hm,Gq];exact .inr hi'))
theorem ren_keys {φ:List (Nat×Nat)}:∀ {g:Hp},(Hp.ren φ g).map Prod.fst=(g.map Prod.fst).map (renK φ)
 | []=>rfl
 | (j,ob)::r=>by simp only[Hp.ren,Hm,ren_keys (g:=r)]
theorem HpClean.get:∀ {g:Hp},HpClean g→∀ {k:Nat} {o:Ob},Ah g k=some o→o.clean
 | [],_,k,o,hk=>by simp[Ah] at hk
 | (j,ob)::r,hl,k,o,hk=>by
  simp only[HpClean] at hl;by_cases ej:j=k
  ·subst ej;rw[Zai] at hk;cases hk;exact hl.1
  ·rw[Zar _ _ ej] at hk;exact HpClean.get hl.2 hk
theorem Tr.cleans_mem:∀ {ts:List Tr},Tr.cleans ts→∀ t∈ts,t.clean
 | [],_,t,ht=>by cases ht
 | s::ts,h,t,ht=>by
  simp only[Tr.cleans] at h;rcases List.mem_cons.1 ht with rfl|ht
  ·exact h.1
  ·exact Tr.cleans_mem h.2 t ht
theorem Zy5 {A:List Tr} {r:List (Nat×Nat)} {B:List Tr} (h:Tr.cleans A∧Tr.cleans B):∀ x∈nes A r B,x.clean:=by
 intro x hx;simp only[nes,HV,Gv] at hx;rcases hx with ⟨t,ht,rfl⟩|⟨p,_,rfl⟩|⟨t,ht,rfl⟩
 ·exact Tr.cleans_mem h.1 t ht
 ·trivial
 ·exact Tr.cleans_mem h.2 t ht
section
variable {φ:List (Nat×Nat)} {Ec E:Env} {hc h:Hp}
theorem ObRep.unren (L:Link φ Ec hc E h) {M M':Bars} {w:World} (hA:Zew false M' M) {k:Nat} {ob:Ob} (hk:(Ah hc k).isSome=true) (hi:∀ j∈ob.keys,(Ah hc j).isSome=true) (hr:ObRep E h M' w (renK φ k) (ob.ren φ)):ObRep Ec hc M w k ob:=by
 cases ob with
 | box ty cs =>
  simp only[ObRep,Ob.ren] at hr ⊢;obtain⟨us,g1,g2,g3⟩:=hr;exact⟨us,by rw[L.blk k hk];exact g1,V.Reps.unren L hA hi g2,g3⟩
 | row e sz xs=>simp only[ObRep,Ob.ren] at hr ⊢;rw[L.row k hk];exact hr.allow hA (by simp)
 | froz sz xs=>simp only[ObRep,Ob.ren] at hr ⊢;rw[L.row k hk];exact D.Rep.allow hA (by simp) hr
 | dead _=>trivial
 | mp p=>simp only[ObRep,Ob.ren] at hr ⊢;rw[L.blk k hk];exact hr
 | nest e A r B =>
  simp only[ObRep,Ob.ren,←Zy4] at hr ⊢;obtain⟨us,g1,g2,g3⟩:=hr;unfold NestAt;rw[L.row k hk,L.fp k hk];exact⟨us,g1.allow hA (by simp),g2.unren L hA (by rw[ZjX];exact hi),g3⟩
theorem ObRep.renTo (L:Link φ Ec hc E h) {cl:Bool} {M M':Bars} {w:World} (hA:Zew cl M M') {k:Nat} {ob:Ob} (hk:(Ah hc k).isSome=true) (hi:∀ j∈ob.keys,(Ah hc j).isSome=true) (hcl:cl=true→ob.clean) (hr:ObRep Ec hc M w k ob):ObRep E h M' w (renK φ k) (ob.ren φ):=by
 cases ob with
 | box ty cs =>
  simp only[ObRep,Ob.ren] at hr ⊢;obtain⟨us,g1,g2,g3⟩:=hr;exact⟨us,by rw[←L.blk k hk];exact g1,V.Reps.ren L hA hi hcl g2,g3⟩
 | row e sz xs=>simp only[ObRep,Ob.ren] at hr ⊢;rw[←L.row k hk];exact hr.allow hA hcl
 | froz sz xs=>simp only[ObRep,Ob.ren] at hr ⊢;rw[←L.row k hk];exact D.Rep.allow hA (fun e=>⟨rfl,hcl e⟩) hr
 | dead _=>trivial
 | mp p=>simp only[ObRep,Ob.ren] at hr ⊢;rw[←L.blk k hk];exact hr
 | nest e A r B =>
  simp only[ObRep,Ob.ren,←Zy4] at hr ⊢;obtain⟨us,g1,g2,g3⟩:=hr;unfold NestAt;rw[←L.row k hk,←L.fp k hk];exact⟨us,g1.allow hA (fun _=>Zha us),g2.ren L hA (by rw[ZjX];exact hi) (fun e=>Zy5 (hcl e)),g3⟩
end
section
variable {P:Program} {G:Ctx} {E:Env} {fr:Fr} {h:Hp} {a:Act} {w:World}
theorem An.call (C:An G E fr h a w) {f:FuncId} {cargs:List V} {hc hc':Hp} {r:V} {mk:Value→Ending} (hA:Zr8 P mk f cargs hc r hc') (φ:List (Nat×Nat)) (W:List Nat)
  (hlink:LinkH h φ hc) (hnew:NewH h (ZbA φ hc hc')) (hhigh:ZfD hc=true) (hin:hpIn hc hc=true) (hinj:injB φ (hc'.map Prod.fst)=true) (hdom:hc.all (fun q=>Zh4 hc' q.1)=true) (hlow:(ZbA φ hc hc').all (fun k=>Nat.blt k 1000)=true)
  (hW:∀ k∈W,(∃ e sz xs,Ah h k=some (.row e sz xs))∧∀ q∈hc,k≠renK φ q.1) (hcl:W=[]∨(r.clean∧HpClean hc'))
  {us:List Value} (hus:∀ (Ec:Env) (M:Bars),Link φ Ec hc E h→Zew false (bars E h G.o) M→(∀ k∈W,∀ b,Ai E h k b→¬ M true b)→V.Reps Ec hc M w cargs us) (hck:∀ k∈V.keyss cargs,(Ah hc k).isSome=true) :
  Calls P f us.toArray w fun e w'=>∃ E' u,e=mk u∧An G E' fr (Hp.ren φ hc'++h) a w'∧V.Rep E' (Hp.ren φ hc'++h) (bars E' (Hp.ren φ hc'++h) G.o) w' (r.ren φ) u∧∀ k∈(r.ren φ).keys,(Ah (Hp.ren φ hc'++h) k).isSome=true:=by
 let Ec:Env:=⟨fun k=>E.blk (renK φ k),fun k=>E.row (renK φ k),fun k=>E.fp (renK φ k)⟩
 have L:Link φ Ec hc E h:=⟨fun k hk=>by obtain⟨o,ho⟩:=Option.isSome_iff_exists.1 hk;rw[hlink.get ho,ho];rfl,fun _ _=>rfl,fun _ _=>rfl,fun _ _=>rfl⟩
 have hfoot:∀ b,Live Ec hc b→Live E h b:=fun b ⟨k,hk⟩=>⟨renK φ k,by rw[←L.Ai (ZbI hk)];exact hk⟩
 let oc:Bars:=fun t b=>¬ Live Ec hc b∧((∃ j,Ai E h j b∧(t=true→j ∉ W))∨G.o t b)
 have hbars1:∀ t b,¬ bars E h G.o t b→¬ bars Ec hc oc t b:=fun t b hn hb=>by
  rcases hb with hb|⟨_,⟨j,hj,_⟩|hb⟩
  ·exact hn (.inl (hfoot b hb))
  ·exact hn (.inl ⟨j,hj⟩)
  ·exact hn (.inr hb)
 have hA1:Zew false (bars E h G.o) (bars Ec hc oc):=⟨hbars1 false,fun _=>hbars1 true⟩
 have hinjc:∀ {k k':Nat},(Ah hc' k).isSome=true→(Ah hc' k').isSome=true→renK φ k=renK φ k'→k=k':=fun {k k'} h1 h2 e=>by
  obtain⟨o1,p1⟩:=Option.isSome_iff_exists.1 h1;obtain⟨o2,p2⟩:=Option.isSome_iff_exists.1 h2;exact Ze9 hinj (List.mem_map.2 ⟨_,ZcM p1,rfl⟩) (List.mem_map.2 ⟨_,ZcM p2,rfl⟩) e
 have hdom':∀ {k:Nat},(Ah hc k).isSome=true→(Ah hc' k).isSome=true:=fun {k} hk=>by
  obtain⟨o,ho⟩:=Option.isSome_iff_exists.1 hk;have:=List.all_eq_true.1 hdom _ (ZcM ho);exact hasKey_spec.1 this
 have Hc:HRep Ec hc oc w:=by
  refine⟨fun k ob hk=>?_,fun k k' b h1 h2=>?_,fun k ob hk j hj=>?_⟩
  ·have hk':=hlink.get hk;have hr:=C.heap.obs _ _ hk';exact ObRep.unren L hA1 (by rw[hk];rfl) (Zc6 hin k _ hk) hr
  ·have k1:=ZbI h1;have k2:=ZbI h2;rw[L.Ai k1] at h1;rw[L.Ai k2] at h2;exact hinjc (hdom' k1) (hdom' k2) (C.heap.apart _ _ b h1 h2)
  ·exact Zc6 hin k ob hk j hj
 have hviews:∀ k∈W,∀ b,Ai E h k b→¬ bars Ec hc oc true b:=fun k hk b hb hx=>by
  rcases hx with ⟨k',hk'⟩|⟨_,⟨j,hj,hjw⟩|ho⟩
  ·obtain⟨o,ho⟩:=Option.isSome_iff_exists.1 (ZbI hk');rw[L.Ai (ZbI hk')] at hk';exact (hW k hk).2 _ (ZcM ho) (C.heap.apart _ _ b hb hk')
  ·have:=C.heap.apart _ _ b hj hb;subst this;exact hjw rfl hk
  ·obtain⟨o1,o2⟩:=C.outer _ _ ho;rcases C.fresh k b hb with q|q
   ·exact o2 q
   ·omega
 refine (hA.2 Ec w us oc Hc (hus Ec _ L hA1 hviews) hck (fun t b hb=>⟨?_,hb.1⟩) (fun b hb=>⟨hb.1,?_⟩)).mono ?_
 ·rcases hb.2 with ⟨j,hj,_⟩|ho
  ·exact C.heap.lt hj
  ·exact Gm (C.outer _ _ ho).1 C.ext.size
 ·rcases hb.2 with ⟨j,hj,_⟩|ho
  ·exact .inl ⟨j,hj,fun e=>by cases e⟩
  ·exact .inr (C.sub b ho)
 rintro e w' ⟨Ec',u,he,H',hr',hkr,hE',hHist,hfr⟩
 let pre:Nat→Option Nat:=fun j=>(hc'.map Prod.fst).find? (fun k=>Nat.beq (renK φ k) j)
 have hpre:∀ {k:Nat},(Ah hc' k).isSome=true→pre (renK φ k)=some k:=fun {k} hk=>by
  obtain⟨o,ho⟩:=Option.isSome_iff_exists.1 hk;have hm:k∈hc'.map Prod.fst:=List.mem_map.2 ⟨_,ZcM ho,rfl⟩;cases hq:pre (renK φ k) with
  | none =>
   have:=List.find?_eq_none.1 hq k hm;simp at this
  | some k0 =>
   have h1:=List.find?_some hq;have h2:=List.mem_of_find?_eq_some hq;have:=Ze9 hinj h2 hm (HQ h1);rw[this]
 have hpreN:∀ {j:Nat},(∀ k,(Ah hc' k).isSome=true→renK φ k≠j)→pre j=none:=fun {j} hj=>by
  cases hq:pre j with
  | none=>rfl
  | some k0 =>
   exfalso;have h1:=List.find?_some hq;have h2:=List.mem_of_find?_eq_some hq;obtain⟨p,hp,rfl⟩:=List.mem_map.1 h2;exact hj p.1 (ZoC hp) (HQ h1)
 let E':Env:=⟨fun j=>match pre j with|some k=>Ec'.blk k|none=>E.blk j,fun j=>match pre j with|some k=>Ec'.row k|none=>E.row j,fun j=>match pre j with|some k=>Ec'.fp k|none=>E.fp j⟩
 let h':Hp:=Hp.ren φ hc'++h
 have hEb:∀ {k:Nat},(Ah hc' k).isSome=true→E'.blk (renK φ k)=Ec'.blk k∧E'.row (renK φ k)=Ec'.row k∧E'.fp (renK φ k)=Ec'.fp k:=fun {k} hk=>by
  refine⟨?_,?_,?_⟩ <;> simp only[E',hpre hk]
 have hEn:∀ {j:Nat},(∀ k,(Ah hc' k).isSome=true→renK φ k≠j)→E'.blk j=E.blk j∧E'.row j=E.row j∧E'.fp j=E.fp j:=fun {j} hj=>by
  refine⟨?_,?_,?_⟩ <;> simp only[E',hpreN hj]
 have hgi:∀ {k:Nat},(Ah hc' k).isSome=true→Ah h' (renK φ k)=(Ah hc' k).map (Ob.ren φ):=fun {k} hk=>by
  obtain⟨o,ho⟩:=Option.isSome_iff_exists.1 hk;have h1:Ah (Hp.ren φ hc') (renK φ k)=(Ah hc' k).map (Ob.ren φ):=ZoD (fun j hj e=>Ze9 hinj hj (List.mem_map.2 ⟨_,ZcM ho,rfl⟩) e);simp only[h',ZaL,h1,ho,H9]
 have hgn:∀ {j:Nat},(∀ k,(Ah hc' k).isSome=true→renK φ k≠j)→Ah h' j=Ah h j:=fun {j} hj=>by
  have h1:Ah (Hp.ren φ hc') j=none:=ZcD (by
   rw[ren_keys];intro hm;obtain⟨k,hk,rfl⟩:=List.mem_map.1 hm;obtain⟨p,hp,rfl⟩:=List.mem_map.1 hk;exact hj p.1 (ZoC hp) rfl)
  simp only[h',ZaL,h1]
 have himg:∀ j,(∃ k,(Ah hc' k).isSome=true∧renK φ k=j)∨(∀ k,(Ah hc' k).isSome=true→renK φ k≠j):=fun j=>by
  by_cases hx:∃ k,(Ah hc' k).isSome=true∧renK φ k=j
  ·exact .inl hx
  ·exact .inr (fun k hk e=>hx ⟨k,hk,e⟩)
 have L':Link φ Ec' hc' E' h':=⟨fun k hk=>hgi hk,fun k hk=>(hEb hk).1.symm,fun k hk=>(hEb hk).2.1.symm,fun k hk=>(hEb hk).2.2.symm⟩
 have hbn:∀ {j:Nat},(∀ k,(Ah hc' k).isSome=true→renK φ k≠j)→Ai E' h' j=Ai E h j:=fun {j} hj=>by
  funext b;unfold Ai;rw[hgn hj,(hEn hj).1,(hEn hj).2.1,(hEn hj).2.2]
 have hbi:∀ {k:Nat},(Ah hc' k).isSome=true→Ai E' h' (renK φ k)=Ai Ec' hc' k:=fun {k} hk=>(L'.Ai hk).symm
 have hmono:∀ j,(Ah h j).isSome=true→(Ah h' j).isSome=true:=fun j hj=>by
  rcases himg j with ⟨k,hk,rfl⟩|hn
  ·rw[hgi hk];simpa using hk
  ·rw[hgn hn];exact hj
 have hold:∀ {k:Nat},(Ah hc' k).isSome=true→(Ah h (renK φ k)).isSome=true→(Ah hc k).isSome=true:=fun {k} hk hh=>by
  cases hq:Ah hc k with
  | some _=>rfl
  | none =>
   exfalso;have:=hnew.get _ (Zhb (φ:=φ) hk hq);rw[this] at hh;cases hh
 have hnf:∀ {j b:Nat},(∀ k,(Ah hc' k).isSome=true→renK φ k≠j)→Ai E h j b→¬ Live Ec hc b:=fun {j b} hj hb ⟨k,hk⟩=>by
  have hks:=ZbI hk;rw[L.Ai hks] at hk;exact hj k (hdom' hks) (C.heap.apart _ _ b hk hb)
 have hoLF:∀ {t b},G.o t b→¬ Live Ec hc b:=fun {t b} ho hl=>by
  obtain⟨o1,o2⟩:=C.outer _ _ ho;obtain⟨k,hk⟩:=hfoot b hl;rcases C.fresh k b hk with q|q
  ·exact o2 q
  ·omega
 have hcarry:Carry (bars E h G.o) (bars E' h' G.o) w w':=by
  refine⟨fun t b hb hm=>?_,hE'.size⟩;have hnl:¬ Live E h b:=fun hl=>hm (.inl hl)
  refine⟨hE'.block b hb (fun hl=>hnl (hfoot b hl)),?_⟩;rintro (⟨j,hj⟩|ho)
  ·rcases himg j with ⟨k,hk,rfl⟩|hn
   ·rw[hbi hk] at hj;rcases hfr k b hj with q|q
    ·exact hnl (hfoot b q)
    ·omega
   ·rw[hbn hn] at hj;exact hnl ⟨j,hj⟩
  ·exact hm (.inr ho)
 have T:Trans E h (bars E h G.o) w E' h' (bars E' h' G.o) w':=by
  refine⟨fun j hj _=>?_,fun j _ m hv=>?_,fun j hj sz n hv=>?_,hcarry⟩
  ·rcases himg j with ⟨k,hk,rfl⟩|hn
   ·have hkc:=hold hk hj;rw[(hEb hk).1];exact (hHist k (ZdI hhigh k hkc) hk).2.1
   ·exact (hEn hn).1
  ·rcases himg j with ⟨k,hk,rfl⟩|hn
   ·have hjs:(Ah h (renK φ k)).isSome=true:=by
     rcases hv with ⟨_,_,_,q,_⟩|⟨_,_,q,_⟩|q|⟨_,_,_,_,q,_⟩ <;> rw[q] <;> rfl
    have hkc:=hold hk hjs;obtain⟨m',g1,g2,g3⟩:=(hHist k (ZdI hhigh k hkc) hk).2.2.1 m ((L.any hkc).1 hv);exact⟨m',(L'.any hk).2 g1,g2,fun e=>by rw[(hEb hk).2.1];exact g3 e⟩
   ·exact⟨m,by unfold verAny at hv ⊢;rw[hgn hn];exact hv,Hg _,fun _=>(hEn hn).2.1⟩
  ·rcases himg j with ⟨k,hk,rfl⟩|hn
   ·have hkc:=hold hk hj;obtain⟨m,hm⟩:=(hHist k (ZdI hhigh k hkc) hk).2.2.2 sz n ((L'.rowv hk).1 hv);exact⟨m,(L.rowv hkc).2 hm⟩
   ·exact⟨n,by unfold verRow at hv ⊢;rw[hgn hn] at hv;exact hv⟩
 have hA2:Zew (!W.isEmpty) (bars Ec' hc' oc) (bars E' h' G.o):=by
  have key:∀ t b,(t=true→W=[])→¬ bars Ec' hc' oc t b→¬ bars E' h' G.o t b:=fun t b hw hn hx=>by
   rcases hx with ⟨j,hj⟩|ho
   ·rcases himg j with ⟨k,hk,rfl⟩|hni
    ·rw[hbi hk] at hj;exact hn (.inl ⟨k,hj⟩)
    ·rw[hbn hni] at hj;exact hn (.inr ⟨hnf hni hj,.inl ⟨j,hj,fun e=>by rw[hw e];simp⟩⟩)
   ·exact hn (.inr ⟨hoLF ho,.inr ho⟩)
  exact⟨fun b=>key false b (fun e=>by cases e),fun e b=>key true b (fun _=>by cases W <;> simp_all)⟩
 have hcl':(!W.isEmpty)=true→r.clean∧HpClean hc':=fun e=>by
  rcases hcl with q|q
  ·subst q;simp at e
  ·exact q
 have H2:HRep E' h' G.o w':=by
  refine⟨fun j ob hj=>?_,fun j j' b h1 h2=>?_,fun j ob hj i hi=>?_⟩
  ·rcases himg j with ⟨k,hk,rfl⟩|hn
   ·rw[hgi hk] at hj;obtain⟨o0,ho0⟩:=Option.isSome_iff_exists.1 hk;rw[ho0] at hj;simp only[H9,Hx] at hj;subst hj;have hr:=H'.obs k _ ho0;have hclk:(!W.isEmpty)=true→o0.clean:=(fun e=>(hcl' e).2.get ho0);exact hr.renTo L' hA2 hk (H'.closed k _ ho0) hclk
   ·rw[hgn hn] at hj;have hr:=C.heap.obs j ob hj;have hsame:∀ b,Ai E h j b→w'.heap[b]? = w.heap[b]? :=(fun b hb=>hE'.block b (C.heap.lt hb) (hnf hn hb));have hclo:=C.heap.closed j ob hj;exact hr.move T hj (hEn hn).1 (hEn hn).2.1 (hEn hn).2.2 hsame hclo (fun i hi=>hmono i (hclo i hi))
  ·have cross:∀ {k i b:Nat},(Ah hc' k).isSome=true→(∀ k,(Ah hc' k).isSome=true→renK φ k≠i)→Ai E' h' (renK φ k) b→Ai E' h' i b→False:=fun {k i b} hk hi q1 q2=>by
    rw[hbi hk] at q1;rw[hbn hi] at q2;rcases hfr k b q1 with q|q
    ·exact hnf hi q2 q
    ·have:=C.heap.lt q2;omega
   rcases himg j with ⟨k,hk,rfl⟩|hn
   ·rcases himg j' with ⟨k',hk',rfl⟩|hn'
    ·rw[hbi hk] at h1;rw[hbi hk'] at h2;rw[H'.apart k k' b h1 h2]
    ·exact (cross hk hn' h1 h2).elim
   ·rcases himg j' with ⟨k',hk',rfl⟩|hn'
    ·exact (cross hk' hn h2 h1).elim
    ·rw[hbn hn] at h1;rw[hbn hn'] at h2;exact C.heap.apart j j' b h1 h2
  ·rcases himg j with ⟨k,hk,rfl⟩|hn
   ·rw[hgi hk] at hj;obtain⟨o0,ho0⟩:=Option.isSome_iff_exists.1 hk;rw[ho0] at hj;simp only[H9,Hx] at hj;subst hj;rw[Ob.ren_keys] at hi;obtain⟨i0,hi0,rfl⟩:=List.mem_map.1 hi;have:=H'.closed k _ ho0 i0 hi0;rw[hgi this];simpa using this
   ·rw[hgn hn] at hj;exact hmono i (C.heap.closed j ob hj i hi)
 refine⟨E',u,he,⟨C.size,C.defers,fun i=>(C.frame i).move T (C.closed i) (fun j hj=>hmono j (C.closed i j hj)),H2,fun i j hj=>hmono j (C.closed i j hj),?_,fun j b hb=>?_,fun j hj hs=>?_,C.outer,C.sub⟩,V.Rep.ren L' hA2 hkr (fun e=>(hcl' e).1) hr',fun k hk=>?_⟩
 ·refine C.ext.trans hE' (fun x hx hl=>?_);obtain⟨k,hk⟩:=hfoot x hx;rcases C.fresh k x hk with q|q
  ·exact q
  ·omega
 ·rcases himg j with ⟨k,hk,rfl⟩|hn
  ·rw[hbi hk] at hb;rcases hfr k b hb with q|q
   ·obtain⟨j0,hj0⟩:=hfoot b q;exact C.fresh j0 b hj0
   ·exact .inr (Hq C.ext.size q)
  ·rw[hbn hn] at hb;exact C.fresh j b hb
 ·rcases himg j with ⟨k,hk,rfl⟩|hn
  ·have hkc:(Ah hc k).isSome=true:=by
    cases hq:Ah hc k with
    | some _=>rfl
    | none =>
     exfalso;have:=List.all_eq_true.1 hlow _ (Zhb (φ:=φ) hk hq);simp[HU] at this;omega
   have hjs:(Ah h (renK φ k)).isSome=true:=by rw[L.obj k hkc];simpa using hkc
   obtain⟨g0,g1,g2,g3⟩:=C.keep _ hj hjs;obtain⟨_,q1,q2,q3⟩:=hHist k (ZdI hhigh k hkc) hk;refine⟨g0,by rw[(hEb hk).1,q1];exact g1,fun m hm=>?_,fun sz n hv=>?_⟩
   ·obtain⟨m1,r1,r2,r3⟩:=g2 m hm;obtain⟨m2,s1,s2,s3⟩:=q2 m1 ((L.any hkc).1 r1);exact⟨m2,(L'.any hk).2 s1,by omega,fun e=>by rw[(hEb hk).2.1,s3 (by omega)];exact r3 (by omega)⟩
   ·obtain⟨m,hm⟩:=q3 sz n ((L'.rowv hk).1 hv);exact g3 sz m ((L.rowv hkc).2 hm)
  ·rw[hgn hn] at hs;obtain⟨g0,g1,g2,g3⟩:=C.keep j hj hs;refine⟨g0,by rw[(hEn hn).1];exact g1,fun m hm=>?_,fun sz n hv=>g3 sz n (by unfold verRow at hv ⊢;rw[hgn hn] at hv;exact hv)⟩;obtain⟨m1,r1,r2,r3⟩:=g2 m hm;exact⟨m1,by unfold verAny at r1 ⊢;rw[hgn hn];exact r1,r2,fun e=>by rw[(hEn hn).2.1];exact r3 e⟩
 ·rw[V.ren_keys] at hk;obtain⟨k0,hk0,rfl⟩:=List.mem_map.1 hk;have:=hkr k0 hk0;show (Ah h' (renK φ k0)).isSome=true;rw[hgi this];simpa using this
end
section
variable {φ:List (Nat×Nat)} {G:Ctx} {E:Env} {fr:Fr} {h:Hp} {a:Act} {w:World}
theorem Zlv {E:Env} {h:Hp} {M:Bars} {w:World}:∀ {a b:List V} {us:List Value},V.Reps E h M w (a++b) us→∃ u1 u2,us=u1++u2∧V.Reps E h M w a u1∧V.Reps E h M w b u2
 | [],b,us,r=>⟨[],us,rfl,by simp[V.Reps],r⟩
 | v::a,b,us,r=>by
  simp only[Hv,V.Reps] at r;obtain⟨x,y,rfl,h1,h2⟩:=r;obtain⟨u1,u2,rfl,k1,k2⟩:=Zlv h2;exact⟨x::u1,u2,rfl,by simp only[V.Reps];exact⟨x,u1,rfl,h1,k1⟩,k2⟩
theorem D.Reps.appendN {M:Bars} {w:World}:∀ {a b:List D} {u1 u2:List Value},D.Reps M w a u1→D.Reps M w b u2→D.Reps M w (a++b) (u1++u2)
 | [],_,_,_,r,k=>by simp only[D.Reps] at r;subst r;simpa using k
 | d::a,_,_,_,r,k=>by
  simp only[D.Reps,Hv] at r ⊢;obtain⟨c,q,rfl,h1,h2⟩:=r;exact⟨c,q++_,by simp,h1,D.Reps.appendN h2 k⟩
theorem ZCa {k n sz:Nat} {e:TypeId} {xs:List D} {fz:Hp} {Wall:List Nat} (hk:Ah h k=some (.row e sz xs)) (hn:xs.length=n) (C:An G E fr (fz++h) a w) (hWk:k∈Wall) (hWf:k ∉ fz.map Prod.fst)
  {M:Bars} (hA:Zew false (bars E (fz++h) G.o) M) (hv:∀ k∈Wall,∀ b,Ai E (fz++h) k b→¬ M true b) {u:Value} (hr:V.Rep E (fz++h) (bars E (fz++h) G.o) w (.own k n) u):D.Rep M w (.sl true sz (D.views xs)) [u]:=by
 have hk':Ah (fz++h) k=some (.row e sz xs):=by
  rw[ZaL,ZcD hWf];exact hk
 simp only[V.Rep] at hr;obtain⟨m,h1,_,_,h3⟩:=hr;have e1:=Za9 h1 (.inl ⟨e,sz,xs,hk',hn⟩);rw[h3 e1.symm];have hrow:=C.heap.obs k _ hk';simp only[ObRep] at hrow;obtain⟨ad,cap,q1,q2,q3⟩:=hrow.shape;have hM:∀ j,bars E (fz++h) G.o true j→bars E (fz++h) G.o false j:=fun j hj=>by
  rcases hj with hj|hj
  ·exact .inl hj
  ·exact .inr (C.sub j hj)
 have hvl:(D.views xs).length=xs.length:=by simp[D.views_map]
 have hvs:∀ x∈D.views xs,x.size=sz:=fun x hx=>by
  rw[D.views_map] at hx;obtain⟨y,hy,rfl⟩:=List.mem_map.1 hx;rw[D.view_size];exact hrow.1 y hy
 simp only[D.Rep,hvl];by_cases hne:xs=[]
 ·subst hne;exact⟨ad,cap,[],by simp[q1],by simp,q3,by simp[D.views],by simp[D.views,D.Reps],by simp[D.views]⟩
 ·obtain⟨gb,off,cap',us,k1,k2,k3,k4,k5,k6⟩:=hrow.cells hne;rw[q1] at k1;simp only[Value.slice.injEq] at k1;obtain⟨rfl,_,rfl⟩:=k1;refine⟨_,cap,us,by rw[q1],q2,q3,hvs,(k3.view hM).allow hA (by simp),fun _=>⟨gb,off,rfl,?_,k5,k6⟩⟩;exact hv k hWk gb (by simp[Ai,hk',k2])
theorem Ar.rep {v c:V} {o:List (Nat×Option Ob)} {f fz:Hp} {W Wall:List Nat} (ha:Ar φ h v c o f W) (C:An G E fr (fz++h) a w) (hf:FzOk h fz) (hsub:∀ p∈f,p∈fz) (hW:∀ k∈W,k∈Wall) (hWf:∀ k∈W,k ∉ fz.map Prod.fst)
  {Ec:Env} {hc:Hp} {M:Bars} (L:Link φ Ec hc E (fz++h)) (hA:Zew false (bars E (fz++h) G.o) M) (hv:∀ k∈Wall,∀ b,Ai E (fz++h) k b→¬ M true b) (hck:∀ k∈c.keys,(Ah hc k).isSome=true) {u:Value} (hr:V.Rep E (fz++h) (bars E (fz++h) G.o) w v u):V.Rep Ec hc M w c u:=by
 cases ha with
 | same hv=>subst hv;exact V.Rep.unren L hA hck hr
 | emb he =>
  have:=he.co hf hsub _ _ _ _ C.heap C.sub hr;simp only[V.Rep] at this ⊢;exact this.allow hA (by simp)
 | @vwd x y hy =>
  subst hy;have:=Co.view x _ _ _ _ C.heap C.sub hr;simp only[V.Rep] at this ⊢;exact this.allow hA (by simp)
 | @vw k n sz e xs ys hk hn hy =>
  subst hy;simp only[V.Rep,D.RepV];exact ZCa hk hn C (hW k (by simp)) (hWf k (by simp)) hA hv hr
 | @aggvw vs k n sz e xs ys pre post pre' post' hs hk hn hy hp hq =>
  subst hy;subst hp;subst hq;rw[Zh8 hs] at hr;simp only[V.Rep] at hr;obtain⟨us,rfl,hrs,hone⟩:=hr;have hM:∀ j,bars E (fz++h) G.o true j→bars E (fz++h) G.o false j:=fun j hj=>by
   rcases hj with hj|hj
   ·exact .inl hj
   ·exact .inr (C.sub j hj)
  obtain⟨u1,u2,rfl,r1,r2⟩:=Zlv hrs;simp only[V.Reps] at r2;obtain⟨x,y,rfl,r2,r3⟩:=r2;have d1:=ZtZ r1 (fun z hz=>hone z (by simp[hz]));have d3:=ZtZ r3 (fun z hz=>hone z (by simp[hz]));have d2:=ZCa hk hn C (hW k (by simp)) (hWf k (by simp)) hA hv r2;simp only[V.Rep,D.RepV];refine⟨_,rfl,?_⟩;exact D.Reps.appendN ((d1.view hM).allow hA (by simp)) (by simp only[D.Reps];exact⟨[x],y,rfl,d2,(d3.view hM).allow hA (by simp)⟩)
theorem As.rep {fz:Hp} {Wall:List Nat} {Ec:Env} {hc:Hp} {M:Bars} (C:An G E fr (fz++h) a w) (hf:FzOk h fz) (L:Link φ Ec hc E (fz++h)) (hA:Zew false (bars E (fz++h) G.o) M) (hv:∀ k∈Wall,∀ b,Ai E (fz++h) k b→¬ M true b) :
  ∀ {vs cs:List V} {o:List (Nat×Option Ob)} {f:Hp} {W:List Nat} {us:List Value},As φ h vs cs o f W→(∀ p∈f,p∈fz)→(∀ k∈W,k∈Wall)→(∀ k∈W,k ∉ fz.map Prod.fst)→(∀ k∈V.keyss cs,(Ah hc k).isSome=true) →
   V.Reps E (fz++h) (bars E (fz++h) G.o) w vs us→V.Reps Ec hc M w cs us:=by
 intro vs cs o f W us ha
 induction ha generalizing us with
 | nil=>intro _ _ _ _ r;simpa only [V.Reps] using r
 | cons h1 _ ih =>
  intro hs hW hWf hck r;simp only[V.Reps] at r ⊢;obtain⟨x,y,rfl,r1,r2⟩:=r;exact⟨x,y,rfl,h1.rep C hf (fun p hp=>hs p (List.mem_append.2 (.inl hp))) (fun k hk=>hW k (List.mem_append.2 (.inl hk))) (fun k hk=>hWf k (List.mem_append.2 (.inl hk))) L hA hv (fun k hk=>hck k (by simp[V.keyss,hk])) r1,
   ih (fun p hp=>hs p (List.mem_append.2 (.inr hp))) (fun k hk=>hW k (List.mem_append.2 (.inr hk))) (fun k hk=>hWf k (List.mem_append.2 (.inr hk))) (fun k hk=>hck k (by simp[V.keyss,hk])) r2⟩
theorem Ar.vwRow {v c:V} {o:List (Nat×Option Ob)} {f:Hp} {W:List Nat} (ha:Ar φ h v c o f W):∀ k∈W,∃ e sz xs,Ah h k=some (.row e sz xs):=by
 cases ha with
 | vw hk hn _=>intro k hk';simp at hk';subst hk';exact⟨_,_,_,hk⟩
 | aggvw _ hk _ _ _ _=>intro k hk';simp at hk';subst hk';exact⟨_,_,_,hk⟩
 | _=>simp
theorem As.vwRow {v c:List V} {o:List (Nat×Option Ob)} {f:Hp} {W:List Nat} (ha:As φ h v c o f W):∀ k∈W,∃ e sz xs,Ah h k=some (.row e sz xs):=by
 induction ha with
 | nil=>simp
 | cons h1 _ ih =>
  intro k hk;rcases List.mem_append.1 hk with hk|hk
  ·exact h1.vwRow k hk
  ·exact ih k hk
end
section
variable {h:Hp}
variable {ty:TypeId} {pos:String} {after:Array Edge} {g:Option (Nat×Bool)}
theorem ZoE {fop:Operand} {xs:List Operand} {ats:Array TypeId} {dst:Option Tmp} {f:FuncId} (hf:FnOk P f) (ρ:Operand→Value) (cs:List Value) (hv:ρ fop=.func (.func f) #[] cs.toArray) (w:World) :
  (execOp ρ ⟨dst,.call { callee:=.value fop,args:=xs.toArray,argTypes:=ats },ty,pos,after,g⟩).run P w=.ok (.enter f (xs.map ρ++cs).toArray) w:=by
 obtain⟨fn,h1,h2,h3⟩:=hf;have e1:¬ (fn.name="runtime.NumGoroutine"):=by simpa using h2
 have e3:¬ (fn.body=none):=fun e=>by rw[e] at h3;cases h3
 simp[execOp,resolve,hv,Deferred.ofValue,invoke,callFunc,h1,e1,e3]
def ZbL (φ:List (Nat×Nat)) (hc hc':Hp) (objs:List (Nat×Option Ob)):List (Nat×Option Ob):=Zcd φ hc++((ZbA φ hc hc').map (fun k=>(k,none))++objs)
def ZoF (n:Nat):Option Tmp→Bool
 | some d=>Nat.blt d n
 | none=>true
theorem Zy6 {dst:Option Tmp} {fop:Operand} {xs:List Operand} {args:Array Operand} {ats:Array TypeId} {vs caps cargs:List V} {f:FuncId} {hc hc':Hp} {r:V} (φ:List (Nat×Nat)) {objs:List (Nat×Option Ob)} {fz:Hp} {W:List Nat}
  (hg:gOk ops fr g) (hd:ZoF n dst=true) (hxs:args.toList=xs) (hf:oev fr fop=.fn (.func f) [] caps) (hx:oevs fr xs vs) (h1:xs.all ZaP=true) (hA:Af P f cargs hc r hc') (ha:As φ h (vs++caps) cargs objs fz W)
  (hlink:LinkH h φ hc) (hnew:NewH h (ZbA φ hc hc')) (hok:Ze8 φ hc hc' fz W=true) (hin:(hpIn hc hc && V.insides hc cargs)=true) (hcl:W=[]∨(r.clean∧HpClean hc')) {fr':Fr} {h':Hp} (hfr:dput dst (r.ren φ) fr=fr') (hh:(Hp.ren φ hc'++fz)++h=h')
  (hr:dops P n dr ops rest (⟨(gIns ops g++(ZaG fop (.fn (.func f) [] caps)++Zaq xs vs)).map Prod.fst,dst.toList,(ZbL φ hc hc' objs).map Prod.fst,(Hp.ren φ hc'++fz).map Prod.fst⟩::log) K fr' h') :
  dops P n dr ops (⟨dst,.call { callee:=.value fop,args:=args,argTypes:=ats },ty,pos,after,g⟩::rest) log K fr h:=by
 have hargs:args=xs.toArray:=by rw[←hxs]
 subst hargs;subst hfr;subst hh;simp only[Hr] at hin;have hnewo:Am h ((ZbA φ hc hc').map (fun k=>(k,(none:Option Ob)))):=fun p hp=>by
  obtain⟨k,hk,rfl⟩:=List.mem_map.1 hp;exact hnew.get k hk
 refine ZaA (ins:=gIns ops g++(ZaG fop (.fn (.func f) [] caps)++Zaq xs vs)) (objs:=ZbL φ hc hc' objs) (v:=r.ren φ) (upd:=Hp.ren φ hc'++fz) ?_ (Zc7 hg (fun p hp=>(List.mem_append.1 hp).elim (ZbN hf p) (ZbK hx p)))
  (Am.append.2 ⟨LinkH.iff.1 hlink,Am.append.2 ⟨hnewo,ha.objs⟩⟩) hr
 intro G E fr' h' a w K Q hPan hn C hi ho hK;have hgo:gOk ops fr' g:=Zh5 hg (fun p hp=>hi p (List.mem_append.2 (.inl hp)));have ho':=Am.append.1 (show Am h' (ZbL φ hc hc' objs) from ho);have ho'':=Am.append.1 ho'.2;have ha':=ha.of ho''.2;have hlink':LinkH h' φ hc:=LinkH.iff.2 ho'.1;have hf':=ZcE hf (fun p hp=>hi p (List.mem_append.2 (.inr (List.mem_append.2 (.inl hp)))));have hx':=Zcy hx (fun p hp=>hi p (List.mem_append.2 (.inr (List.mem_append.2 (.inr hp)))));simp only[Ze8,Hr] at hok;obtain⟨⟨⟨⟨⟨⟨c1,c2⟩,c3⟩,c4⟩,c5⟩,c6⟩,c7⟩:=hok;have C1:=C.frozs ha'.fz;have hoff:∀ k,(∀ p∈fz,p.1≠k)→Ah (fz++h') k=Ah h' k:=fun k hk=>by
  rw[ZaL,ZcD (fun hm=>by obtain⟨p,hp,e⟩:=List.mem_map.1 hm;exact hk p hp e)]
 have hlinkz:LinkH (fz++h') φ hc:=by
  refine LinkH.iff.2 (fun p hp=>?_);rw[hoff p.1 (fun q hq e=>?_)]
  ·exact ho'.1 p hp
  ·have hmem:∀ {l:Hp},p∈Zcd φ l→∃ q∈l,renK φ q.1=p.1:=by
    intro l
    induction l with
    | nil=>intro hp;simp[Zcd] at hp
    | cons q l ih =>
     intro hp;obtain⟨j,ob⟩:=q;simp only[Zcd,Gq] at hp;rcases hp with rfl|hp
     ·exact⟨_,HT,rfl⟩
     ·obtain⟨q,hq,e⟩:=ih hp;exact⟨q,HK _ hq,e⟩
   obtain⟨q',hq',e'⟩:=hmem hp;have:=List.all_eq_true.1 (List.all_eq_true.1 c5 q hq) q' hq';rw[e,e',Gt] at this;simp at this
 have hnewz:NewH (fz++h') (ZbA φ hc hc'):=by
  have key:∀ (l:List Nat),(∀ k∈l,Ah h' k=none)→NewH (fz++h') l:=by
   intro l
   induction l with
   | nil=>intro _;trivial
   | cons k l ih =>
    intro hl;refine⟨?_,ih (fun j hj=>hl j (HK _ hj))⟩;rw[hoff k (fun p hp e=>?_)]
    ·exact hl k HT
    ·obtain⟨_,_,_,_,q⟩:=ha'.fz p hp;rw[e,hl k HT] at q;cases q
  exact key _ (fun k hk=>ho''.1 (k,none) (List.mem_map.2 ⟨k,hk,rfl⟩))
 have hWf:∀ k∈W,k ∉ fz.map Prod.fst:=fun k hk hm=>by
  obtain⟨p,hp,rfl⟩:=List.mem_map.1 hm;have:=List.all_eq_true.1 (List.all_eq_true.1 c7 p hp) _ hk;simp at this
 obtain⟨r1,_⟩:=C1.oev hf' (Zao (Zap hf rfl));obtain⟨r2,_⟩:=ZdB C1 hx' h1;simp only[V.Rep] at r1;obtain⟨af,cf,e1,e2,e3⟩:=r1;simp only[V.Reps] at e2;subst e2;have hus:=r2.append e3;have hcall:=C1.call hA φ W hlinkz hnewz c1 hin.1 c2 c3 c4 (fun k hk=>⟨?_,fun q hq e=>?_⟩) hcl (us:=xs.map a.eval++cf) (fun Ec M L hAl hvw=>ha'.rep C1 ha'.fz L hAl hvw (fun _ hp=>hp) (fun _ hk=>hk) hWf (V.insides_spec hin.2) hus) (V.insides_spec hin.2)
 ·unfold wpS;rw[Hb (Zcs (o:=⟨dst,_,ty,pos,after,g⟩) C hgo)];refine .inl ?_;unfold Oper.wp;rw[ZoE hA.1 a.eval cf e1];simp only[Oper.upon];refine hcall.mono ?_;rintro e w' ⟨E',u,rfl,C',hru,hku⟩;refine hK E' _ w' ?_;rw[HH];cases dst with
  | none=>exact C'.putNone _
  | some d=>exact C'.put (by rw[hn];simpa[ZoF,HU] using hd) hru hku
 ·obtain⟨e,sz,xs',q⟩:=ha'.vwRow k hk;exact⟨e,sz,xs',by rw[hoff k (fun p hp e=>hWf k hk (List.mem_map.2 ⟨p,hp,e⟩))];exact q⟩
 ·have:=List.all_eq_true.1 (List.all_eq_true.1 c6 k hk) q hq;rw[e,Gt] at this;simp at this
end
section
variable {P:Program} {n:Nat} {Q:Exit→Fr→Hp→Prop} {K:Exit→Fr→Hp→Prop} {fr:Fr} {h:Hp}
theorem Zb2 {K:Fr→Hp→Prop} (hk:K fr h):andThen K Q .normal fr h:=hk
theorem Zel {K:Fr→Hp→Prop} {id:Nat} (hq:Q (.exit id) fr h):andThen K Q (.exit id) fr h:=hq
theorem Zem {K:Fr→Hp→Prop} (hq:Q .ret fr h):andThen K Q .ret fr h:=hq
theorem Zen {id:Nat} (hq:Q .normal fr h):inBlock id Q .normal fr h:=hq
theorem Zeo {id:Nat} (hq:Q .ret fr h):inBlock id Q .ret fr h:=hq
theorem Zep {id:Nat} (hq:Q .normal fr h):inBlock id Q (.exit id) fr h:=by
 simp only[inBlock,Gt];exact hq
theorem Zy7 {id id':Nat} (hne:Nat.beq id' id=false) (hq:Q (.exit id') fr h):inBlock id Q (.exit id') fr h:=by
 simp only[inBlock,hne];exact hq
theorem ZBz {c:Operand} {x y:Code} {t:Bool} (hc:oev fr c=B t) (ht:t=true) (hx:aw P n x Q fr h):aw P n (.cond c x y) Q fr h :=
 ZyV hc (fun _=>hx) (fun e=>by rw[ht] at e;cases e)
theorem ZBA {c:Operand} {x y:Code} {t:Bool} (hc:oev fr c=B t) (ht:t=false) (hx:aw P n y Q fr h):aw P n (.cond c x y) Q fr h :=
 ZyV hc (fun e=>by rw[ht] at e;cases e) (fun _=>hx)
theorem ZdC:oevs fr [] []:=trivial
theorem Zc8 {x:Operand} {v:V} {xs:List Operand} {vs:List V} (h1:oev fr x=v) (h2:oevs fr xs vs):oevs fr (x::xs) (v::vs):=⟨h1,h2⟩
theorem Zag {ops:Array Oper}:gOk ops fr none:=trivial
theorem Zaf {ops:Array Oper} {j s:Nat} {want b:Bool} (hs:(ops[j]?).bind (·.dst)=some s) (hf:fget fr s=B b) (hb:b=want):gOk ops fr (some (j,want)):=by
 unfold gOk;simp only[hs];rw[hf,hb]
theorem Ao.mapE {α:Type} {t:Bool} {sz i off:Nat} {xs:List α} {f:α→D} (hi:i < xs.length):Ao h (.eptr t sz (xs.map f) i off) (f xs[i]) off []:=.e (by simp[hi])
theorem Ao.mapO {α:Type} {k m sz i off:Nat} {e:TypeId} {xs:List α} {f:α→D} (hk:Ah h k=some (.row e sz (xs.map f))) (hm:(xs.map f).length=m) (hi:i < xs.length):Ao h (.optr k m i off) (f xs[i]) off [(k,some (.row e sz (xs.map f)))]:=.o hk hm (by simp[hi])
theorem LinkH.nil {φ:List (Nat×Nat)}:LinkH h φ []:=trivial
theorem LinkH.cons {φ:List (Nat×Nat)} {k:Nat} {o:Ob} {r:Hp} (h1:Ah h (renK φ k)=some (o.ren φ)) (h2:LinkH h φ r):LinkH h φ ((k,o)::r):=⟨h1,h2⟩
theorem ZBB {X:Type} {c:Code} (Inv:X→Prop) (F:X→Fr) (H:X→Hp) (μ:X→Nat) (x0:X) (hi:Inv x0) (hf:FLe fr (F x0)) (hh:HLe h (H x0)) (hin:(frIn (H x0) (F x0) && hpIn (H x0) (H x0))=true)
  (round:∀ x,Inv x→aw P n c (andThen (fun fr h=>∃ x',Inv x'∧μ x' < μ x∧FLe fr (F x')∧HLe h (H x')∧(frIn (H x') (F x') && hpIn (H x') (H x'))=true) Q) (F x) (H x)):aw P n (.loop c) Q fr h:=by
 refine Zr7 (F x0) (H x0) hf hh hin (ZDk (fun x fr h=>Inv x∧fr=F x∧h=H x) μ x0 ⟨hi,rfl,rfl⟩ ?_);rintro x fr' h' ⟨hx,rfl,rfl⟩;intro G E a w hn C;refine wp_mono (round x hx G E a w hn C) fun e a' w' ⟨E',fr',h',hq,C'⟩=>?_
 cases e with
 | normal =>
  obtain⟨x',h1,h2,h3,h4,h5⟩:=hq;exact⟨E',F x',H x',⟨x',⟨h1,rfl,rfl⟩,h2⟩,C'.weak h3 h4 h5⟩
 | _=>exact⟨E',fr',h',hq,C'⟩
theorem Fin.r0 {fn:Func} {h':Hp} (e:fn.results.toList=[]) (h3:HLe h h') (h4:hpIn h' h'=true):Fin P fn (.tup []) h' .ret fr h:=⟨[],by rw[e];trivial,Co.refl _,h3,by simp[V.inside,V.insides,h4]⟩
theorem Fin.r1 {fn:Func} {r v:V} {h':Hp} {rv:ResultVar} (e:fn.results.toList=[rv]) (h1:ResIs P fr h rv v) (h2:Co h v r) (h3:HLe h h') (h4:(r.inside h' && hpIn h' h')=true):Fin P fn r h' .ret fr h:=⟨[v],by rw[e];exact⟨h1,trivial⟩,h2,h3,h4⟩
theorem Fin.r2 {fn:Func} {r v1 v2:V} {h':Hp} {rv1 rv2:ResultVar} (e:fn.results.toList=[rv1,rv2]) (h1:ResIs P fr h rv1 v1) (h1':ResIs P fr h rv2 v2) (h2:Co h (.tup [v1,v2]) r) (h3:HLe h h') (h4:(r.inside h' && hpIn h' h')=true):Fin P fn r h' .ret fr h:=⟨[v1,v2],by rw[e];exact⟨h1,h1',trivial⟩,h2,h3,h4⟩
theorem ResIs.of_tmp {t:Tmp} {v:V} (e:fget fr t=v):ResIs P fr h (.tmp t) v:=e ▸ ResIs.tmp t
theorem ResIs.aggT (T:TT P) {t ty k bt:Nat} {cs:List V} {y:Ty} (hp:fget fr t=.ptr k 0) (hk:Ah h k=some (.box bt cs)) (ht:T.rows[ty]? = some y) (hrow:y.row=true) (hm:y.size=cs.length):ResIs P fr h (.cell t ty) (.agg cs):=by
 obtain⟨i,ds,h1,h2,h3,_,h5,_⟩:=ZaH (T.at ht);exact .agg t ty k bt cs ds hp hk h2 (by rw[h5];exact hrow) (by rw[h1];simp[h3,hm])
theorem ZFl:∀ (xs:List D),Cos h (xs.map V.d) (xs.map V.d):=fun xs=>Cos.refl _
theorem Fin.rA (T:TT P) {fn:Func} {x:D} {h':Hp} {t ty k bt:Nat} {cs:List V} {xs:List D} {y:Ty} (e:fn.results.toList=[.cell t ty]) (hp:fget fr t=.ptr k 0) (hk:Ah h k=some (.box bt cs)) (hcs:cs=xs.map V.d) (ht:T.rows[ty]? = some y) (hrow:y.row=true) (hm:y.size=cs.length) (hD:x=.agg xs)
  (h3:HLe h h') (h4:hpIn h' h'=true):Fin P fn (.d x) h' .ret fr h:=by
 subst hD;exact Fin.r1 e (.aggT T hp hk ht hrow hm) (Co.agg (by rw[hcs];exact ZFl xs)) h3 (by simp[V.inside,h4])
theorem Fin.rC (T:TT P) {fn:Func} {x:D} {h':Hp} {t ty k bt:Nat} {cs:List V} {xs:List D} {y:Ty} (e:fn.results.toList=[.cell t ty]) (hp:fget fr t=.ptr k 0) (hk:Ah h k=some (.box bt cs)) (hcs:Cos h cs (xs.map V.d)) (ht:T.rows[ty]? = some y) (hrow:y.row=true) (hm:y.size=cs.length) (hD:x=.agg xs)
  (h3:HLe h h') (h4:hpIn h' h'=true):Fin P fn (.d x) h' .ret fr h:=by
 subst hD;exact Fin.r1 e (.aggT T hp hk ht hrow hm) (Co.agg hcs) h3 (by simp[V.inside,h4])
theorem Fin.norm {fn:Func} {r:V} {h':Hp} (hf:Fin P fn r h' .ret fr h):Fin P fn r h' .normal fr h:=hf
theorem Zc9 {i k m m':Nat} (hf:fget fr i=.own k m) (e:m=m'):VLe (fget fr i) (.own k m'):=VLe.of (e ▸ hf)
theorem Zda {k e sz:Nat} {xs ys:List D} (hk:Ah h k=some (.row e sz xs)) (hx:xs=ys):Ap h k (.row e sz ys):=Ap.of (hx ▸ hk)
theorem ZcF {k e sz:Nat} {xs ys:List D} (hk:Ah h k=some (.row e sz xs)) (hx:DLes xs ys):Ap h k (.row e sz ys):=⟨_,hk,.row hx⟩
theorem ZEC {k m m':Nat} (e:m=m'):Co h (.own k m) (.own k m'):=e ▸ Co.refl _
end
theorem views_map {α:Type} {f g:α→D} (hf:∀ x,(f x).view=g x) (xs:List α):D.views (xs.map f)=xs.map g:=by
 rw[D.views_map,H8];exact GL (fun x _=>hf x)
def iD (x:Int):D:=.raw (.int .i64 x)
def bD (b:Bool):D:=.raw (.bool b)
def sD (s:ByteArray):D:=.raw (.string s)
theorem Zd6 (xs:List Int):D.views (xs.map iD)=xs.map iD:=views_map (fun _=>rfl) xs
theorem Zeq (xs:List Bool):D.views (xs.map bD)=xs.map bD:=views_map (fun _=>rfl) xs
theorem Zfa (xs:List ByteArray):D.views (xs.map sD)=xs.map sD:=views_map (fun _=>rfl) xs
theorem Zi5 {α:Type} {f:α→D} (hf:∀ x,(f x).clean):∀ (xs:List α),D.cleans (xs.map f)
 | []=>trivial
 | x::xs=>⟨hf x,Zi5 hf xs⟩
theorem ZBC (x:Int):(iD x).clean:=trivial
abbrev ints (t:Bool) (xs:List Int):D:=.sl t 1 (xs.map iD)
section
variable {h:Hp}
variable {d:Nat} {ty:TypeId} {pos:String} {after:Array Edge} {g:Option (Nat×Bool)}
end
mutual
theorem V.ren_nil:∀ (v:V),v.ren []=v
 | .d _=>rfl
 | .full ..=>rfl
 | .own ..=>rfl
 | .ptr ..=>rfl
 | .eptr ..=>rfl
 | .optr ..=>rfl
 | .fn f a c=>by simp only[V.ren,V.rens_nil a,V.rens_nil c]
 | .agg cs=>by simp only[V.ren,V.rens_nil cs]
 | .tup vs=>by simp only[V.ren,V.rens_nil vs]
 | .mapv _=>rfl
 | .opn _=>rfl
 | .junk=>rfl
theorem V.rens_nil:∀ (vs:List V),V.rens [] vs=vs
 | []=>rfl
 | v::r=>by simp only[V.rens,V.ren_nil v,V.rens_nil r]
end
theorem Ob.ren_nil (o:Ob):o.ren []=o:=by cases o <;> simp[Ob.ren,V.rens_nil,renK]
theorem Hp.ren_nil:∀ (h:Hp),Hp.ren [] h=h
 | []=>rfl
 | (k,o)::r=>by simp only[Hp.ren,Ob.ren_nil,Hp.ren_nil r,renK]
theorem HSub.mem {h:Hp}:∀ {g:Hp},HSub h g→∀ p∈g,Ah h p.1=some p.2
 | [],_,p,hp=>by cases hp
 | (k,o)::r,hs,p,hp=>by
  simp only[HSub] at hs;rcases List.mem_cons.1 hp with rfl|hp
  ·exact hs.1
  ·exact HSub.mem hs.2 p hp
theorem HSub.of_mem {h:Hp}:∀ {g:Hp},(∀ p∈g,Ah h p.1=some p.2)→HSub h g
 | [],_=>trivial
 | (k,o)::r,hs=>⟨hs (k,o) (by simp),HSub.of_mem (fun p hp=>hs p (by simp[hp]))⟩
theorem Zgc {H:Hp}:∀ {l:Hp},(∀ p∈l,Ah H p.1=some p.2)→ZbA [] H l=[]
 | [],_=>rfl
 | (k,o)::r,hs=>by
  simp only[ZbA];rw[hs (k,o) (by simp)];exact Zgc (fun p hp=>hs p (by simp[hp]))
theorem Zm4 {h:Hp}:∀ {l:Hp},(∀ p∈l,Ah h p.1=some p.2)→LinkH h [] l
 | [],_=>trivial
 | (k,o)::r,hs=>by
  simp only[LinkH,renK,Ob.ren_nil];exact⟨hs (k,o) (by simp),Zm4 (fun p hp=>hs p (by simp[hp]))⟩
theorem Zsd {H:Hp} (hh:ZfD H=true) (hs:HSub H H):Ze8 [] H H [] []=true:=by
 unfold Ze8;rw[Zgc (HSub.mem hs)];have h1:injB [] (H.map Prod.fst)=true:=by
  unfold injB;simp only[renK,HR];intro a _ b _;split
  ·assumption
  ·rfl
 have h2:H.all (fun q=>Zh4 H q.1)=true:=by
  rw[HR];intro p hp;rw[hasKey_spec,HSub.mem hs p hp];rfl
 simp[hh,h1,h2]
theorem ZfR {h g:Hp} {k:Nat} {o:Ob} (hk:Ah h k=some o):Ah (h++g) k=some o:=by
 rw[ZaL,hk]
theorem HSub.append_left {h g:Hp} {H:Hp} (hs:HSub h H):HSub (h++g) H:=HSub.of_mem (fun p hp=>ZfR (HSub.mem hs p hp))
theorem HLe.append_left {h g:Hp}:∀ {H:Hp},HSub h H→HLe (h++g) H
 | [],_=>trivial
 | (k,o)::r,hs=>⟨.of (ZfR hs.1),HLe.append_left hs.2⟩
theorem HLe.of_self {h:Hp}:∀ {H:Hp},HSub h H→HLe h H
 | [],_=>trivial
 | (k,o)::r,hs=>⟨.of hs.1,HLe.of_self hs.2⟩
structure Clo (H:Hp) (caps:List V):Prop where
 high:ZfD H=true
 inn:hpIn H H=true
 caps:V.insides H caps=true
 self:HSub H H
theorem Clo.bare {H:Hp} {caps:List V} (h:Clo H caps):Clo H []:=⟨h.high,h.inn,rfl,h.self⟩
theorem Clo.nil:Clo [] []:=⟨rfl,rfl,rfl,trivial⟩
theorem Zm5 {h:Hp}:∀ (vs:List V),As [] h vs vs [] [] []
 | []=>.nil
 | v::vs=>.cons (.same (V.ren_nil v)) (Zm5 vs)
theorem ZgN {H:Hp}:∀ {a b:List V},V.insides H a=true→V.insides H b=true→V.insides H (a++b)=true
 | [],_,_,hb=>hb
 | v::a,b,ha,hb=>by
  simp only[V.insides,Hr,Hv] at ha ⊢;exact⟨ha.1,ZgN ha.2 hb⟩
section
variable {h:Hp}
variable {ty:TypeId} {pos:String} {after:Array Edge} {g:Option (Nat×Bool)}
theorem ZED {dst:Option Tmp} {fop:Operand} {xs:List Operand} {args:Array Operand} {ats:Array TypeId} {vs caps:List V} {f:FuncId} {H:Hp} {r:V} (hC:Clo H caps)
  (hg:gOk ops fr g) (hd:ZoF n dst=true) (hxs:args.toList=xs) (hf:oev fr fop=.fn (.func f) [] caps) (hx:oevs fr xs vs) (h1:xs.all ZaP=true) (hA:Af P f (vs++caps) H r H) (hin:V.insides H vs=true) (hs:HSub h H)
  (hr:dops P n dr ops rest (⟨(gIns ops g++(ZaG fop (.fn (.func f) [] caps)++Zaq xs vs)).map Prod.fst,dst.toList,(ZbL [] H H []).map Prod.fst,H.map Prod.fst⟩::log) K (dput dst r fr) (H++h)) :
  dops P n dr ops (⟨dst,.call { callee:=.value fop,args:=args,argTypes:=ats },ty,pos,after,g⟩::rest) log K fr h:=by
 refine Zy6 [] hg hd hxs hf hx h1 hA (Zm5 _) (Zm4 (HSub.mem hs)) ?_ (Zsd hC.high hC.self) ?_ (.inl rfl) (fr':=dput dst r fr) (h':=H++h) (by rw[V.ren_nil]) (by rw[Hp.ren_nil,Ht]) (by rw[Hp.ren_nil,Ht];exact hr)
 ·rw[Zgc (HSub.mem hC.self)];trivial
 ·rw[hC.inn,ZgN hin hC.caps];rfl
end
def ZoG:List D→Option (List Value)
 | []=>some []
 | .raw v::r=>(ZoG r).map (v::·)
 | _::_=>none
def Zy8:List V→Option (List Value)
 | []=>some []
 | .d (.raw v)::r=>(Zy8 r).map (v::·)
 | _::_=>none
def vval:V→Option Value
 | .d (.raw v)=>some v
 | .d (.agg ds)=>(ZoG ds).map fun us=>.agg us.toArray
 | .agg cs=>(Zy8 cs).map fun us=>.agg us.toArray
 | _=>none
def ZvJ:List V→Option (List Value)
 | []=>some []
 | v::r=>match vval v,ZvJ r with
  | some u,some us=>some (u::us)
  | _,_=>none
section
variable {E:Env} {h:Hp} {M:Bars} {w:World}
theorem Zlw:∀ {ds:List D} {us us':List Value},D.Reps M w ds us→ZoG ds=some us'→us=us'
 | [],us,us',r,e=>by simp only[D.Reps] at r;simp only[ZoG,Hx] at e;rw[r,e]
 | .raw v::ds,us,us',r,e=>by
  simp only[D.Reps,D.Rep] at r;obtain⟨c,r',rfl,⟨rfl,_⟩,h2⟩:=r;simp only[ZoG,JV] at e;obtain⟨us1,h3,rfl⟩:=e;rw[Zlw h2 h3];rfl
 | .sl ..::ds,us,us',r,e=>by simp[ZoG] at e
 | .agg _::ds,us,us',r,e=>by simp[ZoG] at e
theorem ZqI:∀ {cs:List V} {us us':List Value},V.Reps E h M w cs us→Zy8 cs=some us'→us=us'
 | [],us,us',r,e=>by simp only[V.Reps] at r;simp only[Zy8,Hx] at e;rw[r,e]
 | v::cs,us,us',r,e=>by
  unfold Zy8 at e;split at e
  ·simp_all
  ·rename_i v' r' heq;obtain⟨rfl,rfl⟩:=HY heq;simp only[V.Reps,V.Rep,D.RepV,D.Rep,Hz,HA] at r;obtain⟨c,r',rfl,⟨rfl,_⟩,h2⟩:=r;simp only[JV] at e;obtain⟨us1,h3,rfl⟩:=e;rw[ZqI h2 h3]
  ·cases e
theorem ZoH {v:V} {u u':Value} (r:v.Rep E h M w u) (e:vval v=some u'):u=u':=by
 unfold vval at e;split at e
 ·simp only[V.Rep,D.RepV,D.Rep,Hz,HA] at r;simp only[Hx] at e;rw[r.1,e]
 ·simp only[V.Rep,D.RepV] at r;obtain⟨us,rfl,h1⟩:=r;simp only[JV] at e;obtain⟨us',h2,rfl⟩:=e;rw[Zlw h1 h2]
 ·simp only[V.Rep] at r;obtain⟨us,rfl,h1⟩:=r;simp only[JV] at e;obtain⟨us',h2,rfl⟩:=e;rw[ZqI h1.1 h2]
 ·cases e
theorem ZqJ:∀ {vs:List V} {us us':List Value},V.Reps E h M w vs us→ZvJ vs=some us'→us=us'
 | [],us,us',r,e=>by simp only[V.Reps] at r;simp only[ZvJ,Hx] at e;rw[r,e]
 | v::vs,us,us',r,e=>by
  simp only[V.Reps] at r;obtain⟨u,r',rfl,h1,h2⟩:=r;simp only[ZvJ] at e;split at e
  ·rename_i u1 us1 e1 e2;simp only[Hx] at e;rw[←e,ZoH h1 e1,ZqJ h2 e2]
  ·cases e
end
section
variable {h:Hp}
variable {d:Nat} {ty:TypeId} {pos:String} {after:Array Edge} {g:Option (Nat×Bool)}
theorem ZFm {op:Op} (xs:List Operand) (vs:List V) (us:List Value) (u:Value) (hvs:ZvJ vs=some us) (hop:∀ (ρ:Operand→Value) (w:World),xs.map ρ=us→(execOp ρ ⟨some d,op,ty,pos,after,g⟩).run P w=.ok (.value u) w) (hu:u.oneCell'=true)
  (hdn:Nat.blt d n=true) (hg:gOk ops fr g) (hx:oevs fr xs vs) (h1:xs.all ZaP=true)
  (hr:dops P n dr ops rest (⟨(gIns ops g++Zaq xs vs).map Prod.fst,[d],[],[]⟩::log) K ((d,.d (.raw u))::fr) h):dops P n dr ops (⟨some d,op,ty,pos,after,g⟩::rest) log K fr h:=by
 refine ZaA (ins:=gIns ops g++Zaq xs vs) (objs:=[]) (v:=.d (.raw u)) (upd:=[]) (LStep.pure rfl hdn rfl hg (Zaq xs vs) [] _ fun G E fr' h' a w C hi _=>?_) (fun p hp=>?_) (by simp) hr
 ·have hx':=Zcy hx hi;have he:xs.map a.eval=us:=ZqJ (ZdB C hx' h1).1 hvs;exact⟨u,hop _ w he,by simp[V.Rep,D.RepV,D.Rep,hu],by simp[V.keys]⟩
 ·rcases List.mem_append.1 hp with hp|hp
  ·exact ZdL hg p hp
  ·exact ZbK hx p hp
theorem ZoI {xt e:TypeId} (hu:P.underlying xt=some (.slice e)) (a:Option Addr) (l c:Nat) (w:World):(binOp .eql xt (.slice a l c) (.slice none 0 0)).run P w=.ok (.bool a.isNone) w:=by
 have he:(Op.equal xt (.slice a l c) (.slice none 0 0)).run P w=.ok a.isNone w:=by
  unfold Op.equal;rw[show Op.maxDepth=9999+1 from rfl];unfold Op.equalIn;cases a <;> simp only[Sem.run_bind,run_underlying hu,Result.andThen_ok,Sem.run_pure] <;> rfl
 simp only[binOp,Sem.run_bind,he,Result.andThen_ok,Sem.run_pure]
variable {Q:Exit→Fr→Hp→Prop}
theorem ZBD {id c e st yt cty:Nat} {x:Operand} {t:Bool} {sz:Nat} {xs:List D} {pos1 pos2:String} {af1 af2:Array Edge} (hcn:Nat.blt c n=true) (hdn:Nat.blt d n=true) (hx:oev fr x=.d (.sl t sz xs)) (hu:P.underlying st=some (.slice e))
  (hT:xs=[]→Q .normal ((d,B true)::(c,.d (.sl t sz xs))::fr) h) (hF:Q .normal ((d,B false)::(c,.d (.sl t sz xs))::fr) h) :
  aw P n (.region id #[⟨some c,.move x,cty,pos1,af1,none⟩,⟨some d,.binOp .eql st (.tmp c) (.const (.slice none 0 0)) yt,ty,pos2,af2,none⟩] false) Q fr h:=by
 intro G E a w hn C;refine wp_region_list (wpList_step fun K hK=>?_);have hc:c < G.n:=by rw[hn];simpa[HU] using hcn
 have hd:d < G.n:=by rw[hn];simpa[HU] using hdn
 obtain⟨r1,r2⟩:=C.oev hx (Zao (Zap hx rfl));have C1:=C.put hc r1 r2;have hr1:=r1;simp only[V.Rep,D.RepV,D.Rep,Hz,HA] at hr1;obtain⟨ad,cap,us,q1,_,_,_,_,q6⟩:=hr1;rw[Hb (by simp[Region.wanted])];unfold Oper.wp;simp only[execOp,Oper.upon];refine hK _ _ (wpList_step fun K' hK'=>?_);rw[Hb (by simp[Region.wanted])];unfold Oper.wp;have hev:(a.put (some c) (a.eval x)).eval (.tmp c)=a.eval x:=by
  show (a.put (some c) (a.eval x)).tmps.getD c undef=_;rw[ZfA (by rw[C.size];exact hc),Hb rfl]
 have hex:(execOp (a.put (some c) (a.eval x)).eval ⟨some d,.binOp .eql st (.tmp c) (.const (.slice none 0 0)) yt,ty,pos2,af2,none⟩).run P w=.ok (.value (.bool ad.isNone)) w:=by
  simp only[execOp,Sem.run_bind,hev];rw[q1];have e1:(eqGuard .eql st (.tmp c) (.const (.slice none 0 0)) (.slice ad xs.length cap) ((a.put (some c) (.slice ad xs.length cap)).eval (.const (.slice none 0 0)))).run P w=.ok () w:=by
   unfold eqGuard;rfl
  rw[e1];simp only[Result.andThen_ok];have e2:=ZoI (P:=P) hu ad xs.length cap w;show ((binOp .eql st (.slice ad xs.length cap) (.slice none 0 0)).run P w).andThen _=_;rw[e2];simp
 rw[hex];simp only[Oper.upon];refine hK' _ _ (wpList_nil ?_);have C2:∀ b:Bool,An G E ((d,B b)::(c,.d (.sl t sz xs))::fr) h ((a.put (some c) (a.eval x)).put (some d) (.bool b)) w:=fun b=>C1.put hd (by simp[V.Rep,D.RepV,D.Rep,Value.oneCell']) (by simp[V.keys])
 cases ad with
 | none =>
  have hnil:xs=[]:=by
   by_cases hne:xs=[]
   ·exact hne
   ·obtain⟨b,off,hb,_⟩:=q6 hne;cases hb
  exact⟨E,_,h,hT hnil,C2 true⟩
 | some ad=>exact⟨E,_,h,hF,C2 false⟩
end
end Go.Proofs.YtbpmepgnjanhnaaGreat
