import Derived.Test.YtbpmepgnjanhnaaGreatFoA
set_option linter.unusedVariables false
set_option linter.unusedSimpArgs false
set_option linter.unusedSectionVars false
set_option maxHeartbeats 4000000
set_option maxRecDepth 100000
namespace Go.Proofs.YtbpmepgnjanhnaaGreat
open Go.RowKit
section
variable {P:Program} {n:Nat}
def ZmD:Ob→Bool
 | .box ..=>true
 | .mp _=>true
 | _=>false
def ZDV (h0 h:Hp):Bool:=h.all fun p=>ZmD p.2 && (match Ah h0 p.1 with|some o=>ZmD o|none=>false)
def ZDW (φ:List (Nat×Nat)) (h:Hp):Bool:=h.all fun p=>Nat.beq (renK φ p.1) p.1
theorem ZuV {φ:List (Nat×Nat)} {h:Hp} (hk:ZDW φ h=true) {k:Nat} (hs:(Ah h k).isSome=true):renK φ k=k:=by
 obtain⟨o,ho⟩:=Option.isSome_iff_exists.1 hs;exact HR (List.all_eq_true.1 hk (k,o) (ZcK ho))
theorem ZAA {h:Hp} {k m:Nat} {o:Ob} (ho:Ah h k=some o) (hf:ZmD o=true):¬ verAny h k m:=by
 unfold verAny;rw[ho];cases o <;> simp_all [ZmD]
theorem ZAB {h:Hp} {k sz m:Nat} {o:Ob} (ho:Ah h k=some o) (hf:ZmD o=true):¬ verRow h k sz m:=by
 unfold verRow;rw[ho];cases o <;> simp_all [ZmD]
theorem ZxN {E0 E:Env} {h0 h:Hp} (hf:ZDV h0 h=true) (hb:∀ k,1000≤k→(Ah h k).isSome=true→E.blk k=E0.blk k):Hist E0 h0 E h:=fun k hk hs=>by
 obtain⟨o,ho⟩:=Option.isSome_iff_exists.1 hs;have:=List.all_eq_true.1 hf (k,o) (ZcK ho);simp only[Hr] at this;obtain⟨f1,f2⟩:=this;cases h0k:Ah h0 k with
 | none=>rw[h0k] at f2;cases f2
 | some o0 =>
  rw[h0k] at f2;exact⟨rfl,hb k hk hs,fun m hv=>(ZAA h0k f2 hv).elim,fun sz n hv=>(ZAB ho f1 hv).elim⟩
theorem HRep.outer {E:Env} {h:Hp} {o o':Bars} {w:World} (H:HRep E h o w) (ho:∀ t b,o' t b→o t b):HRep E h o' w:=by
 have T:Trans E h (bars E h o) w E h (bars E h o') w:=⟨fun _ _ _=>rfl,fun _ _ m hv=>⟨m,hv,Hg _,fun _=>rfl⟩,fun _ _ _ n hv=>⟨n,hv⟩,⟨fun t b _ hm=>⟨rfl,fun hx=>hm (hx.imp id (ho t b))⟩,Hg _⟩⟩
 exact⟨fun k ob hk=>(H.obs k ob hk).move T hk rfl rfl rfl (fun _ _=>rfl) (H.closed k _ hk) (H.closed k _ hk),H.apart,H.closed⟩
theorem ZDX {E:Env} {h':Hp} {M:Bars} {w:World} {v:V} {u:Value} (hk:v.keys=[]) (hr:V.Rep E [] M w v u):V.Rep E h' M w v u:=by
 have T:Trans E [] M w E h' M w:=⟨fun k hs=>by simp[Ah] at hs,fun k _ m hv=>(by unfold verAny at hv;simp[Ah] at hv),fun k hs=>by simp[Ah] at hs,⟨fun _ _ _ hm=>⟨rfl,hm⟩,Hg _⟩⟩
 exact V.Rep.move T (by rw[hk];simp) (by rw[hk];simp) hr
def EndH (P:Program) (r:V) (hE:Hp) (G:Ctx):Ending→World→Prop:=fun e w'=>∃ E' u,e=.returned u∧HRep E' hE G.o w'∧V.Rep E' hE (bars E' hE G.o) w' r u∧Ext G.S G.w0 w'∧Hist G.E0 G.h0 E' hE∧(∀ k b,Ai E' hE k b→G.S b∨G.w0.heap.size≤b)
def awTH (P:Program) (fn:Func) (r:V) (hE:Hp) (G:Ctx) (c:Code) (fr:Fr) (h:Hp):Prop:=∀ (E:Env) (a:Act) (w:World),An G E fr h a w→c.wp P (bodyPostD P fn (EndH P r hE G)) a w
variable {fn:Func} {r:V} {hE:Hp} {G:Ctx} {fr:Fr} {h:Hp}
theorem Zti {x y:Code} (hx:aw P G.n x (andThen (awTH P fn r hE G y) (fun _ _ _=>False)) fr h):awTH P fn r hE G (.seq x y) fr h:=fun E a w C=>by
 refine wp_seq (wp_mono (hx G E a w rfl C) fun e a' w' ⟨E',fr',g,hq,C'⟩=>?_);cases e with
 | normal=>exact hq E' a' w' C'
 | ret=>exact hq.elim
 | exit id=>exact hq.elim
 | goto l=>exact hq.elim
 | panic ch=>exact hq.elim
 | outgrown=>exact hq.elim
theorem Af.introH {f:FuncId} {c:Code} {args:List V} (hf:P.funcs[f]? = some fn) (hb:fn.body=some c) (hn:fn.ntmps=n) (ha:args.length≤n) (hnm:(fn.name == "runtime.NumGoroutine")=false) (hrk:r.keys=[])
  (hw:∀ G:Ctx,G.n=n→G.df=[]→G.h0=h→awTH P fn r hE G c (Zal 0 args) h):Af P f args h r hE:=by
 refine⟨⟨fn,hf,hnm,by rw[hb];rfl⟩,?_⟩;intro E w us o H hr hk ho hs;have h1:=calls_of_wp_defers hf hb (hw _ rfl rfl rfl E _ w (An.start hn ha H hr hk ho hs));refine h1.mono fun e w' ⟨E',u,h2,h3,h4,h5,h6,h7⟩=>⟨E',u,h2,h3,h4,by rw[hrk];simp,h5,h6,h7⟩
theorem ZmE {rid:Nat} {rest:Code} {d1:Nat} {fd:FuncId} {xs:List Operand} {cap:Array Operand} {o2:Op} {dst2:Option Tmp} {ty1 ty2:TypeId} {p1 p2:String} {af1 af2:Array Edge}
  (φ:List (Nat×Nat)) (hc:Hp) (frc:Fr) (ks:List Nat) (m m':FrameMode) (rs:List (Nat×Nat)) (hd hd':Hp) (hG:G.df=[]) (hrk:r.keys=[]) (hcap:cap.toList=xs) (hx:oevs fr xs (ptrs (ks.map (renK φ)))) (h1:xs.all ZaP=true) (hd1:Nat.blt d1 G.n=true) (hd2:dst2=none)
  (ho2:∀ (ρ:Operand→Value) (cs:Array Value) (w:World),ρ (.tmp d1)=.func (.func fd) #[] cs→(execOp ρ ⟨dst2,o2,ty2,p2,af2,none⟩).run P w=.ok (.defer { target:=.fn (.func fd) cs,args:=#[] }) w)
  (hok:FnOk P fd) (hlink:LinkH h φ hc) (hhigh:ZfJ hc=true) (hin:hpIn hc hc=true) (hinj:injB φ (hc.map Prod.fst)=true) (hfr:FrRen φ fr d1 frc) (hfi:frIn hc frc=true) (hks:Ztb hd ks=true) (hkc:Ztb hc ks=true)
  (hrs:ZnU hd rs=true) (hrs':ZnU hd' rs=true) (hdi:hpIn hd hd=true) (hm:settle m'=.returning) (hmr:m≠.run)
  (hD:ADefer P fd (ptrs ks) hd m m' hd') {vs:List V} (hres:Results P (ZgC rs) hd' fn.results.toList vs) (hco:Co hd' (resV vs) r) (hdi':hpIn hd' hd'=true)
  (hle:HLe hd' hE) (hEi:hpIn hE hE=true) (hflat:ZDV G.h0 hE=true) (hkeep:ZDW φ hE=true)
  (hrest:aw P G.n rest (DFin m (ZgC rs) hd) frc hc) :
  awTH P fn r hE G (.seq (.region rid #[⟨some d1,.makeFunc (.func fd) #[] cap,ty1,p1,af1,none⟩,⟨dst2,o2,ty2,p2,af2,none⟩] false) rest) fr h:=by
 subst hd2;intro E a w C
 let Ec:Env:=⟨fun k=>E.blk (renK φ k),fun k=>E.row (renK φ k),fun k=>E.fp (renK φ k)⟩
 have L:Link φ Ec hc E h:=⟨fun k hk=>by obtain⟨o,ho⟩:=Option.isSome_iff_exists.1 hk;rw[hlink.get ho,ho];rfl,fun _ _=>rfl,fun _ _=>rfl,fun _ _=>rfl⟩
 have hfoot:∀ b,Live Ec hc b→Live E h b:=fun b ⟨k,hk⟩=>⟨renK φ k,by rw[←L.Ai (ZbI hk)];exact hk⟩
 let oc:Bars:=fun t b=>¬ Live Ec hc b∧((∃ j,Ai E h j b)∨G.o t b)
 have hbars1:∀ t b,¬ bars E h G.o t b→¬ bars Ec hc oc t b:=fun t b hn hb=>by
  rcases hb with hb|⟨_,⟨j,hj⟩|hb⟩
  ·exact hn (.inl (hfoot b hb))
  ·exact hn (.inl ⟨j,hj⟩)
  ·exact hn (.inr hb)
 have hA1:Zeu false (bars E h G.o) (bars Ec hc oc):=⟨hbars1 false,fun _=>hbars1 true⟩
 have hinjc:∀ {k k':Nat},(Ah hc k).isSome=true→(Ah hc k').isSome=true→renK φ k=renK φ k'→k=k':=fun {k k'} h1 h2 e=>by
  obtain⟨o1,p1⟩:=Option.isSome_iff_exists.1 h1;obtain⟨o2,p2⟩:=Option.isSome_iff_exists.1 h2;exact Zfd hinj (List.mem_map.2 ⟨_,ZcK p1,rfl⟩) (List.mem_map.2 ⟨_,ZcK p2,rfl⟩) e
 have Hc:HRep Ec hc oc w:=by
  refine⟨fun k ob hk=>?_,fun k k' b h1 h2=>?_,fun k ob hk j hj=>?_⟩
  ·have hk':=hlink.get hk;have hr:=C.heap.obs _ _ hk';exact ObRep.unren L hA1 (by rw[hk];rfl) (Zc5 hin k _ hk) hr
  ·have k1:=ZbI h1;have k2:=ZbI h2;rw[L.Ai k1] at h1;rw[L.Ai k2] at h2;exact hinjc k1 k2 (C.heap.apart _ _ b h1 h2)
  ·exact Zc5 hin k ob hk j hj
 have hkey:∀ k∈ks,1000≤k∧(Ah hc k).isSome=true:=fun k hk=>by
  have:=List.all_eq_true.1 hkc k hk;simp only[Hr] at this;exact⟨Jb this.1,hasKey_spec.1 this.2⟩
 have hkeyd:∀ k∈ks,(Ah hd k).isSome=true:=fun k hk=>by
  have:=List.all_eq_true.1 hks k hk;simp only[Hr] at this;exact hasKey_spec.1 this.2
 obtain⟨hcv,_⟩:=Zdw C hx h1;have hcv':=ZkT hcv;have hcaps:xs.map a.eval=ks.map fun k=>.pointer (some ⟨Ec.blk k,0,none⟩):=by rw[hcv',H8];rfl
 let cs:Array Value:=(xs.map a.eval).toArray
 let a1:Act:=a.put (some d1) (.func (.func fd) #[] cs)
 have hs1:a1.tmps.size=G.n:=by simp[a1,Act.put,C.size]
 have hdn:d1 < a.tmps.size:=by rw[C.size];simpa[HT] using hd1
 let a2:Act:={ a1 with defers:=[{ target:=.fn (.func fd) cs,args:=#[] }] }
 let G2:Ctx:=⟨G.n,w,Live Ec hc,Ec,hc,oc,[{ target:=.fn (.func fd) cs,args:=#[] }]⟩
 have C2:An G2 Ec frc hc a2 w:=by
  refine⟨hs1,rfl,fun i=>?_,Hc,Zc4 hfi,Ext.refl _ _,fun k b hb=>.inl ⟨k,hb⟩,fun k hk hsm=>⟨hsm,rfl,fun m hm=>⟨m,hm,Hg _,fun _=>rfl⟩,fun sz n hv=>⟨n,hv⟩⟩,fun t b hb=>⟨?_,hb.1⟩,fun b hb=>⟨hb.1,hb.2.imp id (C.sub b)⟩⟩
  ·rcases hfr.get i with e|⟨hne,e⟩
   ·rw[e];simp only[V.Rep]
   ·have hf:=C.frame i;rw[e] at hf;show V.Rep Ec hc (bars Ec hc oc) w (fget frc i) (a1.tmps.getD i undef);rw[ZfG hdn,Ha hne];exact V.Rep.unren L hA1 (Zc4 hfi i) hf
  ·rcases hb.2 with ⟨j,hj⟩|ho
   ·exact C.heap.lt hj
   ·exact Gl (C.outer _ _ ho).1 C.ext.size
 have hoG:∀ t b,G.o t b→oc t b:=fun t b hb=>⟨fun hl=>by
  obtain⟨o1,o2⟩:=C.outer _ _ hb;obtain⟨k,hk⟩:=hfoot b hl;rcases C.fresh k b hk with q|q
  ·exact o2 q
  ·omega,.inr hb⟩
 refine wp_seq (wp_region_list ?_);have hev:(execOp a.eval ⟨some d1,.makeFunc (.func fd) #[] cap,ty1,p1,af1,none⟩).run P w=.ok (.value (.func (.func fd) #[] cs)) w:=by
  have:cap=xs.toArray:=by rw[←hcap]
  subst this;simp[execOp,Instr.makeFunc,cs]
 have hev2:=ho2 a1.eval cs w (by simp only[Act.eval,a1];rw[ZfG hdn,Hb rfl]);refine (?_:wpS P _ _ _ (wpList P _ _ _) a w);unfold wpS;rw[Hb (show Region.wanted _ _=true from rfl)];refine .inl ?_;unfold Oper.wp;rw[hev];refine (?_:wpS P _ _ _ (wpList P _ _ _) a1 w);unfold wpS;rw[Hb (show Region.wanted _ _=true from rfl)];refine .inl ?_;unfold Oper.wp;rw[hev2];have hdf:C.defers.trans hG=C.defers.trans hG:=rfl;have ha2:({ a1 with defers:={ target:=.fn (.func fd) cs,args:=#[] }::a1.defers }:Act)=a2:=by
  have:a1.defers=[]:=by show a.defers=[];rw[C.defers,hG]
  simp only[a2,this]
 show rest.wp P _ (({ a1 with defers:={ target:=.fn (.func fd) cs,args:=#[] }::a1.defers }:Act).put none undef) w;rw[ha2];refine wp_mono (hrest G2 Ec a2 w rfl C2) fun e a3 w3 ⟨E3,fr3,g3,hq,C3⟩=>?_
 have key:FLe fr3 (ZgC rs)→HLe g3 hd→Leaves P fn a3.tmps (EndH P r hE G) a3.defers m w3:=fun hf hh=>by
  have hfi3:frIn hd (ZgC rs)=true:=ZhJ hrs;have C4:=C3.weak hf hh (by rw[hfi3,hdi];rfl);rw[C3.defers];have hblk:∀ k∈ks,E3.blk k=Ec.blk k:=fun k hk=>(C4.keep k (hkey k hk).1 (hkeyd k hk)).2.1
  have hvals:xs.map a.eval=ks.map fun k=>.pointer (some ⟨E3.blk k,0,none⟩):=by
   rw[hcaps];exact GJ fun k hk=>by rw[hblk k hk]
  refine leaves_cons (f:=fd) (args:=cs) hmr ?_ ((hD E3 w3 _ oc C4.heap (by rw[hvals];exact ZkR ks) (by rw[ZkS];exact hkeyd) (fun t b hb=>?_) C4.sub).mono ?_)
  ·obtain⟨ff,q1,q2,q3⟩:=hok;have e1:¬ (ff.name="runtime.NumGoroutine"):=by simpa using q2
   have e3:¬ (ff.body=none):=fun e=>by rw[e] at q3;cases q3
   simp[invoke,callFunc,q1,e1,e3]
  ·obtain⟨o1,o2⟩:=C4.outer t b hb;refine⟨Gl o1 C4.ext.size,fun ⟨k,hk⟩=>?_⟩;rcases C4.fresh k b hk with q|q
   ·exact o2 q
   ·exact absurd o1 (by simpa using q)
  ·rintro e m4 w4 ⟨E4,v4,rfl,rfl,H4,hE4,hH4,hfr4⟩;show Leaves P fn a3.tmps (EndH P r hE G) [] (settle m4) w4;rw[hm]
   let a5:Act:={ a3 with defers:=G2.df }
   have hout:∀ t b,oc t b→b < w4.heap.size∧¬ Live E4 hd' b:=fun t b hb=>by
    obtain⟨o1,o2⟩:=C4.outer t b hb;refine⟨Gl o1 (Hq C4.ext.size hE4.size),fun ⟨k,hk⟩=>?_⟩;rcases hfr4 k b hk with ⟨j,hj⟩|q
    ·rcases C4.fresh j b hj with q|q
     ·exact o2 q
     ·exact absurd o1 (by simpa using q)
    ·have:=C4.ext.size;have:w.heap.size≤w3.heap.size:=this;have:b < w.heap.size:=o1;omega
   have C5:An ⟨G.n,w4,Live E4 hd',E4,hd',oc,G2.df⟩ E4 (ZgC rs) hd' a5 w4:=by
    refine⟨C3.size,rfl,fun i=>?_,H4,Zc4 (ZhJ hrs'),Ext.refl _ _,fun k b hb=>.inl ⟨k,hb⟩,fun k hk hsm=>⟨hsm,rfl,fun m hm=>⟨m,hm,Hg _,fun _=>rfl⟩,fun sz n hv=>⟨n,hv⟩⟩,hout,C4.sub⟩;rcases ZkQ hrs' i with e|⟨k,e,hk1,hk2⟩
    ·rw[e];simp only[V.Rep]
    ·have hf:=C4.frame i;rw[e] at hf ⊢;simp only[V.Rep] at hf ⊢;rw[hf,(hH4 k hk1 hk2).2.1]
   obtain⟨u,q1,q2,_⟩:=Zei C5 rfl hres;have hsub:∀ t b,bars E4 hE G.o t b→bars E4 hd' oc t b:=fun t b hb=>by
    rcases hb with ⟨k,hk⟩|hb
    ·exact .inl ⟨k,hle.Ai hk⟩
    ·exact .inr (hoG t b hb)
   refine⟨u,q1,E4,u,rfl,(H4.sub hle hEi).outer hoG,?_,?_,?_,?_⟩
   ·exact ZDX hrk (Zrz (M':=bars E4 hE G.o) hrk hsub (hco E4 oc w4 u H4 C4.sub q2))
   ·refine (C.ext.trans C3.ext (fun x hx hl=>?_)).trans hE4 (fun x hx hl=>?_)
    ·obtain⟨k,hk⟩:=hfoot x hx;rcases C.fresh k x hk with q|q
     ·exact q
     ·omega
    ·obtain⟨k,hk⟩:=hx;rcases C4.fresh k x hk with q|q
     ·obtain⟨k,hk⟩:=hfoot x q;rcases C.fresh k x hk with q|q
      ·exact q
      ·omega
     ·have:=C.ext.size;have:w.heap.size≤x:=q;omega
   ·refine ZxN hflat fun k hk hs=>?_
    have hs1:=hle.isSome hs;obtain⟨hs2,b1,_⟩:=hH4 k hk hs1;obtain⟨hs3,b2,_⟩:=C4.keep k hk hs2;have hkr:=ZuV hkeep hs;have hs4:(Ah h k).isSome=true:=by
     obtain⟨o,ho⟩:=Option.isSome_iff_exists.1 hs3;have:=hlink.get ho;rw[hkr] at this;rw[this];rfl
    obtain⟨_,b3,_⟩:=C.keep k hk hs4;rw[b1,b2,←b3];show E.blk (renK φ k)=E.blk k;rw[hkr]
   ·intro k b hb;rcases hfr4 k b (hle.Ai hb) with ⟨j,hj⟩|q
    ·rcases C4.fresh j b hj with q|q
     ·obtain⟨k,hk⟩:=hfoot b q;exact C.fresh k b hk
     ·have:=C.ext.size;have:w.heap.size≤b:=q;exact .inr (by omega)
    ·have:=C.ext.size;have:w.heap.size≤w3.heap.size:=C4.ext.size;exact .inr (by omega)
 cases e with
 | normal =>
  rcases hq with hv|⟨rfl,hf,hh⟩
  ·exact (C3.nev hv).elim
  ·exact key hf hh
 | ret =>
  rcases hq with hv|⟨rfl,hf,hh⟩
  ·exact (C3.nev hv).elim
  ·exact key hf hh
 | exit id=>exact hq.elim
 | goto l=>exact hq.elim
 | panic ch=>obtain⟨rfl,hf,hh⟩:=hq;exact key hf hh
 | outgrown=>exact hq.elim
end
section
variable {t:Bool} {g:Ac} {w:List Int}
theorem ZpU (h:(opF g w).code=0):ChOk g w∧opF g w=⟨0,0⟩∧cntF g w < Zae:=by
 unfold opF at h ⊢;by_cases hc:(chF g w).code=0
 ·rw[Hb hc] at h ⊢;by_cases hm:cntF g w=Zae
  ·rw[Hb hm] at h;cases h
  ·have:=Zfk g w Zae g.start.toNat 0 w.length;exact⟨(Zkj hc).1,by rw[Ha hm],by unfold cntF at hm ⊢;omega⟩
 ·rw[Ha hc] at h;exact absurd h hc
theorem ZiI {u:Bool} (h:(opF g w).code=0):Af Tryz.prog 44 [.d (Zbo t g),.d (ints u w)] [] (.tup [.ptr 25 0,.d (Zbu ⟨0,0⟩)]) (frH0 t g w 25 962 960 0):=by
 obtain⟨hC,hz,hlt⟩:=ZpU h;obtain⟨s1,s2⟩:=hC.small;have hnew:=Zhs (t:=t) (u:=u) hC;have hct:=Zdh hC.ok hC.cyc s1 s2;rw[Zfg hC.ok] at hct;have hne:¬ ((cntF g w:Nat):Int)=4611686018427387904:=by
  intro e;have:cntF g w=Zae:=by unfold Zae;omega
  omega
 generalize cntF g w=c at *;simp only[frH0];generalize Ak g w Zae=N at *;generalize nulB g=NB at *;refine Af.intro (n:=27) Tryz.func44 (hw:=?_);simp only[Zal];refine VA ?_;refine Zab [(62,962),(60,960)] (hA:=hnew) (hr:=?_);refine VA ?_;refine Zat [(1000,962),(1001,960)] (hA:=hct) (hr:=?_);refine VA ?_;exact fin
abbrev bxT (cs:List V):Ob:=.box 56 cs
abbrev bxE (cs:List V):Ob:=.box 31 cs
theorem ZDY {a b c e:D} {L:Nat}:ADefer Tryz.prog 79 (ptrs [1006,1007]) ([(1006,bxT [.d a,.d b]),(1007,bxE [.d c,.d e]),(1000,frBx t g 1001 L),(1001,cxBx g w (nulB g) 1002),(1002,.mp (ZbC (Ak g w Zae)))]) .returning .returning ([(1006,bxT [.d a,.d b]),(1007,bxE [.d c,.d e]),(1000,frBx t g 1001 L),(1001,cxBx g w (nulB g) 1002),(1002,.mp (ZbC (Ak g w Zae)))]):=by
 refine ADefer.intro (v:=.nilIface) (n:=18) (d1:=5) (d2:=2) Tryz.func79 rfl rfl (by simp[ptrs]) (fun ρ w=>rfl) (fun ρ w=>rfl) rfl rfl .nil rfl rfl ?_;simp only[ptrs,Hm,HH,Zal];refine VA ?_;refine ZnS (u:=.nilIface) (b:=true) rfl Zag rfl rfl Tryz.underlying20 ?_;refine VA ?_;exact fin
theorem ZDZ {L:Nat}:ADefer Tryz.prog 79 (ptrs [1006,1007]) ([(1006,bxT [I 0,.d (.raw (.slice none 0 0))]),(1007,bxE [I 0,I 0]),(1000,frBx t g 1001 L),(1001,cxBx g w (nulB g) 1002),(1002,.mp (ZbC (Ak g w Zae)))]) (.panicking [{ v:=Zil,recovered:=false }]) (.panicking [{ v:=Zil,recovered:=true }]) ([(1006,bxT [I 0,.d (.raw (.slice none 0 0))]),(1007,bxE [I 6,I (-1)]),(1000,frBx t g 1001 L),(1001,cxBx g w (nulB g) 1002),(1002,.mp (ZbC (Ak g w Zae)))]):=by
 refine ADefer.intro (v:=Zil) (n:=18) (d1:=5) (d2:=2) Tryz.func79 rfl rfl (by simp[ptrs]) (fun ρ w=>rfl) (fun ρ w=>rfl) rfl rfl (.pan _) rfl rfl ?_;simp only[ptrs,Hm,HH,Zal];refine VA ?_;refine ZnS (u:=Zil) (b:=false) rfl Zag rfl rfl Tryz.underlying20 ?_;refine VA ?_;refine Zs9 (us:=[]) rfl Zag rfl Tryz.underlying104 rfl rfl rfl ?_;refine VA ?_;exact fin
def atF (g:Ac) (w:List Int) (k:Nat):Tree×Zci×Nat:=match Zdf g (Ak g w Zae) w 400 g.start.toNat 0 w.length k 400 with
 | some (x,L)=>(x,⟨0,0⟩,L)
 | none=>(.mk 0 [],⟨6, -1⟩,0)
theorem ZrK {u:Bool} (hC:ChOk g w) {k L:Nat} (hk:k < cntF g w) (hM:cntF g w < Zae):Af Tryz.prog 45 [.ptr 1000 0,.d (ints u w),I (k:Nat)] (frH t g w L) (.tup [.d (ZbD false (atF g w k).1),.d (Zbu (atF g w k).2.1)]) (frH t g w (atF g w k).2.2):=by
 have hst:=hC.ok.start;have hst0:=hC.ok.start0;have hlen:=hC.len;have ht:=ZoT (t:=t) hC 400 (by omega) g.start.toNat 0 w.length k 400 (by omega) (Hi _) (Hg _) (Hg _) hk hM;unfold Zt4 at ht;rw[show ((g.start.toNat:Nat):Int)=g.start by omega] at ht;unfold atF;refine Af.introH (n:=23) Tryz.func45 rfl rfl (by simp) (by rfl) rfl ?_;rintro⟨n,w0,S,E0,h0,o,df⟩ hn hd hh;dsimp only at hn hd hh;subst hn;subst hd;subst hh;simp only[Zal];cases hres:Zdf g (Ak g w Zae) w 400 g.start.toNat 0 w.length k 400 with
 | none =>
  rw[hres] at ht;replace ht:APan Tryz.prog 80 [.ptr 1000 0,I g.start,I 0,I (w.length:Nat),I (k:Nat)] (frH t g w 400) Zil (frH t g w 0):=ht;dsimp only;refine Zti ?_;refine VA ?_;refine ZmE (d1:=8) (fd:=79) (xs:=[.tmp 6,.tmp 7]) [(1006,6),(1007,7)] ([(1006,bxT [I 0,.d (.raw (.slice none 0 0))]),(1007,bxE [I 0,I 0]),(1000,frBx t g 1001 L),(1001,cxBx g w (nulB g) 1002),(1002,.mp (ZbC (Ak g w Zae)))]) [(6,.ptr 1006 0),(7,.ptr 1007 0),(0,.ptr 1000 0),(1,.d (ints u w)),(2,I k)] [1006,1007] (.panicking [{ v:=Zil,recovered:=false }]) (.panicking [{ v:=Zil,recovered:=true }]) [(6,1006),(7,1007)] ([(1006,bxT [I 0,.d (.raw (.slice none 0 0))]),(1007,bxE [I 0,I 0]),(1000,frBx t g 1001 0),(1001,cxBx g w (nulB g) 1002),(1002,.mp (ZbC (Ak g w Zae)))]) ([(1006,bxT [I 0,.d (.raw (.slice none 0 0))]),(1007,bxE [I 6,I (-1)]),(1000,frBx t g 1001 0),(1001,cxBx g w (nulB g) 1002),(1002,.mp (ZbC (Ak g w Zae)))])
   rfl rfl rfl ⟨rfl,rfl,trivial⟩ rfl rfl rfl (fun ρ cs w h=>by simp[execOp,resolve,Deferred.ofValue,h]) ⟨_,Tryz.func79,rfl,rfl⟩ ⟨rfl,rfl,rfl,rfl,rfl,trivial⟩ rfl rfl rfl ⟨⟨rfl,rfl⟩,⟨rfl,rfl⟩,⟨rfl,rfl⟩,⟨rfl,rfl⟩,⟨rfl,rfl⟩,trivial⟩ rfl rfl rfl rfl rfl rfl rfl (by intro h;cases h) ZDZ
   (vs:=[.agg [I 0,.d (.raw (.slice none 0 0))],.agg [I 6,I (-1)]]) ⟨.aggT TY rfl rfl rfl rfl rfl,.aggT TY rfl rfl rfl rfl rfl,trivial⟩ (Co.tup ⟨Co.agg ⟨Co.refl _,Co.nil false 2,trivial⟩,Co.agg (Cos.refl _),trivial⟩) rfl ⟨Ap.of rfl,Ap.of rfl,Ap.of rfl,trivial⟩ rfl rfl rfl ?_
  refine VA ?_;refine Zea [(1000,1000),(1001,1001),(1002,1002)] [(6,.ptr 1006 0),(7,.ptr 1007 0)] [(1006,some (bxT [I 0,.d (.raw (.slice none 0 0))])),(1007,some (bxE [I 0,I 0]))] (hpn:=?_) (hA:=ht);exact (fun fr' h' h1 h2=>⟨rfl,⟨VLe.of (h1 _ HS),VLe.of (h1 _ (HK _ HS)),trivial⟩,⟨Ap.of (h2 _ HS),Ap.of (h2 _ (HK _ HS)),Ap.of rfl,Ap.of rfl,Ap.of rfl,trivial⟩⟩)
 | some y =>
  obtain⟨x,L'⟩:=y;rw[hres] at ht;replace ht:Af Tryz.prog 80 [.ptr 1000 0,I g.start,I 0,I (w.length:Nat),I (k:Nat)] (frH t g w 400) (.d (ZbD false x)) (frH t g w L'):=ht;dsimp only;refine Zti ?_;refine VA ?_;refine ZmE (d1:=8) (fd:=79) (xs:=[.tmp 6,.tmp 7]) [(1006,6),(1007,7)] ([(1006,bxT [I 0,.d (.raw (.slice none 0 0))]),(1007,bxE [I 0,I 0]),(1000,frBx t g 1001 L),(1001,cxBx g w (nulB g) 1002),(1002,.mp (ZbC (Ak g w Zae)))]) [(6,.ptr 1006 0),(7,.ptr 1007 0),(0,.ptr 1000 0),(1,.d (ints u w)),(2,I k)] [1006,1007] .returning .returning [(6,1006),(7,1007)] ([(1006,bxT [.d (iD x.rule),.d (Zao false x.Ab)]),(1007,bxE [I 0,I 0]),(1000,frBx t g 1001 L'),(1001,cxBx g w (nulB g) 1002),(1002,.mp (ZbC (Ak g w Zae)))]) ([(1006,bxT [.d (iD x.rule),.d (Zao false x.Ab)]),(1007,bxE [I 0,I 0]),(1000,frBx t g 1001 L'),(1001,cxBx g w (nulB g) 1002),(1002,.mp (ZbC (Ak g w Zae)))])
   rfl rfl rfl ⟨rfl,rfl,trivial⟩ rfl rfl rfl (fun ρ cs w h=>by simp[execOp,resolve,Deferred.ofValue,h]) ⟨_,Tryz.func79,rfl,rfl⟩ ⟨rfl,rfl,rfl,rfl,rfl,trivial⟩ rfl rfl rfl ⟨⟨rfl,rfl⟩,⟨rfl,rfl⟩,⟨rfl,rfl⟩,⟨rfl,rfl⟩,⟨rfl,rfl⟩,trivial⟩ rfl rfl rfl rfl rfl rfl rfl (by intro h;cases h) ZDY
   (vs:=[.agg [.d (iD x.rule),.d (Zao false x.Ab)],.agg [I 0,I 0]]) ⟨.aggT TY rfl rfl rfl rfl rfl,.aggT TY rfl rfl rfl rfl rfl,trivial⟩ (Co.tup ⟨Co.agg (Cos.refl _),Co.agg (Cos.refl _),trivial⟩) rfl ⟨Ap.of rfl,Ap.of rfl,Ap.of rfl,trivial⟩ rfl rfl rfl ?_
  refine VA ?_;refine Zab [(1000,1000),(1001,1001),(1002,1002)] (hA:=ht) (hr:=?_);refine VA ?_;exact Or.inr ⟨rfl,⟨VLe.refl _,VLe.refl _,trivial⟩,⟨Ap.of rfl,Ap.of rfl,Ap.of rfl,Ap.of rfl,Ap.of rfl,trivial⟩⟩
end
section
variable {t:Bool} {g:Ac} {w:List Int}
end
section
variable {t:Bool} {g:Ac} {w:List Int}
def ZdF (g:Ac) (w:List Int):Nat→Nat→List Tree→List Tree×Zci
 | 0,_,acc=>(acc,⟨0,0⟩)
 | n+1,k,acc=>if (atF g w k).2.1.code=0 then ZdF g w n (k+1) (acc++[(atF g w k).1]) else ([],(atF g w k).2.1)
def ZaL (g:Ac) (w:List Int):List Tree×Zci:=if (opF g w).code=0 then (if 200 < cntF g w then ([],⟨6, -1⟩) else ZdF g w (cntF g w) 0 []) else ([],opF g w)
theorem ZuW {u:Bool} (hc:(opF g w).code=0) (hm:200 < cntF g w):Af Tryz.prog 18 [.d (Zbo t g),.d (ints u w)] [] (.tup [.d (Zao false (ZaL g w).1),.d (Zbu (ZaL g w).2)]) []:=by
 have ho:=ZiI (t:=t) (u:=u) hc;obtain⟨hC,hz,hlt⟩:=ZpU hc;obtain⟨s1,s2⟩:=hC.small;have hct:=Zdh hC.ok hC.cyc s1 s2;rw[Zfg hC.ok] at hct;have hat:=fun (L kn:Nat) (h:kn < cntF g w)=>ZrK (t:=t) (u:=u) (L:=L) hC h hlt
 clear hlt;rw[show ZaL g w=([],⟨6, -1⟩) by unfold ZaL;rw[Hb hc,Hb hm]];clear hat;generalize cntF g w=c at *;simp only[frH0] at ho;generalize Ak g w Zae=N at *;generalize nulB g=NB at *;have hm':(200:Int) < (c:Int):=by omega
 refine Af.intro (n:=55) Tryz.func18 (hw:=?_);simp only[Zal];refine VA ?_;refine Zab [(25,925),(962,962),(960,960)] (hA:=ho) (hr:=?_);refine VA ?_;refine Zat [(1000,962),(1001,960)] (hA:=hct) (hr:=?_);refine VA ?_;exact fin
theorem ZuX {u:Bool} (hf:g.fit) (hw:w.length≤100000000) (hc:¬ (opF g w).code=0):Af Tryz.prog 18 [.d (Zbo t g),.d (ints u w)] [] (.tup [.d (Zao false (ZaL g w).1),.d (Zbu (ZaL g w).2)]) []:=by
 rw[show ZaL g w=([],opF g w) by unfold ZaL;rw[Ha hc]];have ho:=Zt6 (t:=t) (u:=u) hf hw hc;generalize opF g w=F at *;obtain⟨cc,ca⟩:=F;dsimp only at hc;refine Af.intro (n:=55) Tryz.func18 (hw:=?_);simp only[Zal];refine VA ?_;refine Zab [] (hA:=ho) (hr:=?_);refine VA ?_;exact fin
theorem ZxO {u:Bool} (hc:(opF g w).code=0) (hm:¬ 200 < cntF g w):Af Tryz.prog 18 [.d (Zbo t g),.d (ints u w)] [] (.tup [.d (Zao false (ZaL g w).1),.d (Zbu (ZaL g w).2)]) []:=by
 have ho:=ZiI (t:=t) (u:=u) hc;obtain⟨hC,hz,hlt⟩:=ZpU hc;obtain⟨s1,s2⟩:=hC.small;have hct:=Zdh hC.ok hC.cyc s1 s2;rw[Zfg hC.ok] at hct;have hat:=fun (L kn:Nat) (h:kn < cntF g w)=>ZrK (t:=t) (u:=u) (L:=L) hC h hlt
 clear hlt;have hres:ZaL g w=ZdF g w (cntF g w) 0 []:=by unfold ZaL;rw[Hb hc,Ha hm]
 generalize hRes:ZaL g w=RS at *;obtain⟨rl,rf⟩:=RS;have hm':¬ (200:Int) < (cntF g w:Int):=by omega
 have hrange:∀ k,k < cntF g w→∃ x f L',atF g w k=(x,f,L'):=fun k _=>⟨_,_,_,rfl⟩
 simp only[frH0,frH] at ho hat;generalize hcc:cntF g w=c at *;generalize Ak g w Zae=N at *;generalize nulB g=NB at *;refine Af.intro (n:=55) Tryz.func18 (hw:=?_);simp only[Zal];refine VA ?_;refine Zab [(25,925),(962,962),(960,960)] (hA:=ho) (hr:=?_);refine VA ?_;refine Zat [(1000,962),(1001,960)] (hA:=hct) (hr:=?_);refine VA ?_;refine Zat [(1000,962),(1001,960)] (hA:=hct) (hr:=?_);refine VA ?_;refine ZbB 8 900 56 2 rfl rfl rfl ?_;refine Zak (X:=Nat×List Tree×Nat) (fun y=>y.1≤c∧y.2.1.length=y.1∧(rl,rf)=ZdF g w (c - y.1) y.1 y.2.1) (fun y=>[(34,I y.1),(33,I c),(8,.own 900 y.2.1.length),(6,.ptr 925 0),(5,.ptr 5 0),(1,.d (ints u w))]) (fun y=>[(900,.row 56 2 (y.2.1.map (Zbb false))),(5,.box 31 [I 0,I 0]),(925,frBx t g 962 y.2.2),(962,cxBx g w NB 960),(960,.mp (ZbC N))]) (fun y=>c - y.1) (0,[],0) ⟨Hi _,rfl,by rw[Ji];exact hres⟩ ?_;rintro⟨k,acc,L⟩ ⟨h1,h2,h3⟩;dsimp only at h1 h2 h3 ⊢;by_cases hlt:k < c
 ·have ha:=hat L k hlt;obtain⟨x,⟨fc,fa⟩,L',e⟩:=hrange k hlt;rw[show c - k=(c - (k+1))+1 by omega,ZdF] at h3;rw[e] at ha h3;dsimp only at ha h3;have ec:acc.map (Zbb false)++[.agg [iD x.rule,Zao false x.Ab]]=(acc++[x]).map (Zbb false):=by rw[Ho,Hm,HH,Zgq]
  by_cases hz0:fc=0
  ·rw[Hb hz0] at h3;clear hat;refine VA ?_;refine Zab [(1000,925),(1001,962),(1002,960)] (hA:=ha) (hr:=?_);refine VA ?_;rw[ec];exact Zad (k+1,acc++[x],L') (a:=⟨by omega,by simp[h2],h3⟩) (b:=by dsimp only;omega)
  ·rw[Ha hz0] at h3;cases h3;clear hat;refine VA ?_;refine Zab [(1000,925),(1001,962),(1002,960)] (hA:=ha) (hr:=?_);refine VA ?_;exact fin
 ·obtain rfl:k=c:=by omega
  rw[Gg,ZdF] at h3;cases h3;clear hat;refine Zaz 900 rfl ?_;refine VA ?_;exact fin
theorem ZpV {u:Bool} (hf:g.fit) (hw:w.length≤100000000):Af Tryz.prog 18 [.d (Zbo t g),.d (ints u w)] [] (.tup [.d (Zao false (ZaL g w).1),.d (Zbu (ZaL g w).2)]) []:=by
 by_cases hc:(opF g w).code=0
 ·by_cases hm:200 < cntF g w
  ·exact ZuW hc hm
  ·exact ZxO hc hm
 ·exact ZuX hf hw hc
end
abbrev Zn3:=Nat→Nat→Nat→List Tree
def lenC (L:Zn3):Cube:=fun v i j=>(L v i j).length
def symL (L:Zn3) (w:List Int) (s:Int) (i m:Nat) (K:List (List Tree)):List (List Tree):=if 0≤s then (L s.toNat i m).flatMap fun t=>K.map (t::·) else if m=i+1∧w[i]? = some (-1 - s) then K else []
def seqL (L:Zn3) (w:List Int):List Int→Nat→Nat→List (List Tree)
 | [],i,j=>if i=j then [[]] else []
 | s::r,i,j=>(List.range (j+1)).flatMap fun m=>if i≤m then symL L w s i m (seqL L w r m j) else []
def ZdM (g:Ac) (w:List Int):Nat→Zn3
 | 0=>fun _ _ _=>[]
 | H+1=>fun v i j=>(List.range g.Aa.length).flatMap fun r=>match g.Aa[r]? with
  | some x=>if x.left=(v:Int) then (seqL (ZdM g w H) w x.right i j).map (Tree.mk (r:Int)) else []
  | none=>[]
theorem ZgX {α:Type} (f:Nat→List α):∀ n,((List.range n).flatMap f).length=Al n fun m=>(f m).length
 | 0=>rfl
 | n+1=>by
  rw[Gq,JG,Hk,ZgX f n];simp[Al]
theorem ZhL {α β:Type} (f:α→List β) (c:Nat):∀ l:List α,(∀ a∈l,(f a).length=c)→(l.flatMap f).length=l.length * c
 | [],_=>by simp
 | a::l,h=>by
  rw[HO,Hk,ZhL f c l (fun b hb=>h b (by simp[hb])),h a (by simp),Hl,Ga];omega
theorem ZAC (L:Zn3) (w:List Int) (s:Int) (i m:Nat) (K:List (List Tree)):(symL L w s i m K).length=symN (lenC L) w s i m * K.length:=by
 unfold symL symN;split
 ·rw[ZhL _ K.length _ (fun a _=>by simp)];rfl
 ·split
  ·rw[Nat.one_mul]
  ·simp
theorem Ztj (L:Zn3) (w:List Int):∀ (r:List Int) (i j:Nat),(seqL L w r i j).length=wcn (lenC L) w r i j
 | [],i,j=>by rw[seqL,wcn];split <;> rfl
 | s::r,i,j=>by
  rw[seqL,wcn,ZgX];refine Ziv fun m _=>?_
  split
  ·rw[ZAC,Ztj L w r m j]
  ·rfl
theorem ZuY (g:Ac) (w:List Int) (H v i j:Nat):(ZdM g w (H+1) v i j).length=Al g.Aa.length (fR g (lenC (ZdM g w H)) w v i j):=by
 rw[ZdM,ZgX];refine Ziv fun r _=>?_
 unfold fR;cases g.Aa[r]? with
 | none=>rfl
 | some x =>
  dsimp only;split
  ·rw[Hh,Ztj]
  ·rfl
theorem ZCC {M a b c d:Nat} (h1:min M a=min M c) (h2:min M b=min M d):min M (a * b)=min M (c * d):=by
 rw[←Zkm,h1,Zkm,←Zht,h2,Zht]
theorem ZxP {M:Nat} {N N':Cube} {w:List Int} {V:Int} {j:Nat} (h:∀ v i m:Nat,(v:Int) < V→i≤m→m≤j→min M (N v i m)=min M (N' v i m)):∀ (r:List Int) (i:Nat),(∀ s∈r,s < V)→min M (wcn N w r i j)=min M (wcn N' w r i j)
 | [],i,_=>rfl
 | s::r,i,hs=>by
  rw[wcn,wcn];refine Znq fun m hm=>?_
  split
  ·rename_i him;refine ZCC ?_ (ZxP h r m (fun x hx=>hs x (by simp[hx])));unfold symN;split
   ·have:=hs s (by simp);exact h _ _ _ (by omega) him (by omega)
   ·rfl
  ·rfl
theorem ZgY {g:Ac} (hg:g.ok) {w:List Int} {M:Nat}:∀ (k v i j:Nat),(v:Int) < g.vars→i≤j→j≤w.length→rnds g w M k v i j=min M (ZdM g w k v i j).length
 | 0,v,i,j,_,_,_=>by show 0=_;simp[ZdM]
 | k+1,v,i,j,hv,hij,hj=>by
  show rnd g w M (rnds g w M k) v i j=_;unfold rnd;rw[Hb ⟨hv,hij,hj⟩,ZuY,Zs5];refine Znq fun r hr=>?_
  unfold fR;rw[Hj hr];dsimp only;split
  ·refine ZxP (V:=g.vars) (fun u a b hu hab hb=>?_) _ _ (fun s hs=>hg.hi _ (He hr) s hs);rw[ZgY hg k u a b hu hab (by omega)];show min M (min M _)=_;unfold lenC;omega
  ·rfl
variable {g:Ac} {w:List Int}
def IsT (g:Ac) (w:List Int) (v i j:Nat) (x:Tree):Prop:=fits g x (v:Int)=true∧Zbm g x=seg w i j
def IsR (g:Ac) (w:List Int) (r:List Int) (i j:Nat) (l:List Tree):Prop:=(Ab r).length=l.length∧fitss g l (Ab r)=true∧wordL g r l=seg w i j
theorem ZxQ {i j:Nat} (hij:i≤j) (hj:j≤w.length) {l:List Tree}:IsR g w [] i j l↔l=[]∧i=j:=by
 constructor
 ·rintro⟨h1,h2,h3⟩;rw[Zba] at h3;have hl:=Hz List.length h3;rw[ZkO hij hj] at hl;simp only[HC] at hl;exact⟨HW h1.symm,by omega⟩
 ·rintro⟨rfl,rfl⟩;exact⟨rfl,by rw[fitss.eq_def],by rw[Zba,Zs3]⟩
theorem Ztk {s:Int} {r:List Int} {i j:Nat} {l:List Tree} (hs:s < 0) (hij:i≤j) (hj:j≤w.length):IsR g w (s::r) i j l↔i+1≤j∧w[i]? = some (-1 - s)∧IsR g w r (i+1) j l:=by
 unfold IsR;rw[ZcX hs,Zbh hs];constructor
 ·rintro⟨h1,h2,h3⟩;obtain⟨k1,k2,k3⟩:=ZpK (a:=[-1 - s]) (b:=wordL g r l) h3 hij hj;simp only[Hl,HC,HD] at k1 k2 k3;have hi:i < w.length:=by omega
  refine⟨k1,?_,h1,h2,k3⟩;rw[Hj hi];unfold seg at k2;rw[show i+1 - i=1 by omega,Hw hi] at k2;simp only[G7,Jg,Hy,HB] at k2;rw[k2]
 ·rintro⟨h1,h2,h3,h4,h5⟩;exact⟨h3,h4,by rw[h5,Zs4 h1 h2]⟩
theorem ZxR {s:Nat} {r:List Int} {i j:Nat} {l:List Tree} (hij:i≤j) (hj:j≤w.length):IsR g w ((s:Int)::r) i j l↔∃ m x k,l=x::k∧i≤m∧m≤j∧IsT g w s i m x∧IsR g w r m j k:=by
 have hs:¬ (s:Int) < 0:=by omega
 unfold IsR IsT;rw[ZbG hs];constructor
 ·rintro⟨h1,h2,h3⟩;cases l with
  | nil=>cases h1
  | cons x k =>
   rw[Za1 hs] at h3;simp only[Hl,Nat.add_right_cancel_iff] at h1;rw[fitss,Hr] at h2;obtain⟨k1,k2,k3⟩:=ZpK h3 hij hj;exact⟨_,x,k,rfl,by omega,k1,⟨h2.1,k2⟩,h1,h2.2,k3⟩
 ·rintro⟨m,x,k,rfl,h1,h2,⟨h3,h4⟩,h5,h6,h7⟩;refine⟨by simp[h5],by rw[fitss,h3,h6];rfl,?_⟩;rw[Za1 hs,h4,h7,ZnP h1 h2]
theorem isT_iff {v i j:Nat} {x:Tree}:IsT g w v i j x↔∃ r,∃ h:r < g.Aa.length,x.rule=(r:Int)∧g.Aa[r].left=(v:Int)∧IsR g w g.Aa[r].right i j x.Ab:=by
 constructor
 ·rintro⟨h1,h2⟩;obtain⟨r,hr,e1,e2,e3,e4,e5⟩:=ZaR h1;exact⟨r,hr,e1,e2,e3,e4,by rw[←e5,h2]⟩
 ·rintro⟨r,hr,e1,e2,e3,e4,e5⟩;refine⟨?_,?_⟩
  ·rw[Zf0,e1,Hb (by omega),Hn,Hj hr];simp[e2,e3,e4]
  ·rw[Zgo,e1,Hn,Hj hr];exact e5
theorem symL_mem {L:Zn3} {s:Int} {i m:Nat} {K:List (List Tree)} {l:List Tree}:l∈symL L w s i m K↔(∃ sn:Nat,s=(sn:Int)∧∃ t k,t∈L sn i m∧k∈K∧l=t::k)∨(s < 0∧m=i+1∧w[i]? = some (-1 - s)∧l∈K):=by
 unfold symL;by_cases h:0≤s
 ·rw[Hb h];obtain⟨sn,rfl⟩:∃ sn:Nat,s=(sn:Int):=⟨s.toNat,by omega⟩
  simp only[GY,Gv,Hn];constructor
  ·rintro⟨t,ht,k,hk,rfl⟩;exact .inl ⟨sn,rfl,t,k,ht,hk,rfl⟩
  ·rintro (⟨sn',e,t,k,ht,hk,rfl⟩|⟨h1,_⟩)
   ·obtain rfl:sn=sn':=(by omega);exact⟨t,ht,k,hk,rfl⟩
   ·omega
 ·rw[Ha h];by_cases h2:m=i+1∧w[i]? = some (-1 - s)
  ·rw[Hb h2];constructor
   ·intro hl;exact .inr ⟨by omega,h2.1,h2.2,hl⟩
   ·rintro (⟨sn,e,_⟩|⟨_,_,_,hl⟩)
    ·omega
    ·exact hl
  ·rw[Ha h2];constructor
   ·intro hl;cases hl
   ·rintro (⟨sn,e,_⟩|⟨_,h3,h4,_⟩)
    ·omega
    ·exact absurd ⟨h3,h4⟩ h2
theorem ZhM {L:Zn3} {j:Nat} (hj:j≤w.length) {P:Tree→Prop} (hL:∀ v i m x,i≤m→m≤j→P x→(x∈L v i m↔IsT g w v i m x)):∀ (r:List Int) (i:Nat) (l:List Tree),(∀ x∈l,P x)→i≤j→(l∈seqL L w r i j↔IsR g w r i j l)
 | [],i,l,_,hij=>by
  rw[ZxQ hij hj,seqL];by_cases h:i=j
  ·rw[Hb h];simp[h]
  ·rw[Ha h];simp[h]
 | s::r,i,l,hP,hij=>by
  rw[seqL];simp only[GY,G4];by_cases hs:s < 0
  ·rw[Ztk hs hij hj];constructor
   ·rintro⟨m,hm,hl⟩;split at hl
    ·rcases symL_mem.1 hl with ⟨sn,e,_⟩|⟨_,e1,e2,e3⟩
     ·omega
     ·subst e1;exact⟨by omega,e2,(ZhM hj hL r (i+1) l hP (by omega)).1 e3⟩
    ·cases hl
   ·rintro⟨h1,h2,h3⟩;refine⟨i+1,by omega,?_⟩;rw[Hb (by omega)];exact symL_mem.2 (.inr ⟨hs,rfl,h2,(ZhM hj hL r (i+1) l hP h1).2 h3⟩)
  ·obtain⟨sn,rfl⟩:∃ sn:Nat,s=(sn:Int):=⟨s.toNat,by omega⟩
   rw[ZxR hij hj];constructor
   ·rintro⟨m,hm,hl⟩;split at hl
    ·rename_i him;rcases symL_mem.1 hl with ⟨sn',e,t,k,ht,hk,rfl⟩|⟨h1,_⟩
     ·obtain rfl:sn=sn':=(by omega);exact⟨m,t,k,rfl,him,by omega,(hL sn i m t him (by omega) (hP t (by simp))).1 ht,(ZhM hj hL r m k (fun x hx=>hP x (by simp[hx])) (by omega)).1 hk⟩
     ·omega
    ·cases hl
   ·rintro⟨m,x,k,rfl,h1,h2,h3,h4⟩;refine⟨m,by omega,?_⟩;rw[Hb h1];exact symL_mem.2 (.inl ⟨sn,rfl,x,k,(hL sn i m x h1 h2 (hP x (by simp))).2 h3,(ZhM hj hL r m k (fun x hx=>hP x (by simp[hx])) h2).2 h4,rfl⟩)
theorem treesH_step {H v i j:Nat} {x:Tree}:x∈ZdM g w (H+1) v i j↔∃ r,∃ h:r < g.Aa.length,x.rule=(r:Int)∧g.Aa[r].left=(v:Int)∧x.Ab∈seqL (ZdM g w H) w g.Aa[r].right i j:=by
 rw[ZdM];simp only[GY,G4];constructor
 ·rintro⟨r,hr,hx⟩;rw[Hj hr] at hx;dsimp only at hx;split at hx
  ·rename_i e;obtain⟨l,hl,rfl⟩:=List.mem_map.1 hx;exact⟨r,hr,rfl,e,hl⟩
  ·cases hx
 ·rintro⟨r,hr,e1,e2,e3⟩;refine⟨r,hr,?_⟩;rw[Hj hr];dsimp only;rw[Hb e2];exact List.mem_map.2 ⟨x.Ab,e3,by rw[←e1];exact (Tree.eta x).symm⟩
theorem ZeB:∀ (H v i j:Nat) (x:Tree),i≤j→j≤w.length→x∈ZdM g w H v i j→IsT g w v i j x
 | 0,_,_,_,_,_,_,h=>by cases h
 | H+1,v,i,j,x,hij,hj,h=>by
  obtain⟨r,hr,e1,e2,e3⟩:=treesH_step.1 h;refine isT_iff.2 ⟨r,hr,e1,e2,?_⟩;clear h e1 e2;have hs:=fun v i m x h1 h2=>ZeB H v i m x h1 h2
  have key:∀ (rs:List Int) (i:Nat) (l:List Tree),i≤j→l∈seqL (ZdM g w H) w rs i j→IsR g w rs i j l:=by
   intro rs
   induction rs with
   | nil =>
    intro i l hij h;rw[seqL] at h;split at h
    ·rename_i e;rw[ZxQ hij hj];simpa[e] using h
    ·cases h
   | cons s rs ih =>
    intro i l hij h;rw[seqL] at h;simp only[GY,G4] at h;obtain⟨m,hm,hl⟩:=h;split at hl
    ·rename_i him;rcases symL_mem.1 hl with ⟨sn,rfl,t,k,ht,hk,rfl⟩|⟨h1,e1,e2,e3⟩
     ·exact (ZxR hij hj).2 ⟨m,t,k,rfl,him,by omega,hs sn i m t him (by omega) ht,ih m k (by omega) hk⟩
     ·subst e1;exact (Ztk h1 hij hj).2 ⟨by omega,e2,ih _ l (by omega) e3⟩
    ·cases hl
  exact key _ _ _ hij e3
theorem ZmF:∀ (H v i j:Nat) (x:Tree),i≤j→j≤w.length→cnt x≤H→IsT g w v i j x→x∈ZdM g w H v i j
 | 0,_,_,_,x,_,_,h,_=>by have:=ZfZ x;omega
 | H+1,v,i,j,x,hij,hj,hc,h=>by
  obtain⟨r,hr,e1,e2,e3⟩:=isT_iff.1 h;refine treesH_step.2 ⟨r,hr,e1,e2,?_⟩;rw[Zcz] at hc;exact (ZhM hj (P:=fun t=>cnt t≤H) (fun v i m t h1 h2 h3=>⟨fun q=>ZeB H v i m t h1 (by omega) q,fun q=>ZmF H v i m t h1 (by omega) h3 q⟩) _ i x.Ab (fun t ht=>by have:=Zbq ht;omega) hij).2 e3
theorem ZxS {v i j:Nat} {x:Tree} (h:IsT g w v i j x) (hij:i≤j) (hj:j≤w.length):(Zbm g x).length=j - i:=by rw[h.2,ZkO hij hj]
theorem ZmG {L:Zn3} {j:Nat} (hj:j≤w.length) (hS:∀ v i m x,i≤m→m≤j→x∈L v i m→IsT g w v i m x) (hN:∀ v i m,i≤m→m≤j→(L v i m).Nodup):∀ (r:List Int) (i:Nat),i≤j→(seqL L w r i j).Nodup
 | [],i,_=>by rw[seqL];split <;> simp
 | s::r,i,hij=>by
  rw[seqL];unfold List.Nodup;rw[GZ];refine⟨fun m hm=>?_,?_⟩
  ·have hm:=List.mem_range.1 hm;by_cases him:i≤m
   ·rw[Hb him];have ih:=ZmG hj hS hN r m (by omega);unfold symL;split
    ·rw[GZ];refine⟨fun t _=>?_,?_⟩
     ·rw[Gd];exact ih.imp fun h q=>h (HX q).2
     ·refine (hN _ i m him (by omega)).imp fun h=>?_
      intro x hx y hy;obtain⟨k,_,rfl⟩:=List.mem_map.1 hx;obtain⟨k',_,rfl⟩:=List.mem_map.1 hy;exact fun q=>h (HX q).1
    ·split
     ·exact ih
     ·exact H7
   ·rw[Ha him];exact H7
  ·refine (JS).imp_of_mem fun {a b} ha hb hab=>?_
   have ha:=List.mem_range.1 ha;have hb:=List.mem_range.1 hb;intro x hx y hy hxy;subst hxy;split at hx
   ·split at hy
    ·rename_i h1 h2;rcases symL_mem.1 hx with ⟨sn,rfl,t,k,ht,hk,rfl⟩|⟨q1,e1,e2,e3⟩
     ·rcases symL_mem.1 hy with ⟨sn',e,t',k',ht',hk',e'⟩|⟨q1,_⟩
      ·obtain rfl:sn=sn':=(by omega);obtain⟨rfl,rfl⟩:=HX e';have l1:=ZxS (hS sn i a t h1 (by omega) ht) h1 (by omega);have l2:=ZxS (hS sn i b t h2 (by omega) ht') h2 (by omega);omega
      ·omega
     ·rcases symL_mem.1 hy with ⟨sn',e,_⟩|⟨_,e1',_⟩
      ·omega
      ·omega
    ·cases hy
   ·cases hx
theorem Zjc:∀ (H v i j:Nat),i≤j→j≤w.length→(ZdM g w H v i j).Nodup
 | 0,_,_,_,_,_=>H7
 | H+1,v,i,j,hij,hj=>by
  rw[ZdM];unfold List.Nodup;rw[GZ];refine⟨fun r hr=>?_,?_⟩
  ·have hr:=List.mem_range.1 hr;rw[Hj hr];dsimp only;split
   ·rw[Gd];have:=ZmG hj (fun v i m x h1 h2 h3=>ZeB H v i m x h1 (by omega) h3) (fun v i m h1 h2=>Zjc H v i m h1 (by omega)) g.Aa[r].right i hij;exact this.imp fun h q=>h (Tree.mk.inj q).2
   ·exact H7
  ·refine (JS).imp_of_mem fun {a b} ha hb hab=>?_
   have ha:=List.mem_range.1 ha;have hb:=List.mem_range.1 hb;rw[Hj ha,Hj hb];dsimp only;intro x hx y hy hxy;subst hxy;split at hx
   ·split at hy
    ·obtain⟨k,_,rfl⟩:=List.mem_map.1 hx;obtain⟨k',_,e⟩:=List.mem_map.1 hy;have:=(Tree.mk.inj e).1;omega
    ·cases hy
   ·cases hx
theorem ZhN {α:Type} [DecidableEq α]:∀ {l m:List α},l.Nodup→(∀ x∈l,x∈m)→l.length≤m.length
 | [],_,_,_=>by simp
 | x::l,m,h,hs=>by
  obtain⟨h1,h2⟩:=List.pairwise_cons.1 h;have:=ZhN (m:=m.erase x) h2 (fun y hy=>(List.mem_erase_of_ne (fun e=>h1 y hy e.symm)).2 (hs y (by simp[hy])));rw[List.length_erase_of_mem (hs x (by simp))] at this;have:=List.length_pos_of_mem (hs x (by simp));simp only[Hl];omega
theorem ZuZ (l:List Tree):∃ H,∀ x∈l,cnt x≤H:=⟨cnts l,fun _ h=>Zbq h⟩
theorem ZAD (hg:g.ok) {M v i j:Nat} (hv:(v:Int) < g.vars) (hij:i≤j) (hj:j≤w.length) {l:List Tree} (hd:l.Nodup) (hl:∀ x∈l,IsT g w v i j x):min M l.length≤Ak g w M v i j:=by
 classical
 obtain⟨H,hH⟩:=ZuZ l;have h1:l.length≤(ZdM g w (many g w M+H) v i j).length:=ZhN hd fun x hx=>ZmF _ v i j x hij hj (by have:=hH x hx;omega) (hl x hx)
 have h2:=ZgY hg (M:=M) (many g w M+H) v i j hv hij hj;have h3:=Zhv (g:=g) (w:=w) (M:=M) (k:=many g w M) (Znr g w M) H;rw[h3] at h2;show _≤rnds g w M (many g w M) v i j;omega
theorem ZAE (hg:g.ok) {M v i j:Nat} (hv:(v:Int) < g.vars) (hij:i≤j) (hj:j≤w.length):∃ l:List Tree,l.Nodup∧(∀ x∈l,IsT g w v i j x)∧Ak g w M v i j≤l.length:=by
 refine⟨ZdM g w (many g w M) v i j,Zjc _ v i j hij hj,fun x hx=>ZeB _ v i j x hij hj hx,?_⟩;have h2:=ZgY hg (M:=M) (many g w M) v i j hv hij hj;show rnds g w M (many g w M) v i j≤_;omega
end Go.Proofs.YtbpmepgnjanhnaaGreat
namespace Go.Proofs.YtbpmepgnjanhnaaGreat
open Go.RowKit
section
variable {g:Ac} {w:List Int}
abbrev stN (g:Ac):Nat:=g.start.toNat
theorem Ac.ok.stN (h:g.ok):((stN g:Nat):Int)=g.start:=by have:=h.start0;unfold Go.Proofs.YtbpmepgnjanhnaaGreat.stN;omega
def IsW (g:Ac) (w:List Int) (x:Tree):Prop:=fits g x g.start=true∧Zbm g x=w
theorem ZrL (hg:g.ok) {x:Tree}:IsW g w x↔IsT g w (stN g) 0 w.length x:=by
 unfold IsW IsT;rw[hg.stN,ZCs]
theorem ZjK (hg:g.ok) {l:List Tree} (hd:l.Nodup) (hl:∀ x∈l,IsW g w x):min Zae l.length≤cntF g w :=
 ZAD hg (by rw[hg.stN];exact hg.start) (Hi _) (Hg _) hd (fun x hx=>(ZrL hg).1 (hl x hx))
theorem Ztl (hg:g.ok):∃ l:List Tree,l.Nodup∧(∀ x∈l,IsW g w x)∧cntF g w≤l.length:=by
 obtain⟨l,h1,h2,h3⟩:=ZAE (w:=w) hg (M:=Zae) (v:=stN g) (by rw[hg.stN];exact hg.start) (Hi _) (Hg _);exact⟨l,h1,fun x hx=>(ZrL hg).2 (h2 x hx),h3⟩
theorem ZxT (g:Ac) (w:List Int):cntF g w≤Zae:=Zfk g w Zae _ _ _
theorem ZxU {h:Ac} (hg:g.ok) (hh:h.ok) (f:Tree→Tree) (f1:∀ x,IsW h w x→IsW g w (f x)) (f2:∀ x y,IsW h w x→IsW h w y→f x=f y→x=y) (f3:∀ y,IsW g w y→∃ x,IsW h w x∧f x=y):cntF h w=cntF g w:=by
 have a1:=ZxT g w;have a2:=ZxT h w;have b1:cntF h w≤cntF g w:=by
  obtain⟨l,h1,h2,h3⟩:=Ztl (w:=w) hh;have:(l.map f).Nodup:=by
   unfold List.Nodup;rw[Gd];exact GB (fun ha hb hne q=>hne (f2 _ _ (h2 _ ha) (h2 _ hb) q)) h1
  have:=ZjK hg this (fun x hx=>by obtain⟨y,hy,rfl⟩:=List.mem_map.1 hx;exact f1 y (h2 y hy));rw[Hh] at this;omega
 have b2:cntF g w≤cntF h w:=by
  classical
  obtain⟨l,h1,h2,h3⟩:=Ztl (w:=w) hg
  let b:Tree→Tree:=fun y=>if q:IsW g w y then (f3 y q).choose else y
  have hb:∀ y,IsW g w y→IsW h w (b y)∧f (b y)=y:=fun y hy=>by
   have e:b y=(f3 y hy).choose:=dif_pos hy;rw[e];exact (f3 y hy).choose_spec
  have:(l.map b).Nodup:=by
   unfold List.Nodup;rw[Gd];exact GB (fun {x y} ha hb' hne q=>hne (by rw[←(hb x (h2 _ ha)).2,←(hb y (h2 _ hb')).2,q])) h1
  have:=ZjK hh this (fun x hx=>by obtain⟨y,hy,rfl⟩:=List.mem_map.1 hx;exact (hb y (h2 y hy)).1);rw[Hh] at this;omega
 omega
theorem Ztm:∀ (n k:Nat) (acc:List Tree),(ZdF g w n k acc).2.code=0→(ZdF g w n k acc).1.length=acc.length+n∧(∀ i,∀ h:i < acc.length,(ZdF g w n k acc).1[i]? = some acc[i])∧(∀ i,i < n→(atF g w (k+i)).2.1.code=0∧(ZdF g w n k acc).1[acc.length+i]? = some (atF g w (k+i)).1)
 | 0,k,acc,h=>by
  rw[ZdF];exact⟨rfl,fun i hi=>Hj hi,fun i hi=>by omega⟩
 | n+1,k,acc,h=>by
  rw[ZdF] at h ⊢;by_cases hc:(atF g w k).2.1.code=0
  ·rw[Hb hc] at h ⊢;obtain⟨h1,h2,h3⟩:=Ztm n (k+1) (acc++[(atF g w k).1]) h;rw[Hk,HZ] at h1 h3;refine⟨by omega,fun i hi=>?_,fun i hi=>?_⟩
   ·rw[h2 i (by simp;omega),JB hi]
   ·cases i with
    | zero =>
     refine⟨hc,?_⟩;have:=h2 acc.length (by simp);simpa using this
    | succ i =>
     obtain⟨q1,q2⟩:=h3 i (by omega);rw[show k+(i+1)=k+1+i by omega,show acc.length+(i+1)=acc.length+1+i by omega];exact⟨q1,q2⟩
  ·rw[Ha hc] at h;exact absurd h hc
theorem ZpW:∀ (n k:Nat) (acc:List Tree),¬ (ZdF g w n k acc).2.code=0→(ZdF g w n k acc)=([],⟨6, -1⟩)
 | 0,k,acc,h=>absurd rfl h
 | n+1,k,acc,h=>by
  rw[ZdF] at h ⊢;by_cases hc:(atF g w k).2.1.code=0
  ·rw[Hb hc] at h ⊢;exact ZpW n (k+1) _ h
  ·rw[Ha hc];unfold atF at hc ⊢;split at hc
   ·exact absurd rfl hc
   ·rfl
theorem ZD0 {k:Nat} (h:(atF g w k).2.1.code=0):∃ L,Zdf g (Ak g w Zae) w 400 g.start.toNat 0 w.length k 400=some ((atF g w k).1,L):=by
 unfold atF at h ⊢;split
 ·rename_i x L e;exact⟨L,e⟩
 ·rename_i e;rw[e] at h;simp at h
structure ListOk (g:Ac) (w:List Int) (l:List Tree):Prop where
 ch:ChOk g w
 few:cntF g w≤200
 len:l.length=cntF g w
 at_:∀ k,∀ h:k < l.length,∃ L,Zdf g (Ak g w Zae) w 400 g.start.toNat 0 w.length k 400=some (l[k],L)
theorem Zby (h:(ZaL g w).2.code=0):ListOk g w (ZaL g w).1:=by
 have e:ZaL g w=if (opF g w).code=0 then (if 200 < cntF g w then ([],⟨6, -1⟩) else ZdF g w (cntF g w) 0 []) else ([],opF g w):=rfl
 rw[e] at h ⊢;by_cases hc:(opF g w).code=0
 ·rw[Hb hc] at h ⊢;by_cases hm:200 < cntF g w
  ·rw[Hb hm] at h;simp at h
  ·rw[Ha hm] at h ⊢;obtain⟨h1,h2,h3⟩:=Ztm _ _ _ h;simp only[HC,HD] at h1 h3;refine⟨(ZpU hc).1,by omega,h1,fun k hk=>?_⟩;obtain⟨q1,q2⟩:=h3 k (by omega);obtain⟨L,e⟩:=ZD0 q1;rw[Hj hk] at q2;exact⟨L,by rw[e,GG q2]⟩
 ·rw[Ha hc] at h;exact absurd h hc
theorem ListOk.spec {l:List Tree} (h:ListOk g w l) {k:Nat} (hk:k < l.length):IsW g w l[k]∧cnt l[k]≤400∧rkT g (Ak g w Zae) w l[k] 0 w.length=k:=by
 obtain⟨L,e⟩:=h.at_ k hk;have hg:=h.ch.ok;have hl:=h.len;have hf:=h.few;have hcn:cntF g w=Ak g w Zae (stN g) 0 w.length:=rfl;have hmC:Zae=4611686018427387904:=rfl;obtain⟨h1,h2,h3,h4⟩:=Zmv hg (ZkP g w Zae) 400 (stN g) 0 w.length k 400 (l[k],L) (by rw[hg.stN];exact hg.start) (Hi _) (Hg _) (by omega) (by omega) e;dsimp only at h1 h2 h3 h4;exact⟨(ZrL hg).2 ⟨h1,h2⟩,by omega,h3⟩
theorem ListOk.nodup {l:List Tree} (h:ListOk g w l):l.Nodup:=by
 unfold List.Nodup;rw[JL];intro i j hi hj hij e;have h1:=(h.spec hi).2.2;have h2:=(h.spec hj).2.2;rw[e] at h1;omega
theorem ListOk.mem {l:List Tree} (h:ListOk g w l) {x:Tree} (hx:x∈l):IsW g w x∧cnt x≤400:=by
 obtain⟨k,hk,rfl⟩:=List.mem_iff_getElem.1 hx;exact⟨(h.spec hk).1,(h.spec hk).2.1⟩
theorem ListOk.all {l:List Tree} (h:ListOk g w l) {x:Tree} (hx:IsW g w x):x∈l:=HN fun hn=>by
 have h1:=ZjK h.ch.ok (l:=x::l) (List.pairwise_cons.2 ⟨fun y hy e=>hn (e ▸ hy),h.nodup⟩) (fun y hy=>by
  rcases List.mem_cons.1 hy with rfl|hy
  ·exact hx
  ·exact (h.mem hy).1)
 have h2:=h.len;have h3:=h.few;have hmC:Zae=4611686018427387904:=rfl;rw[Hl] at h1;omega
end
def insT (x:Tree):List Tree→List Tree
 | []=>[x]
 | y::l=>if (y::l).all (fun z=>decide (0 < ordT z x)) then x::y::l else y::insT x l
def ZdG (l:List Tree):List Tree:=l.foldl (fun a x=>insT x a) []
theorem ZkZ (x:Tree):∀ l,(insT x l).Perm (x::l)
 | []=>List.Perm.refl _
 | y::l=>by
  rw[insT];split
  ·exact List.Perm.refl _
  ·exact ((ZkZ x l).cons y).trans (List.Perm.swap x y l)
def LeT (a b:Tree):Prop:=ordT a b≤0
theorem Zk0 (x:Tree):∀ l,l.Pairwise LeT→(insT x l).Pairwise LeT
 | [],_=>List.pairwise_cons.2 ⟨fun _ h=>(nomatch h),H7⟩
 | y::l,h=>by
  rw[insT];split
  ·rename_i hall;simp only[HQ,HY] at hall;refine List.pairwise_cons.2 ⟨fun z hz=>?_,h⟩;have:=hall z hz;have:=ZdS x z;unfold LeT;omega
  ·rename_i hall;obtain⟨h1,h2⟩:=List.pairwise_cons.1 h;refine List.pairwise_cons.2 ⟨fun z hz=>?_,Zk0 x l h2⟩;rcases List.mem_cons.1 ((ZkZ x l).mem_iff.1 hz) with rfl|hz
   ·refine HN fun hn=>hall ?_
    simp only[HQ,HY];intro q hq;rcases List.mem_cons.1 hq with rfl|hq
    ·unfold LeT at hn;omega
    ·have h3:=h1 q hq;unfold LeT at h3 hn;refine HN fun h4=>hn (Zgl y q z h3 (by omega))
   ·exact h1 z hz
theorem ZmH:∀ (l a:List Tree),(l.foldl (fun a x=>insT x a) a).Perm (a++l)
 | [],a=>by rw[Hu];exact List.Perm.refl _
 | x::l,a=>by
  rw[List.foldl_cons];refine (ZmH l _).trans ?_;refine ((ZkZ x a).append_right l).trans ?_;exact (List.perm_middle).symm
theorem Zjd:∀ (l a:List Tree),a.Pairwise LeT→(l.foldl (fun a x=>insT x a) a).Pairwise LeT
 | [],a,h=>h
 | x::l,a,h=>by rw[List.foldl_cons];exact Zjd l _ (Zk0 x a h)
theorem Ze3 (l:List Tree):(ZdG l).Perm l:=by have:=ZmH l [];rwa [H6] at this
theorem Zf4 (l:List Tree):(ZdG l).Pairwise LeT:=Zjd l [] H7
theorem Zfx:∀ {a b:List Tree},a.Perm b→a.Pairwise LeT→b.Pairwise LeT→a=b
 | [],b,h,_,_=>(List.nil_perm.1 h).symm
 | x::a,[],h,_,_=>by have:=h.length_eq;simp at this
 | x::a,y::b,h,h1,h2=>by
  obtain⟨p1,p2⟩:=List.pairwise_cons.1 h1;obtain⟨q1,q2⟩:=List.pairwise_cons.1 h2;have e:x=y:=by
   rcases List.mem_cons.1 (h.mem_iff.1 (HS (a:=x))) with e|hx
   ·exact e
   ·rcases List.mem_cons.1 (h.mem_iff.2 (HS (a:=y))) with e|hy
    ·exact e.symm
    ·have h3:=p1 y hy;have h4:=q1 x hx;have h5:=ZdS x y;unfold LeT at h3 h4;exact Ze1 x y (by omega)
  subst e;rw[Zfx (List.Perm.cons_inv h) p2 q2]
theorem Zu0 {a b:List Tree} (h:a.Perm b):ZdG a=ZdG b:=Zfx ((Ze3 a).trans (h.trans (Ze3 b).symm)) (Zf4 a) (Zf4 b)
theorem ZxV {α:Type} [DecidableEq α]:∀ {l m:List α},l.Nodup→(∀ x∈l,x∈m)→m.length≤l.length→l.Perm m
 | [],m,_,_,h=>by
  rw[HW (l:=m) (by simpa using h)]
 | x::l,m,h,hs,hlen=>by
  obtain⟨h1,h2⟩:=List.pairwise_cons.1 h;have hx:x∈m:=hs x (by simp);have:=ZxV (l:=l) (m:=m.erase x) h2 (fun y hy=>(List.mem_erase_of_ne (fun e=>h1 y hy e.symm)).2 (hs y (by simp[hy]))) (by rw[List.length_erase_of_mem hx];simp only[Hl] at hlen;omega);exact (this.cons x).trans (List.perm_cons_erase hx).symm
theorem Zu1 {g h:Ac} {w:List Int} {l m:List Tree} (hl:ListOk g w l) (hm:ListOk h w m) (f:Tree→Tree) (f1:∀ x,IsW h w x→IsW g w (f x)) (f2:∀ x y,IsW h w x→IsW h w y→f x=f y→x=y) (hc:cntF h w=cntF g w):ZdG (m.map f)=ZdG l:=by
 classical
 refine Zu0 (ZxV ?_ (fun x hx=>?_) ?_)
 ·unfold List.Nodup;rw[Gd];exact GB (fun ha hb hne q=>hne (f2 _ _ (hm.mem ha).1 (hm.mem hb).1 q)) hm.nodup
 ·obtain⟨y,hy,rfl⟩:=List.mem_map.1 hx;exact hl.all (f1 y (hm.mem hy).1)
 ·rw[Hh,hl.len,hm.len,hc];exact Hg _
end Go.Proofs.YtbpmepgnjanhnaaGreat
