import Derived.Test.YtbpmepgnjanhnaaGreatFoA
set_option linter.unusedVariables false
set_option linter.unusedSimpArgs false
set_option linter.unusedSectionVars false
set_option maxHeartbeats 4000000
set_option maxRecDepth 100000
namespace Go.Proofs.YtbpmepgnjanhnaaGreat
open Go.RowKit
section
variable {P:Program} {n:Nat}
def ZmI:Ob→Bool
 | .box ..=>true
 | .mp _=>true
 | _=>false
def ZEc (h0 h:Hp):Bool:=h.all fun p=>ZmI p.2 && (match Ah h0 p.1 with|some o=>ZmI o|none=>false)
def ZEd (φ:List (Nat×Nat)) (h:Hp):Bool:=h.all fun p=>Nat.beq (renK φ p.1) p.1
theorem Zvf {φ:List (Nat×Nat)} {h:Hp} (hk:ZEd φ h=true) {k:Nat} (hs:(Ah h k).isSome=true):renK φ k=k:=by
 obtain⟨o,ho⟩:=Option.isSome_iff_exists.1 hs;exact HQ (List.all_eq_true.1 hk (k,o) (ZcM ho))
theorem ZAX {h:Hp} {k m:Nat} {o:Ob} (ho:Ah h k=some o) (hf:ZmI o=true):¬ verAny h k m:=by
 unfold verAny;rw[ho];cases o <;> simp_all [ZmI]
theorem ZAY {h:Hp} {k sz m:Nat} {o:Ob} (ho:Ah h k=some o) (hf:ZmI o=true):¬ verRow h k sz m:=by
 unfold verRow;rw[ho];cases o <;> simp_all [ZmI]
theorem Zx1 {E0 E:Env} {h0 h:Hp} (hf:ZEc h0 h=true) (hb:∀ k,1000≤k→(Ah h k).isSome=true→E.blk k=E0.blk k):Hist E0 h0 E h:=fun k hk hs=>by
 obtain⟨o,ho⟩:=Option.isSome_iff_exists.1 hs;have:=List.all_eq_true.1 hf (k,o) (ZcM ho);simp only[Hr] at this;obtain⟨f1,f2⟩:=this;cases h0k:Ah h0 k with
 | none=>rw[h0k] at f2;cases f2
 | some o0 =>
  rw[h0k] at f2;exact⟨rfl,hb k hk hs,fun m hv=>(ZAX h0k f2 hv).elim,fun sz n hv=>(ZAY ho f1 hv).elim⟩
theorem HRep.outer {E:Env} {h:Hp} {o o':Bars} {w:World} (H:HRep E h o w) (ho:∀ t b,o' t b→o t b):HRep E h o' w:=by
 have T:Trans E h (bars E h o) w E h (bars E h o') w:=⟨fun _ _ _=>rfl,fun _ _ m hv=>⟨m,hv,Hg _,fun _=>rfl⟩,fun _ _ _ n hv=>⟨n,hv⟩,⟨fun t b _ hm=>⟨rfl,fun hx=>hm (hx.imp id (ho t b))⟩,Hg _⟩⟩
 exact⟨fun k ob hk=>(H.obs k ob hk).move T hk rfl rfl rfl (fun _ _=>rfl) (H.closed k _ hk) (H.closed k _ hk),H.apart,H.closed⟩
theorem ZEe {E:Env} {h':Hp} {M:Bars} {w:World} {v:V} {u:Value} (hk:v.keys=[]) (hr:V.Rep E [] M w v u):V.Rep E h' M w v u:=by
 have T:Trans E [] M w E h' M w:=⟨fun k hs=>by simp[Ah] at hs,fun k _ m hv=>(by unfold verAny at hv;simp[Ah] at hv),fun k hs=>by simp[Ah] at hs,⟨fun _ _ _ hm=>⟨rfl,hm⟩,Hg _⟩⟩
 exact V.Rep.move T (by rw[hk];simp) (by rw[hk];simp) hr
def EndH (P:Program) (r:V) (hE:Hp) (G:Ctx):Ending→World→Prop:=fun e w'=>∃ E' u,e=.returned u∧HRep E' hE G.o w'∧V.Rep E' hE (bars E' hE G.o) w' r u∧Ext G.S G.w0 w'∧Hist G.E0 G.h0 E' hE∧(∀ k b,Ai E' hE k b→G.S b∨G.w0.heap.size≤b)
def awTH (P:Program) (fn:Func) (r:V) (hE:Hp) (G:Ctx) (c:Code) (fr:Fr) (h:Hp):Prop:=∀ (E:Env) (a:Act) (w:World),An G E fr h a w→c.wp P (bodyPostD P fn (EndH P r hE G)) a w
variable {fn:Func} {r:V} {hE:Hp} {G:Ctx} {fr:Fr} {h:Hp}
theorem Ztv {x y:Code} (hx:aw P G.n x (andThen (awTH P fn r hE G y) (fun _ _ _=>False)) fr h):awTH P fn r hE G (.seq x y) fr h:=fun E a w C=>by
 refine wp_seq (wp_mono (hx G E a w rfl C) fun e a' w' ⟨E',fr',g,hq,C'⟩=>?_);cases e with
 | normal=>exact hq E' a' w' C'
 | ret=>exact hq.elim
 | exit id=>exact hq.elim
 | goto l=>exact hq.elim
 | panic ch=>exact hq.elim
 | outgrown=>exact hq.elim
theorem Af.introH {f:FuncId} {c:Code} {args:List V} (hf:P.funcs[f]? = some fn) (hb:fn.body=some c) (hn:fn.ntmps=n) (ha:args.length≤n) (hnm:(fn.name == "runtime.NumGoroutine")=false) (hrk:r.keys=[])
  (hw:∀ G:Ctx,G.n=n→G.df=[]→G.h0=h→awTH P fn r hE G c (Zal 0 args) h):Af P f args h r hE:=by
 refine⟨⟨fn,hf,hnm,by rw[hb];rfl⟩,?_⟩;intro E w us o H hr hk ho hs;have h1:=calls_of_wp_defers hf hb (hw _ rfl rfl rfl E _ w (An.start hn ha H hr hk ho hs));refine h1.mono fun e w' ⟨E',u,h2,h3,h4,h5,h6,h7⟩=>⟨E',u,h2,h3,h4,by rw[hrk];simp,h5,h6,h7⟩
theorem ZmJ {rid:Nat} {rest:Code} {d1:Nat} {fd:FuncId} {xs:List Operand} {cap:Array Operand} {o2:Op} {dst2:Option Tmp} {ty1 ty2:TypeId} {p1 p2:String} {af1 af2:Array Edge}
  (φ:List (Nat×Nat)) (hc:Hp) (frc:Fr) (ks:List Nat) (m m':FrameMode) (rs:List (Nat×Nat)) (hd hd':Hp) (hG:G.df=[]) (hrk:r.keys=[]) (hcap:cap.toList=xs) (hx:oevs fr xs (ptrs (ks.map (renK φ)))) (h1:xs.all ZaP=true) (hd1:Nat.blt d1 G.n=true) (hd2:dst2=none)
  (ho2:∀ (ρ:Operand→Value) (cs:Array Value) (w:World),ρ (.tmp d1)=.func (.func fd) #[] cs→(execOp ρ ⟨dst2,o2,ty2,p2,af2,none⟩).run P w=.ok (.defer { target:=.fn (.func fd) cs,args:=#[] }) w)
  (hok:FnOk P fd) (hlink:LinkH h φ hc) (hhigh:ZfD hc=true) (hin:hpIn hc hc=true) (hinj:injB φ (hc.map Prod.fst)=true) (hfr:FrRen φ fr d1 frc) (hfi:frIn hc frc=true) (hks:Zt4 hd ks=true) (hkc:Zt4 hc ks=true)
  (hrs:ZoL hd rs=true) (hrs':ZoL hd' rs=true) (hdi:hpIn hd hd=true) (hm:settle m'=.returning) (hmr:m≠.run)
  (hD:ADefer P fd (ptrs ks) hd m m' hd') {vs:List V} (hres:Results P (ZgG rs) hd' fn.results.toList vs) (hco:Co hd' (resV vs) r) (hdi':hpIn hd' hd'=true)
  (hle:HLe hd' hE) (hEi:hpIn hE hE=true) (hflat:ZEc G.h0 hE=true) (hkeep:ZEd φ hE=true)
  (hrest:aw P G.n rest (DFin m (ZgG rs) hd) frc hc) :
  awTH P fn r hE G (.seq (.region rid #[⟨some d1,.makeFunc (.func fd) #[] cap,ty1,p1,af1,none⟩,⟨dst2,o2,ty2,p2,af2,none⟩] false) rest) fr h:=by
 subst hd2;intro E a w C
 let Ec:Env:=⟨fun k=>E.blk (renK φ k),fun k=>E.row (renK φ k),fun k=>E.fp (renK φ k)⟩
 have L:Link φ Ec hc E h:=⟨fun k hk=>by obtain⟨o,ho⟩:=Option.isSome_iff_exists.1 hk;rw[hlink.get ho,ho];rfl,fun _ _=>rfl,fun _ _=>rfl,fun _ _=>rfl⟩
 have hfoot:∀ b,Live Ec hc b→Live E h b:=fun b ⟨k,hk⟩=>⟨renK φ k,by rw[←L.Ai (ZbI hk)];exact hk⟩
 let oc:Bars:=fun t b=>¬ Live Ec hc b∧((∃ j,Ai E h j b)∨G.o t b)
 have hbars1:∀ t b,¬ bars E h G.o t b→¬ bars Ec hc oc t b:=fun t b hn hb=>by
  rcases hb with hb|⟨_,⟨j,hj⟩|hb⟩
  ·exact hn (.inl (hfoot b hb))
  ·exact hn (.inl ⟨j,hj⟩)
  ·exact hn (.inr hb)
 have hA1:Zew false (bars E h G.o) (bars Ec hc oc):=⟨hbars1 false,fun _=>hbars1 true⟩
 have hinjc:∀ {k k':Nat},(Ah hc k).isSome=true→(Ah hc k').isSome=true→renK φ k=renK φ k'→k=k':=fun {k k'} h1 h2 e=>by
  obtain⟨o1,p1⟩:=Option.isSome_iff_exists.1 h1;obtain⟨o2,p2⟩:=Option.isSome_iff_exists.1 h2;exact Ze9 hinj (List.mem_map.2 ⟨_,ZcM p1,rfl⟩) (List.mem_map.2 ⟨_,ZcM p2,rfl⟩) e
 have Hc:HRep Ec hc oc w:=by
  refine⟨fun k ob hk=>?_,fun k k' b h1 h2=>?_,fun k ob hk j hj=>?_⟩
  ·have hk':=hlink.get hk;have hr:=C.heap.obs _ _ hk';exact ObRep.unren L hA1 (by rw[hk];rfl) (Zc6 hin k _ hk) hr
  ·have k1:=ZbI h1;have k2:=ZbI h2;rw[L.Ai k1] at h1;rw[L.Ai k2] at h2;exact hinjc k1 k2 (C.heap.apart _ _ b h1 h2)
  ·exact Zc6 hin k ob hk j hj
 have hkey:∀ k∈ks,1000≤k∧(Ah hc k).isSome=true:=fun k hk=>by
  have:=List.all_eq_true.1 hkc k hk;simp only[Hr] at this;exact⟨Jf this.1,hasKey_spec.1 this.2⟩
 have hkeyd:∀ k∈ks,(Ah hd k).isSome=true:=fun k hk=>by
  have:=List.all_eq_true.1 hks k hk;simp only[Hr] at this;exact hasKey_spec.1 this.2
 obtain⟨hcv,_⟩:=ZdB C hx h1;have hcv':=ZlA hcv;have hcaps:xs.map a.eval=ks.map fun k=>.pointer (some ⟨Ec.blk k,0,none⟩):=by rw[hcv',H8];rfl
 let cs:Array Value:=(xs.map a.eval).toArray
 let a1:Act:=a.put (some d1) (.func (.func fd) #[] cs)
 have hs1:a1.tmps.size=G.n:=by simp[a1,Act.put,C.size]
 have hdn:d1 < a.tmps.size:=by rw[C.size];simpa[HU] using hd1
 let a2:Act:={ a1 with defers:=[{ target:=.fn (.func fd) cs,args:=#[] }] }
 let G2:Ctx:=⟨G.n,w,Live Ec hc,Ec,hc,oc,[{ target:=.fn (.func fd) cs,args:=#[] }]⟩
 have C2:An G2 Ec frc hc a2 w:=by
  refine⟨hs1,rfl,fun i=>?_,Hc,Zc5 hfi,Ext.refl _ _,fun k b hb=>.inl ⟨k,hb⟩,fun k hk hsm=>⟨hsm,rfl,fun m hm=>⟨m,hm,Hg _,fun _=>rfl⟩,fun sz n hv=>⟨n,hv⟩⟩,fun t b hb=>⟨?_,hb.1⟩,fun b hb=>⟨hb.1,hb.2.imp id (C.sub b)⟩⟩
  ·rcases hfr.get i with e|⟨hne,e⟩
   ·rw[e];simp only[V.Rep]
   ·have hf:=C.frame i;rw[e] at hf;show V.Rep Ec hc (bars Ec hc oc) w (fget frc i) (a1.tmps.getD i undef);rw[ZfA hdn,Ha hne];exact V.Rep.unren L hA1 (Zc5 hfi i) hf
  ·rcases hb.2 with ⟨j,hj⟩|ho
   ·exact C.heap.lt hj
   ·exact Gm (C.outer _ _ ho).1 C.ext.size
 have hoG:∀ t b,G.o t b→oc t b:=fun t b hb=>⟨fun hl=>by
  obtain⟨o1,o2⟩:=C.outer _ _ hb;obtain⟨k,hk⟩:=hfoot b hl;rcases C.fresh k b hk with q|q
  ·exact o2 q
  ·omega,.inr hb⟩
 refine wp_seq (wp_region_list ?_);have hev:(execOp a.eval ⟨some d1,.makeFunc (.func fd) #[] cap,ty1,p1,af1,none⟩).run P w=.ok (.value (.func (.func fd) #[] cs)) w:=by
  have:cap=xs.toArray:=by rw[←hcap]
  subst this;simp[execOp,Instr.makeFunc,cs]
 have hev2:=ho2 a1.eval cs w (by simp only[Act.eval,a1];rw[ZfA hdn,Hb rfl]);refine (?_:wpS P _ _ _ (wpList P _ _ _) a w);unfold wpS;rw[Hb (show Region.wanted _ _=true from rfl)];refine .inl ?_;unfold Oper.wp;rw[hev];refine (?_:wpS P _ _ _ (wpList P _ _ _) a1 w);unfold wpS;rw[Hb (show Region.wanted _ _=true from rfl)];refine .inl ?_;unfold Oper.wp;rw[hev2];have hdf:C.defers.trans hG=C.defers.trans hG:=rfl;have ha2:({ a1 with defers:={ target:=.fn (.func fd) cs,args:=#[] }::a1.defers }:Act)=a2:=by
  have:a1.defers=[]:=by show a.defers=[];rw[C.defers,hG]
  simp only[a2,this]
 show rest.wp P _ (({ a1 with defers:={ target:=.fn (.func fd) cs,args:=#[] }::a1.defers }:Act).put none undef) w;rw[ha2];refine wp_mono (hrest G2 Ec a2 w rfl C2) fun e a3 w3 ⟨E3,fr3,g3,hq,C3⟩=>?_
 have key:FLe fr3 (ZgG rs)→HLe g3 hd→Leaves P fn a3.tmps (EndH P r hE G) a3.defers m w3:=fun hf hh=>by
  have hfi3:frIn hd (ZgG rs)=true:=Zh9 hrs;have C4:=C3.weak hf hh (by rw[hfi3,hdi];rfl);rw[C3.defers];have hblk:∀ k∈ks,E3.blk k=Ec.blk k:=fun k hk=>(C4.keep k (hkey k hk).1 (hkeyd k hk)).2.1
  have hvals:xs.map a.eval=ks.map fun k=>.pointer (some ⟨E3.blk k,0,none⟩):=by
   rw[hcaps];exact GL fun k hk=>by rw[hblk k hk]
  refine leaves_cons (f:=fd) (args:=cs) hmr ?_ ((hD E3 w3 _ oc C4.heap (by rw[hvals];exact Zly ks) (by rw[Zlz];exact hkeyd) (fun t b hb=>?_) C4.sub).mono ?_)
  ·obtain⟨ff,q1,q2,q3⟩:=hok;have e1:¬ (ff.name="runtime.NumGoroutine"):=by simpa using q2
   have e3:¬ (ff.body=none):=fun e=>by rw[e] at q3;cases q3
   simp[invoke,callFunc,q1,e1,e3]
  ·obtain⟨o1,o2⟩:=C4.outer t b hb;refine⟨Gm o1 C4.ext.size,fun ⟨k,hk⟩=>?_⟩;rcases C4.fresh k b hk with q|q
   ·exact o2 q
   ·exact absurd o1 (by simpa using q)
  ·rintro e m4 w4 ⟨E4,v4,rfl,rfl,H4,hE4,hH4,hfr4⟩;show Leaves P fn a3.tmps (EndH P r hE G) [] (settle m4) w4;rw[hm]
   let a5:Act:={ a3 with defers:=G2.df }
   have hout:∀ t b,oc t b→b < w4.heap.size∧¬ Live E4 hd' b:=fun t b hb=>by
    obtain⟨o1,o2⟩:=C4.outer t b hb;refine⟨Gm o1 (Hq C4.ext.size hE4.size),fun ⟨k,hk⟩=>?_⟩;rcases hfr4 k b hk with ⟨j,hj⟩|q
    ·rcases C4.fresh j b hj with q|q
     ·exact o2 q
     ·exact absurd o1 (by simpa using q)
    ·have:=C4.ext.size;have:w.heap.size≤w3.heap.size:=this;have:b < w.heap.size:=o1;omega
   have C5:An ⟨G.n,w4,Live E4 hd',E4,hd',oc,G2.df⟩ E4 (ZgG rs) hd' a5 w4:=by
    refine⟨C3.size,rfl,fun i=>?_,H4,Zc5 (Zh9 hrs'),Ext.refl _ _,fun k b hb=>.inl ⟨k,hb⟩,fun k hk hsm=>⟨hsm,rfl,fun m hm=>⟨m,hm,Hg _,fun _=>rfl⟩,fun sz n hv=>⟨n,hv⟩⟩,hout,C4.sub⟩;rcases Zlx hrs' i with e|⟨k,e,hk1,hk2⟩
    ·rw[e];simp only[V.Rep]
    ·have hf:=C4.frame i;rw[e] at hf ⊢;simp only[V.Rep] at hf ⊢;rw[hf,(hH4 k hk1 hk2).2.1]
   obtain⟨u,q1,q2,_⟩:=Zei C5 rfl hres;have hsub:∀ t b,bars E4 hE G.o t b→bars E4 hd' oc t b:=fun t b hb=>by
    rcases hb with ⟨k,hk⟩|hb
    ·exact .inl ⟨k,hle.Ai hk⟩
    ·exact .inr (hoG t b hb)
   refine⟨u,q1,E4,u,rfl,(H4.sub hle hEi).outer hoG,?_,?_,?_,?_⟩
   ·exact ZEe hrk (Zsg (M':=bars E4 hE G.o) hrk hsub (hco E4 oc w4 u H4 C4.sub q2))
   ·refine (C.ext.trans C3.ext (fun x hx hl=>?_)).trans hE4 (fun x hx hl=>?_)
    ·obtain⟨k,hk⟩:=hfoot x hx;rcases C.fresh k x hk with q|q
     ·exact q
     ·omega
    ·obtain⟨k,hk⟩:=hx;rcases C4.fresh k x hk with q|q
     ·obtain⟨k,hk⟩:=hfoot x q;rcases C.fresh k x hk with q|q
      ·exact q
      ·omega
     ·have:=C.ext.size;have:w.heap.size≤x:=q;omega
   ·refine Zx1 hflat fun k hk hs=>?_
    have hs1:=hle.isSome hs;obtain⟨hs2,b1,_⟩:=hH4 k hk hs1;obtain⟨hs3,b2,_⟩:=C4.keep k hk hs2;have hkr:=Zvf hkeep hs;have hs4:(Ah h k).isSome=true:=by
     obtain⟨o,ho⟩:=Option.isSome_iff_exists.1 hs3;have:=hlink.get ho;rw[hkr] at this;rw[this];rfl
    obtain⟨_,b3,_⟩:=C.keep k hk hs4;rw[b1,b2,←b3];show E.blk (renK φ k)=E.blk k;rw[hkr]
   ·intro k b hb;rcases hfr4 k b (hle.Ai hb) with ⟨j,hj⟩|q
    ·rcases C4.fresh j b hj with q|q
     ·obtain⟨k,hk⟩:=hfoot b q;exact C.fresh k b hk
     ·have:=C.ext.size;have:w.heap.size≤b:=q;exact .inr (by omega)
    ·have:=C.ext.size;have:w.heap.size≤w3.heap.size:=C4.ext.size;exact .inr (by omega)
 cases e with
 | normal =>
  rcases hq with hv|⟨rfl,hf,hh⟩
  ·exact (C3.nev hv).elim
  ·exact key hf hh
 | ret =>
  rcases hq with hv|⟨rfl,hf,hh⟩
  ·exact (C3.nev hv).elim
  ·exact key hf hh
 | exit id=>exact hq.elim
 | goto l=>exact hq.elim
 | panic ch=>obtain⟨rfl,hf,hh⟩:=hq;exact key hf hh
 | outgrown=>exact hq.elim
end
section
variable {t:Bool} {g:Ac} {w:List Int}
theorem Zp9 (h:(opF g w).code=0):ChOk g w∧opF g w=⟨0,0⟩∧cntF g w < Zae:=by
 unfold opF at h ⊢;by_cases hc:(chF g w).code=0
 ·rw[Hb hc] at h ⊢;by_cases hm:cntF g w=Zae
  ·rw[Hb hm] at h;cases h
  ·have:=ZgT g w Zae g.start.toNat 0 w.length;exact⟨(ZsS hc).1,by rw[Ha hm],by unfold cntF at hm ⊢;omega⟩
 ·rw[Ha hc] at h;exact absurd h hc
theorem ZiP {u:Bool} (h:(opF g w).code=0):Af Tryz.prog 44 [.d (Zbr t g),.d (ints u w)] [] (.tup [.ptr 25 0,.d (Zbu ⟨0,0⟩)]) (frH0 t g w 25 962 960 0):=by
 obtain⟨hC,hz,hlt⟩:=Zp9 h;obtain⟨s1,s2⟩:=hC.small;have hnew:=ZsT (t:=t) (u:=u) hC;have hct:=ZeY hC.ok hC.cyc s1 s2;rw[Zhs hC.ok] at hct;have hne:¬ ((cntF g w:Nat):Int)=4611686018427387904:=by
  intro e;have:cntF g w=Zae:=by unfold Zae;omega
  omega
 generalize cntF g w=c at *;simp only[frH0];generalize Ak g w Zae=N at *;generalize nulB g=NB at *;refine Af.intro (n:=27) Tryz.func44 (hw:=?_);simp only[Zal];refine VA ?_;refine Zab [(62,962),(60,960)] (hA:=hnew) (hr:=?_);refine VA ?_;refine Zau [(1000,962),(1001,960)] (hA:=hct) (hr:=?_);refine VA ?_;exact fin
abbrev bxT (cs:List V):Ob:=.box 56 cs
abbrev bxE (cs:List V):Ob:=.box 31 cs
theorem ZEf {a b c e:D} {L:Nat}:ADefer Tryz.prog 79 (ptrs [1006,1007]) ([(1006,bxT [.d a,.d b]),(1007,bxE [.d c,.d e]),(1000,frBx t g 1001 L),(1001,cxBx g w (nulB g) 1002),(1002,.mp (ZbD (Ak g w Zae)))]) .returning .returning ([(1006,bxT [.d a,.d b]),(1007,bxE [.d c,.d e]),(1000,frBx t g 1001 L),(1001,cxBx g w (nulB g) 1002),(1002,.mp (ZbD (Ak g w Zae)))]):=by
 refine ADefer.intro (v:=.nilIface) (n:=18) (d1:=5) (d2:=2) Tryz.func79 rfl rfl (by simp[ptrs]) (fun ρ w=>rfl) (fun ρ w=>rfl) rfl rfl .nil rfl rfl ?_;simp only[ptrs,Hm,HF,Zal];refine VA ?_;refine ZoJ (u:=.nilIface) (b:=true) rfl Zag rfl rfl Tryz.underlying20 ?_;refine VA ?_;exact fin
theorem ZEg {L:Nat}:ADefer Tryz.prog 79 (ptrs [1006,1007]) ([(1006,bxT [I 0,.d (.raw (.slice none 0 0))]),(1007,bxE [I 0,I 0]),(1000,frBx t g 1001 L),(1001,cxBx g w (nulB g) 1002),(1002,.mp (ZbD (Ak g w Zae)))]) (.panicking [{ v:=Ziq,recovered:=false }]) (.panicking [{ v:=Ziq,recovered:=true }]) ([(1006,bxT [I 0,.d (.raw (.slice none 0 0))]),(1007,bxE [I 6,I (-1)]),(1000,frBx t g 1001 L),(1001,cxBx g w (nulB g) 1002),(1002,.mp (ZbD (Ak g w Zae)))]):=by
 refine ADefer.intro (v:=Ziq) (n:=18) (d1:=5) (d2:=2) Tryz.func79 rfl rfl (by simp[ptrs]) (fun ρ w=>rfl) (fun ρ w=>rfl) rfl rfl (.pan _) rfl rfl ?_;simp only[ptrs,Hm,HF,Zal];refine VA ?_;refine ZoJ (u:=Ziq) (b:=false) rfl Zag rfl rfl Tryz.underlying20 ?_;refine VA ?_;refine Zt2 (us:=[]) rfl Zag rfl Tryz.underlying104 rfl rfl rfl ?_;refine VA ?_;exact fin
def atF (g:Ac) (w:List Int) (k:Nat):Tree×Zcf×Nat:=match Zdi g (Ak g w Zae) w 400 g.start.toNat 0 w.length k 400 with
 | some (x,L)=>(x,⟨0,0⟩,L)
 | none=>(.mk 0 [],⟨6, -1⟩,0)
theorem ZrV {u:Bool} (hC:ChOk g w) {k L:Nat} (hk:k < cntF g w) (hM:cntF g w < Zae):Af Tryz.prog 45 [.ptr 1000 0,.d (ints u w),I (k:Nat)] (frH t g w L) (.tup [.d (Zbz false (atF g w k).1),.d (Zbu (atF g w k).2.1)]) (frH t g w (atF g w k).2.2):=by
 have hst:=hC.ok.start;have hst0:=hC.ok.start0;have hlen:=hC.len;have ht:=Zo9 (t:=t) hC 400 (by omega) g.start.toNat 0 w.length k 400 (by omega) (Hh _) (Hg _) (Hg _) hk hM;unfold Zuy at ht;rw[show ((g.start.toNat:Nat):Int)=g.start by omega] at ht;unfold atF;refine Af.introH (n:=23) Tryz.func45 rfl rfl (by simp) (by rfl) rfl ?_;rintro⟨n,w0,S,E0,h0,o,df⟩ hn hd hh;dsimp only at hn hd hh;subst hn;subst hd;subst hh;simp only[Zal];cases hres:Zdi g (Ak g w Zae) w 400 g.start.toNat 0 w.length k 400 with
 | none =>
  rw[hres] at ht;replace ht:APan Tryz.prog 80 [.ptr 1000 0,I g.start,I 0,I (w.length:Nat),I (k:Nat)] (frH t g w 400) Ziq (frH t g w 0):=ht;dsimp only;refine Ztv ?_;refine VA ?_;refine ZmJ (d1:=8) (fd:=79) (xs:=[.tmp 6,.tmp 7]) [(1006,6),(1007,7)] ([(1006,bxT [I 0,.d (.raw (.slice none 0 0))]),(1007,bxE [I 0,I 0]),(1000,frBx t g 1001 L),(1001,cxBx g w (nulB g) 1002),(1002,.mp (ZbD (Ak g w Zae)))]) [(6,.ptr 1006 0),(7,.ptr 1007 0),(0,.ptr 1000 0),(1,.d (ints u w)),(2,I k)] [1006,1007] (.panicking [{ v:=Ziq,recovered:=false }]) (.panicking [{ v:=Ziq,recovered:=true }]) [(6,1006),(7,1007)] ([(1006,bxT [I 0,.d (.raw (.slice none 0 0))]),(1007,bxE [I 0,I 0]),(1000,frBx t g 1001 0),(1001,cxBx g w (nulB g) 1002),(1002,.mp (ZbD (Ak g w Zae)))]) ([(1006,bxT [I 0,.d (.raw (.slice none 0 0))]),(1007,bxE [I 6,I (-1)]),(1000,frBx t g 1001 0),(1001,cxBx g w (nulB g) 1002),(1002,.mp (ZbD (Ak g w Zae)))])
   rfl rfl rfl ⟨rfl,rfl,trivial⟩ rfl rfl rfl (fun ρ cs w h=>by simp[execOp,resolve,Deferred.ofValue,h]) ⟨_,Tryz.func79,rfl,rfl⟩ ⟨rfl,rfl,rfl,rfl,rfl,trivial⟩ rfl rfl rfl ⟨⟨rfl,rfl⟩,⟨rfl,rfl⟩,⟨rfl,rfl⟩,⟨rfl,rfl⟩,⟨rfl,rfl⟩,trivial⟩ rfl rfl rfl rfl rfl rfl rfl (by intro h;cases h) ZEg
   (vs:=[.agg [I 0,.d (.raw (.slice none 0 0))],.agg [I 6,I (-1)]]) ⟨.aggT TY rfl rfl rfl rfl rfl,.aggT TY rfl rfl rfl rfl rfl,trivial⟩ (Co.tup ⟨Co.agg ⟨Co.refl _,Co.nil false 2,trivial⟩,Co.agg (Cos.refl _),trivial⟩) rfl ⟨Ap.of rfl,Ap.of rfl,Ap.of rfl,trivial⟩ rfl rfl rfl ?_
  refine VA ?_;refine Zet [(1000,1000),(1001,1001),(1002,1002)] [(6,.ptr 1006 0),(7,.ptr 1007 0)] [(1006,some (bxT [I 0,.d (.raw (.slice none 0 0))])),(1007,some (bxE [I 0,I 0]))] (hpn:=?_) (hA:=ht);exact (fun fr' h' h1 h2=>⟨rfl,⟨VLe.of (h1 _ HT),VLe.of (h1 _ (HK _ HT)),trivial⟩,⟨Ap.of (h2 _ HT),Ap.of (h2 _ (HK _ HT)),Ap.of rfl,Ap.of rfl,Ap.of rfl,trivial⟩⟩)
 | some y =>
  obtain⟨x,L'⟩:=y;rw[hres] at ht;replace ht:Af Tryz.prog 80 [.ptr 1000 0,I g.start,I 0,I (w.length:Nat),I (k:Nat)] (frH t g w 400) (.d (Zbz false x)) (frH t g w L'):=ht;dsimp only;refine Ztv ?_;refine VA ?_;refine ZmJ (d1:=8) (fd:=79) (xs:=[.tmp 6,.tmp 7]) [(1006,6),(1007,7)] ([(1006,bxT [I 0,.d (.raw (.slice none 0 0))]),(1007,bxE [I 0,I 0]),(1000,frBx t g 1001 L),(1001,cxBx g w (nulB g) 1002),(1002,.mp (ZbD (Ak g w Zae)))]) [(6,.ptr 1006 0),(7,.ptr 1007 0),(0,.ptr 1000 0),(1,.d (ints u w)),(2,I k)] [1006,1007] .returning .returning [(6,1006),(7,1007)] ([(1006,bxT [.d (iD x.rule),.d (Zan false x.Ab)]),(1007,bxE [I 0,I 0]),(1000,frBx t g 1001 L'),(1001,cxBx g w (nulB g) 1002),(1002,.mp (ZbD (Ak g w Zae)))]) ([(1006,bxT [.d (iD x.rule),.d (Zan false x.Ab)]),(1007,bxE [I 0,I 0]),(1000,frBx t g 1001 L'),(1001,cxBx g w (nulB g) 1002),(1002,.mp (ZbD (Ak g w Zae)))])
   rfl rfl rfl ⟨rfl,rfl,trivial⟩ rfl rfl rfl (fun ρ cs w h=>by simp[execOp,resolve,Deferred.ofValue,h]) ⟨_,Tryz.func79,rfl,rfl⟩ ⟨rfl,rfl,rfl,rfl,rfl,trivial⟩ rfl rfl rfl ⟨⟨rfl,rfl⟩,⟨rfl,rfl⟩,⟨rfl,rfl⟩,⟨rfl,rfl⟩,⟨rfl,rfl⟩,trivial⟩ rfl rfl rfl rfl rfl rfl rfl (by intro h;cases h) ZEf
   (vs:=[.agg [.d (iD x.rule),.d (Zan false x.Ab)],.agg [I 0,I 0]]) ⟨.aggT TY rfl rfl rfl rfl rfl,.aggT TY rfl rfl rfl rfl rfl,trivial⟩ (Co.tup ⟨Co.agg (Cos.refl _),Co.agg (Cos.refl _),trivial⟩) rfl ⟨Ap.of rfl,Ap.of rfl,Ap.of rfl,trivial⟩ rfl rfl rfl ?_
  refine VA ?_;refine Zab [(1000,1000),(1001,1001),(1002,1002)] (hA:=ht) (hr:=?_);refine VA ?_;exact Or.inr ⟨rfl,⟨VLe.refl _,VLe.refl _,trivial⟩,⟨Ap.of rfl,Ap.of rfl,Ap.of rfl,Ap.of rfl,Ap.of rfl,trivial⟩⟩
end
section
variable {t:Bool} {g:Ac} {w:List Int}
end
section
variable {t:Bool} {g:Ac} {w:List Int}
def ZdE (g:Ac) (w:List Int):Nat→Nat→List Tree→List Tree×Zcf
 | 0,_,acc=>(acc,⟨0,0⟩)
 | n+1,k,acc=>if (atF g w k).2.1.code=0 then ZdE g w n (k+1) (acc++[(atF g w k).1]) else ([],(atF g w k).2.1)
def Zaw (g:Ac) (w:List Int):List Tree×Zcf:=if (opF g w).code=0 then (if 200 < cntF g w then ([],⟨6, -1⟩) else ZdE g w (cntF g w) 0 []) else ([],opF g w)
theorem Zvg {u:Bool} (hc:(opF g w).code=0) (hm:200 < cntF g w):Af Tryz.prog 18 [.d (Zbr t g),.d (ints u w)] [] (.tup [.d (Zan false (Zaw g w).1),.d (Zbu (Zaw g w).2)]) []:=by
 have ho:=ZiP (t:=t) (u:=u) hc;obtain⟨hC,hz,hlt⟩:=Zp9 hc;obtain⟨s1,s2⟩:=hC.small;have hct:=ZeY hC.ok hC.cyc s1 s2;rw[Zhs hC.ok] at hct;have hat:=fun (L kn:Nat) (h:kn < cntF g w)=>ZrV (t:=t) (u:=u) (L:=L) hC h hlt
 clear hlt;rw[show Zaw g w=([],⟨6, -1⟩) by unfold Zaw;rw[Hb hc,Hb hm]];clear hat;generalize cntF g w=c at *;simp only[frH0] at ho;generalize Ak g w Zae=N at *;generalize nulB g=NB at *;have hm':(200:Int) < (c:Int):=by omega
 refine Af.intro (n:=55) Tryz.func18 (hw:=?_);simp only[Zal];refine VA ?_;refine Zab [(25,925),(962,962),(960,960)] (hA:=ho) (hr:=?_);refine VA ?_;refine Zau [(1000,962),(1001,960)] (hA:=hct) (hr:=?_);refine VA ?_;exact fin
theorem Zvh {u:Bool} (hf:g.fit) (hw:w.length≤100000000) (hc:¬ (opF g w).code=0):Af Tryz.prog 18 [.d (Zbr t g),.d (ints u w)] [] (.tup [.d (Zan false (Zaw g w).1),.d (Zbu (Zaw g w).2)]) []:=by
 rw[show Zaw g w=([],opF g w) by unfold Zaw;rw[Ha hc]];have ho:=ZuA (t:=t) (u:=u) hf hw hc;generalize opF g w=F at *;obtain⟨cc,ca⟩:=F;dsimp only at hc;refine Af.intro (n:=55) Tryz.func18 (hw:=?_);simp only[Zal];refine VA ?_;refine Zab [] (hA:=ho) (hr:=?_);refine VA ?_;exact fin
theorem Zx2 {u:Bool} (hc:(opF g w).code=0) (hm:¬ 200 < cntF g w):Af Tryz.prog 18 [.d (Zbr t g),.d (ints u w)] [] (.tup [.d (Zan false (Zaw g w).1),.d (Zbu (Zaw g w).2)]) []:=by
 have ho:=ZiP (t:=t) (u:=u) hc;obtain⟨hC,hz,hlt⟩:=Zp9 hc;obtain⟨s1,s2⟩:=hC.small;have hct:=ZeY hC.ok hC.cyc s1 s2;rw[Zhs hC.ok] at hct;have hat:=fun (L kn:Nat) (h:kn < cntF g w)=>ZrV (t:=t) (u:=u) (L:=L) hC h hlt
 clear hlt;have hres:Zaw g w=ZdE g w (cntF g w) 0 []:=by unfold Zaw;rw[Hb hc,Ha hm]
 generalize hRes:Zaw g w=RS at *;obtain⟨rl,rf⟩:=RS;have hm':¬ (200:Int) < (cntF g w:Int):=by omega
 have hrange:∀ k,k < cntF g w→∃ x f L',atF g w k=(x,f,L'):=fun k _=>⟨_,_,_,rfl⟩
 simp only[frH0,frH] at ho hat;generalize hcc:cntF g w=c at *;generalize Ak g w Zae=N at *;generalize nulB g=NB at *;refine Af.intro (n:=55) Tryz.func18 (hw:=?_);simp only[Zal];refine VA ?_;refine Zab [(25,925),(962,962),(960,960)] (hA:=ho) (hr:=?_);refine VA ?_;refine Zau [(1000,962),(1001,960)] (hA:=hct) (hr:=?_);refine VA ?_;refine Zau [(1000,962),(1001,960)] (hA:=hct) (hr:=?_);refine VA ?_;refine ZbB 8 900 56 2 rfl rfl rfl ?_;refine Zak (X:=Nat×List Tree×Nat) (fun y=>y.1≤c∧y.2.1.length=y.1∧(rl,rf)=ZdE g w (c - y.1) y.1 y.2.1) (fun y=>[(34,I y.1),(33,I c),(8,.own 900 y.2.1.length),(6,.ptr 925 0),(5,.ptr 5 0),(1,.d (ints u w))]) (fun y=>[(900,.row 56 2 (y.2.1.map (ZaV false))),(5,.box 31 [I 0,I 0]),(925,frBx t g 962 y.2.2),(962,cxBx g w NB 960),(960,.mp (ZbD N))]) (fun y=>c - y.1) (0,[],0) ⟨Hh _,rfl,by rw[Jn];exact hres⟩ ?_;rintro⟨k,acc,L⟩ ⟨h1,h2,h3⟩;dsimp only at h1 h2 h3 ⊢;by_cases hlt:k < c
 ·have ha:=hat L k hlt;obtain⟨x,⟨fc,fa⟩,L',e⟩:=hrange k hlt;rw[show c - k=(c - (k+1))+1 by omega,ZdE] at h3;rw[e] at ha h3;dsimp only at ha h3;have ec:acc.map (ZaV false)++[.agg [iD x.rule,Zan false x.Ab]]=(acc++[x]).map (ZaV false):=by rw[Ho,Hm,HF,Zdy]
  by_cases hz0:fc=0
  ·rw[Hb hz0] at h3;clear hat;refine VA ?_;refine Zab [(1000,925),(1001,962),(1002,960)] (hA:=ha) (hr:=?_);refine VA ?_;rw[ec];exact Zad (k+1,acc++[x],L') (a:=⟨by omega,by simp[h2],h3⟩) (b:=by dsimp only;omega)
  ·rw[Ha hz0] at h3;cases h3;clear hat;refine VA ?_;refine Zab [(1000,925),(1001,962),(1002,960)] (hA:=ha) (hr:=?_);refine VA ?_;exact fin
 ·obtain rfl:k=c:=by omega
  rw[Ga,ZdE] at h3;cases h3;clear hat;refine Zaz 900 rfl ?_;refine VA ?_;exact fin
theorem Zk5 {u:Bool} (hf:g.fit) (hw:w.length≤100000000):Af Tryz.prog 18 [.d (Zbr t g),.d (ints u w)] [] (.tup [.d (Zan false (Zaw g w).1),.d (Zbu (Zaw g w).2)]) []:=by
 by_cases hc:(opF g w).code=0
 ·by_cases hm:200 < cntF g w
  ·exact Zvg hc hm
  ·exact Zx2 hc hm
 ·exact Zvh hf hw hc
end
end Go.Proofs.YtbpmepgnjanhnaaGreat
