import Derived.Test.YtbpmepgnjanhnaaGreatQTurnT
set_option linter.unusedVariables false
set_option linter.unusedSimpArgs false
set_option linter.unusedSectionVars false
namespace Go.Proofs.YtbpmepgnjanhnaaGreat
open Go.RowKit
theorem ZEa {α:Type} {R:α→α→Prop} (hs:∀ a b,R a b→R b a) {l:List α} (h:l.Pairwise R) {a b:α} (ha:a∈l) (hb:b∈l) (hne:a≠b):R a b:=by
 obtain⟨i,hi,rfl⟩:=List.mem_iff_getElem.1 ha;obtain⟨j,hj,rfl⟩:=List.mem_iff_getElem.1 hb;rw[JL] at h;rcases G3 i j with q|q|q
 ·exact h i j hi hj q
 ·subst q;exact absurd rfl hne
 ·exact hs _ _ (h j i hj hi q)
def okQ (E:Int→Tree→Prop) (v:Nat) (l:List Ae) (q:Ae×List Tree):Prop:=q.1∈l∧hdI q.1.right=(v:Int)∧EL E q.2 (Ab q.1.right.tail)
def ap (q:Ae×List Tree) (a:Tree):Tree:=(muL (sing (a::q.2)) q.1.l).headD gapN
def runR:List (Ae×List Tree)→Tree→Tree
 | [],a=>a
 | q::L,a=>ap q (runR L a)
def Chn (E:Int→Tree→Prop) (v:Nat) (l:List Ae) (z:Tree):Prop:=∃ L,L≠[]∧(∀ q∈L,okQ E v l q)∧z=runR L gapN
def upE (E:Int→Tree→Prop) (v:Nat) (l:List Ae) (N:Nat) (s:Int) (z:Tree):Prop:=if s=(N:Int) then Chn E v l z else E s z
theorem Zh8 (q:Ae×List Tree) (a:Tree):∀ L,runR (L++[q]) a=runR L (ap q a)
 | []=>rfl
 | p::L=>by rw[Hv,runR,runR,Zh8 q a L]
mutual
def hgT:Tree→Bool
 | .mk r ks=>decide (r = -1) || hgL ks
def hgL:List Tree→Bool
 | []=>false
 | x::l=>hgT x || hgL l
end
mutual
theorem ZBM {w:List Tree}:∀ x:Tree,hgT x=false→Zfr w x=[x]
 | .mk r ks,h=>by
  rw[hgT,Ju,G0] at h;rw[Zfr,Ha h.1,ZyK ks h.2]
theorem ZyK {w:List Tree}:∀ l:List Tree,hgL l=false→ZaW w l=l
 | [],_=>rfl
 | x::l,h=>by
  rw[hgL,Ju] at h;rw[ZaW,ZBM x h.1,ZyK l h.2];rfl
end
section
variable {g:Ac} {E:Int→Tree→Prop} {N v:Nat} {l:List Ae} (hl:VS g E v l) (hx:∀ x∈l,XOk g N x)
include hl hx
theorem ZlS {q:Ae×List Tree} (hq:okQ E v l q) (a:Tree):KE E q.1.right (a::q.2):=by
 obtain⟨q1,q2,q3⟩:=hq;exact (Zov (hx _ q1).ne (by omega)).2 q3
theorem ZgD {q:Ae×List Tree} (hq:okQ E v l q) (a:Tree):muL (sing (a::q.2)) q.1.l=[ap q a]∧0≤(ap q a).rule∧gwT g (ap q a)=gwT g a++gwK g q.1.right.tail q.2∧∀ k∈q.2,c0T k < c0T (ap q a):=by
 obtain⟨y,h1,h2,h3,h4⟩:=(hl.ws _ hq.1).one _ (ZlS hl hx hq a);have e:ap q a=y:=by unfold ap;rw[h1];rfl
 rw[e];refine⟨h1,h2,?_,fun k hk=>h4 k (by simp[hk])⟩;rw[h3];have hc:=ZfE (hx _ hq.1).ne rfl
 conv=>lhs;rw[hc]
 rw[gwK,gwL,ZeE (by have:=hq.2.1;omega)]
theorem ZEb {q:Ae×List Tree} (hq:okQ E v l q) (a b:Tree):fil b (ap q a)=ap q (fil b a):=by
 have h1:=(ZgD hl hx hq a).1;have h2:=(ZgD hl hx hq (fil b a)).1;have h3:=(hl.ws _ hq.1).fill _ _ _ b (ZlS hl hx hq a) (by have:=hq.2.1;omega) h1;rw[h2] at h3;simpa using h3.symm
theorem ZBN {q:Ae×List Tree} (hq:okQ E v l q) (a:Tree):c0T (ap q a)=c0T a+c0T (ap q gapN) :=
 (hl.ws _ hq.1).add _ _ _ _ (ZlS hl hx hq a) (by have:=hq.2.1;omega) (ZgD hl hx hq a).1 (ZgD hl hx hq gapN).1
theorem ZEc {q q':Ae×List Tree} (hq:okQ E v l q) (hq':okQ E v l q') {a a':Tree} (h:ap q a=ap q' a'):q=q'∧a=a':=by
 have h1:=(ZgD hl hx hq a).1;have h2:=(ZgD hl hx hq' a').1;have e:q.1=q'.1:=HN fun hne =>
  ZEa (fun _ _=>Dis.symm) hl.dis hq.1 hq'.1 hne _ _ (ZlS hl hx hq a) (ZlS hl hx hq' a') (by rw[h1,h2,h])
 obtain⟨x,xs⟩:=q;obtain⟨x',xs'⟩:=q';dsimp only at e;subst e;have:=(hl.ws _ hq.1).inj _ _ (ZlS hl hx hq a) (ZlS hl hx hq' a') (by rw[h1,h2,h]);obtain⟨e1,e2⟩:=HX this;dsimp only at e2;exact⟨by rw[e2],e1⟩
theorem ZEd (hE:∀ s z,s < g.vars→(E s z↔fits g z s=true)) (hv:(v:Int) < g.vars) {q:Ae×List Tree} (hq:okQ E v l q) {a:Tree} (ha:fits g a (v:Int)=true):fits g (ap q a) (v:Int)=true:=by
 refine (hl.ws _ hq.1).fit (a::q.2) _ ?_ (ZgD hl hx hq a).1;rw[ZiV (hx _ hq.1).ne (by have:=hq.2.1;omega),hq.2.1];exact EL_cons.2 ⟨(hE _ _ hv).2 ha,hq.2.2⟩
theorem Zow (b:Tree):∀ {L:List (Ae×List Tree)} (_:∀ q∈L,okQ E v l q) (a:Tree),fil b (runR L a)=runR L (fil b a)
 | [],_,a=>rfl
 | q::L,h,a=>by rw[runR,runR,ZEb hl hx (h q (by simp)),Zow b (fun p hp=>h p (by simp[hp])) a]
theorem ZyL:∀ {L:List (Ae×List Tree)} (_:∀ q∈L,okQ E v l q) (a:Tree),gwT g (runR L a)=gwT g a++gwT g (runR L gapN)
 | [],_,a=>by
  have:gwT g gapN=[]:=by rw[gapN,gwT,Hb (by decide)]
  rw[runR,runR,this,Hu]
 | q::L,h,a=>by
  rw[runR,runR,(ZgD hl hx (h q (by simp)) _).2.2.1,(ZgD hl hx (h q (by simp)) _).2.2.1,ZyL (fun p hp=>h p (by simp[hp])) a,HJ]
theorem ZiW:∀ {L:List (Ae×List Tree)} (_:∀ q∈L,okQ E v l q) (a:Tree),c0T (runR L a)=c0T a+c0T (runR L gapN)
 | [],_,a=>by rw[runR,runR,ZBL,Gr]
 | q::L,h,a=>by
  have h1:=ZBN hl hx (h q (by simp)) (runR L a);have h2:=ZBN hl hx (h q (by simp)) (runR L gapN);have h3:=ZiW (L:=L) (fun p hp=>h p (by simp[hp])) a;rw[runR,runR,h1,h2,h3];omega
theorem ZtQ:∀ {L:List (Ae×List Tree)} (_:∀ q∈L,okQ E v l q) (a:Tree),0≤a.rule∨L≠[]→0≤(runR L a).rule
 | [],_,a,h=>h.elim id (fun q=>absurd rfl q)
 | q::L,h,a,_=>(ZgD hl hx (h q (by simp)) _).2.1
theorem ZyM (hE:∀ s z,s < g.vars→(E s z↔fits g z s=true)) (hv:(v:Int) < g.vars):∀ {L:List (Ae×List Tree)} (_:∀ q∈L,okQ E v l q) {a:Tree},fits g a (v:Int)=true→fits g (runR L a) (v:Int)=true
 | [],_,a,h=>h
 | q::L,h,a,ha=>ZEd hl hx hE hv (h q (by simp)) (ZyM hE hv (fun p hp=>h p (by simp[hp])) ha)
theorem Zg9 {a a':Tree} (ha:∀ q,okQ E v l q→∀ b,a≠ap q b) (ha':∀ q,okQ E v l q→∀ b,a'≠ap q b):∀ {L L':List (Ae×List Tree)} (_:∀ q∈L,okQ E v l q) (_:∀ q∈L',okQ E v l q),runR L a=runR L' a'→L=L'∧a=a'
 | [],[],_,_,h=>⟨rfl,h⟩
 | [],q::L',_,h',h=>absurd h (ha q (h' q (by simp)) _)
 | q::L,[],h1,_,h=>absurd h.symm (ha' q (h1 q (by simp)) _)
 | q::L,q'::L',h1,h',h=>by
  obtain⟨e1,e2⟩:=ZEc hl hx (h1 q (by simp)) (h' q' (by simp)) h;obtain⟨e3,e4⟩:=Zg9 ha ha' (fun p hp=>h1 p (by simp[hp])) (fun p hp=>h' p (by simp[hp])) e2;exact⟨by rw[e1,e3],e4⟩
theorem Zgx:∀ q,okQ E v l q→∀ b,gapN≠ap q b:=fun q hq b h=>by
 have:=(ZgD hl hx hq b).2.1;rw[←h] at this;exact absurd this (by decide)
theorem Zd3 {x:Ae} (hm:x∈Zcu (v:Int) l) {xs:List Tree} (hk:KE E x.right xs) {y:Tree} (hy:muL (sing xs) x.l=[y]):∀ q,okQ E v l q→∀ b,y≠ap q b:=fun q hq b h=>by
 obtain⟨h1,h2⟩:=List.mem_filter.1 hm;have h3:¬ hdI x.right=(v:Int):=by simpa using h2
 have hne:x≠q.1:=fun e=>h3 (by rw[e];exact hq.2.1)
 exact ZEa (fun _ _=>Dis.symm) hl.dis h1 hq.1 hne _ _ hk (ZlS hl hx hq b) (by rw[hy,h,(ZgD hl hx hq b).1])
theorem ZC5 {z:Tree} (h:Chn E v l z):hgT z=true∧0≤z.rule:=by
 obtain⟨L,hL,ho,rfl⟩:=h;refine⟨?_,ZtQ hl hx ho _ (.inr hL)⟩;cases hc:hgT (runR L gapN) with
 | true=>rfl
 | false =>
  have h1:=Zow hl hx (.mk 0 []) ho gapN;rw[ZyF] at h1;have h2:fil (.mk 0 []) (runR L gapN)=runR L gapN:=by
   have:=ZyE (.mk 0 []) (runR L gapN);rw[ZBM _ hc] at this;simpa using this.symm
  have h3:=ZiW hl hx ho (.mk 0 []);rw[←h1,h2] at h3;have:c0T (.mk 0 [])=1:=by decide
  omega
theorem peel (hE:∀ s z,s < g.vars→(E s z↔fits g z s=true)) (hv:(v:Int) < g.vars):∀ (n:Nat) (z:Tree),c0T z≤n→fits g z (v:Int)=true→∃ x∈Zcu (v:Int) l,∃ xs y L,EL E xs (Ab x.right)∧muL (sing xs) x.l=[y]∧(∀ q∈L,okQ E v l q)∧z=runR L y
 | n,z,hn,hz=>by
  obtain⟨x,hm,xs,h1,h2⟩:=hl.surj z hz;by_cases hh:hdI x.right=(v:Int)
  ·have h3:=h1;rw[ZiV (hx x hm).ne (by omega),hh] at h3;cases xs with
   | nil=>have:=h3.1;simp at this
   | cons a xs =>
    obtain⟨ha,h3⟩:=EL_cons.1 h3;have hq:okQ E v l (x,xs):=⟨hm,hh,h3⟩
    have e:ap (x,xs) a=z:=(by unfold ap;rw[h2];rfl);have hlt:c0T a < c0T z:=by
     obtain⟨y,k1,_,_,k4⟩:=(hl.ws x hm).one _ (Zqu h1);obtain rfl:y=z:=(by rw[h2] at k1;simpa using k1.symm);exact k4 a (by simp)
    cases n with
    | zero=>omega
    | succ n =>
     obtain⟨x',hm',xs',y,L,k1,k2,k3,k4⟩:=peel hE hv n a (by omega) ((hE _ _ hv).1 ha);refine⟨x',hm',xs',y,(x,xs)::L,k1,k2,fun q hq'=>?_,by rw[runR,←k4,e]⟩;rcases List.mem_cons.1 hq' with rfl|hq'
     ·exact hq
     ·exact k3 q hq'
  ·exact⟨x,List.mem_filter.2 ⟨hm,by simpa using hh⟩,xs,z,[],h1,h2,fun q hq=>(by cases hq),rfl⟩
end
theorem WS.congr {g:Ac} {E E':Int→Tree→Prop} {v:Nat} {x:Ae} (h:WS g E v x) (he:∀ s∈x.right,∀ z,E s z↔E' s z):WS g E' v x:=by
 have hk:∀ {xs},KE E' x.right xs→KE E x.right xs:=fun q=>Zln (fun s hs z=>(he s hs z).2) q
 exact {
  one:=fun xs q=>h.one xs (hk q)
  fit:=fun xs y q=>h.fit xs y (Zeh (fun s hs z=>(he s (List.mem_filter.1 hs).1 z).2) q)
  fill:=fun a xs y b q=>h.fill a xs y b (hk q)
  add:=fun a xs y z q=>h.add a xs y z (hk q)
  inj:=fun xs xs' q q'=>h.inj xs xs' (hk q) (hk q') }
theorem Dis.congr {E E':Int→Tree→Prop} {x x':Ae} (h:Dis E x x') (he:∀ s∈x.right,∀ z,E s z↔E' s z) (he':∀ s∈x'.right,∀ z,E s z↔E' s z):Dis E' x x':=fun xs xs' q q' =>
 h xs xs' (Zln (fun s hs z=>(he s hs z).2) q) (Zln (fun s hs z=>(he' s hs z).2) q')
theorem VS.congr {g:Ac} {E E':Int→Tree→Prop} {v:Nat} {l:List Ae} (h:VS g E v l) (he:∀ x∈l,∀ s∈x.right,∀ z,E s z↔E' s z):VS g E' v l where
 ws x hx:=(h.ws x hx).congr (he x hx)
 dis:=GB (fun {x x'} h1 h2 hd=>hd.congr (he x h1) (he x' h2)) h.dis
 surj z hz:=by
  obtain⟨x,hx,xs,h1,h2⟩:=h.surj z hz;exact⟨x,hx,xs,Zeh (fun s hs z=>(he x hx s (List.mem_filter.1 hs).1 z).1) h1,h2⟩
structure NS (g:Ac) (E:Int→Tree→Prop) (N:Int) (l:List Ae):Prop where
 one:∀ x∈l,∀ xs,EL E xs (Ab x.right)→∃ y,muL (sing xs) x.l=[y]∧E N y∧gwT g y=gwK g x.right xs∧∀ k∈xs,c0T k < c0T y
 inj:∀ x∈l,∀ xs xs',EL E xs (Ab x.right)→EL E xs' (Ab x.right)→muL (sing xs) x.l=muL (sing xs') x.l→xs=xs'
 dis:l.Pairwise fun x x'=>∀ xs xs',EL E xs (Ab x.right)→EL E xs' (Ab x'.right)→muL (sing xs) x.l≠muL (sing xs') x'.l
 surj:∀ y,E N y→∃ x∈l,∃ xs,EL E xs (Ab x.right)∧muL (sing xs) x.l=[y]
theorem NS.congr {g:Ac} {E E':Int→Tree→Prop} {N:Int} {l:List Ae} (h:NS g E N l) (hN:∀ z,E N z↔E' N z) (he:∀ x∈l,∀ s∈x.right,∀ z,E s z↔E' s z):NS g E' N l:=by
 have hk:∀ x∈l,∀ {xs},EL E' xs (Ab x.right)→EL E xs (Ab x.right):=fun x hx _ q=>Zeh (fun s hs z=>(he x hx s (List.mem_filter.1 hs).1 z).2) q
 exact {
  one:=fun x hx xs q=>by
   obtain⟨y,h1,h2,h3⟩:=h.one x hx xs (hk x hx q);exact⟨y,h1,(hN y).1 h2,h3⟩
  inj:=fun x hx xs xs' q q'=>h.inj x hx xs xs' (hk x hx q) (hk x hx q')
  dis:=GB (fun {x x'} h1 h2 hd xs xs' q q'=>hd xs xs' (hk x h1 q) (hk x' h2 q')) h.dis
  surj:=fun y hy=>by
   obtain⟨x,hx,xs,h1,h2⟩:=h.surj y ((hN y).2 hy);exact⟨x,hx,xs,Zeh (fun s hs z=>(he x hx s (List.mem_filter.1 hs).1 z).1) h1,h2⟩ }
def wthN (N:Nat) (x:Ae):Ae:=⟨x.right++[(N:Int)],[.mk 4 (Ab x.right).length x.l]⟩
theorem Zca (N:Nat) (x:Ae):ZbT (N:Int) x=[x,wthN N x]:=rfl
theorem ZgJ {E:Int→Tree→Prop} {v:Nat} {l:List Ae} {N:Nat} {s:Int} (h:s < (N:Int)) (z:Tree):E s z↔upE E v l N s z:=by
 unfold upE;rw[Ha (by omega)]
theorem upE_N {E:Int→Tree→Prop} {v:Nat} {l:List Ae} {N:Nat} {z:Tree}:upE E v l N (N:Int) z↔Chn E v l z:=by
 unfold upE;rw[Hb rfl]
theorem Zj1 (N:Nat):Ab [(N:Int)]=[(N:Int)]:=by rw[ZbG (by omega)];rfl
theorem ZyN {E:Int→Tree→Prop} {N:Nat} {zs:List Tree} (h:EL E zs (Ab [(N:Int)])):∃ c,zs=[c]∧E N c:=by
 rw[Zj1] at h
 match zs,h with
 | [c],h=>exact⟨c,rfl,(EL_cons.1 h).1⟩
 | [],h=>exact absurd h.1 (by simp)
 | _::_::_,h=>exact absurd h.1 (by simp)
section
variable {g:Ac} {E:Int→Tree→Prop} {N v:Nat} {l:List Ae} (hl:VS g E v l) (hx:∀ x∈l,XOk g N x)
include hl hx
theorem ZcH {B C:Nat} {o:Bool} {x:Ae} (hxo:TOk g B C N o x) {xs:List Tree} (hn:xs.length=(Ab x.right).length) {y:Tree} (hy:muL (sing xs) x.l=[y]) {L:List (Ae×List Tree)} (hL:∀ q∈L,okQ E v l q):muL (sing (xs++[runR L gapN])) (wthN N x).l=[runR L y]:=by
 unfold wthN;rw[ZC3 hxo hn,hy,ZCY,Zow hl hx y hL,ZyF]
theorem Zd4 {x:Ae} (hm:x∈l) {zs:List Tree} (hz:KE (upE E v l N) (wthN N x).right zs):∃ xs L,zs=xs++[runR L gapN]∧KE E x.right xs∧L≠[]∧∀ q∈L,okQ E v l q:=by
 obtain⟨xs,cs,rfl,h1,h2⟩:=ZtM (a:=x.right) (hx x hm).ne hz;obtain⟨c,rfl,h3⟩:=ZyN h2;obtain⟨L,k1,k2,rfl⟩:=upE_N.1 h3;exact⟨xs,L,rfl,Zln (fun s hs z=>(ZgJ ((hx x hm).sym s hs) z).2) h1,k1,k2⟩
theorem Zox {x:Ae} (h:x∈Zcu (v:Int) l):x∈l:=(List.mem_filter.1 h).1
theorem ZyO (hE:∀ s z,s < g.vars→(E s z↔fits g z s=true)) (hv:(v:Int) < g.vars):VS g (upE E v l N) v ((Zcu (v:Int) l).flatMap (ZbT (N:Int))) where
 ws w hw:=by
  obtain⟨x,hxo,hw⟩:=List.mem_flatMap.1 hw;have hm:=Zox hl hx hxo;have hsym:=(hx x hm).sym;have hwx:=hl.ws x hm;have hce:∀ s∈x.right,∀ z,E s z↔upE E v l N s z:=fun s hs z=>ZgJ (hsym s hs) z
  rw[Zca] at hw;rcases List.mem_cons.1 hw with rfl|hw
  ·exact hwx.congr hce
  ·rw[List.mem_singleton.1 hw];obtain⟨B,C,hto⟩:=hx x hm;have hne:=(hx x hm).ne;have hh:hdI (wthN N x).right=hdI x.right:=Zf9 hne;exact {
    one:=fun zs hz=>by
     obtain⟨xs,L,rfl,h1,h2,h3⟩:=Zd4 hl hx hm hz;obtain⟨y,k1,k2,k3,k4⟩:=hwx.one _ h1;have a1:=ZiW hl hx h3 y;have a2:=ZBK k2;refine⟨runR L y,ZcH hl hx hto (Zcj h1) k1 h3,ZtQ hl hx h3 _ (.inl k2),?_,fun k hk=>?_⟩
     ·show _=gwK g (x.right++[(N:Int)]) (xs++[runR L gapN]);rw[ZyL hl hx h3,k3,ZiU (Zcj h1)];congr 1;show _=catR [(N:Int)] (gwL g [runR L gapN]);rw[gwL,ZeE (by omega),Zh5,Hu]
     ·rcases List.mem_append.1 hk with hk|hk
      ·have:=k4 k hk;omega
      ·rw[List.mem_singleton.1 hk];omega
    fit:=fun zs z hz hzz=>by
     have h0:=hz;rw[show (wthN N x).right=x.right++[(N:Int)] from rfl,Zdv] at h0;obtain⟨xs,cs,rfl,h1,h2⟩:=Zgv h0;obtain⟨c,rfl,h3⟩:=ZyN h2;obtain⟨L,k1,k2,rfl⟩:=upE_N.1 h3;have h1:EL E xs (Ab x.right):=Zeh (fun s hs z=>(hce s (List.mem_filter.1 hs).1 z).2) h1;obtain⟨y,e1,_⟩:=hwx.one _ (Zqu h1);rw[ZcH hl hx hto h1.1 e1 k2] at hzz;obtain rfl:runR L y=z:=(by simpa using hzz);exact ZyM hl hx hE hv k2 (hwx.fit _ _ h1 e1)
    fill:=fun a zs z b hz h0 hzz=>by
     rw[hh] at h0;obtain⟨xs,L,e1,h1,h2,h3⟩:=Zd4 hl hx hm hz;obtain⟨a',xs,rfl⟩:=Zj0 hne h0 h1;obtain⟨rfl,rfl⟩:a=a'∧zs=xs++[runR L gapN]:=(by simpa using e1);obtain⟨y,e2,_⟩:=hwx.one _ h1;have e3:=ZcH hl hx hto (Zcj h1) e2 h3;rw[Hv] at e3;rw[e3] at hzz;obtain rfl:runR L y=z:=(by simpa using hzz);have e4:=hwx.fill _ _ _ b h1 h0 e2;have e5:=ZcH hl hx hto (xs:=fil b a::xs) (by have:=Zcj h1;simpa using this) e4 h3;rw[Hv] at e5;rw[e5,Zow hl hx b h3]
    add:=fun a zs z w hz h0 hzz hww=>by
     rw[hh] at h0;obtain⟨xs,L,e1,h1,h2,h3⟩:=Zd4 hl hx hm hz;obtain⟨a',xs,rfl⟩:=Zj0 hne h0 h1;obtain⟨rfl,rfl⟩:a=a'∧zs=xs++[runR L gapN]:=(by simpa using e1);obtain⟨y,e2,_⟩:=hwx.one _ h1;have h1g:KE E x.right (gapN::xs):=(Zov hne h0).2 ((Zov hne h0).1 h1);obtain⟨d,e4,_⟩:=hwx.one _ h1g;have e3:=ZcH hl hx hto (Zcj h1) e2 h3;have e5:=ZcH hl hx hto (Zcj h1g) e4 h3;rw[Hv] at e3 e5;rw[e3] at hzz;rw[e5] at hww;obtain rfl:runR L y=z:=(by simpa using hzz);obtain rfl:runR L d=w:=(by simpa using hww);have a1:=ZiW hl hx h3 y;have a2:=ZiW hl hx h3 d;have a3:=hwx.add _ _ _ _ h1 h0 e2 e4;omega
    inj:=fun zs zs' hz hz' he=>by
     obtain⟨xs,L,rfl,h1,h2,h3⟩:=Zd4 hl hx hm hz;obtain⟨xs',L',rfl,h1',h2',h3'⟩:=Zd4 hl hx hm hz';obtain⟨y,e2,_⟩:=hwx.one _ h1;obtain⟨y',e2',_⟩:=hwx.one _ h1';rw[ZcH hl hx hto (Zcj h1) e2 h3,ZcH hl hx hto (Zcj h1') e2' h3'] at he;obtain⟨rfl,rfl⟩:=Zg9 hl hx (Zd3 hl hx hxo h1 e2) (Zd3 hl hx hxo h1' e2') h3 h3' (by simpa using he);rw[hwx.inj _ _ h1 h1' (by rw[e2,e2'])] }
 dis:=by
  have val:∀ x∈Zcu (v:Int) l,∀ w∈ZbT (N:Int) x,∀ zs,KE (upE E v l N) w.right zs→∃ xs y L,KE E x.right xs∧muL (sing xs) x.l=[y]∧(∀ q∈L,okQ E v l q)∧muL (sing zs) w.l=[runR L y]∧(w=x→L=[])∧(w=wthN N x→L≠[]):=fun x hxo w hw zs hz=>by
   have hm:=Zox hl hx hxo;have hne:x≠wthN N x:=fun q=>by
    have:=Hz (fun w=>w.right.length) q;simp[wthN] at this
   rw[Zca] at hw;rcases List.mem_cons.1 hw with rfl|hw
   ·have h1:KE E w.right zs:=Zln (fun s hs z=>(ZgJ ((hx w hm).sym s hs) z).2) hz;obtain⟨y,k1,_⟩:=(hl.ws w hm).one _ h1;exact⟨zs,y,[],h1,k1,fun q hq=>(by cases hq),k1,fun _=>rfl,fun q=>absurd q hne⟩
   ·rw[List.mem_singleton.1 hw] at hz ⊢;obtain⟨xs,L,rfl,h1,h2,h3⟩:=Zd4 hl hx hm hz;obtain⟨y,k1,_⟩:=(hl.ws x hm).one _ h1;obtain⟨B,C,hto⟩:=hx x hm;exact⟨xs,y,L,h1,k1,h3,ZcH hl hx hto (Zcj h1) k1 h3,fun q=>absurd q.symm hne,fun _=>h2⟩
  rw[GZ];refine⟨fun x hxo=>?_,?_⟩
  ·rw[Zca];refine List.pairwise_pair.2 fun zs zs' hz hz' he=>?_
   obtain⟨xs,y,L,h1,h2,h3,h4,h5,_⟩:=val x hxo x (by rw[Zca];simp) zs hz;obtain⟨xs',y',L',h1',h2',h3',h4',_,h5'⟩:=val x hxo (wthN N x) (by rw[Zca];simp) zs' hz';rw[h4,h4'] at he;obtain⟨e,_⟩:=Zg9 hl hx (Zd3 hl hx hxo h1 h2) (Zd3 hl hx hxo h1' h2') h3 h3' (by simpa using he);exact h5' rfl (by rw[←e];exact h5 rfl)
  ·have hpw:(Zcu (v:Int) l).Pairwise (Dis E):=List.Pairwise.sublist List.filter_sublist hl.dis;refine GB (fun {x x'} hxo hxo' hd w hw w' hw' zs zs' hz hz' he=>?_) hpw;obtain⟨xs,y,L,h1,h2,h3,h4,_⟩:=val x hxo w hw zs hz;obtain⟨xs',y',L',h1',h2',h3',h4',_⟩:=val x' hxo' w' hw' zs' hz';rw[h4,h4'] at he;obtain⟨_,e⟩:=Zg9 hl hx (Zd3 hl hx hxo h1 h2) (Zd3 hl hx hxo' h1' h2') h3 h3' (by simpa using he);exact hd _ _ h1 h1' (by rw[h2,h2',e])
 surj z hz:=by
  obtain⟨x,hxo,xs,y,L,h1,h2,h3,rfl⟩:=peel hl hx hE hv _ z (Hg _) hz;have hm:=Zox hl hx hxo;have h1':EL (upE E v l N) xs (Ab x.right):=Zeh (fun s hs z=>(ZgJ ((hx x hm).sym s (List.mem_filter.1 hs).1) z).1) h1;by_cases hL:L=[]
  ·subst hL;exact⟨x,List.mem_flatMap.2 ⟨x,hxo,by rw[Zca];simp⟩,xs,h1',h2⟩
  ·obtain⟨B,C,hto⟩:=hx x hm;refine⟨wthN N x,List.mem_flatMap.2 ⟨x,hxo,by rw[Zca];simp⟩,xs++[runR L gapN],?_,ZcH hl hx hto h1.1 h2 h3⟩;show EL _ _ (Ab (x.right++[(N:Int)]));rw[Zdv,Zj1];exact ZtL h1' (EL_cons.2 ⟨upE_N.2 ⟨L,hL,h3,rfl⟩,ZyI⟩)
theorem ZyP {w:Ae} (h:w∈ownW (v:Int) l):∃ x∈l,hdI x.right=(v:Int)∧w=ZbA x:=by
 obtain⟨x,hm,rfl⟩:=List.mem_map.1 h;obtain⟨h1,h2⟩:=List.mem_filter.1 hm;exact⟨x,h1,H3 h2,rfl⟩
theorem Zha {x:Ae} (hm:x∈l) (hh:hdI x.right=(v:Int)) {w:Ae} (hw:w∈ZbT (N:Int) (ZbA x)) {zs:List Tree} (hz:EL (upE E v l N) zs (Ab w.right)):∃ xs L,okQ E v l (x,xs)∧(∀ q∈L,okQ E v l q)∧muL (sing zs) w.l=[runR (L++[(x,xs)]) gapN]∧((w=ZbA x∧L=[]∧zs=xs)∨(w=wthN N (ZbA x)∧L≠[]∧zs=xs++[runR L gapN])):=by
 have hsym:=(hx x hm).sym;have hsub:∀ s∈Ab x.right.tail,∀ z,upE E v l N s z→E s z:=fun s hs z=>(ZgJ (hsym s (JT (List.mem_filter.1 hs).1)) z).2
 rw[Zca] at hw;rcases List.mem_cons.1 hw with rfl|hw
 ·have h1:EL E zs (Ab x.right.tail):=Zeh hsub hz;have hq:okQ E v l (x,zs):=⟨hm,hh,h1⟩
  refine⟨zs,[],hq,fun q hq=>(by cases hq),?_,.inl ⟨rfl,rfl,rfl⟩⟩;rw[ZtO (hx x hm) (by omega)];exact (ZgD hl hx hq gapN).1
 ·rw[List.mem_singleton.1 hw] at hz ⊢;have h0:=hz;rw[show (wthN N (ZbA x)).right=x.right.tail++[(N:Int)] from rfl,Zdv] at h0;obtain⟨xs,cs,rfl,h1,h2⟩:=Zgv h0;obtain⟨c,rfl,h3⟩:=ZyN h2;obtain⟨L,k1,k2,rfl⟩:=upE_N.1 h3;have h1:EL E xs (Ab x.right.tail):=Zeh hsub h1;have hq:okQ E v l (x,xs):=⟨hm,hh,h1⟩
  refine⟨xs,L,hq,k2,?_,.inr ⟨rfl,k1,rfl⟩⟩;obtain⟨B,C,hto⟩:=hx x hm;have hgo:=Zf8 hto (by omega);rw[ZcH hl hx hgo (xs:=xs) h1.1 (y:=ap (x,xs) gapN) (by rw[ZtO (hx x hm) (by omega)];exact (ZgD hl hx hq gapN).1) k2,Zh8]
theorem ZyQ:NS g (upE E v l N) (N:Int) ((ownW (v:Int) l).flatMap (ZbT (N:Int))) where
 one w hw zs hz:=by
  obtain⟨w0,hw0,hw⟩:=List.mem_flatMap.1 hw;obtain⟨x,hm,hh,rfl⟩:=ZyP hl hx hw0;obtain⟨xs,L,hq,hL,hv,hcase⟩:=Zha hl hx hm hh hw hz;have hLq:∀ p∈L++[(x,xs)],okQ E v l p:=fun p hp=>by
   rcases List.mem_append.1 hp with hp|hp
   ·exact hL p hp
   ·rw[List.mem_singleton.1 hp];exact hq
  obtain⟨_,p1,p2,p3⟩:=ZgD hl hx hq gapN;have hg0:gwT g gapN=[]:=by rw[gapN,gwT,Hb (by decide)]
  rw[hg0,H6] at p2;refine⟨_,hv,upE_N.2 ⟨_,by simp,hLq,rfl⟩,?_,fun k hk=>?_⟩
  ·rw[Zh8,ZyL hl hx hL,p2];rcases hcase with ⟨rfl,rfl,rfl⟩|⟨rfl,_,rfl⟩
   ·rw[runR,hg0,Hu];rfl
   ·show _=gwK g (x.right.tail++[(N:Int)]) (xs++[runR L gapN]);rw[ZiU hq.2.2.1];congr 1;show _=catR [(N:Int)] (gwL g [runR L gapN]);rw[gwL,ZeE (by omega),Zh5,Hu]
  ·rw[Zh8,ZiW hl hx hL];have hp:=ZBK p1;rcases hcase with ⟨rfl,rfl,rfl⟩|⟨rfl,_,rfl⟩
   ·have:=p3 k hk;omega
   ·rcases List.mem_append.1 hk with hk|hk
    ·have:=p3 k hk;omega
    ·rw[List.mem_singleton.1 hk];omega
 inj w hw zs zs' hz hz' he:=by
  obtain⟨w0,hw0,hw⟩:=List.mem_flatMap.1 hw;obtain⟨x,hm,hh,rfl⟩:=ZyP hl hx hw0;obtain⟨xs,L,hq,hL,hv,hcase⟩:=Zha hl hx hm hh hw hz;obtain⟨xs',L',hq',hL',hv',hcase'⟩:=Zha hl hx hm hh hw hz';rw[hv,hv'] at he;have okA:∀ {L:List (Ae×List Tree)} {xs:List Tree},okQ E v l (x,xs)→(∀ q∈L,okQ E v l q)→∀ p∈L++[(x,xs)],okQ E v l p:=fun hq hL p hp=>by
   rcases List.mem_append.1 hp with hp|hp
   ·exact hL p hp
   ·rw[List.mem_singleton.1 hp];exact hq
  obtain⟨e,_⟩:=Zg9 hl hx (Zgx hl hx) (Zgx hl hx) (okA hq hL) (okA hq' hL') (by simpa using he);obtain⟨rfl,e2⟩:=JA e rfl;obtain rfl:xs=xs':=by simpa using e2
  rcases hcase with ⟨_,h1,rfl⟩|⟨_,h1,rfl⟩
  ·rcases hcase' with ⟨_,_,rfl⟩|⟨_,h2,_⟩
   ·rfl
   ·exact absurd h1 h2
  ·rcases hcase' with ⟨_,h2,_⟩|⟨_,_,rfl⟩
   ·exact absurd h2 h1
   ·rfl
 dis:=by
  have okA:∀ {L:List (Ae×List Tree)} {q:Ae×List Tree},okQ E v l q→(∀ q∈L,okQ E v l q)→∀ p∈L++[q],okQ E v l p:=fun hq hL p hp=>by
   rcases List.mem_append.1 hp with hp|hp
   ·exact hL p hp
   ·rw[List.mem_singleton.1 hp];exact hq
  rw[GZ];refine⟨fun w0 hw0=>?_,?_⟩
  ·obtain⟨x,hm,hh,rfl⟩:=ZyP hl hx hw0;rw[Zca];refine List.pairwise_pair.2 fun zs zs' hz hz' he=>?_
   obtain⟨xs,L,hq,hL,hv,hcase⟩:=Zha hl hx hm hh (w:=ZbA x) (by rw[Zca];simp) hz;obtain⟨xs',L',hq',hL',hv',hcase'⟩:=Zha hl hx hm hh (w:=wthN N (ZbA x)) (by rw[Zca];simp) hz';have hne:ZbA x≠wthN N (ZbA x):=fun q=>by
    have:=Hz (fun w=>w.right.length) q;simp[wthN] at this
   rw[hv,hv'] at he;obtain⟨e,_⟩:=Zg9 hl hx (Zgx hl hx) (Zgx hl hx) (okA hq hL) (okA hq' hL') (by simpa using he);obtain⟨e1,_⟩:=JA e rfl;rcases hcase with ⟨_,h1,_⟩|⟨h0,_⟩
   ·rcases hcase' with ⟨h2,_⟩|⟨_,h2,_⟩
    ·exact hne h2.symm
    ·exact h2 (by rw[←e1,h1])
   ·exact hne h0
  ·unfold ownW;rw[Gd];have hpw:(l.filter fun x=>decide (hdI x.right=(v:Int))).Pairwise (Dis E):=List.Pairwise.sublist List.filter_sublist hl.dis;refine GB (fun {x x'} hxf hxf' hd w hw w' hw' zs zs' hz hz' he=>?_) hpw;obtain⟨hm,hh⟩:=List.mem_filter.1 hxf;obtain⟨hm',hh'⟩:=List.mem_filter.1 hxf';have hh:=H3 hh;have hh':=H3 hh';obtain⟨xs,L,hq,hL,hv,_⟩:=Zha hl hx hm hh hw hz;obtain⟨xs',L',hq',hL',hv',_⟩:=Zha hl hx hm' hh' hw' hz';rw[hv,hv'] at he;obtain⟨e,_⟩:=Zg9 hl hx (Zgx hl hx) (Zgx hl hx) (okA hq hL) (okA hq' hL') (by simpa using he);obtain⟨_,e2⟩:=JA e rfl;have e3:(x,xs)=(x',xs'):=by simpa using e2
   obtain⟨rfl,rfl⟩:=Jc e3;exact hd _ _ (ZlS hl hx hq gapN) (ZlS hl hx hq gapN) rfl
 surj z hz:=by
  obtain⟨L,hL,ho,rfl⟩:=upE_N.1 hz;obtain⟨L,q,rfl⟩:∃ L0 q,L=L0++[q]:=⟨L.dropLast,L.getLast hL,(List.dropLast_concat_getLast hL).symm⟩
  obtain⟨x,xs⟩:=q;have hq:=ho (x,xs) (by simp);have hLo:∀ q∈L,okQ E v l q:=fun q hq=>ho q (by simp[hq])
  obtain⟨hm,hh,h1⟩:=hq;dsimp only at hm hh h1;have hsym:=(hx x hm).sym;have h1':EL (upE E v l N) xs (Ab x.right.tail):=Zeh (fun s hs z=>(ZgJ (hsym s (JT (List.mem_filter.1 hs).1)) z).1) h1;have how:ZbA x∈ownW (v:Int) l:=List.mem_map.2 ⟨x,List.mem_filter.2 ⟨hm,Ht hh⟩,rfl⟩;have hval:=(ZgD hl hx (q:=(x,xs)) ⟨hm,hh,h1⟩ gapN).1;by_cases hn:L=[]
  ·subst hn;refine⟨ZbA x,List.mem_flatMap.2 ⟨_,how,by rw[Zca];simp⟩,xs,h1',?_⟩;rw[ZtO (hx x hm) (by omega)];exact hval
  ·obtain⟨B,C,hto⟩:=hx x hm;have hgo:=Zf8 hto (by omega);refine⟨wthN N (ZbA x),List.mem_flatMap.2 ⟨_,how,by rw[Zca];simp⟩,xs++[runR L gapN],?_,?_⟩
   ·show EL _ _ (Ab (x.right.tail++[(N:Int)]));rw[Zdv,Zj1];exact ZtL h1' (EL_cons.2 ⟨upE_N.2 ⟨L,hn,hLo,rfl⟩,ZyI⟩)
   ·rw[ZcH hl hx hgo (xs:=xs) h1.1 (y:=ap (x,xs) gapN) (by rw[ZtO (hx x hm) (by omega)];exact hval) hLo,Zh8]
end
structure TSt (g:Ac) (all:List (List Ae)) (E:Int→Tree→Prop):Prop where
 base:∀ s z,s < g.vars→(E s z↔fits g z s=true)
 old:∀ v:Nat,v < g.vars.toNat→VS g E v (all.getD v [])
 new:∀ N:Nat,g.vars.toNat≤N→N < all.length→NS g E (N:Int) (all.getD N [])
 gap:∀ N:Nat,g.vars.toNat≤N→N < all.length→∀ z,E (N:Int) z→hgT z=true∧0≤z.rule
theorem Zj2 {all:List (List Ae)} {b:List Ae} {v u:Nat} (hv:v < all.length):(all.set v b).getD u []=if u=v then b else all.getD u []:=by
 by_cases h:u=v
 ·subst h;rw[Hb rfl,Hf,G8 hv];rfl
 ·rw[Ha h,Hf,GN (fun q=>h q.symm),←Hf]
theorem Zoy {all:List (List Ae)} {a b:List Ae} {v u:Nat} (hv:v < all.length):((all++[a]).set v b).getD u []=if u=v then b else if u=all.length then a else all.getD u []:=by
 rw[Zj2 (by simp;omega)];by_cases h:u=v
 ·rw[Hb h,Hb h]
 ·rw[Ha h,Ha h];by_cases h2:u=all.length
  ·subst h2;rw[Hb rfl,Hf,Gn (Hg _),Gg];rfl
  ·rw[Ha h2];by_cases h3:u < all.length
   ·rw[Hf,GL h3,←Hf]
   ·rw[Hf,HG (by simp;omega),Hf,HG (by omega)]
theorem TInv.syms {g:Ac} {all:List (List Ae)} (hI:TInv g all) (u:Nat):∀ w∈all.getD u [],∀ s∈w.right,s < (all.length:Int):=fun w hw s hs=>((hI.ok u w hw).sym s hs).2
theorem TInv.xok {g:Ac} {all:List (List Ae)} (hI:TInv g all) {u:Nat} (hu:u < g.vars.toNat):∀ w∈all.getD u [],XOk g all.length w:=fun w hw=>by
 have:=hI.ok u w hw;rw[Ht hu] at this;exact⟨_,_,this⟩
theorem TSt.itself {g:Ac} {all:List (List Ae)} {E:Int→Tree→Prop} (hI:TInv g all) (T:TSt g all E) {v:Nat} (hv:v < g.vars.toNat) {l:List Ae} (hl:VS g E v l) (hx:∀ x∈l,XOk g all.length x):∃ E',TSt g (Zbd all l v) E':=by
 have hva:v < all.length:=Gl hv hI.vars;have hvars:=hI.vars;unfold Zbd;split
 ·refine⟨E,T.base,fun u hu=>?_,fun u h1 h2=>?_,fun u h1 h2=>?_⟩
  ·rw[Zj2 hva];split
   ·rename_i e;subst e;exact hl
   ·exact T.old u hu
  ·rw[HI] at h2;rw[Zj2 hva,Ha (by omega)];exact T.new u h1 h2
  ·rw[HI] at h2;exact T.gap u h1 h2
 ·have hsy:=fun u w hw s hs z=>ZgJ (E:=E) (v:=v) (l:=l) (hI.syms u w hw s hs) z
  refine⟨upE E v l all.length,fun s z hs=>?_,fun u hu=>?_,fun u h1 h2=>?_,fun u h1 h2 z hz=>?_⟩
  ·rw[←ZgJ (by omega)];exact T.base s z hs
  ·rw[Zoy hva];split
   ·rename_i e;subst e;exact ZyO hl hx T.base (by omega)
   ·rw[Ha (by omega)];exact (T.old u hu).congr (hsy u)
  ·rw[HI,Hk,HZ] at h2;rw[Zoy hva,Ha (by omega)];split
   ·rename_i e;subst e;exact ZyQ hl hx
   ·exact (T.new u h1 (by omega)).congr (fun z=>ZgJ (by omega) z) (hsy u)
  ·rw[HI,Hk,HZ] at h2;by_cases e:u=all.length
   ·subst e;exact ZC5 hl hx (upE_N.1 hz)
   ·exact T.gap u h1 (by omega) z ((ZgJ (by omega) z).2 hz)
theorem ZBe {g:Ac}:TSt g (Za4 g) (E0 g) where
 base s z _:=Iff.rfl
 old v hv:=by rw[Zb2 hv];exact ZBd v
 new N h1 h2:=by rw[Zbl] at h2;omega
 gap N h1 h2:=by rw[Zbl] at h2;omega
mutual
def tyF (p:Int→Prop):Ad→Prop
 | .mk o n l=>(o=4→p n∧l≠[])∧tyL p l
def tyL (p:Int→Prop):List Ad→Prop
 | []=>True
 | x::r=>tyF p x∧tyL p r
end
theorem tyL_append {p:Int→Prop}:∀ {a b:List Ad},tyL p (a++b)↔tyL p a∧tyL p b
 | [],b=>by simp[tyL]
 | x::a,b=>by rw[Hv,tyL,tyL,tyL_append,and_assoc]
mutual
theorem ZBf {m:Int} {p p':Int→Prop}:∀ x:Ad,wfF m x→(∀ n∈kdF x,p n→p' n)→tyF p x→tyF p' x
 | .mk o n l,h,hk,ht=>by
  rw[wfF] at h;rw[tyF] at ht ⊢;rcases h with ⟨rfl,_,_,hl⟩|⟨rfl,rfl⟩|⟨rfl,_,rfl⟩|⟨rfl,hl⟩
  ·rw[ZyG] at hk;exact⟨fun q=>absurd q (by decide),Zh9 l hl hk ht.2⟩
  ·exact⟨fun q=>absurd q (by decide),trivial⟩
  ·exact⟨fun q=>absurd q (by decide),trivial⟩
  ·rw[Zvl] at hk;have:=ht.1 rfl;exact⟨fun _=>⟨hk n (by simp) this.1,this.2⟩,Zh9 l hl (fun q hq=>hk q (by simp[hq])) ht.2⟩
theorem Zh9 {m:Int} {p p':Int→Prop}:∀ l:List Ad,wfL m l→(∀ n∈kdL l,p n→p' n)→tyL p l→tyL p' l
 | [],_,_,_=>trivial
 | x::r,h,hk,ht=>by
  rw[kdL] at hk;exact⟨ZBf x h.1 (fun n hn=>hk n (by simp[hn])) ht.1,Zh9 r h.2 (fun n hn=>hk n (by simp[hn])) ht.2⟩
end
mutual
theorem ZC6 {m b:Int} {p p':Int→Prop} {inn:List Ad} (hi:tyL p' inn) (hne:inn≠[]) (hp:∀ n:Int,0 < n→p n→p' (n+b)):∀ x:Ad,wfF m x→nzF x→(∀ n∈kdF x,0≤n)→tyF p x→tyL p' (ptF 0 inn b x)∧ptF 0 inn b x≠[]
 | .mk o n l,h,hz,hk,ht=>by
  rw[wfF] at h;rw[nzF] at hz;rw[tyF] at ht;rw[ptF];rcases h with ⟨rfl,_,_,hl⟩|⟨rfl,rfl⟩|⟨rfl,h1,rfl⟩|⟨rfl,hl⟩
  ·rw[ZyG] at hk;rw[Ha (fun q=>absurd q.1 (by decide)),Ha (fun q=>absurd q.1 (by decide))];exact⟨⟨⟨fun q=>absurd q (by decide),(Zlo hi hne hp l hl hz.2 hk ht.2).1⟩,trivial⟩,by simp⟩
  ·by_cases e:n=0
   ·rw[Hb ⟨rfl,e⟩];exact⟨hi,hne⟩
   ·rw[Ha (fun q=>e q.2),Ha (fun q=>absurd q.1 (by decide))];exact⟨⟨⟨fun q=>absurd q (by decide),trivial⟩,trivial⟩,by simp⟩
  ·rw[Ha (fun q=>absurd q.1 (by decide)),Ha (fun q=>absurd q.1 (by decide))];exact⟨⟨⟨fun q=>absurd q (by decide),trivial⟩,trivial⟩,by simp⟩
  ·rw[Zvl] at hk;have h2:=hk n (by simp);have h3:¬ n=0:=fun q=>hz.1 ⟨rfl,q⟩
   have h4:=ht.1 rfl;rw[Ha (fun q=>absurd q.1 (by decide)),Ha (fun q=>h3 q.2),ZkA (.inr rfl),Hb (by omega)];obtain⟨k1,k2⟩:=Zlo hi hne hp l hl hz.2 (fun q hq=>hk q (by simp[hq])) ht.2;exact⟨⟨⟨fun _=>⟨hp n (by omega) h4.1,k2 h4.2⟩,k1⟩,trivial⟩,by simp⟩
theorem Zlo {m b:Int} {p p':Int→Prop} {inn:List Ad} (hi:tyL p' inn) (hne:inn≠[]) (hp:∀ n:Int,0 < n→p n→p' (n+b)):∀ l:List Ad,wfL m l→nzL l→(∀ n∈kdL l,0≤n)→tyL p l→tyL p' (ptL 0 inn b l)∧(l≠[]→ptL 0 inn b l≠[])
 | [],_,_,_,_=>⟨trivial,fun h=>absurd rfl h⟩
 | x::r,h,hz,hk,ht=>by
  rw[kdL] at hk;obtain⟨a1,a2⟩:=ZC6 hi hne hp x h.1 hz.1 (fun n hn=>hk n (by simp[hn])) ht.1;obtain⟨b1,b2⟩:=Zlo hi hne hp r h.2 hz.2 (fun n hn=>hk n (by simp[hn])) ht.2;rw[ptL];exact⟨tyL_append.2 ⟨a1,b1⟩,fun _ q=>a2 (List.append_eq_nil_iff.1 q).1⟩
end
def Zr1 (g:Ac) (right:List Int) (n:Int):Prop:=∃ s,(Ab right)[n.toNat]? = some s∧g.vars≤s
structure ZOk (g:Ac) (x:Ae):Prop where
 ne:x.l≠[]
 ty:tyL (Zr1 g x.right) x.l
theorem ZC7 {g:Ac} {N u:Nat} {x y:Ae} (hx:XOk g N x) (hy:XOk g N y) (hu:hdI x.right=(u:Int)) (zx:ZOk g x) (zy:ZOk g y):ZOk g (mixW x y):=by
 have hk:=ZiV hx.ne (by omega);obtain⟨B,C,tx⟩:=hx;obtain⟨B',C',ty⟩:=hy;have e:(mixW x y).l=ptL 0 y.l (((Ab y.right).length:Int) - 1) x.l:=by
  show ZeJ x.l 0 y.l _=_;unfold ZeJ;rw[ZbP]
 have hkm:Ab (mixW x y).right=Ab y.right++Ab x.right.tail:=Zdv _ _;have hi:tyL (Zr1 g (mixW x y).right) y.l:=Zh9 y.l ty.wf (fun n hn ⟨s,h1,h2⟩=>⟨s,by
  have:=upTo_mem.1 (ty.kd.mem_iff.1 hn);rw[hkm,GL (by omega)];exact h1,h2⟩) zy.ty
 obtain⟨h1,h2⟩:=Zlo (p:=Zr1 g x.right) (p':=Zr1 g (mixW x y).right) (b:=((Ab y.right).length:Int) - 1) hi zy.ne (fun n hn ⟨s,h1,h2⟩=>⟨s,by
  obtain⟨j,rfl⟩:∃ j:Nat,n=(j:Int)+1:=⟨(n - 1).toNat,by omega⟩
  rw[hk,show ((j:Int)+1).toNat=j+1 by omega,JP] at h1;rw[hkm,show ((j:Int)+1+(((Ab y.right).length:Int) - 1)).toNat=(Ab y.right).length+j by omega,Gn (by omega),Nat.add_sub_cancel_left];exact h1,h2⟩) x.l tx.wf (tx.nz rfl (by omega)) tx.kd0 zx.ty
 exact⟨by rw[e];exact h2 zx.ne,by rw[e];exact h1⟩
theorem Zvn {g:Ac} {N u:Nat} {x:Ae} (hx:XOk g N x) (hu:hdI x.right=(u:Int)) (zx:ZOk g x):ZOk g (ZbA x):=by
 have hk:=ZiV hx.ne (by omega);obtain⟨B,C,tx⟩:=hx;have e:(ZbA x).l=ptL 0 [gapF] (-1) x.l:=by
  show ZeJ x.l 0 [gapF] 0=_;unfold ZeJ;rw[ZbP];rfl
 obtain⟨h1,h2⟩:=Zlo (p:=Zr1 g x.right) (p':=Zr1 g (ZbA x).right) (b := -1) (inn:=[gapF]) ⟨⟨fun q=>absurd q (by decide),trivial⟩,trivial⟩ (by simp) (fun n hn ⟨s,h1,h2⟩=>⟨s,by
  obtain⟨j,rfl⟩:∃ j:Nat,n=(j:Int)+1:=⟨(n - 1).toNat,by omega⟩
  rw[hk,show ((j:Int)+1).toNat=j+1 by omega,JP] at h1;rw[show ((j:Int)+1 + -1).toNat=j by omega];exact h1,h2⟩) x.l tx.wf (tx.nz rfl (by omega)) tx.kd0 zx.ty
 exact⟨by rw[e];exact h2 zx.ne,by rw[e];exact h1⟩
theorem ZtR {g:Ac} {B C M N:Nat} {o:Bool} {x:Ae} (hx:TOk g B C M o x) (hN:g.vars≤(N:Int)) (zx:ZOk g x):∀ w∈ZbT (N:Int) x,ZOk g w:=fun w hw=>by
 rw[Zca] at hw;rcases List.mem_cons.1 hw with rfl|hw
 ·exact zx
 ·rw[List.mem_singleton.1 hw];have hkm:Ab (wthN N x).right=Ab x.right++[(N:Int)]:=by
   show Ab (x.right++[(N:Int)])=_;rw[Zdv,Zj1]
  refine⟨by simp[wthN],⟨fun _=>⟨⟨N,?_,hN⟩,zx.ne⟩,Zh9 x.l hx.wf (fun n hn ⟨s,h1,h2⟩=>⟨s,?_,h2⟩) zx.ty⟩,trivial⟩
  ·rw[hkm,Hn,Gn (Hg _),Gg];rfl
  ·have:=upTo_mem.1 (hx.kd.mem_iff.1 hn);rw[hkm,GL (by omega)];exact h1
theorem Zm5 {g:Ac} {N:Nat} {all:List (List Ae)}:∀ (n u:Nat) {l l':List Ae},u+n≤g.vars.toNat→(∀ w,w < u+n→∀ y∈all.getD w [],XOk g N y∧ZOk g y)→(∀ x∈l,XOk g N x∧ZOk g x)→Zb9 all u n l=some l'→∀ x∈l',XOk g N x∧ZOk g x
 | 0,u,l,l',_,_,h2,h=>by rw[Zb9] at h;cases h;exact h2
 | n+1,u,l,l',hn,hA,h2,h=>by
  rw[Zb9] at h;cases hc:ZbJ (all.getD u []) u l [] with
  | none=>rw[hc] at h;cases h
  | some l1 =>
   rw[hc] at h;have e:=Zh7 hc;rw[H6] at e;subst e;refine Zm5 n (u+1) (by omega) (fun w hw=>hA w (by omega)) (fun w hw=>?_) h;obtain⟨x,hxl,hw⟩:=List.mem_flatMap.1 hw;rcases Zgw hw with ⟨_,rfl⟩|⟨hu,y,hyA,rfl⟩
   ·exact h2 _ hxl
   ·have hy:=hA u (by omega) y hyA;have hx:=h2 x hxl;exact⟨hx.1.mix hy.1 hu,ZC7 hx.1 hy.1 hu hx.2 hy.2⟩
theorem Zvo {g:Ac} {all:List (List Ae)} (hI:TInv g all) (hz:∀ u,∀ w∈all.getD u [],ZOk g w) {v:Nat} (hv:v < g.vars.toNat) {l:List Ae} (hl:∀ x∈l,XOk g all.length x∧ZOk g x):∀ u,∀ w∈(Zbd all l v).getD u [],ZOk g w:=by
 have hva:v < all.length:=Gl hv hI.vars;have hvars:=hI.vars;intro u w hw;unfold Zbd at hw;split at hw
 ·rw[Zj2 hva] at hw;split at hw
  ·exact (hl w hw).2
  ·exact hz u w hw
 ·rw[Zoy hva] at hw;split at hw
  ·obtain⟨x,hxo,hw⟩:=List.mem_flatMap.1 hw;obtain⟨⟨B,C,tx⟩,zx⟩:=hl x (List.mem_filter.1 hxo).1;exact ZtR tx (by omega) zx w hw
  ·split at hw
   ·obtain⟨y,hyo,hw⟩:=List.mem_flatMap.1 hw;obtain⟨x,hm,rfl⟩:=List.mem_map.1 hyo;obtain⟨h1,h2⟩:=List.mem_filter.1 hm;have h2:=H3 h2;obtain⟨hx,zx⟩:=hl x h1;have hzg:=Zvn hx h2 zx;obtain⟨B,C,tx⟩:=hx;exact ZtR (Zf8 tx (by omega)) (by omega) hzg w hw
   ·exact hz u w hw
mutual
theorem ZBg (p:Int→Prop) (k:Nat):tyL p (ZaE k):=by
 unfold ZaE;have:∀ l:List Nat,tyL p (l.map fun (i:Nat)=>Ad.mk 2 (i:Int) []):=by
  intro l
  induction l with
  | nil=>trivial
  | cons i l ih=>exact⟨⟨fun q=>absurd q (by decide),trivial⟩,ih⟩
 exact this _
end
theorem ZyR {g:Ac}:∀ u,∀ w∈(Za4 g).getD u [],ZOk g w:=fun u w hw=>by
 by_cases hu:u < g.vars.toNat
 ·rw[Zb2 hu] at hw;obtain⟨r,hr,e,rfl⟩:=Zqx hw;exact⟨by simp[ZaJ],⟨⟨fun q=>absurd q (by decide),ZBg _ _⟩,trivial⟩⟩
 ·rw[Zd0 hu] at hw;cases hw
theorem ZyS {g:Ac} (hg:g.ok):∀ (n v:Nat) {all z:List (List Ae)} {E:Int→Tree→Prop},v+n≤g.vars.toNat→TInv g all→TSt g all E→(∀ u,∀ w∈all.getD u [],ZOk g w)→ZbF v n all=.ok z→(∃ E',TSt g z E')∧∀ u,∀ w∈z.getD u [],ZOk g w
 | 0,v,all,z,E,_,_,T,hz,h=>by rw[ZbF] at h;cases h;exact⟨⟨E,T⟩,hz⟩
 | n+1,v,all,z,E,hn,hI,T,hz,h=>by
  rw[ZbF] at h;cases hc:Zb9 all 0 v (all.getD v []) with
  | none=>rw[hc] at h;cases h
  | some l =>
   rw[hc] at h;dsimp only at h;split at h
   ·rename_i hf;have h1:=ZjV hg hI (by omega) hc hf;obtain⟨k1,k2⟩:=Zqw T.base v 0 (by omega) (fun w hw=>⟨T.old w (by omega),hI.xok (by omega)⟩) (T.old v (by omega)) (hI.xok (by omega)) hc;have k3:=Zm5 v 0 (by omega) (fun w hw y hy=>⟨hI.xok (by omega) y hy,hz w y hy⟩) (fun x hx=>⟨hI.xok (by omega) x hx,hz v x hx⟩) hc;obtain⟨E',T'⟩:=T.itself hI (by omega) k1 k2;exact ZyS hg n (v+1) (by omega) h1 T' (Zvo hI hz (by omega) k3) h
   ·cases h
def entW:List (List Ae)→Nat→List (Nat×Ae)
 | [],_=>[]
 | l::r,v=>l.map (fun w=>(v,w))++entW r (v+1)
theorem ZiX:∀ (z:List (List Ae)) (v:Nat),Zbg z v=(entW z v).map (fun e=>(⟨(e.1:Int),e.2.right⟩:Rule))∧ZaT z=(entW z v).map (fun e=>e.2.l)
 | [],v=>⟨rfl,rfl⟩
 | l::r,v=>by
  obtain⟨h1,h2⟩:=ZiX r (v+1);rw[Zbg,ZaT,entW,Ho,Ho,H8,H8,h1,h2];exact⟨rfl,rfl⟩
theorem entW_mem:∀ {z:List (List Ae)} {v:Nat} {e:Nat×Ae},e∈entW z v↔∃ u w,w∈z.getD u []∧e=(v+u,w)
 | [],v,e=>by simp[entW]
 | l::r,v,e=>by
  rw[entW,HU,entW_mem (z:=r)];constructor
  ·rintro (h|⟨u,w,h1,h2⟩)
   ·obtain⟨w,hw,rfl⟩:=List.mem_map.1 h;exact⟨0,w,by simpa using hw,rfl⟩
   ·exact⟨u+1,w,by simpa using h1,by rw[h2,show v+1+u=v+(u+1) by omega]⟩
  ·rintro⟨u,w,h1,rfl⟩;cases u with
   | zero=>exact .inl (List.mem_map.2 ⟨w,by simpa using h1,rfl⟩)
   | succ u=>exact .inr ⟨u,w,by simpa using h1,by rw[show v+1+u=v+(u+1) by omega]⟩
theorem ZyT {R:Nat→Ae→Ae→Prop}:∀ (z:List (List Ae)) (v:Nat),(∀ u,(z.getD u []).Pairwise (R (v+u)))→(entW z v).Pairwise fun e e'=>e.1=e'.1→R e.1 e.2 e'.2
 | [],v,_=>H7
 | l::r,v,h=>by
  rw[entW,List.pairwise_append];refine⟨?_,ZyT r (v+1) (fun u=>by have:=h (u+1);rw[show v+(u+1)=v+1+u by omega] at this;simpa using this),fun e he e' he' q=>?_⟩
  ·rw[Gd];have:=h 0;have h2:l.Pairwise (R v):=by simpa using this
   exact List.Pairwise.imp (fun {a b} hr (_:v=v)=>hr) h2
  ·obtain⟨w,_,rfl⟩:=List.mem_map.1 he;obtain⟨u,w',_,rfl⟩:=entW_mem.1 he';dsimp only at q;omega
theorem ZyU {z:List (List Ae)} {e:Nat×Ae} (h:e∈entW z 0):e.2∈z.getD e.1 []∧e.1 < z.length:=by
 obtain⟨u,w,hw,rfl⟩:=entW_mem.1 h;rw[HD];refine⟨hw,HN fun hn=>?_⟩;rw[Hf,HG (by omega)] at hw;cases hw
section
variable {g:Ac} {z:List (List Ae)} {E:Int→Tree→Prop}
abbrev ZdC (g:Ac) (z:List (List Ae)):Ac:=⟨(z.length:Nat),g.terms,g.start,Zbg z 0⟩
theorem Zqy {r:Nat} (hr:r < (ZdC g z).Aa.length):∃ e,∃ he:r < (entW z 0).length,(entW z 0)[r]=e∧e.2∈z.getD e.1 []∧e.1 < z.length∧(ZdC g z).Aa[r]=⟨(e.1:Int),e.2.right⟩∧(ZaT z).getD r []=e.2.l:=by
 obtain⟨h1,h2⟩:=ZiX z 0;have hr:r < (Zbg z 0).length:=hr;have he:r < (entW z 0).length:=by rw[h1,Hh] at hr;exact hr
 obtain⟨k1,k2⟩:=ZyU (He he);refine⟨_,he,rfl,k1,k2,?_,?_⟩
 ·show (Zbg z 0)[r]=_;simp only[h1,Gu]
 ·rw[h2,Hf,Gf,Hj he];rfl
theorem TSt.one (T:TSt g z E) {u:Nat} (hu:u < z.length) {w:Ae} (hw:w∈z.getD u []) {xs:List Tree} (hx:EL E xs (Ab w.right)):∃ y,muL (sing xs) w.l=[y]∧E (u:Int) y∧gwT g y=gwK g w.right xs∧∀ k∈xs,c0T k < c0T y:=by
 by_cases h:u < g.vars.toNat
 ·have V:=T.old u h;obtain⟨y,h1,_,h3,h4⟩:=(V.ws w hw).one xs (Zqu hx);exact⟨y,h1,(T.base _ _ (by omega)).2 ((V.ws w hw).fit xs y hx h1),h3,h4⟩
 ·exact (T.new u (by omega) hu).one w hw xs hx
theorem TSt.inj (T:TSt g z E) {u:Nat} (hu:u < z.length) {w:Ae} (hw:w∈z.getD u []) {xs xs':List Tree} (hx:EL E xs (Ab w.right)) (hx':EL E xs' (Ab w.right)) (he:muL (sing xs) w.l=muL (sing xs') w.l):xs=xs':=by
 by_cases h:u < g.vars.toNat
 ·exact ((T.old u h).ws w hw).inj xs xs' (Zqu hx) (Zqu hx') he
 ·exact (T.new u (by omega) hu).inj w hw xs xs' hx hx' he
def DisE (E:Int→Tree→Prop) (w w':Ae):Prop:=∀ xs xs',EL E xs (Ab w.right)→EL E xs' (Ab w'.right)→muL (sing xs) w.l≠muL (sing xs') w'.l
theorem TSt.dis (T:TSt g z E) (u:Nat):(z.getD u []).Pairwise (DisE E):=by
 by_cases hu:u < z.length
 ·by_cases h:u < g.vars.toNat
  ·exact List.Pairwise.imp (fun {a b} hd xs xs' q q'=>hd xs xs' (Zqu q) (Zqu q')) (T.old u h).dis
  ·exact (T.new u (by omega) hu).dis
 ·rw[Hf,HG (by omega)];exact H7
theorem TSt.surj (T:TSt g z E) {u:Nat} (hu:u < z.length) {y:Tree} (hy:E (u:Int) y):∃ w∈z.getD u [],∃ xs,EL E xs (Ab w.right)∧muL (sing xs) w.l=[y]:=by
 by_cases h:u < g.vars.toNat
 ·exact (T.old u h).surj y ((T.base _ _ (by omega)).1 hy)
 ·exact (T.new u (by omega) hu).surj y hy
theorem TSt.leads (T:TSt g z E):ZfS (ZdC g z) (ZaT z) (oneD E) (gW g) (fun _ l=>c0L l) where
 sound r hr ls hd:=by
  obtain⟨⟨u,w⟩,he,e0,e1,e2,e3,e4⟩:=Zqy (g:=g) hr;dsimp only at e1 e2 e3 e4;rw[e3] at hd ⊢;dsimp only at hd ⊢;rw[e4];obtain⟨xs,rfl,hx⟩:=Zkf hd;obtain⟨y,h1,h2,h3,_⟩:=T.one e2 e1 hx;rw[h1,Zot];refine⟨⟨y,rfl,h2⟩,?_⟩;rw[←h3];simp
 inj r r' hr hr' ls ls' hl hd hd' he:=by
  obtain⟨⟨u,w⟩,hu,e0,e1,e2,e3,e4⟩:=Zqy (g:=g) hr;obtain⟨⟨u',w'⟩,hu',f0,f1,f2,f3,f4⟩:=Zqy (g:=g) hr';dsimp only at e1 e2 e3 e4 f1 f2 f3 f4;rw[e3] at hd hl;rw[f3] at hd' hl;dsimp only at hd hd' hl;rw[e4,f4] at he;obtain⟨xs,rfl,hx⟩:=Zkf hd;obtain⟨xs',rfl,hx'⟩:=Zkf hd';obtain rfl:u=u':=by omega
  have hpw:=List.pairwise_iff_getElem.1 (ZyT (R:=fun _=>DisE E) z 0 fun u=>T.dis u);have hrr:r=r':=by
   rcases G3 r r' with q|q|q
   ·have:=hpw r r' hu hu' q;rw[e0,f0] at this;exact absurd he (this rfl _ _ hx hx')
   ·exact q
   ·have:=hpw r' r hu' hu q;rw[e0,f0] at this;exact absurd he.symm (this rfl _ _ hx' hx)
  subst hrr;rw[e0] at f0;obtain⟨_,rfl⟩:=Jc f0;exact⟨rfl,by rw[T.inj e2 e1 hx hx' he]⟩
 surj v l h0 h1 hd:=by
  obtain⟨y,rfl,hy⟩:=hd;obtain⟨u,rfl⟩:∃ u:Nat,v=(u:Int):=⟨v.toNat,by omega⟩
  have hu:u < z.length:=by
   have:(u:Int) < ((z.length:Nat):Int):=h1
   omega
  obtain⟨w,hw,xs,hx,hv⟩:=T.surj hu hy;obtain⟨r,hr,e⟩:=List.mem_iff_getElem.1 (entW_mem.2 ⟨u,w,hw,rfl⟩:((0+u,w):Nat×Ae)∈entW z 0);have hrl:r < (ZdC g z).Aa.length:=by
   show r < (Zbg z 0).length;rw[(ZiX z 0).1,Hh];exact hr
  obtain⟨⟨u',w'⟩,_,e0,e1,e2,e3,e4⟩:=Zqy (g:=g) hrl;rw[e,HD] at e0;obtain⟨rfl,rfl⟩:=Jc e0;dsimp only at e3 e4;refine⟨r,hrl,sing xs,by rw[e3],by rw[e3];exact ZBw hx,by rw[e4,hv],fun i h1 h2=>?_⟩;obtain⟨y',k1,_,_,k4⟩:=T.one hu hw hx;obtain rfl:y=y':=by rw[hv] at k1;simpa using k1
  rw[Zex] at h1;have:=k4 _ (He h1);simp only[sing,Gu,c0L];omega
end
mutual
def gfT:Tree→Bool
 | .mk r ks=>if r = -1 then decide (ks.length=0) else gfL ks
def gfL:List Tree→Bool
 | []=>true
 | x::l=>gfT x && gfL l
end
theorem ZiY:∀ a b:List Tree,gfL (a++b)=(gfL a && gfL b)
 | [],b=>by simp[gfL]
 | x::a,b=>by rw[Hv,gfL,gfL,ZiY a b,Bool.and_assoc]
mutual
theorem ZC8 {w:List Tree} (hw:gfL w=true):∀ x:Tree,gfT x=true→gfL (Zfr w x)=true
 | .mk r ks,h=>by
  rw[gfT] at h;rw[Zfr];by_cases hr:r = -1
  ·rw[Hb hr];exact hw
  ·rw[Ha hr] at h ⊢;rw[gfL,gfT,Ha hr,Zoz hw ks h];rfl
theorem Zoz {w:List Tree} (hw:gfL w=true):∀ l:List Tree,gfL l=true→gfL (ZaW w l)=true
 | [],_=>rfl
 | x::l,h=>by
  rw[gfL,Hr] at h;rw[ZaW,ZiY,ZC8 hw x h.1,Zoz hw l h.2];rfl
end
mutual
theorem ZEe {m:Int} {ks:List (List Tree)} (hk:∀ l∈ks,gfL l=true):∀ x:Ad,wfF m x→gfL (muF ks x)=true
 | .mk o n l,h=>by
  have hg:∀ n:Nat,gfL (ks.getD n [])=true:=fun n=>by
   rw[Hf];by_cases q:n < ks.length
   ·rw[Hj q];exact hk _ (He q)
   ·rw[HG (by omega)];rfl
  rw[wfF] at h;rcases h with ⟨rfl,h1,_,hl⟩|⟨rfl,rfl⟩|⟨rfl,_,rfl⟩|⟨rfl,hl⟩
  ·rw[Zqs,gfL,gfT,Ha (by omega),ZtS hk l hl];rfl
  ·rw[Zoq];exact hg _
  ·rw[Zqt];rfl
  ·rw[Zor];exact Zoz (ZtS hk l hl) _ (hg _)
theorem ZtS {m:Int} {ks:List (List Tree)} (hk:∀ l∈ks,gfL l=true):∀ l:List Ad,wfL m l→gfL (muL ks l)=true
 | [],_=>rfl
 | x::r,h=>by rw[muL,ZiY,ZEe hk x h.1,ZtS hk r h.2];rfl
end
theorem ZBh {l:List Tree} (h:l≠[]):1≤cnts l:=by
 cases l with
 | nil=>exact absurd rfl h
 | cons x l=>have:=ZfZ x;rw[cnts];omega
mutual
theorem ZEf {w:List Tree}:∀ x:Tree,hgT x=true→cnts w≤cnts (Zfr w x)
 | .mk r ks,h=>by
  rw[hgT,Gi,HY] at h;rw[Zfr];by_cases hr:r = -1
  ·rw[Hb hr];exact Hg _
  ·rw[Ha hr];have:=ZoA (w:=w) ks (h.resolve_left hr);simp only[cnts,cnt];omega
theorem ZoA {w:List Tree}:∀ l:List Tree,hgL l=true→cnts w≤cnts (ZaW w l)
 | [],h=>by rw[hgL] at h;cases h
 | x::l,h=>by
  rw[hgL,Gi] at h;rw[ZaW,ZaI];rcases h with h|h
  ·have:=ZEf (w:=w) x h;omega
  ·have:=ZoA (w:=w) l h;omega
end
mutual
theorem ZEg {w:List Tree} (hw:w≠[]):∀ x:Tree,gfT x=true→cnt x≤cnts (Zfr w x)
 | .mk r ks,h=>by
  rw[gfT] at h;rw[Zfr];by_cases hr:r = -1
  ·rw[Hb hr] at h ⊢;have h1:=ZBh hw;obtain rfl:ks=[]:=HW (H3 h);simp only[cnt,cnts];omega
  ·rw[Ha hr] at h ⊢;have:=Zr2 hw ks h;simp only[cnts,cnt];omega
theorem Zr2 {w:List Tree} (hw:w≠[]):∀ l:List Tree,gfL l=true→cnts l≤cnts (ZaW w l)
 | [],_=>by simp[cnts]
 | x::l,h=>by
  rw[gfL,Hr] at h;have h1:=ZEg hw x h.1;have h2:=Zr2 hw l h.2;rw[ZaW,ZaI,cnts];omega
end
theorem ZC9 {w:List Tree} (hw:w≠[]):∀ {l:List Tree},l≠[]→ZaW w l≠[]
 | [],h=>absurd rfl h
 | x::l,_=>by
  rw[ZaW];intro q;have:=(List.append_eq_nil_iff.1 q).1;rw[ZjD] at this;split at this
  ·exact hw this
  ·cases this
section
variable {m:Int} {p:Int→Prop} {ks:List (List Tree)}
mutual
theorem ZEh:∀ x:Ad,wfF m x→tyF p x→(∀ n∈kdF x,ks.getD n.toNat []≠[])→muF ks x≠[]
 | .mk o n l,h,ht,hk=>by
  rw[wfF] at h;rw[tyF] at ht;rcases h with ⟨rfl,_,_,hl⟩|⟨rfl,rfl⟩|⟨rfl,_,rfl⟩|⟨rfl,hl⟩
  ·rw[Zqs];simp
  ·rw[Zoq];exact hk n (by rw[ZkB];simp)
  ·rw[Zqt];simp
  ·rw[Zvl] at hk;rw[Zor];exact ZC9 (ZBO l hl ht.2 (fun q hq=>hk q (by simp[hq])) (ht.1 rfl).2) (hk n (by simp))
theorem ZBO:∀ l:List Ad,wfL m l→tyL p l→(∀ n∈kdL l,ks.getD n.toNat []≠[])→l≠[]→muL ks l≠[]
 | [],_,_,_,h=>absurd rfl h
 | x::r,h,ht,hk,_=>by
  rw[kdL] at hk;rw[muL];intro q;exact ZEh x h.1 ht.1 (fun n hn=>hk n (by simp[hn])) (List.append_eq_nil_iff.1 q).1
end
mutual
theorem ZBi (hp:∀ n,p n→hgL (ks.getD n.toNat [])=true):∀ x:Ad,wfF m x→tyF p x→cnts (muF ks x)≤400→mkF ks x=some (muF ks x)
 | .mk o n l,h,ht,hc=>by
  rw[wfF] at h;rw[tyF] at ht;rcases h with ⟨rfl,_,_,hl⟩|⟨rfl,rfl⟩|⟨rfl,_,rfl⟩|⟨rfl,hl⟩
  ·rw[Zqs] at hc ⊢;simp only[cnts,cnt] at hc;rw[mkF,Hb rfl,Zj3 hp l hl ht.2 (by omega)];show ((ZbU (muL ks l)).map _)=_;unfold ZbU;rw[Hb (by omega)];rfl
  ·rw[Zoq,mkF,Ha (by decide),Hb rfl]
  ·rw[Zqt,mkF,Ha (by decide),Ha (by decide),Hb rfl]
  ·rw[Zor] at hc ⊢;have h1:=ZoA (w:=muL ks l) _ (hp n (ht.1 rfl).1);rw[mkF,Ha (by decide),Ha (by decide),Ha (by decide),Hb rfl,Zj3 hp l hl ht.2 (by omega)];show ((ZbU (muL ks l)).bind _)=_;unfold ZbU;rw[Hb (by omega)];show (if _ then _ else _)=_;rw[Hb hc]
theorem Zj3 (hp:∀ n,p n→hgL (ks.getD n.toNat [])=true):∀ l:List Ad,wfL m l→tyL p l→cnts (muL ks l)≤400→mkA ks l=some (muL ks l)
 | [],_,_,_=>rfl
 | x::r,h,ht,hc=>by
  rw[muL,ZaI] at hc;rw[mkA,ZBi hp x h.1 ht.1 (by omega),Zj3 hp r h.2 ht.2 (by omega),muL];rfl
end
mutual
theorem ZBj (hg:∀ n:Nat,gfL (ks.getD n [])=true):∀ x:Ad,wfF m x→tyF p x→(∀ n∈kdF x,ks.getD n.toNat []≠[])→(∀ n,p n→hgL (ks.getD n.toNat [])=true)→∀ n∈kdF x,cnts (ks.getD n.toNat [])≤cnts (muF ks x)
 | .mk o n l,h,ht,hk,hp=>by
  intro q hq;rw[wfF] at h;rw[tyF] at ht;rcases h with ⟨rfl,_,_,hl⟩|⟨rfl,rfl⟩|⟨rfl,_,rfl⟩|⟨rfl,hl⟩
  ·rw[ZyG] at hk hq;have:=Zj4 hg l hl ht.2 hk hp q hq;rw[Zqs];simp only[cnts,cnt];omega
  ·rw[ZkB] at hq;rw[List.mem_singleton.1 hq,Zoq];exact Hg _
  ·rw[kdF,Ha (by decide),Ha (by decide),Ha (by decide)] at hq;cases hq
  ·rw[Zvl] at hk hq;have hk':∀ n∈kdL l,ks.getD n.toNat []≠[]:=fun q hq=>hk q (by simp[hq])
   rw[Zor];rcases List.mem_cons.1 hq with rfl|hq
   ·exact Zr2 (ZBO l hl ht.2 hk' (ht.1 rfl).2) _ (hg _)
   ·have h1:=Zj4 hg l hl ht.2 hk' hp q hq;have h2:=ZoA (w:=muL ks l) _ (hp n (ht.1 rfl).1);omega
theorem Zj4 (hg:∀ n:Nat,gfL (ks.getD n [])=true):∀ l:List Ad,wfL m l→tyL p l→(∀ n∈kdL l,ks.getD n.toNat []≠[])→(∀ n,p n→hgL (ks.getD n.toNat [])=true)→∀ n∈kdL l,cnts (ks.getD n.toNat [])≤cnts (muL ks l)
 | [],_,_,_,_=>fun q hq=>by rw[kdL] at hq;cases hq
 | x::r,h,ht,hk,hp=>by
  intro q hq;rw[kdL] at hk hq;rw[muL,ZaI];rcases List.mem_append.1 hq with hq|hq
  ·have:=ZBj hg x h.1 ht.1 (fun n hn=>hk n (by simp[hn])) hp q hq;omega
  ·have:=Zj4 hg r h.2 ht.2 (fun n hn=>hk n (by simp[hn])) hp q hq;omega
end
end
section
variable {g:Ac} {z:List (List Ae)} {E:Int→Tree→Prop}
theorem ZoB (T:TSt g z E) (hI:TInv g z) (hz:∀ u,∀ w∈z.getD u [],ZOk g w):∀ (n:Nat) (t:Tree) (v:Int),cnt t≤n→fits (ZdC g z) t v=true→gfL (vaT ⟨ZdC g z,ZaT z,[]⟩ t)=true∧(cnts (vaT ⟨ZdC g z,ZaT z,[]⟩ t)≤400→okT ⟨ZdC g z,ZaT z,[]⟩ t)
 | 0,t,_,hn,_=>by have:=ZfZ t;omega
 | n+1,t,v,hn,hf=>by
  obtain⟨r,hr,e1,e2,e3,e4,_⟩:=ZaR hf;obtain⟨⟨u,w⟩,he,e0,f1,f2,f3,f4⟩:=Zqy (g:=g) hr;dsimp only at f1 f2 f3 f4;have hto:=hI.ok u w f1;have hzo:=hz u w f1;rw[f3] at e2 e3 e4;dsimp only at e2 e3 e4;have hsub:∀ x∈t.Ab,cnt x≤n:=fun x hx=>by
   have:=Zbq hx;rw[Zcz] at hn;omega
  have hL:ZfS (ZdC g z) (⟨ZdC g z,ZaT z,[]⟩:Step).frags (oneD E) (gW g) (fun _ l=>c0L l):=T.leads;have hrow:∀ (i:Nat) (h1:i < t.Ab.length) (h2:i < (Ab w.right).length),oneD E (Ab w.right)[i] (vaT ⟨ZdC g z,ZaT z,[]⟩ t.Ab[i]):=fun i h1 h2 =>
   (ZcR hL _ _ _ (Hg _) (Zbt e4 h1 h2)).1
  have hgk:∀ l∈vaL ⟨ZdC g z,ZaT z,[]⟩ t.Ab,gfL l=true:=fun l hl=>by
   obtain⟨i,hi,rfl⟩:=List.mem_iff_getElem.1 hl;rw[Zd6] at hi;rw[Zfi _ _ i hi];exact (ZoB T hI hz n _ _ (hsub _ (He hi)) (Zbt e4 hi (by omega))).1
  have hgn:∀ i:Nat,gfL ((vaL ⟨ZdC g z,ZaT z,[]⟩ t.Ab).getD i [])=true:=fun i=>by
   rw[Hf];by_cases q:i < (vaL ⟨ZdC g z,ZaT z,[]⟩ t.Ab).length
   ·rw[Hj q];exact hgk _ (He q)
   ·rw[HG (by omega)];rfl
  have hat:∀ i:Nat,i < t.Ab.length→∃ s y,(Ab w.right)[i]? = some s∧E s y∧(vaL ⟨ZdC g z,ZaT z,[]⟩ t.Ab).getD i []=[y]:=fun i hi=>by
   obtain⟨y,h1,h2⟩:=hrow i hi (by omega);refine⟨_,y,Hj (by omega),h2,?_⟩;rw[Hf,Hj (by rw[Zd6];exact hi),HV,Zfi _ _ i hi,h1]
  have hkd:∀ q∈kdL w.l,0≤q∧q.toNat < t.Ab.length:=fun q hq=>by
   have:=upTo_mem.1 (hto.kd.mem_iff.1 hq);omega
  have hne:∀ q∈kdL w.l,(vaL ⟨ZdC g z,ZaT z,[]⟩ t.Ab).getD q.toNat []≠[]:=fun q hq=>by
   obtain⟨s,y,_,_,h3⟩:=hat _ (hkd q hq).2;rw[h3];simp
  have hp:∀ q,Zr1 g w.right q→hgL ((vaL ⟨ZdC g z,ZaT z,[]⟩ t.Ab).getD q.toNat [])=true:=fun q ⟨s,h1,h2⟩=>by
   have hlt:q.toNat < (Ab w.right).length:=HN fun hn=>by
    rw[HG (by omega)] at h1;cases h1
   obtain⟨s',y,k1,k2,k3⟩:=hat q.toNat (by omega);rw[h1] at k1;cases k1;have hmem:s∈w.right:=(List.mem_filter.1 (Jl h1)).1;have h0:0≤s:=H3 (List.mem_filter.1 (Jl h1)).2;have hs:=(hto.sym s hmem).2;obtain⟨N,rfl⟩:∃ N:Nat,s=(N:Int):=⟨s.toNat,by omega⟩
   have:=(T.gap N (by omega) (by omega) y k2).1;rw[k3,hgL,this];rfl
  have hfr:(⟨ZdC g z,ZaT z,[]⟩:Step).frags.getD t.rule.toNat []=w.l:=by
   rw[e1,Hn];exact f4
  refine⟨?_,fun hc=>?_⟩
  ·rw[Zkc,hfr];exact ZtS hgk w.l hto.wf
  ·rw[Zkc,hfr] at hc;rw[ZvG,hfr];refine⟨(Zkd _ _).2 fun x hx=>?_,?_⟩
   ·obtain⟨k,hk,rfl⟩:=List.mem_iff_getElem.1 hx;refine (ZoB T hI hz n _ _ (hsub _ hx) (Zbt e4 hk (by omega))).2 ?_;have hmem:(k:Int)∈kdL w.l:=hto.kd.mem_iff.2 (upTo_mem.2 (by omega));have:=Zj4 hgn w.l hto.wf hzo.ty hne hp _ hmem;rw[Hn,Hf,Hj (by rw[Zd6];exact hk),HV,Zfi _ _ k hk] at this;omega
   ·unfold mkL;rw[Zj3 hp w.l hto.wf hzo.ty hc];show ZbU _=_;unfold ZbU;rw[Hb hc]
end
theorem ZyV {g:Ac} (hg:g.ok) (he:∀ r∈g.Aa,r.right≠[]) (hc:cycL g=[]) {z:List (List Ae)} (hz:ZbF 0 g.vars.toNat (Za4 g)=.ok z):cycL (ZdC g z)=[]:=by
 have hH:=Zm0 hg g.vars.toNat 0 (by omega) (Zgu hg he) (ZA8 hg he hc) hz;have hgk:(ZdC g z).ok:=ZjX hg he hz;have hv0:=hg.vars1;have hrow:∀ r∈Zbg z 0,0≤r.left∧∃ w∈z.getD r.left.toNat [],r.right=w.right:=fun r hr=>by
  obtain⟨b1,b2,w,b3,b4⟩:=Zfq hr;exact⟨by omega,w,by simpa using b3,b4⟩
 have hne:∀ r∈(ZdC g z).Aa,r.right≠[]:=fun r hr=>by
  obtain⟨a,w,hw,e⟩:=hrow r hr;rw[e];by_cases q:r.left.toNat < g.vars.toNat
  ·exact (hH.old _ q w hw).ne
  ·exact (hH.new _ (by omega) w hw).1
 refine ZiR hgk (fun s=>if s < g.vars then (g.vars - s).toNat else (s+g.vars).toNat) fun v u h0 h1 hu=>?_
 obtain⟨r,hr,rfl,pre,post,e1,hu0,e2,e3⟩:=stepA_iff.1 hu;have hnn:∀ s,has (nulB (ZdC g z)) s=false:=ZCX hgk hne
 have hpre:pre=[]:=by
  cases pre with
  | nil=>rfl
  | cons a pre =>
   rw[ZaQ,GE,hnn] at e2;cases e2
 rw[hpre,H6] at e1;obtain⟨a,w,hw,e⟩:=hrow r hr;have hhd:hdI w.right=u:=by rw[←e,e1];rfl
 by_cases q:r.left.toNat < g.vars.toNat
 ·have h:=hH.old _ q w hw;rw[Hb q] at h;have k1:=h.from_;have k2:=h.old;rw[hhd] at k1 k2;rw[Hb k2,Hb (by omega)];omega
 ·have h:=(hH.new _ (by omega) w hw).2;rw[hhd] at h;rw[Ha (show ¬ r.left < g.vars by omega)];split <;> omega
theorem Zvp {g:Ac} (h:(ZfF g).2.code=0) (w:List Int):ZgF g (ZfF g).1 w false:=by
 have hs:=Zvg h;rcases Zg7 g with ⟨h1,_⟩|⟨z,hg,he,hc,hz,e⟩
 ·exact absurd h h1
 rw[e] at hs ⊢;obtain⟨⟨E,T⟩,hzo⟩:=ZyS hg g.vars.toNat 0 (by omega) (Zgu hg he) ZBe ZyR hz;have hI:=(ZjW hg he hz).1;have hL:ZfS (ZdC g z) (ZaT z) (oneD E) (gW g) (fun _ l=>c0L l):=T.leads;have hst:ZdI g (ZdC g z) (oneD E) (gW g) w:=⟨fun l hl=>by
   obtain⟨x,rfl,hx⟩:=hl;have hf:=(T.base _ _ hg.start).1 hx;exact⟨x,rfl,hf,by rw[←ZC1 x _ hf];simp⟩,fun x hx _=>⟨x,rfl,(T.base _ _ hg.start).2 hx⟩⟩
 refine Zim (s:=⟨ZdC g z,ZaT z,[]⟩) (by rw[hs]) rfl (fun _=>ZyV hg he hc hz) hL hst fun t ht _ hb=>?_
 refine (ZoB T hI hzo _ t _ (Hg _) ht.1).2 ?_;rw[(ZdP (s:=⟨ZdC g z,ZaT z,[]⟩) hL hst ht).1];simp only[cnts];omega
end Go.Proofs.YtbpmepgnjanhnaaGreat
