import Derived.Test.YtbpmepgnjanhnaaGreatQTurnT
set_option linter.unusedVariables false
set_option linter.unusedSimpArgs false
set_option linter.unusedSectionVars false
namespace Go.Proofs.YtbpmepgnjanhnaaGreat
open Go.RowKit
theorem ZEr {α:Type} {R:α→α→Prop} (hs:∀ a b,R a b→R b a) {l:List α} (h:l.Pairwise R) {a b:α} (ha:a∈l) (hb:b∈l) (hne:a≠b):R a b:=by
 obtain⟨i,hi,rfl⟩:=List.mem_iff_getElem.1 ha;obtain⟨j,hj,rfl⟩:=List.mem_iff_getElem.1 hb;rw[JO] at h;rcases G9 i j with q|q|q
 ·exact h i j hi hj q
 ·subst q;exact absurd rfl hne
 ·exact hs _ _ (h j i hj hi q)
def okQ (E:Int→Tree→Prop) (v:Nat) (l:List Ae) (q:Ae×List Tree):Prop:=q.1∈l∧hdI q.1.right=(v:Int)∧EL E q.2 (Ab q.1.right.tail)
def ap (q:Ae×List Tree) (a:Tree):Tree:=(muL (sing (a::q.2)) q.1.l).headD gapN
def runR:List (Ae×List Tree)→Tree→Tree
 | [],a=>a
 | q::L,a=>ap q (runR L a)
def Chn (E:Int→Tree→Prop) (v:Nat) (l:List Ae) (z:Tree):Prop:=∃ L,L≠[]∧(∀ q∈L,okQ E v l q)∧z=runR L gapN
def upE (E:Int→Tree→Prop) (v:Nat) (l:List Ae) (N:Nat) (s:Int) (z:Tree):Prop:=if s=(N:Int) then Chn E v l z else E s z
theorem Zh0 (q:Ae×List Tree) (a:Tree):∀ L,runR (L++[q]) a=runR L (ap q a)
 | []=>rfl
 | p::L=>by rw[Hv,runR,runR,Zh0 q a L]
mutual
def hgT:Tree→Bool
 | .mk r ks=>decide (r = -1) || hgL ks
def hgL:List Tree→Bool
 | []=>false
 | x::l=>hgT x || hgL l
end
mutual
theorem ZB8 {w:List Tree}:∀ x:Tree,hgT x=false→Zfs w x=[x]
 | .mk r ks,h=>by
  rw[hgT,Ju,G4] at h;rw[Zfs,Ha h.1,ZyG ks h.2]
theorem ZyG {w:List Tree}:∀ l:List Tree,hgL l=false→ZaY w l=l
 | [],_=>rfl
 | x::l,h=>by
  rw[hgL,Ju] at h;rw[ZaY,ZB8 x h.1,ZyG l h.2];rfl
end
section
variable {g:Ac} {E:Int→Tree→Prop} {N v:Nat} {l:List Ae} (hl:VS g E v l) (hx:∀ x∈l,XOk g N x)
include hl hx
theorem ZlX {q:Ae×List Tree} (hq:okQ E v l q) (a:Tree):KE E q.1.right (a::q.2):=by
 obtain⟨q1,q2,q3⟩:=hq;exact (Zoy (hx _ q1).ne (by omega)).2 q3
theorem ZgE {q:Ae×List Tree} (hq:okQ E v l q) (a:Tree):muL (sing (a::q.2)) q.1.l=[ap q a]∧0≤(ap q a).rule∧gwT g (ap q a)=gwT g a++gwK g q.1.right.tail q.2∧∀ k∈q.2,c0T k < c0T (ap q a):=by
 obtain⟨y,h1,h2,h3,h4⟩:=(hl.ws _ hq.1).one _ (ZlX hl hx hq a);have e:ap q a=y:=by unfold ap;rw[h1];rfl
 rw[e];refine⟨h1,h2,?_,fun k hk=>h4 k (by simp[hk])⟩;rw[h3];have hc:=ZfN (hx _ hq.1).ne rfl
 conv=>lhs;rw[hc]
 rw[gwK,gwL,ZeE (by have:=hq.2.1;omega)]
theorem ZEs {q:Ae×List Tree} (hq:okQ E v l q) (a b:Tree):fil b (ap q a)=ap q (fil b a):=by
 have h1:=(ZgE hl hx hq a).1;have h2:=(ZgE hl hx hq (fil b a)).1;have h3:=(hl.ws _ hq.1).fill _ _ _ b (ZlX hl hx hq a) (by have:=hq.2.1;omega) h1;rw[h2] at h3;simpa using h3.symm
theorem ZB9 {q:Ae×List Tree} (hq:okQ E v l q) (a:Tree):c0T (ap q a)=c0T a+c0T (ap q gapN) :=
 (hl.ws _ hq.1).add _ _ _ _ (ZlX hl hx hq a) (by have:=hq.2.1;omega) (ZgE hl hx hq a).1 (ZgE hl hx hq gapN).1
theorem ZEt {q q':Ae×List Tree} (hq:okQ E v l q) (hq':okQ E v l q') {a a':Tree} (h:ap q a=ap q' a'):q=q'∧a=a':=by
 have h1:=(ZgE hl hx hq a).1;have h2:=(ZgE hl hx hq' a').1;have e:q.1=q'.1:=HN fun hne =>
  ZEr (fun _ _=>Dis.symm) hl.dis hq.1 hq'.1 hne _ _ (ZlX hl hx hq a) (ZlX hl hx hq' a') (by rw[h1,h2,h])
 obtain⟨x,xs⟩:=q;obtain⟨x',xs'⟩:=q';dsimp only at e;subst e;have:=(hl.ws _ hq.1).inj _ _ (ZlX hl hx hq a) (ZlX hl hx hq' a') (by rw[h1,h2,h]);obtain⟨e1,e2⟩:=HY this;dsimp only at e2;exact⟨by rw[e2],e1⟩
theorem ZEu (hE:∀ s z,s < g.vars→(E s z↔fits g z s=true)) (hv:(v:Int) < g.vars) {q:Ae×List Tree} (hq:okQ E v l q) {a:Tree} (ha:fits g a (v:Int)=true):fits g (ap q a) (v:Int)=true:=by
 refine (hl.ws _ hq.1).fit (a::q.2) _ ?_ (ZgE hl hx hq a).1;rw[ZiX (hx _ hq.1).ne (by have:=hq.2.1;omega),hq.2.1];exact EL_cons.2 ⟨(hE _ _ hv).2 ha,hq.2.2⟩
theorem Zoz (b:Tree):∀ {L:List (Ae×List Tree)} (_:∀ q∈L,okQ E v l q) (a:Tree),fil b (runR L a)=runR L (fil b a)
 | [],_,a=>rfl
 | q::L,h,a=>by rw[runR,runR,ZEs hl hx (h q (by simp)),Zoz b (fun p hp=>h p (by simp[hp])) a]
theorem ZyH:∀ {L:List (Ae×List Tree)} (_:∀ q∈L,okQ E v l q) (a:Tree),gwT g (runR L a)=gwT g a++gwT g (runR L gapN)
 | [],_,a=>by
  have:gwT g gapN=[]:=by rw[gapN,gwT,Hb (by decide)]
  rw[runR,runR,this,Ht]
 | q::L,h,a=>by
  rw[runR,runR,(ZgE hl hx (h q (by simp)) _).2.2.1,(ZgE hl hx (h q (by simp)) _).2.2.1,ZyH (fun p hp=>h p (by simp[hp])) a,HH]
theorem ZiY:∀ {L:List (Ae×List Tree)} (_:∀ q∈L,okQ E v l q) (a:Tree),c0T (runR L a)=c0T a+c0T (runR L gapN)
 | [],_,a=>by rw[runR,runR,ZB7,Gx]
 | q::L,h,a=>by
  have h1:=ZB9 hl hx (h q (by simp)) (runR L a);have h2:=ZB9 hl hx (h q (by simp)) (runR L gapN);have h3:=ZiY (L:=L) (fun p hp=>h p (by simp[hp])) a;rw[runR,runR,h1,h2,h3];omega
theorem ZtV:∀ {L:List (Ae×List Tree)} (_:∀ q∈L,okQ E v l q) (a:Tree),0≤a.rule∨L≠[]→0≤(runR L a).rule
 | [],_,a,h=>h.elim id (fun q=>absurd rfl q)
 | q::L,h,a,_=>(ZgE hl hx (h q (by simp)) _).2.1
theorem ZyI (hE:∀ s z,s < g.vars→(E s z↔fits g z s=true)) (hv:(v:Int) < g.vars):∀ {L:List (Ae×List Tree)} (_:∀ q∈L,okQ E v l q) {a:Tree},fits g a (v:Int)=true→fits g (runR L a) (v:Int)=true
 | [],_,a,h=>h
 | q::L,h,a,ha=>ZEu hl hx hE hv (h q (by simp)) (ZyI hE hv (fun p hp=>h p (by simp[hp])) ha)
theorem Zg4 {a a':Tree} (ha:∀ q,okQ E v l q→∀ b,a≠ap q b) (ha':∀ q,okQ E v l q→∀ b,a'≠ap q b):∀ {L L':List (Ae×List Tree)} (_:∀ q∈L,okQ E v l q) (_:∀ q∈L',okQ E v l q),runR L a=runR L' a'→L=L'∧a=a'
 | [],[],_,_,h=>⟨rfl,h⟩
 | [],q::L',_,h',h=>absurd h (ha q (h' q (by simp)) _)
 | q::L,[],h1,_,h=>absurd h.symm (ha' q (h1 q (by simp)) _)
 | q::L,q'::L',h1,h',h=>by
  obtain⟨e1,e2⟩:=ZEt hl hx (h1 q (by simp)) (h' q' (by simp)) h;obtain⟨e3,e4⟩:=Zg4 ha ha' (fun p hp=>h1 p (by simp[hp])) (fun p hp=>h' p (by simp[hp])) e2;exact⟨by rw[e1,e3],e4⟩
theorem Zgv:∀ q,okQ E v l q→∀ b,gapN≠ap q b:=fun q hq b h=>by
 have:=(ZgE hl hx hq b).2.1;rw[←h] at this;exact absurd this (by decide)
theorem Zd4 {x:Ae} (hm:x∈Zcv (v:Int) l) {xs:List Tree} (hk:KE E x.right xs) {y:Tree} (hy:muL (sing xs) x.l=[y]):∀ q,okQ E v l q→∀ b,y≠ap q b:=fun q hq b h=>by
 obtain⟨h1,h2⟩:=List.mem_filter.1 hm;have h3:¬ hdI x.right=(v:Int):=by simpa using h2
 have hne:x≠q.1:=fun e=>h3 (by rw[e];exact hq.2.1)
 exact ZEr (fun _ _=>Dis.symm) hl.dis h1 hq.1 hne _ _ hk (ZlX hl hx hq b) (by rw[hy,h,(ZgE hl hx hq b).1])
theorem ZDf {z:Tree} (h:Chn E v l z):hgT z=true∧0≤z.rule:=by
 obtain⟨L,hL,ho,rfl⟩:=h;refine⟨?_,ZtV hl hx ho _ (.inr hL)⟩;cases hc:hgT (runR L gapN) with
 | true=>rfl
 | false =>
  have h1:=Zoz hl hx (.mk 0 []) ho gapN;rw[ZyB] at h1;have h2:fil (.mk 0 []) (runR L gapN)=runR L gapN:=by
   have:=ZyA (.mk 0 []) (runR L gapN);rw[ZB8 _ hc] at this;simpa using this.symm
  have h3:=ZiY hl hx ho (.mk 0 []);rw[←h1,h2] at h3;have:c0T (.mk 0 [])=1:=by decide
  omega
theorem peel (hE:∀ s z,s < g.vars→(E s z↔fits g z s=true)) (hv:(v:Int) < g.vars):∀ (n:Nat) (z:Tree),c0T z≤n→fits g z (v:Int)=true→∃ x∈Zcv (v:Int) l,∃ xs y L,EL E xs (Ab x.right)∧muL (sing xs) x.l=[y]∧(∀ q∈L,okQ E v l q)∧z=runR L y
 | n,z,hn,hz=>by
  obtain⟨x,hm,xs,h1,h2⟩:=hl.surj z hz;by_cases hh:hdI x.right=(v:Int)
  ·have h3:=h1;rw[ZiX (hx x hm).ne (by omega),hh] at h3;cases xs with
   | nil=>have:=h3.1;simp at this
   | cons a xs =>
    obtain⟨ha,h3⟩:=EL_cons.1 h3;have hq:okQ E v l (x,xs):=⟨hm,hh,h3⟩
    have e:ap (x,xs) a=z:=(by unfold ap;rw[h2];rfl);have hlt:c0T a < c0T z:=by
     obtain⟨y,k1,_,_,k4⟩:=(hl.ws x hm).one _ (Zqq h1);obtain rfl:y=z:=(by rw[h2] at k1;simpa using k1.symm);exact k4 a (by simp)
    cases n with
    | zero=>omega
    | succ n =>
     obtain⟨x',hm',xs',y,L,k1,k2,k3,k4⟩:=peel hE hv n a (by omega) ((hE _ _ hv).1 ha);refine⟨x',hm',xs',y,(x,xs)::L,k1,k2,fun q hq'=>?_,by rw[runR,←k4,e]⟩;rcases List.mem_cons.1 hq' with rfl|hq'
     ·exact hq
     ·exact k3 q hq'
  ·exact⟨x,List.mem_filter.2 ⟨hm,by simpa using hh⟩,xs,z,[],h1,h2,fun q hq=>(by cases hq),rfl⟩
end
theorem WS.congr {g:Ac} {E E':Int→Tree→Prop} {v:Nat} {x:Ae} (h:WS g E v x) (he:∀ s∈x.right,∀ z,E s z↔E' s z):WS g E' v x:=by
 have hk:∀ {xs},KE E' x.right xs→KE E x.right xs:=fun q=>Zli (fun s hs z=>(he s hs z).2) q
 exact {
  one:=fun xs q=>h.one xs (hk q)
  fit:=fun xs y q=>h.fit xs y (Zeh (fun s hs z=>(he s (List.mem_filter.1 hs).1 z).2) q)
  fill:=fun a xs y b q=>h.fill a xs y b (hk q)
  add:=fun a xs y z q=>h.add a xs y z (hk q)
  inj:=fun xs xs' q q'=>h.inj xs xs' (hk q) (hk q') }
theorem Dis.congr {E E':Int→Tree→Prop} {x x':Ae} (h:Dis E x x') (he:∀ s∈x.right,∀ z,E s z↔E' s z) (he':∀ s∈x'.right,∀ z,E s z↔E' s z):Dis E' x x':=fun xs xs' q q' =>
 h xs xs' (Zli (fun s hs z=>(he s hs z).2) q) (Zli (fun s hs z=>(he' s hs z).2) q')
theorem VS.congr {g:Ac} {E E':Int→Tree→Prop} {v:Nat} {l:List Ae} (h:VS g E v l) (he:∀ x∈l,∀ s∈x.right,∀ z,E s z↔E' s z):VS g E' v l where
 ws x hx:=(h.ws x hx).congr (he x hx)
 dis:=GA (fun {x x'} h1 h2 hd=>hd.congr (he x h1) (he x' h2)) h.dis
 surj z hz:=by
  obtain⟨x,hx,xs,h1,h2⟩:=h.surj z hz;exact⟨x,hx,xs,Zeh (fun s hs z=>(he x hx s (List.mem_filter.1 hs).1 z).1) h1,h2⟩
structure NS (g:Ac) (E:Int→Tree→Prop) (N:Int) (l:List Ae):Prop where
 one:∀ x∈l,∀ xs,EL E xs (Ab x.right)→∃ y,muL (sing xs) x.l=[y]∧E N y∧gwT g y=gwK g x.right xs∧∀ k∈xs,c0T k < c0T y
 inj:∀ x∈l,∀ xs xs',EL E xs (Ab x.right)→EL E xs' (Ab x.right)→muL (sing xs) x.l=muL (sing xs') x.l→xs=xs'
 dis:l.Pairwise fun x x'=>∀ xs xs',EL E xs (Ab x.right)→EL E xs' (Ab x'.right)→muL (sing xs) x.l≠muL (sing xs') x'.l
 surj:∀ y,E N y→∃ x∈l,∃ xs,EL E xs (Ab x.right)∧muL (sing xs) x.l=[y]
theorem NS.congr {g:Ac} {E E':Int→Tree→Prop} {N:Int} {l:List Ae} (h:NS g E N l) (hN:∀ z,E N z↔E' N z) (he:∀ x∈l,∀ s∈x.right,∀ z,E s z↔E' s z):NS g E' N l:=by
 have hk:∀ x∈l,∀ {xs},EL E' xs (Ab x.right)→EL E xs (Ab x.right):=fun x hx _ q=>Zeh (fun s hs z=>(he x hx s (List.mem_filter.1 hs).1 z).2) q
 exact {
  one:=fun x hx xs q=>by
   obtain⟨y,h1,h2,h3⟩:=h.one x hx xs (hk x hx q);exact⟨y,h1,(hN y).1 h2,h3⟩
  inj:=fun x hx xs xs' q q'=>h.inj x hx xs xs' (hk x hx q) (hk x hx q')
  dis:=GA (fun {x x'} h1 h2 hd xs xs' q q'=>hd xs xs' (hk x h1 q) (hk x' h2 q')) h.dis
  surj:=fun y hy=>by
   obtain⟨x,hx,xs,h1,h2⟩:=h.surj y ((hN y).2 hy);exact⟨x,hx,xs,Zeh (fun s hs z=>(he x hx s (List.mem_filter.1 hs).1 z).1) h1,h2⟩ }
def wthN (N:Nat) (x:Ae):Ae:=⟨x.right++[(N:Int)],[.mk 4 (Ab x.right).length x.l]⟩
theorem Zcc (N:Nat) (x:Ae):ZbU (N:Int) x=[x,wthN N x]:=rfl
theorem ZgK {E:Int→Tree→Prop} {v:Nat} {l:List Ae} {N:Nat} {s:Int} (h:s < (N:Int)) (z:Tree):E s z↔upE E v l N s z:=by
 unfold upE;rw[Ha (by omega)]
theorem upE_N {E:Int→Tree→Prop} {v:Nat} {l:List Ae} {N:Nat} {z:Tree}:upE E v l N (N:Int) z↔Chn E v l z:=by
 unfold upE;rw[Hb rfl]
theorem ZjV (N:Nat):Ab [(N:Int)]=[(N:Int)]:=by rw[ZbG (by omega)];rfl
theorem ZyJ {E:Int→Tree→Prop} {N:Nat} {zs:List Tree} (h:EL E zs (Ab [(N:Int)])):∃ c,zs=[c]∧E N c:=by
 rw[ZjV] at h
 match zs,h with
 | [c],h=>exact⟨c,rfl,(EL_cons.1 h).1⟩
 | [],h=>exact absurd h.1 (by simp)
 | _::_::_,h=>exact absurd h.1 (by simp)
section
variable {g:Ac} {E:Int→Tree→Prop} {N v:Nat} {l:List Ae} (hl:VS g E v l) (hx:∀ x∈l,XOk g N x)
include hl hx
theorem ZcJ {B C:Nat} {o:Bool} {x:Ae} (hxo:TOk g B C N o x) {xs:List Tree} (hn:xs.length=(Ab x.right).length) {y:Tree} (hy:muL (sing xs) x.l=[y]) {L:List (Ae×List Tree)} (hL:∀ q∈L,okQ E v l q):muL (sing (xs++[runR L gapN])) (wthN N x).l=[runR L y]:=by
 unfold wthN;rw[ZDd hxo hn,hy,ZC8,Zoz hl hx y hL,ZyB]
theorem Zd5 {x:Ae} (hm:x∈l) {zs:List Tree} (hz:KE (upE E v l N) (wthN N x).right zs):∃ xs L,zs=xs++[runR L gapN]∧KE E x.right xs∧L≠[]∧∀ q∈L,okQ E v l q:=by
 obtain⟨xs,cs,rfl,h1,h2⟩:=ZtR (a:=x.right) (hx x hm).ne hz;obtain⟨c,rfl,h3⟩:=ZyJ h2;obtain⟨L,k1,k2,rfl⟩:=upE_N.1 h3;exact⟨xs,L,rfl,Zli (fun s hs z=>(ZgK ((hx x hm).sym s hs) z).2) h1,k1,k2⟩
theorem ZoA {x:Ae} (h:x∈Zcv (v:Int) l):x∈l:=(List.mem_filter.1 h).1
theorem ZyK (hE:∀ s z,s < g.vars→(E s z↔fits g z s=true)) (hv:(v:Int) < g.vars):VS g (upE E v l N) v ((Zcv (v:Int) l).flatMap (ZbU (N:Int))) where
 ws w hw:=by
  obtain⟨x,hxo,hw⟩:=List.mem_flatMap.1 hw;have hm:=ZoA hl hx hxo;have hsym:=(hx x hm).sym;have hwx:=hl.ws x hm;have hce:∀ s∈x.right,∀ z,E s z↔upE E v l N s z:=fun s hs z=>ZgK (hsym s hs) z
  rw[Zcc] at hw;rcases List.mem_cons.1 hw with rfl|hw
  ·exact hwx.congr hce
  ·rw[List.mem_singleton.1 hw];obtain⟨B,C,hto⟩:=hx x hm;have hne:=(hx x hm).ne;have hh:hdI (wthN N x).right=hdI x.right:=Zf9 hne;exact {
    one:=fun zs hz=>by
     obtain⟨xs,L,rfl,h1,h2,h3⟩:=Zd5 hl hx hm hz;obtain⟨y,k1,k2,k3,k4⟩:=hwx.one _ h1;have a1:=ZiY hl hx h3 y;have a2:=ZB6 k2;refine⟨runR L y,ZcJ hl hx hto (Zcl h1) k1 h3,ZtV hl hx h3 _ (.inl k2),?_,fun k hk=>?_⟩
     ·show _=gwK g (x.right++[(N:Int)]) (xs++[runR L gapN]);rw[ZyH hl hx h3,k3,ZiW (Zcl h1)];congr 1;show _=catR [(N:Int)] (gwL g [runR L gapN]);rw[gwL,ZeE (by omega),ZhX,Ht]
     ·rcases List.mem_append.1 hk with hk|hk
      ·have:=k4 k hk;omega
      ·rw[List.mem_singleton.1 hk];omega
    fit:=fun zs z hz hzz=>by
     have h0:=hz;rw[show (wthN N x).right=x.right++[(N:Int)] from rfl,ZdA] at h0;obtain⟨xs,cs,rfl,h1,h2⟩:=Zgt h0;obtain⟨c,rfl,h3⟩:=ZyJ h2;obtain⟨L,k1,k2,rfl⟩:=upE_N.1 h3;have h1:EL E xs (Ab x.right):=Zeh (fun s hs z=>(hce s (List.mem_filter.1 hs).1 z).2) h1;obtain⟨y,e1,_⟩:=hwx.one _ (Zqq h1);rw[ZcJ hl hx hto h1.1 e1 k2] at hzz;obtain rfl:runR L y=z:=(by simpa using hzz);exact ZyI hl hx hE hv k2 (hwx.fit _ _ h1 e1)
    fill:=fun a zs z b hz h0 hzz=>by
     rw[hh] at h0;obtain⟨xs,L,e1,h1,h2,h3⟩:=Zd5 hl hx hm hz;obtain⟨a',xs,rfl⟩:=ZjU hne h0 h1;obtain⟨rfl,rfl⟩:a=a'∧zs=xs++[runR L gapN]:=(by simpa using e1);obtain⟨y,e2,_⟩:=hwx.one _ h1;have e3:=ZcJ hl hx hto (Zcl h1) e2 h3;rw[Hv] at e3;rw[e3] at hzz;obtain rfl:runR L y=z:=(by simpa using hzz);have e4:=hwx.fill _ _ _ b h1 h0 e2;have e5:=ZcJ hl hx hto (xs:=fil b a::xs) (by have:=Zcl h1;simpa using this) e4 h3;rw[Hv] at e5;rw[e5,Zoz hl hx b h3]
    add:=fun a zs z w hz h0 hzz hww=>by
     rw[hh] at h0;obtain⟨xs,L,e1,h1,h2,h3⟩:=Zd5 hl hx hm hz;obtain⟨a',xs,rfl⟩:=ZjU hne h0 h1;obtain⟨rfl,rfl⟩:a=a'∧zs=xs++[runR L gapN]:=(by simpa using e1);obtain⟨y,e2,_⟩:=hwx.one _ h1;have h1g:KE E x.right (gapN::xs):=(Zoy hne h0).2 ((Zoy hne h0).1 h1);obtain⟨d,e4,_⟩:=hwx.one _ h1g;have e3:=ZcJ hl hx hto (Zcl h1) e2 h3;have e5:=ZcJ hl hx hto (Zcl h1g) e4 h3;rw[Hv] at e3 e5;rw[e3] at hzz;rw[e5] at hww;obtain rfl:runR L y=z:=(by simpa using hzz);obtain rfl:runR L d=w:=(by simpa using hww);have a1:=ZiY hl hx h3 y;have a2:=ZiY hl hx h3 d;have a3:=hwx.add _ _ _ _ h1 h0 e2 e4;omega
    inj:=fun zs zs' hz hz' he=>by
     obtain⟨xs,L,rfl,h1,h2,h3⟩:=Zd5 hl hx hm hz;obtain⟨xs',L',rfl,h1',h2',h3'⟩:=Zd5 hl hx hm hz';obtain⟨y,e2,_⟩:=hwx.one _ h1;obtain⟨y',e2',_⟩:=hwx.one _ h1';rw[ZcJ hl hx hto (Zcl h1) e2 h3,ZcJ hl hx hto (Zcl h1') e2' h3'] at he;obtain⟨rfl,rfl⟩:=Zg4 hl hx (Zd4 hl hx hxo h1 e2) (Zd4 hl hx hxo h1' e2') h3 h3' (by simpa using he);rw[hwx.inj _ _ h1 h1' (by rw[e2,e2'])] }
 dis:=by
  have val:∀ x∈Zcv (v:Int) l,∀ w∈ZbU (N:Int) x,∀ zs,KE (upE E v l N) w.right zs→∃ xs y L,KE E x.right xs∧muL (sing xs) x.l=[y]∧(∀ q∈L,okQ E v l q)∧muL (sing zs) w.l=[runR L y]∧(w=x→L=[])∧(w=wthN N x→L≠[]):=fun x hxo w hw zs hz=>by
   have hm:=ZoA hl hx hxo;have hne:x≠wthN N x:=fun q=>by
    have:=Hy (fun w=>w.right.length) q;simp[wthN] at this
   rw[Zcc] at hw;rcases List.mem_cons.1 hw with rfl|hw
   ·have h1:KE E w.right zs:=Zli (fun s hs z=>(ZgK ((hx w hm).sym s hs) z).2) hz;obtain⟨y,k1,_⟩:=(hl.ws w hm).one _ h1;exact⟨zs,y,[],h1,k1,fun q hq=>(by cases hq),k1,fun _=>rfl,fun q=>absurd q hne⟩
   ·rw[List.mem_singleton.1 hw] at hz ⊢;obtain⟨xs,L,rfl,h1,h2,h3⟩:=Zd5 hl hx hm hz;obtain⟨y,k1,_⟩:=(hl.ws x hm).one _ h1;obtain⟨B,C,hto⟩:=hx x hm;exact⟨xs,y,L,h1,k1,h3,ZcJ hl hx hto (Zcl h1) k1 h3,fun q=>absurd q.symm hne,fun _=>h2⟩
  rw[G1];refine⟨fun x hxo=>?_,?_⟩
  ·rw[Zcc];refine List.pairwise_pair.2 fun zs zs' hz hz' he=>?_
   obtain⟨xs,y,L,h1,h2,h3,h4,h5,_⟩:=val x hxo x (by rw[Zcc];simp) zs hz;obtain⟨xs',y',L',h1',h2',h3',h4',_,h5'⟩:=val x hxo (wthN N x) (by rw[Zcc];simp) zs' hz';rw[h4,h4'] at he;obtain⟨e,_⟩:=Zg4 hl hx (Zd4 hl hx hxo h1 h2) (Zd4 hl hx hxo h1' h2') h3 h3' (by simpa using he);exact h5' rfl (by rw[←e];exact h5 rfl)
  ·have hpw:(Zcv (v:Int) l).Pairwise (Dis E):=List.Pairwise.sublist List.filter_sublist hl.dis;refine GA (fun {x x'} hxo hxo' hd w hw w' hw' zs zs' hz hz' he=>?_) hpw;obtain⟨xs,y,L,h1,h2,h3,h4,_⟩:=val x hxo w hw zs hz;obtain⟨xs',y',L',h1',h2',h3',h4',_⟩:=val x' hxo' w' hw' zs' hz';rw[h4,h4'] at he;obtain⟨_,e⟩:=Zg4 hl hx (Zd4 hl hx hxo h1 h2) (Zd4 hl hx hxo' h1' h2') h3 h3' (by simpa using he);exact hd _ _ h1 h1' (by rw[h2,h2',e])
 surj z hz:=by
  obtain⟨x,hxo,xs,y,L,h1,h2,h3,rfl⟩:=peel hl hx hE hv _ z (Hg _) hz;have hm:=ZoA hl hx hxo;have h1':EL (upE E v l N) xs (Ab x.right):=Zeh (fun s hs z=>(ZgK ((hx x hm).sym s (List.mem_filter.1 hs).1) z).1) h1;by_cases hL:L=[]
  ·subst hL;exact⟨x,List.mem_flatMap.2 ⟨x,hxo,by rw[Zcc];simp⟩,xs,h1',h2⟩
  ·obtain⟨B,C,hto⟩:=hx x hm;refine⟨wthN N x,List.mem_flatMap.2 ⟨x,hxo,by rw[Zcc];simp⟩,xs++[runR L gapN],?_,ZcJ hl hx hto h1.1 h2 h3⟩;show EL _ _ (Ab (x.right++[(N:Int)]));rw[ZdA,ZjV];exact ZtQ h1' (EL_cons.2 ⟨upE_N.2 ⟨L,hL,h3,rfl⟩,ZyE⟩)
theorem ZyL {w:Ae} (h:w∈ownW (v:Int) l):∃ x∈l,hdI x.right=(v:Int)∧w=ZbC x:=by
 obtain⟨x,hm,rfl⟩:=List.mem_map.1 h;obtain⟨h1,h2⟩:=List.mem_filter.1 hm;exact⟨x,h1,H0 h2,rfl⟩
theorem Zg5 {x:Ae} (hm:x∈l) (hh:hdI x.right=(v:Int)) {w:Ae} (hw:w∈ZbU (N:Int) (ZbC x)) {zs:List Tree} (hz:EL (upE E v l N) zs (Ab w.right)):∃ xs L,okQ E v l (x,xs)∧(∀ q∈L,okQ E v l q)∧muL (sing zs) w.l=[runR (L++[(x,xs)]) gapN]∧((w=ZbC x∧L=[]∧zs=xs)∨(w=wthN N (ZbC x)∧L≠[]∧zs=xs++[runR L gapN])):=by
 have hsym:=(hx x hm).sym;have hsub:∀ s∈Ab x.right.tail,∀ z,upE E v l N s z→E s z:=fun s hs z=>(ZgK (hsym s (JT (List.mem_filter.1 hs).1)) z).2
 rw[Zcc] at hw;rcases List.mem_cons.1 hw with rfl|hw
 ·have h1:EL E zs (Ab x.right.tail):=Zeh hsub hz;have hq:okQ E v l (x,zs):=⟨hm,hh,h1⟩
  refine⟨zs,[],hq,fun q hq=>(by cases hq),?_,.inl ⟨rfl,rfl,rfl⟩⟩;rw[ZtT (hx x hm) (by omega)];exact (ZgE hl hx hq gapN).1
 ·rw[List.mem_singleton.1 hw] at hz ⊢;have h0:=hz;rw[show (wthN N (ZbC x)).right=x.right.tail++[(N:Int)] from rfl,ZdA] at h0;obtain⟨xs,cs,rfl,h1,h2⟩:=Zgt h0;obtain⟨c,rfl,h3⟩:=ZyJ h2;obtain⟨L,k1,k2,rfl⟩:=upE_N.1 h3;have h1:EL E xs (Ab x.right.tail):=Zeh hsub h1;have hq:okQ E v l (x,xs):=⟨hm,hh,h1⟩
  refine⟨xs,L,hq,k2,?_,.inr ⟨rfl,k1,rfl⟩⟩;obtain⟨B,C,hto⟩:=hx x hm;have hgo:=Zgh hto (by omega);rw[ZcJ hl hx hgo (xs:=xs) h1.1 (y:=ap (x,xs) gapN) (by rw[ZtT (hx x hm) (by omega)];exact (ZgE hl hx hq gapN).1) k2,Zh0]
theorem ZyM:NS g (upE E v l N) (N:Int) ((ownW (v:Int) l).flatMap (ZbU (N:Int))) where
 one w hw zs hz:=by
  obtain⟨w0,hw0,hw⟩:=List.mem_flatMap.1 hw;obtain⟨x,hm,hh,rfl⟩:=ZyL hl hx hw0;obtain⟨xs,L,hq,hL,hv,hcase⟩:=Zg5 hl hx hm hh hw hz;have hLq:∀ p∈L++[(x,xs)],okQ E v l p:=fun p hp=>by
   rcases List.mem_append.1 hp with hp|hp
   ·exact hL p hp
   ·rw[List.mem_singleton.1 hp];exact hq
  obtain⟨_,p1,p2,p3⟩:=ZgE hl hx hq gapN;have hg0:gwT g gapN=[]:=by rw[gapN,gwT,Hb (by decide)]
  rw[hg0,H3] at p2;refine⟨_,hv,upE_N.2 ⟨_,by simp,hLq,rfl⟩,?_,fun k hk=>?_⟩
  ·rw[Zh0,ZyH hl hx hL,p2];rcases hcase with ⟨rfl,rfl,rfl⟩|⟨rfl,_,rfl⟩
   ·rw[runR,hg0,Ht];rfl
   ·show _=gwK g (x.right.tail++[(N:Int)]) (xs++[runR L gapN]);rw[ZiW hq.2.2.1];congr 1;show _=catR [(N:Int)] (gwL g [runR L gapN]);rw[gwL,ZeE (by omega),ZhX,Ht]
  ·rw[Zh0,ZiY hl hx hL];have hp:=ZB6 p1;rcases hcase with ⟨rfl,rfl,rfl⟩|⟨rfl,_,rfl⟩
   ·have:=p3 k hk;omega
   ·rcases List.mem_append.1 hk with hk|hk
    ·have:=p3 k hk;omega
    ·rw[List.mem_singleton.1 hk];omega
 inj w hw zs zs' hz hz' he:=by
  obtain⟨w0,hw0,hw⟩:=List.mem_flatMap.1 hw;obtain⟨x,hm,hh,rfl⟩:=ZyL hl hx hw0;obtain⟨xs,L,hq,hL,hv,hcase⟩:=Zg5 hl hx hm hh hw hz;obtain⟨xs',L',hq',hL',hv',hcase'⟩:=Zg5 hl hx hm hh hw hz';rw[hv,hv'] at he;have okA:∀ {L:List (Ae×List Tree)} {xs:List Tree},okQ E v l (x,xs)→(∀ q∈L,okQ E v l q)→∀ p∈L++[(x,xs)],okQ E v l p:=fun hq hL p hp=>by
   rcases List.mem_append.1 hp with hp|hp
   ·exact hL p hp
   ·rw[List.mem_singleton.1 hp];exact hq
  obtain⟨e,_⟩:=Zg4 hl hx (Zgv hl hx) (Zgv hl hx) (okA hq hL) (okA hq' hL') (by simpa using he);obtain⟨rfl,e2⟩:=JG e rfl;obtain rfl:xs=xs':=by simpa using e2
  rcases hcase with ⟨_,h1,rfl⟩|⟨_,h1,rfl⟩
  ·rcases hcase' with ⟨_,_,rfl⟩|⟨_,h2,_⟩
   ·rfl
   ·exact absurd h1 h2
  ·rcases hcase' with ⟨_,h2,_⟩|⟨_,_,rfl⟩
   ·exact absurd h2 h1
   ·rfl
 dis:=by
  have okA:∀ {L:List (Ae×List Tree)} {q:Ae×List Tree},okQ E v l q→(∀ q∈L,okQ E v l q)→∀ p∈L++[q],okQ E v l p:=fun hq hL p hp=>by
   rcases List.mem_append.1 hp with hp|hp
   ·exact hL p hp
   ·rw[List.mem_singleton.1 hp];exact hq
  rw[G1];refine⟨fun w0 hw0=>?_,?_⟩
  ·obtain⟨x,hm,hh,rfl⟩:=ZyL hl hx hw0;rw[Zcc];refine List.pairwise_pair.2 fun zs zs' hz hz' he=>?_
   obtain⟨xs,L,hq,hL,hv,hcase⟩:=Zg5 hl hx hm hh (w:=ZbC x) (by rw[Zcc];simp) hz;obtain⟨xs',L',hq',hL',hv',hcase'⟩:=Zg5 hl hx hm hh (w:=wthN N (ZbC x)) (by rw[Zcc];simp) hz';have hne:ZbC x≠wthN N (ZbC x):=fun q=>by
    have:=Hy (fun w=>w.right.length) q;simp[wthN] at this
   rw[hv,hv'] at he;obtain⟨e,_⟩:=Zg4 hl hx (Zgv hl hx) (Zgv hl hx) (okA hq hL) (okA hq' hL') (by simpa using he);obtain⟨e1,_⟩:=JG e rfl;rcases hcase with ⟨_,h1,_⟩|⟨h0,_⟩
   ·rcases hcase' with ⟨h2,_⟩|⟨_,h2,_⟩
    ·exact hne h2.symm
    ·exact h2 (by rw[←e1,h1])
   ·exact hne h0
  ·unfold ownW;rw[Ge];have hpw:(l.filter fun x=>decide (hdI x.right=(v:Int))).Pairwise (Dis E):=List.Pairwise.sublist List.filter_sublist hl.dis;refine GA (fun {x x'} hxf hxf' hd w hw w' hw' zs zs' hz hz' he=>?_) hpw;obtain⟨hm,hh⟩:=List.mem_filter.1 hxf;obtain⟨hm',hh'⟩:=List.mem_filter.1 hxf';have hh:=H0 hh;have hh':=H0 hh';obtain⟨xs,L,hq,hL,hv,_⟩:=Zg5 hl hx hm hh hw hz;obtain⟨xs',L',hq',hL',hv',_⟩:=Zg5 hl hx hm' hh' hw' hz';rw[hv,hv'] at he;obtain⟨e,_⟩:=Zg4 hl hx (Zgv hl hx) (Zgv hl hx) (okA hq hL) (okA hq' hL') (by simpa using he);obtain⟨_,e2⟩:=JG e rfl;have e3:(x,xs)=(x',xs'):=by simpa using e2
   obtain⟨rfl,rfl⟩:=Je e3;exact hd _ _ (ZlX hl hx hq gapN) (ZlX hl hx hq gapN) rfl
 surj z hz:=by
  obtain⟨L,hL,ho,rfl⟩:=upE_N.1 hz;obtain⟨L,q,rfl⟩:∃ L0 q,L=L0++[q]:=⟨L.dropLast,L.getLast hL,(List.dropLast_concat_getLast hL).symm⟩
  obtain⟨x,xs⟩:=q;have hq:=ho (x,xs) (by simp);have hLo:∀ q∈L,okQ E v l q:=fun q hq=>ho q (by simp[hq])
  obtain⟨hm,hh,h1⟩:=hq;dsimp only at hm hh h1;have hsym:=(hx x hm).sym;have h1':EL (upE E v l N) xs (Ab x.right.tail):=Zeh (fun s hs z=>(ZgK (hsym s (JT (List.mem_filter.1 hs).1)) z).1) h1;have how:ZbC x∈ownW (v:Int) l:=List.mem_map.2 ⟨x,List.mem_filter.2 ⟨hm,Hu hh⟩,rfl⟩;have hval:=(ZgE hl hx (q:=(x,xs)) ⟨hm,hh,h1⟩ gapN).1;by_cases hn:L=[]
  ·subst hn;refine⟨ZbC x,List.mem_flatMap.2 ⟨_,how,by rw[Zcc];simp⟩,xs,h1',?_⟩;rw[ZtT (hx x hm) (by omega)];exact hval
  ·obtain⟨B,C,hto⟩:=hx x hm;have hgo:=Zgh hto (by omega);refine⟨wthN N (ZbC x),List.mem_flatMap.2 ⟨_,how,by rw[Zcc];simp⟩,xs++[runR L gapN],?_,?_⟩
   ·show EL _ _ (Ab (x.right.tail++[(N:Int)]));rw[ZdA,ZjV];exact ZtQ h1' (EL_cons.2 ⟨upE_N.2 ⟨L,hn,hLo,rfl⟩,ZyE⟩)
   ·rw[ZcJ hl hx hgo (xs:=xs) h1.1 (y:=ap (x,xs) gapN) (by rw[ZtT (hx x hm) (by omega)];exact hval) hLo,Zh0]
end
structure TSt (g:Ac) (all:List (List Ae)) (E:Int→Tree→Prop):Prop where
 base:∀ s z,s < g.vars→(E s z↔fits g z s=true)
 old:∀ v:Nat,v < g.vars.toNat→VS g E v (all.getD v [])
 new:∀ N:Nat,g.vars.toNat≤N→N < all.length→NS g E (N:Int) (all.getD N [])
 gap:∀ N:Nat,g.vars.toNat≤N→N < all.length→∀ z,E (N:Int) z→hgT z=true∧0≤z.rule
theorem ZjW {all:List (List Ae)} {b:List Ae} {v u:Nat} (hv:v < all.length):(all.set v b).getD u []=if u=v then b else all.getD u []:=by
 by_cases h:u=v
 ·subst h;rw[Hb rfl,Hf,G8 hv];rfl
 ·rw[Ha h,Hf,GO (fun q=>h q.symm),←Hf]
theorem ZoB {all:List (List Ae)} {a b:List Ae} {v u:Nat} (hv:v < all.length):((all++[a]).set v b).getD u []=if u=v then b else if u=all.length then a else all.getD u []:=by
 rw[ZjW (by simp;omega)];by_cases h:u=v
 ·rw[Hb h,Hb h]
 ·rw[Ha h,Ha h];by_cases h2:u=all.length
  ·subst h2;rw[Hb rfl,Hf,Gp (Hg _),Ga];rfl
  ·rw[Ha h2];by_cases h3:u < all.length
   ·rw[Hf,GH h3,←Hf]
   ·rw[Hf,HI (by simp;omega),Hf,HI (by omega)]
theorem TInv.syms {g:Ac} {all:List (List Ae)} (hI:TInv g all) (u:Nat):∀ w∈all.getD u [],∀ s∈w.right,s < (all.length:Int):=fun w hw s hs=>((hI.ok u w hw).sym s hs).2
theorem TInv.xok {g:Ac} {all:List (List Ae)} (hI:TInv g all) {u:Nat} (hu:u < g.vars.toNat):∀ w∈all.getD u [],XOk g all.length w:=fun w hw=>by
 have:=hI.ok u w hw;rw[Hu hu] at this;exact⟨_,_,this⟩
theorem TSt.itself {g:Ac} {all:List (List Ae)} {E:Int→Tree→Prop} (hI:TInv g all) (T:TSt g all E) {v:Nat} (hv:v < g.vars.toNat) {l:List Ae} (hl:VS g E v l) (hx:∀ x∈l,XOk g all.length x):∃ E',TSt g (Zbf all l v) E':=by
 have hva:v < all.length:=Gm hv hI.vars;have hvars:=hI.vars;unfold Zbf;split
 ·refine⟨E,T.base,fun u hu=>?_,fun u h1 h2=>?_,fun u h1 h2=>?_⟩
  ·rw[ZjW hva];split
   ·rename_i e;subst e;exact hl
   ·exact T.old u hu
  ·rw[HJ] at h2;rw[ZjW hva,Ha (by omega)];exact T.new u h1 h2
  ·rw[HJ] at h2;exact T.gap u h1 h2
 ·have hsy:=fun u w hw s hs z=>ZgK (E:=E) (v:=v) (l:=l) (hI.syms u w hw s hs) z
  refine⟨upE E v l all.length,fun s z hs=>?_,fun u hu=>?_,fun u h1 h2=>?_,fun u h1 h2 z hz=>?_⟩
  ·rw[←ZgK (by omega)];exact T.base s z hs
  ·rw[ZoB hva];split
   ·rename_i e;subst e;exact ZyK hl hx T.base (by omega)
   ·rw[Ha (by omega)];exact (T.old u hu).congr (hsy u)
  ·rw[HJ,Hk,HS] at h2;rw[ZoB hva,Ha (by omega)];split
   ·rename_i e;subst e;exact ZyM hl hx
   ·exact (T.new u h1 (by omega)).congr (fun z=>ZgK (by omega) z) (hsy u)
  ·rw[HJ,Hk,HS] at h2;by_cases e:u=all.length
   ·subst e;exact ZDf hl hx (upE_N.1 hz)
   ·exact T.gap u h1 (by omega) z ((ZgK (by omega) z).2 hz)
theorem ZBs {g:Ac}:TSt g (Za5 g) (E0 g) where
 base s z _:=Iff.rfl
 old v hv:=by rw[Zb4 hv];exact ZBr v
 new N h1 h2:=by rw[Zbm] at h2;omega
 gap N h1 h2:=by rw[Zbm] at h2;omega
mutual
def tyF (p:Int→Prop):Ad→Prop
 | .mk o n l=>(o=4→p n∧l≠[])∧tyL p l
def tyL (p:Int→Prop):List Ad→Prop
 | []=>True
 | x::r=>tyF p x∧tyL p r
end
theorem tyL_append {p:Int→Prop}:∀ {a b:List Ad},tyL p (a++b)↔tyL p a∧tyL p b
 | [],b=>by simp[tyL]
 | x::a,b=>by rw[Hv,tyL,tyL,tyL_append,and_assoc]
mutual
theorem ZBt {m:Int} {p p':Int→Prop}:∀ x:Ad,wfF m x→(∀ n∈kdF x,p n→p' n)→tyF p x→tyF p' x
 | .mk o n l,h,hk,ht=>by
  rw[wfF] at h;rw[tyF] at ht ⊢;rcases h with ⟨rfl,_,_,hl⟩|⟨rfl,rfl⟩|⟨rfl,_,rfl⟩|⟨rfl,hl⟩
  ·rw[ZyC] at hk;exact⟨fun q=>absurd q (by decide),Zh1 l hl hk ht.2⟩
  ·exact⟨fun q=>absurd q (by decide),trivial⟩
  ·exact⟨fun q=>absurd q (by decide),trivial⟩
  ·rw[Zvz] at hk;have:=ht.1 rfl;exact⟨fun _=>⟨hk n (by simp) this.1,this.2⟩,Zh1 l hl (fun q hq=>hk q (by simp[hq])) ht.2⟩
theorem Zh1 {m:Int} {p p':Int→Prop}:∀ l:List Ad,wfL m l→(∀ n∈kdL l,p n→p' n)→tyL p l→tyL p' l
 | [],_,_,_=>trivial
 | x::r,h,hk,ht=>by
  rw[kdL] at hk;exact⟨ZBt x h.1 (fun n hn=>hk n (by simp[hn])) ht.1,Zh1 r h.2 (fun n hn=>hk n (by simp[hn])) ht.2⟩
end
mutual
theorem ZDg {m b:Int} {p p':Int→Prop} {inn:List Ad} (hi:tyL p' inn) (hne:inn≠[]) (hp:∀ n:Int,0 < n→p n→p' (n+b)):∀ x:Ad,wfF m x→nzF x→(∀ n∈kdF x,0≤n)→tyF p x→tyL p' (ptF 0 inn b x)∧ptF 0 inn b x≠[]
 | .mk o n l,h,hz,hk,ht=>by
  rw[wfF] at h;rw[nzF] at hz;rw[tyF] at ht;rw[ptF];rcases h with ⟨rfl,_,_,hl⟩|⟨rfl,rfl⟩|⟨rfl,h1,rfl⟩|⟨rfl,hl⟩
  ·rw[ZyC] at hk;rw[Ha (fun q=>absurd q.1 (by decide)),Ha (fun q=>absurd q.1 (by decide))];exact⟨⟨⟨fun q=>absurd q (by decide),(Zlj hi hne hp l hl hz.2 hk ht.2).1⟩,trivial⟩,by simp⟩
  ·by_cases e:n=0
   ·rw[Hb ⟨rfl,e⟩];exact⟨hi,hne⟩
   ·rw[Ha (fun q=>e q.2),Ha (fun q=>absurd q.1 (by decide))];exact⟨⟨⟨fun q=>absurd q (by decide),trivial⟩,trivial⟩,by simp⟩
  ·rw[Ha (fun q=>absurd q.1 (by decide)),Ha (fun q=>absurd q.1 (by decide))];exact⟨⟨⟨fun q=>absurd q (by decide),trivial⟩,trivial⟩,by simp⟩
  ·rw[Zvz] at hk;have h2:=hk n (by simp);have h3:¬ n=0:=fun q=>hz.1 ⟨rfl,q⟩
   have h4:=ht.1 rfl;rw[Ha (fun q=>absurd q.1 (by decide)),Ha (fun q=>h3 q.2),ZkF (.inr rfl),Hb (by omega)];obtain⟨k1,k2⟩:=Zlj hi hne hp l hl hz.2 (fun q hq=>hk q (by simp[hq])) ht.2;exact⟨⟨⟨fun _=>⟨hp n (by omega) h4.1,k2 h4.2⟩,k1⟩,trivial⟩,by simp⟩
theorem Zlj {m b:Int} {p p':Int→Prop} {inn:List Ad} (hi:tyL p' inn) (hne:inn≠[]) (hp:∀ n:Int,0 < n→p n→p' (n+b)):∀ l:List Ad,wfL m l→nzL l→(∀ n∈kdL l,0≤n)→tyL p l→tyL p' (ptL 0 inn b l)∧(l≠[]→ptL 0 inn b l≠[])
 | [],_,_,_,_=>⟨trivial,fun h=>absurd rfl h⟩
 | x::r,h,hz,hk,ht=>by
  rw[kdL] at hk;obtain⟨a1,a2⟩:=ZDg hi hne hp x h.1 hz.1 (fun n hn=>hk n (by simp[hn])) ht.1;obtain⟨b1,b2⟩:=Zlj hi hne hp r h.2 hz.2 (fun n hn=>hk n (by simp[hn])) ht.2;rw[ptL];exact⟨tyL_append.2 ⟨a1,b1⟩,fun _ q=>a2 (List.append_eq_nil_iff.1 q).1⟩
end
def Zr6 (g:Ac) (right:List Int) (n:Int):Prop:=∃ s,(Ab right)[n.toNat]? = some s∧g.vars≤s
structure ZOk (g:Ac) (x:Ae):Prop where
 ne:x.l≠[]
 ty:tyL (Zr6 g x.right) x.l
theorem ZDh {g:Ac} {N u:Nat} {x y:Ae} (hx:XOk g N x) (hy:XOk g N y) (hu:hdI x.right=(u:Int)) (zx:ZOk g x) (zy:ZOk g y):ZOk g (mixW x y):=by
 have hk:=ZiX hx.ne (by omega);obtain⟨B,C,tx⟩:=hx;obtain⟨B',C',ty⟩:=hy;have e:(mixW x y).l=ptL 0 y.l (((Ab y.right).length:Int) - 1) x.l:=by
  show ZeL x.l 0 y.l _=_;unfold ZeL;rw[ZbS]
 have hkm:Ab (mixW x y).right=Ab y.right++Ab x.right.tail:=ZdA _ _;have hi:tyL (Zr6 g (mixW x y).right) y.l:=Zh1 y.l ty.wf (fun n hn ⟨s,h1,h2⟩=>⟨s,by
  have:=upTo_mem.1 (ty.kd.mem_iff.1 hn);rw[hkm,GH (by omega)];exact h1,h2⟩) zy.ty
 obtain⟨h1,h2⟩:=Zlj (p:=Zr6 g x.right) (p':=Zr6 g (mixW x y).right) (b:=((Ab y.right).length:Int) - 1) hi zy.ne (fun n hn ⟨s,h1,h2⟩=>⟨s,by
  obtain⟨j,rfl⟩:∃ j:Nat,n=(j:Int)+1:=⟨(n - 1).toNat,by omega⟩
  rw[hk,show ((j:Int)+1).toNat=j+1 by omega,JS] at h1;rw[hkm,show ((j:Int)+1+(((Ab y.right).length:Int) - 1)).toNat=(Ab y.right).length+j by omega,Gp (by omega),Nat.add_sub_cancel_left];exact h1,h2⟩) x.l tx.wf (tx.nz rfl (by omega)) tx.kd0 zx.ty
 exact⟨by rw[e];exact h2 zx.ne,by rw[e];exact h1⟩
theorem ZvB {g:Ac} {N u:Nat} {x:Ae} (hx:XOk g N x) (hu:hdI x.right=(u:Int)) (zx:ZOk g x):ZOk g (ZbC x):=by
 have hk:=ZiX hx.ne (by omega);obtain⟨B,C,tx⟩:=hx;have e:(ZbC x).l=ptL 0 [gapF] (-1) x.l:=by
  show ZeL x.l 0 [gapF] 0=_;unfold ZeL;rw[ZbS];rfl
 obtain⟨h1,h2⟩:=Zlj (p:=Zr6 g x.right) (p':=Zr6 g (ZbC x).right) (b := -1) (inn:=[gapF]) ⟨⟨fun q=>absurd q (by decide),trivial⟩,trivial⟩ (by simp) (fun n hn ⟨s,h1,h2⟩=>⟨s,by
  obtain⟨j,rfl⟩:∃ j:Nat,n=(j:Int)+1:=⟨(n - 1).toNat,by omega⟩
  rw[hk,show ((j:Int)+1).toNat=j+1 by omega,JS] at h1;rw[show ((j:Int)+1 + -1).toNat=j by omega];exact h1,h2⟩) x.l tx.wf (tx.nz rfl (by omega)) tx.kd0 zx.ty
 exact⟨by rw[e];exact h2 zx.ne,by rw[e];exact h1⟩
theorem ZtW {g:Ac} {B C M N:Nat} {o:Bool} {x:Ae} (hx:TOk g B C M o x) (hN:g.vars≤(N:Int)) (zx:ZOk g x):∀ w∈ZbU (N:Int) x,ZOk g w:=fun w hw=>by
 rw[Zcc] at hw;rcases List.mem_cons.1 hw with rfl|hw
 ·exact zx
 ·rw[List.mem_singleton.1 hw];have hkm:Ab (wthN N x).right=Ab x.right++[(N:Int)]:=by
   show Ab (x.right++[(N:Int)])=_;rw[ZdA,ZjV]
  refine⟨by simp[wthN],⟨fun _=>⟨⟨N,?_,hN⟩,zx.ne⟩,Zh1 x.l hx.wf (fun n hn ⟨s,h1,h2⟩=>⟨s,?_,h2⟩) zx.ty⟩,trivial⟩
  ·rw[hkm,Hn,Gp (Hg _),Ga];rfl
  ·have:=upTo_mem.1 (hx.kd.mem_iff.1 hn);rw[hkm,GH (by omega)];exact h1
theorem Zm0 {g:Ac} {N:Nat} {all:List (List Ae)}:∀ (n u:Nat) {l l':List Ae},u+n≤g.vars.toNat→(∀ w,w < u+n→∀ y∈all.getD w [],XOk g N y∧ZOk g y)→(∀ x∈l,XOk g N x∧ZOk g x)→Zca all u n l=some l'→∀ x∈l',XOk g N x∧ZOk g x
 | 0,u,l,l',_,_,h2,h=>by rw[Zca] at h;cases h;exact h2
 | n+1,u,l,l',hn,hA,h2,h=>by
  rw[Zca] at h;cases hc:ZbJ (all.getD u []) u l [] with
  | none=>rw[hc] at h;cases h
  | some l1 =>
   rw[hc] at h;have e:=ZhZ hc;rw[H3] at e;subst e;refine Zm0 n (u+1) (by omega) (fun w hw=>hA w (by omega)) (fun w hw=>?_) h;obtain⟨x,hxl,hw⟩:=List.mem_flatMap.1 hw;rcases Zgu hw with ⟨_,rfl⟩|⟨hu,y,hyA,rfl⟩
   ·exact h2 _ hxl
   ·have hy:=hA u (by omega) y hyA;have hx:=h2 x hxl;exact⟨hx.1.mix hy.1 hu,ZDh hx.1 hy.1 hu hx.2 hy.2⟩
theorem ZvC {g:Ac} {all:List (List Ae)} (hI:TInv g all) (hz:∀ u,∀ w∈all.getD u [],ZOk g w) {v:Nat} (hv:v < g.vars.toNat) {l:List Ae} (hl:∀ x∈l,XOk g all.length x∧ZOk g x):∀ u,∀ w∈(Zbf all l v).getD u [],ZOk g w:=by
 have hva:v < all.length:=Gm hv hI.vars;have hvars:=hI.vars;intro u w hw;unfold Zbf at hw;split at hw
 ·rw[ZjW hva] at hw;split at hw
  ·exact (hl w hw).2
  ·exact hz u w hw
 ·rw[ZoB hva] at hw;split at hw
  ·obtain⟨x,hxo,hw⟩:=List.mem_flatMap.1 hw;obtain⟨⟨B,C,tx⟩,zx⟩:=hl x (List.mem_filter.1 hxo).1;exact ZtW tx (by omega) zx w hw
  ·split at hw
   ·obtain⟨y,hyo,hw⟩:=List.mem_flatMap.1 hw;obtain⟨x,hm,rfl⟩:=List.mem_map.1 hyo;obtain⟨h1,h2⟩:=List.mem_filter.1 hm;have h2:=H0 h2;obtain⟨hx,zx⟩:=hl x h1;have hzg:=ZvB hx h2 zx;obtain⟨B,C,tx⟩:=hx;exact ZtW (Zgh tx (by omega)) (by omega) hzg w hw
   ·exact hz u w hw
mutual
theorem ZBu (p:Int→Prop) (k:Nat):tyL p (ZaF k):=by
 unfold ZaF;have:∀ l:List Nat,tyL p (l.map fun (i:Nat)=>Ad.mk 2 (i:Int) []):=by
  intro l
  induction l with
  | nil=>trivial
  | cons i l ih=>exact⟨⟨fun q=>absurd q (by decide),trivial⟩,ih⟩
 exact this _
end
theorem ZyN {g:Ac}:∀ u,∀ w∈(Za5 g).getD u [],ZOk g w:=fun u w hw=>by
 by_cases hu:u < g.vars.toNat
 ·rw[Zb4 hu] at hw;obtain⟨r,hr,e,rfl⟩:=Zqt hw;exact⟨by simp[ZaJ],⟨⟨fun q=>absurd q (by decide),ZBu _ _⟩,trivial⟩⟩
 ·rw[Zd1 hu] at hw;cases hw
theorem ZyO {g:Ac} (hg:g.ok):∀ (n v:Nat) {all z:List (List Ae)} {E:Int→Tree→Prop},v+n≤g.vars.toNat→TInv g all→TSt g all E→(∀ u,∀ w∈all.getD u [],ZOk g w)→ZbF v n all=.ok z→(∃ E',TSt g z E')∧∀ u,∀ w∈z.getD u [],ZOk g w
 | 0,v,all,z,E,_,_,T,hz,h=>by rw[ZbF] at h;cases h;exact⟨⟨E,T⟩,hz⟩
 | n+1,v,all,z,E,hn,hI,T,hz,h=>by
  rw[ZbF] at h;cases hc:Zca all 0 v (all.getD v []) with
  | none=>rw[hc] at h;cases h
  | some l =>
   rw[hc] at h;dsimp only at h;split at h
   ·rename_i hf;have h1:=Zj7 hg hI (by omega) hc hf;obtain⟨k1,k2⟩:=Zqs T.base v 0 (by omega) (fun w hw=>⟨T.old w (by omega),hI.xok (by omega)⟩) (T.old v (by omega)) (hI.xok (by omega)) hc;have k3:=Zm0 v 0 (by omega) (fun w hw y hy=>⟨hI.xok (by omega) y hy,hz w y hy⟩) (fun x hx=>⟨hI.xok (by omega) x hx,hz v x hx⟩) hc;obtain⟨E',T'⟩:=T.itself hI (by omega) k1 k2;exact ZyO hg n (v+1) (by omega) h1 T' (ZvC hI hz (by omega) k3) h
   ·cases h
def entW:List (List Ae)→Nat→List (Nat×Ae)
 | [],_=>[]
 | l::r,v=>l.map (fun w=>(v,w))++entW r (v+1)
theorem ZiZ:∀ (z:List (List Ae)) (v:Nat),Zbh z v=(entW z v).map (fun e=>(⟨(e.1:Int),e.2.right⟩:Rule))∧ZaU z=(entW z v).map (fun e=>e.2.l)
 | [],v=>⟨rfl,rfl⟩
 | l::r,v=>by
  obtain⟨h1,h2⟩:=ZiZ r (v+1);rw[Zbh,ZaU,entW,Ho,Ho,H8,H8,h1,h2];exact⟨rfl,rfl⟩
theorem entW_mem:∀ {z:List (List Ae)} {v:Nat} {e:Nat×Ae},e∈entW z v↔∃ u w,w∈z.getD u []∧e=(v+u,w)
 | [],v,e=>by simp[entW]
 | l::r,v,e=>by
  rw[entW,HV,entW_mem (z:=r)];constructor
  ·rintro (h|⟨u,w,h1,h2⟩)
   ·obtain⟨w,hw,rfl⟩:=List.mem_map.1 h;exact⟨0,w,by simpa using hw,rfl⟩
   ·exact⟨u+1,w,by simpa using h1,by rw[h2,show v+1+u=v+(u+1) by omega]⟩
  ·rintro⟨u,w,h1,rfl⟩;cases u with
   | zero=>exact .inl (List.mem_map.2 ⟨w,by simpa using h1,rfl⟩)
   | succ u=>exact .inr ⟨u,w,by simpa using h1,by rw[show v+1+u=v+(u+1) by omega]⟩
theorem ZyP {R:Nat→Ae→Ae→Prop}:∀ (z:List (List Ae)) (v:Nat),(∀ u,(z.getD u []).Pairwise (R (v+u)))→(entW z v).Pairwise fun e e'=>e.1=e'.1→R e.1 e.2 e'.2
 | [],v,_=>H7
 | l::r,v,h=>by
  rw[entW,List.pairwise_append];refine⟨?_,ZyP r (v+1) (fun u=>by have:=h (u+1);rw[show v+(u+1)=v+1+u by omega] at this;simpa using this),fun e he e' he' q=>?_⟩
  ·rw[Ge];have:=h 0;have h2:l.Pairwise (R v):=by simpa using this
   exact List.Pairwise.imp (fun {a b} hr (_:v=v)=>hr) h2
  ·obtain⟨w,_,rfl⟩:=List.mem_map.1 he;obtain⟨u,w',_,rfl⟩:=entW_mem.1 he';dsimp only at q;omega
theorem ZyQ {z:List (List Ae)} {e:Nat×Ae} (h:e∈entW z 0):e.2∈z.getD e.1 []∧e.1 < z.length:=by
 obtain⟨u,w,hw,rfl⟩:=entW_mem.1 h;rw[HE];refine⟨hw,HN fun hn=>?_⟩;rw[Hf,HI (by omega)] at hw;cases hw
end Go.Proofs.YtbpmepgnjanhnaaGreat
