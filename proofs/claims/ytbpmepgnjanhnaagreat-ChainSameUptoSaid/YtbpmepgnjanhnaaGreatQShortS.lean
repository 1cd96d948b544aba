import Derived.Test.YtbpmepgnjanhnaaGreatQBkP
import Derived.Test.YtbpmepgnjanhnaaGreatQShortD
set_option linter.unusedVariables false
set_option linter.unusedSimpArgs false
set_option linter.unusedSectionVars false
namespace Go.Proofs.YtbpmepgnjanhnaaGreat
open Go.RowKit
def Zc3:List Int→List Tree→Tree
 | [],_=>.mk 0 []
 | [r],xs=>.mk r xs
 | r::r2::rest,xs=>.mk r [Zc3 (r2::rest) xs]
theorem Zdq (r:Int) {w:List Int} (h:w≠[]) (xs:List Tree):Zc3 (r::w) xs=.mk r [Zc3 w xs]:=by
 cases w with
 | nil=>exact absurd rfl h
 | cons a b=>rw[Zc3]
theorem Zk2 {g:Ac}:∀ (w:List Int) (xs:List Tree),w≠[]→xs.length=kN g (Zdh w)→muL (sing xs) (wayF g w)=[Zc3 w xs]
 | [],_,h,_=>absurd rfl h
 | [r],xs,_,h=>by
  rw[wayF,Zc3];exact Zby r h
 | r::r2::rest,xs,_,h=>by
  rw[ZcU r (by simp)] at h;rw[wayF,muL,muF,Hb rfl,Zk2 (r2::rest) xs (by simp) h,muL,Zc3];rfl
theorem ZgI {g:Ac} {n:Nat} {v:Int} {w:List Int} (h:w∈wys g n v):w≠[]:=by
 cases n with
 | zero=>simp[wys] at h
 | succ n =>
  rw[wys] at h;obtain⟨i,_,hi⟩:=List.mem_flatMap.1 h;split at hi
  ·rw[Gw] at hi;subst hi;simp
  ·obtain⟨x,_,rfl⟩:=List.mem_map.1 hi;simp
theorem wys_mem {g:Ac} {n:Nat} {v:Int} {w:List Int}:w∈wys g (n+1) v↔∃ k:Nat,∃ hk:k < g.Aa.length,g.Aa[k].left=v∧((ZaC g.Aa[k].right < 0∧w=[(k:Int)])∨(¬ ZaC g.Aa[k].right < 0∧∃ x∈wys g n (ZaC g.Aa[k].right),w=(k:Int)::x)):=by
 rw[wys,G0];constructor
 ·rintro⟨i,hi,hw⟩;obtain⟨k,hk,rfl,hl⟩:=by_mem.1 hi;rw[Zax hk] at hw;refine⟨k,hk,hl,?_⟩;split at hw
  ·rename_i hu;exact .inl ⟨hu,List.mem_singleton.1 hw⟩
  ·rename_i hu;obtain⟨x,hx,rfl⟩:=List.mem_map.1 hw;exact .inr ⟨hu,x,hx,rfl⟩
 ·rintro⟨k,hk,hl,h⟩;refine⟨(k:Int),by_mem.2 ⟨k,hk,rfl,hl⟩,?_⟩;rw[Zax hk];rcases h with ⟨hu,rfl⟩|⟨hu,x,hx,rfl⟩
  ·rw[Hb hu];simp
  ·rw[Ha hu];exact List.mem_map.2 ⟨x,hx,rfl⟩
theorem Zk3 {r:List Int} (h:¬ ZaC r < 0):r=[ZaC r]∧0≤ZaC r:=by
 unfold ZaC at h ⊢;by_cases h1:r.length=1
 ·rw[Hb h1] at h ⊢
  match r,h1 with
  | [x],_ =>
   simp only[GI] at h ⊢;by_cases h0:0≤x
   ·rw[Hb h0];exact⟨rfl,h0⟩
   ·rw[Ha h0] at h;omega
 ·rw[Ha h1] at h;omega
theorem ZAP (g:Ac) (v:Int):(by_ g v).Nodup:=by
 unfold by_;have:∀ (rs:List Rule) (i:Nat),(byR rs v i).Nodup∧∀ x∈byR rs v i,(i:Int)≤x:=by
  intro rs
  induction rs with
  | nil=>intro i;rw[byR];exact⟨H7,fun x hx=>by cases hx⟩
  | cons r rs ih =>
   intro i;obtain⟨h1,h2⟩:=ih (i+1);rw[byR];split
   ·refine⟨List.pairwise_cons.2 ⟨fun x hx q=>?_,h1⟩,fun x hx=>?_⟩
    ·have:=h2 x hx;omega
    ·rcases List.mem_cons.1 hx with rfl|hx
     ·exact Ja _
     ·have:=h2 x hx;omega
   ·exact⟨h1,fun x hx=>by have:=h2 x hx;omega⟩
 exact (this _ _).1
theorem Zp6 (g:Ac):∀ (n:Nat) (v:Int),(wys g n v).Nodup
 | 0,v=>by rw[wys];exact H7
 | n+1,v=>by
  rw[wys];unfold List.Nodup;rw[G1];have hh:∀ (i:Int) (w:List Int),w∈(if ZaC (Zaj g i) < 0 then [[i]] else (wys g n (ZaC (Zaj g i))).map (i::·))→w.head? = some i:=fun i w hw=>by
   split at hw
   ·rw[Gw] at hw;subst hw;rfl
   ·obtain⟨x,_,rfl⟩:=List.mem_map.1 hw;rfl
  refine⟨fun i _=>?_,?_⟩
  ·split
   ·exact List.pairwise_singleton _ _
   ·rw[Ge];exact (Zp6 g n _).imp fun h q=>h (HY q).2
  ·refine (ZAP g v).imp fun {a b} hab=>?_
   intro x hx y hy q;subst q;have h1:=hh a x hx;have h2:=hh b x hy;rw[h1] at h2;exact hab (GF h2)
section
variable {g:Ac}
theorem ZmG:∀ (n:Nat) (v:Int) (w:List Int) (xs:List Tree),w∈wys g n v→xs.length=(Ab (Zaj g (Zdh w))).length→fitss g xs (Ab (Zaj g (Zdh w)))=true→fits g (Zc3 w xs) v=true∧Zbo g (Zc3 w xs)=wordL g (Zaj g (Zdh w)) xs
 | 0,v,w,xs,h,_,_=>by simp[wys] at h
 | n+1,v,w,xs,h,h1,h2=>by
  obtain⟨k,hk,hl,⟨hu,rfl⟩|⟨hu,x,hx,rfl⟩⟩:=wys_mem.1 h
  ·rw[show Zdh [(k:Int)]=(k:Int) from rfl,Zax hk] at h1 h2 ⊢;rw[Zc3];exact ZfW hk hl h1 h2
  ·have hne:=ZgI hx;rw[ZcU _ hne] at h1 h2 ⊢;obtain⟨k1,k2⟩:=ZmG n _ x xs hx h1 h2;obtain⟨u1,u2⟩:=Zk3 hu;rw[Zdq _ hne];have hkk:Ab g.Aa[k].right=[ZaC g.Aa[k].right]:=by
    conv=>lhs;rw[u1]
    rw[ZbG (by omega)];rfl
   obtain⟨f1,f2⟩:=ZfW hk (xs:=[Zc3 x xs]) hl (by rw[hkk];rfl) (by rw[hkk,fitss,k1,fitss.eq_def];rfl);refine⟨f1,?_⟩;rw[f2,←k2]
   conv=>lhs;rw[u1]
   rw[Za2 (by omega),Zbe,Ht]
theorem Zp7:∀ (n:Nat) (v:Int) (w w':List Int) (xs xs':List Tree),w∈wys g n v→w'∈wys g n v→Zc3 w xs=Zc3 w' xs'→w=w'∧xs=xs'
 | 0,v,w,w',xs,xs',h,_,_=>by simp[wys] at h
 | n+1,v,w,w',xs,xs',h,h',e=>by
  obtain⟨k,hk,hl,⟨hu,rfl⟩|⟨hu,x,hx,rfl⟩⟩:=wys_mem.1 h
  ·obtain⟨k',hk',hl',⟨hu',rfl⟩|⟨hu',x',hx',rfl⟩⟩:=wys_mem.1 h'
   ·rw[Zc3,Zc3] at e;obtain⟨e1,e2⟩:=Tree.mk.inj e;exact⟨by rw[e1],e2⟩
   ·rw[Zc3,Zdq _ (ZgI hx')] at e;obtain⟨e1,e2⟩:=Tree.mk.inj e;obtain rfl:k=k':=(by omega);exact absurd hu hu'
  ·obtain⟨k',hk',hl',⟨hu',rfl⟩|⟨hu',x',hx',rfl⟩⟩:=wys_mem.1 h'
   ·rw[Zc3,Zdq _ (ZgI hx)] at e;obtain⟨e1,e2⟩:=Tree.mk.inj e;obtain rfl:k=k':=(by omega);exact absurd hu' hu
   ·rw[Zdq _ (ZgI hx),Zdq _ (ZgI hx')] at e;obtain⟨e1,e2⟩:=Tree.mk.inj e;obtain rfl:k=k':=(by omega);obtain⟨q1,q2⟩:=Zp7 n _ x x' xs xs' hx hx' (HY e2).1;exact⟨by rw[q1],q2⟩
theorem Zp8 (hg:g.ok) (hc:cycL g=[]):∀ (n:Nat) (v:Int) (x:Tree),0≤v→v < g.vars→rnk g v < n→fits g x v=true→∃ w∈wys g n v,∃ xs,x=Zc3 w xs∧xs.length=(Ab (Zaj g (Zdh w))).length∧fitss g xs (Ab (Zaj g (Zdh w)))=true∧∀ y∈xs,cnt y < cnt x
 | 0,v,x,_,_,h,_=>by omega
 | n+1,v,x,h0,h1,hn,hf=>by
  obtain⟨k,hk,e1,e2,e3,e4,_⟩:=ZaR hf;by_cases hu:ZaC g.Aa[k].right < 0
  ·refine⟨[(k:Int)],wys_mem.2 ⟨k,hk,e2,.inl ⟨hu,rfl⟩⟩,x.Ab,?_,?_,?_,fun y hy=>?_⟩
   ·rw[Zc3,←e1];exact Tree.eta x
   ·rw[show Zdh [(k:Int)]=(k:Int) from rfl,Zax hk];exact e3.symm
   ·rw[show Zdh [(k:Int)]=(k:Int) from rfl,Zax hk];exact e4
   ·have:=Zbn hy;rw[ZcB x];omega
  ·obtain⟨u1,u2⟩:=Zk3 hu;have hi:(k:Int)∈by_ g v:=by_mem.2 ⟨k,hk,rfl,e2⟩;have hs:=Zeb hi (by rw[Zax hk];exact u2);rw[Zax hk] at hs;obtain⟨s0,s1⟩:=ZeM hg h0 h1 hs;have hr:=ZdO hg hc h0 h1 hs;have hkk:Ab g.Aa[k].right=[ZaC g.Aa[k].right]:=by
    conv=>lhs;rw[u1]
    rw[ZbG (by omega)];rfl
   rw[hkk] at e3 e4
   match hxk:x.Ab,e3 with
   | [t],_ =>
    rw[hxk,fitss,Hr] at e4;obtain⟨w,hw,xs,q1,q2,q3,q4⟩:=Zp8 hg hc n _ t s0 s1 (by omega) e4.1;refine⟨(k:Int)::w,wys_mem.2 ⟨k,hk,e2,.inr ⟨hu,w,hw,rfl⟩⟩,xs,?_,?_,?_,fun y hy=>?_⟩
    ·rw[Zdq _ (ZgI hw),←q1,←e1,←hxk];exact Tree.eta x
    ·rw[ZcU _ (ZgI hw)];exact q2
    ·rw[ZcU _ (ZgI hw)];exact q3
    ·have:=q4 y hy;rw[ZcB x,hxk];simp only[cnts];omega
   | [],h=>simp at h
   | _::_::_,h=>simp at h
abbrev ZeN (g:Ac) (n:Nat):List (Nat×List Int):=(List.range n).flatMap fun (v:Nat)=>(ways g (v:Int)).map fun w=>(v,w)
theorem Zn7 (g:Ac) (n:Nat):Zcj g n=(ZeN g n).map (fun p=>ZgS g p.1 p.2)∧Zdj g n=(ZeN g n).map (fun p=>wayF g p.2):=by
 unfold Zcj Zdj ZeN;constructor <;> (rw[List.map_flatMap];simp only[H8];rfl)
theorem ZAQ (g:Ac) (n:Nat):(ZeN g n).Nodup:=by
 unfold ZeN List.Nodup;rw[G1];refine⟨fun v _=>?_,?_⟩
 ·rw[Ge];exact (Zp6 g _ _).imp fun h q=>h (Je q).2
 ·refine (JR).imp fun {a b} hab=>?_
  intro x hx y hy q;subst q;obtain⟨w,_,rfl⟩:=List.mem_map.1 hx;obtain⟨w',_,e⟩:=List.mem_map.1 hy;have:=(Je e).1;omega
theorem sh_mem {n v:Nat} {w:List Int}:(v,w)∈ZeN g n↔v < n∧w∈ways g v:=by
 unfold ZeN;simp only[G0,Jc,Gv,Jz];constructor
 ·rintro⟨u,hu,x,hx,rfl,rfl⟩;exact⟨hu,hx⟩
 ·rintro⟨h1,h2⟩;exact⟨v,h1,w,h2,rfl,rfl⟩
def shP (g:Ac):List (Nat×List Int):=ZeN g g.vars.toNat
theorem Zva {j:Nat} (hj:j < (Zbs g).g.Aa.length):∃ (v:Nat) (w:List Int) (hI:j < (shP g).length),(shP g)[j]=(v,w)∧(v:Int) < g.vars∧w∈ways g v∧(Zbs g).g.Aa[j]=ZgS g v w∧(Zbs g).frags.getD j []=wayF g w:=by
 obtain⟨h1,h2⟩:=Zn7 g g.vars.toNat;have e1:(Zbs g).g.Aa=(shP g).map fun p=>ZgS g p.1 p.2:=h1
 have e2:(Zbs g).frags=(shP g).map fun p=>wayF g p.2:=h2
 have hI:j < (shP g).length:=by rw[e1,Hi] at hj;exact hj
 have hm:=He hI;obtain⟨⟨v,w⟩,hp⟩:∃ p,(shP g)[j]=p:=⟨_,rfl⟩
 rw[hp] at hm;obtain⟨m1,m2⟩:=sh_mem.1 hm;refine⟨v,w,hI,hp,by omega,m2,?_,?_⟩
 ·simp only[e1,Gu,hp]
 ·rw[e2,Hf,Gg,Hj hI];simp only[H9,HW,hp]
theorem ZEZ {v:Nat} {w:List Int} (hv:(v:Int) < g.vars) (hw:w∈ways g v):∃ (j:Nat) (_:j < (Zbs g).g.Aa.length) (hI:j < (shP g).length),(shP g)[j]=(v,w):=by
 obtain⟨j,hj,e⟩:=List.mem_iff_getElem.1 (sh_mem.2 ⟨by omega,hw⟩:(v,w)∈ZeN g g.vars.toNat);refine⟨j,?_,hj,e⟩;have e1:(Zbs g).g.Aa=(ZeN g g.vars.toNat).map fun p=>ZgS g p.1 p.2:=(Zn7 g g.vars.toNat).1
 rw[e1,Hi];exact hj
def fitE (g:Ac) (u:Int) (x:Tree):Prop:=fits g x u=true
theorem ZAR {xs:List Tree} {us:List Int} (h:EL (fitE g) xs us):xs.length=us.length∧fitss g xs us=true:=⟨h.1,ZeV h.1 fun i h1 h2=>h.2 i h1 h2⟩
theorem ZAS {xs:List Tree} {us:List Int} (h1:xs.length=us.length) (h2:fitss g xs us=true):EL (fitE g) xs us:=⟨h1,fun i q1 q2=>Zbv h2 q1 q2⟩
variable (hg:g.ok) (hc:cycL g=[])
include hg hc
theorem Zk4:LeadsT g (Zbs g).g (Zbs g).frags (fitE g) where
 sound j hj xs h:=by
  obtain⟨v,w,hI,e1,hv,e2,e3,e4⟩:=Zva hj;rw[e3] at h ⊢;rw[e4];obtain⟨k1,k2⟩:=ZAR h;have hne:=Zp3 hg hc (by omega) hv e2;obtain⟨f1,f2⟩:=ZmG _ _ w xs e2 k1 k2;exact⟨_,Zk2 w xs hne k1,f1,f2⟩
 inj j j' hj hj' xs xs' hl h h' he:=by
  obtain⟨v,w,hI,e1,hv,e2,e3,e4⟩:=Zva hj;obtain⟨v',w',hI',e1',hv',e2',e3',e4'⟩:=Zva hj';rw[e3,e3'] at hl;have hvv:(v:Int)=(v':Int):=hl;obtain rfl:v=v':=by omega
  rw[e3] at h;rw[e3'] at h';rw[e4,e4',Zk2 w xs (Zp3 hg hc (by omega) hv e2) h.1,Zk2 w' xs' (Zp3 hg hc (by omega) hv e2') h'.1] at he;obtain⟨q1,q2⟩:=Zp7 _ _ w w' xs xs' e2 e2' (HY he).1;refine⟨?_,q2⟩;exact (JF (ZAQ g g.vars.toNat)).1 (show (shP g)[j]=(shP g)[j'] by rw[e1,e1',q1])
 surj u x h0 h1 hx:=by
  have h1:u < g.vars:=h1;obtain⟨v,rfl⟩:∃ v:Nat,u=(v:Int):=⟨u.toNat,by omega⟩
  obtain⟨w,hw,xs,q1,q2,q3,q4⟩:=Zp8 hg hc (rnk g (v:Int)+1) _ x h0 h1 (by omega) hx;obtain⟨j,hj,hI,ej⟩:=ZEZ h1 hw;obtain⟨v',w',hI',f1,f2,f3,f4,f5⟩:=Zva hj;rw[ej] at f1;obtain⟨rfl,rfl⟩:=Je f1;refine⟨j,hj,xs,by rw[f4];rfl,by rw[f4];exact ZAS q2 q3,?_,q4⟩;rw[f5,Zk2 w xs (ZgI hw) q2,←q1]
omit hg hc in
theorem Zjh (w:List Int):ZdM g (Zbs g).g (oneD (fitE g)) (sgW g) w :=
 Zit (fun x hx=>hx) (fun x hx _=>hx)
omit hg hc in
theorem ZAT:∀ l∈(Zbs g).frags,plL l=true:=fun l hl=>by
 have e2:(Zbs g).frags=(shP g).map fun p=>wayF g p.2:=(Zn7 g g.vars.toNat).2
 rw[e2] at hl;obtain⟨p,_,rfl⟩:=List.mem_map.1 hl;generalize p.2=w;have:∀ w:List Int,plL (wayF g w)=true:=by
  intro w
  induction w with
  | nil=>rfl
  | cons r w ih =>
   cases w with
   | nil=>rw[wayF];exact ZnB _ _
   | cons a b=>rw[wayF,plL,plF,Hb rfl,ih];rfl
 exact this w
theorem ZrR:∀ (n:Nat) (v:Int) (w:List Int),0≤v→v < g.vars→w∈wys g n v→∃ k:Nat,∃ hk:k < g.Aa.length,Zdh w=(k:Int)∧rnk g g.Aa[k].left≤rnk g v∧(has (nulB g) g.Aa[k].left=true→has (nulB g) v=true)
 | 0,v,w,_,_,h=>by simp[wys] at h
 | n+1,v,w,h0,h1,h=>by
  obtain⟨k,hk,hl,⟨hu,rfl⟩|⟨hu,x,hx,rfl⟩⟩:=wys_mem.1 h
  ·exact⟨k,hk,rfl,by rw[hl];exact Hg _,fun q=>by rw[←hl];exact q⟩
  ·obtain⟨u1,u2⟩:=Zk3 hu;have hi:(k:Int)∈by_ g v:=by_mem.2 ⟨k,hk,rfl,hl⟩;have hs:=Zeb hi (by rw[Zax hk];exact u2);rw[Zax hk] at hs;obtain⟨s0,s1⟩:=ZeM hg h0 h1 hs;have hr:=ZdO hg hc h0 h1 hs;obtain⟨m,hm,q1,q2,q3⟩:=ZrR n _ x s0 s1 hx;refine⟨m,hm,by rw[ZcU _ (ZgI hx)];exact q1,by omega,fun q=>?_⟩;rw[←hl];refine ZeW hg (He hk) fun s hs=>?_
   rw[u1,Gw] at hs;rw[hs];exact q3 q
theorem Zvb (ha:∀ u,u < g.vars.toNat→Zed g u=true):∀ v,has (nulB (Zbs g).g) v=true→has (nulB g) v=true:=by
 refine ZhB (ZjJ hg hc ha) _ fun q hq hin=>?_
 obtain⟨j,hj,rfl⟩:=List.mem_iff_getElem.1 hq;obtain⟨v,w,hI,e1,hv,e2,e3,e4⟩:=Zva hj;rw[e3] at hin ⊢;obtain⟨k,hk,q1,q2,q3⟩:=ZrR hg hc _ _ w (by omega) hv e2;refine q3 (ZeW hg (He hk) fun s hs=>(hin s ?_).2);show s∈Zaj g (Zdh w);rw[q1,Zax hk];exact hs
theorem ZxZ (ha:∀ u,u < g.vars.toNat→Zed g u=true):cycL (Zbs g).g=[]:=by
 refine ZiK (ZjJ hg hc ha) (rnk g) fun u u' h0 h1 hu=>?_
 obtain⟨q,hq,e0,pre,post,f2,u0,f3,f4⟩:=stepA_iff.1 hu;obtain⟨j,hj,rfl⟩:=List.mem_iff_getElem.1 hq;obtain⟨v,w,hI,e1,hv,e2,e3,e4⟩:=Zva hj;rw[e3] at e0 f2;have e0:(v:Int)=u:=e0;obtain⟨k,hk,q1,q2,q3⟩:=ZrR hg hc _ _ w (by omega) hv e2;have f2:Zaj g (Zdh w)=pre++u'::post:=f2;rw[q1,Zax hk] at f2;have hn:∀ l:List Int,ZaQ l (nulB (Zbs g).g)=true→ZaQ l (nulB g)=true:=fun l hl=>by
  simp only[ZaQ,HR] at hl ⊢;exact fun s hs=>Zvb hg hc ha s (hl s hs)
 have hst:u'∈ZiL g g.Aa[k].left:=stepA_iff.2 ⟨_,He hk,rfl,pre,post,f2,u0,hn _ f3,hn _ f4⟩;have:=ZdO hg hc (hg.left0 _ (He hk)) (hg.left _ (He hk)) hst;rw[←e0];omega
end
theorem ZrS {g:Ac} (h:(Zb1 g).2.code=0) (w:List Int):ZgH g (Zb1 g).1 w false:=by
 rcases Zf2 g with ⟨h1,e⟩|e|⟨v,e⟩|⟨hg,hc,ha,e⟩
 ·rw[e] at h;exact absurd h h1
 ·rw[e] at h;cases h
 ·rw[e] at h;cases h
 ·rw[e];have hs:=ZmE hg hc ha;exact Zis (by rw[hs]) rfl (fun _=>ZxZ hg hc ha) (Zk4 hg hc).leads (Zjh w) (ZjB (by rw[hs]) ZAT (Zk4 hg hc).leads (Zjh w))
def Zn8 (nl:List (List Tree)) (ss:List Int) (p:List Nat):Bool:=decide ((thM nl ss p 0).1.length≠0)
theorem ZAU {left:Int} {r:Nat} {right:List Int} {l:List Ad} {S S':TS} (h:S.put left r right l=.ok S'):S'.Aa=S.Aa++(if right.length≠0 then [⟨left,right⟩] else [])∧S'.frags=S.frags++(if right.length≠0 then [[.mk 1 (r:Int) l]] else []):=by
 unfold TS.put at h;split at h
 ·rename_i h0;cases h;rw[Ha (fun q=>q h0),Ha (fun q=>q h0),Ht,Ht];exact⟨rfl,rfl⟩
 ·rename_i h0;split at h
  ·cases h
  ·cases h;rw[Hb h0,Hb h0];exact⟨rfl,rfl⟩
theorem Zts {nl:List (List Tree)} {left:Int} {r:Nat} {ss:List Int}:∀ (ps:List (List Nat)) (S S':TS),thL (fun p S=>S.put left r (thM nl ss p 0).1 (thM nl ss p 0).2) ps S=.ok S'→S'.Aa=S.Aa++(ps.filter (Zn8 nl ss)).map (fun p=>⟨left,(thM nl ss p 0).1⟩)∧S'.frags=S.frags++(ps.filter (Zn8 nl ss)).map (fun p=>[.mk 1 (r:Int) (thM nl ss p 0).2])
 | [],S,S',h=>by
  rw[thL] at h;cases h;simp
 | p::ps,S,S',h=>by
  rw[thL] at h;cases hc:S.put left r (thM nl ss p 0).1 (thM nl ss p 0).2 with
  | error e=>rw[hc] at h;cases h
  | ok S1 =>
   rw[hc] at h;obtain⟨h1,h2⟩:=ZAU hc;obtain⟨h3,h4⟩:=Zts ps S1 S' h;rw[h3,h4,h1,h2];by_cases h0:(thM nl ss p 0).1.length≠0
   ·rw[Hb h0,Hb h0,Gr (show Zn8 nl ss p=true from Hu h0)];simp
   ·rw[Ha h0,Ha h0,GJ (by unfold Zn8;rw[HC h0];decide)];simp
abbrev thG1 (g:Ac) (r:Nat):Rule:=g.Aa.getD r ⟨0,[]⟩
theorem Zf3 {g:Ac} {r:Nat} (hr:r < g.Aa.length):thG1 g r=g.Aa[r]:=by
 unfold thG1;rw[Hf,Hj hr];rfl
def thPs (g:Ac) (nl:List (List Tree)) (rs:List Nat):List (Nat×List Nat):=rs.flatMap fun (r:Nat)=>((tups (Za6 nl (thG1 g r).right)).filter (Zn8 nl (thG1 g r).right)).map fun p=>(r,p)
theorem Ztt {g:Ac} {nl:List (List Tree)}:∀ (n i:Nat) (S S':TS),i+n=g.Aa.length→thA nl i (g.Aa.drop i) S=.ok S'→S'.Aa=S.Aa++(thPs g nl (List.range' i n)).map (fun q=>⟨(thG1 g q.1).left,(thM nl (thG1 g q.1).right q.2 0).1⟩)∧S'.frags=S.frags++(thPs g nl (List.range' i n)).map (fun q=>[.mk 1 (q.1:Int) (thM nl (thG1 g q.1).right q.2 0).2])
 | 0,i,S,S',hi,h=>by
  rw[HL (by omega),thA] at h;cases h;simp[thPs]
 | n+1,i,S,S',hi,h=>by
  have hlt:i < g.Aa.length:=by omega
  rw[Hw hlt,thA] at h;cases hc:thR nl g.Aa[i].left i g.Aa[i].right 0 [] [] S with
  | error e=>rw[hc] at h;cases h
  | ok S1 =>
   rw[hc] at h;obtain⟨h3,h4⟩:=Ztt n (i+1) S1 S' (by omega) h;rw[Zfz] at hc;simp only[H3] at hc;obtain⟨h1,h2⟩:=Zts _ _ _ hc;have e:thPs g nl (List.range' i (n+1))=((tups (Za6 nl g.Aa[i].right)).filter (Zn8 nl g.Aa[i].right)).map (fun p=>(i,p))++thPs g nl (List.range' (i+1) n):=by
    unfold thPs;rw[JE,HP,Zf3 hlt]
   rw[h3,h4,h1,h2,e,Ho,Ho,H8,H8,HH,HH];refine⟨?_,?_⟩
   ·congr 2;refine GL fun p _=>?_
    simp only[Function.comp,Zf3 hlt]
   ·congr 2;refine GL fun p _=>?_
    simp only[Function.comp,Zf3 hlt]
theorem ZmH:∀ cs:List Nat,(tups cs).Nodup
 | []=>List.pairwise_singleton _ _
 | c::cs=>by
  rw[tups];unfold List.Nodup;rw[G1];refine⟨fun a _=>?_,?_⟩
  ·rw[Ge];exact (ZmH cs).imp fun h q=>h (HY q).2
  ·refine (JR).imp fun {a b} hab=>?_
   intro x hx y hy q;subst q;obtain⟨u,_,rfl⟩:=List.mem_map.1 hx;obtain⟨v,_,e⟩:=List.mem_map.1 hy;have:=(HY e).1;omega
theorem Zvc (g:Ac) (nl:List (List Tree)) (i n:Nat):(thPs g nl (List.range' i n)).Nodup:=by
 unfold thPs List.Nodup;rw[G1];refine⟨fun r _=>?_,?_⟩
 ·rw[Ge];exact ((ZmH _).filter _).imp fun h q=>h (Je q).2
 ·refine (List.pairwise_lt_range' (s:=i) (n:=n)).imp fun {a b} hab=>?_
  intro x hx y hy q;subst q;obtain⟨u,_,rfl⟩:=List.mem_map.1 hx;obtain⟨v,_,e⟩:=List.mem_map.1 hy;have:=(Je e).1;omega
theorem thPs_mem {g:Ac} {nl:List (List Tree)} {n r:Nat} {p:List Nat}:(r,p)∈thPs g nl (List.range' 0 n)↔r < n∧p∈tups (Za6 nl (thG1 g r).right)∧Zn8 nl (thG1 g r).right p=true:=by
 unfold thPs;simp only[G0,List.mem_range'_1,Gv,List.mem_filter,Jz];constructor
 ·rintro⟨u,hu,x,hx,rfl,rfl⟩;exact⟨by omega,hx⟩
 ·rintro⟨h1,h2⟩;exact⟨r,by omega,p,h2,rfl,rfl⟩
theorem ZCQ (ls:List (List Tree)):∀ x:Tree,muF ls (asF x)=[x]:=by
 refine Tree.ind fun x ih=>?_
 have key:∀ l:List Tree,(∀ y∈l,muF ls (asF y)=[y])→muL ls (asFs l)=l:=by
  intro l
  induction l with
  | nil=>intro _;rfl
  | cons y l ihl =>
   intro h;rw[asFs,muL,h y (by simp),ihl fun z hz=>h z (by simp[hz])];rfl
 rw[Tree.eta x,asF,muF,Hb rfl,key x.Ab ih]
theorem ZCR:∀ x:Tree,plF (asF x)=true:=by
 refine Tree.ind fun x ih=>?_
 have key:∀ l:List Tree,(∀ y∈l,plF (asF y)=true)→plL (asFs l)=true:=by
  intro l
  induction l with
  | nil=>intro _;rfl
  | cons y l ihl =>
   intro h;rw[asFs,plL,h y (by simp),ihl fun z hz=>h z (by simp[hz])];rfl
 rw[Tree.eta x,asF,plF,Hb rfl,key x.Ab ih]
theorem Zn9 (nl:List (List Tree)):∀ (ss:List Int) (p:List Nat) (h:Nat),plL (thM nl ss p h).2=true
 | [],p,h=>rfl
 | s::ss,p,h=>by
  by_cases hs:s < 0
  ·simp only[thM,hs,if_true];exact Zn9 nl ss p h
  ·cases p with
   | nil=>simp only[thM,hs,if_false];rfl
   | cons a p =>
    cases a with
    | zero=>simp only[thM,hs,if_false];rw[plL,Zn9 nl ss p (h+1),plF];rfl
    | succ a=>simp only[thM,hs,if_false];rw[plL,Zn9 nl ss p h,ZCR];rfl
def fullK (nl:List (List Tree)):List Int→List Nat→List Tree→List Tree
 | [],_,_=>[]
 | s::ss,p,xs=>if s < 0 then fullK nl ss p xs else match p with
  | []=>[]
  | 0::p=>match xs with
   | []=>[]
   | x::xs=>x::fullK nl ss p xs
  | (a+1)::p=>(nl.getD s.toNat []).getD a (.mk 0 [])::fullK nl ss p xs
theorem Zf4 {nl:List (List Tree)} {s:Int} (h:s < 0) (ss:List Int) (p:List Nat) (xs:List Tree):fullK nl (s::ss) p xs=fullK nl ss p xs:=by rw[fullK.eq_def];simp[h]
theorem Zdr {nl:List (List Tree)} {s:Int} (h:¬ s < 0) (ss:List Int) (p:List Nat) (x:Tree) (xs:List Tree):fullK nl (s::ss) (0::p) (x::xs)=x::fullK nl ss p xs:=by rw[fullK.eq_def];simp[h]
theorem Zds {nl:List (List Tree)} {s:Int} (h:¬ s < 0) (ss:List Int) (a:Nat) (p:List Nat) (xs:List Tree):fullK nl (s::ss) ((a+1)::p) xs=(nl.getD s.toNat []).getD a (.mk 0 [])::fullK nl ss p xs:=by rw[fullK.eq_def];simp[h]
theorem ZjK {nl:List (List Tree)} {s:Int} (h:s < 0) (ss:List Int):Za6 nl (s::ss)=Za6 nl ss:=by unfold Za6;rw[Zc2 h]
theorem ZhR {nl:List (List Tree)} {s:Int} (h:¬ s < 0) (ss:List Int):Za6 nl (s::ss)=((nl.getD s.toNat []).length+1)::Za6 nl ss:=by unfold Za6;rw[ZbG h];rfl
theorem tups_cons {c:Nat} {cs:List Nat} {q:List Nat}:q∈tups (c::cs)↔∃ a p,q=a::p∧a < c∧p∈tups cs:=by
 rw[tups];simp only[G0,Jc,Gv];constructor
 ·rintro⟨a,ha,p,hp,rfl⟩;exact⟨a,p,rfl,ha,hp⟩
 ·rintro⟨a,p,rfl,ha,hp⟩;exact⟨a,ha,p,hp,rfl⟩
section
variable {g:Ac} {nl:List (List Tree)}
theorem Ztu:∀ (ss:List Int) (p:List Nat) (pre:List (List Tree)) (xs:List Tree),p∈tups (Za6 nl ss)→xs.length=(Ab (thM nl ss p pre.length).1).length→muL (pre++sing xs) (thM nl ss p pre.length).2=fullK nl ss p xs
 | [],p,pre,xs,_,_=>rfl
 | s::ss,p,pre,xs,hp,hl=>by
  by_cases hs:s < 0
  ·rw[ZjK hs] at hp;simp only[thM,hs,if_true] at hl ⊢;rw[Zc2 hs] at hl;rw[Zf4 hs];exact Ztu ss p pre xs hp hl
  ·rw[ZhR hs] at hp;obtain⟨a,p,rfl,ha,hp2⟩:=tups_cons.1 hp;cases a with
   | zero =>
    simp only[thM,hs,if_false] at hl ⊢;rw[ZbG hs] at hl;cases xs with
    | nil=>simp at hl
    | cons x xs =>
     rw[Zdr hs,muL,muF,Ha (by decide),Hb rfl];have e:pre++sing (x::xs)=(pre++[[x]])++sing xs:=(by simp[sing]);have h1:=Ztu ss p (pre++[[x]]) xs hp2 (by simpa using hl);rw[Hk,HS] at h1;rw[e,h1,Hn,←e,Hf,Gp (Hg _),Ga];rfl
   | succ a =>
    simp only[thM,hs,if_false] at hl ⊢;rw[Zds hs,muL,ZCQ,Ztu ss p pre xs hp2 hl];rfl
theorem Zf5 (hf:∀ v,∀ x∈nl.getD v [],fits g x (v:Int)=true) (hw:∀ v,∀ x∈nl.getD v [],Zbo g x=[]):∀ (ss:List Int) (p:List Nat) (h:Nat) (xs:List Tree),p∈tups (Za6 nl ss)→xs.length=(Ab (thM nl ss p h).1).length→fitss g xs (Ab (thM nl ss p h).1)=true→(fullK nl ss p xs).length=(Ab ss).length∧fitss g (fullK nl ss p xs) (Ab ss)=true∧wordL g ss (fullK nl ss p xs)=wordL g (thM nl ss p h).1 xs
 | [],p,h,xs,_,_,_=>⟨rfl,by rw[fitss.eq_def];rfl,by rw[show (thM nl [] p h).1=[] from rfl,Zbe,Zbe]⟩
 | s::ss,p,h,xs,hp,hl,hx=>by
  by_cases hs:s < 0
  ·rw[ZjK hs] at hp;simp only[thM,hs,if_true] at hl hx ⊢;rw[Zc2 hs] at hl hx;obtain⟨k1,k2,k3⟩:=Zf5 hf hw ss p h xs hp hl hx;rw[Zf4 hs,Zc2 hs,Zbi hs,Zbi hs,k3];exact⟨k1,k2,rfl⟩
  ·rw[ZhR hs] at hp;obtain⟨a,p,rfl,ha,hp2⟩:=tups_cons.1 hp;cases a with
   | zero =>
    simp only[thM,hs,if_false] at hl hx ⊢;rw[ZbG hs] at hl hx;cases xs with
    | nil=>simp at hl
    | cons x xs =>
     rw[fitss,Hr] at hx;obtain⟨k1,k2,k3⟩:=Zf5 hf hw ss p (h+1) xs hp2 (by simpa using hl) hx.2;rw[Zdr hs,ZbG hs,Za2 hs,Za2 hs,k3,fitss,hx.1,k2];exact⟨by simp[k1],rfl,rfl⟩
   | succ a =>
    simp only[thM,hs,if_false] at hl hx ⊢;obtain⟨k1,k2,k3⟩:=Zf5 hf hw ss p h xs hp2 hl hx;have ha':a < (nl.getD s.toNat []).length:=(by omega);have hm:(nl.getD s.toNat []).getD a (.mk 0 [])∈nl.getD s.toNat []:=by
     rw[show (nl.getD s.toNat []).getD a (.mk 0 [])=(nl.getD s.toNat [])[a] by rw[Hf,Hj ha'];rfl];exact He ha'
    have q1:=hf _ _ hm;rw[show ((s.toNat:Nat):Int)=s by omega] at q1;rw[Zds hs,ZbG hs,Za2 hs,hw _ _ hm,k3,fitss,q1,k2];exact⟨by simp[k1],rfl,rfl⟩
theorem Zx0:∀ (ss:List Int) (xs:List Tree),ss≠[]→xs.length=(Ab ss).length→(∀ x∈xs,Zbo g x≠[])→wordL g ss xs≠[]
 | [],xs,h,_,_=>absurd rfl h
 | s::ss,xs,_,hl,hx=>by
  by_cases hs:s < 0
  ·rw[Zbi hs];simp
  ·rw[ZbG hs] at hl;cases xs with
   | nil=>simp at hl
   | cons x xs =>
    rw[Za2 hs];intro q;exact hx x (by simp) (List.append_eq_nil_iff.1 q).1
theorem ZjL (hw:∀ v,∀ x∈nl.getD v [],Zbo g x=[]) (hd:∀ v,(nl.getD v []).Nodup):∀ (ss:List Int) (p p':List Nat) (h:Nat) (xs xs':List Tree),p∈tups (Za6 nl ss)→p'∈tups (Za6 nl ss)→xs.length=(Ab (thM nl ss p h).1).length→xs'.length=(Ab (thM nl ss p' h).1).length→(∀ x∈xs,Zbo g x≠[])→(∀ x∈xs',Zbo g x≠[])→fullK nl ss p xs=fullK nl ss p' xs'→p=p'∧xs=xs'
 | [],p,p',h,xs,xs',hp,hp',hl,hl',_,_,_=>by
  have e1:p=[]:=by simpa[Za6,Ab,tups] using hp
  have e2:p'=[]:=by simpa[Za6,Ab,tups] using hp'
  have l1:xs=[]:=HX hl;have l2:xs'=[]:=HX hl';exact⟨by rw[e1,e2],by rw[l1,l2]⟩
 | s::ss,p,p',h,xs,xs',hp,hp',hl,hl',hx,hx',e=>by
  by_cases hs:s < 0
  ·rw[ZjK hs] at hp hp';simp only[thM,hs,if_true] at hl hl';rw[Zc2 hs] at hl hl';rw[Zf4 hs,Zf4 hs] at e;exact ZjL hw hd ss p p' h xs xs' hp hp' hl hl' hx hx' e
  ·rw[ZhR hs] at hp hp';obtain⟨a,p,rfl,ha,hp2⟩:=tups_cons.1 hp;obtain⟨a',p',rfl,ha',hp2'⟩:=tups_cons.1 hp';have hnl:∀ b,b < (nl.getD s.toNat []).length→(nl.getD s.toNat []).getD b (.mk 0 [])∈nl.getD s.toNat []:=fun b hb=>by
    rw[show (nl.getD s.toNat []).getD b (.mk 0 [])=(nl.getD s.toNat [])[b] by rw[Hf,Hj hb];rfl];exact He hb
   cases a with
   | zero =>
    simp only[thM,hs,if_false] at hl;rw[ZbG hs] at hl;cases xs with
    | nil=>simp at hl
    | cons x xs =>
     cases a' with
     | zero =>
      simp only[thM,hs,if_false] at hl';rw[ZbG hs] at hl';cases xs' with
      | nil=>simp at hl'
      | cons x' xs' =>
       rw[Zdr hs,Zdr hs] at e;obtain⟨e1,e2⟩:=HY e;obtain⟨q1,q2⟩:=ZjL hw hd ss p p' (h+1) xs xs' hp2 hp2' (by simpa using hl) (by simpa using hl') (fun y hy=>hx y (by simp[hy])) (fun y hy=>hx' y (by simp[hy])) e2;exact⟨by rw[q1],by rw[e1,q2]⟩
     | succ a' =>
      rw[Zdr hs,Zds hs] at e;obtain⟨e1,_⟩:=HY e;exact absurd (hw _ _ (hnl a' (by omega))) (by rw[←e1];exact hx x (by simp))
   | succ a =>
    simp only[thM,hs,if_false] at hl;cases a' with
    | zero =>
     simp only[thM,hs,if_false] at hl';rw[ZbG hs] at hl';cases xs' with
     | nil=>simp at hl'
     | cons x' xs' =>
      rw[Zds hs,Zdr hs] at e;obtain⟨e1,_⟩:=HY e;exact absurd (hw _ _ (hnl a (by omega))) (by rw[e1];exact hx' x' (by simp))
    | succ a' =>
     simp only[thM,hs,if_false] at hl';rw[Zds hs,Zds hs] at e;obtain⟨e1,e2⟩:=HY e;obtain⟨q1,q2⟩:=ZjL hw hd ss p p' h xs xs' hp2 hp2' hl hl' hx hx' e2;have b1:a < (nl.getD s.toNat []).length:=(by omega);have b2:a' < (nl.getD s.toNat []).length:=(by omega);rw[show (nl.getD s.toNat []).getD a (.mk 0 [])=(nl.getD s.toNat [])[a] by rw[Hf,Hj b1];rfl,show (nl.getD s.toNat []).getD a' (.mk 0 [])=(nl.getD s.toNat [])[a'] by rw[Hf,Hj b2];rfl] at e1;have:=(JF (hd s.toNat)).1 e1;exact⟨by rw[q1,this],q2⟩
theorem ZjM (ha:∀ v:Nat,(v:Int) < g.vars→∀ x,fits g x (v:Int)=true→Zbo g x=[]→x∈nl.getD v []):∀ (ss:List Int) (h:Nat) (ks:List Tree),(∀ s∈ss,s < g.vars)→ks.length=(Ab ss).length→fitss g ks (Ab ss)=true→∃ p∈tups (Za6 nl ss),∃ xs,ks=fullK nl ss p xs∧xs.length=(Ab (thM nl ss p h).1).length∧fitss g xs (Ab (thM nl ss p h).1)=true∧∀ x∈xs,Zbo g x≠[]∧x∈ks
 | [],h,ks,_,hl,_=>⟨[],by simp[Za6,Ab,tups],[],by rw[HX hl];rfl,rfl,by rw[fitss.eq_def],fun x hx=>by cases hx⟩
 | s::ss,h,ks,hg,hl,hf=>by
  have hg':∀ s∈ss,s < g.vars:=fun x hx=>hg x (by simp[hx])
  by_cases hs:s < 0
  ·rw[Zc2 hs] at hl hf;obtain⟨p,hp,xs,k1,k2,k3,k4⟩:=ZjM ha ss h ks hg' hl hf;refine⟨p,by rw[ZjK hs];exact hp,xs,by rw[Zf4 hs];exact k1,?_,?_,k4⟩
   ·simp only[thM,hs,if_true];rw[Zc2 hs];exact k2
   ·simp only[thM,hs,if_true];rw[Zc2 hs];exact k3
  ·rw[ZbG hs] at hl hf;cases ks with
   | nil=>simp at hl
   | cons t ks =>
    rw[fitss,Hr] at hf;by_cases ht:Zbo g t=[]
    ·have hm:=ha s.toNat (by have:=hg s (by simp);omega) t (by rw[show ((s.toNat:Nat):Int)=s by omega];exact hf.1) ht;obtain⟨a,hal,hat⟩:=List.mem_iff_getElem.1 hm;obtain⟨p,hp,xs,k1,k2,k3,k4⟩:=ZjM ha ss h ks hg' (by simpa using hl) hf.2;refine⟨(a+1)::p,by rw[ZhR hs];exact tups_cons.2 ⟨a+1,p,rfl,by omega,hp⟩,xs,?_,?_,?_,fun x hx=>⟨(k4 x hx).1,by simp[(k4 x hx).2]⟩⟩
     ·rw[Zds hs,←k1,Hf,Hj hal,HW,hat]
     ·simp only[thM,hs,if_false];exact k2
     ·simp only[thM,hs,if_false];exact k3
    ·obtain⟨p,hp,xs,k1,k2,k3,k4⟩:=ZjM ha ss (h+1) ks hg' (by simpa using hl) hf.2;refine⟨0::p,by rw[ZhR hs];exact tups_cons.2 ⟨0,p,rfl,by omega,hp⟩,t::xs,by rw[Zdr hs,←k1],?_,?_,fun x hx=>?_⟩
     ·simp only[thM,hs,if_false];rw[ZbG hs,Hl,Hl,k2]
     ·simp only[thM,hs,if_false];rw[ZbG hs,fitss,hf.1,k3];rfl
     ·rcases List.mem_cons.1 hx with rfl|hx
      ·exact⟨ht,by simp⟩
      ·exact⟨(k4 x hx).1,by simp[(k4 x hx).2]⟩
end
section
variable {g:Ac} (hg:g.ok) (hc:cycL g=[]) {nl:List (List Tree)} (hnl:nlF g=some nl)
include hg hc hnl
theorem ZrT:∀ v,∀ x∈nl.getD v [],Zbo g x=[]:=fun v x hx=>by
 obtain⟨h1,h2⟩:=ZgJ hnl;by_cases hv:v < g.vars.toNat
 ·obtain⟨q1,q2⟩:=h2 v hv;rw[q2] at hx;have:=((Zbg q1).mem hx).1.2;exact (ZkJ (g:=g) (h:=stG g v) rfl x).trans this
 ·rw[Hf,HI (by omega)] at hx;cases hx
theorem ZAV:∀ v,(nl.getD v []).Nodup:=fun v=>by
 obtain⟨h1,h2⟩:=ZgJ hnl;by_cases hv:v < g.vars.toNat
 ·obtain⟨q1,q2⟩:=h2 v hv;rw[q2];exact (Zbg q1).nodup
 ·rw[Hf,HI (by omega)];exact H7
theorem ZEb:∀ v:Nat,(v:Int) < g.vars→∀ x,fits g x (v:Int)=true→Zbo g x=[]→x∈nl.getD v []:=fun v hv x hf hw=>by
 obtain⟨h1,h2⟩:=ZgJ hnl;obtain⟨q1,q2⟩:=h2 v (by omega);rw[q2];exact (Zbg q1).all ⟨(Zmv (g:=stG g v) (h:=g) rfl x v).trans hf,(ZkJ (g:=stG g v) (h:=g) rfl x).trans hw⟩
end
def thE (g:Ac) (u:Int) (x:Tree):Prop:=fits g x u=true∧Zbo g x≠[]
section
variable {g:Ac} (hg:g.ok) (hc:cycL g=[]) {nl:List (List Tree)} (hnl:nlF g=some nl) {S:TS} (hA:thA nl 0 g.Aa ⟨[],[]⟩=.ok S)
abbrev thI (g:Ac) (nl:List (List Tree)):List (Nat×List Nat):=thPs g nl (List.range' 0 g.Aa.length)
include hA in
theorem Zoa:S.Aa=(thI g nl).map (fun q=>⟨(thG1 g q.1).left,(thM nl (thG1 g q.1).right q.2 0).1⟩)∧S.frags=(thI g nl).map (fun q=>[.mk 1 (q.1:Int) (thM nl (thG1 g q.1).right q.2 0).2]):=by
 obtain⟨h1,h2⟩:=Ztt (g:=g) (nl:=nl) g.Aa.length 0 ⟨[],[]⟩ S (by omega) (by rw[Gl];exact hA);exact⟨by simpa using h1,by simpa using h2⟩
include hA in
theorem ZAW {j:Nat} (hj:j < S.Aa.length):∃ (r:Nat) (hr:r < g.Aa.length) (p:List Nat) (hI:j < (thI g nl).length),(thI g nl)[j]=(r,p)∧p∈tups (Za6 nl g.Aa[r].right)∧(thM nl g.Aa[r].right p 0).1≠[]∧S.Aa[j]=⟨g.Aa[r].left,(thM nl g.Aa[r].right p 0).1⟩∧S.frags.getD j []=[.mk 1 (r:Int) (thM nl g.Aa[r].right p 0).2]:=by
 obtain⟨e1,e2⟩:=Zoa hA;have hI:j < (thI g nl).length:=by rw[e1,Hi] at hj;exact hj
 obtain⟨⟨r,p⟩,hp⟩:∃ p,(thI g nl)[j]=p:=⟨_,rfl⟩
 have hm:=He hI;rw[hp] at hm;obtain⟨hr,m1,m2⟩:=thPs_mem.1 hm;rw[Zf3 hr] at m1 m2;refine⟨r,hr,p,hI,hp,m1,fun q=>?_,?_,?_⟩
 ·unfold Zn8 at m2;rw[q] at m2;simp at m2
 ·simp only[e1,Gu,hp,Zf3 hr]
 ·rw[e2,Hf,Gg,Hj hI];simp only[H9,HW,hp,Zf3 hr]
include hA in
theorem ZE0 {r:Nat} (hr:r < g.Aa.length) {p:List Nat} (hp:p∈tups (Za6 nl g.Aa[r].right)) (hn:(thM nl g.Aa[r].right p 0).1≠[]):∃ (j:Nat) (_:j < S.Aa.length) (hI:j < (thI g nl).length),(thI g nl)[j]=(r,p):=by
 obtain⟨j,hj,e⟩:=List.mem_iff_getElem.1 (thPs_mem.2 ⟨hr,by rw[Zf3 hr];exact hp,by rw[Zf3 hr];unfold Zn8;exact Hu (fun q=>hn (HX q))⟩:(r,p)∈thI g nl);exact⟨j,by rw[(Zoa hA).1,Hi];exact hj,hj,e⟩
theorem ZrU {xs:List Tree} {us:List Int} (h:EL (thE g) xs us):xs.length=us.length∧fitss g xs us=true∧∀ x∈xs,Zbo g x≠[]:=⟨h.1,ZeV h.1 fun i h1 h2=>(h.2 i h1 h2).1,fun x hx=>by
 obtain⟨i,hi,rfl⟩:=List.mem_iff_getElem.1 hx;exact (h.2 i hi (by rw[←h.1];exact hi)).2⟩
theorem Zob {r:Nat} {ss:List Int} {p:List Nat} {xs:List Tree} (hp:p∈tups (Za6 nl ss)) (hl:xs.length=(Ab (thM nl ss p 0).1).length):muL (sing xs) [.mk 1 (r:Int) (thM nl ss p 0).2]=[.mk (r:Int) (fullK nl ss p xs)]:=by
 have:=Ztu (nl:=nl) ss p [] xs hp hl;simp only[H3,HB] at this;rw[muL,muF,Hb rfl,this,muL];rfl
include hg hc hnl hA
theorem Zvd:LeadsT g (thG g S) S.frags (thE g) where
 sound j hj xs h:=by
  obtain⟨r,hr,p,hI,e1,e2,e3,e4,e5⟩:=ZAW hA hj;have e4:(thG g S).Aa[j]=⟨g.Aa[r].left,(thM nl g.Aa[r].right p 0).1⟩:=e4;rw[e4] at h ⊢;rw[e5];obtain⟨k1,k2,k3⟩:=ZrU h;obtain⟨f1,f2,f3⟩:=Zf5 (ZrI hg hc hnl) (ZrT hg hc hnl) g.Aa[r].right p 0 xs e2 k1 k2;obtain⟨m1,m2⟩:=ZfW hr rfl f1 f2;refine⟨_,Zob e2 k1,⟨m1,?_⟩,by rw[m2,f3]⟩;rw[m2,f3];exact Zx0 _ _ e3 k1 k3
 inj j j' hj hj' xs xs' hl h h' he:=by
  obtain⟨r,hr,p,hI,e1,e2,e3,e4,e5⟩:=ZAW hA hj;obtain⟨r',hr',p',hI',e1',e2',e3',e4',e5'⟩:=ZAW hA hj';have e4:(thG g S).Aa[j]=⟨g.Aa[r].left,(thM nl g.Aa[r].right p 0).1⟩:=e4;have e4':(thG g S).Aa[j']=⟨g.Aa[r'].left,(thM nl g.Aa[r'].right p' 0).1⟩:=e4';rw[e4] at h;rw[e4'] at h';obtain⟨k1,k2,k3⟩:=ZrU h;obtain⟨k1',k2',k3'⟩:=ZrU h';rw[e5,e5',Zob e2 k1,Zob e2' k1'] at he;obtain⟨q1,q2⟩:=Tree.mk.inj (HY he).1;obtain rfl:r=r':=by omega
  obtain⟨w1,w2⟩:=ZjL (ZrT hg hc hnl) (ZAV hg hc hnl) _ p p' 0 xs xs' e2 e2' k1 k1' k3 k3' q2;exact⟨(JF (Zvc g nl 0 g.Aa.length)).1 (show (thI g nl)[j]=(thI g nl)[j'] by rw[e1,e1',w1]),w2⟩
 surj u x h0 h1 hx:=by
  obtain⟨r,hr,e1,e2,e3,e4,e5⟩:=ZaR hx.1;obtain⟨p,hp,xs,k1,k2,k3,k4⟩:=ZjM (ZEb hg hc hnl) g.Aa[r].right 0 x.Ab (hg.hi _ (He hr)) e3.symm e4;obtain⟨f1,f2,f3⟩:=Zf5 (ZrI hg hc hnl) (ZrT hg hc hnl) g.Aa[r].right p 0 xs hp k2 k3;have hne:(thM nl g.Aa[r].right p 0).1≠[]:=fun q=>hx.2 (by rw[e5,k1,f3,q,Zbe])
  obtain⟨j,hj,hI,ej⟩:=ZE0 hA hr hp hne;obtain⟨r',hr',p',hI',g1,g2,g3,g4,g5⟩:=ZAW hA hj;rw[ej] at g1;obtain⟨rfl,rfl⟩:=Je g1;have g4:(thG g S).Aa[j]=⟨g.Aa[r].left,(thM nl g.Aa[r].right p 0).1⟩:=g4;refine⟨j,hj,xs,by rw[g4,←e2],?_,?_,fun y hy=>?_⟩
  ·rw[g4];exact⟨k2,fun i i1 i2=>⟨Zbv k3 i1 i2,(k4 _ (He i1)).1⟩⟩
  ·rw[g5,Zob g2 k2,←k1,←e1,←Tree.eta]
  ·have:=Zbn (k4 y hy).2;rw[ZcB x];omega
end
theorem Zve {g:Ac} (h:(Zev g).2.code=0) (w:List Int):ZgH g (Zev g).1 w (decide (w=[])):=by
 have hs:=ZpH h;rcases ZgY g with ⟨h1,_⟩|⟨nl,S,hg,hc,hn,hA,e⟩
 ·exact absurd h h1
 rw[e] at hs ⊢;have hS:=ZhM hg hc hn hA;have hcy:=ZAr hg hc hn hA;by_cases hw:w=[]
 ·subst hw;rw[Hu rfl];intro hch;obtain⟨hC,_⟩:=ZsS hch;have hok:=hS.ok hg;refine⟨by rw[(Zwx hC hok rfl hcy).fault],fun _=>⟨?_,?_⟩,fun q=>by cases q⟩
  ·have hl:=Zu1 hok hcy (fun q hq=>(hS.each q hq).2.1.1) (v:=stN g) (by have:=hg.start;have:=hg.stN;show stN g < g.vars.toNat;omega);have e2:stG (⟨g.vars,g.terms,g.start,S.Aa⟩:Ac) (stN g)=⟨g.vars,g.terms,g.start,S.Aa⟩:=by
    have:=hg.stN;simp only[stG,this]
   rw[e2] at hl;have:=(Zbg (g:=⟨g.vars,g.terms,g.start,S.Aa⟩) (w:=[]) (by rw[hl])).len;rw[hl] at this;exact this.symm
  ·obtain⟨h1,h2⟩:=ZgJ hn;have hst:=hg.start;have hsn:=hg.stN;obtain⟨q1,q2⟩:=h2 (stN g) (by omega);rw[ZpG hg] at q1 q2;show cntF g []=(nl.getD (stN g) []).length∧(nl.getD (stN g) []).Nodup∧∀ x∈nl.getD (stN g) [],IsW g [] x∧cnt x≤400
   rw[q2];exact⟨(Zbg q1).len.symm,(Zbg q1).nodup,fun x hx=>(Zbg q1).mem hx⟩
 ·rw[HC hw];have hL:=(Zvd hg hc hn hA).leads;have hst:ZdM g (thG g S) (oneD (thE g)) (sgW g) w:=Zit (fun x hx=>hx.1) (fun x hx hxw=>⟨hx,by rw[hxw];exact hw⟩);have hpl:∀ l∈S.frags,plL l=true:=fun l hl=>by
   rw[(Zoa hA).2] at hl;obtain⟨q,_,rfl⟩:=List.mem_map.1 hl;rw[plL,plF,Hb rfl,Zn9];rfl
  exact Zis (s:=⟨⟨g.vars,g.terms,g.start,S.Aa⟩,S.frags,nl.getD (stN g) []⟩) (by rw[hs]) rfl (fun _=>hcy) hL hst (ZjB (by rw[hs]) hpl hL hst)
end Go.Proofs.YtbpmepgnjanhnaaGreat
