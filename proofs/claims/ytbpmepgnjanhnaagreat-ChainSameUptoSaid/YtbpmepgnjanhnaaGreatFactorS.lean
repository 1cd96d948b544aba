import Derived.Test.YtbpmepgnjanhnaaGreatFcS
import Derived.Test.YtbpmepgnjanhnaaGreatQShortD
set_option linter.unusedVariables false
set_option linter.unusedSimpArgs false
set_option linter.unusedSectionVars false
namespace Go.Proofs.YtbpmepgnjanhnaaGreat
open Go.RowKit
def tagW (w:Ae):Int:=if (w.l.getD 0 default).op=1 then -1 - (w.l.getD 0 default).n else w.right.getLastD 0
theorem Zch {w:Ae} {r:Int} {k:Nat} {b:Bool} (h:w.l=Zb9 r k b):tagW w = -1 - r:=by
 unfold tagW;rw[h];rfl
theorem Zgi {w:Ae} {k:Nat} {b:Bool} {p:List Int} {N:Int} (h:w.l=ZcX k b) (h2:w.right=p++[N]):tagW w=N:=by
 unfold tagW;rw[h,h2];show (if (4:Int)=1 then _ else _)=_;rw[Ha (by decide)];simp
def WorkI (g:Ac) (n:Nat) (γ:Nat→List Int) (par loc:Nat→Nat) (v:Nat) (w:Ae):Prop :=
 (∃ (r:Nat) (hr:r < g.Aa.length),w.l=Zb9 r (Ab w.right).length (Zbx g v)∧loc r=v∧g.Aa[r].right=γ v++w.right) ∨
 (∃ (N:Nat) (p:List Int),g.vars.toNat≤N∧N < n∧w.right=p++[(N:Int)]∧par N=v∧γ N=γ v++p∧(∀ s∈p,s < g.vars)∧w.l=ZcX (Ab p).length (Zbx g v))
structure FacI (g:Ac) (all:List (List Ae)) (γ:Nat→List Int) (par loc b:Nat→Nat):Prop where
 work:∀ v,∀ w∈all.getD v [],WorkI g all.length γ par loc v w
 all_:∀ r:Nat,r < g.Aa.length→loc r < all.length∧∃ w∈all.getD (loc r) [],tagW w = -1 - (r:Int)
 new:∀ N:Nat,g.vars.toNat≤N→N < all.length→par N < N∧∃ w∈all.getD (par N) [],tagW w=(N:Int)
 nodup:∀ v,(all.getD v []).Pairwise fun x y=>tagW x≠tagW y
 old:∀ v:Nat,v < g.vars.toNat→γ v=[]∧b v=v
 base:∀ N:Nat,g.vars.toNat≤N→N < all.length→b N=b (par N)
 left:∀ (r:Nat) (hr:r < g.Aa.length),g.Aa[r].left=(b (loc r):Int)
 pre:∀ N:Nat,g.vars.toNat≤N→N < all.length→∃ p,γ N=γ (par N)++p
theorem WorkI.neg {g:Ac} {n:Nat} {γ:Nat→List Int} {par loc:Nat→Nat} {v:Nat} {w:Ae} (h:WorkI g n γ par loc v w) {r:Nat} (ht:tagW w = -1 - (r:Int)):loc r=v∧∃ hr:r < g.Aa.length,w.l=Zb9 r (Ab w.right).length (Zbx g v)∧g.Aa[r].right=γ v++w.right:=by
 rcases h with ⟨r',hr',e1,e2,e3⟩|⟨N,p,_,_,e1,_,_,_,e2⟩
 ·have:=Zch e1;obtain rfl:r=r':=by omega
  exact⟨e2,hr',e1,e3⟩
 ·have:=Zgi e2 e1;omega
theorem Zv4 {g:Ac} {n:Nat} {γ:Nat→List Int} {par loc:Nat→Nat} {v v':Nat} {w w':Ae} (h:WorkI g n γ par loc v w) (h':WorkI g n γ par loc v' w') (e:tagW w=tagW w'):v=v':=by
 rcases h with ⟨r,hr,e1,e2,e3⟩|⟨N,p,_,_,e1,e2,_,_,e3⟩
 ·have:=(h'.neg (r:=r) (by rw[←e,Zch e1])).1;omega
 ·have t1:=Zgi e3 e1;rcases h' with ⟨r,hr,f1,f2,f3⟩|⟨N',p',_,_,f1,f2,_,_,f3⟩
  ·have:=Zch f1;omega
  ·have:=Zgi f3 f1;obtain rfl:N=N':=by omega
   omega
theorem Zuv {g:Ac} (hg:g.ok):FacI g (Za5 g) (fun _=>[]) id (fun r=>(rulF g r).left.toNat) id:=by
 have hlen:=Zbm g;have hleft:∀ r,(hr:r < g.Aa.length)→(rulF g r).left.toNat < g.vars.toNat∧(((rulF g r).left.toNat:Nat):Int)=g.Aa[r].left:=fun r hr=>by
  rw[ZcY hr];have:=hg.left0 _ (He hr);have:=hg.left _ (He hr);omega
 have hw:∀ v,v < g.vars.toNat→∀ w∈Zcx g v,∃ (r:Nat) (hr:r < g.Aa.length),w=⟨g.Aa[r].right,ZaJ r (Ab g.Aa[r].right).length⟩∧g.Aa[r].left=(v:Int):=fun v hv w hw=>by
  obtain⟨i,hi,rfl⟩:=List.mem_map.1 hw;obtain⟨j,hj,rfl,e1,e2⟩:=ZkA hi;exact⟨j,hj,by rw[e2],e1⟩
 have hin:∀ r,(hr:r < g.Aa.length)→⟨g.Aa[r].right,ZaJ r (Ab g.Aa[r].right).length⟩∈Zcx g (rulF g r).left.toNat:=fun r hr=>by
  have:=(hleft r hr).2;refine List.mem_map.2 ⟨(r:Int),by_mem.2 ⟨r,hr,rfl,this.symm⟩,?_⟩;have e:ZdN g (r:Int)=g.Aa[r]:=by unfold ZdN;rw[Hn,Hf,Hj hr];rfl
  rw[e]
 exact {
  work:=fun v w hwm=>by
   by_cases hv:v < g.vars.toNat
   ·rw[Zb4 hv] at hwm;obtain⟨r,hr,rfl,e⟩:=hw v hv w hwm;have h2:=(hleft r hr).2;refine .inl ⟨r,hr,?_,by dsimp only;omega,rfl⟩;rw[show Zbx g v=false from HC (by omega)];rfl
   ·rw[Zd1 hv] at hwm;cases hwm
  all_:=fun r hr=>by
   obtain⟨h1,h2⟩:=hleft r hr;refine⟨by rw[hlen];exact h1,_,by rw[Zb4 h1];exact hin r hr,?_⟩;exact Zch (b:=false) rfl
  new:=fun N h1 h2=>by rw[hlen] at h2;omega
  nodup:=fun v=>by
   by_cases hv:v < g.vars.toNat
   ·rw[Zb4 hv];unfold Zcx;rw[Ge];have hnd:(by_ g v).Pairwise fun x y=>x≠y:=by
     have:∀ (rs:List Rule) (i:Nat),(byR rs v i).Pairwise (fun x y=>x≠y)∧∀ x∈byR rs v i,(i:Int)≤x:=by
      intro rs
      induction rs with
      | nil=>intro i;rw[byR];exact⟨H7,fun x hx=>by cases hx⟩
      | cons r rs ih =>
       intro i;obtain⟨h1,h2⟩:=ih (i+1);rw[byR];split
       ·refine⟨List.pairwise_cons.2 ⟨fun x hx q=>?_,h1⟩,fun x hx=>?_⟩
        ·have:=h2 x hx;omega
        ·rcases List.mem_cons.1 hx with rfl|hx
         ·exact Ja _
         ·have:=h2 x hx;omega
       ·exact⟨h1,fun x hx=>by have:=h2 x hx;omega⟩
     exact (this _ _).1
    refine hnd.imp fun {a c} hac=>?_
    rw[Zch (r:=a) (b:=false) rfl,Zch (r:=c) (b:=false) rfl];omega
   ·rw[Zd1 hv];exact H7
  old:=fun v _=>⟨rfl,rfl⟩
  base:=fun N h1 h2=>by rw[hlen] at h2;omega
  left:=fun r hr=>((hleft r hr).2).symm
  pre:=fun N h1 h2=>by rw[hlen] at h2;omega }
theorem Zim {at_:List Int}:∀ (l:List Ae) (i:Nat),(ZaM at_ l i).Sublist l
 | [],i=>List.Sublist.refl _
 | x::r,i=>by
  rw[ZaM];split
  ·exact (Zim r (i+1)).cons_cons x
  ·exact (Zim r (i+1)).cons x
theorem Zin {at_:List Int}:∀ {l:List Ae} {i j:Nat} (hj:j < l.length),inL at_ (i+j)=true→l[j]∈ZaM at_ l i
 | x::r,i,0,_,h=>by rw[ZaM,Hb (by simpa using h)];simp
 | x::r,i,j+1,hj,h=>by
  have:=Zin (l:=r) (i:=i+1) (j:=j) (by simpa using hj) (by rw[show i+1+j=i+(j+1) by omega];exact h);rw[ZaM];split
  ·exact HK _ this
  ·exact this
theorem Zo4 {at_:List Int} {hd:Ae} {k:Nat} (hk:at_.getD 0 0=(k:Int)):∀ {l:List Ae} {i:Nat},i≤k→k < i+l.length→hd∈Za4 at_ hd l i
 | [],i,h1,h2=>by simp at h2;omega
 | x::r,i,h1,h2=>by
  rw[Za4,hk];by_cases e:i=k
  ·rw[Hb (by omega)];simp
  ·have:=Zo4 (hd:=hd) hk (l:=r) (i:=i+1) (by omega) (by simp only[Hl] at h2;omega);rw[Ha (by omega)];split
   ·exact this
   ·exact HK _ this
theorem Zl6 {at_:List Int} {hd:Ae} {k:Nat} (hk:at_.getD 0 0=(k:Int)):∀ {l:List Ae} {i j:Nat} (hj:j < l.length),inL at_ (i+j)=false→i+j≠k→l[j]∈Za4 at_ hd l i
 | x::r,i,0,_,h1,h2=>by rw[Za4,hk,Ha (by omega),Ha (by simpa using h1)];simp
 | x::r,i,j+1,hj,h1,h2=>by
  have:=Zl6 (hd:=hd) hk (l:=r) (i:=i+1) (j:=j) (by simpa using hj) (by rw[show i+1+j=i+(j+1) by omega];exact h1) (by omega);rw[Za4];split
  ·exact HK _ this
  ·split
   ·exact this
   ·exact HK _ this
theorem Zo5 {R:Ae→Ae→Prop} {at_:List Int} {hd:Ae} {k:Nat} (hk:at_.getD 0 0=(k:Int)):∀ {l:List Ae} {i:Nat},l.Pairwise R→(∀ x∈l,R hd x∧R x hd)→(Za4 at_ hd l i).Pairwise R
 | [],i,_,_=>by rw[Za4];exact H7
 | x::r,i,hp,hn=>by
  rw[List.pairwise_cons] at hp;have ih:=Zo5 hk (i:=i+1) hp.2 (fun y hy=>hn y (by simp[hy]));rw[Za4,hk];split
  ·refine List.pairwise_cons.2 ⟨fun w hw=>?_,ih⟩;rcases Zdk hk hw with ⟨_,h2⟩|⟨j,h1,rfl,h3,h4⟩
   ·omega
   ·exact (hn _ (HK _ (He h1))).1
  ·split
   ·exact ih
   ·refine List.pairwise_cons.2 ⟨fun w hw=>?_,ih⟩;rcases Zdk hk hw with ⟨rfl,_⟩|⟨j,h1,rfl,h3,h4⟩
    ·exact (hn x (by simp)).2
    ·exact hp.1 _ (He h1)
theorem ZEK {α:Type} {f:α→Int} {l:List α} (h:l.Pairwise fun x y=>f x≠f y) {i j:Nat} (hi:i < l.length) (hj:j < l.length) (e:f l[i]=f l[j]):i=j:=by
 rw[JO] at h;rcases G9 i j with q|q|q
 ·exact absurd e (h i j hi hj q)
 ·exact q
 ·exact absurd e.symm (h j i hj hi q)
theorem FacI.one {g:Ac} (hg:g.ok) {all:List (List Ae)} {v:Nat} {γ:Nat→List Int} {par loc b:Nat→Nat} (I:FacI g all γ par loc b) (h:FInv g all v) (hv:v < all.length) (hne:Zas (all.getD v []) 0≠[]) :
  ∃ γ' par' loc' b',FacI g (oneW g.vars.toNat all v (Zas (all.getD v []) 0)) γ' par' loc' b':=by
 classical
 obtain⟨k,G⟩:=h.grp hne;generalize hat:Zas (all.getD v []) 0=at_ at *;have hN:=ZgW g.vars.toNat all v at_;have hvars:=h.vars;have hf:=G.first
 generalize hn:comW (all.getD v []) at_=n at *;have hkk:=G.hk;have hhd:Zrw g.vars.toNat all.length v (all.getD v []) at_=⟨((all.getD v [])[k]'G.hk).right.take n++[(all.length:Int)],ZcX (Ab (((all.getD v [])[k]'G.hk).right.take n)).length (Zbx g v)⟩:=by
  rw[Zrw,hf,hn];rfl
 have hone:oneW g.vars.toNat all v at_=all.set v (Za4 at_ ⟨((all.getD v [])[k]'G.hk).right.take n++[(all.length:Int)],ZcX (Ab (((all.getD v [])[k]'G.hk).right.take n)).length (Zbx g v)⟩ (all.getD v []) 0) ++
   [(ZaM at_ (all.getD v []) 0).map (Zc1 n (Ab (((all.getD v [])[k]'G.hk).right.take n)).length)]:=by
  rw[oneW,hhd,hf,hn]
 have hkin:inL at_ k=true:=by rw[G.inn k G.hk];exact G.self
 have hgrp:∀ w∈ZaM at_ (all.getD v []) 0,∃ (r:Nat) (hr:r < g.Aa.length) (j:Nat) (hj:j < (all.getD v []).length),w=(all.getD v [])[j]∧inL at_ j=true∧tagW w = -1 - (r:Int)∧loc r=v∧g.Aa[r].right=γ v++w.right∧w.l=Zb9 r (Ab w.right).length (Zbx g v)∧w.right.take n=((all.getD v [])[k]'G.hk).right.take n:=fun w hw=>by
  obtain⟨j,hj,rfl,hi⟩:=ZdZ hw;rw[HE] at hi;obtain⟨⟨r0,p1,p2,p3⟩,p4⟩:=G.plain j hj hi;have ht:=Zch p2;obtain⟨q1,hr,q2,q3⟩:=(I.work v _ (He hj)).neg ht;exact⟨r0,hr,j,hj,rfl,hi,ht,q1,q3,q2,p4⟩
 generalize hP:((all.getD v [])[k]'G.hk).right.take n=P at *;generalize hL:all.getD v []=l at *;have hPsym:∀ s∈P,s < g.vars:=fun s hs=>by
  obtain⟨r,hr,j,hj,e1,e2,e3,e4,e5,e6,e7⟩:=hgrp _ (Zin (i:=0) hkk (by rw[HE];exact hkin));refine hg.hi _ (He hr) s ?_;rw[e5];exact List.mem_append_right _ (Gf (i:=n) (by rw[e7];exact hs))
 let γ':Nat→List Int:=fun u=>if u=all.length then γ v++P else γ u
 let par':Nat→Nat:=fun u=>if u=all.length then v else par u
 let b':Nat→Nat:=fun u=>if u=all.length then b v else b u
 let loc':Nat→Nat:=fun r=>if (∃ w∈ZaM at_ l 0,tagW w = -1 - (r:Int)) then all.length else loc r
 have γo:∀ u,u < all.length→γ' u=γ u:=fun u hu=>Ha (by omega)
 have γn:γ' all.length=γ v++P:=Hb rfl;have po:∀ u,u < all.length→par' u=par u:=fun u hu=>Ha (by omega)
 have pn:par' all.length=v:=Hb rfl;have bo:∀ u,u < all.length→b' u=b u:=fun u hu=>Ha (by omega)
 have bn:b' all.length=b v:=Hb rfl;have lo:∀ r:Nat,¬ (∃ w∈ZaM at_ l 0,tagW w = -1 - (r:Int))→loc' r=loc r:=fun r hr=>Ha hr
 have ln:∀ r:Nat,(∃ w∈ZaM at_ l 0,tagW w = -1 - (r:Int))→loc' r=all.length∧loc r=v:=fun r hr=>by
  refine⟨Hb hr,?_⟩;obtain⟨w,hw,e⟩:=hr;obtain⟨r1,hr1,j,hj,_,_,e3,e4,_⟩:=hgrp w hw;obtain rfl:r=r1:=by omega
  exact e4
 have hl_v:∀ w∈l,WorkI g all.length γ par loc v w:=fun w hw=>I.work v w (by rw[hL];exact hw)
 have hnd:l.Pairwise fun x y=>tagW x≠tagW y:=by have:=I.nodup v;rw[hL] at this;exact this
 have stay_:∀ (u:Nat) (w:Ae),u < all.length→WorkI g all.length γ par loc u w→(∀ r:Nat,tagW w = -1 - (r:Int)→loc' r=loc r)→WorkI g (all.length+1) γ' par' loc' u w:=fun u w hu hw hs=>by
  rcases hw with ⟨r,hr,e1,e2,e3⟩|⟨N,p,n0,n1,e1,e2,e3,e4,e5⟩
  ·exact .inl ⟨r,hr,e1,by rw[hs r (Zch e1),e2],by rw[γo u hu];exact e3⟩
  ·exact .inr ⟨N,p,n0,by omega,e1,by rw[po N n1,e2],by rw[γo N n1,γo u hu,e3],e4,e5⟩
 have tags_v:∀ (j:Nat) (hj:j < l.length),inL at_ j=false→∀ r:Nat,tagW l[j] = -1 - (r:Int)→loc' r=loc r:=fun j hj hi r ht=>lo r fun ⟨w,hw,e⟩=>by
  obtain⟨r1,hr1,j1,hj1,rfl,hi1,_⟩:=hgrp w hw;have:=ZEK hnd hj hj1 (by rw[ht,e]);subst this;rw[hi] at hi1;cases hi1
 have get_o:∀ u,u < all.length→u≠v→(oneW g.vars.toNat all v at_).getD u []=all.getD u []:=fun u h1 h2=>by rw[hone,ZeJ h1 h2]
 have get_v:(oneW g.vars.toNat all v at_).getD v []=Za4 at_ ⟨P++[(all.length:Int)],ZcX (Ab P).length (Zbx g v)⟩ l 0:=by rw[hone,Zfi hv]
 have get_n:(oneW g.vars.toNat all v at_).getD all.length []=(ZaM at_ l 0).map (Zc1 n (Ab P).length):=by rw[hone,Zhq]
 have get_x:∀ u,all.length < u→(oneW g.vars.toNat all v at_).getD u []=[]:=fun u hu=>by rw[hone,Zi9 hu]
 have hgapN:Zbx g all.length=true:=Hu hvars;have rest_is:∀ w∈ZaM at_ l 0,∃ (r:Nat) (hr:r < g.Aa.length),tagW w = -1 - (r:Int)∧tagW (Zc1 n (Ab P).length w) = -1 - (r:Int)∧(Zc1 n (Ab P).length w).l=Zb9 r (Ab (Zc1 n (Ab P).length w).right).length (Zbx g all.length)∧g.Aa[r].right=(γ v++P)++(Zc1 n (Ab P).length w).right:=fun w hw=>by
  obtain⟨r,hr,j,hj,e1,e2,e3,e4,e5,e6,e7⟩:=hgrp w hw;have hkids:=Zl5 w.right n;rw[e7] at hkids;have hl':(Zc1 n (Ab P).length w).l=Zb9 r (Ab (Zc1 n (Ab P).length w).right).length (Zbx g all.length):=by
   rw[hgapN];show ZnK (w.l.getD 0 default).n ((Ab w.right).length - (Ab P).length)=Zb9 r (Ab (w.right.drop n)).length true;rw[e6,show (Ab w.right).length - (Ab P).length=(Ab (w.right.drop n)).length by omega];rfl
  refine⟨r,hr,e3,Zch hl',hl',?_⟩;show _=(γ v++P)++w.right.drop n;rw[e5,HH,←e7,Gh]
 have hdtag:tagW ⟨P++[(all.length:Int)],ZcX (Ab P).length (Zbx g v)⟩=(all.length:Int):=Zgi rfl rfl;have tag_lt:∀ u,∀ w∈all.getD u [],tagW w < (all.length:Int):=fun u w hw=>by
  rcases I.work u w hw with ⟨r,hr,e1,_⟩|⟨N,p,_,n1,e1,_,_,_,e5⟩
  ·rw[Zch e1];omega
  ·rw[Zgi e5 e1];omega
 have keep:∀ w∈l,(∀ x∈ZaM at_ l 0,tagW x≠tagW w)→w∈Za4 at_ ⟨P++[(all.length:Int)],ZcX (Ab P).length (Zbx g v)⟩ l 0:=fun w hw hn=>by
  obtain⟨j,hj,rfl⟩:=List.mem_iff_getElem.1 hw;have hi:inL at_ j=false:=by
   cases hc:inL at_ j with
   | false=>rfl
   | true=>exact absurd rfl (hn _ (Zin (i:=0) hj (by rw[HE];exact hc)))
  refine Zl6 G.at0 hj (by rw[HE];exact hi) ?_;rintro rfl;rw[HE] at hkin;rw[hkin] at hi;cases hi
 refine⟨γ',par',loc',b',?_⟩;exact {
  work:=fun u w hw=>by
   rw[hN];rcases G9 u all.length with h1|rfl|h1
   ·by_cases huv:u=v
    ·subst huv;rw[get_v] at hw;rcases Zdk G.at0 hw with ⟨rfl,_⟩|⟨j,hj,rfl,hi,_⟩
     ·exact .inr ⟨all.length,P,hvars,by omega,rfl,pn,by rw[γn,γo u h1],hPsym,rfl⟩
     ·rw[HE] at hi;exact stay_ u _ h1 (hl_v _ (He hj)) (tags_v j hj hi)
    ·rw[get_o u h1 huv] at hw;refine stay_ u w h1 (I.work u w hw) fun r ht=>lo r fun ⟨x,hx,e⟩=>?_
     have:=(I.work u w hw).neg ht;have h2:=(ln r ⟨x,hx,e⟩).2;exact huv (by rw[←this.1,h2])
   ·rw[get_n] at hw;obtain⟨x,hx,rfl⟩:=List.mem_map.1 hw;obtain⟨r,hr,e1,e2,e3,e4⟩:=rest_is x hx;exact .inl ⟨r,hr,e3,(ln r ⟨x,hx,e1⟩).1,by rw[γn];exact e4⟩
   ·rw[get_x u h1] at hw;cases hw
  all_:=fun r hr=>by
   obtain⟨h1,w,hw,e⟩:=I.all_ r hr;by_cases hs:∃ w∈ZaM at_ l 0,tagW w = -1 - (r:Int)
   ·rw[(ln r hs).1,hN,get_n];obtain⟨x,hx,ex⟩:=hs;obtain⟨r',hr',e1,e2,_⟩:=rest_is x hx;exact⟨by omega,_,List.mem_map.2 ⟨x,hx,rfl⟩,by rw[e2,←e1,ex]⟩
   ·rw[lo r hs,hN];refine⟨by omega,w,?_,e⟩;by_cases huv:loc r=v
    ·rw[huv] at hw ⊢;rw[get_v];rw[hL] at hw;exact keep w hw fun x hx q=>hs ⟨x,hx,by rw[q,e]⟩
    ·rw[get_o _ h1 huv];exact hw
  new:=fun N n0 n1=>by
   rw[hN] at n1;by_cases hl:N=all.length
   ·subst hl;rw[pn,get_v];exact⟨hv,_,Zo4 G.at0 (Hh _) (by rw[HE];exact hkk),hdtag⟩
   ·obtain⟨h1,w,hw,e⟩:=I.new N n0 (by omega);rw[po N (by omega)];refine⟨h1,w,?_,e⟩;by_cases huv:par N=v
    ·rw[huv] at hw ⊢;rw[get_v];rw[hL] at hw;refine keep w hw fun x hx q=>?_
     obtain⟨r,hr,j,hj,_,_,e3,_⟩:=hgrp x hx;omega
    ·rw[get_o _ (by omega) huv];exact hw
  nodup:=fun u=>by
   rcases G9 u all.length with h1|rfl|h1
   ·by_cases huv:u=v
    ·subst huv;rw[get_v];refine Zo5 G.at0 hnd fun x hx=>?_
     have:=tag_lt u x (by rw[hL];exact hx);rw[hdtag];exact⟨by omega,by omega⟩
    ·rw[get_o u h1 huv];exact I.nodup u
   ·rw[get_n,Ge];refine GA (fun {x y} hx hy hne=>?_) (List.Pairwise.sublist (Zim l 0) hnd);obtain⟨r,_,e1,e2,_⟩:=rest_is x hx;obtain⟨r',_,f1,f2,_⟩:=rest_is y hy;rw[e2,f2,←e1,←f1];exact hne
   ·rw[get_x u h1];exact H7
  old:=fun u hu=>by rw[γo u (by omega),bo u (by omega)];exact I.old u hu
  base:=fun N n0 n1=>by
   rw[hN] at n1;by_cases hl:N=all.length
   ·subst hl;rw[bn,pn,bo v hv]
   ·have:=(I.new N n0 (by omega)).1;rw[bo N (by omega),po N (by omega),bo _ (by omega)];exact I.base N n0 (by omega)
  left:=fun r hr=>by
   by_cases hs:∃ w∈ZaM at_ l 0,tagW w = -1 - (r:Int)
   ·obtain⟨q1,q2⟩:=ln r hs;rw[q1,bn,←q2];exact I.left r hr
   ·rw[lo r hs,bo _ (I.all_ r hr).1];exact I.left r hr
  pre:=fun N n0 n1=>by
   rw[hN] at n1;by_cases hl:N=all.length
   ·subst hl;exact⟨P,by rw[γn,pn,γo v hv]⟩
   ·have:=(I.new N n0 (by omega)).1;rw[γo N (by omega),po N (by omega),γo _ (by omega)];exact I.pre N n0 (by omega) }
theorem ZCf {g:Ac} (hg:g.ok) {all:List (List Ae)} {v:Nat} {r:Except Nat (List (List Ae))} (hF:Fac g.vars.toNat all v r):FInv g all v→(∃ γ par loc b,FacI g all γ par loc b)→∀ z,r=.ok z→∃ γ par loc b,FacI g z γ par loc b:=by
 induction hF with
 | done h=>intro _ hI z e;cases e;exact hI
 | next h hg' hr ih=>intro hi hI z e;exact ih (hi.next hg') hI z e
 | many h hg' hm=>intro _ _ z e;cases e
 | one h hg' hm hr ih =>
  intro hi ⟨γ,par,loc,b,I⟩ z e;exact ih (hi.one hg h hg' hm).1 (I.one hg hi h hg') z e
def Zio:List (List Ae)→Nat→List (Int×Rule×List Ad)
 | [],_=>[]
 | l::r,v=>l.map (fun w=>(tagW w,(⟨(v:Int),w.right⟩:Rule),w.l))++Zio r (v+1)
theorem Zl7:∀ (z:List (List Ae)) (v:Nat),Zbh z v=(Zio z v).map (fun e=>e.2.1)∧ZaU z=(Zio z v).map (fun e=>e.2.2)
 | [],v=>⟨rfl,rfl⟩
 | l::r,v=>by
  obtain⟨h1,h2⟩:=Zl7 r (v+1);rw[Zbh,ZaU,Zio,Ho,Ho,H8,H8,h1,h2];exact⟨rfl,rfl⟩
theorem ents_mem:∀ {z:List (List Ae)} {v:Nat} {e:Int×Rule×List Ad},e∈Zio z v↔∃ u w,w∈z.getD u []∧e=(tagW w,(⟨((v+u:Nat):Int),w.right⟩:Rule),w.l)
 | [],v,e=>by simp[Zio]
 | l::r,v,e=>by
  rw[Zio,HV,ents_mem (z:=r)];constructor
  ·rintro (h|⟨u,w,h1,h2⟩)
   ·obtain⟨w,hw,rfl⟩:=List.mem_map.1 h;exact⟨0,w,by simpa using hw,rfl⟩
   ·exact⟨u+1,w,by simpa using h1,by rw[h2,show v+1+u=v+(u+1) by omega]⟩
  ·rintro⟨u,w,h1,rfl⟩;cases u with
   | zero=>exact .inl (List.mem_map.2 ⟨w,by simpa using h1,rfl⟩)
   | succ u=>exact .inr ⟨u,w,by simpa using h1,by rw[show v+1+u=v+(u+1) by omega]⟩
theorem Zl8:∀ (z:List (List Ae)) (v:Nat),(∀ u,(z.getD u []).Pairwise fun x y=>tagW x≠tagW y)→(∀ u u' w w',w∈z.getD u []→w'∈z.getD u' []→tagW w=tagW w'→u=u')→((Zio z v).map fun e=>e.1).Nodup
 | [],v,_,_=>H7
 | l::r,v,h1,h2=>by
  rw[Zio,Ho];refine List.nodup_append.2 ⟨?_,Zl8 r (v+1) (fun u=>by have:=h1 (u+1);simpa using this) (fun u u' w w' hw hw' e=>by
   have:=h2 (u+1) (u'+1) w w' (by simpa using hw) (by simpa using hw') e;omega),fun a ha c hc q=>?_⟩
  ·rw[H8];unfold List.Nodup;rw[Ge];have:=h1 0;simpa using this
  ·obtain⟨e,he,rfl⟩:=List.mem_map.1 ha;obtain⟨w,hw,rfl⟩:=List.mem_map.1 he;obtain⟨e',he',rfl⟩:=List.mem_map.1 hc;obtain⟨u,w',hw',rfl⟩:=ents_mem.1 he';have:=h2 0 (u+1) w w' (by simpa using hw) (by simpa using hw') q;omega
theorem Zra {g:Ac} (hg:g.ok) {z:List (List Ae)} {x:List Rule×List (List Ad)} (h:FInv g z z.length) (hx:finW z 0 [] []=.ok x) {γ:Nat→List Int} {par loc b:Nat→Nat} (I:FacI g z γ par loc b) :
  Facd g (outG g z x) x.2 γ par loc b ((Zio z 0).map fun e=>e.1):=by
 obtain⟨h1,h2,h3,h4⟩:=ZkC hx (by simp);rw[H3] at h1 h2;obtain⟨e1,e2⟩:=Zl7 z 0;rw[e1] at h1;rw[e2] at h2;have hvars:=h.vars;have hv0:=hg.vars1;have hH:(outG g z x).vars=(z.length:Int):=rfl;have inz:∀ u w,w∈z.getD u []→u < z.length:=fun u w hw=>HN fun hn=>by
  rw[Hf,HI (by omega)] at hw;cases hw
 exact {
  vars:=by rw[hH];omega
  len:=by
   show _=x.1.length;rw[h1,Hi,Hi]
  nodup:=Zl8 z 0 I.nodup fun u u' w w' hw hw' e=>Zv4 (I.work u w hw) (I.work u' w' hw') e
  all:=fun r hr=>by
   obtain⟨_,w,hw,e⟩:=I.all_ r hr;exact List.mem_map.2 ⟨_,ents_mem.2 ⟨loc r,w,hw,rfl⟩,e⟩
  locv:=fun r hr=>by rw[hH];have:=(I.all_ r hr).1;omega
  new:=fun N n0 n1=>by
   rw[hH] at n1;obtain⟨_,w,hw,e⟩:=I.new N (by omega) (by omega);exact List.mem_map.2 ⟨_,ents_mem.2 ⟨par N,w,hw,rfl⟩,e⟩
  up:=fun N n0 n1=>(I.new N n0 (by rw[hH] at n1;omega)).1
  ok:=fun j hj hT=>by
   have hL:j < (Zio z 0).length:=by rw[Hi] at hT;exact hT
   obtain⟨u,w,hw,ew⟩:=ents_mem.1 (He hL);rw[HE] at ew;have r1:(outG g z x).Aa[j]=⟨(u:Int),w.right⟩:=by
    have:(outG g z x).Aa=(Zio z 0).map fun e=>e.2.1:=h1
    simp only[this,Gu,ew]
   have r2:x.2.getD j []=w.l:=by
    rw[h2,Hf,Gg,Hj hL];simp only[H9,HW,ew]
   have r3:((Zio z 0).map fun e=>e.1)[j]=tagW w:=by simp only[Gu,ew]
   rw[r1,r2,r3];rcases I.work u w hw with ⟨r,hr,f1,f2,f3⟩|⟨N,p,n0,n1,f1,f2,f3,f4,f5⟩
   ·refine .inl ⟨r,hr,Zch f1,by rw[f2],by rw[f2];exact f3,by rw[f2];exact f1⟩
   ·exact .inr ⟨N,p,Zgi f5 f1,by omega,by rw[hH];omega,by rw[f2],f1,by rw[f2];exact f3,f4,by rw[f2];exact f5⟩
  old:=fun v hv=>I.old v (by omega)
  base:=fun N n0 n1=>by rw[hH] at n1;exact I.base N (by omega) (by omega)
  left:=I.left
  pre:=fun N n0 n1=>by rw[hH] at n1;exact I.pre N (by omega) (by omega) }
theorem Zo6 {g:Ac} {r:Except Nat (List (List Ae))} (hw:(Zac g).code=0→Fac g.vars.toNat (Za5 g) 0 r) (hz:(Zac g).code=0→∀ z,r=.ok z→FInv g z z.length) (h:(ZbM g r).2.code=0) (w:List Int):ZgH g (ZbM g r).1 w false:=by
 by_cases hc:(Zac g).code=0
 ·have hg:=Zbd hc;have e0:ZbM g r=ZbR g r:=by rw[ZbM,Hb hc]
  rw[e0] at h ⊢;cases r with
  | error v=>rw[ZbR] at h;cases h
  | ok z =>
   have hI:=hz hc z rfl;obtain⟨γ,par,loc,b,I⟩:=ZCf hg (hw hc) (ZkB hg) ⟨_,_,_,_,Zuv hg⟩ z rfl;cases hx:finW z 0 [] [] with
   | error v=>rw[ZbR] at h;simp only[hx] at h;cases h
   | ok x =>
    have e1:ZbR g (.ok z)=(⟨outG g z x,x.2,[]⟩,⟨0,0⟩):=(by rw[ZbR];simp only[hx];rfl);rw[e1];have R:=Zra hg hI hx I;have hs:=Zs6 hg hI hx;exact Facd.same (s:=⟨outG g z x,x.2,[]⟩) R (by rw[hs]) rfl rfl w
 ·rw[ZbM,Ha hc] at h;exact absurd h hc
end Go.Proofs.YtbpmepgnjanhnaaGreat
