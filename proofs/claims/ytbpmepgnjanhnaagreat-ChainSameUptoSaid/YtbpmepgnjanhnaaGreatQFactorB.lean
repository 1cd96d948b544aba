import Derived.Test.YtbpmepgnjanhnaaGreatQPlugA
set_option linter.unusedVariables false
set_option linter.unusedSimpArgs false
set_option linter.unusedSectionVars false
set_option maxHeartbeats 8000000
set_option maxRecDepth 100000
namespace Go.Proofs.YtbpmepgnjanhnaaGreat
open Go.RowKit
theorem ZrB {a b:List Int} {n:Nat} (h:n≤Zbp a b) (ha:n < a.length):(n < Zbp a b↔∃ hb:n < b.length,b[n]=a[n]):=by
 constructor
 ·intro h1;obtain⟨_,h2,h3⟩:=ZiF a b n h1;exact⟨h2,h3.symm⟩
 ·rintro⟨hb,he⟩;rcases Jh n (Zbp a b) with hlt|hge
  ·exact hlt
  ·exfalso;have e:Zbp a b=n:=by omega
   rcases Zkw a b with h1|h1|⟨h1,h2,h3⟩
   ·omega
   ·omega
   ·apply h3;simp only[e];exact he.symm
theorem ZuX {t:Bool} {l:List Ae} (h0:0 < l.length) (hl:l.length≤100000) (hr:∀ w∈l,w.right.length≤100000) :
  Af Tryz.prog 194 [.d (Zat t l)] [] (I (Zdp l[0].right l)) []:=by
 refine Af.intro (n:=36) Tryz.func194 (hw:=?_);simp only[Zal];refine VA ?_;have h0r:=hr _ (He h0);have hcl:=ZiG l[0].right l;refine Zak (X:=Nat) (fun n=>n≤Zdp l[0].right l) (fun n=>[(3,I n),(0,.d (Zat t l))]) (fun _=>[]) (fun n=>l[0].right.length - n) 0 (Hh _) ?_;intro n hn;refine VA ?_;refine Zak (X:=Nat) (fun j=>j≤l.length∧(0 < j→n < l[0].right.length)∧∀ i (hi:i < l.length),i < j→n < Zbp l[0].right l[i].right) (fun j=>[(10,I j),(9,I l.length),(8,.d (Zat t l)),(3,I n),(0,.d (Zat t l))]) (fun _=>[]) (fun j=>l.length - j) 0 ⟨Hh _,fun h=>by omega,fun i _ h=>by omega⟩ ?_;rintro j ⟨hj,hj0,hjn⟩;by_cases hlt:j < l.length
 ·have hrj:=hr _ (He hlt);have hnj:n≤Zbp l[0].right l[j].right:=Hq hn (Zfp (He hlt));have hnj2:=(Zpw l[0].right l[j].right).2;by_cases h1:n < Zbp l[0].right l[j].right
  ·obtain⟨g1,g2,g3⟩:=ZiF _ _ _ h1;have g3':decide (l[j].right[n]=l[0].right[n])=true:=Hu g3.symm;refine VA ?_;exact Zad (j+1) (a:=⟨by omega,fun _=>g1,fun i hi hij=>by
    by_cases e:i=j
    ·subst e;exact h1
    ·exact hjn i hi (by omega)⟩)
  ·have hc:Zdp l[0].right l=n:=by
    have:=Zfp (a:=l[0].right) (He hlt);omega
   rw[hc];by_cases h2:n < l[j].right.length
   ·have h3:n < l[0].right.length:=by
     rcases Nat.eq_zero_or_pos j with rfl|hp
     ·exact h2
     ·exact hj0 hp
    have h4:l[j].right[n]≠l[0].right[n]:=(fun he=>h1 ((ZrB hnj h3).2 ⟨h2,he⟩));have h5:(!decide (l[j].right[n]=l[0].right[n]))=true:=(by simp[h4]);refine VA ?_;exact fin
   ·refine VB ?_;exact fin
 ·have hn1:n < l[0].right.length:=hj0 (by omega);have hnext:n+1≤Zdp l[0].right l:=ZiH hn1 (fun x hx=>by
   obtain⟨i,hi,rfl⟩:=List.getElem_of_mem hx;exact hjn i hi (by omega))
  refine VA ?_;exact Zad (n+1)
theorem Zxf (t:Bool) (n:Nat) (gap:Bool):(ZcX n gap).map (ZaN t)=[.agg [iD 4,iD n,Zah t (gapL gap++ZaF n)]]:=by simp[ZcX,ZaN,Zcq]
theorem Zky (t:Bool) (G:List Ad) (k:Nat):(G++ZaF (k+1)).map (ZaN t)=(G++ZaF k).map (ZaN t)++[.agg [iD 2,iD k,.sl t 3 []]]:=by
 rw[Ho,ZgZ,Ho,HH]
theorem ZAg {n:Nat} {gap:Bool} (hn:n≤100000) :
  Af Tryz.prog 195 [I n,B gap] [] (.own 29 1) [(29,.row 102 3 ((ZcX n gap).map (ZaN false)))]:=by
 refine Af.intro (n:=30) Tryz.func195 (hw:=?_);simp only[Zal];have hh:∀ i,(ZaF i).length=i:=fun i=>by simp[ZaF]
 have hg:(gapL gap).length≤1:=by cases gap <;> simp[gapL]
 rw[Zxf];refine VA ?_;refine ZaD 5 2 900 102 3 rfl rfl rfl rfl ?_;cases gap with
 | false =>
  refine VA ?_;refine Zak (X:=Nat) (fun x=>x≤n) (fun x=>[(17,I x),(16,I n),(5,.ptr 5 0)]) (fun x=>[(5,.box 102 [.d (iD 4),.d (iD n),.own 900 (gapL false++ZaF x).length]),(900,.row 102 3 ((gapL false++ZaF x).map (ZaN false)))]) (fun x=>n - x) 0 (Hh _) ?_;intro i h1;have hhi:=hh i;have hhi':=hh (i+1);by_cases hlt:i < n
  ·have e:=Zky false (gapL false) i;have e':(gapL false++ZaF (i+1)).length=(gapL false++ZaF i).length+1:=by simp[hh];omega
   have hl:(gapL false++ZaF i).length≤n+1:=by simp[hh];omega
   refine VA ?_;exact Zad (i+1)
  ·obtain rfl:i=n:=by omega
   refine Zaz 900 rfl ?_;refine VA ?_;exact fin
 | true =>
  refine VA ?_;obtain⟨T,hT⟩:∃ T:Nat→List Ad,∀ j,T j=gapL true++ZaF j:=⟨_,fun _=>rfl⟩
  have hTl:∀ j,(T j).length=1+j:=fun j=>by rw[hT,Hk,hh];rfl
  have e0:(T 0).map (ZaN false)=[]++[.agg [iD 3,iD 0,.sl false 3 []]]:=by rw[hT];simp[gapL,ZaF,ZaN,ZeD]
  have hT0:=hTl 0;rw[←hT];refine Zak (X:=Nat) (fun x=>x≤n) (fun x=>[(17,I x),(16,I n),(5,.ptr 5 0)]) (fun x=>[(5,.box 102 [.d (iD 4),.d (iD n),.own 900 (T x).length]),(900,.row 102 3 ((T x).map (ZaN false)))]) (fun x=>n - x) 0 (Hh _) ?_
   (hh:=⟨ZcW rfl (by rw[hT0];rfl),ZcF rfl (DLes.snoc (a:=[]) e0 (.agg (.cons (.refl _) (.cons (.refl _) (.cons (.nil _ _) .nil))))),trivial⟩)
  clear e0 hT0;intro i h1;have hTi:=hTl i;have hTi':=hTl (i+1);by_cases hlt:i < n
  ·have e:(T (i+1)).map (ZaN false)=(T i).map (ZaN false)++[.agg [iD 2,iD i,.sl false 3 []]]:=by rw[hT,hT,Zky]
   refine VA ?_;exact Zad (i+1)
  ·obtain rfl:i=n:=by omega
   refine Zaz 900 rfl ?_;refine VA ?_;exact fin
theorem ZDY {gap:Bool} {m j:Nat} (h:j < (gapL gap++ZaF m).length):(j < (gapL gap).length∧(gapL gap++ZaF m)[j].op=3)∨((gapL gap).length≤j∧(gapL gap++ZaF m)[j].op=2∧(gapL gap++ZaF m)[j].n=((j - (gapL gap).length:Nat):Int)):=by
 by_cases hj:j < (gapL gap).length
 ·refine .inl ⟨hj,?_⟩;rw[Jp hj];cases gap with
  | false=>simp[gapL] at hj
  | true=>simp[gapL] at hj;subst hj;rfl
 ·refine .inr ⟨by omega,?_⟩;rw[JC (by omega)];simp[ZaF,Ad.op,Ad.n]
theorem ZAh {t:Bool} {r:Int} {m n:Nat} {gap:Bool} (hn:n≤100000) (hm:m≤100000) :
  Af Tryz.prog 196 [.d (Zah t [.mk 1 r (gapL gap++ZaF m)]),I n] [] (.own 43 1) [(43,.row 102 3 ((ZnK r (m - n)).map (ZaN false)))]:=by
 refine Af.intro (n:=44) Tryz.func196 (hw:=?_);simp only[Zal];have hh:∀ i,(ZaF i).length=i:=fun i=>by simp[ZaF]
 have hg:(gapL gap).length≤1:=by cases gap <;> simp[gapL]
 have hL:(gapL gap++ZaF m).length=(gapL gap).length+m:=by simp[hh]
 have hat:=fun j h=>ZDY (gap:=gap) (m:=m) (j:=j) h
 have hmap:(ZnK r (m - n)).map (ZaN false)=[.agg [iD 1,iD r,Zah false (.mk 3 0 []::ZaF (m - n))]]:=by simp[ZnK,ZaN,Zcq]
 rw[hmap];refine VA ?_;have hf0:[Ad.mk 1 r (gapL gap++ZaF m)][0]=Ad.mk 1 r (gapL gap++ZaF m):=rfl;rw[hf0];generalize hLL:gapL gap++ZaF m=L at *;generalize hgg:(gapL gap).length=gg at *;obtain⟨T,hT⟩:∃ T:Nat→List Ad,∀ j,T j=Ad.mk 3 0 []::ZaF ((j - gg) - n):=⟨_,fun _=>rfl⟩
 have hTl:∀ j,(T j).length=1+((j - gg) - n):=fun j=>by rw[hT,Hl,hh];omega
 have e0:(T 0).map (ZaN false)=[]++[.agg [iD 3,iD 0,.sl false 3 []]]:=by rw[hT,show 0 - gg - n=0 by omega];simp[ZaF,ZaN,ZeD]
 have e:=e0;have hT0:(T 0).length=1:=by rw[hTl];omega
 refine Zak (X:=Nat) (fun j=>j≤L.length) (fun j=>[(17,I j),(16,I L.length),(15,.d (Zah t L)),(6,.own 13 (T j).length),(5,.ptr 5 0),(1,I n)]) (fun j=>[(13,.row 102 3 ((T j).map (ZaN false))),(5,.box 102 [.d (iD 1),.d (iD r),.d (Zah t L)])]) (fun j=>L.length - j) 0 (Hh _) ?_ (hh:=⟨ZcF rfl (DLes.snoc (a:=[]) e0 (.agg (.cons (.refl _) (.cons (.refl _) (.cons (.nil _ _) .nil))))),.of rfl,trivial⟩);clear e e0 hT0;intro j hj;have hTj:=hTl j;have hTj':=hTl (j+1);by_cases hlt:j < L.length
 ·rcases hat j hlt with ⟨h1,h2⟩|⟨h1,h2,h3⟩
  ·have hTe:T (j+1)=T j:=by rw[hT,hT,show j+1 - gg - n=j - gg - n by omega]
   refine VB ?_;rw[←hTe];exact Zad (j+1)
  ·by_cases h4:(n:Int)≤L[j].n
   ·have e:(T (j+1)).map (ZaN false)=(T j).map (ZaN false)++[.agg [iD 2,iD (L[j].n - n),.sl false 3 []]]:=by
     rw[hT,hT,show j+1 - gg - n=(j - gg - n)+1 by omega,h3,Hm,ZgZ,Hm,Hv];rw[show ((j - gg:Nat):Int) - (n:Int)=((j - gg - n:Nat):Int) by omega]
    have hn0:0≤L[j].n:=(by omega);have hn1:L[j].n≤100000:=(by omega);refine VA ?_;exact Zad (j+1)
   ·have hTe:T (j+1)=T j:=(by rw[hT,hT,show j+1 - gg - n=j - gg - n by omega]);refine VA ?_;rw[←hTe];exact Zad (j+1)
 ·obtain rfl:j=L.length:=by omega
  have hTe:T L.length=Ad.mk 3 0 []::ZaF (m - n):=by rw[hT,show L.length - gg - n=m - n by omega]
  rw[←hTe];refine VA ?_;exact fin
theorem ZpA {t:Bool} {xs:List Int} {v:Int} (hl:xs.length≤100000000:=by exact Vm) :
  Af Tryz.prog 116 [.d (ints t xs),I v] [] (I (idxR (fun y=>decide (v=y)) xs 0)) []:=by
 refine Af.intro (n:=19) Tryz.func116 (hw:=?_);simp only[Zal]
 (try refine wk ?_)
 refine Zak (X:=Nat) (fun k=>k≤xs.length∧idxR (fun y=>decide (v=y)) xs 0=idxR (fun y=>decide (v=y)) (xs.drop k) k) (fun k=>[(8,I k),(7,I xs.length),(1,I v),(0,.d (ints t xs))]) (fun _=>[]) (fun k=>xs.length - k) 0 ⟨Hh _,rfl⟩ ?_;rintro k ⟨hk,hp⟩;by_cases hlt:k < xs.length
 ·have hs:=Zpd (p:=fun y=>decide (v=y)) hlt;by_cases hv:v=xs[k]
  ·rw[Hu hv,Gc] at hs;rw[hp,hs]
   (try refine wk ?_)
   exact fin
  ·rw[HC hv,cond_false] at hs
   (try refine wk ?_)
   exact Zad (k+1) (a:=⟨by omega,hp.trans hs⟩)
 ·rw[hp,ZsM hlt]
  (try refine wk ?_)
  exact fin
theorem ZdD {t:Bool} {xs:List Int} {v:Int} (hl:xs.length≤100000000:=by exact Vm) :
  Af Tryz.prog 115 [.d (ints t xs),I v] [] (B (xs.any (fun y=>decide (v=y)))) []:=by
 refine Af.intro (n:=9) Tryz.func115 (hw:=?_);simp only[Zal]
 (try refine wk ?_)
 refine Zab [] (hA:=ZpA) (hr:=?_)
 (try refine wk ?_)
 rw[←Znu (fun y=>decide (v=y)) xs 0];exact fin
abbrev Zs5 (g:Ac) (n:Nat):Ob:=.box 177 [.d (iD g.vars),.d (iD g.terms),.d (iD g.start),.d (ZaS false g.Aa),.own 1001 n]
abbrev facH (g:Ac) (all:List (List Ae)):Hp:=[(1000,Zs5 g all.length),(1001,.row 178 1 (all.map (Zat false)))]
theorem Zkz {at_:List Int}:∀ {l:List Ae} {i k:Nat} (hk:k < l.length),(∀ j,j < k→inL at_ (i+j)=false)→inL at_ (i+k)=true→∃ r,ZaM at_ l i=l[k]::r
 | x::l,i,0,_,_,h=>⟨ZaM at_ l (i+1),by rw[ZaM,Hb (by simpa using h)];rfl⟩
 | x::l,i,k+1,hk,h0,h=>by
  rw[ZaM,Ha (by have:=h0 0 (by omega);simpa using this)];obtain⟨r,hr⟩:=Zkz (l:=l) (i:=i+1) (k:=k) (by simpa using hk) (fun j hj=>by have:=h0 (j+1) (by omega);rwa [show i+1+j=i+(j+1) by omega]) (by rwa [show i+1+k=i+(k+1) by omega]);exact⟨r,by simpa using hr⟩
theorem ZuY {l:List Ae} {k:Nat} {g:Ac} {gap:Bool} {n:Nat} (G:GrpK g gap l (Zas l 0) k n) (hne:Zas l 0≠[]):∃ r,ZaM (Zas l 0) l 0=(l[k]'G.hk)::r:=by
 obtain⟨k',h1,h2,h3,h4⟩:=ZgX hne;have hkk:k=k':=by
  have:=G.at0;rw[h2] at this;simp at this;omega
 subst hkk;refine Zkz G.hk (fun j hj=>?_) (by rw[HE,G.inn k G.hk];exact G.self);rw[HE];cases hc:inL (Zas l 0) j with
 | false=>rfl
 | true =>
  exfalso;rw[inL,h2,Jm] at hc;obtain⟨y,hy,e⟩:=hc;have e:=H0 e;rcases List.mem_cons.1 hy with rfl|hy
  ·omega
  ·obtain⟨j2,d1,d2,_⟩:=ZhJ hy;omega
theorem ZpB:∀ (l:List Ae) (i:Nat),(Zas l i).length≤l.length
 | [],i=>by simp[Zas]
 | x::l,i=>by
  have h1:=ZpB l (i+1);have h2:=ZnJ x.right l (i+1);rw[Zas];split <;> simp only[Hl] <;> omega
theorem ZfY {at_:List Int}:∀ (l:List Ae) (i:Nat),(ZaM at_ l i).length≤l.length
 | [],i=>by simp[ZaM]
 | x::r,i=>by
  have ih:=ZfY (at_:=at_) r (i+1);rw[ZaM];split <;> simp only[Hl] <;> omega
theorem ZDZ {g:Ac} {all:List (List Ae)} {v:Nat} (hv:v < all.length) (h:FInv g all v) (hW:∀ l∈all,l.length≤160) (hne:Zas (all.getD v []) 0=[]) :
  Af Tryz.prog 128 [.ptr 1000 0,I v] (facH g all) (B false) (facH g all):=by
 refine Af.intro (n:=137) Tryz.func128 (hw:=?_);simp only[Zal];have hl64:=h.len;have hm:=He hv;have hgr:=ZpS (t:=false) (l:=all[v]) (by have:=hW _ hm;omega) (fun w hw=>by have:=(h.ok _ hm w hw).len;omega);have e:all.getD v []=all[v]:=by rw[Hf,Hj hv];rfl
 rw[e] at hne;rw[hne] at hgr;refine VA ?_;refine ZaW [] (hA:=hgr) (hr:=?_);refine VA ?_;exact fin
theorem ZCx {g:Ac} {all:List (List Ae)} {v:Nat} (hg:g.ok) (hv:v < all.length) (h:FInv g all v) (hW:∀ l∈all,l.length≤160) (hne:Zas (all.getD v []) 0≠[]) :
  Af Tryz.prog 128 [.ptr 1000 0,I v] (facH g all) (B true) (facH g (oneW g.vars.toNat all v (Zas (all.getD v []) 0))):=by
 refine Af.intro (n:=137) Tryz.func128 (hw:=?_);simp only[Zal];have hl64:=h.len;have hm:=He hv;have hgr:=ZpS (t:=false) (l:=all[v]) (by have:=hW _ hm;omega) (fun w hw=>by have:=(h.ok _ hm w hw).len;omega);have e:all.getD v []=all[v]:=by rw[Hf,Hj hv];rfl
 obtain⟨k,G⟩:=h.grp hne;have hone:oneW g.vars.toNat all v (Zas (all.getD v []) 0)=all.set v (Za4 (Zas (all.getD v []) 0) (Zrw g.vars.toNat all.length v (all.getD v []) (Zas (all.getD v []) 0)) (all.getD v []) 0) ++
  [(ZaM (Zas (all.getD v []) 0) (all.getD v []) 0).map (Zc1 (comW (all.getD v []) (Zas (all.getD v []) 0)) (Ab ((ZfQ (all.getD v []) (Zas (all.getD v []) 0)).take (comW (all.getD v []) (Zas (all.getD v []) 0)))).length)]:=rfl
 have hhd:Zrw g.vars.toNat all.length v (all.getD v []) (Zas (all.getD v []) 0)=⟨(ZfQ (all.getD v []) (Zas (all.getD v []) 0)).take (comW (all.getD v []) (Zas (all.getD v []) 0))++[(all.length:Int)],ZcX (Ab ((ZfQ (all.getD v []) (Zas (all.getD v []) 0)).take (comW (all.getD v []) (Zas (all.getD v []) 0)))).length (decide (g.vars.toNat≤v))⟩:=rfl;obtain⟨sr,hsk⟩:=ZuY G hne;have hlW:=hW _ hm;have hok:=h.ok _ hm;rw[hone,hhd];clear hone hhd;rw[←e] at hlW hok hgr;have hel:(all.map (Zat false))[v]? = some (Zat false (all.getD v [])):=by rw[Gg,Hj hv,e];rfl
 generalize all.getD v []=l at *;have hcs:=ZuX (t:=false) (l:=ZaM (Zas l 0) l 0) (by rw[hsk];simp) (by have:=ZfY (at_:=Zas l 0) l 0;omega) (fun w hw=>by
  obtain⟨j,h1,rfl,_⟩:=ZdZ hw;have:=(hok _ (He h1)).len;omega)
 have hgl:=ZpB l 0;generalize Zas l 0=at_ at *;have hfr:=G.first
 have hcom:Zdp ((ZaM at_ l 0)[0]'(by rw[hsk];simp)).right (ZaM at_ l 0)=comW l at_:=by
  show _=Zdp (ZfQ l at_) (ZaM at_ l 0);rw[hfr];simp only[hsk,Jv]
 rw[hcom] at hcs;generalize comW l at_=n at *;generalize ZfQ l at_=fr at *;have hkr:=(hok _ (He G.hk)).len;have hnl:=G.nl;rw[←hfr] at hkr hnl;have hat0:=G.at0;have hatl:0 < at_.length:=by
  cases at_ with
  | nil=>exact absurd rfl hne
  | cons _ _=>simp
 have hat0':at_[0]=(k:Int):=by rw[←hat0,Hf,Hj hatl];rfl
 have hkk:=G.hk;refine VA ?_;rw[←e];refine ZaW [] (hA:=hgr) (hr:=?_);refine VA ?_;refine ZbB 7 907 181 2 rfl rfl rfl ?_;refine ZbB 8 908 181 2 rfl rfl rfl ?_;refine Zak (X:=Nat) (fun i=>i≤l.length) (fun i=>[(32,I i),(31,I l.length),(30,.d (Zat false l)),(5,.d (Zat false l)),(6,.d (ints false at_)),(7,.own 907 (ZaM at_ (l.take i) 0).length),(8,.own 908 0),(0,.ptr 1000 0),(1,I v)])
  (fun i=>[(907,.row 181 2 ((ZaM at_ (l.take i) 0).map (Zbq false))),(908,.row 181 2 []),(1000,Zs5 g all.length),(1001,.row 178 1 (all.map (Zat false)))]) (fun i=>l.length - i) 0 (Hh _) ?_
 intro i hi;by_cases hlt:i < l.length
 ·have hs:=Zru (at_:=at_) hlt;have hct:=ZdD (t:=false) (xs:=at_) (v:=(i:Int)) (by omega);rw[show at_.any (fun y=>decide ((i:Int)=y))=inL at_ i from rfl] at hct;have hsl:=ZfY (at_:=at_) (l.take i) 0;simp only[Hs] at hsl;generalize ZaM at_ (l.take i) 0=S at *;generalize inL at_ i=b at *;refine VA ?_;refine ZaW [] (hA:=hct) (hr:=?_);cases b with
  | true =>
   rw[Hb rfl] at hs;have e1:S.map (Zbq false)++[D.agg [ints false l[i].right,Zah false l[i].l]]=(ZaM at_ (l.take (i+1)) 0).map (Zbq false):=by rw[hs];simp[Zbq]
   refine VA ?_;rw[e1];exact Zad (i+1)
  | false =>
   rw[Ha (by decide),Ht] at hs;refine VA ?_;rw[←hs];exact Zad (i+1)
 ·obtain rfl:i=l.length:=by omega
  rw[HO];have hSl:=ZfY (at_:=at_) l 0;have hS0:0 < (ZaM at_ l 0).length:=by rw[hsk];simp
  have hSr:((ZaM at_ l 0)[0]'hS0).right=fr:=by rw[hfr];simp only[hsk,Jv]
  have hfk:=ZpR (t:=false) (xs:=fr.take n) (by simp;omega);generalize hSS:ZaM at_ l 0=S at *;refine Zaz 907 rfl ?_;refine ZyX 7 (v:=.d (Zat false S)) (Co.froz rfl (by simp)) rfl ?_;refine VA ?_;refine ZaW [] (hA:=hcs) (hr:=?_);refine VA ?_;rw[hSr];refine ZDs TY (hr:=?_);rw[Gl,←List.map_take];refine ZaW [] (hA:=hfk) (hr:=?_);refine VA ?_;generalize hkk2:(Ab (fr.take n)).length=kk at *;obtain⟨hd,hhd⟩:∃ hd:Ae,hd=⟨fr.take n++[(all.length:Int)],ZcX kk (decide (g.vars.toNat≤v))⟩:=⟨_,rfl⟩
  rw[←hhd];have hkkl:kk≤11:=by
   rw[←hkk2];have:=Zbj (fr.take n);simp only[Hs] at this;omega
  refine Zak (X:=Nat) (fun i=>i≤l.length) (fun i=>[(56,I i),(55,I l.length),(54,.d (Zat false l)),(7,.d (Zat false S)),(6,.d (ints false at_)),(11,I n),(12,I kk),(8,.own 908 (Za4 at_ hd (l.take i) 0).length),(0,.ptr 1000 0),(1,I v)])
   (fun i=>[(908,.row 181 2 ((Za4 at_ hd (l.take i) 0).map (Zbq false))),(1000,Zs5 g all.length),(1001,.row 178 1 (all.map (Zat false)))]) (fun i=>l.length - i) 0 (Hh _) ?_
  intro i hi;by_cases hlt:i < l.length
  ·have hs:=Zrv (at_:=at_) (hd:=hd) hlt;rw[hat0] at hs;have hct:=ZdD (t:=false) (xs:=at_) (v:=(i:Int)) (by omega);rw[show at_.any (fun y=>decide ((i:Int)=y))=inL at_ i from rfl] at hct;have hsl:=ZfU (at_:=at_) (hd:=hd) (l.take i) 0;simp only[Hs] at hsl;generalize Za4 at_ hd (l.take i) 0=LS at *;by_cases hik:i=k
   ·subst hik;rw[Hb rfl] at hs;have hri:l[i].right=fr:=hfr.symm;have hik2:decide ((i:Int)=at_[0])=true:=Hu hat0'.symm;have hvv:decide (g.vars≤(v:Int))=decide (g.vars.toNat≤v):=decide_eq_decide.2 (by have:=hg.vars1;omega);have hcl:=ZcA (t:=false) (xs:=fr.take n) (by simp;omega);have htl:(fr.take n).length=n:=(by simp;omega);have hnl2:n≤l[i].right.length:=(by rw[hri];exact hnl);refine VA ?_;rw[Gl,←List.map_take];rw[hri];refine ZaW [(5,920)] (hA:=hcl) (hr:=?_);refine VA ?_;rw[hvv];have hhe:=ZAg (n:=kk) (gap:=decide (g.vars.toNat≤v)) (by omega);refine Zab [(29,921)] (hA:=hhe) (hr:=?_);refine VA ?_;have e1:LS.map (Zbq false)++[D.agg [D.sl false 1 ((fr.take n).map iD++[D.raw (.int .i64 (all.length:Int))]),Zah false (ZcX kk (decide (g.vars.toNat≤v)))]]=(Za4 at_ hd (l.take (i+1)) 0).map (Zbq false):=(by rw[hs,hhd];simp[Zbq,iD]);rw[e1];exact Zad (i+1)
   ·have hik2:decide ((i:Int)=at_[0])=false:=HC (by rw[hat0'];omega);rw[Ha (by omega)] at hs;generalize inL at_ i=b at *;refine VA ?_;refine ZaW [] (hA:=hct) (hr:=?_);cases b with
    | true =>
     rw[Hb rfl,Ht] at hs;refine VA ?_;rw[←hs];exact Zad (i+1)
    | false =>
     rw[Ha (by decide)] at hs;have e1:LS.map (Zbq false)++[D.agg [ints false l[i].right,Zah false l[i].l]]=(Za4 at_ hd (l.take (i+1)) 0).map (Zbq false):=(by rw[hs];simp[Zbq]);refine VA ?_;rw[e1];exact Zad (i+1)
  ·obtain rfl:i=l.length:=by omega
   rw[HO];have hLl:=ZfU (at_:=at_) (hd:=hd) l 0;generalize Za4 at_ hd l 0=LL at *;have hset:(all.map (Zat false)).set v (Zat false LL)=(all.set v LL).map (Zat false):=by rw[GN]
   refine Zaz 908 rfl ?_;refine ZyX 8 (v:=.d (Zat false LL)) (Co.froz rfl (by simp)) rfl ?_;refine VA ?_;have hrest:∀ x∈S,∃ (r:Nat) (m:Nat),x.l=Zb9 r m (Zbx g v)∧m=(Ab x.right).length∧n≤x.right.length∧x.right.length≤11:=fun x hx=>by
    rw[←hSS] at hx;obtain⟨j,j1,rfl,j3⟩:=ZdZ hx;rw[HE] at j3;obtain⟨⟨r,p1,p2,p3⟩,p4⟩:=G.plain j j1 j3;refine⟨r,_,p2,rfl,?_,by omega⟩;have e:=Hy List.length p4;rw[←hfr] at e;simp only[Hs] at e;omega
   refine ZbB 15 915 181 2 rfl rfl rfl ?_;refine Zak (X:=Nat) (fun i=>i≤S.length) (fun i=>[(109,I i),(108,I S.length),(107,.d (Zat false S)),(15,.own 915 ((S.take i).map (Zc1 n kk)).length),(11,I n),(12,I kk),(0,.ptr 1000 0)])
    (fun i=>[(915,.row 181 2 (((S.take i).map (Zc1 n kk)).map (Zbq false))),(1000,Zs5 g all.length),(1001,.row 178 1 ((all.map (Zat false)).set v (Zat false LL)))]) (fun i=>S.length - i) 0 (Hh _) ?_
   intro i hi;have hTl:((S.take i).map (Zc1 n kk)).length=i:=by simp;omega
   by_cases hlt:i < S.length
   ·have hsn:(S.take (i+1)).map (Zc1 n kk)=(S.take i).map (Zc1 n kk)++[Zc1 n kk S[i]]:=(by rw[HD hlt,Ho];rfl);obtain⟨r,m,q1,q2,q3,q4⟩:=hrest _ (He hlt);have hml:=Zbj S[i].right;have hcl:=ZcA (t:=false) (xs:=S[i].right.drop n) (by simp;omega);have hta:Af Tryz.prog 196 [.d (Zah false (Zb9 r m (Zbx g v))),I kk] [] (.own 43 1) [(43,.row 102 3 ((ZnK r (m - kk)).map (ZaN false)))]:=ZAh (by omega) (by omega);have hrw:Zc1 n kk S[i]=⟨S[i].right.drop n,ZnK r (m - kk)⟩:=(by rw[Zc1,q1,q2];rfl);have e1:((S.take i).map (Zc1 n kk)).map (Zbq false)++[D.agg [ints false (S[i].right.drop n),Zah false (ZnK r (m - kk))]]=((S.take (i+1)).map (Zc1 n kk)).map (Zbq false):=(by rw[hsn,hrw];simp[Zbq]);have hdl:(S[i].right.drop n).length=S[i].right.length - n:=(by simp);generalize (S.take i).map (Zc1 n kk)=RS at *;refine VA ?_;rw[H6 (by simp),←List.map_drop];refine ZaW [(5,920)] (hA:=hcl) (hr:=?_);refine VA ?_;rw[q1];refine ZaW [(43,921)] (hA:=hta) (hr:=?_);refine VA ?_;rw[e1];exact Zad (i+1)
   ·obtain rfl:i=S.length:=(by omega);rw[HO];rw[hset];have hal:(all.set v LL).length=all.length:=(by simp);have e1:(all.set v LL).map (Zat false)++[Zat false (S.map (Zc1 n kk))]=(all.set v LL++[S.map (Zc1 n kk)]).map (Zat false):=(by simp);have e2:all.length+(0+1)=(all.set v LL++[S.map (Zc1 n kk)]).length:=(by simp);generalize S.map (Zc1 n kk)=RS at *;refine VA ?_;rw[e1,Hi];exact fin
end Go.Proofs.YtbpmepgnjanhnaaGreat
