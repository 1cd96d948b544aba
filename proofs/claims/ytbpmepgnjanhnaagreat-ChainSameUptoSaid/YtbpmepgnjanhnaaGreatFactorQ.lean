import Derived.Test.YtbpmepgnjanhnaaGreatQChnP
set_option linter.unusedVariables false
set_option linter.unusedSimpArgs false
set_option linter.unusedSectionVars false
namespace Go.Proofs.YtbpmepgnjanhnaaGreat
open Go.RowKit
theorem Zik (m:Int):∀ (a b:List Ad) (u:List Int),usL m (a++b) u=bif (usL m a u).1 then usL m b (usL m a u).2 else (false,(usL m a u).2)
 | [],b,u=>by simp[usL]
 | x::a,b,u=>by
  simp only[Hv,usL,Zik m a b];cases (usF m x u).1 with
  | true=>simp
  | false=>simp
theorem Zl3 (m:Int) (t:List Int):∀ (n i:Nat),usL m ((List.range' i n).map fun (j:Nat)=>Ad.mk 2 (j:Int) []) (List.replicate i 1++(List.replicate n 0++t))=(true,List.replicate (i+n) 1++t)
 | 0,i=>by simp[usL]
 | n+1,i=>by
  rw[JE,Hm,usL];have e:usF m (.mk 2 (i:Int) []) (List.replicate i 1++(List.replicate (n+1) 0++t))=(true,List.replicate (i+1) 1++(List.replicate n 0++t)):=by
   rw[usF,Ha (by decide),Hb rfl,Ha (by simp;omega)];congr 1;rw[bump];simp only[Hn];rw[G7,Hf,Gp (by simp),Jg _ _ (by simp)];simp[Jr]
  rw[e];simp only[Gc];rw[Zl3 m t n (i+1)];congr 2;congr 1;omega
theorem ZvZ (m:Int) (k:Nat) (t:List Int):usL m (ZaF k) (List.replicate k 0++t)=(true,List.replicate k 1++t):=by
 have:=Zl3 m t k 0;rw[ZaF,List.range_eq_range'];simpa using this
theorem Zv0 (m:Int) (b:Bool) (u:List Int):usL m (gapL b) u=(true,u):=by
 cases b <;> simp[gapL,usL,usF]
theorem Zv1 (b:Bool):cpL (gapL b)≤1:=by cases b <;> simp[gapL,cpL,cpF]
theorem ZsG (b:Bool):Aj (gapL b)≤1:=by cases b <;> simp[gapL,Aj,fsz]
theorem Zfh:∀ (k:Nat),Aj (ZaF k)=k
 | 0=>rfl
 | k+1=>by rw[show ZaF (k+1)=ZaF k++[.mk 2 k []] by simp[ZaF,Gn],Zbw,Zfh k];simp[Aj,fsz]
theorem Zka (a b:List Int):Ab (a++b)=Ab a++Ab b:=by simp[Ab]
theorem ZsH {old:Ac} {l:List Ad} {right:List Int} (h:usL old.Aa.length l (List.replicate (Ab right).length 0)=(true,List.replicate (Ab right).length 1)) (hc:cpL l≤60):Zay old l right=0:=by
 rw[Zay,Ha (by omega),Hb];rw[Zhy,h];simp
theorem Zut {old:Ac} {r:Nat} {right:List Int} {gap:Bool} (hr:r < old.Aa.length) (hk:right.length≤11):Zay old (Zb9 r (Ab right).length gap) right=0:=by
 have hkl:=Zbj right;have hg:=Zv1 gap;refine ZsH ?_ ?_
 ·rw[Zb9,usL,usF,Hb rfl,Ha (by omega),Zik,Zv0];simp only[Gc];rw[Zjz];simp[usL]
 ·simp only[Zb9,cpL,cpF,Hb (Or.inl rfl),Zdl,ZhA,true_or,if_true];omega
theorem Zuu {r:Nat} {right:List Int} {gap:Bool} (hk:right.length≤11):Aj (Zb9 r (Ab right).length gap)≤100:=by
 have hkl:=Zbj right;have hg:=ZsG gap;simp only[Zb9,Aj,fsz,Zbw,Zfh];omega
theorem Zv2 {old:Ac} {p:List Int} {N:Nat} {gap:Bool} (hk:p.length≤11):Zay old (ZcX (Ab p).length gap) (p++[(N:Int)])=0:=by
 have hkl:=Zbj p;have hg:=Zv1 gap;have hkk:(Ab (p++[(N:Int)])).length=(Ab p).length+1:=by
  rw[Zka,Znr (Int.natCast_nonneg N)];simp
 refine ZsH ?_ ?_
 ·rw[hkk,ZcX,usL,usF,Ha (by decide),Ha (by decide),Hb rfl,Ha (by simp;omega)];have e:bump (List.replicate ((Ab p).length+1) 0) (Ab p).length=List.replicate (Ab p).length 0++[1]:=by
   rw[bump,Jr,Hf];simp
  rw[e,Zik,Zv0];simp only[Gc];rw[ZvZ,Jr];simp[usL]
 ·simp only[ZcX,cpL,cpF,Zdl,ZhA,or_true,if_true];omega
theorem Zv3 {p:List Int} {gap:Bool} (hk:p.length≤11):Aj (ZcX (Ab p).length gap)≤100:=by
 have hkl:=Zbj p;have hg:=ZsG gap;simp only[ZcX,Aj,fsz,Zbw,Zfh];omega
structure WOk (g:Ac) (N:Nat) (w:Ae):Prop where
 sym:∀ s∈w.right, -g.terms≤s∧s < (N:Int)
 len:w.right.length≤11
 part:Zay g w.l w.right=0
 slim:Aj w.l≤100
def Zq8 (g:Ac) (gap:Bool) (w:Ae):Prop:=∃ r:Nat,r < g.Aa.length∧w.l=Zb9 r (Ab w.right).length gap∧w.right.length≤10
def PairQ (g:Ac) (gap:Bool) (a b:Ae):Prop:=(Zq8 g gap a∧Zq8 g gap b)∨Zbb a.right b.right=false
theorem PairQ.symm {g:Ac} {gap:Bool} {a b:Ae} (h:PairQ g gap a b):PairQ g gap b a:=by
 rcases h with ⟨h1,h2⟩|h
 ·exact .inl ⟨h2,h1⟩
 ·exact .inr (by rw[Zfq];exact h)
def Zbx (g:Ac) (u:Nat):Bool:=decide (g.vars.toNat≤u)
structure FInv (g:Ac) (all:List (List Ae)) (v:Nat):Prop where
 len:all.length≤64
 vars:g.vars.toNat≤all.length
 ok:∀ l∈all,∀ w∈l,WOk g all.length w
 form:∀ u,v≤u→(all.getD u []).Pairwise (PairQ g (Zbx g u))
 none:∀ u,u < v→Zas (all.getD u []) 0=[]
theorem Zo2 {all:List (List Ae)} {v:Nat} {w:Ae} (h:w∈all.getD v []):all.getD v []∈all:=by
 rw[Hf] at h ⊢;by_cases hv:v < all.length
 ·rw[Hj hv];exact He hv
 ·rw[HI (by omega)] at h;simp at h
theorem ZdZ {at_:List Int}:∀ {l:List Ae} {i:Nat} {w:Ae},w∈ZaM at_ l i→∃ j,∃ h:j < l.length,w=l[j]∧inL at_ (i+j)=true
 | [],i,w,h=>by simp[ZaM] at h
 | x::r,i,w,h=>by
  rw[ZaM] at h;have next:w∈ZaM at_ r (i+1)→∃ j,∃ h:j < (x::r).length,w=(x::r)[j]∧inL at_ (i+j)=true:=fun h=>by
   obtain⟨j,h1,h2,h3⟩:=ZdZ h;exact⟨j+1,by simp;omega,by simpa using h2,by rw[show i+(j+1)=i+1+j by omega];exact h3⟩
  split at h
  ·rename_i hi;rcases List.mem_cons.1 h with rfl|h
   ·exact⟨0,by simp,rfl,hi⟩
   ·exact next h
  ·exact next h
theorem Zdk {at_:List Int} {hd:Ae} {k:Nat} (hk:at_.getD 0 0=(k:Int)):∀ {l:List Ae} {i:Nat} {w:Ae},w∈Za4 at_ hd l i→(w=hd∧i≤k)∨∃ j,∃ h:j < l.length,w=l[j]∧inL at_ (i+j)=false∧i+j≠k
 | [],i,w,h=>by simp[Za4] at h
 | x::r,i,w,h=>by
  rw[Za4,hk] at h;have next:w∈Za4 at_ hd r (i+1)→(w=hd∧i≤k)∨∃ j,∃ h:j < (x::r).length,w=(x::r)[j]∧inL at_ (i+j)=false∧i+j≠k:=fun h=>by
   rcases Zdk hk h with ⟨h1,h2⟩|⟨j,h1,h2,h3,h4⟩
   ·exact .inl ⟨h1,by omega⟩
   ·exact .inr ⟨j+1,by simp;omega,by simpa using h2,by rw[show i+(j+1)=i+1+j by omega];exact h3,by omega⟩
  split at h
  ·rename_i e;rcases List.mem_cons.1 h with rfl|h
   ·exact .inl ⟨rfl,by omega⟩
   ·exact next h
  ·rename_i e;split at h
   ·exact next h
   ·rename_i hi;rcases List.mem_cons.1 h with rfl|h
    ·exact .inr ⟨0,by simp,rfl,by simpa using hi,fun hh=>e (by rw[←hh];rfl)⟩
    ·exact next h
theorem Zkb {at_:List Int} {hd:Ae} {k:Nat} {g:Ac} {gap:Bool} (hk:at_.getD 0 0=(k:Int)):∀ {l:List Ae} {i:Nat},l.Pairwise (PairQ g gap)→(∀ j (h:j < l.length),inL at_ (i+j)=false→i+j≠k→Zbb hd.right l[j].right=false)→(Za4 at_ hd l i).Pairwise (PairQ g gap)
 | [],i,_,_=>by simp[Za4]
 | x::r,i,hp,hn=>by
  rw[List.pairwise_cons] at hp;have hn':∀ j (h:j < r.length),inL at_ (i+1+j)=false→i+1+j≠k→Zbb hd.right r[j].right=false:=fun j h h1 h2=>by
   have:=hn (j+1) (by simp;omega) (by rw[show i+(j+1)=i+1+j by omega];exact h1) (by omega);simpa using this
  have ih:=Zkb hk (i:=i+1) hp.2 hn';rw[Za4,hk];split
  ·rename_i e;refine List.pairwise_cons.2 ⟨fun w hw=>?_,ih⟩;rcases Zdk hk hw with ⟨_,h2⟩|⟨j,h1,rfl,h3,h4⟩
   ·omega
   ·exact .inr (hn' j h1 h3 h4)
  ·rename_i e;split
   ·exact ih
   ·rename_i hi;refine List.pairwise_cons.2 ⟨fun w hw=>?_,ih⟩;rcases Zdk hk hw with ⟨rfl,_⟩|⟨j,h1,rfl,h3,h4⟩
    ·have:=hn 0 (by simp) (by simpa using hi) (fun hh=>e (by rw[←hh];rfl));exact (PairQ.symm (.inr this))
    ·exact hp.1 _ (He h1)
theorem ZfU {at_:List Int} {hd:Ae}:∀ (l:List Ae) (i:Nat),(Za4 at_ hd l i).length≤l.length
 | [],i=>by simp[Za4]
 | x::r,i=>by
  have ih:=ZfU (at_:=at_) (hd:=hd) r (i+1);rw[Za4];split
  ·simp only[Hl];omega
  ·split <;> simp only[Hl] <;> omega
theorem Zo3 {at_:List Int} {hd:Ae} {k:Nat} (hk:at_.getD 0 0=(k:Int)):∀ {l:List Ae} {i:Nat} (j:Nat),j < l.length→i+j≠k→inL at_ (i+j)=true→(Za4 at_ hd l i).length < l.length
 | x::r,i,0,_,h1,h2=>by
  have ih:=ZfU (at_:=at_) (hd:=hd) r (i+1);rw[Za4,hk,Ha (by omega),Hb (by simpa using h2)];simp only[Hl];omega
 | x::r,i,j+1,h,h1,h2=>by
  have ih:=Zo3 (hd:=hd) hk (l:=r) (i:=i+1) j (by simpa using h) (by omega) (by rw[show i+1+j=i+(j+1) by omega];exact h2);rw[Za4];split
  ·simp only[Hl];omega
  ·split <;> simp only[Hl] <;> omega
theorem Zq9 {a b:List Int} {n:Nat} (hn:1≤n) (c:List Int) (ha:Zbb a a=true):Zbb (a.take n++c) b=Zbb a b:=by
 cases a with
 | nil=>simp[Zbb] at ha
 | cons x a =>
  obtain⟨m,rfl⟩:∃ m,n=m+1:=⟨n - 1,by omega⟩
  cases b <;> simp[Zbb]
theorem Zl4:∀ (a b:List Int) (n:Nat),n≤Zbp a b→b.take n=a.take n
 | _,_,0,_=>by simp
 | x::a,y::b,n+1,h=>by
  rw[Zbp] at h;split at h
  ·rename_i e;subst e;simp only[GT];rw[Zl4 a b n (by omega)]
  ·omega
 | [],b,n+1,h=>by simp[Zbp] at h
 | x::a,[],n+1,h=>by simp[Zbp] at h
structure GrpK (g:Ac) (gap:Bool) (l:List Ae) (at_:List Int) (k n:Nat):Prop where
 hk:k < l.length
 at0:at_.getD 0 0=(k:Int)
 inn:∀ j (hj:j < l.length),inL at_ j=Zbb l[k].right l[j].right
 self:Zbb l[k].right l[k].right=true
 first:ZfQ l at_=l[k].right
 n1:1≤n
 nl:n≤l[k].right.length
 plain:∀ j (hj:j < l.length),inL at_ j=true→Zq8 g gap l[j]∧l[j].right.take n=l[k].right.take n
 other:∃ j,∃ _:j < l.length,j≠k∧inL at_ j=true
theorem ZDG {g:Ac} {gap:Bool} {l:List Ae} (hp:l.Pairwise (PairQ g gap)) (h:Zas l 0≠[]):∃ k,GrpK g gap l (Zas l 0) k (comW l (Zas l 0)):=by
 have G:=Zw7 h;obtain⟨k,h1,h2,h3,h4⟩:=G.first
 have hf:ZfQ l (Zas l 0)=l[k].right:=by
  rw[ZfQ,h2];simp only[Hn];rw[Hf,Hj h1];rfl
 have hne:1≤l[k].right.length:=by
  cases hc:l[k].right with
  | nil=>rw[hc] at h4;simp[Zbb] at h4
  | cons x r=>simp
 have hplain:∀ j (hj:j < l.length),inL (Zas l 0) j=true→Zq8 g gap l[j]:=fun j hj hi=>by
  obtain⟨j',e1,e2,e3,e4⟩:=G.pair j hj hi;have hQ:PairQ g gap l[j] l[j']:=by
   rw[JO] at hp;rcases Jh j j' with hlt|hge
   ·exact hp j j' hj e1 hlt
   ·exact (hp j' j e1 hj (by omega)).symm
  rcases hQ with ⟨q,_⟩|q
  ·exact q
  ·rw[e4] at q;cases q
 have hkin:inL (Zas l 0) k=true:=by rw[h3 k h1];exact h4
 obtain⟨j',e1,e2,e3,e4⟩:=G.pair k h1 hkin;refine⟨k,h1,h2,h3,h4,hf,?_,?_,fun j hj hi=>⟨hplain j hj hi,?_⟩,⟨j',e1,e3,by rw[h3 j' e1];exact e4⟩⟩
 ·rw[comW,hf];refine ZiH hne fun x hx=>?_
  obtain⟨j,d1,rfl,d3⟩:=ZdZ hx;rw[HE,h3 j d1,←ZuR] at d3;have:=H0 d3;omega
 ·rw[comW,hf];exact ZiG _ _
 ·refine Zl4 _ _ _ ?_;rw[comW,hf];refine Zfp ?_;have:∀ (l:List Ae) (i:Nat) (hj:j < l.length),inL (Zas l 0) j=true→True:=fun _ _ _ _=>trivial
  clear this;have hm:∀ (at_:List Int) (l:List Ae) (i j:Nat) (hj:j < l.length),inL at_ (i+j)=true→l[j]∈ZaM at_ l i:=by
   intro at_ l
   induction l with
   | nil=>intro i j hj;simp at hj
   | cons x r ih =>
    intro i j hj hi;rw[ZaM];cases j with
    | zero=>rw[Hb (by simpa using hi)];simp
    | succ j =>
     have:=ih (i+1) j (by simpa using hj) (by rw[show i+1+j=i+(j+1) by omega];exact hi);split
     ·exact HK _ this
     ·exact this
  exact hm _ _ 0 j hj (by rwa [HE])
theorem Zl5 (a:List Int) (n:Nat):(Ab a).length=(Ab (a.take n)).length+(Ab (a.drop n)).length:=by
 rw[←Hk,←Zka,Gh]
theorem Zfi {all:List (List Ae)} {v:Nat} (h:v < all.length) (x:List Ae) (r:List (List Ae)):(all.set v x++r).getD v []=x:=by
 rw[Hf,GH (by simpa using h),G8 h];rfl
theorem ZeJ {all:List (List Ae)} {v u:Nat} (h:u < all.length) (hne:u≠v) (x:List Ae) (r:List (List Ae)):(all.set v x++r).getD u []=all.getD u []:=by
 rw[Hf,GH (by simpa using h),GO (fun e=>hne e.symm),←Hf]
theorem Zhq {all:List (List Ae)} {v:Nat} (x y:List Ae):(all.set v x++[y]).getD all.length []=y:=by
 rw[Hf,Gp (by simp)];simp
theorem Zi9 {all:List (List Ae)} {v u:Nat} (h:all.length < u) (x y:List Ae):(all.set v x++[y]).getD u []=[]:=by
 rw[Hf,HI (by simp;omega)];rfl
theorem WOk.mono {g:Ac} {N M:Nat} {w:Ae} (h:WOk g N w) (hN:N≤M):WOk g M w:=⟨fun s hs=>by have:=h.sym s hs;omega,h.len,h.part,h.slim⟩
theorem WOk.plain {g:Ac} {N:Nat} {w:Ae} {gap:Bool} (hs:∀ s∈w.right, -g.terms≤s∧s < (N:Int)) (hp:Zq8 g gap w):WOk g N w:=by
 obtain⟨r,h1,h2,h3⟩:=hp;refine⟨hs,by omega,?_,?_⟩
 ·rw[h2];exact Zut h1 (by omega)
 ·rw[h2];exact Zuu (by omega)
section
variable {g:Ac} {all:List (List Ae)} {v:Nat}
theorem FInv.grp (h:FInv g all v) (hne:Zas (all.getD v []) 0≠[]):∃ k,GrpK g (Zbx g v) (all.getD v []) (Zas (all.getD v []) 0) k (comW (all.getD v []) (Zas (all.getD v []) 0)):=ZDG (h.form v (Hg _)) hne
theorem FInv.mem (h:FInv g all v) {w:Ae} (hw:w∈all.getD v []):WOk g all.length w:=h.ok _ (Zo2 hw) w hw
theorem Zil (hg:g.ok) (h:FInv g all v) {k n:Nat} {at_:List Int} (G:GrpK g (Zbx g v) (all.getD v []) at_ k n) {x:Ae} (hx:x∈ZaM at_ (all.getD v []) 0) :
  Zq8 g true (Zc1 n (Ab (((all.getD v [])[k]'G.hk).right.take n)).length x)∧∀ s∈x.right.drop n, -g.terms≤s∧s < (all.length:Int):=by
 obtain⟨j,h1,rfl,h3⟩:=ZdZ hx;rw[HE] at h3;obtain⟨⟨r,p1,p2,p3⟩,p4⟩:=G.plain j h1 h3;refine⟨⟨r,p1,?_,?_⟩,fun s hs=>(h.mem (He h1)).sym s (G5 hs)⟩
 ·have e:=Zl5 ((all.getD v [])[j]).right n;rw[p4] at e;simp only[Zc1];rw[p2];simp only[Zb9,ZnK,gapL,Gc,GI,Ad.n,Js];rw[show (Ab ((all.getD v [])[j]).right).length - (Ab (((all.getD v [])[k]'G.hk).right.take n)).length=(Ab (((all.getD v [])[j]).right.drop n)).length by omega]
 ·simp only[Zc1,HG];omega
theorem FInv.one (hg:g.ok) (h:FInv g all v) (hv:v < all.length) (hne:Zas (all.getD v []) 0≠[]) (hm:¬ 64 < (oneW g.vars.toNat all v (Zas (all.getD v []) 0)).length) :
  FInv g (oneW g.vars.toNat all v (Zas (all.getD v []) 0)) v∧((oneW g.vars.toNat all v (Zas (all.getD v []) 0)).getD v []).length < (all.getD v []).length:=by
 obtain⟨k,G⟩:=h.grp hne;generalize hat:Zas (all.getD v []) 0=at_ at *;have hN:=ZgW g.vars.toNat all v at_;have hvars:=h.vars;have hf:=G.first
 generalize hn:comW (all.getD v []) at_=n at *;have hhd:Zrw g.vars.toNat all.length v (all.getD v []) at_=⟨((all.getD v [])[k]'G.hk).right.take n++[(all.length:Int)],ZcX (Ab (((all.getD v [])[k]'G.hk).right.take n)).length (Zbx g v)⟩:=by
  rw[Zrw,hf,hn];rfl
 have hone:oneW g.vars.toNat all v at_=all.set v (Za4 at_ ⟨((all.getD v [])[k]'G.hk).right.take n++[(all.length:Int)],ZcX (Ab (((all.getD v [])[k]'G.hk).right.take n)).length (Zbx g v)⟩ (all.getD v []) 0) ++
   [(ZaM at_ (all.getD v []) 0).map (Zc1 n (Ab (((all.getD v [])[k]'G.hk).right.take n)).length)]:=by
  rw[oneW,hhd,hf,hn]
 have hkp:=G.plain k G.hk (by rw[G.inn k G.hk];exact G.self);obtain⟨⟨rk',pk1,pk2,pk3⟩,_⟩:=hkp;have hkok:=h.mem (He G.hk);have hnl:=G.nl;have htl:(((all.getD v [])[k]'G.hk).right.take n).length≤10:=by simp;omega
 have hdok:WOk g (all.length+1) ⟨((all.getD v [])[k]'G.hk).right.take n++[(all.length:Int)],ZcX (Ab (((all.getD v [])[k]'G.hk).right.take n)).length (Zbx g v)⟩:=by
  have hterms:=hg.terms0;refine⟨fun s hs=>?_,by simp;omega,Zv2 (by omega),Zv3 (by omega)⟩;rcases List.mem_append.1 hs with hs|hs
  ·have:=hkok.sym s (Gf hs);omega
  ·rw[List.mem_singleton.1 hs];omega
 have hself:=G.self;have hnew:∀ j (hj:j < (all.getD v []).length),inL at_ (0+j)=false→0+j≠k→Zbb (((all.getD v [])[k]'G.hk).right.take n++[(all.length:Int)]) ((all.getD v [])[j]).right=false:=fun j hj hi _=>by
  rw[Zq9 G.n1 _ hself,←G.inn j hj]
  rwa [HE] at hi
 have hlen:(oneW g.vars.toNat all v at_).length≤64:=by omega
 constructor
 ·refine⟨hlen,by omega,?_,?_,?_⟩
  ·rw[hN];intro l hl w hw;rw[hone] at hl;rcases List.mem_append.1 hl with hl|hl
   ·rcases GU hl with hl|rfl
    ·exact (h.ok l hl w hw).mono (by omega)
    ·rcases Zdk G.at0 hw with ⟨rfl,_⟩|⟨j,j1,rfl,_,_⟩
     ·exact hdok
     ·exact (h.mem (He j1)).mono (by omega)
   ·rw[List.mem_singleton.1 hl] at hw;obtain⟨x,hx,rfl⟩:=List.mem_map.1 hw;obtain⟨q1,q2⟩:=Zil hg h G hx;exact (WOk.plain (N:=all.length) (fun s hs=>q2 s hs) q1).mono (by omega)
  ·intro u hu;rw[hone];rcases G9 u all.length with h1|rfl|h1
   ·by_cases huv:u=v
    ·subst huv;rw[Zfi h1];exact Zkb G.at0 (h.form u hu) hnew
    ·rw[ZeJ h1 huv];exact h.form u hu
   ·rw[Zhq];have hgt:Zbx g all.length=true:=Hu hvars;rw[hgt,Ge];refine GA (R:=fun _ _=>True) (fun ha hb _=>.inl ⟨(Zil hg h G ha).1,(Zil hg h G hb).1⟩) ?_;exact List.pairwise_of_forall (fun _ _=>trivial)
   ·rw[Zi9 h1];exact H7
  ·intro u hu;rw[hone,ZeJ (by omega) (by omega)];exact h.none u hu
 ·rw[hone,Zfi hv];obtain⟨j,j1,j2,j3⟩:=G.other;exact Zo3 G.at0 j j1 (by omega) (by rwa [HE])
theorem FInv.next (h:FInv g all v) (hne:Zas (all.getD v []) 0=[]):FInv g all (v+1) :=
 ⟨h.len,h.vars,h.ok,fun u hu=>h.form u (by omega),fun u hu=>by
  by_cases e:u=v
  ·subst e;exact hne
  ·exact h.none u (by omega)⟩
theorem Znm (hg:g.ok):∀ (a b:Nat) {all:List (List Ae)} {v:Nat},65 - v≤a→(all.getD v []).length≤b→FInv g all v→∃ r,Fac g.vars.toNat all v r∧∀ z,r=.ok z→FInv g z z.length
 | 0,_,all,v,ha,_,h=>by
  have:=h.len;refine⟨.ok all,.done (by omega),fun z e=>?_⟩;cases e;exact⟨h.len,h.vars,h.ok,fun u hu=>by
   rw[Hf,HI (by omega)];exact H7,fun u hu=>h.none u (by omega)⟩
 | a+1,b,all,v,ha,hb,h=>by
  by_cases hv:v < all.length
  ·by_cases hne:Zas (all.getD v []) 0=[]
   ·obtain⟨r,h1,h2⟩:=Znm hg a ((all.getD (v+1) []).length) (by omega) (Hg _) (h.next hne);exact⟨r,.next hv hne h1,h2⟩
   ·by_cases hm:64 < (oneW g.vars.toNat all v (Zas (all.getD v []) 0)).length
    ·exact⟨.error v,.many hv hne hm,fun z e=>by cases e⟩
    ·obtain⟨h1,h2⟩:=h.one hg hv hne hm
     match b with
     | 0=>omega
     | b+1 =>
      obtain⟨r,h3,h4⟩:=Znm hg (a+1) b (by omega) (by omega) h1;exact⟨r,.one hv hne hm h3,h4⟩
  ·refine⟨.ok all,.done hv,fun z e=>?_⟩;cases e;exact⟨h.len,h.vars,h.ok,fun u hu=>by
    rw[Hf,HI (by omega)];exact H7,fun u hu=>h.none u (by omega)⟩
termination_by a b=>(a,b)
end
end Go.Proofs.YtbpmepgnjanhnaaGreat
