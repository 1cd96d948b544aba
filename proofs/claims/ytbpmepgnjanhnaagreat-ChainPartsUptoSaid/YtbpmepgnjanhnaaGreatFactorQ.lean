import Derived.Test.YtbpmepgnjanhnaaGreatQSaP
set_option linter.unusedVariables false
set_option linter.unusedSimpArgs false
set_option linter.unusedSectionVars false
namespace Go.Proofs.YtbpmepgnjanhnaaGreat
open Go.RowKit
theorem Zgk (m:Int):∀ (a b:List Frag) (u:List Int),usL m (a++b) u=bif (usL m a u).1 then usL m b (usL m a u).2 else (false,(usL m a u).2)
 | [],b,u=>by simp[usL]
 | x::a,b,u=>by
  simp only[List.cons_append,usL,Zgk m a b]
  cases (usF m x u).1 with
  | true=>simp
  | false=>simp
theorem Zjj (m:Int) (t:List Int):∀ (n i:Nat),usL m ((List.range' i n).map fun (j:Nat)=>Frag.mk 2 (j:Int) []) (List.replicate i 1++(List.replicate n 0++t))=(true,List.replicate (i+n) 1++t)
 | 0,i=>by simp[usL]
 | n+1,i=>by
  rw[List.range'_succ,List.map_cons,usL]
  have e:usF m (.mk 2 (i:Int) []) (List.replicate i 1++(List.replicate (n+1) 0++t))=(true,List.replicate (i+1) 1++(List.replicate n 0++t)):=by
   rw[usF,if_neg (by decide),if_pos rfl,if_neg (by simp;omega)]
   congr 1
   rw[bump]
   simp only[Int.toNat_natCast]
   rw[List.replicate_succ,List.getD_eq_getElem?_getD,List.getElem?_append_right (by simp),List.set_append_right _ _ (by simp)]
   simp[List.replicate_succ']
  rw[e]
  simp only[cond_true]
  rw[Zjj m t n (i+1)]
  congr 2
  congr 1
  omega
theorem Zrv (m:Int) (k:Nat) (t:List Int):usL m (ZaH k) (List.replicate k 0++t)=(true,List.replicate k 1++t):=by
 have:=Zjj m t k 0
 rw[ZaH,List.range_eq_range']
 simpa using this
theorem Zrw (m:Int) (b:Bool) (u:List Int):usL m (gapL b) u=(true,u):=by
 cases b <;> simp[gapL,usL,usF]
theorem Zrx (b:Bool):cpL (gapL b)≤1:=by cases b <;> simp[gapL,cpL,cpF]
theorem ZoT (b:Bool):fszs (gapL b)≤1:=by cases b <;> simp[gapL,fszs,fsz]
theorem ZdX:∀ (k:Nat),fszs (ZaH k)=k
 | 0=>rfl
 | k+1=>by rw[show ZaH (k+1)=ZaH k++[.mk 2 k []] by simp[ZaH,List.range_succ],Zbc,ZdX k];simp[fszs,fsz]
theorem ZhG (a b:List Int):kids (a++b)=kids a++kids b:=by simp[kids]
theorem ZoU {old:Gram} {l:List Frag} {right:List Int} (h:usL old.rules.length l (List.replicate (kids right).length 0)=(true,List.replicate (kids right).length 1)) (hc:cpL l≤60):Zax old l right=0:=by
 rw[Zax,if_neg (by omega),if_pos]
 rw[Zia,h];simp
theorem Zqe {old:Gram} {r:Nat} {right:List Int} {gap:Bool} (hr:r < old.rules.length) (hk:right.length≤11):Zax old (ZfY r (kids right).length gap) right=0:=by
 have hkl:=Za3 right
 have hg:=Zrx gap
 refine ZoU ?_ ?_
 ·rw[ZfY,usL,usF,if_pos rfl,if_neg (by omega),Zgk,Zrw]
  simp only[cond_true]
  rw[Zhy];simp[usL]
 ·simp only[ZfY,cpL,cpF,if_pos (Or.inl rfl),ZcG,ZfP,true_or,if_true];omega
theorem Zqf {r:Nat} {right:List Int} {gap:Bool} (hk:right.length≤11):fszs (ZfY r (kids right).length gap)≤100:=by
 have hkl:=Za3 right
 have hg:=ZoT gap
 simp only[ZfY,fszs,fsz,Zbc,ZdX];omega
theorem Zry {old:Gram} {p:List Int} {N:Nat} {gap:Bool} (hk:p.length≤11):Zax old (Zfi (kids p).length gap) (p++[(N:Int)])=0:=by
 have hkl:=Za3 p
 have hg:=Zrx gap
 have hkk:(kids (p++[(N:Int)])).length=(kids p).length+1:=by
  rw[ZhG,Zkm (Int.natCast_nonneg N)];simp
 refine ZoU ?_ ?_
 ·rw[hkk,Zfi,usL,usF,if_neg (by decide),if_neg (by decide),if_pos rfl,if_neg (by simp;omega)]
  have e:bump (List.replicate ((kids p).length+1) 0) (kids p).length=List.replicate (kids p).length 0++[1]:=by
   rw[bump,List.replicate_succ',List.getD_eq_getElem?_getD]
   simp
  rw[e,Zgk,Zrw]
  simp only[cond_true]
  rw[Zrv,List.replicate_succ']
  simp[usL]
 ·simp only[Zfi,cpL,cpF,ZcG,ZfP,or_true,if_true];omega
theorem Zrz {p:List Int} {gap:Bool} (hk:p.length≤11):fszs (Zfi (kids p).length gap)≤100:=by
 have hkl:=Za3 p
 have hg:=ZoT gap
 simp only[Zfi,fszs,fsz,Zbc,ZdX];omega
structure WOk (g:Gram) (N:Nat) (w:Work):Prop where
 sym:∀ s∈w.right, -g.terms≤s∧s < (N:Int)
 len:w.right.length≤11
 part:Zax g w.l w.right=0
 slim:fszs w.l≤100
def Znv (g:Gram) (gap:Bool) (w:Work):Prop:=∃ r:Nat,r < g.rules.length∧w.l=ZfY r (kids w.right).length gap∧w.right.length≤10
def PairQ (g:Gram) (gap:Bool) (a b:Work):Prop:=(Znv g gap a∧Znv g gap b)∨ZaX a.right b.right=false
theorem PairQ.symm {g:Gram} {gap:Bool} {a b:Work} (h:PairQ g gap a b):PairQ g gap b a:=by
 rcases h with ⟨h1,h2⟩|h
 ·exact .inl ⟨h2,h1⟩
 ·exact .inr (by rw[Zd5];exact h)
def ZhH (g:Gram) (u:Nat):Bool:=decide (g.vars.toNat≤u)
structure FInv (g:Gram) (all:List (List Work)) (v:Nat):Prop where
 len:all.length≤64
 vars:g.vars.toNat≤all.length
 ok:∀ l∈all,∀ w∈l,WOk g all.length w
 form:∀ u,v≤u→(all.getD u []).Pairwise (PairQ g (ZhH g u))
 none:∀ u,u < v→Zas (all.getD u []) 0=[]
theorem Zlv {all:List (List Work)} {v:Nat} {w:Work} (h:w∈all.getD v []):all.getD v []∈all:=by
 rw[List.getD_eq_getElem?_getD] at h ⊢
 by_cases hv:v < all.length
 ·rw[List.getElem?_eq_getElem hv];exact List.getElem_mem hv
 ·rw[List.getElem?_eq_none (by omega)] at h;simp at h
theorem ZdF {at_:List Int}:∀ {l:List Work} {i:Nat} {w:Work},w∈ZaV at_ l i→∃ j,∃ h:j < l.length,w=l[j]∧inL at_ (i+j)=true
 | [],i,w,h=>by simp[ZaV] at h
 | x::r,i,w,h=>by
  rw[ZaV] at h
  have next:w∈ZaV at_ r (i+1)→∃ j,∃ h:j < (x::r).length,w=(x::r)[j]∧inL at_ (i+j)=true:=fun h=>by
   obtain⟨j,h1,h2,h3⟩:=ZdF h
   exact⟨j+1,by simp;omega,by simpa using h2,by rw[show i+(j+1)=i+1+j by omega];exact h3⟩
  split at h
  ·rename_i hi
   rcases List.mem_cons.1 h with rfl|h
   ·exact⟨0,by simp,rfl,hi⟩
   ·exact next h
  ·exact next h
theorem ZeG {at_:List Int} {hd:Work} {k:Nat} (hk:at_.getD 0 0=(k:Int)):∀ {l:List Work} {i:Nat} {w:Work},w∈Zbd at_ hd l i→(w=hd∧i≤k)∨∃ j,∃ h:j < l.length,w=l[j]∧inL at_ (i+j)=false∧i+j≠k
 | [],i,w,h=>by simp[Zbd] at h
 | x::r,i,w,h=>by
  rw[Zbd,hk] at h
  have next:w∈Zbd at_ hd r (i+1)→(w=hd∧i≤k)∨∃ j,∃ h:j < (x::r).length,w=(x::r)[j]∧inL at_ (i+j)=false∧i+j≠k:=fun h=>by
   rcases ZeG hk h with ⟨h1,h2⟩|⟨j,h1,h2,h3,h4⟩
   ·exact .inl ⟨h1,by omega⟩
   ·exact .inr ⟨j+1,by simp;omega,by simpa using h2,by rw[show i+(j+1)=i+1+j by omega];exact h3,by omega⟩
  split at h
  ·rename_i e
   rcases List.mem_cons.1 h with rfl|h
   ·exact .inl ⟨rfl,by omega⟩
   ·exact next h
  ·rename_i e
   split at h
   ·exact next h
   ·rename_i hi
    rcases List.mem_cons.1 h with rfl|h
    ·exact .inr ⟨0,by simp,rfl,by simpa using hi,fun hh=>e (by rw[←hh];rfl)⟩
    ·exact next h
theorem ZhI {at_:List Int} {hd:Work} {k:Nat} {g:Gram} {gap:Bool} (hk:at_.getD 0 0=(k:Int)):∀ {l:List Work} {i:Nat},l.Pairwise (PairQ g gap)→(∀ j (h:j < l.length),inL at_ (i+j)=false→i+j≠k→ZaX hd.right l[j].right=false)→(Zbd at_ hd l i).Pairwise (PairQ g gap)
 | [],i,_,_=>by simp[Zbd]
 | x::r,i,hp,hn=>by
  rw[List.pairwise_cons] at hp
  have hn':∀ j (h:j < r.length),inL at_ (i+1+j)=false→i+1+j≠k→ZaX hd.right r[j].right=false:=fun j h h1 h2=>by
   have:=hn (j+1) (by simp;omega) (by rw[show i+(j+1)=i+1+j by omega];exact h1) (by omega)
   simpa using this
  have ih:=ZhI hk (i:=i+1) hp.2 hn'
  rw[Zbd,hk]
  split
  ·rename_i e
   refine List.pairwise_cons.2 ⟨fun w hw=>?_,ih⟩
   rcases ZeG hk hw with ⟨_,h2⟩|⟨j,h1,rfl,h3,h4⟩
   ·omega
   ·exact .inr (hn' j h1 h3 h4)
  ·rename_i e
   split
   ·exact ih
   ·rename_i hi
    refine List.pairwise_cons.2 ⟨fun w hw=>?_,ih⟩
    rcases ZeG hk hw with ⟨rfl,_⟩|⟨j,h1,rfl,h3,h4⟩
    ·have:=hn 0 (by simp) (by simpa using hi) (fun hh=>e (by rw[←hh];rfl))
     exact (PairQ.symm (.inr this))
    ·exact hp.1 _ (List.getElem_mem h1)
theorem Zes {at_:List Int} {hd:Work}:∀ (l:List Work) (i:Nat),(Zbd at_ hd l i).length≤l.length
 | [],i=>by simp[Zbd]
 | x::r,i=>by
  have ih:=Zes (at_:=at_) (hd:=hd) r (i+1)
  rw[Zbd]
  split
  ·simp only[List.length_cons];omega
  ·split <;> simp only[List.length_cons] <;> omega
theorem Zlw {at_:List Int} {hd:Work} {k:Nat} (hk:at_.getD 0 0=(k:Int)):∀ {l:List Work} {i:Nat} (j:Nat),j < l.length→i+j≠k→inL at_ (i+j)=true→(Zbd at_ hd l i).length < l.length
 | x::r,i,0,_,h1,h2=>by
  have ih:=Zes (at_:=at_) (hd:=hd) r (i+1)
  rw[Zbd,hk,if_neg (by omega),if_pos (by simpa using h2)]
  simp only[List.length_cons];omega
 | x::r,i,j+1,h,h1,h2=>by
  have ih:=Zlw (hd:=hd) hk (l:=r) (i:=i+1) j (by simpa using h) (by omega) (by rw[show i+1+j=i+(j+1) by omega];exact h2)
  rw[Zbd]
  split
  ·simp only[List.length_cons];omega
  ·split <;> simp only[List.length_cons] <;> omega
theorem Znw {a b:List Int} {n:Nat} (hn:1≤n) (c:List Int) (ha:ZaX a a=true):ZaX (a.take n++c) b=ZaX a b:=by
 cases a with
 | nil=>simp[ZaX] at ha
 | cons x a =>
  obtain⟨m,rfl⟩:∃ m,n=m+1:=⟨n - 1,by omega⟩
  cases b <;> simp[ZaX]
theorem Zjk:∀ (a b:List Int) (n:Nat),n≤Za7 a b→b.take n=a.take n
 | _,_,0,_=>by simp
 | x::a,y::b,n+1,h=>by
  rw[Za7] at h
  split at h
  ·rename_i e;subst e
   simp only[List.take_succ_cons]
   rw[Zjk a b n (by omega)]
  ·omega
 | [],b,n+1,h=>by simp[Za7] at h
 | x::a,[],n+1,h=>by simp[Za7] at h
structure GrpK (g:Gram) (gap:Bool) (l:List Work) (at_:List Int) (k n:Nat):Prop where
 hk:k < l.length
 at0:at_.getD 0 0=(k:Int)
 inn:∀ j (hj:j < l.length),inL at_ j=ZaX l[k].right l[j].right
 self:ZaX l[k].right l[k].right=true
 first:Zep l at_=l[k].right
 n1:1≤n
 nl:n≤l[k].right.length
 plain:∀ j (hj:j < l.length),inL at_ j=true→Znv g gap l[j]∧l[j].right.take n=l[k].right.take n
 other:∃ j,∃ _:j < l.length,j≠k∧inL at_ j=true
theorem ZxQ {g:Gram} {gap:Bool} {l:List Work} (hp:l.Pairwise (PairQ g gap)) (h:Zas l 0≠[]):∃ k,GrpK g gap l (Zas l 0) k (comW l (Zas l 0)):=by
 have G:=Zs8 h
 obtain⟨k,h1,h2,h3,h4⟩:=G.first
 have hf:Zep l (Zas l 0)=l[k].right:=by
  rw[Zep,h2]
  simp only[Int.toNat_natCast]
  rw[List.getD_eq_getElem?_getD,List.getElem?_eq_getElem h1];rfl
 have hne:1≤l[k].right.length:=by
  cases hc:l[k].right with
  | nil=>rw[hc] at h4;simp[ZaX] at h4
  | cons x r=>simp
 have hplain:∀ j (hj:j < l.length),inL (Zas l 0) j=true→Znv g gap l[j]:=fun j hj hi=>by
  obtain⟨j',e1,e2,e3,e4⟩:=G.pair j hj hi
  have hQ:PairQ g gap l[j] l[j']:=by
   rw[List.pairwise_iff_getElem] at hp
   rcases Nat.lt_or_ge j j' with hlt|hge
   ·exact hp j j' hj e1 hlt
   ·exact (hp j' j e1 hj (by omega)).symm
  rcases hQ with ⟨q,_⟩|q
  ·exact q
  ·rw[e4] at q;cases q
 have hkin:inL (Zas l 0) k=true:=by rw[h3 k h1];exact h4
 obtain⟨j',e1,e2,e3,e4⟩:=G.pair k h1 hkin
 refine⟨k,h1,h2,h3,h4,hf,?_,?_,fun j hj hi=>⟨hplain j hj hi,?_⟩,⟨j',e1,e3,by rw[h3 j' e1];exact e4⟩⟩
 ·rw[comW,hf]
  refine ZgL hne fun x hx=>?_
  obtain⟨j,d1,rfl,d3⟩:=ZdF hx
  rw[Nat.zero_add,h3 j d1,←ZqQ] at d3
  have:=of_decide_eq_true d3
  omega
 ·rw[comW,hf];exact ZgK _ _
 ·refine Zjk _ _ _ ?_
  rw[comW,hf]
  refine Zd4 ?_
  have:∀ (l:List Work) (i:Nat) (hj:j < l.length),inL (Zas l 0) j=true→True:=fun _ _ _ _=>trivial
  clear this
  have hm:∀ (at_:List Int) (l:List Work) (i j:Nat) (hj:j < l.length),inL at_ (i+j)=true→l[j]∈ZaV at_ l i:=by
   intro at_ l
   induction l with
   | nil=>intro i j hj;simp at hj
   | cons x r ih =>
    intro i j hj hi
    rw[ZaV]
    cases j with
    | zero=>rw[if_pos (by simpa using hi)];simp
    | succ j =>
     have:=ih (i+1) j (by simpa using hj) (by rw[show i+1+j=i+(j+1) by omega];exact hi)
     split
     ·exact List.mem_cons_of_mem _ this
     ·exact this
  exact hm _ _ 0 j hj (by rwa [Nat.zero_add])
theorem Zqg (a:List Int) (n:Nat):(kids a).length=(kids (a.take n)).length+(kids (a.drop n)).length:=by
 rw[←List.length_append,←ZhG,List.take_append_drop]
theorem ZfF {all:List (List Work)} {v:Nat} (h:v < all.length) (x:List Work) (r:List (List Work)):(all.set v x++r).getD v []=x:=by
 rw[List.getD_eq_getElem?_getD,List.getElem?_append_left (by simpa using h),List.getElem?_set_self h];rfl
theorem Ze2 {all:List (List Work)} {v u:Nat} (h:u < all.length) (hne:u≠v) (x:List Work) (r:List (List Work)):(all.set v x++r).getD u []=all.getD u []:=by
 rw[List.getD_eq_getElem?_getD,List.getElem?_append_left (by simpa using h),List.getElem?_set_ne (fun e=>hne e.symm),←List.getD_eq_getElem?_getD]
theorem Zkj {all:List (List Work)} {v:Nat} (x y:List Work):(all.set v x++[y]).getD all.length []=y:=by
 rw[List.getD_eq_getElem?_getD,List.getElem?_append_right (by simp)];simp
theorem Zlx {all:List (List Work)} {v u:Nat} (h:all.length < u) (x y:List Work):(all.set v x++[y]).getD u []=[]:=by
 rw[List.getD_eq_getElem?_getD,List.getElem?_eq_none (by simp;omega)];rfl
theorem WOk.mono {g:Gram} {N M:Nat} {w:Work} (h:WOk g N w) (hN:N≤M):WOk g M w:=⟨fun s hs=>by have:=h.sym s hs;omega,h.len,h.part,h.slim⟩
theorem WOk.plain {g:Gram} {N:Nat} {w:Work} {gap:Bool} (hs:∀ s∈w.right, -g.terms≤s∧s < (N:Int)) (hp:Znv g gap w):WOk g N w:=by
 obtain⟨r,h1,h2,h3⟩:=hp
 refine⟨hs,by omega,?_,?_⟩
 ·rw[h2];exact Zqe h1 (by omega)
 ·rw[h2];exact Zqf (by omega)
section
variable {g:Gram} {all:List (List Work)} {v:Nat}
theorem FInv.grp (h:FInv g all v) (hne:Zas (all.getD v []) 0≠[]):∃ k,GrpK g (ZhH g v) (all.getD v []) (Zas (all.getD v []) 0) k (comW (all.getD v []) (Zas (all.getD v []) 0)):=ZxQ (h.form v (Nat.le_refl _)) hne
theorem FInv.mem (h:FInv g all v) {w:Work} (hw:w∈all.getD v []):WOk g all.length w:=h.ok _ (Zlv hw) w hw
theorem Zgl (hg:g.ok) (h:FInv g all v) {k n:Nat} {at_:List Int} (G:GrpK g (ZhH g v) (all.getD v []) at_ k n) {x:Work} (hx:x∈ZaV at_ (all.getD v []) 0) :
  Znv g true (Zdz n (kids (((all.getD v [])[k]'G.hk).right.take n)).length x)∧∀ s∈x.right.drop n, -g.terms≤s∧s < (all.length:Int):=by
 obtain⟨j,h1,rfl,h3⟩:=ZdF hx
 rw[Nat.zero_add] at h3
 obtain⟨⟨r,p1,p2,p3⟩,p4⟩:=G.plain j h1 h3
 refine⟨⟨r,p1,?_,?_⟩,fun s hs=>(h.mem (List.getElem_mem h1)).sym s (List.mem_of_mem_drop hs)⟩
 ·have e:=Zqg ((all.getD v [])[j]).right n
  rw[p4] at e
  simp only[Zdz]
  rw[p2]
  simp only[ZfY,Zmz,gapL,cond_true,List.getD_cons_zero,Frag.n,List.singleton_append]
  rw[show (kids ((all.getD v [])[j]).right).length - (kids (((all.getD v [])[k]'G.hk).right.take n)).length=(kids (((all.getD v [])[j]).right.drop n)).length by omega]
 ·simp only[Zdz,List.length_drop];omega
theorem FInv.one (hg:g.ok) (h:FInv g all v) (hv:v < all.length) (hne:Zas (all.getD v []) 0≠[]) (hm:¬ 64 < (oneW g.vars.toNat all v (Zas (all.getD v []) 0)).length) :
  FInv g (oneW g.vars.toNat all v (Zas (all.getD v []) 0)) v∧((oneW g.vars.toNat all v (Zas (all.getD v []) 0)).getD v []).length < (all.getD v []).length:=by
 obtain⟨k,G⟩:=h.grp hne
 generalize hat:Zas (all.getD v []) 0=at_ at *
 have hN:=Zir g.vars.toNat all v at_
 have hvars:=h.vars
 have hf:=G.first
 generalize hn:comW (all.getD v []) at_=n at *
 have hhd:Zs6 g.vars.toNat all.length v (all.getD v []) at_=⟨((all.getD v [])[k]'G.hk).right.take n++[(all.length:Int)],Zfi (kids (((all.getD v [])[k]'G.hk).right.take n)).length (ZhH g v)⟩:=by
  rw[Zs6,hf,hn];rfl
 have hone:oneW g.vars.toNat all v at_=all.set v (Zbd at_ ⟨((all.getD v [])[k]'G.hk).right.take n++[(all.length:Int)],Zfi (kids (((all.getD v [])[k]'G.hk).right.take n)).length (ZhH g v)⟩ (all.getD v []) 0) ++
   [(ZaV at_ (all.getD v []) 0).map (Zdz n (kids (((all.getD v [])[k]'G.hk).right.take n)).length)]:=by
  rw[oneW,hhd,hf,hn]
 have hkp:=G.plain k G.hk (by rw[G.inn k G.hk];exact G.self)
 obtain⟨⟨rk',pk1,pk2,pk3⟩,_⟩:=hkp
 have hkok:=h.mem (List.getElem_mem G.hk)
 have hnl:=G.nl
 have htl:(((all.getD v [])[k]'G.hk).right.take n).length≤10:=by simp;omega
 have hdok:WOk g (all.length+1) ⟨((all.getD v [])[k]'G.hk).right.take n++[(all.length:Int)],Zfi (kids (((all.getD v [])[k]'G.hk).right.take n)).length (ZhH g v)⟩:=by
  have hterms:=hg.terms0
  refine⟨fun s hs=>?_,by simp;omega,Zry (by omega),Zrz (by omega)⟩
  rcases List.mem_append.1 hs with hs|hs
  ·have:=hkok.sym s (List.mem_of_mem_take hs);omega
  ·rw[List.mem_singleton.1 hs];omega
 have hself:=G.self
 have hnew:∀ j (hj:j < (all.getD v []).length),inL at_ (0+j)=false→0+j≠k→ZaX (((all.getD v [])[k]'G.hk).right.take n++[(all.length:Int)]) ((all.getD v [])[j]).right=false:=fun j hj hi _=>by
  rw[Znw G.n1 _ hself,←G.inn j hj]
  rwa [Nat.zero_add] at hi
 have hlen:(oneW g.vars.toNat all v at_).length≤64:=by omega
 constructor
 ·refine⟨hlen,by omega,?_,?_,?_⟩
  ·rw[hN]
   intro l hl w hw
   rw[hone] at hl
   rcases List.mem_append.1 hl with hl|hl
   ·rcases List.mem_or_eq_of_mem_set hl with hl|rfl
    ·exact (h.ok l hl w hw).mono (by omega)
    ·rcases ZeG G.at0 hw with ⟨rfl,_⟩|⟨j,j1,rfl,_,_⟩
     ·exact hdok
     ·exact (h.mem (List.getElem_mem j1)).mono (by omega)
   ·rw[List.mem_singleton.1 hl] at hw
    obtain⟨x,hx,rfl⟩:=List.mem_map.1 hw
    obtain⟨q1,q2⟩:=Zgl hg h G hx
    exact (WOk.plain (N:=all.length) (fun s hs=>q2 s hs) q1).mono (by omega)
  ·intro u hu
   rw[hone]
   rcases Nat.lt_trichotomy u all.length with h1|rfl|h1
   ·by_cases huv:u=v
    ·subst huv
     rw[ZfF h1]
     exact ZhI G.at0 (h.form u hu) hnew
    ·rw[Ze2 h1 huv];exact h.form u hu
   ·rw[Zkj]
    have hgt:ZhH g all.length=true:=decide_eq_true hvars
    rw[hgt,List.pairwise_map]
    refine List.Pairwise.imp_of_mem (R:=fun _ _=>True) (fun ha hb _=>.inl ⟨(Zgl hg h G ha).1,(Zgl hg h G hb).1⟩) ?_
    exact List.pairwise_of_forall (fun _ _=>trivial)
   ·rw[Zlx h1];exact List.Pairwise.nil
  ·intro u hu
   rw[hone,Ze2 (by omega) (by omega)]
   exact h.none u hu
 ·rw[hone,ZfF hv]
  obtain⟨j,j1,j2,j3⟩:=G.other
  exact Zlw G.at0 j j1 (by omega) (by rwa [Nat.zero_add])
theorem FInv.next (h:FInv g all v) (hne:Zas (all.getD v []) 0=[]):FInv g all (v+1) :=
 ⟨h.len,h.vars,h.ok,fun u hu=>h.form u (by omega),fun u hu=>by
  by_cases e:u=v
  ·subst e;exact hne
  ·exact h.none u (by omega)⟩
theorem Zkk (hg:g.ok):∀ (a b:Nat) {all:List (List Work)} {v:Nat},65 - v≤a→(all.getD v []).length≤b→FInv g all v→∃ r,Fac g.vars.toNat all v r∧∀ z,r=.ok z→FInv g z z.length
 | 0,_,all,v,ha,_,h=>by
  have:=h.len
  refine⟨.ok all,.done (by omega),fun z e=>?_⟩
  cases e
  exact⟨h.len,h.vars,h.ok,fun u hu=>by
   rw[List.getD_eq_getElem?_getD,List.getElem?_eq_none (by omega)];exact List.Pairwise.nil,fun u hu=>h.none u (by omega)⟩
 | a+1,b,all,v,ha,hb,h=>by
  by_cases hv:v < all.length
  ·by_cases hne:Zas (all.getD v []) 0=[]
   ·obtain⟨r,h1,h2⟩:=Zkk hg a ((all.getD (v+1) []).length) (by omega) (Nat.le_refl _) (h.next hne)
    exact⟨r,.next hv hne h1,h2⟩
   ·by_cases hm:64 < (oneW g.vars.toNat all v (Zas (all.getD v []) 0)).length
    ·exact⟨.error v,.many hv hne hm,fun z e=>by cases e⟩
    ·obtain⟨h1,h2⟩:=h.one hg hv hne hm
     match b with
     | 0=>omega
     | b+1 =>
      obtain⟨r,h3,h4⟩:=Zkk hg (a+1) b (by omega) (by omega) h1
      exact⟨r,.one hv hne hm h3,h4⟩
  ·refine⟨.ok all,.done hv,fun z e=>?_⟩
   cases e
   exact⟨h.len,h.vars,h.ok,fun u hu=>by
    rw[List.getD_eq_getElem?_getD,List.getElem?_eq_none (by omega)];exact List.Pairwise.nil,fun u hu=>h.none u (by omega)⟩
termination_by a b=>(a,b)
end
end Go.Proofs.YtbpmepgnjanhnaaGreat
