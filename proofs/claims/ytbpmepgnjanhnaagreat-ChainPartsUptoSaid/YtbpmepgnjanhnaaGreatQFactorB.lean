import Derived.Test.YtbpmepgnjanhnaaGreatQTurnR
import Derived.Test.YtbpmepgnjanhnaaGreatG1
set_option linter.unusedVariables false
set_option linter.unusedSimpArgs false
set_option linter.unusedSectionVars false
namespace Go.Proofs.YtbpmepgnjanhnaaGreat
open Go.RowKit
set_option maxRecDepth 100000
theorem ZnJ {a b:List Int} {n:Nat} (h:n≤Za7 a b) (ha:n < a.length):(n < Za7 a b↔∃ hb:n < b.length,b[n]=a[n]):=by
 constructor
 ·intro h1
  obtain⟨_,h2,h3⟩:=ZgJ a b n h1
  exact⟨h2,h3.symm⟩
 ·rintro⟨hb,he⟩
  rcases Nat.lt_or_ge n (Za7 a b) with hlt|hge
  ·exact hlt
  ·exfalso
   have e:Za7 a b=n:=by omega
   rcases Zip a b with h1|h1|⟨h1,h2,h3⟩
   ·omega
   ·omega
   ·apply h3
    simp only[e]
    exact he.symm
set_option maxHeartbeats 4000000 in
theorem Zqx {t:Bool} {l:List Work} (h0:0 < l.length) (hl:l.length≤100000) (hr:∀ w∈l,w.right.length≤100000) :
  ACalls Tryz.prog 194 [.d (Zat t l)] [] (I (ZcI l[0].right l)) []:=by
 refine ACalls.intro (n:=36) Tryz.func194 rfl rfl (by simp) (by rfl) ?_
 simp only[Zal]
 refine VA ?_
 have h0r:=hr _ (List.getElem_mem h0)
 have hcl:=ZgK l[0].right l
 refine Zak (X:=Nat) (fun n=>n≤ZcI l[0].right l) (fun n=>[(3,I n),(0,.d (Zat t l))]) (fun _=>[]) (fun n=>l[0].right.length - n) 0 (Nat.zero_le _) ?_
 intro n hn
 refine VA ?_
 refine Zak (X:=Nat) (fun j=>j≤l.length∧(0 < j→n < l[0].right.length)∧∀ i (hi:i < l.length),i < j→n < Za7 l[0].right l[i].right) (fun j=>[(10,I j),(9,I l.length),(8,.d (Zat t l)),(3,I n),(0,.d (Zat t l))]) (fun _=>[]) (fun j=>l.length - j) 0 ⟨Nat.zero_le _,fun h=>by omega,fun i _ h=>by omega⟩ ?_
 rintro j ⟨hj,hj0,hjn⟩
 by_cases hlt:j < l.length
 ·have hrj:=hr _ (List.getElem_mem hlt)
  have hnj:n≤Za7 l[0].right l[j].right:=Nat.le_trans hn (Zd4 (List.getElem_mem hlt))
  have hnj2:=(Zmy l[0].right l[j].right).2
  by_cases h1:n < Za7 l[0].right l[j].right
  ·obtain⟨g1,g2,g3⟩:=ZgJ _ _ _ h1
   have g3':decide (l[j].right[n]=l[0].right[n])=true:=decide_eq_true g3.symm
   refine VA ?_
   exact Zae (j+1) (a:=⟨by omega,fun _=>g1,fun i hi hij=>by
    by_cases e:i=j
    ·subst e;exact h1
    ·exact hjn i hi (by omega)⟩)
  ·have hc:ZcI l[0].right l=n:=by
    have:=Zd4 (a:=l[0].right) (List.getElem_mem hlt)
    omega
   rw[hc]
   by_cases h2:n < l[j].right.length
   ·have h3:n < l[0].right.length:=by
     rcases Nat.eq_zero_or_pos j with rfl|hp
     ·exact h2
     ·exact hj0 hp
    have h4:l[j].right[n]≠l[0].right[n]:=fun he=>h1 ((ZnJ hnj h3).2 ⟨h2,he⟩)
    have h5:(!decide (l[j].right[n]=l[0].right[n]))=true:=by simp[h4]
    refine VA ?_
    exact fin
   ·repeat (first|refine wkz ?_|refine Zaa (hr:=?_))
    exact fin
 ·have hn1:n < l[0].right.length:=hj0 (by omega)
  have hnext:n+1≤ZcI l[0].right l:=ZgL hn1 (fun x hx=>by
   obtain⟨i,hi,rfl⟩:=List.getElem_of_mem hx
   exact hjn i hi (by omega))
  refine VA ?_
  exact Zae (n+1)
theorem Zr6 (t:Bool) (n:Nat) (gap:Bool):(Zfi n gap).map (ZaG t)=[.agg [iD 4,iD n,Zah t (gapL gap++ZaH n)]]:=by simp[Zfi,ZaG,ZbP]
theorem ZhQ (t:Bool) (G:List Frag) (k:Nat):(G++ZaH (k+1)).map (ZaG t)=(G++ZaH k).map (ZaG t)++[.agg [iD 2,iD k,.sl t 3 []]]:=by
 rw[List.map_append,Zfo,List.map_append,List.append_assoc]
set_option maxHeartbeats 4000000 in
theorem ZuV {n:Nat} {gap:Bool} (hn:n≤100000) :
  ACalls Tryz.prog 195 [I n,B gap] [] (.own 29 1) [(29,.row 102 3 ((Zfi n gap).map (ZaG false)))]:=by
 refine ACalls.intro (n:=30) Tryz.func195 rfl rfl (by simp) (by rfl) ?_
 simp only[Zal]
 have hh:∀ i,(ZaH i).length=i:=fun i=>by simp[ZaH]
 have hg:(gapL gap).length≤1:=by cases gap <;> simp[gapL]
 rw[Zr6]
 refine VA ?_
 refine ZaB 5 2 900 102 3 rfl rfl rfl rfl ?_
 cases gap with
 | false =>
  refine VA ?_
  refine Zak (X:=Nat) (fun x=>x≤n) (fun x=>[(17,I x),(16,I n),(5,.ptr 5 0)]) (fun x=>[(5,.box 102 [.d (iD 4),.d (iD n),.own 900 (gapL false++ZaH x).length]),(900,.row 102 3 ((gapL false++ZaH x).map (ZaG false)))]) (fun x=>n - x) 0 (Nat.zero_le _) ?_
  intro i h1
  have hhi:=hh i
  have hhi':=hh (i+1)
  by_cases hlt:i < n
  ·have e:=ZhQ false (gapL false) i
   have e':(gapL false++ZaH (i+1)).length=(gapL false++ZaH i).length+1:=by simp[hh];omega
   have hl:(gapL false++ZaH i).length≤n+1:=by simp[hh];omega
   refine VA ?_
   exact Zae (i+1)
  ·obtain rfl:i=n:=by omega
   refine Zav 900 rfl ?_
   refine VA ?_
   exact fin
 | true =>
  refine VA ?_
  obtain⟨T,hT⟩:∃ T:Nat→List Frag,∀ j,T j=gapL true++ZaH j:=⟨_,fun _=>rfl⟩
  have hTl:∀ j,(T j).length=1+j:=fun j=>by rw[hT,List.length_append,hh];rfl
  have e0:(T 0).map (ZaG false)=[]++[.agg [iD 3,iD 0,.sl false 3 []]]:=by rw[hT];simp[gapL,ZaH,ZaG,Zdv]
  have hT0:=hTl 0
  rw[←hT]
  refine Zak (X:=Nat) (fun x=>x≤n) (fun x=>[(17,I x),(16,I n),(5,.ptr 5 0)]) (fun x=>[(5,.box 102 [.d (iD 4),.d (iD n),.own 900 (T x).length]),(900,.row 102 3 ((T x).map (ZaG false)))]) (fun x=>n - x) 0 (Nat.zero_le _) ?_
   (hh:=⟨Zcm rfl (by rw[hT0];rfl),Zb3 rfl (DLes.snoc (a:=[]) e0 (.agg (.cons (.refl _) (.cons (.refl _) (.cons (.nil _ _) .nil))))),trivial⟩)
  clear e0 hT0
  intro i h1
  have hTi:=hTl i
  have hTi':=hTl (i+1)
  by_cases hlt:i < n
  ·have e:(T (i+1)).map (ZaG false)=(T i).map (ZaG false)++[.agg [iD 2,iD i,.sl false 3 []]]:=by rw[hT,hT,ZhQ]
   refine VA ?_
   exact Zae (i+1)
  ·obtain rfl:i=n:=by omega
   refine Zav 900 rfl ?_
   refine VA ?_
   exact fin
theorem ZxV {gap:Bool} {m j:Nat} (h:j < (gapL gap++ZaH m).length):(j < (gapL gap).length∧(gapL gap++ZaH m)[j].op=3)∨((gapL gap).length≤j∧(gapL gap++ZaH m)[j].op=2∧(gapL gap++ZaH m)[j].n=((j - (gapL gap).length:Nat):Int)):=by
 by_cases hj:j < (gapL gap).length
 ·refine .inl ⟨hj,?_⟩
  rw[List.getElem_append_left hj]
  cases gap with
  | false=>simp[gapL] at hj
  | true=>simp[gapL] at hj;subst hj;rfl
 ·refine .inr ⟨by omega,?_⟩
  rw[List.getElem_append_right (by omega)]
  simp[ZaH,Frag.op,Frag.n]
set_option maxHeartbeats 4000000 in
theorem ZuW {t:Bool} {r:Int} {m n:Nat} {gap:Bool} (hn:n≤100000) (hm:m≤100000) :
  ACalls Tryz.prog 196 [.d (Zah t [.mk 1 r (gapL gap++ZaH m)]),I n] [] (.own 43 1) [(43,.row 102 3 ((Zmz r (m - n)).map (ZaG false)))]:=by
 refine ACalls.intro (n:=44) Tryz.func196 rfl rfl (by simp) (by rfl) ?_
 simp only[Zal]
 have hh:∀ i,(ZaH i).length=i:=fun i=>by simp[ZaH]
 have hg:(gapL gap).length≤1:=by cases gap <;> simp[gapL]
 have hL:(gapL gap++ZaH m).length=(gapL gap).length+m:=by simp[hh]
 have hat:=fun j h=>ZxV (gap:=gap) (m:=m) (j:=j) h
 have hmap:(Zmz r (m - n)).map (ZaG false)=[.agg [iD 1,iD r,Zah false (.mk 3 0 []::ZaH (m - n))]]:=by simp[Zmz,ZaG,ZbP]
 rw[hmap]
 refine VA ?_
 have hf0:[Frag.mk 1 r (gapL gap++ZaH m)][0]=Frag.mk 1 r (gapL gap++ZaH m):=rfl
 rw[hf0]
 generalize hLL:gapL gap++ZaH m=L at *
 generalize hgg:(gapL gap).length=gg at *
 obtain⟨T,hT⟩:∃ T:Nat→List Frag,∀ j,T j=Frag.mk 3 0 []::ZaH ((j - gg) - n):=⟨_,fun _=>rfl⟩
 have hTl:∀ j,(T j).length=1+((j - gg) - n):=fun j=>by rw[hT,List.length_cons,hh];omega
 have e0:(T 0).map (ZaG false)=[]++[.agg [iD 3,iD 0,.sl false 3 []]]:=by rw[hT,show 0 - gg - n=0 by omega];simp[ZaH,ZaG,Zdv]
 have e:=e0
 have hT0:(T 0).length=1:=by rw[hTl];omega
 refine Zak (X:=Nat) (fun j=>j≤L.length) (fun j=>[(17,I j),(16,I L.length),(15,.d (Zah t L)),(6,.own 13 (T j).length),(5,.ptr 5 0),(1,I n)]) (fun j=>[(13,.row 102 3 ((T j).map (ZaG false))),(5,.box 102 [.d (iD 1),.d (iD r),.d (Zah t L)])]) (fun j=>L.length - j) 0 (Nat.zero_le _) ?_ (hh:=⟨Zb3 rfl (DLes.snoc (a:=[]) e0 (.agg (.cons (.refl _) (.cons (.refl _) (.cons (.nil _ _) .nil))))),.of rfl,trivial⟩)
 clear e e0 hT0
 intro j hj
 have hTj:=hTl j
 have hTj':=hTl (j+1)
 by_cases hlt:j < L.length
 ·rcases hat j hlt with ⟨h1,h2⟩|⟨h1,h2,h3⟩
  ·have hTe:T (j+1)=T j:=by rw[hT,hT,show j+1 - gg - n=j - gg - n by omega]
   (repeat (first|refine wkz ?_|refine Zaa (hr:=?_)))
   rw[←hTe]
   exact Zae (j+1)
  ·by_cases h4:(n:Int)≤L[j].n
   ·have e:(T (j+1)).map (ZaG false)=(T j).map (ZaG false)++[.agg [iD 2,iD (L[j].n - n),.sl false 3 []]]:=by
     rw[hT,hT,show j+1 - gg - n=(j - gg - n)+1 by omega,h3,List.map_cons,Zfo,List.map_cons,List.cons_append]
     rw[show ((j - gg:Nat):Int) - (n:Int)=((j - gg - n:Nat):Int) by omega]
    have hn0:0≤L[j].n:=by omega
    have hn1:L[j].n≤100000:=by omega
    refine VA ?_
    exact Zae (j+1)
   ·have hTe:T (j+1)=T j:=by rw[hT,hT,show j+1 - gg - n=j - gg - n by omega]
    refine VA ?_
    rw[←hTe]
    exact Zae (j+1)
 ·obtain rfl:j=L.length:=by omega
  have hTe:T L.length=Frag.mk 3 0 []::ZaH (m - n):=by rw[hT,show L.length - gg - n=m - n by omega]
  rw[←hTe]
  refine VA ?_
  exact fin
set_option maxRecDepth 100000
theorem ZlP {t:Bool} {xs:List Int} {v:Int} (hl:xs.length≤100000000:=by exact Vm) :
  ACalls Tryz.prog 116 [.d (ints t xs),I v] [] (I (idxR (fun y=>decide (v=y)) xs 0)) []:=by
 refine ACalls.intro (n:=19) Tryz.func116 rfl rfl (by simp) (by rfl) ?_
 simp only[Zal]
 repeat (first|refine wk ?_)
 refine Zak (X:=Nat) (fun k=>k≤xs.length∧idxR (fun y=>decide (v=y)) xs 0=idxR (fun y=>decide (v=y)) (xs.drop k) k) (fun k=>[(8,I k),(7,I xs.length),(1,I v),(0,.d (ints t xs))]) (fun _=>[]) (fun k=>xs.length - k) 0 ⟨Nat.zero_le _,rfl⟩ ?_
 rintro k ⟨hk,hp⟩
 by_cases hlt:k < xs.length
 ·have hs:=ZlD (p:=fun y=>decide (v=y)) hlt
  by_cases hv:v=xs[k]
  ·rw[decide_eq_true hv,cond_true] at hs
   rw[hp,hs]
   repeat (first|refine wk ?_)
   exact fin
  ·rw[decide_eq_false hv,cond_false] at hs
   repeat (first|refine wk ?_)
   exact Zae (k+1) (a:=⟨by omega,hp.trans hs⟩)
 ·rw[hp,ZoY hlt]
  repeat (first|refine wk ?_)
  exact fin
theorem ZcQ {t:Bool} {xs:List Int} {v:Int} (hl:xs.length≤100000000:=by exact Vm) :
  ACalls Tryz.prog 115 [.d (ints t xs),I v] [] (B (xs.any (fun y=>decide (v=y)))) []:=by
 refine ACalls.intro (n:=9) Tryz.func115 rfl rfl (by simp) (by rfl) ?_
 simp only[Zal]
 repeat (first|refine wk ?_)
 refine Zab [] (hA:=ZlP) (hr:=?_)
 repeat (first|refine wk ?_)
 rw[←Zkp (fun y=>decide (v=y)) xs 0]
 exact fin
set_option maxRecDepth 100000
abbrev Zo4 (g:Gram) (n:Nat):Ob:=.box 177 [.d (iD g.vars),.d (iD g.terms),.d (iD g.start),.d (ZaL false g.rules),.own 1001 n]
abbrev facH (g:Gram) (all:List (List Work)):Hp:=[(1000,Zo4 g all.length),(1001,.row 178 1 (all.map (Zat false)))]
theorem ZhR {at_:List Int}:∀ {l:List Work} {i k:Nat} (hk:k < l.length),(∀ j,j < k→inL at_ (i+j)=false)→inL at_ (i+k)=true→∃ r,ZaV at_ l i=l[k]::r
 | x::l,i,0,_,_,h=>⟨ZaV at_ l (i+1),by rw[ZaV,if_pos (by simpa using h)];rfl⟩
 | x::l,i,k+1,hk,h0,h=>by
  rw[ZaV,if_neg (by have:=h0 0 (by omega);simpa using this)]
  obtain⟨r,hr⟩:=ZhR (l:=l) (i:=i+1) (k:=k) (by simpa using hk) (fun j hj=>by have:=h0 (j+1) (by omega);rwa [show i+1+j=i+(j+1) by omega]) (by rwa [show i+1+k=i+(k+1) by omega])
  exact⟨r,by simpa using hr⟩
theorem Zqy {l:List Work} {k:Nat} {g:Gram} {gap:Bool} {n:Nat} (G:GrpK g gap l (Zas l 0) k n) (hne:Zas l 0≠[]):∃ r,ZaV (Zas l 0) l 0=(l[k]'G.hk)::r:=by
 obtain⟨k',h1,h2,h3,h4⟩:=Zfj hne
 have hkk:k=k':=by
  have:=G.at0
  rw[h2] at this
  simp at this;omega
 subst hkk
 refine ZhR G.hk (fun j hj=>?_) (by rw[Nat.zero_add,G.inn k G.hk];exact G.self)
 rw[Nat.zero_add]
 cases hc:inL (Zas l 0) j with
 | false=>rfl
 | true =>
  exfalso
  rw[inL,h2,List.any_eq_true] at hc
  obtain⟨y,hy,e⟩:=hc
  have e:=of_decide_eq_true e
  rcases List.mem_cons.1 hy with rfl|hy
  ·omega
  ·obtain⟨j2,d1,d2,_⟩:=ZfX hy
   omega
theorem ZlQ:∀ (l:List Work) (i:Nat),(Zas l i).length≤l.length
 | [],i=>by simp[Zas]
 | x::l,i=>by
  have h1:=ZlQ l (i+1)
  have h2:=Zk0 x.right l (i+1)
  rw[Zas];split <;> simp only[List.length_cons] <;> omega
theorem Zeu {at_:List Int}:∀ (l:List Work) (i:Nat),(ZaV at_ l i).length≤l.length
 | [],i=>by simp[ZaV]
 | x::r,i=>by
  have ih:=Zeu (at_:=at_) r (i+1)
  rw[ZaV];split <;> simp only[List.length_cons] <;> omega
set_option maxHeartbeats 8000000 in
theorem ZxW {g:Gram} {all:List (List Work)} {v:Nat} (hv:v < all.length) (h:FInv g all v) (hW:∀ l∈all,l.length≤160) (hne:Zas (all.getD v []) 0=[]) :
  ACalls Tryz.prog 128 [.ptr 1000 0,I v] (facH g all) (B false) (facH g all):=by
 refine ACalls.intro (n:=137) Tryz.func128 rfl rfl (by simp) (by rfl) ?_
 simp only[Zal]
 have hl64:=h.len
 have hm:=List.getElem_mem hv
 have hgr:=Zm7 (t:=false) (l:=all[v]) (by have:=hW _ hm;omega) (fun w hw=>by have:=(h.ok _ hm w hw).len;omega)
 have e:all.getD v []=all[v]:=by rw[List.getD_eq_getElem?_getD,List.getElem?_eq_getElem hv];rfl
 rw[e] at hne
 rw[hne] at hgr
 refine VA ?_
 refine ZaO [] (hA:=hgr) (hr:=?_)
 refine VA ?_
 exact fin
set_option maxHeartbeats 8000000 in
theorem ZwI {g:Gram} {all:List (List Work)} {v:Nat} (hg:g.ok) (hv:v < all.length) (h:FInv g all v) (hW:∀ l∈all,l.length≤160) (hne:Zas (all.getD v []) 0≠[]) :
  ACalls Tryz.prog 128 [.ptr 1000 0,I v] (facH g all) (B true) (facH g (oneW g.vars.toNat all v (Zas (all.getD v []) 0))):=by
 refine ACalls.intro (n:=137) Tryz.func128 rfl rfl (by simp) (by rfl) ?_
 simp only[Zal]
 have hl64:=h.len
 have hm:=List.getElem_mem hv
 have hgr:=Zm7 (t:=false) (l:=all[v]) (by have:=hW _ hm;omega) (fun w hw=>by have:=(h.ok _ hm w hw).len;omega)
 have e:all.getD v []=all[v]:=by rw[List.getD_eq_getElem?_getD,List.getElem?_eq_getElem hv];rfl
 obtain⟨k,G⟩:=h.grp hne
 have hone:oneW g.vars.toNat all v (Zas (all.getD v []) 0)=all.set v (Zbd (Zas (all.getD v []) 0) (Zs6 g.vars.toNat all.length v (all.getD v []) (Zas (all.getD v []) 0)) (all.getD v []) 0) ++
  [(ZaV (Zas (all.getD v []) 0) (all.getD v []) 0).map (Zdz (comW (all.getD v []) (Zas (all.getD v []) 0)) (kids ((Zep (all.getD v []) (Zas (all.getD v []) 0)).take (comW (all.getD v []) (Zas (all.getD v []) 0)))).length)]:=rfl
 have hhd:Zs6 g.vars.toNat all.length v (all.getD v []) (Zas (all.getD v []) 0)=⟨(Zep (all.getD v []) (Zas (all.getD v []) 0)).take (comW (all.getD v []) (Zas (all.getD v []) 0))++[(all.length:Int)],Zfi (kids ((Zep (all.getD v []) (Zas (all.getD v []) 0)).take (comW (all.getD v []) (Zas (all.getD v []) 0)))).length (decide (g.vars.toNat≤v))⟩:=rfl
 obtain⟨sr,hsk⟩:=Zqy G hne
 have hlW:=hW _ hm
 have hok:=h.ok _ hm
 rw[hone,hhd]
 clear hone hhd
 rw[←e] at hlW hok hgr
 have hel:(all.map (Zat false))[v]? = some (Zat false (all.getD v [])):=by rw[List.getElem?_map,List.getElem?_eq_getElem hv,e];rfl
 generalize all.getD v []=l at *
 have hcs:=Zqx (t:=false) (l:=ZaV (Zas l 0) l 0) (by rw[hsk];simp) (by have:=Zeu (at_:=Zas l 0) l 0;omega) (fun w hw=>by
  obtain⟨j,h1,rfl,_⟩:=ZdF hw
  have:=(hok _ (List.getElem_mem h1)).len;omega)
 have hgl:=ZlQ l 0
 generalize Zas l 0=at_ at *
 have hfr:=G.first
 have hcom:ZcI ((ZaV at_ l 0)[0]'(by rw[hsk];simp)).right (ZaV at_ l 0)=comW l at_:=by
  show _=ZcI (Zep l at_) (ZaV at_ l 0)
  rw[hfr];simp only[hsk,List.getElem_cons_zero]
 rw[hcom] at hcs
 generalize comW l at_=n at *
 generalize Zep l at_=fr at *
 have hkr:=(hok _ (List.getElem_mem G.hk)).len
 have hnl:=G.nl
 rw[←hfr] at hkr hnl
 have hat0:=G.at0
 have hatl:0 < at_.length:=by
  cases at_ with
  | nil=>exact absurd rfl hne
  | cons _ _=>simp
 have hat0':at_[0]=(k:Int):=by rw[←hat0,List.getD_eq_getElem?_getD,List.getElem?_eq_getElem hatl];rfl
 have hkk:=G.hk
 refine VA ?_
 rw[←e]
 refine ZaO [] (hA:=hgr) (hr:=?_)
 refine VA ?_
 refine Zbi 7 907 181 2 rfl rfl rfl ?_
 refine Zbi 8 908 181 2 rfl rfl rfl ?_
 refine Zak (X:=Nat) (fun i=>i≤l.length) (fun i=>[(32,I i),(31,I l.length),(30,.d (Zat false l)),(5,.d (Zat false l)),(6,.d (ints false at_)),(7,.own 907 (ZaV at_ (l.take i) 0).length),(8,.own 908 0),(0,.ptr 1000 0),(1,I v)])
  (fun i=>[(907,.row 181 2 ((ZaV at_ (l.take i) 0).map (Za8 false))),(908,.row 181 2 []),(1000,Zo4 g all.length),(1001,.row 178 1 (all.map (Zat false)))]) (fun i=>l.length - i) 0 (Nat.zero_le _) ?_
 intro i hi
 by_cases hlt:i < l.length
 ·have hs:=Zn3 (at_:=at_) hlt
  have hct:=ZcQ (t:=false) (xs:=at_) (v:=(i:Int)) (by omega)
  rw[show at_.any (fun y=>decide ((i:Int)=y))=inL at_ i from rfl] at hct
  have hsl:=Zeu (at_:=at_) (l.take i) 0
  simp only[List.length_take] at hsl
  generalize ZaV at_ (l.take i) 0=S at *
  generalize inL at_ i=b at *
  refine VA ?_
  refine ZaO [] (hA:=hct) (hr:=?_)
  cases b with
  | true =>
   rw[if_pos rfl] at hs
   have e1:S.map (Za8 false)++[D.agg [ints false l[i].right,Zah false l[i].l]]=(ZaV at_ (l.take (i+1)) 0).map (Za8 false):=by rw[hs];simp[Za8]
   refine VA ?_
   rw[e1]
   exact Zae (i+1)
  | false =>
   rw[if_neg (by decide),List.append_nil] at hs
   refine VA ?_
   rw[←hs]
   exact Zae (i+1)
 ·obtain rfl:i=l.length:=by omega
  rw[List.take_length]
  have hSl:=Zeu (at_:=at_) l 0
  have hS0:0 < (ZaV at_ l 0).length:=by rw[hsk];simp
  have hSr:((ZaV at_ l 0)[0]'hS0).right=fr:=by rw[hfr];simp only[hsk,List.getElem_cons_zero]
  have hfk:=Zm6 (t:=false) (xs:=fr.take n) (by simp;omega)
  generalize hSS:ZaV at_ l 0=S at *
  refine Zav 907 rfl ?_
  refine Zrh 7 (v:=.d (Zat false S)) (Co.froz rfl (by simp)) rfl ?_
  refine VA ?_
  refine ZaO [] (hA:=hcs) (hr:=?_)
  refine VA ?_
  rw[hSr]
  refine ZxI TY (hr:=?_)
  rw[List.drop_zero,←List.map_take]
  refine ZaO [] (hA:=hfk) (hr:=?_)
  refine VA ?_
  generalize hkk2:(kids (fr.take n)).length=kk at *
  obtain⟨hd,hhd⟩:∃ hd:Work,hd=⟨fr.take n++[(all.length:Int)],Zfi kk (decide (g.vars.toNat≤v))⟩:=⟨_,rfl⟩
  rw[←hhd]
  have hkkl:kk≤11:=by
   rw[←hkk2]
   have:=Za3 (fr.take n)
   simp only[List.length_take] at this;omega
  refine Zak (X:=Nat) (fun i=>i≤l.length) (fun i=>[(56,I i),(55,I l.length),(54,.d (Zat false l)),(7,.d (Zat false S)),(6,.d (ints false at_)),(11,I n),(12,I kk),(8,.own 908 (Zbd at_ hd (l.take i) 0).length),(0,.ptr 1000 0),(1,I v)])
   (fun i=>[(908,.row 181 2 ((Zbd at_ hd (l.take i) 0).map (Za8 false))),(1000,Zo4 g all.length),(1001,.row 178 1 (all.map (Zat false)))]) (fun i=>l.length - i) 0 (Nat.zero_le _) ?_
  intro i hi
  by_cases hlt:i < l.length
  ·have hs:=Zn4 (at_:=at_) (hd:=hd) hlt
   rw[hat0] at hs
   have hct:=ZcQ (t:=false) (xs:=at_) (v:=(i:Int)) (by omega)
   rw[show at_.any (fun y=>decide ((i:Int)=y))=inL at_ i from rfl] at hct
   have hsl:=Zes (at_:=at_) (hd:=hd) (l.take i) 0
   simp only[List.length_take] at hsl
   generalize Zbd at_ hd (l.take i) 0=LS at *
   by_cases hik:i=k
   ·subst hik
    rw[if_pos rfl] at hs
    have hri:l[i].right=fr:=hfr.symm
    have hik2:decide ((i:Int)=at_[0])=true:=decide_eq_true hat0'.symm
    have hvv:decide (g.vars≤(v:Int))=decide (g.vars.toNat≤v):=decide_eq_decide.2 (by have:=hg.vars1;omega)
    have hcl:=ZbX (t:=false) (xs:=fr.take n) (by simp;omega)
    have htl:(fr.take n).length=n:=by simp;omega
    have hnl2:n≤l[i].right.length:=by rw[hri];exact hnl
    refine VA ?_
    rw[List.drop_zero,←List.map_take]
    rw[hri]
    refine ZaO [(5,920)] (hA:=hcl) (hr:=?_)
    refine VA ?_
    rw[hvv]
    have hhe:=ZuV (n:=kk) (gap:=decide (g.vars.toNat≤v)) (by omega)
    refine Zab [(29,921)] (hA:=hhe) (hr:=?_)
    refine VA ?_
    have e1:LS.map (Za8 false)++[D.agg [D.sl false 1 ((fr.take n).map iD++[D.raw (.int .i64 (all.length:Int))]),Zah false (Zfi kk (decide (g.vars.toNat≤v)))]]=(Zbd at_ hd (l.take (i+1)) 0).map (Za8 false):=by rw[hs,hhd];simp[Za8,iD]
    rw[e1]
    exact Zae (i+1)
   ·have hik2:decide ((i:Int)=at_[0])=false:=decide_eq_false (by rw[hat0'];omega)
    rw[if_neg (by omega)] at hs
    generalize inL at_ i=b at *
    refine VA ?_
    refine ZaO [] (hA:=hct) (hr:=?_)
    cases b with
    | true =>
     rw[if_pos rfl,List.append_nil] at hs
     refine VA ?_
     rw[←hs]
     exact Zae (i+1)
    | false =>
     rw[if_neg (by decide)] at hs
     have e1:LS.map (Za8 false)++[D.agg [ints false l[i].right,Zah false l[i].l]]=(Zbd at_ hd (l.take (i+1)) 0).map (Za8 false):=by rw[hs];simp[Za8]
     refine VA ?_
     rw[e1]
     exact Zae (i+1)
  ·obtain rfl:i=l.length:=by omega
   rw[List.take_length]
   have hLl:=Zes (at_:=at_) (hd:=hd) l 0
   generalize Zbd at_ hd l 0=LL at *
   have hset:(all.map (Zat false)).set v (Zat false LL)=(all.set v LL).map (Zat false):=by rw[List.map_set]
   refine Zav 908 rfl ?_
   refine Zrh 8 (v:=.d (Zat false LL)) (Co.froz rfl (by simp)) rfl ?_
   refine VA ?_
   have hrest:∀ x∈S,∃ (r:Nat) (m:Nat),x.l=ZfY r m (ZhH g v)∧m=(kids x.right).length∧n≤x.right.length∧x.right.length≤11:=fun x hx=>by
    rw[←hSS] at hx
    obtain⟨j,j1,rfl,j3⟩:=ZdF hx
    rw[Nat.zero_add] at j3
    obtain⟨⟨r,p1,p2,p3⟩,p4⟩:=G.plain j j1 j3
    refine⟨r,_,p2,rfl,?_,by omega⟩
    have e:=congrArg List.length p4
    rw[←hfr] at e
    simp only[List.length_take] at e
    omega
   refine Zbi 15 915 181 2 rfl rfl rfl ?_
   refine Zak (X:=Nat) (fun i=>i≤S.length) (fun i=>[(109,I i),(108,I S.length),(107,.d (Zat false S)),(15,.own 915 ((S.take i).map (Zdz n kk)).length),(11,I n),(12,I kk),(0,.ptr 1000 0)])
    (fun i=>[(915,.row 181 2 (((S.take i).map (Zdz n kk)).map (Za8 false))),(1000,Zo4 g all.length),(1001,.row 178 1 ((all.map (Zat false)).set v (Zat false LL)))]) (fun i=>S.length - i) 0 (Nat.zero_le _) ?_
   intro i hi
   have hTl:((S.take i).map (Zdz n kk)).length=i:=by simp;omega
   by_cases hlt:i < S.length
   ·have hsn:(S.take (i+1)).map (Zdz n kk)=(S.take i).map (Zdz n kk)++[Zdz n kk S[i]]:=by rw[List.take_succ_eq_append_getElem hlt,List.map_append];rfl
    obtain⟨r,m,q1,q2,q3,q4⟩:=hrest _ (List.getElem_mem hlt)
    have hml:=Za3 S[i].right
    have hcl:=ZbX (t:=false) (xs:=S[i].right.drop n) (by simp;omega)
    have hta:ACalls Tryz.prog 196 [.d (Zah false (ZfY r m (ZhH g v))),I kk] [] (.own 43 1) [(43,.row 102 3 ((Zmz r (m - kk)).map (ZaG false)))]:=ZuW (by omega) (by omega)
    have hrw:Zdz n kk S[i]=⟨S[i].right.drop n,Zmz r (m - kk)⟩:=by rw[Zdz,q1,q2];rfl
    have e1:((S.take i).map (Zdz n kk)).map (Za8 false)++[D.agg [ints false (S[i].right.drop n),Zah false (Zmz r (m - kk))]]=((S.take (i+1)).map (Zdz n kk)).map (Za8 false):=by rw[hsn,hrw];simp[Za8]
    have hdl:(S[i].right.drop n).length=S[i].right.length - n:=by simp
    generalize (S.take i).map (Zdz n kk)=RS at *
    refine VA ?_
    rw[List.take_of_length_le (by simp),←List.map_drop]
    refine ZaO [(5,920)] (hA:=hcl) (hr:=?_)
    refine VA ?_
    rw[q1]
    refine ZaO [(43,921)] (hA:=hta) (hr:=?_)
    refine VA ?_
    rw[e1]
    exact Zae (i+1)
   ·obtain rfl:i=S.length:=by omega
    rw[List.take_length]
    rw[hset]
    have hal:(all.set v LL).length=all.length:=by simp
    have e1:(all.set v LL).map (Zat false)++[Zat false (S.map (Zdz n kk))]=(all.set v LL++[S.map (Zdz n kk)]).map (Zat false):=by simp
    have e2:all.length+(0+1)=(all.set v LL++[S.map (Zdz n kk)]).length:=by simp
    generalize S.map (Zdz n kk)=RS at *
    refine VA ?_
    rw[e1,List.length_map]
    exact fin
end Go.Proofs.YtbpmepgnjanhnaaGreat
