import Derived.Test.YtbpmepgnjanhnaaGreatQSaP
import Derived.Test.YtbpmepgnjanhnaaGreatFrJ
import Derived.Test.YtbpmepgnjanhnaaGreatQSimPf
import Derived.Test.YtbpmepgnjanhnaaGreatQFrQ
import Derived.Shelf.SlSortCmp.InsertionK
import Derived.Shelf.SlSortCmp.WholeK
import Derived.Shelf.SlSortCmp.NoneTotal
import Derived.Test.YtbpmepgnjanhnaaGreatChecked
import Derived.Test.YtbpmepgnjanhnaaGreatSmN
import Derived.Test.YtbpmepgnjanhnaaGreatS5
set_option linter.unusedVariables false
set_option linter.unusedSimpArgs false
set_option linter.unusedSectionVars false
namespace Go.Proofs.YtbpmepgnjanhnaaGreat
open Go.RowKit
set_option maxRecDepth 100000
set_option maxHeartbeats 4000000 in
theorem ZeQ {t u v:Bool} {g:Gram} {ss:List Step} (hf:g.fit) (hs:∀ s∈ss,s.fit) (hl:ss.length≤100000000) :
  ACalls Tryz.prog 33 [.d (ZaH t g),.d (ZaZ u v ss)] [] (.d (ZaN (chnF g ss))) []:=by
 refine ACalls.intro (n:=43) Tryz.func33 rfl rfl (by simp) (by rfl) ?_
 simp only[Zak]
 have hgc:=Zb7 (t:=t) hf.rules hf.right
 have hr:∃ r,chnF g ss=r:=⟨_,rfl⟩
 obtain⟨r,hr⟩:=hr
 rw[hr]
 unfold chnF at hr
 by_cases h0:(Zah g).code=0
 ·rw[if_neg (fun q=>q h0)] at hr
  by_cases h8:8 < ss.length
  ·rw[if_pos h8] at hr
   subst hr
   repeat (first|refine wk ?_|refine Zaa (hr:=?_))
   refine Zab [] (hA:=hgc) (hr:=?_)
   repeat (first|refine wk ?_|refine Zaa (hr:=?_))
   refine Zab [] (hA:=ZbC) (hr:=?_)
   repeat (first|refine wk ?_|refine Zaa (hr:=?_))
   exact fin
  ·rw[if_neg h8] at hr
   repeat (first|refine wk ?_|refine Zaa (hr:=?_))
   refine Zab [] (hA:=hgc) (hr:=?_)
   repeat (first|refine wk ?_|refine Zaa (hr:=?_))
   refine Zai (X:=Nat) (fun i=>i≤ss.length∧chnL (ZaA g (ss.take i)) (ss.drop i) i=r) (fun i=>[(6,I i),(2,.ptr 2 0),(4,.ptr 4 0),(0+1,.d (ZaZ u v ss))]) (fun i=>[(2,Zar (if i=0 then t else v) (ZaA g (ss.take i))),(4,.box 31 [.d (iD 0),.d (iD 0)])]) (fun i=>ss.length - i) 0 ⟨Nat.zero_le _,hr⟩ ?_
   rintro i ⟨hi,hri⟩
   by_cases hlt:i < ss.length
   ·have hsi:=hs _ (List.getElem_mem hlt)
    have hlf:=Zbf hf (ss:=ss.take i) (fun s hs'=>hs s (List.mem_of_mem_take hs'))
    have hck:ACalls Tryz.prog 64 [.d (ZaH (if i=0 then t else v) (ZaA g (ss.take i))),.d (stpV v ss[i])] [] (.d (ZaN (Zas (ZaA g (ss.take i)) ss[i]))) []:=Zfr hlf hsi
    rw[ZlB hlt] at hri
    have e:=Zf6 g hlt
    by_cases hc:(Zas (ZaA g (ss.take i)) ss[i]).code=0
    ·rw[if_neg (fun q=>q hc)] at hri
     repeat (first|refine wk ?_|refine Zaa (hr:=?_))
     refine Zab [] (hA:=hck) (hr:=?_)
     repeat (first|refine wk ?_|refine Zaa (hr:=?_))
     refine Zg2 TY rfl Zag rfl (IsElt.stpP hlt) rfl rfl rfl rfl ?_
     repeat (first|refine wk ?_|refine Zaa (hr:=?_))
     exact Zad (i+1) (a:=⟨by omega,hri⟩) (d:=⟨by rw[e];exact .of rfl,.of rfl,trivial⟩)
    ·rw[if_pos hc] at hri
     subst hri
     repeat (first|refine wk ?_|refine Zaa (hr:=?_))
     refine Zab [] (hA:=hck) (hr:=?_)
     repeat (first|refine wk ?_|refine Zaa (hr:=?_))
     refine Zab [] (hA:=ZbC) (hr:=?_)
     repeat (first|refine wk ?_|refine Zaa (hr:=?_))
     exact fin
   ·have hi:i=ss.length:=by omega
    subst hi
    rw[List.drop_length,chnL] at hri
    subst hri
    repeat (first|refine wk ?_|refine Zaa (hr:=?_))
    exact fin
 ·rw[if_pos h0] at hr
  subst hr
  repeat (first|refine wk ?_|refine Zaa (hr:=?_))
  refine Zab [] (hA:=hgc) (hr:=?_)
  repeat (first|refine wk ?_|refine Zaa (hr:=?_))
  exact fin
theorem Zn2:ZdJ Tryz.prog 24 2 4 2:=ZgX Tryz.underlying24 rfl rfl rfl Tryz.underlying3 rfl
theorem Zn3 {g:Gram} {ss:List Step} {i:Nat} (h:i < ss.length) (t:Tree):bkN g ss (i+1) t=if ¬ (ZaL (ZaA g (ss.take i)) ss[i] t).2.code=0 then (ZaO,⟨(ZaL (ZaA g (ss.take i)) ss[i] t).2.code,(i:Int)⟩) else bkN g ss i (ZaL (ZaA g (ss.take i)) ss[i] t).1:=by rw[bkN,ZlA h]
abbrev Zhn (t:Bool) (x:Tree):Ob:=.box 56 [.d (iD x.rule),.d (Zal t x.kids)]
set_option maxHeartbeats 4000000 in
theorem Zpg {t u v a:Bool} {g:Gram} {ss:List Step} {x:Tree} (hf:g.fit) (hs:∀ s∈ss,s.fit) (hl:ss.length≤100000000) (hx:cnt x≤100000000) :
  ACalls Tryz.prog 28 [.d (ZaH t g),.d (ZaZ u v ss),.d (ZaE a x)] [] (.tup [.d (ZaE false (ZfC g ss x).1),.d (ZaN (ZfC g ss x).2)]) []:=by
 refine ACalls.intro (n:=69) Tryz.func28 rfl rfl (by simp) (by rfl) ?_
 simp only[Zak]
 have hck:=ZeU (t:=t) (u:=u) (v:=v) hf hs hl
 have hla:=Zes (t:=t) (u:=u) (v:=v) hf hs hl
 have hlf:=Zbf hf hs
 have hlb:ACalls Tryz.prog 15 [.d (ZaH t g),.d (ZaZ u v ss)] [] (.d (.agg [iD (ZaA g ss).vars,iD (ZaA g ss).terms,iD (ZaA g ss).start,ZaT false (ZaA g ss).rules])) []:=hla
 have htc:=ZcM (t:=false) (u:=a) (v:=(ZaA g ss).start) hlf.rules hlf.right hx
 have hto:=ZeR (t:=a) x hx
 have hr:∃ r,ZfC g ss x=r:=⟨_,rfl⟩
 obtain⟨r,hr⟩:=hr
 rw[hr]
 unfold ZfC at hr
 generalize ZaA g ss=L at *
 generalize Zaw L x L.start=TF at *
 generalize chnF g ss=CF at *
 by_cases h0:CF.code=0
 ·rw[if_neg (fun q=>q h0)] at hr
  by_cases h1:TF.code=0
  ·rw[if_neg (fun q=>q h1)] at hr
   repeat (first|refine wk ?_|refine Zaa (hr:=?_))
   refine Zab [] (hA:=hck) (hr:=?_)
   repeat (first|refine wk ?_|refine Zaa (hr:=?_))
   refine Zab [] (hA:=hla) (hr:=?_)
   repeat (first|refine wk ?_|refine Zaa (hr:=?_))
   refine Zab [] (hA:=hlb) (hr:=?_)
   refine Zaa (hF:=Zn2) (hr:=?_)
   repeat (first|refine wk ?_|refine Zaa (hr:=?_))
   refine Zab [] (hA:=htc) (hr:=?_)
   repeat (first|refine wk ?_|refine Zaa (hr:=?_))
   refine Zab [] (hA:=hto) (hr:=?_)
   repeat (first|refine wk ?_|refine Zaa (hr:=?_))
   refine Zai (X:=Nat×Tree) (fun y=>y.1≤ss.length∧cnt y.2≤100000000∧bkN g ss y.1 y.2=r) (fun y=>[(10,I ((y.1:Int) - 1)),(3,.ptr 3 0),(5,.ptr 5 0),(6,.ptr 6 0),(7,.ptr 7 0),(0+1,.d (ZaZ u v ss))]) (fun y=>[(3,Zar t g),(5,Zhn false y.2),(6,.box 56 [.d (iD 0),.d nilT]),(7,.box 31 [.d (iD 0),.d (iD 0)])]) (fun y=>y.1) (ss.length,x) ⟨Nat.le_refl _,hx,hr⟩ ?_
   rintro⟨k,y⟩ ⟨i1,i2,i3⟩
   dsimp only at i1 i2 i3 ⊢
   cases k with
   | zero =>
    rw[bkN] at i3
    subst i3
    repeat (first|refine wk ?_|refine Zaa (hr:=?_))
    exact fin2
   | succ n =>
    have hlt:n < ss.length:=by omega
    rw[Zn3 hlt] at i3
    rw[show (((n+1:Nat):Int)) - 1=(n:Int) by omega]
    have hla:=Zes (t:=t) (u:=u) (v:=v) (ss:=ss.take n) hf (fun s hs'=>hs s (List.mem_of_mem_take hs')) (by rw[List.length_take];omega)
    have hlf:=Zbf hf (ss:=ss.take n) (fun s hs'=>hs s (List.mem_of_mem_take hs'))
    have hbk:ACalls Tryz.prog 46 [.d (ZaH false (ZaA g (ss.take n))),.d (stpV v ss[n]),.d (ZaE false y)] [] (.tup [.d (ZaE false (ZaL (ZaA g (ss.take n)) ss[n] y).1),.d (ZaN (ZaL (ZaA g (ss.take n)) ss[n] y).2)]) []:=ZnO hlf (hs _ (List.getElem_mem hlt)) i2
    have hcn:=ZfD (old:=ZaA g (ss.take n)) (s:=ss[n]) (x:=y)
    by_cases hc:(ZaL (ZaA g (ss.take n)) ss[n] y).2.code=0
    ·rw[if_neg (fun q=>q hc)] at i3
     repeat (first|refine wk ?_|refine Zaa (hr:=?_))
     rw[ZaQ]
     refine Zab [] (hA:=hla) (hr:=?_)
     repeat (first|refine wk ?_|refine Zaa (hr:=?_))
     refine Zab [] (hA:=hbk) (hr:=?_)
     repeat (first|refine wk ?_|refine Zaa (hr:=?_))
     exact Zad (n,(ZaL (ZaA g (ss.take n)) ss[n] y).1) (a:=⟨by dsimp only;omega,by dsimp only;omega,i3⟩) (b:=by dsimp only;omega)
    ·rw[if_pos hc] at i3
     subst i3
     repeat (first|refine wk ?_|refine Zaa (hr:=?_))
     rw[ZaQ]
     refine Zab [] (hA:=hla) (hr:=?_)
     repeat (first|refine wk ?_|refine Zaa (hr:=?_))
     refine Zab [] (hA:=hbk) (hr:=?_)
     repeat (first|refine wk ?_|refine Zaa (hr:=?_))
     exact fin2
  ·rw[if_pos h1] at hr
   subst hr
   repeat (first|refine wk ?_|refine Zaa (hr:=?_))
   refine Zab [] (hA:=hck) (hr:=?_)
   repeat (first|refine wk ?_|refine Zaa (hr:=?_))
   refine Zab [] (hA:=hla) (hr:=?_)
   repeat (first|refine wk ?_|refine Zaa (hr:=?_))
   refine Zab [] (hA:=hlb) (hr:=?_)
   refine Zaa (hF:=Zn2) (hr:=?_)
   repeat (first|refine wk ?_|refine Zaa (hr:=?_))
   refine Zab [] (hA:=htc) (hr:=?_)
   repeat (first|refine wk ?_|refine Zaa (hr:=?_))
   exact fin2
 ·rw[if_pos h0] at hr
  subst hr
  repeat (first|refine wk ?_|refine Zaa (hr:=?_))
  refine Zab [] (hA:=hck) (hr:=?_)
  repeat (first|refine wk ?_|refine Zaa (hr:=?_))
  exact fin2
end Go.Proofs.YtbpmepgnjanhnaaGreat
namespace Go.Proofs.YtbpmepgnjanhnaaGreat
open Go.RowKit
set_option maxRecDepth 100000
set_option maxHeartbeats 4000000 in
theorem Zph {t u:Bool} {g:Gram} {w:List Int} (h0:(ZaG g w).2.code=0):ACalls Tryz.prog 18 [.d (ZaH t g),.d (ints u w)] [] (.tup [.own 900 (ZaG g w).1.length,.d (ZaN ⟨0,0⟩)]) [(900,.row 56 2 ((ZaG g w).1.map (Zat false)))]:=by
 have hc:(opF g w).code=0:=Classical.byContradiction fun q=>by
  unfold ZaG at h0;rw[if_neg q] at h0;exact q h0
 have hm:¬ 200 < cntF g w:=fun q=>by
  unfold ZaG at h0;rw[if_pos hc,if_pos q] at h0;cases h0
 have ho:=Zf8 (t:=t) (u:=u) hc
 obtain⟨hC,hz,hlt⟩:=ZlC hc
 obtain⟨s1,s2⟩:=hC.small
 have hct:=Zdq hC.ok hC.cyc s1 s2
 rw[Zem hC.ok] at hct
 have hat:=fun (L kn:Nat) (h:kn < cntF g w)=>ZmY (t:=t) (u:=u) (L:=L) hC h hlt
 clear hlt
 have hres:ZaG g w=ZcZ g w (cntF g w) 0 []:=by unfold ZaG;rw[if_pos hc,if_neg hm]
 generalize hRes:ZaG g w=RS at *
 obtain⟨rl,rf⟩:=RS
 have hm':¬ (200:Int) < (cntF g w:Int):=by omega
 have hrange:∀ k,k < cntF g w→∃ x f L',atF g w k=(x,f,L'):=fun k _=>⟨_,_,_,rfl⟩
 simp only[frH0,frH] at ho hat
 generalize hcc:cntF g w=c at *
 generalize wcns g w Zac=N at *
 generalize nulB g=NB at *
 refine ACalls.intro (n:=55) Tryz.func18 rfl rfl (by simp) (by rfl) ?_
 simp only[Zak]
 repeat (first|refine wk ?_|refine Zaa (hr:=?_))
 refine Zab [(25,925),(962,962),(960,960)] (hA:=ho) (hr:=?_)
 repeat (first|refine wk ?_|refine Zaa (hr:=?_))
 refine Zaq [(1000,962),(1001,960)] (hA:=hct) (hr:=?_)
 repeat (first|refine wk ?_|refine Zaa (hr:=?_))
 refine Zaq [(1000,962),(1001,960)] (hA:=hct) (hr:=?_)
 repeat (first|refine wk ?_|refine Zaa (hr:=?_))
 refine ZaU 8 900 56 2 rfl rfl rfl ?_
 refine Zai (X:=Nat×List Tree×Nat) (fun y=>y.1≤c∧y.2.1.length=y.1∧(rl,rf)=ZcZ g w (c - y.1) y.1 y.2.1) (fun y=>[(34,I y.1),(33,I c),(8,.own 900 y.2.1.length),(6,.ptr 925 0),(5,.ptr 5 0),(1,.d (ints u w))]) (fun y=>[(900,.row 56 2 (y.2.1.map (Zat false))),(5,.box 31 [I 0,I 0]),(925,frBx t g 962 y.2.2),(962,cxBx g w NB 960),(960,.mp (Za7 N))]) (fun y=>c - y.1) (0,[],0) ⟨Nat.zero_le _,rfl,by rw[Nat.sub_zero];exact hres⟩ ?_
 rintro⟨k,acc,L⟩ ⟨h1,h2,h3⟩
 dsimp only at h1 h2 h3 ⊢
 by_cases hlt:k < c
 ·have ha:=hat L k hlt
  obtain⟨x,⟨fc,fa⟩,L',e⟩:=hrange k hlt
  rw[show c - k=(c - (k+1))+1 by omega,ZcZ] at h3
  rw[e] at ha h3
  dsimp only at ha h3
  have ec:acc.map (Zat false)++[.agg [iD x.rule,Zal false x.kids]]=(acc++[x]).map (Zat false):=by rw[List.map_append,List.map_cons,List.map_nil,Zbi]
  by_cases hz0:fc=0
  ·rw[if_pos hz0] at h3
   clear hat
   repeat (first|refine wk ?_|refine Zaa (hr:=?_))
   refine Zab [(1000,925),(1001,962),(1002,960)] (hA:=ha) (hr:=?_)
   repeat (first|refine wk ?_|refine Zaa (hr:=?_))
   rw[ec]
   exact Zad (k+1,acc++[x],L') (a:=⟨by omega,by simp[h2],h3⟩) (b:=by dsimp only;omega)
  ·rw[if_neg hz0] at h3
   cases h3
   exact absurd h0 hz0
 ·obtain rfl:k=c:=by omega
  rw[Nat.sub_self,ZcZ] at h3
  cases h3
  clear hat
  repeat (first|refine wk ?_|refine Zaa (hr:=?_))
  exact fin
end Go.Proofs.YtbpmepgnjanhnaaGreat
namespace Go.Proofs.YtbpmepgnjanhnaaGreat
open Go.RowKit Go.Sort
set_option maxRecDepth 100000
theorem Zqv:∀ {a b:World},a.heap=b.heap→a.tape=b.tape→a.drawn=b.drawn→a.os=b.os→a.output=b.output→a=b
 | ⟨_,_,_,_,_⟩,⟨_,_,_,_,_⟩,rfl,rfl,rfl,rfl,rfl=>rfl
theorem ZsW {S:Nat→Prop} {w w':World} (h:Ext S w w') (hS:∀ k,¬ S k):∃ q os,w'=grow (w.drewN q) os:=by
 have hd:=h.drawn
 have hz:=h.size
 refine⟨w'.drawn - w.drawn,w'.heap.extract w.heap.size w'.heap.size,Zqv ?_ h.tape ?_ h.os h.output⟩
 ·show w'.heap=w.heap++_
  apply Array.ext_getElem?
  intro k
  by_cases hk:k < w.heap.size
  ·rw[Array.getElem?_append_left hk];exact h.block k hk (hS k)
  ·rw[Array.getElem?_append_right (by omega),Array.getElem?_extract]
   by_cases hk2:k < w'.heap.size
   ·rw[if_pos (by omega),show w.heap.size+(k - w.heap.size)=k by omega]
   ·rw[if_neg (by omega),Array.getElem?_eq_none (by omega)]
 ·show w'.drawn=w.drawn+(w'.drawn - w.drawn)
  omega
structure TP (M:Bars) (w:World) where
 t:Tree
 c:List Value
 rep:D.Rep M w (ZaE false t) c
 small:cnt t≤100000000
theorem ZsX (M:Bars) (w:World):D.Rep M w (ZaE false (.mk 0 [])) [.int .i64 0,.slice none 0 0]:=by
 simp only[ZaE,D.Rep,D.Reps,iD]
 refine⟨[.int .i64 0],[.slice none 0 0],rfl,⟨rfl,rfl⟩,[.slice none 0 0],[],rfl,?_,rfl⟩
 simp only[Zal,Tree.kids,List.map_nil,D.Rep,D.Reps]
 exact⟨none,0,[],rfl,Nat.le_refl _,by simp[maxLen],by simp,rfl,fun h=>absurd rfl h⟩
instance (M:Bars) (w:World):Inhabited (TP M w):=⟨⟨.mk 0 [],[.int .i64 0,.slice none 0 0],ZsX M w,by decide⟩⟩
def encP {M:Bars} {w:World} (p:TP M w):List Value:=p.c
def treP {M:Bars} {w:World} (p:TP M w):Tree:=p.t
theorem ZjP {M:Bars} {w:World} (p:TP M w):(encP p).length=2:=D.Rep.length p.rep
theorem ZsY {M:Bars} {w:World} (p:TP M w):∀ v∈encP p,v.oneCell'=true:=D.Rep.one p.rep
def cfP {M:Bars} {w:World} (x y:TP M w):Int:=ordT (treP x) (treP y)
theorem ltP {M:Bars} {w:World} (x y:TP M w):ltOf cfP x y=decide (ordT (treP x) (treP y) < 0):=rfl
theorem swoP {M:Bars} {w:World}:SWO (ltOf (cfP (M:=M) (w:=w))) where
 irrefl x:=by rw[ltP,Zfv];rfl
 trans x y z h1 h2:=by
  rw[ltP,decide_eq_true_eq] at *
  have a:=Zep _ _ _ (Int.le_of_lt h1) (Int.le_of_lt h2)
  rcases Int.lt_or_eq_of_le a with a|a
  ·exact a
  ·have e:=Zdu _ _ a
   rw[e,ZcO] at h1
   omega
 ntrans x y z h1 h2:=by
  rw[ltP,decide_eq_false_iff_not] at *
  have n1:=ZcO (treP x) (treP y)
  have n2:=ZcO (treP y) (treP z)
  have n3:=ZcO (treP x) (treP z)
  have:=Zep (treP z) (treP y) (treP x) (by omega) (by omega)
  omega
theorem Zn4 {M:Bars} {w:World}:∀ {l:List Tree} {cs:List Value},(∀ x∈l,cnt x≤100000000)→D.Reps M w (l.map (ZaE false)) cs→∃ ps:List (TP M w),ps.map treP=l∧ps.flatMap encP=cs
 | [],cs,_,h=>by simp only[List.map_nil,D.Reps] at h;exact⟨[],rfl,h.symm⟩
 | x::l,cs,hc,h=>by
  simp only[List.map_cons,D.Reps] at h
  obtain⟨c,r,rfl,h1,h2⟩:=h
  obtain⟨ps,e1,e2⟩:=Zn4 (fun y hy=>hc y (by simp[hy])) h2
  exact⟨(⟨x,c,h1,hc x (by simp)⟩:TP M w)::ps,by rw[List.map_cons,e1];rfl,by rw[List.flatMap_cons,e2];rfl⟩
theorem Zn5 {M:Bars} {w:World}:∀ ps:List (TP M w),D.Reps M w ((ps.map treP).map (ZaE false)) (ps.flatMap encP)
 | []=>by simp[D.Reps]
 | p::ps=>by
  simp only[List.map_cons,List.flatMap_cons,D.Reps]
  exact⟨_,_,rfl,p.rep,Zn5 ps⟩
theorem ZkY {α:Type} [Inhabited α] (enc:α→List Value) (k:Nat) (hk0:0 < k) (hk:∀ x,(enc x).length=k):∀ (ds:List α),(List.range (ds.length * k)).map (fun t=>(enc ds[t / k]!)[t % k]!)=ds.flatMap enc
 | []=>by simp
 | x::ds=>by
  rw[List.length_cons,Nat.add_mul,Nat.one_mul,Nat.add_comm,List.range_add,List.map_append,List.flatMap_cons,←ZkY enc k hk0 hk ds]
  congr 1
  ·refine List.ext_getElem (by simp[hk]) fun i h1 h2=>?_
   have hi:i < k:=by simpa using h1
   rw[List.getElem_map,List.getElem_range,Nat.div_eq_of_lt hi,Nat.mod_eq_of_lt hi]
   show (enc x)[i]! = _
   rw[getElem!_pos _ i (by rw[hk];exact hi)]
  ·rw[List.map_map]
   refine List.map_congr_left fun t _=>?_
   show (enc (x::ds)[(k+t) / k]!)[(k+t) % k]! = _
   rw[Nat.add_div_left t hk0,Nat.add_mod_left]
   congr 2
theorem ZiR {α:Type} [Inhabited α] (enc:α→List Value) (k:Nat) (hk0:0 < k) (hk:∀ x,(enc x).length=k) (d:Array α):(flatK enc k d).toList=d.toList.flatMap enc:=by
 rw[←ZkY enc k hk0 hk d.toList]
 unfold flatK
 rw[Array.toList_map,Array.toList_range,Array.length_toList]
 refine List.map_congr_left fun t _=>?_
 have e:d.toList[t / k]! = d[t / k]! := Array.getElem!_toList (xs:=d)
 rw[e]
theorem ZsZ {α:Type} [Inhabited α] {d d':Array α} (h:PermIn 0 d.size d d'):d'.toList.Perm d.toList:=by
 obtain⟨h1,_,h3⟩:=h
 rw[Array.extract_size] at h3
 have:d'.extract 0 d.size=d':=by rw[←h1,Array.extract_size]
 rw[this] at h3
 exact h3
theorem Zpi {M:Bars} {w:World} {d:Array (TP M w)} {n:Nat} (hn:n=d.size) (h:SortedIn (ltOf cfP) 0 n d):(d.toList.map treP).Pairwise LeT:=by
 rw[List.pairwise_map,List.pairwise_iff_getElem]
 intro i j hi hj hij
 have hi':i < d.size:=by simpa using hi
 have hj':j < d.size:=by simpa using hj
 have h1:=h i j (Nat.zero_le _) hij (by omega)
 rw[getElem!_pos d i hi',getElem!_pos d j hj',ltP,decide_eq_false_iff_not] at h1
 have n1:=ZcO (treP d[i]) (treP d[j])
 show ordT (treP d.toList[i]) (treP d.toList[j])≤0
 simp only[Array.getElem_toList]
 omega
end Go.Proofs.YtbpmepgnjanhnaaGreat
namespace Go.Proofs
open Go.Shelf
set_option maxRecDepth 100000
def Tryz.sortRen:Go.Shelf.Ren:=⟨fun|6=>48|14=>82|15=>83|20=>156|21=>157|22=>158|23=>159|24=>160|25=>161|26=>162|27=>163|28=>164|29=>165|46=>209|47=>210|48=>211|49=>212|50=>213|57=>224|n=>n,fun|0=>0|3=>3|4=>4|5=>5|9=>9|22=>37|24=>56|25=>84|39=>53|45=>213|46=>214|50=>124|53=>220|55=>117|66=>248|70=>252|76=>259|77=>260|n=>n,fun|n=>n⟩
theorem Tryz.sortLay:SlLaysF0.n6 Tryz.prog Tryz.sortRen:={
 mixed:=by kernel_rfl
 f6:=⟨Tryz.f48.name,by kernel_rfl,Tryz.func48.trans (congrArg some (by kernel_rfl))⟩
 f14:=⟨Tryz.f82.name,by kernel_rfl,Tryz.func82.trans (congrArg some (by kernel_rfl))⟩
 f15:=Tryz.func83.trans (congrArg some (by kernel_rfl))
 f20:=⟨Tryz.f156.name,by kernel_rfl,Tryz.func156.trans (congrArg some (by kernel_rfl))⟩
 f21:=⟨Tryz.f157.name,by kernel_rfl,Tryz.func157.trans (congrArg some (by kernel_rfl))⟩
 f22:=⟨Tryz.f158.name,by kernel_rfl,Tryz.func158.trans (congrArg some (by kernel_rfl))⟩
 f23:=⟨Tryz.f159.name,by kernel_rfl,Tryz.func159.trans (congrArg some (by kernel_rfl))⟩
 f24:=⟨Tryz.f160.name,by kernel_rfl,Tryz.func160.trans (congrArg some (by kernel_rfl))⟩
 f25:=⟨Tryz.f161.name,by kernel_rfl,Tryz.func161.trans (congrArg some (by kernel_rfl))⟩
 f26:=⟨Tryz.f162.name,by kernel_rfl,Tryz.func162.trans (congrArg some (by kernel_rfl))⟩
 f27:=⟨Tryz.f163.name,by kernel_rfl,Tryz.func163.trans (congrArg some (by kernel_rfl))⟩
 f28:=Tryz.func164.trans (congrArg some (by kernel_rfl))
 f29:=Tryz.func165.trans (congrArg some (by kernel_rfl))
 f46:=⟨Tryz.f209.name,by kernel_rfl,Tryz.func209.trans (congrArg some (by kernel_rfl))⟩
 f47:=Tryz.func210.trans (congrArg some (by kernel_rfl))
 f48:=Tryz.func211.trans (congrArg some (by kernel_rfl))
 f49:=⟨Tryz.f212.name,by kernel_rfl,Tryz.func212.trans (congrArg some (by kernel_rfl))⟩
 f50:=⟨Tryz.f213.name,by kernel_rfl,Tryz.func213.trans (congrArg some (by kernel_rfl))⟩
 f57:=⟨Tryz.f224.name,by kernel_rfl,Tryz.func224.trans (congrArg some (by kernel_rfl))⟩
 t0:=Tryz.underlying0
 a0:=Tryz.isAgg0
 z0:=Tryz.sizeOf0
 v0:=Tryz.zeroValue0
 t3:=Tryz.underlying3
 a3:=Tryz.isAgg3
 z3:=Tryz.sizeOf3
 v3:=Tryz.zeroValue3
 t4:=Tryz.underlying4
 a4:=Tryz.isAgg4
 z4:=Tryz.sizeOf4
 v4:=Tryz.zeroValue4
 t5:=Tryz.underlying5
 a5:=Tryz.isAgg5
 z5:=Tryz.sizeOf5
 v5:=Tryz.zeroValue5
 t9:=Tryz.underlying9
 a9:=Tryz.isAgg9
 z9:=Tryz.sizeOf9
 v9:=Tryz.zeroValue9
 t22:=Tryz.underlying37
 a22:=Tryz.isAgg37
 z22:=Tryz.sizeOf37
 v22:=Tryz.zeroValue37
 t25:=Tryz.underlying84
 a25:=Tryz.isAgg84
 z25:=Tryz.sizeOf84
 v25:=Tryz.zeroValue84
 t39:=Tryz.underlying53
 a39:=Tryz.isAgg53
 z39:=Tryz.sizeOf53
 v39:=Tryz.zeroValue53
 t45:=Tryz.underlying213
 a45:=Tryz.isAgg213
 z45:=Tryz.sizeOf213
 v45:=Tryz.zeroValue213
 t46:=Tryz.underlying214
 a46:=Tryz.isAgg214
 z46:=Tryz.sizeOf214
 v46:=Tryz.zeroValue214
 t50:=Tryz.underlying124
 a50:=Tryz.isAgg124
 z50:=Tryz.sizeOf124
 v50:=Tryz.zeroValue124
 t53:=Tryz.underlying220
 a53:=Tryz.isAgg220
 z53:=Tryz.sizeOf220
 v53:=Tryz.zeroValue220
 t55:=Tryz.underlying117
 a55:=Tryz.isAgg117
 z55:=Tryz.sizeOf117
 v55:=Tryz.zeroValue117
 t66:=Tryz.underlying248
 a66:=Tryz.isAgg248
 z66:=Tryz.sizeOf248
 v66:=Tryz.zeroValue248
 t70:=Tryz.underlying252
 a70:=Tryz.isAgg252
 z70:=Tryz.sizeOf252
 v70:=Tryz.zeroValue252
 t76:=Tryz.underlying259
 a76:=Tryz.isAgg259
 z76:=Tryz.sizeOf259
 v76:=Tryz.zeroValue259
 t77:=Tryz.underlying260
 a77:=Tryz.isAgg260
 z77:=Tryz.sizeOf260
 v77:=Tryz.zeroValue260 }
end Go.Proofs
namespace Go.Proofs.YtbpmepgnjanhnaaGreat
open Go.RowKit Go.Sort
set_option maxRecDepth 100000
theorem ZmA {W:World} {g off:Nat} {F cur:Array Value} {e:TypeId} {fr:Nat×Nat} (h:Go.Sort.Holds (id:Value→Value) W g off F) (hg:W.heap[g]? = some (.cells cur e fr)) (hs:off+F.size≤cur.size):(cur.toList.drop off).take F.size=F.toList:=by
 refine List.ext_getElem (by simp;omega) fun j h1 h2=>?_
 have hj:j < F.size:=by simpa using h2
 have:=(h j hj).1
 simp only[World.cell?,hg] at this
 rw[getElem!_pos F j hj] at this
 have h3:cur[off+j]? = some F[j]:=by simpa using this
 have h4:off+j < cur.size:=by omega
 rw[Array.getElem?_eq_getElem h4] at h3
 simp only[List.getElem_take,List.getElem_drop,Array.getElem_toList]
 exact Option.some.inj h3
theorem ZmB {W:World} {g off:Nat} {F cur:Array Value} {e:TypeId} (hg:W.heap[g]? = some (.cells cur e (0,0))) (hs:(cur.toList.drop off).take F.size=F.toList) (hz:off+F.size≤cur.size):Go.Sort.Holds (id:Value→Value) W g off F:=fun j hj=>by
 constructor
 ·simp only[World.cell?,hg]
  have h4:off+j < cur.size:=by omega
  have h1:((cur.toList.drop off).take F.size)[j]? = F.toList[j]? := by rw[hs]
  rw[List.getElem?_take,if_pos hj,List.getElem?_drop] at h1
  simp only[Array.getElem?_toList] at h1
  rw[getElem!_pos F j hj]
  simp only[Option.isSome_none,Bool.false_eq_true,if_false,id]
  rw[h1,Array.getElem?_eq_getElem hj]
 ·simp only[World.frozen?,hg];simp
abbrev ZcK (l:List Tree):Hp:=[(1000,.row 56 2 (l.map (ZaE false)))]
theorem sort_blk {E:Env} {l l':List Tree} {k b:Nat}:blkOf E (ZcK l) k b↔blkOf E (ZcK l') k b:=by
 unfold blkOf
 simp only[hget]
 cases Nat.beq 1000 k <;> exact Iff.rfl
theorem Zqw {E:Env} {l l':List Tree}:Live E (ZcK l)=Live E (ZcK l'):=by
 funext b
 exact propext ⟨fun ⟨k,h⟩=>⟨k,sort_blk.1 h⟩,fun ⟨k,h⟩=>⟨k,sort_blk.1 h⟩⟩
theorem Zqx {E:Env} {l l':List Tree} {o:Bars}:bars E (ZcK l) o=bars E (ZcK l') o:=by
 unfold bars
 rw[Zqw (l:=l) (l':=l')]
def Zuu:Env:=⟨fun _=>0,fun _=>.slice none 0 0,fun _=>[]⟩
set_option maxHeartbeats 1000000 in
theorem Zs0 {M:Bars} {w:World} {g off n:Nat} (hM:∀ t b,M t b→b < w.heap.size) (hMs:∀ b,M true b→M false b) (hg:∀ t,M t g) (hgs:g < w.heap.size):CmpLays Tryz.prog 49 #[] (encP (M:=M) (w:=w)) 2 cfP g off n w:=fun m os dk hs x y=>by
 have hA:=(Zq5 (t:=false) (u:=false) x.t x.small y.t y.small).run
 have hcar:Carry M M w (sortWorldK encP 2 w g off m dk os):=by
  refine⟨fun t k hk hn=>⟨?_,hn⟩,size_sortWorldK_c encP 2 w g off m dk os⟩
  have hne:g≠k:=fun e=>hn (e ▸ hg t)
  show (((Sort.ahead w m).heap.modify g _)++os)[k]? = _
  rw[Array.getElem?_append_left (by simp[Sort.ahead];exact hk)]
  simp only[Array.getElem?_modify]
  rw[if_neg hne];rfl
 have hbar:bars Zuu [] M=M:=by
  funext t b
  refine propext ⟨fun h=>?_,.inr⟩
  rcases h with ⟨k,hk⟩|h
  ·exact absurd hk (by simp[blkOf,hget])
  ·exact h
 have hlv:∀ b,¬ Live Zuu [] b:=fun b ⟨k,hk⟩=>by simp[blkOf,hget] at hk
 have hx:=D.Rep.carry hcar x.rep
 have hy:=D.Rep.carry hcar y.rep
 have hsz:=size_sortWorldK_c encP 2 w g off m dk os
 generalize sortWorldK encP 2 w g off m dk os=W at *
 have hr:=hA Zuu W [.agg x.c.toArray,.agg y.c.toArray] M ⟨fun k ob hk=>by simp[hget] at hk,fun k k' b hk=>by simp[blkOf,hget] at hk,fun k ob hk=>by simp[hget] at hk⟩ (by
  rw[hbar]
  simp only[V.Reps,V.Rep]
  exact⟨_,_,rfl,⟨x.c,rfl,hx⟩,_,_,rfl,⟨y.c,rfl,hy⟩,rfl⟩) (fun k hk=>by simp[V.keyss,V.keys] at hk) (fun t b h=>⟨Nat.lt_of_lt_of_le (hM t b h) hsz,hlv b⟩) hMs
 refine Calls.mono hr ?_
 rintro e w' ⟨E',u,rfl,_,hu,_,hext,_⟩
 simp only[V.Rep,D.RepV,D.Rep,List.cons.injEq,and_true] at hu
 obtain⟨q,os',rfl⟩:=ZsW hext hlv
 exact⟨by rw[hu.1];rfl,q,os',rfl⟩
set_option maxHeartbeats 2000000 in
theorem ZkZ {l:List Tree} (hl:l.length≤100000000) (hc:∀ x∈l,cnt x≤100000000) :
  ACalls Tryz.prog 48 [.own 1000 l.length,.fn (.func 49) [] []] (ZcK l) (.tup []) (ZcK (ZcP l)):=by
 refine⟨⟨_,Tryz.func48,rfl,rfl⟩,fun E w us o H hr hk ho hs=>?_⟩
 simp only[V.Reps,V.Rep,List.cons.injEq,and_true] at hr
 obtain⟨u,_,rfl,⟨m,v1,v2,v3,v4⟩,_,_,rfl,⟨a,c,rfl,rfl,rfl⟩,rfl⟩:=hr
 have hk1:hget (ZcK l) 1000=some (.row 56 2 (l.map (ZaE false))):=rfl
 have e1:m=l.length:=Zax v1 (.inl ⟨_,_,_,hk1,by simp⟩)
 have hu:=v4 e1.symm
 subst hu
 have hrow:=H.obs 1000 _ hk1
 simp only[ObRep] at hrow
 have hlen:(ZcP l).length=l.length:=(Zdw l).length_eq
 have hhist:Hist E (ZcK l) E (ZcK (ZcP l)):=fun k hk1000 hks=>by
  simp only[hget] at hks
  split at hks
  ·rename_i hb
   have:=Nat.eq_of_beq_eq_true hb
   subst this
   refine⟨rfl,rfl,fun m hm=>⟨m,.inl ⟨_,_,_,rfl,?_⟩,Nat.le_refl _,fun _=>rfl⟩,fun sz n hv=>?_⟩
   ·have:m=l.length:=Zax hm (.inl ⟨_,_,_,hk1,by simp⟩)
    rw[this,List.length_map,hlen]
   ·rcases hv with ⟨_,_,h1,h2⟩|⟨_,_,_,_,h1,_⟩
    ·cases h1
     exact⟨_,.inl ⟨_,_,hk1,rfl⟩⟩
    ·cases h1
  ·cases hks
 have hblk:∀ k b,blkOf E (ZcK (ZcP l)) k b→Live E (ZcK l) b:=fun k b hb=>⟨k,sort_blk.1 hb⟩
 have hclosed:∀ k ob,hget (ZcK (ZcP l)) k=some ob→∀ j∈ob.keys,(hget (ZcK (ZcP l)) j).isSome=true:=fun k ob hk j hj=>by
  simp only[hget] at hk
  split at hk
  ·cases hk;simp[Ob.keys] at hj
  ·cases hk
 have hapart:∀ k k' b,blkOf E (ZcK (ZcP l)) k b→blkOf E (ZcK (ZcP l)) k' b→k=k':=fun k k' b h1 h2=>H.apart k k' b (sort_blk.1 h1) (sort_blk.1 h2)
 have hend:∀ w',RowAt (bars E (ZcK l) o) w' 56 2 (E.row 1000) ((ZcP l).map (ZaE false))→HRep E (ZcK (ZcP l)) o w':=fun w' hR=>by
  refine⟨fun k ob hk=>?_,hapart,hclosed⟩
  rw[Zqx (l:=ZcP l) (l':=l)]
  simp only[hget] at hk
  split at hk
  ·rename_i hb
   have:=Nat.eq_of_beq_eq_true hb
   subst this
   cases hk
   exact hR
  ·cases hk
 have hsz2:∀ y∈(ZcP l).map (ZaE false),y.size=2:=fun y hy=>by
  obtain⟨t,_,rfl⟩:=List.mem_map.1 hy;rfl
 obtain⟨_,⟨a,hv,hn⟩|⟨g,off,cap,cur,hv,h0,hg,hlc,hcm,hcs,hreps⟩⟩:=hrow
 ·have hl0:l=[]:=by simpa using hn
  subst hl0
  rw[hv]
  refine Calls.mono (AnyF.slices_SortFunc_none (ρ:=Tryz.sortRen) { Tryz.sortLay with } a 0 (.func (.func 49) #[] #[]) w) ?_
  rintro e w' ⟨rfl,rfl⟩
  refine⟨E,_,rfl,hend _ ?_,by simp only[V.Rep,V.Reps];exact⟨[],rfl,rfl⟩,by simp[V.keys,V.keyss],Ext.refl _ _,hhist,fun k b hb=>.inl (hblk k b hb)⟩
  exact⟨hsz2,.inl ⟨a,hv,rfl⟩⟩
 ·rw[List.length_map] at hv hlc hreps
  have hlive:Live E (ZcK l) g:=⟨1000,by unfold blkOf;rw[hk1,hv];simp[obOf];omega⟩
  have hgs:g < w.heap.size:=(Array.getElem?_eq_some_iff.1 hg).1
  have hM:∀ t b,bars E (ZcK l) o t b→b < w.heap.size:=fun t b h=>by
   rcases h with ⟨k,h⟩|h
   ·exact H.lt h
   ·exact (ho t b h).1
  have hMs:∀ b,bars E (ZcK l) o true b→bars E (ZcK l) o false b:=fun b h=>by
   rcases h with h|h
   ·exact .inl h
   ·exact .inr (hs b h)
  generalize hMM:bars E (ZcK l) o=M at *
  have hMg:∀ t,M t g:=fun t=>by rw[←hMM];exact .inl hlive
  obtain⟨ps,p1,p2⟩:=Zn4 (M:=M) (w:=w) hc hreps
  have hpl:ps.length=l.length:=by rw[←p1,List.length_map]
  have hF:(flatK encP 2 ps.toArray).toList=ps.flatMap encP:=ZiR encP 2 (by decide) ZjP ps.toArray
  have hFs:(flatK encP 2 ps.toArray).size=l.length * 2:=by rw[size_flatK];simp[hpl]
  have hcs2:off+l.length * 2≤cur.size:=by have:=Nat.mul_le_mul_right 2 hlc;omega
  have hH:HoldsK encP 2 w g off ps.toArray:=ZmB hg (by rw[hFs,hF,p2]) (by rw[hFs];exact hcs2)
  have hcall:=AnyQ.slices_SortFunc (ρ:=Tryz.sortRen) Tryz.sortLay 2 Tryz.isAgg56 Tryz.sizeOf56 (encP (M:=M) (w:=w)) ZjP ZsY cfP swoP 49 #[] g off cap ps.toArray w
   (fun args w=>enters_of Tryz.func49 (by kernel_rfl) rfl args w) (Zs0 hM hMs hMg hgs) hH hgs (by simp[hpl];omega)
  rw[hv]
  have hsz:ps.toArray.size=l.length:=by simp[hpl]
  rw[hsz] at hcall
  refine Calls.mono hcall ?_
  rintro e w' ⟨rfl,d',n,os,hp,hso,rfl⟩
  have hd':d'.size=ps.toArray.size:=hp.1
  have hH':=holdsK_sortWorldK_c encP 2 w g off ps.toArray d' n os hH hgs hd'
  have hg':(sortWorldK encP 2 w g off n d' os).heap[g]? = some (.cells (putCells id off (flatK encP 2 d') cur) 56 (0,0)):=by
   show (((Sort.ahead w n).heap.modify g _)++os)[g]? = _
   rw[Array.getElem?_append_left (by simp[Sort.ahead];exact hgs)]
   simp only[Array.getElem?_modify,if_true]
   show (w.heap[g]?).map _=_
   rw[hg];rfl
  have hpe:d'.toList.Perm ps:=ZsZ (d:=ps.toArray) (by rw[hsz];exact hp)
  have hsort:d'.toList.map treP=ZcP l:=by
   refine ZfB ?_ (Zpi (by rw[hd',hsz]) hso) (Zlz l)
   refine ((hpe.map treP).trans ?_).trans (Zdw l).symm
   rw[p1]
  have hcar:Carry M M w (sortWorldK encP 2 w g off n d' os):=by
   refine⟨fun t k hk hn=>⟨?_,hn⟩,size_sortWorldK_c encP 2 w g off n d' os⟩
   have hne:g≠k:=fun e=>hn (e ▸ hMg t)
   show (((Sort.ahead w n).heap.modify g _)++os)[k]? = _
   rw[Array.getElem?_append_left (by simp[Sort.ahead];exact hk)]
   simp only[Array.getElem?_modify]
   rw[if_neg hne];rfl
  have hFs':(flatK encP 2 d').size=l.length * 2:=by rw[size_flatK,hd',hsz]
  have hps:(putCells id off (flatK encP 2 d') cur).size=cur.size:=by simp[putCells]
  refine⟨E,_,rfl,hend _ ?_,by simp only[V.Rep,V.Reps];exact⟨[],rfl,rfl⟩,by simp[V.keys,V.keyss],⟨rfl,rfl,rfl,size_sortWorldK_c encP 2 w g off n d' os,fun k hk hn=>?_,Nat.le_add_right _ _⟩,hhist,fun k b hb=>.inl (hblk k b hb)⟩
  ·refine⟨hsz2,.inr ⟨g,off,cap,_,by rw[List.length_map,hlen];exact hv,h0,hg',by rw[List.length_map,hlen];exact hlc,hcm,by rw[hps];exact hcs,?_⟩⟩
   rw[List.length_map,hlen,←hFs',ZmA hH' hg' (by rw[hps,hFs'];exact hcs2),ZiR encP 2 (by decide) ZjP d',←hsort]
   exact D.Reps.carry hcar (Zn5 d'.toList)
  ·have hne:g≠k:=fun e=>hn (e ▸ hlive)
   show (((Sort.ahead w n).heap.modify g _)++os)[k]? = _
   rw[Array.getElem?_append_left (by simp[Sort.ahead];exact hk)]
   simp only[Array.getElem?_modify]
   rw[if_neg hne];rfl
end Go.Proofs.YtbpmepgnjanhnaaGreat
namespace Go.Proofs.YtbpmepgnjanhnaaGreat
open Go.RowKit
set_option maxRecDepth 100000
theorem ZjQ {g:Gram} {ss:List Step} {w:List Int} {i:Nat} (h:i < ss.length) (l:List Tree):trN g ss w (i+1) l=match ledA (ZaA g (ss.take i)) ss[i] l [] with
  | .error c=>([],⟨c,(i:Int)⟩)
  | .ok out=>trN g ss w i (out++if w.length=0 then ss[i].empty else []):=by rw[trN,ZlA h];rfl
theorem Zk0 {old:Gram} {s:Step} {l out:List Tree} {j:Nat} (h:j < l.length):ledA old s (l.drop j) out=if ¬ (ZaL old s l[j]).2.code=0 then .error (ZaL old s l[j]).2.code else ledA old s (l.drop (j+1)) (out++[(ZaL old s l[j]).1]):=by
 conv=>lhs;rw[List.drop_eq_getElem_cons h,ledA]
set_option maxHeartbeats 8000000 in
theorem Zho {g:Gram} {ss:List Step} {w:List Int} (hf:g.fit) (hs:∀ s∈ss,s.fit) (hl:ss.length≤100000000) (hw:w.length≤100000000) :
  ACalls Tryz.prog 19 [.d (ZaH false g),.d (ZaZ false false ss),.d (ints false w)] [] (.tup [.d (Zal false (ZcY g ss w).1),.d (ZaN (ZcY g ss w).2)]) []:=by
 refine ACalls.intro (n:=101) Tryz.func19 rfl rfl (by simp) (by rfl) ?_
 simp only[Zak]
 have hck:=ZeU (t:=false) (u:=false) (v:=false) hf hs hl
 have hla:=Zes (t:=false) (u:=false) (v:=false) hf hs hl
 have hlf:=Zbf hf hs
 have hfl:=Zrn (t:=false) (u:=false) (g:=ZaA g ss) (w:=w) hlf hw
 have hfo:=Zph (t:=false) (u:=false) (g:=ZaA g ss) (w:=w)
 have hfb:(ZaG (ZaA g ss) w).2.code=0→(ZaG (ZaA g ss) w).1.length≤200∧∀ x∈(ZaG (ZaA g ss) w).1,cnt x≤400:=fun h=>by
  have hok:=Zkb h
  exact⟨by rw[hok.len];exact hok.few,fun x hx=>(hok.mem hx).2⟩
 have hr:∃ r,ZcY g ss w=r:=⟨_,rfl⟩
 obtain⟨r,hr⟩:=hr
 rw[hr]
 unfold ZcY at hr
 have hcf:=fun h=>(ZmX (g:=g) (ss:=ss) h).2
 generalize ZaG (ZaA g ss) w=FL at *
 generalize ZaA g ss=L at *
 generalize chnF g ss=CF at *
 by_cases h0:CF.code=0
 ·rw[if_neg (fun q=>q h0)] at hr
  obtain⟨h8,hst⟩:=hcf h0
  by_cases h1:FL.2.code=0
  ·rw[if_neg (fun q=>q h1)] at hr
   have hfo:=hfo h1
   obtain⟨hl200,hc400⟩:=hfb h1
   repeat (first|refine wk ?_|refine Zaa (hr:=?_))
   refine Zab [] (hA:=hck) (hr:=?_)
   repeat (first|refine wk ?_|refine Zaa (hr:=?_))
   refine Zab [] (hA:=hla) (hr:=?_)
   repeat (first|refine wk ?_|refine Zaa (hr:=?_))
   refine Zab [(900,909)] (hA:=hfo) (hr:=?_)
   repeat (first|refine wk ?_|refine Zaa (hr:=?_))
   clear hfl hfo hfb hla hcf hlf hck
   obtain⟨l0,fc,fa⟩:=FL
   dsimp only at h1 hr hl200 hc400 ⊢
   refine Zai (X:=Nat×List Tree) (fun y=>y.1≤ss.length∧y.2.length+200 * y.1≤1800∧(∀ x∈y.2,cnt x≤400)∧trN g ss w y.1 y.2=r) (fun y=>[(11,I ((y.1:Int) - 1)),(9,.own 909 y.2.length),(7,.ptr 7 0),(3,.ptr 3 0),(0+1,.d (ZaZ false false ss)),(0+1+1,.d (ints false w))]) (fun y=>[(909,.row 56 2 (y.2.map (Zat false))),(7,.box 31 [.d (iD 0),.d (iD 0)]),(3,Zar false g)]) (fun y=>y.1) (ss.length,l0) ⟨Nat.le_refl _,by dsimp only;omega,hc400,hr⟩ ?_
   clear hr hl200 hc400
   rintro⟨k,l⟩ ⟨i1,i2,i3,i4⟩
   dsimp only at i1 i2 i3 i4 ⊢
   cases k with
   | zero =>
    rw[trN] at i4
    subst i4
    have hso:=ZkZ (l:=l) (by omega) (fun x hx=>Nat.le_trans (i3 x hx) (by decide))
    unfold ZcK at hso
    rw[show (ZaE false)=Zat false from funext fun x=>(Za4 false x).symm] at hso
    have hsl:(ZcP l).length=l.length:=(Zdw l).length_eq
    repeat (first|refine wk ?_|refine Zaa (hr:=?_))
    refine Zab [(1000,909)] (hA:=hso) (hr:=?_)
    repeat (first|refine ZaF 909 rfl ?_|refine wk1 ?_|refine Zaa (hr:=?_))
    rw[←hsl]
    exact fin
   | succ n =>
    have hlt:n < ss.length:=by omega
    rw[ZjQ hlt] at i4
    rw[show (((n+1:Nat):Int)) - 1=(n:Int) by omega]
    have hla:=Zes (t:=false) (u:=false) (v:=false) (ss:=ss.take n) hf (fun s hs'=>hs s (List.mem_of_mem_take hs')) (by rw[List.length_take];omega)
    have hlf:=Zbf hf (ss:=ss.take n) (fun s hs'=>hs s (List.mem_of_mem_take hs'))
    have hse:=Zf7 (hst n hlt)
    generalize hL:ZaA g (ss.take n)=old at *
    have hbk:∀ y:Tree,cnt y≤400→ACalls Tryz.prog 46 [.d (ZaH false old),.d (stpV false ss[n]),.d (ZaE false y)] [] (.tup [.d (ZaE false (ZaL old ss[n] y).1),.d (ZaN (ZaL old ss[n] y).2)]) []:=fun y hy=>ZnO hlf (hs _ (List.getElem_mem hlt)) (by omega)
    have hR:∃ R,ledA old ss[n] l []=R:=⟨_,rfl⟩
    obtain⟨R,hR⟩:=hR
    have hRk:=fun z (h:R=.ok z)=>Zkc (hR.trans h) (fun x hx=>(by cases hx))
    rw[hR] at i4
    repeat (first|refine wk ?_|refine Zaa (hr:=?_))
    refine ZaU 12 912 56 2 rfl rfl rfl ?_
    repeat (first|refine wk ?_|refine Zaa (hr:=?_))
    refine Zai (X:=Nat×List Tree) (fun y=>y.1≤l.length∧y.2.length=y.1∧ledA old ss[n] (l.drop y.1) y.2=R) (fun y=>[(47,I y.1),(46,I l.length),(45,.own 909 l.length),(12,.own 912 y.2.length),(11,I n),(9,.own 909 l.length),(7,.ptr 7 0),(3,.ptr 3 0),(0+1,.d (ZaZ false false ss)),(0+1+1,.d (ints false w))]) (fun y=>[(912,.row 56 2 (y.2.map (Zat false))),(909,.row 56 2 (l.map (Zat false))),(7,.box 31 [.d (iD 0),.d (iD 0)]),(3,Zar false g)]) (fun y=>l.length - y.1) (0,[]) ⟨Nat.zero_le _,rfl,hR⟩ ?_
    rintro⟨j,out⟩ ⟨j1,j2,j3⟩
    dsimp only at j1 j2 j3 ⊢
    by_cases hjl:j < l.length
    ·have hb:=hbk l[j] (i3 _ (List.getElem_mem hjl))
     rw[Zk0 hjl] at j3
     by_cases hc:(ZaL old ss[n] l[j]).2.code=0
     ·rw[if_neg (fun q=>q hc)] at j3
      have ec:out.map (Zat false)++[.agg [iD (ZaL old ss[n] l[j]).1.rule,Zal false (ZaL old ss[n] l[j]).1.kids]]=(out++[(ZaL old ss[n] l[j]).1]).map (Zat false):=by rw[List.map_append,List.map_cons,List.map_nil,Zbi]
      repeat (first|refine wk ?_|refine Zaa (hr:=?_))
      rw[ZaQ]
      refine Zab [] (hA:=hla) (hr:=?_)
      repeat (first|refine wk ?_|refine Zaa (hr:=?_))
      refine Zab [] (hA:=hb) (hr:=?_)
      repeat (first|refine wk ?_|refine Zaa (hr:=?_))
      rw[ec]
      exact Zad (j+1,out++[(ZaL old ss[n] l[j]).1]) (a:=⟨by dsimp only;omega,by simp[j2],j3⟩) (b:=by dsimp only;omega)
     ·rw[if_pos hc] at j3
      subst j3
      dsimp only at i4
      subst i4
      repeat (first|refine wk ?_|refine Zaa (hr:=?_))
      rw[ZaQ]
      refine Zab [] (hA:=hla) (hr:=?_)
      repeat (first|refine wk ?_|refine Zaa (hr:=?_))
      refine Zab [] (hA:=hb) (hr:=?_)
      repeat (first|refine wk ?_|refine Zaa (hr:=?_))
      exact fin
    ·have hj:j=l.length:=by omega
     subst hj
     rw[List.drop_length,ledA] at j3
     subst j3
     dsimp only at i4
     obtain⟨z1,z2⟩:=hRk _ rfl
     have hse2:=hse.1
     repeat (first|refine wk ?_|refine Zaa (hr:=?_))
     have hend:∀ (z:List Tree),z=out++(if w.length=0 then ss[n].empty else [])→z.length+200 * n≤1800∧(∀ x∈z,cnt x≤400)∧trN g ss w n z=r:=fun z hz=>by
      subst hz
      refine⟨?_,fun x hx=>?_,i4⟩
      ·rw[List.length_append]
       split <;> (try simp only[List.length_nil]) <;> omega
      ·rcases List.mem_append.1 hx with hx|hx
       ·exact z2 x hx
       ·split at hx
        ·exact hse.2 x hx
        ·cases hx
     by_cases hw0:w.length=0
     ·rw[if_pos hw0] at hend
      refine Zai (X:=Nat) (fun e=>e≤ss[n].empty.length) (fun e=>[(83,I e),(82,I ss[n].empty.length),(81,.d (Zal false ss[n].empty)),(12,.own 912 (out++ss[n].empty.take e).length),(11,I n),(9,.own 909 l.length),(7,.ptr 7 0),(3,.ptr 3 0),(0+1,.d (ZaZ false false ss)),(0+1+1,.d (ints false w))]) (fun e=>[(912,.row 56 2 ((out++ss[n].empty.take e).map (Zat false))),(909,.row 56 2 (l.map (Zat false))),(7,.box 31 [.d (iD 0),.d (iD 0)]),(3,Zar false g)]) (fun e=>ss[n].empty.length - e) 0 (Nat.zero_le _) ?_
      intro e he
      by_cases hel:e < ss[n].empty.length
      ·have hto:=ZeR (t:=false) ss[n].empty[e] (Nat.le_trans (hse.2 _ (List.getElem_mem hel)) (by decide))
       have ec:(out++ss[n].empty.take e).map (Zat false)++[ZaE false ss[n].empty[e]]=(out++ss[n].empty.take (e+1)).map (Zat false):=by
        rw[List.take_succ_eq_append_getElem hel,←List.append_assoc,List.map_append (l₂:=[ss[n].empty[e]]),List.map_cons,List.map_nil,Zbi]
       repeat (first|refine wk ?_|refine Zaa (hr:=?_))
       refine Zab [] (hA:=hto) (hr:=?_)
       repeat (first|refine wk ?_|refine Zaa (hr:=?_))
       rw[ec,List.length_map]
       exact Zad (e+1)
      ·have he:e=ss[n].empty.length:=by omega
       subst he
       rw[List.take_length]
       obtain⟨b1,b2,b3⟩:=hend _ rfl
       generalize out++ss[n].empty=z at *
       repeat (first|refine ZnF 9 912 909 rfl rfl (by simp) [(11,I n),(7,.ptr 7 0),(3,.ptr 3 0),(0+1,.d (ZaZ false false ss)),(0+1+1,.d (ints false w))] [(7,.box 31 [.d (iD 0),.d (iD 0)]),(3,Zar false g)] rfl rfl rfl (by repeat' (first|exact trivial|exact VLe.refl _|refine And.intro ?_ ?_)) (by repeat' (first|exact trivial|exact HElt.of rfl|refine And.intro ?_ ?_)) ?_|refine wk1 ?_)
       exact Zad (n,z) (a:=⟨by dsimp only;omega,b1,b2,b3⟩) (b:=by dsimp only;omega)
     ·rw[if_neg hw0,List.append_nil] at hend
      obtain⟨b1,b2,b3⟩:=hend _ rfl
      refine Zai (X:=Nat) (fun e=>e≤ss[n].empty.length) (fun e=>[(83,I e),(82,I ss[n].empty.length),(81,.d (Zal false ss[n].empty)),(12,.own 912 out.length),(11,I n),(9,.own 909 l.length),(7,.ptr 7 0),(3,.ptr 3 0),(0+1,.d (ZaZ false false ss)),(0+1+1,.d (ints false w))]) (fun e=>[(912,.row 56 2 (out.map (Zat false))),(909,.row 56 2 (l.map (Zat false))),(7,.box 31 [.d (iD 0),.d (iD 0)]),(3,Zar false g)]) (fun e=>ss[n].empty.length - e) 0 (Nat.zero_le _) ?_
      intro e he
      by_cases hel:e < ss[n].empty.length
      ·repeat (first|refine wk ?_|refine Zaa (hr:=?_))
       exact Zad (e+1)
      ·have he:e=ss[n].empty.length:=by omega
       subst he
       repeat (first|refine ZnF 9 912 909 rfl rfl (by simp) [(11,I n),(7,.ptr 7 0),(3,.ptr 3 0),(0+1,.d (ZaZ false false ss)),(0+1+1,.d (ints false w))] [(7,.box 31 [.d (iD 0),.d (iD 0)]),(3,Zar false g)] rfl rfl rfl (by repeat' (first|exact trivial|exact VLe.refl _|refine And.intro ?_ ?_)) (by repeat' (first|exact trivial|exact HElt.of rfl|refine And.intro ?_ ?_)) ?_|refine wk1 ?_)
       exact Zad (n,out) (a:=⟨by dsimp only;omega,b1,b2,b3⟩) (b:=by dsimp only;omega)
  ·rw[if_pos h1] at hr
   subst hr
   repeat (first|refine wk ?_|refine Zaa (hr:=?_))
   refine Zab [] (hA:=hck) (hr:=?_)
   repeat (first|refine wk ?_|refine Zaa (hr:=?_))
   refine Zab [] (hA:=hla) (hr:=?_)
   repeat (first|refine wk ?_|refine Zaa (hr:=?_))
   refine Zab [] (hA:=hfl) (hr:=?_)
   repeat (first|refine wk ?_|refine Zaa (hr:=?_))
   exact fin
 ·rw[if_pos h0] at hr
  subst hr
  repeat (first|refine wk ?_|refine Zaa (hr:=?_))
  refine Zab [] (hA:=hck) (hr:=?_)
  repeat (first|refine wk ?_|refine Zaa (hr:=?_))
  exact fin
end Go.Proofs.YtbpmepgnjanhnaaGreat
