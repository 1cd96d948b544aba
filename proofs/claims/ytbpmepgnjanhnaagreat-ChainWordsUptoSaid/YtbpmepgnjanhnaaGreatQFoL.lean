import Derived.Test.YtbpmepgnjanhnaaGreatQChnM
import Derived.OpenShut
import Derived.ShutString
import Derived.JoinedCond
import Derived.Carry
import Derived.Deep.Slices
set_option linter.unusedVariables false
set_option linter.unusedSimpArgs false
set_option linter.unusedSectionVars false
set_option maxHeartbeats 8000000
set_option maxRecDepth 100000
namespace Go.Proofs.YtbpmepgnjanhnaaGreat
open Go.RowKit
section
variable {t u:Bool} {g:Ac} {w:List Int}
end
section
variable {t u:Bool} {g:Ac} {w:List Int}
end
section
variable {t u:Bool} {g:Ac} {w:List Int}
end
section
variable {t u v':Bool} {g:Ac} {w:List Int}
end
section
variable {t u:Bool} {g:Ac} {w:List Int}
end
theorem ZDF {g:Ac} {w:List Int} {k L:Nat} {x:Tree} {N:Cube} (hN:Ak g w Zae=N) (h:Zdf g N w 400 g.start.toNat 0 w.length k 400=some (x,L)):atF g w k=(x,⟨0,0⟩,L):=by
 subst hN;unfold atF;rw[h]
def cb1:Step:=⟨⟨2,2,0,[⟨0,[-2]⟩,⟨0,[-2,1]⟩,⟨1,[-1]⟩,⟨1,[-1,1]⟩]⟩,[[.mk 1 1 []],[.mk 4 0 [.mk 1 1 []]],[.mk 1 0 [.mk 3 0 []]],[.mk 4 0 [.mk 1 0 [.mk 3 0 []]]]],[]⟩
def cbG:Ac:=⟨4,2,0,[⟨0,[-2]⟩,⟨2,[-2]⟩,⟨0,[2,1]⟩,⟨1,[-1]⟩,⟨3,[-1]⟩,⟨1,[3,1]⟩]⟩
def cb2:Step:=⟨cbG,[[.mk 1 0 []],[],[.mk 1 1 [.mk 2 0 [],.mk 2 1 []]],[.mk 1 2 []],[],[.mk 1 3 [.mk 2 0 [],.mk 2 1 []]]],[]⟩
theorem ZDG:ZfF againG=(cb1,⟨0,0⟩):=by kernel_rfl
theorem ZDH:Zc2 cb1.g=(cb2,⟨0,0⟩):=by kernel_rfl
theorem ZCe:ZdR pasT againG [6,4]=([cb1,cb2],⟨0,0⟩):=by
 have h0:(Zac againG).code=0:=by kernel_rfl
 unfold ZdR;rw[Ha (fun q=>q h0),Ha (by decide),mkC];have e1:pasT 6 (Zbf againG [])=(cb1,⟨0,0⟩):=by
  unfold pasT;rw[Ha (by decide)];exact ZDG
 rw[e1,Ha (fun q=>q rfl),mkC];have e2:pasT 4 (Zbf againG ([]++[cb1]))=(cb2,⟨0,0⟩):=by
  unfold pasT;rw[Hb rfl];exact ZDH
 rw[e2,Ha (fun q=>q rfl),mkC];rfl
theorem ZDI:chnF againG [cb1,cb2]=⟨0,0⟩:=by kernel_rfl
theorem ZCf:Ak cbG [1,0,0] Zae=rnds cbG [1,0,0] Zae 4:=ZBY (by kernel_rfl)
def cbN:Cube:=fun v i j=>if v=2∧i=0∧j=1 then 1 else if v=3∧((i=1∧j=2)∨(i=2∧j=3)) then 1 else if v=1∧((i=1∧j=2)∨(i=2∧j=3)∨(i=1∧j=3)) then 1 else if v=0∧i=0∧(j=1∨j=2∨j=3) then 1 else 0
theorem ZBB:Ak cbG [1,0,0] Zae=cbN:=by
 rw[ZCf];funext v i j;by_cases h:(v:Int) < cbG.vars∧i≤j∧j≤([1,0,0]:List Int).length
 ·obtain⟨h1,h2,h3⟩:=h;have h1:v < 4:=by have:cbG.vars=4:=rfl;omega
  have h3:j < 4:=by simp at h3;omega
  have key:∀ v,v < 4→∀ j,j < 4→∀ i,i < 4→rnds cbG [1,0,0] Zae 4 v i j=cbN v i j:=by decide +kernel
  exact key v h1 j h3 i (by omega)
 ·rw[Zhu h];unfold cbN;have h':¬ (v < 4∧i≤j∧j≤3):=fun q=>h ⟨by have:cbG.vars=4:=rfl;omega,q.2.1,by simpa using q.2.2⟩
  rw[Ha (by omega),Ha (by omega),Ha (by omega),Ha (by omega)]
theorem ZBC:cntF cbG [1,0,0]=1:=by unfold cntF;rw[ZBB];rfl
theorem ZDJ:chF cbG [1,0,0]=⟨0,0⟩:=by kernel_rfl
theorem ZEx:opF cbG [1,0,0]=⟨0,0⟩:=by
 unfold opF;rw[ZBC,Ha (show ¬ 1=Zae by decide),ZDJ];rfl
def cbT:Tree:=.mk 2 [.mk 1 [],.mk 5 [.mk 4 [],.mk 3 []]]
def cbX:Tree:=.mk 0 [.mk 0 [.mk 1 []]]
theorem ZEy (d L:Nat):Zdf cbG cbN [1,0,0] (d+4) 0 0 3 0 (L+5)=some (cbT,L):=by kernel_rfl
theorem ZEz {d L v n:Nat} (hd:4≤d) (hL:5≤L) (hv:v=0) (hn:n=3):Zdf cbG cbN [1,0,0] d v 0 n 0 L=some (cbT,L - 5):=by
 obtain⟨e,rfl⟩:∃ e,d=e+4:=⟨d - 4,by omega⟩
 obtain⟨M,rfl⟩:∃ M,L=M+5:=⟨L - 5,by omega⟩
 subst hv hn;rw[ZEy,Nat.add_sub_cancel]
theorem ZDK:atF cbG [1,0,0] 0=(cbT,⟨0,0⟩,395):=ZDF ZBB (ZEz (by omega) (by omega) rfl rfl)
theorem ZCg:ZaL cbG [1,0,0]=([cbT],⟨0,0⟩):=by
 unfold ZaL;rw[ZEx,ZBC,Hb rfl,Ha (by omega),ZdF,ZDK,Hb rfl,ZdF];rfl
theorem ZEA:trN againG [cb1,cb2] [1,0,0] 2 [cbT]=([cbX],⟨0,0⟩):=by kernel_rfl
theorem ZzZ:Zmf againG [cb1,cb2] [1,0,0]=([cbX],⟨0,0⟩):=by
 unfold Zmf;rw[ZDI,Ha (by decide),show Zbf againG [cb1,cb2]=cbG from rfl,ZCg,Ha (by decide)];exact ZEA
theorem Zrs:againG.fit:=⟨by decide,fun r hr=>by simp[againG] at hr;rcases hr with rfl|rfl <;> decide⟩
theorem ZwV:∀ s∈[cb1,cb2],s.fit:=fun s hs=>by
 simp only[Gs,GA,or_false] at hs;rcases hs with rfl|rfl
 ·exact⟨⟨by decide,by decide⟩,by decide,by decide,by decide⟩
 ·exact⟨⟨by decide,by decide⟩,by decide,by decide,by decide⟩
theorem Zz0:Zgt Tryz.prog 24 3 4 3:=Zoe Tryz.underlying24 rfl rfl rfl Tryz.underlying22 rfl
theorem ZlL:Af Tryz.prog 8 [] [] (B true) []:=by
 refine Af.intro (n:=49) Tryz.func8 (hw:=?_);simp only[Zal];have hm:=ZmJ (t:=false) (u:=false) (P:=pasT) (g:=againG) (ks:=[6,4]) Zrs (by decide) (fun k hk g hg=>by
  have hk2:k=4∨k=6:=by simp at hk;omega
  refine⟨ZAG hk2 hg,?_⟩;unfold pasT;split
  ·exact ZmU g
  ·exact Zqo g)
 have ht:=Zra (g:=againG) (ss:=[cb1,cb2]) (w:=[1,0,0]) Zrs ZwV (by decide) (by decide);have hl:=Zhx (t:=false) (u:=false) (v:=false) (g:=againG) (ss:=[cb1,cb2]) Zrs ZwV (by decide);rw[ZCe] at hm;rw[ZzZ] at ht;rw[show Zbf againG [cb1,cb2]=cbG from rfl] at hl;have hl:Af Tryz.prog 15 [.d (Zbo false againG),.d (ZdJ false false [cb1,cb2])] [] (.d (.agg [iD cbG.vars,iD cbG.terms,iD cbG.start,ZaS false cbG.Aa])) []:=hl;refine VA ?_;refine Zab [] (hA:=ZkI) (hr:=?_);refine VA ?_;refine Zab [] (hA:=hm) (hr:=?_);refine VA ?_;refine Zab [] (hA:=ZkI) (hr:=?_);refine VA ?_;refine Zab [] (hA:=ht) (hr:=?_);refine VA ?_;refine Zab [] (hA:=ZkI) (hr:=?_);refine VA ?_;refine Zab [] (hA:=hl) (hr:=?_);refine ZCJ (hF:=Zz0) (hr:=?_);refine VA ?_;exact fin
section
variable {P:Int→Ac→Step×Zci} {g:Ac}
theorem ZwW (hP:∀ k g,(P k g).1.fit):∀ (ks:List Int) (i:Nat) (out:List Step),(∀ s∈out,s.fit)→∀ s∈(mkC P g ks i out).1,s.fit
 | [],_,_,h=>h
 | k::ks,i,out,h=>by
  by_cases hc:(P k (Zbf g out)).2.code=0
  ·rw[ZrE hc];refine ZwW hP ks _ _ fun s hs=>?_
   rcases List.mem_append.1 hs with hs|hs
   ·exact h s hs
   ·rw[List.mem_singleton.1 hs];exact hP _ _
  ·rw[ZrF hc];intro s hs;cases hs
theorem ZwX:∀ (ks:List Int) (i:Nat) (out:List Step),(mkC P g ks i out).1.length≤out.length+ks.length
 | [],_,_=>Hg _
 | k::ks,i,out=>by
  by_cases hc:(P k (Zbf g out)).2.code=0
  ·rw[ZrE hc];have:=ZwX ks (i+1) (out++[(P k (Zbf g out)).1]);rw[Hk,HZ] at this;rw[Hl];omega
  ·rw[ZrF hc];exact Hi _
theorem ZwY (hP:∀ k g,(P k g).1.fit) {ks:List Int}:∀ s∈(ZdR P g ks).1,s.fit:=by
 unfold ZdR;split
 ·intro s hs;cases hs
 ·split
  ·intro s hs;cases hs
  ·exact ZwW hP ks 0 [] fun s hs=>by cases hs
theorem ZwZ {ks:List Int}:(ZdR P g ks).1.length≤ks.length:=by
 unfold ZdR;split
 ·exact Hi _
 ·split
  ·exact Hi _
  ·have:=ZwX (P:=P) (g:=g) ks 0 [];rw[HC,HD] at this;exact this
end
def empI (ss:List Step) (i:Nat):Nat:=empN (ss.take i)
theorem Zw0 {ss:List Step} {i:Nat} (h:i < ss.length):empI ss (i+1)=empI ss i+ss[i].empty.length:=by
 unfold empI;rw[HE h,ZgR,empN,empN,Gr]
theorem Zz1 {M a b c:Nat}:min M (min M (a+b)+c)=min M (a+(b+c)):=by omega
theorem ZlM {g:Ac} {ks w:List Int} (hf:g.fit) (hk:ks.length≤100000000) (hw:w.length≤100000000) :
  Af Tryz.prog 5 [.d (Zbo false g),.d (ints false ks),.d (ints false w)] [] (B true) []:=by
 refine Af.intro (n:=89) Tryz.func5 (hw:=?_);simp only[Zal];have hhv:=ZoX (t:=false) (u:=false) hf hw;refine VA ?_;refine Zab [] (hA:=ZlL) (hr:=?_);refine VA ?_;refine Zab [] (hA:=hhv) (hr:=?_);cases h1:Zsx g w with
 | true=>repeat (first|refine wk ?_|refine ZCJ (hr:=?_));exact fin
 | false =>
 by_cases h8:100 < ks.length
 ·refine VA ?_;exact fin
 have hA:=ZrD (t:=false) (u:=false) (g:=g) (ks:=ks) hf hk;have hAf:=ZwY (P:=pasS) (g:=g) (ks:=ks) Zte;have hAl:=ZwZ (P:=pasS) (g:=g) (ks:=ks);have hL:=Zhx (t:=false) (u:=false) (v:=false) hf hAf (by omega);have hlf:=ZeY hf hAf;have hh2:=ZoX (t:=false) (u:=false) hlf hw;by_cases hz:(ZdR pasS g ks).2.code=0
 ·have hWk:(chF g w).code=0→ZgS g w (ZdR pasS g ks).1:=fun hc=>Zq7 hc hz
  unfold ZgS at hWk;generalize ZdR pasS g ks=A at *;obtain⟨A,⟨ac,aa⟩⟩:=A;dsimp only at hA hAf hAl hL hlf hh2 hz hWk;generalize hH:Zbf g A=G at *;refine VA ?_;refine Zab [] (hA:=hA) (hr:=?_);refine VA ?_;refine Zab [] (hA:=hL) (hr:=?_);refine VA ?_;refine Zab [] (hA:=hh2) (hr:=?_);cases h2:Zsx G w with
  | true=>repeat (first|refine wk ?_|refine ZCJ (hr:=?_));exact fin
  | false =>
  by_cases hc:(chF g w).code=0
  ·obtain⟨q1,q2⟩:=hWk hc;have hC:=(Zkj hc).1;have hD:=(Zkj q1).1;have n1:=Zhs (t:=false) (u:=false) hC;have n2:=Zhs (t:=false) (u:=false) hD;have c1:=Zdh hC.ok hC.cyc hC.small.1 hC.small.2;have c2:=Zdh hD.ok hD.cyc hD.small.1 hD.small.2;rw[Zfg hC.ok] at c1;rw[Zfg hD.ok] at c2;simp only[cxH2] at n1 n2;have hm:cntF g w≤Zae:=Zfk _ _ _ _ _ _;have hm2:cntF G w≤Zae:=Zfk _ _ _ _ _ _;have hwl:w.length≤100000:=hC.small.1;clear hWk hC hD hhv hh2 hA hL;generalize cntF G w=n0 at *;generalize cntF g w=n9 at *;generalize Ak G w Zae=N at *;generalize nulB G=NB at *;generalize Ak g w Zae=N1 at *;generalize nulB g=NB1 at *;refine VA ?_;refine Zab [(62,962),(60,960)] (hA:=n1) (hr:=?_);refine VA ?_;refine Zab [(62,972),(60,970)] (hA:=n2) (hr:=?_);refine VA ?_;refine Zat [(1000,972),(1001,970)] (hA:=c2) (hr:=?_);refine VA ?_;obtain⟨M,hM⟩:∃ M,Zae=M:=⟨_,rfl⟩
   rw[hM] at hm hm2;have hMs:(M:Int)≤4611686018427387904:=by rw[←hM];decide
   have hMl:100000000≤M:=by rw[←hM];decide
   have hpl:∀ a b:Nat,a≤M→b≤M→Af Tryz.prog 24 [I a,I b] [] (I (min M (a+b):Nat)) []:=by rw[←hM];exact fun a b=>Zki
   have he0:(n0:Int)=((min M (n0+empI A 0):Nat):Int):=by
    rw[show empI A 0=0 from rfl];omega
   rw[he0];refine Zak (X:=Nat) (fun i=>i≤A.length∧(¬ w=[]→i=0)) (fun i=>[(15,I i),(14,I (min M (n0+empI A i):Nat)),(7,.d (ZdJ false false A)),(2,.d (ints false w)),(10,.ptr 962 0)]) (fun _=>[(962,cxBx g w NB1 960),(960,.mp (ZbC N1))]) (fun i=>A.length - i) 0 ⟨Hi _,fun _=>rfl⟩ ?_;rintro i ⟨i1,i2⟩;by_cases hlt:i < A.length
   ·by_cases hw0:w=[]
    ·have hel:=(hAf _ (He hlt)).empty;have hz0:((w.length:Nat):Int)=0:=(by rw[hw0];rfl);have hp:=hpl (min M (n0+empI A i)) A[i].empty.length (by omega) (by omega);rw[Zz1,←Zw0 hlt] at hp;refine VA ?_;refine Zab [] (hA:=hp) (hr:=?_);refine VA ?_;exact Zad (i+1) (a:=⟨by omega,fun q=>absurd hw0 q⟩)
    ·have hz0:¬ ((w.length:Nat):Int)=0:=(fun q=>hw0 (HW (by omega)));obtain rfl:=i2 hw0;rw[Ha hw0] at q2;have he:((min M (n0+empI A 0):Nat):Int)=(n9:Int):=by
      rw[show empI A 0=0 from rfl];omega
     rw[he];refine VA ?_;refine Zat [(1000,962),(1001,960)] (hA:=c1) (hr:=?_);refine VA ?_;exact fin
   ·obtain rfl:i=A.length:=(by omega);have he:((min M (n0+empI A A.length):Nat):Int)=(n9:Int):=by
     unfold empI;rw[HP];by_cases hw0:w=[]
     ·rw[Hb hw0] at q2;omega
     ·rw[Ha hw0] at q2;rw[HW (i2 hw0)];show ((min M (n0+0):Nat):Int)=_;omega
    rw[he];refine VB ?_;refine Zat [(1000,962),(1001,960)] (hA:=c1) (hr:=?_);refine VA ?_;exact fin
  ·have n1:=Znm (t:=false) (u:=false) hf hw hc;generalize chF g w=F at *;obtain⟨fc,fa⟩:=F;dsimp only at hc;by_cases hd:(chF G w).code=0
   ·have n2:=Zhs (t:=false) (u:=false) (Zkj hd).1;simp only[cxH2] at n2;generalize Ak G w Zae=N at *;generalize nulB G=NB at *;refine VA ?_;refine Zab [] (hA:=n1) (hr:=?_);refine VA ?_;refine Zab [(62,972),(60,970)] (hA:=n2) (hr:=?_);refine VA ?_;exact fin
   ·have n2:=Znm (t:=false) (u:=false) hlf hw hd;generalize chF G w=F at *;obtain⟨dc,da⟩:=F;dsimp only at hd;refine VA ?_;refine Zab [] (hA:=n1) (hr:=?_);refine VA ?_;refine Zab [] (hA:=n2) (hr:=?_);refine VA ?_;exact fin
 ·generalize ZdR pasS g ks=A at *;obtain⟨A,⟨ac,aa⟩⟩:=A;dsimp only at hA hz;refine VA ?_;refine Zab [] (hA:=hA) (hr:=?_);refine VA ?_;exact fin
open Go.ChangeShapes Go.WideShapes Go.ChangeAt Go.RowKit
open Go.Deep (open_slice)
theorem Ext.below {w w':World} (h:Ext NoB w w'):Below w.heap.size w w' :=
 ⟨h.os,h.tape,h.output,h.size,fun k hk=>h.block k hk (fun x=>x)⟩
theorem Tryz.laidOut:laidOutB Tryz.prog=true:=by kernel_rfl
theorem Tryz.ownKnob:ownKnob Tryz.prog.godebug=none:=by kernel_rfl
theorem ZhC {H:Type} {enc:TypeId×Value→H} {P:Program} (hl:laidOutB P=true) {W W':World} (hE:Ext NoB W W') :
  ∀ {ts:List TypeId} {vs:List Value} {ds:List (DataW H)} {ps:List MemPlace},(∀ t∈ts,P.readableRec t=true∧t < P.types.size) →
   DataW.TrodAll enc P W 0 (fun _=>true) true ts vs ds ps→(∀ x∈ps,x.block < W.heap.size)→DataW.TrodAll enc P W' 0 (fun b=>decide (b < W.heap.size)) true ts vs ds ps
 | [],vs,ds,ps,_,h,_=>by
  obtain⟨rfl,rfl,rfl⟩:=trodAll_nil h;exact trodAll_mk0
 | t::ts,vs,ds,ps,ht,h,hp=>by
  obtain⟨v,vs',d,ds',p,q,rfl,rfl,rfl,h1,h2⟩:=trodAll_cons h;refine⟨p,q,?_,ZhC hl hE (fun t' ht'=>ht t' (by simp[ht'])) h2 (fun x hx=>hp x (by simp[hx])),rfl⟩;exact Below.trod hl (ht t (by simp)).1 (ht t (by simp)).2 h1 hE.below (fun x hx=>hp x (by simp[hx]))
theorem Zz2 {H:Type} {enc:TypeId×Value→H} {P:Program} {f:Func} {s:ChangeSpec} {W W':World} {args:Array Value} {ds gs:List (DataW H)} {before:List MemPlace}
  (hl:laidOutB P=true) (ht:∀ t∈f.params.toList,P.readableRec t=true∧t < P.types.size) (tb:TypeId) (hf:f.resultTypes=#[tb]) (hb:P.underlying tb=some .bool)
  (hW:DataW.Whole enc P f.params.toList s.vars false W args.toList ds gs before) (hv:s.vars=[]) (hs:s.fn H (ds++gs)={ results:=[.lit (.bool true)],args:=ds }) (hE:Ext NoB W W') :
  s.post enc P f false true false false W args (.bool true) W':=by
 have hW':=hW;obtain⟨p,q,hA,hV,rfl,hfz,hnd⟩:=hW;rw[hv] at hV;obtain⟨rfl,rfl⟩:=trodVars_none hV;have hlt:=hW'.lt;refine⟨ds,[],p++[],[],p,[],hW',?_,?_,?_,hE.below.frame _,fun h=>by cases h⟩
 ·rw[hs,hf];exact trodAll_cons_mk (p:=[]) (p':=[]) (shut_bool hb true) trodAll_mk0
 ·rw[hs];exact ZhC hl hE ht hA (fun x hx=>hlt x (by simp[hx]))
 ·rw[hs,hv];exact rfl
def M0:Bars:=fun _ _=>False
theorem Zz3 (E:Env):bars E [] M0=M0:=by
 funext t b;simp[bars,Live,Ai,Ah,M0]
def RepsV (w:World):List D→List Value→Prop
 | [],us=>us=[]
 | d::ds,us=>∃ u r,us=u::r∧d.RepV M0 w u∧RepsV w ds r
theorem RepsV.reps {E:Env} {w:World}:∀ {ds:List D} {us:List Value},RepsV w ds us→V.Reps E [] M0 w (ds.map V.d) us
 | [],_,h=>by simpa[RepsV,V.Reps] using h
 | d::ds,_,h=>by
  obtain⟨u,r,rfl,h1,h2⟩:=h;simp only[Hm,V.Reps,V.Rep];exact⟨u,r,rfl,h1,h2.reps⟩
theorem Zw1:∀ (ds:List D),V.keyss (ds.map V.d)=[]
 | []=>rfl
 | d::ds=>by simp[V.keyss,V.keys,Zw1 ds]
theorem Af.law {P:Program} {f:FuncId} {ds:List D} (hc:Af P f (ds.map V.d) [] (B true) []) {w:World} {us:List Value} (hr:RepsV w ds us) :
  Calls P f us.toArray w fun e w'=>e=.returned (.bool true)∧Ext NoB w w':=by
 have E:Env:=⟨fun _=>0,fun _=>undef,fun _=>[]⟩
 refine (hc.run E w us M0 ⟨by simp[Ah],by simp[Ai,Ah],by simp[Ah]⟩ (by rw[Zz3];exact hr.reps) (by rw[Zw1];simp) (by simp[M0]) (by simp[M0])).mono ?_;rintro e w' ⟨E',u,rfl,_,h2,_,h3,_⟩;simp only[V.Rep,D.RepV,D.Rep,Hy,HB] at h2;exact⟨by rw[h2.1],h3.mono (fun x hx=>by obtain⟨k,hk⟩:=hx;simp[Ai,Ah] at hk)⟩
section
variable {H:Type}
theorem ZsR (d:DataW H):1≤Rows.uptoBulk d:=by
 cases d with
 | lit l=>cases l <;> simp[Rows.uptoBulk]
 | _=>simp[Rows.uptoBulk]
theorem ZsS:∀ (ds:List (DataW H)),ds.length≤Rows.uptoBulkAll ds
 | []=>by simp
 | d::r=>by have:=ZsR d;have:=ZsS r;simp only[Hl,Rows.uptoBulkAll];omega
theorem ZsT:∀ {ds:List (DataW H)} {d:DataW H},d∈ds→Rows.uptoBulk d≤Rows.uptoBulkAll ds
 | [],_,h=>by cases h
 | x::r,d,h=>by
  simp only[Rows.uptoBulkAll];rcases List.mem_cons.1 h with rfl|h
  ·omega
  ·have:=ZsT h;omega
end
def Rd (P:Program) (t:TypeId) {α:Type} (f:α→D) (Φ:α→Nat→Prop):Prop :=
 ∀ (H:Type) (enc:TypeId×Value→H) (w:World) (held:Bool) (n:Nat) (cs:List Value) (y:DataW H×List MemPlace),DataW.trod enc P w 0 (fun _=>true) held n t cs=some y→∃ r:α,(f r).Rep M0 w cs∧Φ r (Rows.uptoBulk y.1)
def RdN (P:Program) (N:Nat) (t:TypeId) {α:Type} (f:α→D) (Φ:α→Nat→Prop):Prop :=
 ∀ (H:Type) (enc:TypeId×Value→H) (w:World) (held:Bool) (n:Nat) (cs:List Value) (y:DataW H×List MemPlace),n < N→DataW.trod enc P w 0 (fun _=>true) held n t cs=some y→∃ r:α,(f r).Rep M0 w cs∧Φ r (Rows.uptoBulk y.1)
theorem Rd.n {P:Program} {t:TypeId} {α:Type} {f:α→D} {Φ:α→Nat→Prop} (h:Rd P t f Φ) (N:Nat):RdN P N t f Φ :=
 fun H enc w held n cs y _ hy=>h H enc w held n cs y hy
theorem ZDL {P:Program} {t:TypeId} {k:IntKind} (hu:P.underlying t=some (.int k)):Rd P t (fun n:Int=>.raw (.int k n)) (fun _ _=>True):=fun H enc w held n cs y h=>by
 obtain⟨n,rfl,rfl,_⟩:=DataW.trod_int hu h;exact⟨n,by simp[D.Rep,Value.oneCell'],trivial⟩
theorem Zw2 {w:World} {α:Type} {f:α→D} {sz:Nat} (hfs:∀ r,(f r).size=sz) (b off:Nat):∀ (n:Nat) (g:Nat→α) (C:Nat→List Value),(∀ i,i < n→(f (g i)).Rep M0 w (C i)∧∀ j,j < sz→w.cell? ⟨b,off+(i * sz+j),none⟩=(C i)[j]?) →
  ∃ es,D.Reps M0 w (((List.range n).map g).map f) es∧∀ j,j < es.length→w.cell? ⟨b,off+j,none⟩=es[j]?
 | 0,_,_,_=>⟨[],by simp[D.Reps],by simp⟩
 | n+1,g,C,h=>by
  obtain⟨es,h1,h2⟩:=Zw2 hfs b off n g C (fun i hi=>h i (by omega));obtain⟨k1,k3⟩:=h n (by omega);have hl:es.length=n * sz:=by
   have:=D.Reps.length h1;rw[D.sizes_eq (sz:=sz) (by intro x hx;obtain⟨r,_,rfl⟩:=List.mem_map.1 hx;exact hfs r)] at this;simpa using this
  have hc:(C n).length=sz:=(D.Rep.length k1).trans (hfs _);refine⟨es++C n,?_,fun j hj=>?_⟩
  ·rw[Gq,Ho,Ho];exact D.Reps.append h1 (by simpa using D.Reps.single.2 k1)
  ·rw[Hk] at hj;by_cases hjl:j < es.length
   ·rw[GL hjl];exact h2 j hjl
   ·rw[Gn (by omega),←k3 (j - es.length) (by omega),hl];congr 2;omega
def ZCh {α:Type} (Φ:α→Nat→Prop) (rs:List α) (N:Nat):Prop:=rs.length≤N∧∀ r∈rs,Φ r N
theorem ZuF {P:Program} {N:Nat} {t e:TypeId} {sz:Nat} {α:Type} [Inhabited α] {f:α→D} {Φ:α→Nat→Prop} (ht:P.underlying t=some (.slice e)) (hc:P.cellsOf e=sz) (hsz:0 < sz) (hfs:∀ r,(f r).size=sz)
  (he:RdN P N e f Φ) {H:Type} {enc:TypeId×Value→H} {w:World} {held:Bool} {n:Nat} {cs:List Value} {x:DataW H×List MemPlace} (hn:n < N+1) (h:DataW.trod enc P w 0 (fun _=>true) held n t cs=some x) :
  ∃ (rs:List α) (els rest:List (DataW H)),(D.sl false sz (rs.map f)).Rep M0 w cs∧Rows.uptoBulkAll els≤Rows.uptoBulk x.1 - 1∧rs.length=els.length∧∀ i (h1:i < rs.length) (h2:i < els.length),Φ rs[i] (Rows.uptoBulk els[i]):=by
 rcases DataW.trod_slice ht h with ⟨rfl,rfl⟩|⟨a,len,cap,elems,rest,n',hn',rfl,rfl,_,hl,hm,hlen,hel,_,_⟩
 ·refine⟨[],[],[],?_,by simp[Rows.uptoBulkAll],rfl,by simp⟩;simp only[D.Rep];exact⟨none,0,[],by simp,by simp,by simp[maxLen],by simp,by simp[D.Reps],by simp⟩
 ·have hex:∀ i,∃ r:α×List Value,∀ (hi:i < len),(f r.1).Rep M0 w r.2∧Φ r.1 (Rows.uptoBulk (elems[i]'(by omega)).1)∧w.cells? 0 (a.add (i * P.cellsOf e)) (P.cellsOf e)=some r.2:=fun i=>by
   by_cases hi:i < len
   ·have hb:=hel i hi;rw[Hj (by omega)] at hb;obtain⟨cs',h1,h2⟩:=Option.bind_eq_some_iff.1 hb;obtain⟨r,h3,h4⟩:=he H enc w held n' cs' _ (by omega) h2;exact⟨(r,cs'),fun _=>⟨h3,h4,h1⟩⟩
   ·exact⟨(default,[]),fun h=>absurd h hi⟩
  obtain⟨G,hG⟩:=Classical.axiomOfChoice hex;rw[hc] at hG;have hb:0 < len→∃ b off,a=⟨b,off,none⟩∧b < w.heap.size:=fun h0=>by
   obtain⟨_,_,h3⟩:=hG 0 h0;have hlt:=World.cells?_block h3 hsz;obtain⟨_,h5,h6⟩:=World.cells?_some h3;have h7:=h6 0 hsz;obtain⟨b,off,spot⟩:=a;have h8:∃ u,(G 0).2[0]? = some u:=⟨_,Hj (by omega)⟩
   obtain⟨u,hu⟩:=h8;rw[hu] at h7;have hspot:spot=none:=by simpa[Addr.add] using World.cell?_spot h7
   subst hspot;exact⟨b,off,rfl,by simpa[Addr.add] using hlt⟩
  refine⟨(List.range len).map fun i=>(G i).1,elems.map (·.1),[],?_,?_,by simp[hlen],?_⟩
  ·rcases Nat.eq_zero_or_pos len with rfl|h0
   ·simp only[D.Rep];exact⟨some a,cap,[],by simp,by simp,hm,by simp,by simp[D.Reps],by simp⟩
   ·obtain⟨b,off,rfl,hbs⟩:=hb h0;obtain⟨es,h1,h2⟩:=Zw2 (f:=f) hfs b off len (fun i=>(G i).1) (fun i=>(G i).2) (fun i hi=>by
     obtain⟨g1,_,g3⟩:=hG i hi;obtain⟨_,g5,g6⟩:=World.cells?_some g3;refine⟨g1,fun j hj=>?_⟩;rw[←g6 j hj];congr 1;simp only[Addr.add];split <;> split <;> simp_all <;> omega)
    simp only[D.Rep];refine⟨some ⟨b,off,none⟩,cap,es,by simp,by simpa using hl,hm,?_,h1,fun _=>⟨b,off,rfl,by simp[M0],hbs,h2⟩⟩;intro x hx;obtain⟨r,_,rfl⟩:=List.mem_map.1 hx;exact hfs r
  ·simp only[Rows.uptoBulk];omega
  ·intro i h1 h2;have hi:i < len:=by simpa using h1
   have:=(hG i hi).2.1;simpa using this
theorem Zw3 {P:Program} {N:Nat} {t e:TypeId} {sz:Nat} {α:Type} [Inhabited α] {f:α→D} {Φ:α→Nat→Prop} (ht:P.underlying t=some (.slice e)) (hc:P.cellsOf e=sz) (hsz:0 < sz) (hfs:∀ r,(f r).size=sz) (hΦ:∀ r m n,Φ r m→m≤n→Φ r n)
  (he:RdN P N e f Φ):RdN P (N+1) t (fun rs:List α=>.sl false sz (rs.map f)) (ZCh Φ):=by
 intro H enc w held n cs x hn h;obtain⟨rs,els,_,h1,h2,h3,h4⟩:=ZuF ht hc hsz hfs he hn h;refine⟨rs,h1,?_,fun r hr=>?_⟩
 ·have:=ZsS els;have:=ZsR x.1;omega
 ·obtain⟨i,hi,rfl⟩:=List.getElem_of_mem hr;have:=ZsT (ds:=els) (d:=els[i]'(by omega)) (He _);exact hΦ _ _ _ (h4 i hi (by omega)) (by omega)
theorem ZsU {P:Program} {t e:TypeId} {sz:Nat} {α:Type} [Inhabited α] {f:α→D} {Φ:α→Nat→Prop} (ht:P.underlying t=some (.slice e)) (hc:P.cellsOf e=sz) (hsz:0 < sz) (hfs:∀ r,(f r).size=sz) (hΦ:∀ r m n,Φ r m→m≤n→Φ r n)
  (he:Rd P e f Φ):Rd P t (fun rs:List α=>.sl false sz (rs.map f)) (ZCh Φ) :=
 fun H enc w held n cs y h=>Zw3 ht hc hsz hfs hΦ (he.n n) H enc w held n cs y (Gj _) h
theorem Zd1 {w:World} {d:D} {ds:List D} {c r:List Value} (h1:d.Rep M0 w c) (h2:D.Reps M0 w ds r):D.Reps M0 w (d::ds) (c++r):=by
 simp only[D.Reps];exact⟨c,r,rfl,h1,h2⟩
theorem Zpo {w:World}:D.Reps M0 w [] []:=by simp[D.Reps]
theorem ZCi {P:Program} {t:TypeId} {fs:Array Field} {α:Type} {f:α→List D} {Φ:α→Nat→Prop} (hu:P.underlying t=some (.struct fs)) (hr:Rd P t (fun a=>.agg (f a)) Φ) {H:Type} {enc:TypeId×Value→H} {w:World} {base:Nat} {v:Value} {d:DataW H} {p:List MemPlace}
  (hval:Value.okWide P w .any base t v) (h:DataW.Trod enc P w 0 (fun _=>true) true t v d p):∃ r:α,(D.agg (f r)).RepV M0 w v∧Φ r (Rows.uptoBulk d):=by
 unfold Value.okWide at hval;rw[hu] at hval;obtain⟨cs,rfl,_⟩:=hval;obtain⟨fuel,h⟩:=h;obtain⟨r,h1,h2⟩:=hr H enc w true fuel _ _ h;refine⟨r,⟨cs.toList,by simp,?_⟩,h2⟩;simpa[Value.cells,D.Rep] using h1
theorem Zpp {P:Program} {t e:TypeId} {sz:Nat} {α:Type} {f:α→List D} {Φ:α→Nat→Prop} (hu:P.underlying t=some (.slice e)) (hr:Rd P t (fun a=>.sl false sz (f a)) Φ) {H:Type} {enc:TypeId×Value→H} {w:World} {base:Nat} {v:Value} {d:DataW H} {p:List MemPlace}
  (hval:Value.okWide P w .any base t v) (h:DataW.Trod enc P w 0 (fun _=>true) true t v d p):∃ r:α,(D.sl false sz (f r)).RepV M0 w v∧Φ r (Rows.uptoBulk d):=by
 obtain⟨fuel,h⟩:=h;obtain⟨r,h1,h2⟩:=hr H enc w true fuel _ _ h;refine⟨r,?_,h2⟩;have hv:v.cells=#[v]:=by
  unfold Value.okWide at hval;rw[hu] at hval;cases v with
  | agg cs=>simp[Cell.okWide,Cell.ok,hu] at hval
  | _=>rfl
 rw[hv] at h1;exact h1
open Go.ChangeShapes Go.WideShapes Go.ChangeAt Go.RowKit
theorem ZkE:Tryz.prog.cellsOf 3=1:=by kernel_rfl
theorem ZuG:Tryz.prog.cellsOf 25=1:=by kernel_rfl
theorem Zmq:Tryz.prog.cellsOf 68=2:=by kernel_rfl
theorem Zrt:Tryz.prog.cellsOf 22=1:=by kernel_rfl
theorem ZuH:Tryz.prog.cellsOf 24=4:=by kernel_rfl
theorem Zw4:Rd Tryz.prog 3 iD (fun _ _=>True):=ZDL Tryz.underlying3
theorem Zw5:Rd Tryz.prog 25 (fun xs:List Int=>ints false xs) (fun xs n=>xs.length≤n):=fun H enc w held n cs y h=>by
 obtain⟨rs,h1,h2⟩:=ZsU Tryz.underlying25 ZkE (by decide) (fun _=>rfl) (fun _ _ _ _ _=>trivial) Zw4 H enc w held n cs y h;exact⟨rs,h1,h2.1⟩
theorem ZDM:Rd Tryz.prog 68 (Za2 false) (fun r n=>r.right.length≤n):=fun H enc w held n cs x h=>by
 obtain⟨xs,n,rfl,rfl,hl,hx,hf⟩:=DataW.trod_struct Tryz.underlying68 h;have f0:=hf 0 _ rfl;have f1:=hf 1 _ rfl;clear hf;replace hl:=hl.trans Zmq
 match cs,hl,xs,hx with
 | [c0,c1],_,[x0,x1],_ =>
  simp only[ZkE,ZuG,Gk,GV,G7,Jg,GX,JP] at f0 f1;obtain⟨l,h1,_⟩:=Zw4 _ _ _ _ _ _ _ f0;obtain⟨rt,h2,h3⟩:=Zw5 _ _ _ _ _ _ _ f1;refine⟨⟨l,rt⟩,?_,?_⟩
  ·simp only[Za2,D.Rep];exact Zd1 (c:=[c0]) h1 (Zd1 (c:=[c1]) h2 Zpo)
  ·simp[Rows.uptoBulk,Rows.uptoBulkAll];omega
theorem ZCj:Rd Tryz.prog 22 (fun rs:List Rule=>ZaS false rs) (ZCh (fun r n=>r.right.length≤n)) :=
 ZsU Tryz.underlying22 Zmq (by decide) (fun _=>rfl) (fun _ _ _ h hm=>Hq h hm) ZDM
def Ac.le (g:Ac) (n:Nat):Prop:=g.Aa.length≤n∧∀ r∈g.Aa,r.right.length≤n
theorem ZDN:Rd Tryz.prog 24 (fun g:Ac=>.agg [iD g.vars,iD g.terms,iD g.start,ZaS false g.Aa]) Ac.le:=fun H enc w held n cs x h=>by
 obtain⟨xs,n,rfl,rfl,hl,hx,hf⟩:=DataW.trod_struct Tryz.underlying24 h;have f0:=hf 0 _ rfl;have f1:=hf 1 _ rfl;have f2:=hf 2 _ rfl;have f3:=hf 3 _ rfl;clear hf;replace hl:=hl.trans ZuH
 match cs,hl,xs,hx with
 | [c0,c1,c2,c3],_,[x0,x1,x2,x3],_ =>
  simp only[ZkE,Zrt,Gk,GV,G7,Jg,GX,JP] at f0 f1 f2 f3;obtain⟨a,h0,_⟩:=Zw4 _ _ _ _ _ _ _ f0;obtain⟨b,h1,_⟩:=Zw4 _ _ _ _ _ _ _ f1;obtain⟨c,h2,_⟩:=Zw4 _ _ _ _ _ _ _ f2;obtain⟨rs,h3,h4,h5⟩:=ZCj _ _ _ _ _ _ _ f3;have hb:Rows.uptoBulk x3.1≤Rows.uptoBulk (DataW.agg [x0.1,x1.1,x2.1,x3.1]):=by simp[Rows.uptoBulk,Rows.uptoBulkAll];omega
  refine⟨⟨a,b,c,rs⟩,?_,Hq h4 hb,fun r hr=>Hq (h5 r hr) hb⟩;simp only[D.Rep];exact Zd1 (c:=[c0]) h0 (Zd1 (c:=[c1]) h1 (Zd1 (c:=[c2]) h2 (Zd1 (c:=[c3]) h3 Zpo)))
open Go.ChangeShapes Go.WideShapes Go.ChangeAt Go.RowKit
open Go.ChangeShapes Go.WideShapes Go.ChangeAt Go.RowKit
theorem Ac.le.fit {g:Ac} {n:Nat} (h:g.le n) (hn:n≤100000000):g.fit:=⟨Hq h.1 hn,fun r hr=>Hq (h.2 r hr) hn⟩
end Go.Proofs.YtbpmepgnjanhnaaGreat
