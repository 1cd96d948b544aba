import Derived.Test.YtbpmepgnjanhnaaGreatQFrJ
import Derived.Test.YtbpmepgnjanhnaaGreatQShortD
set_option linter.unusedVariables false
set_option linter.unusedSimpArgs false
set_option linter.unusedSectionVars false
set_option maxHeartbeats 8000000
set_option maxRecDepth 100000
namespace Go.Proofs.YtbpmepgnjanhnaaGreat
open Go.RowKit
theorem ZAc {g:Ac} {ss:List Step} {w:List Int} {i:Nat} (h:i < ss.length) (l:List Tree):trN g ss w (i+1) l=match ledA (Za7 g (ss.take i)) ss[i] l [] with
  | .error c=>([],⟨c,(i:Int)⟩)
  | .ok out=>trN g ss w i (out++if w.length=0 then ss[i].empty else []):=by rw[trN,Zpv h];rfl
theorem ZwW {old:Ac} {s:Step} {l out:List Tree} {j:Nat} (h:j < l.length):ledA old s (l.drop j) out=if ¬ (Zb8 old s l[j]).2.code=0 then .error (Zb8 old s l[j]).2.code else ledA old s (l.drop (j+1)) (out++[(Zb8 old s l[j]).1]):=by
 conv=>lhs;rw[Hw h,ledA]
theorem Zkv {g:Ac} {ss:List Step} {w:List Int} (hf:g.fit) (hs:∀ s∈ss,s.fit) (hl:ss.length≤100000000) (hw:w.length≤100000000) :
  Af Tryz.prog 19 [.d (Zbr false g),.d (Zec false false ss),.d (ints false w)] [] (.tup [.d (Zan false (ZfP g ss w).1),.d (Zbu (ZfP g ss w).2)]) []:=by
 refine Af.intro (n:=101) Tryz.func19 (hw:=?_);simp only[Zal];have hck:=Zrs (t:=false) (u:=false) (v:=false) hf hs hl;have hla:=ZhI (t:=false) (u:=false) (v:=false) hf hs hl;have hlf:=Ze1 hf hs;have hfl:=Zk5 (t:=false) (u:=false) (g:=Za7 g ss) (w:=w) hlf hw;have hfo:=Zu2 (t:=false) (u:=false) (g:=Za7 g ss) (w:=w);have hfb:(Zaw (Za7 g ss) w).2.code=0→(Zaw (Za7 g ss) w).1.length≤200∧∀ x∈(Zaw (Za7 g ss) w).1,cnt x≤400:=fun h=>by
  have hok:=Zbg h;exact⟨by rw[hok.len];exact hok.few,fun x hx=>(hok.mem hx).2⟩
 have hr:∃ r,ZfP g ss w=r:=⟨_,rfl⟩
 obtain⟨r,hr⟩:=hr;rw[hr];unfold ZfP at hr;have hcf:=fun h=>(ZCw (g:=g) (ss:=ss) h).2
 generalize Zaw (Za7 g ss) w=FL at *;generalize Za7 g ss=L at *;generalize chnF g ss=CF at *;by_cases h0:CF.code=0
 ·rw[Ha (fun q=>q h0)] at hr;obtain⟨h8,hst⟩:=hcf h0;by_cases h1:FL.2.code=0
  ·rw[Ha (fun q=>q h1)] at hr;have hfo:=hfo h1;obtain⟨hl200,hc400⟩:=hfb h1;refine VA ?_;refine Zab [] (hA:=hck) (hr:=?_);refine VA ?_;refine Zab [] (hA:=hla) (hr:=?_);refine VA ?_;refine Zab [(900,909)] (hA:=hfo) (hr:=?_);refine VA ?_;clear hfl hfo hfb hla hcf hlf hck;obtain⟨l0,fc,fa⟩:=FL;dsimp only at h1 hr hl200 hc400 ⊢;refine Zak (X:=Nat×List Tree) (fun y=>y.1≤ss.length∧y.2.length+200 * y.1≤1800∧(∀ x∈y.2,cnt x≤400)∧trN g ss w y.1 y.2=r) (fun y=>[(11,I ((y.1:Int) - 1)),(9,.own 909 y.2.length),(7,.ptr 7 0),(3,.ptr 3 0),(0+1,.d (Zec false false ss)),(0+1+1,.d (ints false w))]) (fun y=>[(909,.row 56 2 (y.2.map (ZaV false))),(7,.box 31 [.d (iD 0),.d (iD 0)]),(3,ZaE false g)]) (fun y=>y.1) (ss.length,l0) ⟨Hg _,by dsimp only;omega,hc400,hr⟩ ?_;clear hr hl200 hc400;rintro⟨k,l⟩ ⟨i1,i2,i3,i4⟩;dsimp only at i1 i2 i3 i4 ⊢;cases k with
   | zero =>
    rw[trN] at i4;subst i4;have hso:=ZpJ (l:=l) (by omega) (fun x hx=>Hq (i3 x hx) (by decide));unfold ZdK at hso;rw[show (Zbz false)=ZaV false from funext fun x=>(Zdz false x).symm] at hso;have hsl:(Zcg l).length=l.length:=(ZcV l).length_eq;refine VA ?_;refine Zab [(1000,909)] (hA:=hso) (hr:=?_);repeat (first|refine Zaz 909 rfl ?_|refine wk1 ?_|refine Zaa (hr:=?_))
    rw[←hsl];exact fin
   | succ n =>
    have hlt:n < ss.length:=(by omega);rw[ZAc hlt] at i4;rw[show (((n+1:Nat):Int)) - 1=(n:Int) by omega];have hla:=ZhI (t:=false) (u:=false) (v:=false) (ss:=ss.take n) hf (fun s hs'=>hs s (Gf hs')) (by rw[Hs];omega);have hlf:=Ze1 hf (ss:=ss.take n) (fun s hs'=>hs s (Gf hs'));have hse:=ZuQ (hst n hlt);generalize hL:Za7 g (ss.take n)=old at *;have hbk:∀ y:Tree,cnt y≤400→Af Tryz.prog 46 [.d (Zbr false old),.d (stpV false ss[n]),.d (Zbz false y)] [] (.tup [.d (Zbz false (Zb8 old ss[n] y).1),.d (Zbu (Zb8 old ss[n] y).2)]) []:=(fun y hy=>ZzN hlf (hs _ (He hlt)) (by omega));have hR:∃ R,ledA old ss[n] l []=R:=⟨_,rfl⟩
    obtain⟨R,hR⟩:=hR;have hRk:=(fun z (h:R=.ok z)=>Zw4 (hR.trans h) (fun x hx=>(by cases hx)));rw[hR] at i4;refine VA ?_;refine ZbB 12 912 56 2 rfl rfl rfl ?_;refine VA ?_;refine Zak (X:=Nat×List Tree) (fun y=>y.1≤l.length∧y.2.length=y.1∧ledA old ss[n] (l.drop y.1) y.2=R) (fun y=>[(47,I y.1),(46,I l.length),(45,.own 909 l.length),(12,.own 912 y.2.length),(11,I n),(9,.own 909 l.length),(7,.ptr 7 0),(3,.ptr 3 0),(0+1,.d (Zec false false ss)),(0+1+1,.d (ints false w))]) (fun y=>[(912,.row 56 2 (y.2.map (ZaV false))),(909,.row 56 2 (l.map (ZaV false))),(7,.box 31 [.d (iD 0),.d (iD 0)]),(3,ZaE false g)]) (fun y=>l.length - y.1) (0,[]) ⟨Hh _,rfl,hR⟩ ?_;rintro⟨j,out⟩ ⟨j1,j2,j3⟩;dsimp only at j1 j2 j3 ⊢;by_cases hjl:j < l.length
    ·have hb:=hbk l[j] (i3 _ (He hjl));rw[ZwW hjl] at j3;by_cases hc:(Zb8 old ss[n] l[j]).2.code=0
     ·rw[Ha (fun q=>q hc)] at j3;have ec:out.map (ZaV false)++[.agg [iD (Zb8 old ss[n] l[j]).1.rule,Zan false (Zb8 old ss[n] l[j]).1.Ab]]=(out++[(Zb8 old ss[n] l[j]).1]).map (ZaV false):=(by rw[Ho,Hm,HF,Zdy]);refine VA ?_;rw[Zdw];refine Zab [] (hA:=hla) (hr:=?_);refine VA ?_;refine Zab [] (hA:=hb) (hr:=?_);refine VA ?_;rw[ec];exact Zad (j+1,out++[(Zb8 old ss[n] l[j]).1]) (a:=⟨by dsimp only;omega,by simp[j2],j3⟩) (b:=by dsimp only;omega)
     ·rw[Hb hc] at j3;subst j3;dsimp only at i4;subst i4;refine VA ?_;rw[Zdw];refine Zab [] (hA:=hla) (hr:=?_);refine VA ?_;refine Zab [] (hA:=hb) (hr:=?_);refine VA ?_;exact fin
    ·have hj:j=l.length:=(by omega);subst hj;rw[GM,ledA] at j3;subst j3;dsimp only at i4;obtain⟨z1,z2⟩:=hRk _ rfl;have hse2:=hse.1;refine VA ?_;have hend:∀ (z:List Tree),z=out++(if w.length=0 then ss[n].empty else [])→z.length+200 * n≤1800∧(∀ x∈z,cnt x≤400)∧trN g ss w n z=r:=fun z hz=>by
      subst hz;refine⟨?_,fun x hx=>?_,i4⟩
      ·rw[Hk];split <;> (try simp only[HB]) <;> omega
      ·rcases List.mem_append.1 hx with hx|hx
       ·exact z2 x hx
       ·split at hx
        ·exact hse.2 x hx
        ·cases hx
     by_cases hw0:w.length=0
     ·rw[Hb hw0] at hend;refine Zak (X:=Nat) (fun e=>e≤ss[n].empty.length) (fun e=>[(83,I e),(82,I ss[n].empty.length),(81,.d (Zan false ss[n].empty)),(12,.own 912 (out++ss[n].empty.take e).length),(11,I n),(9,.own 909 l.length),(7,.ptr 7 0),(3,.ptr 3 0),(0+1,.d (Zec false false ss)),(0+1+1,.d (ints false w))]) (fun e=>[(912,.row 56 2 ((out++ss[n].empty.take e).map (ZaV false))),(909,.row 56 2 (l.map (ZaV false))),(7,.box 31 [.d (iD 0),.d (iD 0)]),(3,ZaE false g)]) (fun e=>ss[n].empty.length - e) 0 (Hh _) ?_;intro e he;by_cases hel:e < ss[n].empty.length
      ·have hto:=ZkN (t:=false) ss[n].empty[e] (Hq (hse.2 _ (He hel)) (by decide));have ec:(out++ss[n].empty.take e).map (ZaV false)++[Zbz false ss[n].empty[e]]=(out++ss[n].empty.take (e+1)).map (ZaV false):=by
        rw[HD hel,←HH,Ho (l₂:=[ss[n].empty[e]]),Hm,HF,Zdy]
       refine VA ?_;refine Zab [] (hA:=hto) (hr:=?_);refine VA ?_;rw[ec,Hi];exact Zad (e+1)
      ·have he:e=ss[n].empty.length:=(by omega);subst he;rw[HO];obtain⟨b1,b2,b3⟩:=hend _ rfl;generalize out++ss[n].empty=z at *;repeat (first|refine Zzf 9 912 909 rfl rfl (by simp) [(11,I n),(7,.ptr 7 0),(3,.ptr 3 0),(0+1,.d (Zec false false ss)),(0+1+1,.d (ints false w))] [(7,.box 31 [.d (iD 0),.d (iD 0)]),(3,ZaE false g)] rfl rfl rfl (by repeat' (first|exact trivial|exact VLe.refl _|refine GY ?_ ?_)) (by repeat' (first|exact trivial|exact Ap.of rfl|refine GY ?_ ?_)) ?_|refine wk1 ?_)
       exact Zad (n,z) (a:=⟨by dsimp only;omega,b1,b2,b3⟩) (b:=by dsimp only;omega)
     ·rw[Ha hw0,Ht] at hend;obtain⟨b1,b2,b3⟩:=hend _ rfl;refine Zak (X:=Nat) (fun e=>e≤ss[n].empty.length) (fun e=>[(83,I e),(82,I ss[n].empty.length),(81,.d (Zan false ss[n].empty)),(12,.own 912 out.length),(11,I n),(9,.own 909 l.length),(7,.ptr 7 0),(3,.ptr 3 0),(0+1,.d (Zec false false ss)),(0+1+1,.d (ints false w))]) (fun e=>[(912,.row 56 2 (out.map (ZaV false))),(909,.row 56 2 (l.map (ZaV false))),(7,.box 31 [.d (iD 0),.d (iD 0)]),(3,ZaE false g)]) (fun e=>ss[n].empty.length - e) 0 (Hh _) ?_;intro e he;by_cases hel:e < ss[n].empty.length
      ·refine VA ?_;exact Zad (e+1)
      ·have he:e=ss[n].empty.length:=(by omega);subst he;repeat (first|refine Zzf 9 912 909 rfl rfl (by simp) [(11,I n),(7,.ptr 7 0),(3,.ptr 3 0),(0+1,.d (Zec false false ss)),(0+1+1,.d (ints false w))] [(7,.box 31 [.d (iD 0),.d (iD 0)]),(3,ZaE false g)] rfl rfl rfl (by repeat' (first|exact trivial|exact VLe.refl _|refine GY ?_ ?_)) (by repeat' (first|exact trivial|exact Ap.of rfl|refine GY ?_ ?_)) ?_|refine wk1 ?_)
       exact Zad (n,out) (a:=⟨by dsimp only;omega,b1,b2,b3⟩) (b:=by dsimp only;omega)
  ·rw[Hb h1] at hr;subst hr;refine VA ?_;refine Zab [] (hA:=hck) (hr:=?_);refine VA ?_;refine Zab [] (hA:=hla) (hr:=?_);refine VA ?_;refine Zab [] (hA:=hfl) (hr:=?_);refine VA ?_;exact fin
 ·rw[Hb h0] at hr;subst hr;refine VA ?_;refine Zab [] (hA:=hck) (hr:=?_);refine VA ?_;exact fin
section
variable {t u:Bool} {g:Ac} {w:List Int}
end
section
variable {t u:Bool} {g:Ac} {w:List Int}
end
section
variable {t u:Bool} {g:Ac} {w:List Int}
end
section
variable {t u v':Bool} {g:Ac} {w:List Int}
end
section
variable {t u:Bool} {g:Ac} {w:List Int}
end
theorem ZDS {g:Ac} {w:List Int} {k L:Nat} {x:Tree} {N:Cube} (hN:Ak g w Zae=N) (h:Zdi g N w 400 g.start.toNat 0 w.length k 400=some (x,L)):atF g w k=(x,⟨0,0⟩,L):=by
 subst hN;unfold atF;rw[h]
def cb1:Step:=⟨⟨2,2,0,[⟨0,[-2]⟩,⟨0,[-2,1]⟩,⟨1,[-1]⟩,⟨1,[-1,1]⟩]⟩,[[.mk 1 1 []],[.mk 4 0 [.mk 1 1 []]],[.mk 1 0 [.mk 3 0 []]],[.mk 4 0 [.mk 1 0 [.mk 3 0 []]]]],[]⟩
def cbG:Ac:=⟨4,2,0,[⟨0,[-2]⟩,⟨2,[-2]⟩,⟨0,[2,1]⟩,⟨1,[-1]⟩,⟨3,[-1]⟩,⟨1,[3,1]⟩]⟩
def cb2:Step:=⟨cbG,[[.mk 1 0 []],[],[.mk 1 1 [.mk 2 0 [],.mk 2 1 []]],[.mk 1 2 []],[],[.mk 1 3 [.mk 2 0 [],.mk 2 1 []]]],[]⟩
theorem ZDT:ZfO againG=(cb1,⟨0,0⟩):=by kernel_rfl
theorem ZDU:Zcz cb1.g=(cb2,⟨0,0⟩):=by kernel_rfl
theorem ZCt:Zc0 pasT againG [6,4]=([cb1,cb2],⟨0,0⟩):=by
 have h0:(Zac againG).code=0:=by kernel_rfl
 unfold Zc0;rw[Ha (fun q=>q h0),Ha (by decide),mkC];have e1:pasT 6 (Za7 againG [])=(cb1,⟨0,0⟩):=by
  unfold pasT;rw[Ha (by decide)];exact ZDT
 rw[e1,Ha (fun q=>q rfl),mkC];have e2:pasT 4 (Za7 againG ([]++[cb1]))=(cb2,⟨0,0⟩):=by
  unfold pasT;rw[Hb rfl];exact ZDU
 rw[e2,Ha (fun q=>q rfl),mkC];rfl
theorem ZDV:chnF againG [cb1,cb2]=⟨0,0⟩:=by kernel_rfl
theorem ZCu:Ak cbG [1,0,0] Zae=rnds cbG [1,0,0] Zae 4:=ZCn (by kernel_rfl)
def cbN:Cube:=fun v i j=>if v=2∧i=0∧j=1 then 1 else if v=3∧((i=1∧j=2)∨(i=2∧j=3)) then 1 else if v=1∧((i=1∧j=2)∨(i=2∧j=3)∨(i=1∧j=3)) then 1 else if v=0∧i=0∧(j=1∨j=2∨j=3) then 1 else 0
theorem ZBS:Ak cbG [1,0,0] Zae=cbN:=by
 rw[ZCu];funext v i j;by_cases h:(v:Int) < cbG.vars∧i≤j∧j≤([1,0,0]:List Int).length
 ·obtain⟨h1,h2,h3⟩:=h;have h1:v < 4:=by have:cbG.vars=4:=rfl;omega
  have h3:j < 4:=by simp at h3;omega
  have key:∀ v,v < 4→∀ j,j < 4→∀ i,i < 4→rnds cbG [1,0,0] Zae 4 v i j=cbN v i j:=by decide +kernel
  exact key v h1 j h3 i (by omega)
 ·rw[ZhF h];unfold cbN;have h':¬ (v < 4∧i≤j∧j≤3):=fun q=>h ⟨by have:cbG.vars=4:=rfl;omega,q.2.1,by simpa using q.2.2⟩
  rw[Ha (by omega),Ha (by omega),Ha (by omega),Ha (by omega)]
theorem ZBT:cntF cbG [1,0,0]=1:=by unfold cntF;rw[ZBS];rfl
theorem ZDW:chF cbG [1,0,0]=⟨0,0⟩:=by kernel_rfl
theorem ZEP:opF cbG [1,0,0]=⟨0,0⟩:=by
 unfold opF;rw[ZBT,Ha (show ¬ 1=Zae by decide),ZDW];rfl
def cbT:Tree:=.mk 2 [.mk 1 [],.mk 5 [.mk 4 [],.mk 3 []]]
def cbX:Tree:=.mk 0 [.mk 0 [.mk 1 []]]
theorem ZEQ (d L:Nat):Zdi cbG cbN [1,0,0] (d+4) 0 0 3 0 (L+5)=some (cbT,L):=by kernel_rfl
theorem ZER {d L v n:Nat} (hd:4≤d) (hL:5≤L) (hv:v=0) (hn:n=3):Zdi cbG cbN [1,0,0] d v 0 n 0 L=some (cbT,L - 5):=by
 obtain⟨e,rfl⟩:∃ e,d=e+4:=⟨d - 4,by omega⟩
 obtain⟨M,rfl⟩:∃ M,L=M+5:=⟨L - 5,by omega⟩
 subst hv hn;rw[ZEQ,Nat.add_sub_cancel]
theorem ZDX:atF cbG [1,0,0] 0=(cbT,⟨0,0⟩,395):=ZDS ZBS (ZER (by omega) (by omega) rfl rfl)
theorem ZCv:Zaw cbG [1,0,0]=([cbT],⟨0,0⟩):=by
 unfold Zaw;rw[ZEP,ZBT,Hb rfl,Ha (by omega),ZdE,ZDX,Hb rfl,ZdE];rfl
theorem ZES:trN againG [cb1,cb2] [1,0,0] 2 [cbT]=([cbX],⟨0,0⟩):=by kernel_rfl
theorem ZAd:ZfP againG [cb1,cb2] [1,0,0]=([cbX],⟨0,0⟩):=by
 unfold ZfP;rw[ZDV,Ha (by decide),show Za7 againG [cb1,cb2]=cbG from rfl,ZCv,Ha (by decide)];exact ZES
theorem Zrr:againG.fit:=⟨by decide,fun r hr=>by simp[againG] at hr;rcases hr with rfl|rfl <;> decide⟩
theorem ZwX:∀ s∈[cb1,cb2],s.fit:=fun s hs=>by
 simp only[Gq,GB,or_false] at hs;rcases hs with rfl|rfl
 ·exact⟨⟨by decide,by decide⟩,by decide,by decide,by decide⟩
 ·exact⟨⟨by decide,by decide⟩,by decide,by decide,by decide⟩
theorem ZAe:Zgs Tryz.prog 24 3 4 3:=Zoi Tryz.underlying24 rfl rfl rfl Tryz.underlying22 rfl
theorem ZlR:Af Tryz.prog 8 [] [] (B true) []:=by
 refine Af.intro (n:=49) Tryz.func8 (hw:=?_);simp only[Zal];have hm:=ZmN (t:=false) (u:=false) (P:=pasT) (g:=againG) (ks:=[6,4]) Zrr (by decide) (fun k hk g hg=>by
  have hk2:k=4∨k=6:=by simp at hk;omega
  refine⟨ZA3 hk2 hg,?_⟩;unfold pasT;split
  ·exact ZmT g
  ·exact Zq5 g)
 have ht:=Zkv (g:=againG) (ss:=[cb1,cb2]) (w:=[1,0,0]) Zrr ZwX (by decide) (by decide);have hl:=ZhI (t:=false) (u:=false) (v:=false) (g:=againG) (ss:=[cb1,cb2]) Zrr ZwX (by decide);rw[ZCt] at hm;rw[ZAd] at ht;rw[show Za7 againG [cb1,cb2]=cbG from rfl] at hl;have hl:Af Tryz.prog 15 [.d (Zbr false againG),.d (Zec false false [cb1,cb2])] [] (.d (.agg [iD cbG.vars,iD cbG.terms,iD cbG.start,ZaS false cbG.Aa])) []:=hl;refine VA ?_;refine Zab [] (hA:=ZkO) (hr:=?_);refine VA ?_;refine Zab [] (hA:=hm) (hr:=?_);refine VA ?_;refine Zab [] (hA:=ZkO) (hr:=?_);refine VA ?_;refine Zab [] (hA:=ht) (hr:=?_);refine VA ?_;refine Zab [] (hA:=ZkO) (hr:=?_);refine VA ?_;refine Zab [] (hA:=hl) (hr:=?_);refine Zaa (hF:=ZAe) (hr:=?_);refine VA ?_;exact fin
section
variable {P:Int→Ac→Step×Zcf} {g:Ac}
theorem ZwY (hP:∀ k g,(P k g).1.fit):∀ (ks:List Int) (i:Nat) (out:List Step),(∀ s∈out,s.fit)→∀ s∈(mkC P g ks i out).1,s.fit
 | [],_,_,h=>h
 | k::ks,i,out,h=>by
  by_cases hc:(P k (Za7 g out)).2.code=0
  ·rw[Zn5 hc];refine ZwY hP ks _ _ fun s hs=>?_
   rcases List.mem_append.1 hs with hs|hs
   ·exact h s hs
   ·rw[List.mem_singleton.1 hs];exact hP _ _
  ·rw[Zn6 hc];intro s hs;cases hs
theorem ZwZ:∀ (ks:List Int) (i:Nat) (out:List Step),(mkC P g ks i out).1.length≤out.length+ks.length
 | [],_,_=>Hg _
 | k::ks,i,out=>by
  by_cases hc:(P k (Za7 g out)).2.code=0
  ·rw[Zn5 hc];have:=ZwZ ks (i+1) (out++[(P k (Za7 g out)).1]);rw[Hk,HS] at this;rw[Hl];omega
  ·rw[Zn6 hc];exact Hh _
theorem Zw0 (hP:∀ k g,(P k g).1.fit) {ks:List Int}:∀ s∈(Zc0 P g ks).1,s.fit:=by
 unfold Zc0;split
 ·intro s hs;cases hs
 ·split
  ·intro s hs;cases hs
  ·exact ZwY hP ks 0 [] fun s hs=>by cases hs
theorem Zw1 {ks:List Int}:(Zc0 P g ks).1.length≤ks.length:=by
 unfold Zc0;split
 ·exact Hh _
 ·split
  ·exact Hh _
  ·have:=ZwZ (P:=P) (g:=g) ks 0 [];rw[HB,HE] at this;exact this
end
end Go.Proofs.YtbpmepgnjanhnaaGreat
