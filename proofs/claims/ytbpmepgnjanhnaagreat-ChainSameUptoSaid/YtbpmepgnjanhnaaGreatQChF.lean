import Derived.Test.YtbpmepgnjanhnaaGreatQRank
import Derived.Test.YtbpmepgnjanhnaaGreatSmN
set_option linter.unusedVariables false
set_option linter.unusedSimpArgs false
set_option linter.unusedSectionVars false
set_option maxHeartbeats 4000000
set_option maxRecDepth 100000
namespace Go.Proofs.YtbpmepgnjanhnaaGreat
open Go.RowKit
abbrev Zae:Nat:=4611686018427387904
theorem Zpk {a b:Nat} (ha:a≤Zae) (hb:b≤Zae):Af Tryz.prog 24 [I a,I b] [] (I (min Zae (a+b):Nat)) []:=by
 have e:minI ((a:Int)+minI b (4611686018427387904 - a)) 4611686018427387904=((min Zae (a+b):Nat):Int):=by
  unfold minI Zae;unfold Zae at ha hb;split <;> split <;> omega
 have h1:(a:Int)+minI (b:Int) (4611686018427387904 - a)≤4611686018427387904:=by
  unfold minI;unfold Zae at ha hb;split <;> omega
 have h2:0≤minI (b:Int) (4611686018427387904 - a):=by
  unfold minI;unfold Zae at ha hb;split <;> omega
 unfold Zae at ha hb;rw[←e];generalize hx:minI (b:Int) (4611686018427387904 - a)=x at *;refine Af.intro (n:=12) Tryz.func24 (hw:=?_);simp only[Zal];refine VA ?_;rw[hx];refine VA ?_;exact fin
theorem Zmh {a b:Nat} (ha:a≤Zae) (hb:b≤Zae):Af Tryz.prog 216 [I a,I b] [] (I (min Zae (a * b):Nat)) []:=by
 by_cases h0:a=0∨b=0
 ·have e:min Zae (a * b)=0:=by rcases h0 with h|h <;> subst h <;> simp
  rw[e];refine Af.intro (n:=18) Tryz.func216 (hw:=?_);simp only[Zal];by_cases h1:a=0
  ·subst h1;refine VA ?_;refine VB ?_;refine VA ?_;exact fin
  ·have h2:b=0:=by omega
   subst h2;have h1':¬ (a:Int)=0:=by omega
   refine VA ?_;exact fin
 ·have ha0:¬ (a:Int)=0:=by omega
  have hb0:¬ (b:Int)=0:=by omega
  have hq:(4611686018427387904:Int) / b=((Zae / b:Nat):Int):=by rw[JH];rfl
  have hlt:Zae / b < a↔Zae < a * b:=Nat.div_lt_iff_lt_mul (by omega);by_cases h3:Zae < a * b
  ·have e:((min Zae (a * b):Nat):Int)=4611686018427387904:=by unfold Zae at *;omega
   rw[e];have h3':(4611686018427387904:Int) / b < a:=by rw[hq];have:=hlt.2 h3;omega
   unfold Zae at ha hb;refine Af.intro (n:=18) Tryz.func216 (hw:=?_);simp only[Zal];refine VA ?_;exact fin
  ·have e:((min Zae (a * b):Nat):Int)=(a:Int) * b:=by rw[Nat.min_eq_right (by omega)];exact Int.natCast_mul a b
   rw[e];have hab:(a:Int) * b≤4611686018427387904:=by rw[←e];unfold Zae;omega
   have hab0:0≤(a:Int) * b:=by rw[←e];omega
   have h3':¬ (4611686018427387904:Int) / b < a:=by rw[hq];have:=mt hlt.1 h3;omega
   unfold Zae at ha hb;refine Af.intro (n:=18) Tryz.func216 (hw:=?_);simp only[Zal];refine VA ?_;exact fin
def ZbD (N:Cube) (l:ML):Prop:=∀ x∈l,x.2=((N x.1.1.toNat x.1.2.1.toNat x.1.2.2.toNat:Nat):Int)
abbrev cxBx (g:Ac) (w:List Int) (nl:List Bool) (k:Nat):Ob:=.box 91 [.d (iD g.vars),.d (iD g.terms),.d (iD g.start),.d (ZaS false g.Aa),.d (ints false w),.d (ZEO false nl),.mapv k]
abbrev cxH (g:Ac) (w:List Int) (nl:List Bool) (N:Cube):Hp:=[(1000,cxBx g w nl 1001),(1001,.mp (ZbD N))]
def Zb6 (w:List Int) (i j:Int):Bool:=decide (0≤i∧i≤j∧j≤w.length)
theorem Zea {g:Ac} {w:List Int} {nl:List Bool} {N:Cube} (hw:w.length≤100000) (i j:Int):Af Tryz.prog 91 [.ptr 1000 0,I i,I j] (cxH g w nl N) (B (Zb6 w i j)) (cxH g w nl N):=by
 refine Af.intro (n:=23) Tryz.func91 (hw:=?_);simp only[Zal];by_cases h1:0≤i
 ·by_cases h2:i≤j
  ·by_cases h3:j≤w.length
   ·rw[show Zb6 w i j=true from Hu ⟨h1,h2,h3⟩];refine VA ?_;exact fin
   ·rw[show Zb6 w i j=false from HC (fun h=>h3 h.2.2)];refine VA ?_;exact fin
  ·rw[show Zb6 w i j=false from HC (fun h=>h2 h.2.1)];refine VA ?_;refine VB ?_;refine VA ?_;exact fin
 ·rw[show Zb6 w i j=false from HC (fun h=>h1 h.1)];refine VA ?_;refine VB ?_;refine VA ?_;exact fin
theorem Zrk {g:Ac} {w:List Int} {nl:List Bool} {N:Cube} {s:Int} (hs:s < nl.length):Af Tryz.prog 225 [I s,.ptr 1002 0] ((1002,.box 48 [.ptr 1000 0])::cxH g w nl N) (B (!has nl s)) ((1002,.box 48 [.ptr 1000 0])::cxH g w nl N):=by
 refine Af.intro (n:=16) Tryz.func225 (hw:=?_);simp only[Zal];by_cases h:s < 0
 ·rw[show has nl s=false by unfold has;simp;intro;omega];refine VA ?_;refine VB ?_;refine VA ?_;exact fin
 ·obtain⟨k,rfl⟩:∃ k:Nat,s=(k:Int):=⟨s.toNat,by omega⟩
  have hk:k < nl.length:=by omega
  rw[ZbH,Hf,Hj hk,HW];refine VA ?_;exact fin
theorem ZuH {g:Ac} {w:List Int} {nl:List Bool} {N:Cube} {t:Bool} {right:List Int} (hl:right.length≤100000) (hs:∀ s∈right,s < nl.length):Af Tryz.prog 215 [.ptr 1000 0,.d (ints t right)] (cxH g w nl N) (B (ZaQ right nl)) (cxH g w nl N):=by
 have e:(!(right.any fun s=>!has nl s))=ZaQ right nl:=by
  unfold ZaQ;rw[List.not_any_eq_all_not];simp
 have hcf:=Zb0 (t:=t) (clos:=225) (caps:=[.ptr 1002 0]) (H:=(1002,.box 48 [.ptr 1000 0])::cxH g w nl N) (xs:=right) (p:=fun s=>!has nl s) ⟨rfl,rfl,rfl,rfl,rfl,rfl,trivial⟩ (fun x hx=>Zrk (hs x hx)) (by omega);rw[←e];generalize (right.any fun s=>!has nl s)=b at *;refine Af.intro (n:=9) Tryz.func215 (hw:=?_);simp only[Zal];refine VA ?_;refine Zab [(1002,2)] (hA:=hcf) (hr:=?_);refine VA ?_;exact fin
structure OkC (P:Program) (g:Ac) (w:List Int) (N:Cube) (j:Nat) (Q:List Int→Nat→Prop):Prop where
 sym:∀ s rest i,Q (s::rest) i→s < g.vars ∧ -1000000≤s
 len:∀ l i,Q l i→l.length≤1000
 all:∀ s rest i,Q (s::rest) i→∀ x∈rest,x < g.vars
 of_:∀ (s:Nat) rest i m,Q ((s:Int)::rest) i→i≤m→m≤j→(m=j→ZaQ rest (nulB g)=true) →
  Af P 54 [.ptr 1000 0,I s,I i,I m] (cxH g w (nulB g) N) (I ((N s i m:Nat):Int)) (cxH g w (nulB g) N)
 next:∀ s rest i m,Q (s::rest) i→i≤m→(m=i→has (nulB g) s=true)→Q rest m
section
variable {g:Ac} {w:List Int} {N:Cube} {j:Nat} {Q:List Int→Nat→Prop}
theorem ZzX {r:List Int} {i:Nat} (hN0:∀ v i,N v i i≠0→has (nulB g) (v:Int)=true) (h:ZaQ r (nulB g)=false):wcn N w r i i=0 :=
 HN fun e=>by rw[ZnY hN0 r i e] at h;cases h
theorem Zmi (hg:g.ok) (hw:w.length≤100000) (hwr:∀ x∈w,0≤x∧x≤1000000) (hN:∀ v i j,N v i j≤Zae) (hN0:∀ v i,N v i i≠0→has (nulB g) (v:Int)=true) (hj:j≤w.length) (hO:OkC Tryz.prog g w N j Q)
  {t:Bool} {right:List Int} {s:Int} {rest:List Int} {i m:Nat} (hright:right=s::rest) (hq:Q (s::rest) i) (him:i≤m) (hmj:m≤j)
  (hrow:Q rest m→Af Tryz.prog 93 [.ptr 1000 0,.d (ints t rest),I m,I j] (cxH g w (nulB g) N) (I ((min Zae (wcn N w rest m j):Nat):Int)) (cxH g w (nulB g) N)) :
  Af Tryz.prog 173 [.ptr 1000 0,.d (ints t right),I i,I m,I j] (cxH g w (nulB g) N) (I ((min Zae (symN N w s i m * wcn N w rest m j):Nat):Int)) (cxH g w (nulB g) N):=by
 have hnl:(nulB g).length=g.vars.toNat:=ZcR hg;obtain⟨hs1,hs2⟩:=hO.sym _ _ _ hq;have hll:=hO.len _ _ hq;simp only[Hl] at hll;have hvv:=hg.vars;have hv1:=hg.vars1;have hem:=ZuH (g:=g) (w:=w) (nl:=nulB g) (N:=N) (t:=t) (right:=rest) (by omega) (fun x hx=>by have:=hO.all _ _ _ hq x hx;omega);have hof:=fun (sn:Nat) (e:s=(sn:Int)) (h:m=j→ZaQ rest (nulB g)=true)=>hO.of_ sn rest i m (e ▸ hq) him hmj h
 have hnx:=hO.next _ _ _ m hq him
 have hlen:right.length=rest.length+1:=by rw[hright];rfl
 have e1:(right.map iD).drop 1=rest.map iD:=by rw[hright];rfl
 have hr0:∀ h:0 < right.length,right[0]=s:=fun h=>by subst hright;rfl
 have hr0':=hr0 (by omega);have hsn:0≤s→symN N w s i m=N s.toNat i m:=fun h=>by unfold symN;rw[Hb h]
 have hsn2:s < 0→symN N w s i m=if m=i+1∧w[i]? = some (-1 - s) then 1 else 0:=fun h=>by unfold symN;rw[Ha (by omega)]
 have hz0:m=j→ZaQ rest (nulB g)=false→wcn N w rest m j=0:=fun e h=>by subst e;exact ZzX hN0 h
 have hN0':=hN0;clear hright hO hq;generalize hWW:wcn N w rest m j=W at *;generalize hSY:symN N w s i m=SY at *;generalize hIA:ZaQ rest (nulB g)=ia at *;generalize hNB:nulB g=NB at *;refine Af.intro (n:=78) Tryz.func173 (hw:=?_);simp only[Zal];refine VA ?_;rw[HO,e1,hr0'];by_cases hmj2:m=j
 ·cases ia with
  | false =>
   rw[hz0 hmj2 rfl,Nat.mul_zero,Jw];refine VA ?_;refine Zau [(1000,1000),(1001,1001)] (hA:=hem) (hr:=?_);refine VA ?_;exact fin
  | true =>
   have hmj3:(m:Int)=j:=by omega
   refine VA ?_;refine Zau [(1000,1000),(1001,1001)] (hA:=hem) (hr:=?_);refine VA ?_;by_cases hs0:s < 0
   ·have hS:=hsn2 hs0;by_cases hm1:m=i+1
    ·subst hm1;have hiw:i < w.length:=(by omega);have hwm:=hwr _ (He hiw);have hwi:w[i]? = some w[i]:=(by simp);by_cases hw0:w[i] = -1 - s
     ·have hS1:SY=1:=(by rw[hS,Hb ⟨rfl,by rw[hwi,hw0]⟩]);have hR:=hrow (hnx (fun e=>by omega));rw[hS1,Nat.one_mul];refine VA ?_;refine Zau [(1000,1000),(1001,1001)] (hA:=hR) (hr:=?_);refine VA ?_;exact fin
     ·have hS1:SY=0:=(by rw[hS,Ha (fun h=>hw0 (by have:=h.2;rw[hwi] at this;simpa using this))]);rw[hS1,GK,Jw];refine VA ?_;exact fin
    ·have hm1':¬ (m:Int)=(i:Int)+1:=(by omega);have hS1:SY=0:=(by rw[hS,Ha (fun h=>hm1 h.1)]);rw[hS1,GK,Jw];refine VA ?_;refine VB ?_;refine VA ?_;exact fin
   ·obtain⟨sn,rfl⟩:∃ sn:Nat,s=(sn:Int):=⟨s.toNat,by omega⟩
    have hS:=hsn (by omega);rw[Hn] at hS;have hsl:sn < NB.length:=(by omega);have hnb:has NB (sn:Int)=NB[sn]:=(by rw[ZbH,Hf,Hj hsl,HW]);by_cases hmi:m=i∧NB[sn]=false
    ·obtain⟨rfl,hnf⟩:=hmi;have hS1:SY=0:=by
      rw[hS];refine HN fun e=>?_
      have:=hN0' sn m e;rw[hnb,hnf] at this;cases this
     rw[hS1,GK,Jw];refine VA ?_;exact fin
    ·have hR:=hrow (hnx (fun e=>by rw[hnb];cases hq:NB[sn] with|true=>rfl|false=>exact absurd ⟨e,hq⟩ hmi));have hof':=hof sn rfl (fun e=>rfl);have hSM:SY≤Zae:=(by rw[hS];exact hN _ _ _);rw[←hS] at hof';have htm:=Zmh (a:=SY) (b:=min Zae W) hSM (Jx _ _);rw[ZhE] at htm;have hW0:W=0→SY * W=0:=(fun e=>by rw[e,Nat.mul_zero]);have hW1:W≠0→¬ ((min Zae W:Nat):Int)=0:=(fun e=>by unfold Zae;omega);generalize hmw:min Zae W=mw at *;generalize hms:min Zae (SY * W)=ms at *;by_cases hz:W=0
     ·have e1:mw=0:=(by rw[←hmw,hz];simp);have e2:ms=0:=(by rw[←hms,hW0 hz];simp);subst e1;subst e2;by_cases hmi2:m=i
      ·have hnt:NB[sn]=true:=by cases hq:NB[sn] with|true=>rfl|false=>exact absurd ⟨hmi2,hq⟩ hmi
       refine VA ?_;refine Zau [(1000,1000),(1001,1001)] (hA:=hR) (hr:=?_);refine VA ?_;exact fin
      ·have hmi3:¬ (m:Int)=i:=(by omega);refine VA ?_;refine VB ?_;refine VA ?_;refine Zau [(1000,1000),(1001,1001)] (hA:=hR) (hr:=?_);refine VA ?_;exact fin
     ·have hmz:=hW1 hz;by_cases hmi2:m=i
      ·have hnt:NB[sn]=true:=by cases hq:NB[sn] with|true=>rfl|false=>exact absurd ⟨hmi2,hq⟩ hmi
       refine VA ?_;refine Zau [(1000,1000),(1001,1001)] (hA:=hR) (hr:=?_);refine VA ?_;refine Zau [(1000,1000),(1001,1001)] (hA:=hof') (hr:=?_);refine VA ?_;refine Zau [] (hA:=htm) (hr:=?_);refine VA ?_;exact fin
      ·have hmi3:¬ (m:Int)=i:=(by omega);refine VA ?_;refine VB ?_;refine VA ?_;refine Zau [(1000,1000),(1001,1001)] (hA:=hR) (hr:=?_);refine VA ?_;refine Zau [(1000,1000),(1001,1001)] (hA:=hof') (hr:=?_);refine VA ?_;refine Zau [] (hA:=htm) (hr:=?_);refine VA ?_;exact fin
 ·have hmj3:¬ (m:Int)=j:=by omega
  refine VA ?_;refine VB ?_;refine VA ?_;by_cases hs0:s < 0
  ·have hS:=hsn2 hs0;by_cases hm1:m=i+1
   ·subst hm1;have hiw:i < w.length:=(by omega);have hwm:=hwr _ (He hiw);have hwi:w[i]? = some w[i]:=(by simp);by_cases hw0:w[i] = -1 - s
    ·have hS1:SY=1:=(by rw[hS,Hb ⟨rfl,by rw[hwi,hw0]⟩]);have hR:=hrow (hnx (fun e=>by omega));rw[hS1,Nat.one_mul];refine VA ?_;refine Zau [(1000,1000),(1001,1001)] (hA:=hR) (hr:=?_);refine VA ?_;exact fin
    ·have hS1:SY=0:=(by rw[hS,Ha (fun h=>hw0 (by have:=h.2;rw[hwi] at this;simpa using this))]);rw[hS1,GK,Jw];refine VA ?_;exact fin
   ·have hm1':¬ (m:Int)=(i:Int)+1:=(by omega);have hS1:SY=0:=(by rw[hS,Ha (fun h=>hm1 h.1)]);rw[hS1,GK,Jw];refine VA ?_;refine VB ?_;refine VA ?_;exact fin
  ·obtain⟨sn,rfl⟩:∃ sn:Nat,s=(sn:Int):=⟨s.toNat,by omega⟩
   have hS:=hsn (by omega);rw[Hn] at hS;have hsl:sn < NB.length:=by omega
   have hnb:has NB (sn:Int)=NB[sn]:=by rw[ZbH,Hf,Hj hsl,HW]
   by_cases hmi:m=i∧NB[sn]=false
   ·obtain⟨rfl,hnf⟩:=hmi;have hS1:SY=0:=by
     rw[hS];refine HN fun e=>?_
     have:=hN0' sn m e;rw[hnb,hnf] at this;cases this
    rw[hS1,GK,Jw];refine VA ?_;exact fin
   ·have hR:=hrow (hnx (fun e=>by rw[hnb];cases hq:NB[sn] with|true=>rfl|false=>exact absurd ⟨e,hq⟩ hmi));have hof':=hof sn rfl (fun e=>absurd e hmj2);have hSM:SY≤Zae:=(by rw[hS];exact hN _ _ _);rw[←hS] at hof';have htm:=Zmh (a:=SY) (b:=min Zae W) hSM (Jx _ _);rw[ZhE] at htm;have hW0:W=0→SY * W=0:=(fun e=>by rw[e,Nat.mul_zero]);have hW1:W≠0→¬ ((min Zae W:Nat):Int)=0:=(fun e=>by unfold Zae;omega);generalize hmw:min Zae W=mw at *;generalize hms:min Zae (SY * W)=ms at *;by_cases hz:W=0
    ·have e1:mw=0:=(by rw[←hmw,hz];simp);have e2:ms=0:=(by rw[←hms,hW0 hz];simp);subst e1;subst e2;by_cases hmi2:m=i
     ·have hnt:NB[sn]=true:=by cases hq:NB[sn] with|true=>rfl|false=>exact absurd ⟨hmi2,hq⟩ hmi
      refine VA ?_;refine Zau [(1000,1000),(1001,1001)] (hA:=hR) (hr:=?_);refine VA ?_;exact fin
     ·have hmi3:¬ (m:Int)=i:=(by omega);refine VA ?_;refine VB ?_;refine VA ?_;refine Zau [(1000,1000),(1001,1001)] (hA:=hR) (hr:=?_);refine VA ?_;exact fin
    ·have hmz:=hW1 hz;by_cases hmi2:m=i
     ·have hnt:NB[sn]=true:=by cases hq:NB[sn] with|true=>rfl|false=>exact absurd ⟨hmi2,hq⟩ hmi
      refine VA ?_;refine Zau [(1000,1000),(1001,1001)] (hA:=hR) (hr:=?_);refine VA ?_;refine Zau [(1000,1000),(1001,1001)] (hA:=hof') (hr:=?_);refine VA ?_;refine Zau [] (hA:=htm) (hr:=?_);refine VA ?_;exact fin
     ·have hmi3:¬ (m:Int)=i:=(by omega);refine VA ?_;refine VB ?_;refine VA ?_;refine Zau [(1000,1000),(1001,1001)] (hA:=hR) (hr:=?_);refine VA ?_;refine Zau [(1000,1000),(1001,1001)] (hA:=hof') (hr:=?_);refine VA ?_;refine Zau [] (hA:=htm) (hr:=?_);refine VA ?_;exact fin
end
theorem ZuI (w:World) (k k':Int×Int×Int):(Op.equal 123 (spK k) (spK k')).run Tryz.prog w=.ok (decide (k=k')) w:=by
 obtain⟨a,b,c⟩:=k;obtain⟨a',b',c'⟩:=k';unfold spK Op.equal;rw[show Op.maxDepth=9998+1+1 from rfl];unfold Op.equalIn;simp only[Sem.run_bind,run_underlying Tryz.underlying123,Result.andThen_ok];simp[Sem.run_bind,go_sem];by_cases h1:a=a' <;> by_cases h2:b=b' <;> by_cases h3:c=c' <;> simp[h1,h2,h3]
theorem ZuJ (em:Bool) (n:Nat) (a:Int) (w:World):(Instr.checkKey em (n+1) 3 (.int .i64 a)).run Tryz.prog w=.ok () w:=by
 simp[Instr.checkKey,Sem.run_bind,run_underlying Tryz.underlying3]
theorem Zrl (em:Bool) (k:Int×Int×Int) (w:World):(Instr.checkKey em 10000 123 (spK k)).run Tryz.prog w=.ok () w:=by
 rw[show (10000:Nat)=9998+1+1 from rfl];unfold Instr.checkKey spK;simp only[Sem.run_bind,run_underlying Tryz.underlying123,Result.andThen_ok];simp[Sem.run_bind,go_sem,ZuJ]
theorem ZwD:KeyRun Tryz.prog 89 123 3 where
 hm:=Tryz.underlying89
 chk:=Zrl
 now:=⟨_,Tryz.underlying123,fun _ _=>rfl⟩
 eq:=fun k k' w=>ZuI w k k'
 zero:=fun w=>by
  obtain⟨i,ds,h1,_,_,_,_,h6,_⟩:=ZaH (TT.at TY (t:=3) rfl);simp[zeroValue,typeInfo,Sem.run_bind,h1,h6,go_sem]
section
variable {g:Ac} {w:List Int} {N:Cube} {j:Nat} {Q:List Int→Nat→Prop}
theorem Zrm (hg:g.ok) (hw:w.length≤100000) (hwr:∀ x∈w,0≤x∧x≤1000000) (hN:∀ v i j,N v i j≤Zae) (hN0:∀ v i,N v i i≠0→has (nulB g) (v:Int)=true) (hj:j≤w.length) (hO:OkC Tryz.prog g w N j Q):∀ (right:List Int) (i:Nat) (t:Bool),Q right i→i≤j →
  Af Tryz.prog 93 [.ptr 1000 0,.d (ints t right),I i,I j] (cxH g w (nulB g) N) (I ((min Zae (wcn N w right i j):Nat):Int)) (cxH g w (nulB g) N):=by
 intro right
 induction right with
 | nil =>
  intro i t hq hij;have e0:wcn N w [] i j=if i=j then 1 else 0:=rfl
  rw[e0];generalize nulB g=NB at *;refine Af.intro (n:=32) Tryz.func93 (hw:=?_);simp only[Zal];by_cases e:i=j
  ·rw[Hb e];have e':(i:Int)=j:=by omega
   refine VA ?_;exact fin
  ·rw[Ha e];have e':¬ (i:Int)=j:=by omega
   refine VA ?_;exact fin
 | cons s rest ih =>
  intro i t hq hij;have hfirst:=fun m (h1:i≤m) (h2:m≤j)=>Zmi (t:=t) hg hw hwr hN hN0 hj hO (right:=s::rest) rfl hq h1 h2 (fun hqr=>ih m t hqr h2)
  have hll:=hO.len _ _ hq;have e0:wcn N w (s::rest) i j=Al (j+1) fun m=>if i≤m then symN N w s i m * wcn N w rest m j else 0:=rfl
  rw[e0];have hstep:∀ m,i≤m→min Zae (min Zae (Al m fun m=>if i≤m then symN N w s i m * wcn N w rest m j else 0)+min Zae (symN N w s i m * wcn N w rest m j))=min Zae (Al (m+1) fun m=>if i≤m then symN N w s i m * wcn N w rest m j else 0):=fun m hm=>by
   rw[Zpq,Zpr];simp only[Al,Hb hm]
  have hpl:=fun m (hm:i≤m)=>Zpk (a:=min Zae (Al m fun m=>if i≤m then symN N w s i m * wcn N w rest m j else 0)) (b:=min Zae (symN N w s i m * wcn N w rest m j)) (Jx _ _) (Jx _ _)
  have hz:(Al i fun m=>if i≤m then symN N w s i m * wcn N w rest m j else 0)=0:=ZeZ (fun x hx=>by rw[Ha (by omega)]);have hlen:(s::rest).length=rest.length+1:=rfl;generalize hRR:s::rest=right at *;generalize hF:(fun m=>if i≤m then symN N w s i m * wcn N w rest m j else 0)=F at *;generalize nulB g=NB at *;refine Af.intro (n:=32) Tryz.func93 (hw:=?_);simp only[Zal];refine VA ?_;have e:(0:Int)=((min Zae (Al i F):Nat):Int):=by rw[hz];rfl
  refine Zak (X:=Nat) (fun m=>i≤m∧m≤j+1) (fun m=>[(10,I m),(9,I ((min Zae (Al m F):Nat):Int)),(3,I j),(2,I i),(1,.d (ints t right)),(0,.ptr 1000 0)]) (fun _=>cxH g w NB N) (fun m=>j+1 - m) i ⟨Hg _,by omega⟩ ?_;clear e;rintro m ⟨m1,m2⟩;by_cases hm:m≤j
  ·have hf:=hfirst m m1 hm;have hp:=hpl m m1;have hst:=hstep m m1;rw[hst] at hp;generalize min Zae (symN N w s i m * wcn N w rest m j)=fm at *;generalize min Zae (Al m F)=a0 at *;generalize hb0:min Zae (Al (m+1) F)=b0 at *;refine VA ?_;refine Zau [(1000,1000),(1001,1001)] (hA:=hf) (hr:=?_);refine VA ?_;refine Zau [] (hA:=hp) (hr:=?_);refine VA ?_;subst hb0;exact Zad (m+1)
  ·obtain rfl:m=j+1:=by omega
   refine VA ?_;exact fin
end
theorem ZDN {g:Ac} {v:Int} (f:List Int→Nat):((by_ g v).map fun b=>f (Zaj g b)).sum=((g.Aa.filter fun r=>decide (r.left=v)).map fun r=>f r.right).sum:=by
 have key:∀ (rs pre:List Rule),g.Aa=pre++rs→((byR rs v pre.length).map fun b=>f (Zaj g b)).sum=((rs.filter fun r=>decide (r.left=v)).map fun r=>f r.right).sum:=by
  intro rs
  induction rs with
  | nil=>intro pre _;rfl
  | cons r rs ih =>
   intro pre h;have ih':=ih (pre++[r]) (by rw[h];simp);rw[Hk,HS] at ih';have hr:Zaj g ((pre.length:Nat):Int)=r.right:=by
    rw[Zax (by rw[h];simp)];congr 1;simp[h]
   by_cases e:r.left=v
   ·rw[Gr (by simpa using e),byR];rw[Hb e];simp only[Hm,List.sum_cons];rw[hr];omega
   ·rw[GJ (by simpa using e),byR];rw[Ha e];exact ih'
 exact key g.Aa [] rfl
theorem ZwE {P:Program} {n:Nat} {Q:Exit→Fr→Hp→Prop} {fr:Fr} {h:Hp} {c:Code} (i j k:Nat) (p:ML→Prop) (hi:fget fr i=.ptr j 0) (hk:Ah h k=some (.mp p)) (hc:∀ l,p l→aw P n c Q fr ((k,.mp (Eq l))::h)):aw P n c Q fr h:=ZvN k hk hc
theorem Zmj {P:Program} {n:Nat} {Q:Exit→Fr→Hp→Prop} {fr:Fr} {h:Hp} {c:Code} (i k:Nat) {b:Bool} (l:ML) (p:ML→Prop) (hi:fget fr i=B b) (hk:Ah h k=some (.mp (Eq l))) (hp:p l) (hc:aw P n c Q fr ((k,.mp p)::h)):aw P n c Q fr h:=fun G E a w hn C=>by
 obtain⟨es,clock,l',h1,h2,rfl⟩:=C.heap.obs k _ hk;exact hc G E a w hn (C.setMap hk (Ext.refl _ _) ⟨es,clock,_,h1,h2,hp⟩)
theorem ZwF {g:Ac} {w:List Int} (hg:g.ok) (hcy:cycL g=[]) (hw:w.length≤100000) (hwr:∀ x∈w,0≤x∧x≤1000000):∀ (n v i j:Nat),muC g v i j < n→(v:Int) < g.vars→i≤j→j≤w.length →
  Af Tryz.prog 54 [.ptr 1000 0,I v,I i,I j] (cxH g w (nulB g) (Ak g w Zae)) (I ((Ak g w Zae v i j:Nat):Int)) (cxH g w (nulB g) (Ak g w Zae)):=by
 intro n
 induction n with
 | zero=>intro v i j h;omega
 | succ n ih =>
 intro v i j hn hv hij hj;have hwt:=Zea (g:=g) (w:=w) (nl:=nulB g) (N:=Ak g w Zae) hw i j;rw[show Zb6 w i j=true from Hu ⟨by omega,by omega,by omega⟩] at hwt;have hby:=Zmd (t:=false) (g:=g) (v:=(v:Int)) (by have:=hg.Aa;omega);have hbll:(by_ g (v:Int)).length≤160:=Hq (Zpb _ g.Aa 0) hg.Aa;have hO:OkC Tryz.prog g w (Ak g w Zae) j (Pre g v i j):=by
  refine⟨fun s rest i' hq=>?_,fun l i' hq=>?_,fun s rest i' hq x hx=>?_,fun s rest i' m hq him hmj hall=>?_,fun s rest i' m hq him hs=>hq.next him hs⟩
  ·obtain⟨r,hr,pre,_,e2,_⟩:=hq;have h1:=hg.hi r hr s (by rw[e2];simp);have h2:=hg.lo r hr s (by rw[e2];simp);have:=hg.terms;exact⟨h1,by omega⟩
  ·obtain⟨r,hr,pre,_,e2,_⟩:=hq;have h1:=hg.right r hr;have:=Hy List.length e2;simp at this;omega
  ·obtain⟨r,hr,pre,_,e2,_⟩:=hq;exact hg.hi r hr x (by rw[e2];simp[hx])
  ·obtain⟨h1,h2⟩:=hq.lt hg hcy him hmj hall;exact ih s i' m (by omega) h2 him (by omega)
 have hrow:=Zrm hg hw hwr (fun v i j=>ZgT g w Zae v i j) (fun v i h=>Ze3 hg h) hj hO;have hrr:∀ k (hk:k < g.Aa.length),g.Aa[k].left=(v:Int)→Af Tryz.prog 93 [.ptr 1000 0,.d (ints false g.Aa[k].right),I i,I j] (cxH g w (nulB g) (Ak g w Zae)) (I ((min Zae (wcn (Ak g w Zae) w g.Aa[k].right i j):Nat):Int)) (cxH g w (nulB g) (Ak g w Zae)):=fun k hk e=>hrow _ i false (Pre.start (He hk) e) hij
 have hfin:min Zae ((by_ g (v:Int)).map fun b=>wcn (Ak g w Zae) w (Zaj g b) i j).sum=Ak g w Zae v i j:=by
  rw[ZDN (fun l=>wcn (Ak g w Zae) w l i j)];exact (ZwU hv hij hj).symm
 have hin:∀ x (h:x < (by_ g (v:Int)).length),∃ k,∃ hk:k < g.Aa.length,(by_ g (v:Int))[x]=(k:Int)∧g.Aa[k].left=(v:Int):=fun x h=>by
  obtain⟨k,hk,e1,e2⟩:=by_mem.1 (He h);exact⟨k,hk,e1,e2⟩
 have hpl:=fun a b=>Zpk (a:=min Zae a) (b:=min Zae b) (Jx _ _) (Jx _ _)
 have hgood:∀ l,ZbD (Ak g w Zae) l→∀ n,lkp l ((v:Int),(i:Int),(j:Int))=some n→n=((Ak g w Zae v i j:Nat):Int):=fun l hl n h=>by
  have:=hl _ (Zzg h);simpa using this
 have hput:∀ l,ZbD (Ak g w Zae) l→ZbD (Ak g w Zae) (sto l ((v:Int),(i:Int),(j:Int)) ((Ak g w Zae v i j:Nat):Int)):=fun l hl x hx=>by
  rcases Zzh hx with rfl|hx
  ·simp
  ·exact hl x hx
 have hres:=ZgT g w Zae v i j;clear hrow hO ih;generalize hNN:Ak g w Zae=N at *;generalize hbl:by_ g (v:Int)=bl at *;generalize nulB g=NB at *;generalize hRES:N v i j=res at *;have hn1:¬ ((v:Nat):Int) < 0:=by omega
 have hn2:¬ g.vars≤((v:Nat):Int):=by omega
 refine Af.intro (n:=82) Tryz.func54 (hw:=?_);simp only[Zal];refine VA ?_;refine Zau [(1000,1000),(1001,1001)] (hA:=hwt) (hr:=?_);repeat (first|(refine ZwE 9 9 1001 (ZbD N) rfl rfl ?_;intro l hl)|refine wk1 ?_)
 have hlg:=hgood l hl;refine ZBH ZwD rfl Zag rfl rfl rfl rfl rfl ?_;cases hlk:lkp l ((v:Int),(i:Int),(j:Int)) with
 | some n0 =>
  have:=hlg n0 hlk;subst this;repeat (first|refine Zmj 11 1001 l (ZbD N) rfl rfl hl ?_|refine wk1 ?_)
  exact fin
 | none =>
  repeat (first|refine Zmj 11 1001 l (ZbD N) rfl rfl hl ?_|refine wk1 ?_)
  refine Zab [] (hA:=hby) (hr:=?_);refine VA ?_;have e:(0:Int)=((min Zae ((bl.take 0).map fun b=>wcn N w (Zaj g b) i j).sum:Nat):Int):=by simp
  refine Zak (X:=Nat) (fun x=>x≤bl.length) (fun x=>[(55,I x),(54,I bl.length),(53,.own 5 bl.length),(12,I ((min Zae ((bl.take x).map fun b=>wcn N w (Zaj g b) i j).sum:Nat):Int)),(9,.ptr 9 0),(3,I j),(2,I i),(1,I v),(0,.ptr 1000 0)]) (fun _=>[(5,.row 3 1 (bl.map iD)),(9,.box 123 [I v,I i,I j]),(1000,cxBx g w NB 1001),(1001,.mp (ZbD N))]) (fun x=>bl.length - x) 0 (Hh _) ?_;clear e;intro x hx;by_cases hlt:x < bl.length
  ·obtain⟨k,hk,e1,e2⟩:=hin x hlt;have hr:=hrr k hk e2;have hst:min Zae (min Zae ((bl.take x).map fun b=>wcn N w (Zaj g b) i j).sum+min Zae (wcn N w g.Aa[k].right i j))=min Zae ((bl.take (x+1)).map fun b=>wcn N w (Zaj g b) i j).sum:=by
    rw[Zpq,Zpr,HD hlt,Ho,List.sum_append,List.map_singleton,List.sum_singleton,e1,Zax hk]
   have hp:=hpl ((bl.take x).map fun b=>wcn N w (Zaj g b) i j).sum (wcn N w g.Aa[k].right i j);rw[hst] at hp;generalize min Zae (wcn N w g.Aa[k].right i j)=fm at *;generalize min Zae ((bl.take x).map fun b=>wcn N w (Zaj g b) i j).sum=a0 at *;generalize hb0:min Zae ((bl.take (x+1)).map fun b=>wcn N w (Zaj g b) i j).sum=b0 at *;refine VA ?_;refine Zau [(1000,1000),(1001,1001)] (hA:=hr) (hr:=?_);refine VA ?_;refine Zau [] (hA:=hp) (hr:=?_);refine VA ?_;subst hb0;exact Zad (x+1)
  ·obtain rfl:x=bl.length:=by omega
   rw[HO,hfin];refine VA ?_;refine ZsB ZwD (ZbD N) Zag rfl rfl rfl rfl rfl rfl hput ?_;refine VA ?_;exact fin
section
variable {M:Nat} {N:Cube} {w:List Int} {i j:Nat} {a:Nat→Nat} {s:Int}
end
section
variable {g:Ac} {w:List Int} {M:Nat} {N:Cube}
end
def ofC (g:Ac) (w:List Int) (N:Cube) (v i j:Int):Nat:=if 0≤v∧v < g.vars∧0≤i∧i≤j∧j≤w.length then N v.toNat i.toNat j.toNat else 0
def ruC (g:Ac) (w:List Int) (M:Nat) (N:Cube) (r i j:Int):Nat:=if 0≤r∧r < g.Aa.length∧0≤i∧i≤j∧j≤w.length then min M (wcn N w (Zaj g r) i.toNat j.toNat) else 0
def spC (g:Ac) (w:List Int) (M:Nat) (N:Cube) (r k i m j:Int):Nat :=
 if 0≤r∧r < g.Aa.length∧0≤k∧k < (Zaj g r).length∧0≤i∧i≤m∧m≤j∧j≤w.length then min M (symN N w ((Zaj g r).getD k.toNat 0) i.toNat m.toNat * wcn N w ((Zaj g r).drop (k.toNat+1)) m.toNat j.toNat) else 0
end Go.Proofs.YtbpmepgnjanhnaaGreat
