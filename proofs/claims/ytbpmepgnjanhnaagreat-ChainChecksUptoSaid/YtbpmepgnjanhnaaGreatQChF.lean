import Derived.Test.YtbpmepgnjanhnaaGreatQRank
import Derived.Test.YtbpmepgnjanhnaaGreatSmN
import Derived.Test.YtbpmepgnjanhnaaGreatQGramC
set_option linter.unusedVariables false
set_option linter.unusedSimpArgs false
set_option linter.unusedSectionVars false
namespace Go.Proofs.YtbpmepgnjanhnaaGreat
open Go.RowKit
set_option maxRecDepth 100000
abbrev Zac:Nat:=4611686018427387904
theorem ZkK {a b:Nat} (ha:a≤Zac) (hb:b≤Zac):ACalls Tryz.prog 24 [I a,I b] [] (I (min Zac (a+b):Nat)) []:=by
 have e:minI ((a:Int)+minI b (4611686018427387904 - a)) 4611686018427387904=((min Zac (a+b):Nat):Int):=by
  unfold minI Zac
  unfold Zac at ha hb
  split <;> split <;> omega
 have h1:(a:Int)+minI (b:Int) (4611686018427387904 - a)≤4611686018427387904:=by
  unfold minI;unfold Zac at ha hb;split <;> omega
 have h2:0≤minI (b:Int) (4611686018427387904 - a):=by
  unfold minI;unfold Zac at ha hb;split <;> omega
 unfold Zac at ha hb
 rw[←e]
 generalize hx:minI (b:Int) (4611686018427387904 - a)=x at *
 refine ACalls.intro (n:=12) Tryz.func24 rfl rfl (by simp) (by rfl) ?_
 simp only[Zak]
 repeat (first|refine wk ?_|refine Zaa (hr:=?_))
 rw[hx]
 repeat (first|refine wk ?_|refine Zaa (hr:=?_))
 exact fin
theorem ZiL {a b:Nat} (ha:a≤Zac) (hb:b≤Zac):ACalls Tryz.prog 216 [I a,I b] [] (I (min Zac (a * b):Nat)) []:=by
 by_cases h0:a=0∨b=0
 ·have e:min Zac (a * b)=0:=by rcases h0 with h|h <;> subst h <;> simp
  rw[e]
  refine ACalls.intro (n:=18) Tryz.func216 rfl rfl (by simp) (by rfl) ?_
  simp only[Zak]
  by_cases h1:a=0
  ·subst h1
   (repeat (first|refine wk ?_|refine Zaa (hr:=?_)))
   (repeat (first|refine wkz ?_|refine Zaa (hr:=?_)))
   repeat (first|refine wk ?_|refine Zaa (hr:=?_))
   exact fin
  ·have h2:b=0:=by omega
   subst h2
   have h1':¬ (a:Int)=0:=by omega
   repeat (first|refine wk ?_|refine Zaa (hr:=?_))
   exact fin
 ·have ha0:¬ (a:Int)=0:=by omega
  have hb0:¬ (b:Int)=0:=by omega
  have hq:(4611686018427387904:Int) / b=((Zac / b:Nat):Int):=by rw[Int.natCast_ediv];rfl
  have hlt:Zac / b < a↔Zac < a * b:=Nat.div_lt_iff_lt_mul (by omega)
  by_cases h3:Zac < a * b
  ·have e:((min Zac (a * b):Nat):Int)=4611686018427387904:=by unfold Zac at *;omega
   rw[e]
   have h3':(4611686018427387904:Int) / b < a:=by rw[hq];have:=hlt.2 h3;omega
   unfold Zac at ha hb
   refine ACalls.intro (n:=18) Tryz.func216 rfl rfl (by simp) (by rfl) ?_
   simp only[Zak]
   repeat (first|refine wk ?_|refine Zaa (hr:=?_))
   exact fin
  ·have e:((min Zac (a * b):Nat):Int)=(a:Int) * b:=by rw[Nat.min_eq_right (by omega)];exact Int.natCast_mul a b
   rw[e]
   have hab:(a:Int) * b≤4611686018427387904:=by rw[←e];unfold Zac;omega
   have hab0:0≤(a:Int) * b:=by rw[←e];omega
   have h3':¬ (4611686018427387904:Int) / b < a:=by rw[hq];have:=mt hlt.1 h3;omega
   unfold Zac at ha hb
   refine ACalls.intro (n:=18) Tryz.func216 rfl rfl (by simp) (by rfl) ?_
   simp only[Zak]
   repeat (first|refine wk ?_|refine Zaa (hr:=?_))
   exact fin
def Za7 (N:Cube) (l:ML):Prop:=∀ x∈l,x.2=((N x.1.1.toNat x.1.2.1.toNat x.1.2.2.toNat:Nat):Int)
abbrev cxBx (g:Gram) (w:List Int) (nl:List Bool) (k:Nat):Ob:=.box 91 [.d (iD g.vars),.d (iD g.terms),.d (iD g.start),.d (ZaT false g.rules),.d (ints false w),.d (ZjO false nl),.mapv k]
abbrev cxH (g:Gram) (w:List Int) (nl:List Bool) (N:Cube):Hp:=[(1000,cxBx g w nl 1001),(1001,.mp (Za7 N))]
def Zbp (w:List Int) (i j:Int):Bool:=decide (0≤i∧i≤j∧j≤w.length)
theorem ZcW {g:Gram} {w:List Int} {nl:List Bool} {N:Cube} (hw:w.length≤100000) (i j:Int):ACalls Tryz.prog 91 [.ptr 1000 0,I i,I j] (cxH g w nl N) (B (Zbp w i j)) (cxH g w nl N):=by
 refine ACalls.intro (n:=23) Tryz.func91 rfl rfl (by simp) (by rfl) ?_
 simp only[Zak]
 by_cases h1:0≤i
 ·by_cases h2:i≤j
  ·by_cases h3:j≤w.length
   ·rw[show Zbp w i j=true from decide_eq_true ⟨h1,h2,h3⟩]
    repeat (first|refine wk ?_|refine Zaa (hr:=?_))
    exact fin
   ·rw[show Zbp w i j=false from decide_eq_false (fun h=>h3 h.2.2)]
    repeat (first|refine wk ?_|refine Zaa (hr:=?_))
    exact fin
  ·rw[show Zbp w i j=false from decide_eq_false (fun h=>h2 h.2.1)]
   (repeat (first|refine wk ?_|refine Zaa (hr:=?_)))
   (repeat (first|refine wkz ?_|refine Zaa (hr:=?_)))
   repeat (first|refine wk ?_|refine Zaa (hr:=?_))
   exact fin
 ·rw[show Zbp w i j=false from decide_eq_false (fun h=>h1 h.1)]
  (repeat (first|refine wk ?_|refine Zaa (hr:=?_)))
  (repeat (first|refine wkz ?_|refine Zaa (hr:=?_)))
  repeat (first|refine wk ?_|refine Zaa (hr:=?_))
  exact fin
theorem Zmt {g:Gram} {w:List Int} {nl:List Bool} {N:Cube} {s:Int} (hs:s < nl.length):ACalls Tryz.prog 225 [I s,.ptr 1002 0] ((1002,.box 48 [.ptr 1000 0])::cxH g w nl N) (B (!has nl s)) ((1002,.box 48 [.ptr 1000 0])::cxH g w nl N):=by
 refine ACalls.intro (n:=16) Tryz.func225 rfl rfl (by simp) (by rfl) ?_
 simp only[Zak]
 by_cases h:s < 0
 ·rw[show has nl s=false by unfold has;simp;intro;omega]
  (repeat (first|refine wk ?_|refine Zaa (hr:=?_)))
  (repeat (first|refine wkz ?_|refine Zaa (hr:=?_)))
  repeat (first|refine wk ?_|refine Zaa (hr:=?_))
  exact fin
 ·obtain⟨k,rfl⟩:∃ k:Nat,s=(k:Int):=⟨s.toNat,by omega⟩
  have hk:k < nl.length:=by omega
  rw[Zbl,List.getD_eq_getElem?_getD,List.getElem?_eq_getElem hk,Option.getD_some]
  repeat (first|refine wk ?_|refine Zaa (hr:=?_))
  exact fin
theorem Zo5 {g:Gram} {w:List Int} {nl:List Bool} {N:Cube} {t:Bool} {right:List Int} (hl:right.length≤100000) (hs:∀ s∈right,s < nl.length):ACalls Tryz.prog 215 [.ptr 1000 0,.d (ints t right)] (cxH g w nl N) (B (Zbn right nl)) (cxH g w nl N):=by
 have e:(!(right.any fun s=>!has nl s))=Zbn right nl:=by
  unfold Zbn
  rw[List.not_any_eq_all_not];simp
 have hcf:=ZbO (t:=t) (clos:=225) (caps:=[.ptr 1002 0]) (H:=(1002,.box 48 [.ptr 1000 0])::cxH g w nl N) (xs:=right) (p:=fun s=>!has nl s) ⟨rfl,rfl,rfl,rfl,rfl,rfl,trivial⟩ (fun x hx=>Zmt (hs x hx)) (by omega)
 rw[←e]
 generalize (right.any fun s=>!has nl s)=b at *
 refine ACalls.intro (n:=9) Tryz.func215 rfl rfl (by simp) (by rfl) ?_
 simp only[Zak]
 repeat (first|refine wk ?_|refine Zaa (hr:=?_))
 refine Zab [(1002,2)] (hA:=hcf) (hr:=?_)
 repeat (first|refine wk ?_|refine Zaa (hr:=?_))
 exact fin
end Go.Proofs.YtbpmepgnjanhnaaGreat
namespace Go.Proofs.YtbpmepgnjanhnaaGreat
open Go.RowKit
set_option maxRecDepth 100000
structure OkC (P:Program) (g:Gram) (w:List Int) (N:Cube) (j:Nat) (Q:List Int→Nat→Prop):Prop where
 sym:∀ s rest i,Q (s::rest) i→s < g.vars ∧ -1000000≤s
 len:∀ l i,Q l i→l.length≤1000
 all:∀ s rest i,Q (s::rest) i→∀ x∈rest,x < g.vars
 of_:∀ (s:Nat) rest i m,Q ((s:Int)::rest) i→i≤m→m≤j→(m=j→Zbn rest (nulB g)=true) →
  ACalls P 54 [.ptr 1000 0,I s,I i,I m] (cxH g w (nulB g) N) (I ((N s i m:Nat):Int)) (cxH g w (nulB g) N)
 next:∀ s rest i m,Q (s::rest) i→i≤m→(m=i→has (nulB g) s=true)→Q rest m
section
variable {g:Gram} {w:List Int} {N:Cube} {j:Nat} {Q:List Int→Nat→Prop}
theorem ZsJ {r:List Int} {i:Nat} (hN0:∀ v i,N v i i≠0→has (nulB g) (v:Int)=true) (h:Zbn r (nulB g)=false):wcn N w r i i=0 :=
 Classical.byContradiction fun e=>by rw[Zj5 hN0 r i e] at h;cases h
set_option maxHeartbeats 4000000 in
theorem ZiM (hg:g.ok) (hw:w.length≤100000) (hwr:∀ x∈w,0≤x∧x≤1000000) (hN:∀ v i j,N v i j≤Zac) (hN0:∀ v i,N v i i≠0→has (nulB g) (v:Int)=true) (hj:j≤w.length) (hO:OkC Tryz.prog g w N j Q)
  {t:Bool} {right:List Int} {s:Int} {rest:List Int} {i m:Nat} (hright:right=s::rest) (hq:Q (s::rest) i) (him:i≤m) (hmj:m≤j)
  (hrow:Q rest m→ACalls Tryz.prog 93 [.ptr 1000 0,.d (ints t rest),I m,I j] (cxH g w (nulB g) N) (I ((min Zac (wcn N w rest m j):Nat):Int)) (cxH g w (nulB g) N)) :
  ACalls Tryz.prog 173 [.ptr 1000 0,.d (ints t right),I i,I m,I j] (cxH g w (nulB g) N) (I ((min Zac (symN N w s i m * wcn N w rest m j):Nat):Int)) (cxH g w (nulB g) N):=by
 have hnl:(nulB g).length=g.vars.toNat:=ZbZ hg
 obtain⟨hs1,hs2⟩:=hO.sym _ _ _ hq
 have hll:=hO.len _ _ hq
 simp only[List.length_cons] at hll
 have hvv:=hg.vars
 have hv1:=hg.vars1
 have hem:=Zo5 (g:=g) (w:=w) (nl:=nulB g) (N:=N) (t:=t) (right:=rest) (by omega) (fun x hx=>by have:=hO.all _ _ _ hq x hx;omega)
 have hof:=fun (sn:Nat) (e:s=(sn:Int)) (h:m=j→Zbn rest (nulB g)=true)=>hO.of_ sn rest i m (e ▸ hq) him hmj h
 have hnx:=hO.next _ _ _ m hq him
 have hlen:right.length=rest.length+1:=by rw[hright];rfl
 have e1:(right.map iD).drop 1=rest.map iD:=by rw[hright];rfl
 have hr0:∀ h:0 < right.length,right[0]=s:=fun h=>by subst hright;rfl
 have hr0':=hr0 (by omega)
 have hsn:0≤s→symN N w s i m=N s.toNat i m:=fun h=>by unfold symN;rw[if_pos h]
 have hsn2:s < 0→symN N w s i m=if m=i+1∧w[i]?=some (-1 - s) then 1 else 0:=fun h=>by unfold symN;rw[if_neg (by omega)]
 have hz0:m=j→Zbn rest (nulB g)=false→wcn N w rest m j=0:=fun e h=>by subst e;exact ZsJ hN0 h
 have hN0':=hN0
 clear hright hO hq
 generalize hWW:wcn N w rest m j=W at *
 generalize hSY:symN N w s i m=SY at *
 generalize hIA:Zbn rest (nulB g)=ia at *
 generalize hNB:nulB g=NB at *
 refine ACalls.intro (n:=78) Tryz.func173 rfl rfl (by simp) (by rfl) ?_
 simp only[Zak]
 repeat (first|refine wk ?_|refine Zaa (hr:=?_))
 rw[List.take_length,e1,hr0']
 by_cases hmj2:m=j
 ·cases ia with
  | false =>
   rw[hz0 hmj2 rfl,Nat.mul_zero,Nat.min_zero]
   repeat (first|refine wk ?_|refine Zaa (hr:=?_))
   refine Zaq [(1000,1000),(1001,1001)] (hA:=hem) (hr:=?_)
   repeat (first|refine wk ?_|refine Zaa (hr:=?_))
   exact fin
  | true =>
   have hmj3:(m:Int)=j:=by omega
   repeat (first|refine wk ?_|refine Zaa (hr:=?_))
   refine Zaq [(1000,1000),(1001,1001)] (hA:=hem) (hr:=?_)
   repeat (first|refine wk ?_|refine Zaa (hr:=?_))
   by_cases hs0:s < 0
   ·have hS:=hsn2 hs0
    by_cases hm1:m=i+1
    ·subst hm1
     have hiw:i < w.length:=by omega
     have hwm:=hwr _ (List.getElem_mem hiw)
     have hwi:w[i]?=some w[i]:=by simp
     by_cases hw0:w[i] = -1 - s
     ·have hS1:SY=1:=by rw[hS,if_pos ⟨rfl,by rw[hwi,hw0]⟩]
      have hR:=hrow (hnx (fun e=>by omega))
      rw[hS1,Nat.one_mul]
      repeat (first|refine wk ?_|refine Zaa (hr:=?_))
      refine Zaq [(1000,1000),(1001,1001)] (hA:=hR) (hr:=?_)
      repeat (first|refine wk ?_|refine Zaa (hr:=?_))
      exact fin
     ·have hS1:SY=0:=by rw[hS,if_neg (fun h=>hw0 (by have:=h.2;rw[hwi] at this;simpa using this))]
      rw[hS1,Nat.zero_mul,Nat.min_zero]
      repeat (first|refine wk ?_|refine Zaa (hr:=?_))
      exact fin
    ·have hm1':¬ (m:Int)=(i:Int)+1:=by omega
     have hS1:SY=0:=by rw[hS,if_neg (fun h=>hm1 h.1)]
     rw[hS1,Nat.zero_mul,Nat.min_zero]
     (repeat (first|refine wk ?_|refine Zaa (hr:=?_)))
     (repeat (first|refine wkz ?_|refine Zaa (hr:=?_)))
     repeat (first|refine wk ?_|refine Zaa (hr:=?_))
     exact fin
   ·obtain⟨sn,rfl⟩:∃ sn:Nat,s=(sn:Int):=⟨s.toNat,by omega⟩
    have hS:=hsn (by omega)
    rw[Int.toNat_natCast] at hS
    have hsl:sn < NB.length:=by omega
    have hnb:has NB (sn:Int)=NB[sn]:=by rw[Zbl,List.getD_eq_getElem?_getD,List.getElem?_eq_getElem hsl,Option.getD_some]
    by_cases hmi:m=i∧NB[sn]=false
    ·obtain⟨rfl,hnf⟩:=hmi
     have hS1:SY=0:=by
      rw[hS]
      refine Classical.byContradiction fun e=>?_
      have:=hN0' sn m e
      rw[hnb,hnf] at this;cases this
     rw[hS1,Nat.zero_mul,Nat.min_zero]
     repeat (first|refine wk ?_|refine Zaa (hr:=?_))
     exact fin
    ·have hR:=hrow (hnx (fun e=>by rw[hnb];cases hq:NB[sn] with|true=>rfl|false=>exact absurd ⟨e,hq⟩ hmi))
     have hof':=hof sn rfl (fun e=>rfl)
     have hSM:SY≤Zac:=by rw[hS];exact hN _ _ _
     rw[←hS] at hof'
     have htm:=ZiL (a:=SY) (b:=min Zac W) hSM (Nat.min_le_left _ _)
     rw[ZkS] at htm
     have hW0:W=0→SY * W=0:=fun e=>by rw[e,Nat.mul_zero]
     have hW1:W≠0→¬ ((min Zac W:Nat):Int)=0:=fun e=>by unfold Zac;omega
     generalize hmw:min Zac W=mw at *
     generalize hms:min Zac (SY * W)=ms at *
     by_cases hz:W=0
     ·have e1:mw=0:=by rw[←hmw,hz];simp
      have e2:ms=0:=by rw[←hms,hW0 hz];simp
      subst e1;subst e2
      by_cases hmi2:m=i
      ·have hnt:NB[sn]=true:=by cases hq:NB[sn] with|true=>rfl|false=>exact absurd ⟨hmi2,hq⟩ hmi
       repeat (first|refine wk ?_|refine Zaa (hr:=?_))
       refine Zaq [(1000,1000),(1001,1001)] (hA:=hR) (hr:=?_)
       repeat (first|refine wk ?_|refine Zaa (hr:=?_))
       exact fin
      ·have hmi3:¬ (m:Int)=i:=by omega
       (repeat (first|refine wk ?_|refine Zaa (hr:=?_)))
       (repeat (first|refine wkz ?_|refine Zaa (hr:=?_)))
       repeat (first|refine wk ?_|refine Zaa (hr:=?_))
       refine Zaq [(1000,1000),(1001,1001)] (hA:=hR) (hr:=?_)
       repeat (first|refine wk ?_|refine Zaa (hr:=?_))
       exact fin
     ·have hmz:=hW1 hz
      by_cases hmi2:m=i
      ·have hnt:NB[sn]=true:=by cases hq:NB[sn] with|true=>rfl|false=>exact absurd ⟨hmi2,hq⟩ hmi
       repeat (first|refine wk ?_|refine Zaa (hr:=?_))
       refine Zaq [(1000,1000),(1001,1001)] (hA:=hR) (hr:=?_)
       repeat (first|refine wk ?_|refine Zaa (hr:=?_))
       refine Zaq [(1000,1000),(1001,1001)] (hA:=hof') (hr:=?_)
       repeat (first|refine wk ?_|refine Zaa (hr:=?_))
       refine Zaq [] (hA:=htm) (hr:=?_)
       repeat (first|refine wk ?_|refine Zaa (hr:=?_))
       exact fin
      ·have hmi3:¬ (m:Int)=i:=by omega
       (repeat (first|refine wk ?_|refine Zaa (hr:=?_)))
       (repeat (first|refine wkz ?_|refine Zaa (hr:=?_)))
       repeat (first|refine wk ?_|refine Zaa (hr:=?_))
       refine Zaq [(1000,1000),(1001,1001)] (hA:=hR) (hr:=?_)
       repeat (first|refine wk ?_|refine Zaa (hr:=?_))
       refine Zaq [(1000,1000),(1001,1001)] (hA:=hof') (hr:=?_)
       repeat (first|refine wk ?_|refine Zaa (hr:=?_))
       refine Zaq [] (hA:=htm) (hr:=?_)
       repeat (first|refine wk ?_|refine Zaa (hr:=?_))
       exact fin
 ·have hmj3:¬ (m:Int)=j:=by omega
  (repeat (first|refine wk ?_|refine Zaa (hr:=?_)))
  (repeat (first|refine wkz ?_|refine Zaa (hr:=?_)))
  repeat (first|refine wk ?_|refine Zaa (hr:=?_))
  by_cases hs0:s < 0
  ·have hS:=hsn2 hs0
   by_cases hm1:m=i+1
   ·subst hm1
    have hiw:i < w.length:=by omega
    have hwm:=hwr _ (List.getElem_mem hiw)
    have hwi:w[i]?=some w[i]:=by simp
    by_cases hw0:w[i] = -1 - s
    ·have hS1:SY=1:=by rw[hS,if_pos ⟨rfl,by rw[hwi,hw0]⟩]
     have hR:=hrow (hnx (fun e=>by omega))
     rw[hS1,Nat.one_mul]
     repeat (first|refine wk ?_|refine Zaa (hr:=?_))
     refine Zaq [(1000,1000),(1001,1001)] (hA:=hR) (hr:=?_)
     repeat (first|refine wk ?_|refine Zaa (hr:=?_))
     exact fin
    ·have hS1:SY=0:=by rw[hS,if_neg (fun h=>hw0 (by have:=h.2;rw[hwi] at this;simpa using this))]
     rw[hS1,Nat.zero_mul,Nat.min_zero]
     repeat (first|refine wk ?_|refine Zaa (hr:=?_))
     exact fin
   ·have hm1':¬ (m:Int)=(i:Int)+1:=by omega
    have hS1:SY=0:=by rw[hS,if_neg (fun h=>hm1 h.1)]
    rw[hS1,Nat.zero_mul,Nat.min_zero]
    (repeat (first|refine wk ?_|refine Zaa (hr:=?_)))
    (repeat (first|refine wkz ?_|refine Zaa (hr:=?_)))
    repeat (first|refine wk ?_|refine Zaa (hr:=?_))
    exact fin
  ·obtain⟨sn,rfl⟩:∃ sn:Nat,s=(sn:Int):=⟨s.toNat,by omega⟩
   have hS:=hsn (by omega)
   rw[Int.toNat_natCast] at hS
   have hsl:sn < NB.length:=by omega
   have hnb:has NB (sn:Int)=NB[sn]:=by rw[Zbl,List.getD_eq_getElem?_getD,List.getElem?_eq_getElem hsl,Option.getD_some]
   by_cases hmi:m=i∧NB[sn]=false
   ·obtain⟨rfl,hnf⟩:=hmi
    have hS1:SY=0:=by
     rw[hS]
     refine Classical.byContradiction fun e=>?_
     have:=hN0' sn m e
     rw[hnb,hnf] at this;cases this
    rw[hS1,Nat.zero_mul,Nat.min_zero]
    repeat (first|refine wk ?_|refine Zaa (hr:=?_))
    exact fin
   ·have hR:=hrow (hnx (fun e=>by rw[hnb];cases hq:NB[sn] with|true=>rfl|false=>exact absurd ⟨e,hq⟩ hmi))
    have hof':=hof sn rfl (fun e=>absurd e hmj2)
    have hSM:SY≤Zac:=by rw[hS];exact hN _ _ _
    rw[←hS] at hof'
    have htm:=ZiL (a:=SY) (b:=min Zac W) hSM (Nat.min_le_left _ _)
    rw[ZkS] at htm
    have hW0:W=0→SY * W=0:=fun e=>by rw[e,Nat.mul_zero]
    have hW1:W≠0→¬ ((min Zac W:Nat):Int)=0:=fun e=>by unfold Zac;omega
    generalize hmw:min Zac W=mw at *
    generalize hms:min Zac (SY * W)=ms at *
    by_cases hz:W=0
    ·have e1:mw=0:=by rw[←hmw,hz];simp
     have e2:ms=0:=by rw[←hms,hW0 hz];simp
     subst e1;subst e2
     by_cases hmi2:m=i
     ·have hnt:NB[sn]=true:=by cases hq:NB[sn] with|true=>rfl|false=>exact absurd ⟨hmi2,hq⟩ hmi
      repeat (first|refine wk ?_|refine Zaa (hr:=?_))
      refine Zaq [(1000,1000),(1001,1001)] (hA:=hR) (hr:=?_)
      repeat (first|refine wk ?_|refine Zaa (hr:=?_))
      exact fin
     ·have hmi3:¬ (m:Int)=i:=by omega
      (repeat (first|refine wk ?_|refine Zaa (hr:=?_)))
      (repeat (first|refine wkz ?_|refine Zaa (hr:=?_)))
      repeat (first|refine wk ?_|refine Zaa (hr:=?_))
      refine Zaq [(1000,1000),(1001,1001)] (hA:=hR) (hr:=?_)
      repeat (first|refine wk ?_|refine Zaa (hr:=?_))
      exact fin
    ·have hmz:=hW1 hz
     by_cases hmi2:m=i
     ·have hnt:NB[sn]=true:=by cases hq:NB[sn] with|true=>rfl|false=>exact absurd ⟨hmi2,hq⟩ hmi
      repeat (first|refine wk ?_|refine Zaa (hr:=?_))
      refine Zaq [(1000,1000),(1001,1001)] (hA:=hR) (hr:=?_)
      repeat (first|refine wk ?_|refine Zaa (hr:=?_))
      refine Zaq [(1000,1000),(1001,1001)] (hA:=hof') (hr:=?_)
      repeat (first|refine wk ?_|refine Zaa (hr:=?_))
      refine Zaq [] (hA:=htm) (hr:=?_)
      repeat (first|refine wk ?_|refine Zaa (hr:=?_))
      exact fin
     ·have hmi3:¬ (m:Int)=i:=by omega
      (repeat (first|refine wk ?_|refine Zaa (hr:=?_)))
      (repeat (first|refine wkz ?_|refine Zaa (hr:=?_)))
      repeat (first|refine wk ?_|refine Zaa (hr:=?_))
      refine Zaq [(1000,1000),(1001,1001)] (hA:=hR) (hr:=?_)
      repeat (first|refine wk ?_|refine Zaa (hr:=?_))
      refine Zaq [(1000,1000),(1001,1001)] (hA:=hof') (hr:=?_)
      repeat (first|refine wk ?_|refine Zaa (hr:=?_))
      refine Zaq [] (hA:=htm) (hr:=?_)
      repeat (first|refine wk ?_|refine Zaa (hr:=?_))
      exact fin
end
end Go.Proofs.YtbpmepgnjanhnaaGreat
namespace Go.Proofs.YtbpmepgnjanhnaaGreat
open Go.RowKit
set_option maxRecDepth 100000
theorem Zo6 (w:World) (k k':Int×Int×Int):(Op.equal 123 (spK k) (spK k')).run Tryz.prog w=.ok (decide (k=k')) w:=by
 obtain⟨a,b,c⟩:=k
 obtain⟨a',b',c'⟩:=k'
 unfold spK Op.equal
 rw[show Op.maxDepth=9998+1+1 from rfl]
 unfold Op.equalIn
 simp only[Sem.run_bind,run_underlying Tryz.underlying123,Result.andThen_ok]
 simp[Sem.run_bind,go_sem]
 by_cases h1:a=a' <;> by_cases h2:b=b' <;> by_cases h3:c=c' <;> simp[h1,h2,h3]
theorem Zo7 (em:Bool) (n:Nat) (a:Int) (w:World):(Instr.checkKey em (n+1) 3 (.int .i64 a)).run Tryz.prog w=.ok () w:=by
 simp[Instr.checkKey,Sem.run_bind,run_underlying Tryz.underlying3]
theorem Zmu (em:Bool) (k:Int×Int×Int) (w:World):(Instr.checkKey em 10000 123 (spK k)).run Tryz.prog w=.ok () w:=by
 rw[show (10000:Nat)=9998+1+1 from rfl]
 unfold Instr.checkKey spK
 simp only[Sem.run_bind,run_underlying Tryz.underlying123,Result.andThen_ok]
 simp[Sem.run_bind,go_sem,Zo7]
theorem Zqb:KeyRun Tryz.prog 89 123 3 where
 hm:=Tryz.underlying89
 chk:=Zmu
 now:=⟨_,Tryz.underlying123,fun _ _=>rfl⟩
 eq:=fun k k' w=>Zo6 w k k'
 zero:=fun w=>by
  obtain⟨i,ds,h1,_,_,_,_,h6,_⟩:=ZaC (TT.at TY (t:=3) rfl)
  simp[zeroValue,typeInfo,Sem.run_bind,h1,h6,go_sem]
section
variable {g:Gram} {w:List Int} {N:Cube} {j:Nat} {Q:List Int→Nat→Prop}
set_option maxHeartbeats 4000000 in
theorem Zmv (hg:g.ok) (hw:w.length≤100000) (hwr:∀ x∈w,0≤x∧x≤1000000) (hN:∀ v i j,N v i j≤Zac) (hN0:∀ v i,N v i i≠0→has (nulB g) (v:Int)=true) (hj:j≤w.length) (hO:OkC Tryz.prog g w N j Q):∀ (right:List Int) (i:Nat) (t:Bool),Q right i→i≤j →
  ACalls Tryz.prog 93 [.ptr 1000 0,.d (ints t right),I i,I j] (cxH g w (nulB g) N) (I ((min Zac (wcn N w right i j):Nat):Int)) (cxH g w (nulB g) N):=by
 intro right
 induction right with
 | nil =>
  intro i t hq hij
  have e0:wcn N w [] i j=if i=j then 1 else 0:=rfl
  rw[e0]
  generalize nulB g=NB at *
  refine ACalls.intro (n:=32) Tryz.func93 rfl rfl (by simp) (by rfl) ?_
  simp only[Zak]
  by_cases e:i=j
  ·rw[if_pos e]
   have e':(i:Int)=j:=by omega
   repeat (first|refine wk ?_|refine Zaa (hr:=?_))
   exact fin
  ·rw[if_neg e]
   have e':¬ (i:Int)=j:=by omega
   repeat (first|refine wk ?_|refine Zaa (hr:=?_))
   exact fin
 | cons s rest ih =>
  intro i t hq hij
  have hfirst:=fun m (h1:i≤m) (h2:m≤j)=>ZiM (t:=t) hg hw hwr hN hN0 hj hO (right:=s::rest) rfl hq h1 h2 (fun hqr=>ih m t hqr h2)
  have hll:=hO.len _ _ hq
  have e0:wcn N w (s::rest) i j=sumN (j+1) fun m=>if i≤m then symN N w s i m * wcn N w rest m j else 0:=rfl
  rw[e0]
  have hstep:∀ m,i≤m→min Zac (min Zac (sumN m fun m=>if i≤m then symN N w s i m * wcn N w rest m j else 0)+min Zac (symN N w s i m * wcn N w rest m j))=min Zac (sumN (m+1) fun m=>if i≤m then symN N w s i m * wcn N w rest m j else 0):=fun m hm=>by
   rw[Zfp,ZkQ]
   simp only[sumN,if_pos hm]
  have hpl:=fun m (hm:i≤m)=>ZkK (a:=min Zac (sumN m fun m=>if i≤m then symN N w s i m * wcn N w rest m j else 0)) (b:=min Zac (symN N w s i m * wcn N w rest m j)) (Nat.min_le_left _ _) (Nat.min_le_left _ _)
  have hz:(sumN i fun m=>if i≤m then symN N w s i m * wcn N w rest m j else 0)=0:=Zbw (fun x hx=>by rw[if_neg (by omega)])
  have hlen:(s::rest).length=rest.length+1:=rfl
  generalize hRR:s::rest=right at *
  generalize hF:(fun m=>if i≤m then symN N w s i m * wcn N w rest m j else 0)=F at *
  generalize nulB g=NB at *
  refine ACalls.intro (n:=32) Tryz.func93 rfl rfl (by simp) (by rfl) ?_
  simp only[Zak]
  repeat (first|refine wk ?_|refine Zaa (hr:=?_))
  have e:(0:Int)=((min Zac (sumN i F):Nat):Int):=by rw[hz];rfl
  refine Zai (X:=Nat) (fun m=>i≤m∧m≤j+1) (fun m=>[(10,I m),(9,I ((min Zac (sumN m F):Nat):Int)),(3,I j),(2,I i),(1,.d (ints t right)),(0,.ptr 1000 0)]) (fun _=>cxH g w NB N) (fun m=>j+1 - m) i ⟨Nat.le_refl _,by omega⟩ ?_
  clear e
  rintro m ⟨m1,m2⟩
  by_cases hm:m≤j
  ·have hf:=hfirst m m1 hm
   have hp:=hpl m m1
   have hst:=hstep m m1
   rw[hst] at hp
   generalize min Zac (symN N w s i m * wcn N w rest m j)=fm at *
   generalize min Zac (sumN m F)=a0 at *
   generalize hb0:min Zac (sumN (m+1) F)=b0 at *
   repeat (first|refine wk ?_|refine Zaa (hr:=?_))
   refine Zaq [(1000,1000),(1001,1001)] (hA:=hf) (hr:=?_)
   repeat (first|refine wk ?_|refine Zaa (hr:=?_))
   refine Zaq [] (hA:=hp) (hr:=?_)
   repeat (first|refine wk ?_|refine Zaa (hr:=?_))
   subst hb0
   exact Zad (m+1)
  ·obtain rfl:m=j+1:=by omega
   repeat (first|refine wk ?_|refine Zaa (hr:=?_))
   exact fin
end
end Go.Proofs.YtbpmepgnjanhnaaGreat
namespace Go.Proofs.YtbpmepgnjanhnaaGreat
open Go.RowKit
set_option maxRecDepth 100000
theorem Zvw {g:Gram} {v:Int} (f:List Int→Nat):((by_ g v).map fun b=>f (ZaW g b)).sum=((g.rules.filter fun r=>decide (r.left=v)).map fun r=>f r.right).sum:=by
 have key:∀ (rs pre:List Rule),g.rules=pre++rs→((byR rs v pre.length).map fun b=>f (ZaW g b)).sum=((rs.filter fun r=>decide (r.left=v)).map fun r=>f r.right).sum:=by
  intro rs
  induction rs with
  | nil=>intro pre _;rfl
  | cons r rs ih =>
   intro pre h
   have ih':=ih (pre++[r]) (by rw[h];simp)
   rw[List.length_append,List.length_singleton] at ih'
   have hr:ZaW g ((pre.length:Nat):Int)=r.right:=by
    rw[ZaX (by rw[h];simp)]
    congr 1
    simp[h]
   by_cases e:r.left=v
   ·rw[List.filter_cons_of_pos (by simpa using e),byR]
    rw[if_pos e]
    simp only[List.map_cons,List.sum_cons]
    rw[hr]
    omega
   ·rw[List.filter_cons_of_neg (by simpa using e),byR]
    rw[if_neg e]
    exact ih'
 exact key g.rules [] rfl
theorem Zqc {P:Program} {n:Nat} {Q:Exit→Fr→Hp→Prop} {fr:Fr} {h:Hp} {c:Code} (i j k:Nat) (p:ML→Prop) (hi:fget fr i=.ptr j 0) (hk:hget h k=some (.mp p)) (hc:∀ l,p l→aw P n c Q fr ((k,.mp (Eq l))::h)):aw P n c Q fr h:=ZpO k hk hc
theorem ZiN {P:Program} {n:Nat} {Q:Exit→Fr→Hp→Prop} {fr:Fr} {h:Hp} {c:Code} (i k:Nat) {b:Bool} (l:ML) (p:ML→Prop) (hi:fget fr i=B b) (hk:hget h k=some (.mp (Eq l))) (hp:p l) (hc:aw P n c Q fr ((k,.mp p)::h)):aw P n c Q fr h:=fun G E a w hn C=>by
 obtain⟨es,clock,l',h1,h2,rfl⟩:=C.heap.obs k _ hk
 exact hc G E a w hn (C.setMap hk (Ext.refl _ _) ⟨es,clock,_,h1,h2,hp⟩)
set_option maxHeartbeats 4000000 in
theorem Zqd {g:Gram} {w:List Int} (hg:g.ok) (hcy:cycL g=[]) (hw:w.length≤100000) (hwr:∀ x∈w,0≤x∧x≤1000000):∀ (n v i j:Nat),muC g v i j < n→(v:Int) < g.vars→i≤j→j≤w.length →
  ACalls Tryz.prog 54 [.ptr 1000 0,I v,I i,I j] (cxH g w (nulB g) (wcns g w Zac)) (I ((wcns g w Zac v i j:Nat):Int)) (cxH g w (nulB g) (wcns g w Zac)):=by
 intro n
 induction n with
 | zero=>intro v i j h;omega
 | succ n ih =>
 intro v i j hn hv hij hj
 have hwt:=ZcW (g:=g) (w:=w) (nl:=nulB g) (N:=wcns g w Zac) hw i j
 rw[show Zbp w i j=true from decide_eq_true ⟨by omega,by omega,by omega⟩] at hwt
 have hby:=ZtZ (t:=false) (g:=g) (v:=(v:Int)) (by have:=hg.rules;omega)
 have hbll:(by_ g (v:Int)).length≤160:=Nat.le_trans (Zfl _ g.rules 0) hg.rules
 have hO:OkC Tryz.prog g w (wcns g w Zac) j (Pre g v i j):=by
  refine⟨fun s rest i' hq=>?_,fun l i' hq=>?_,fun s rest i' hq x hx=>?_,fun s rest i' m hq him hmj hall=>?_,fun s rest i' m hq him hs=>hq.next him hs⟩
  ·obtain⟨r,hr,pre,_,e2,_⟩:=hq
   have h1:=hg.hi r hr s (by rw[e2];simp)
   have h2:=hg.lo r hr s (by rw[e2];simp)
   have:=hg.terms
   exact⟨h1,by omega⟩
  ·obtain⟨r,hr,pre,_,e2,_⟩:=hq
   have h1:=hg.right r hr
   have:=congrArg List.length e2
   simp at this;omega
  ·obtain⟨r,hr,pre,_,e2,_⟩:=hq
   exact hg.hi r hr x (by rw[e2];simp[hx])
  ·obtain⟨h1,h2⟩:=hq.lt hg hcy him hmj hall
   exact ih s i' m (by omega) h2 him (by omega)
 have hrow:=Zmv hg hw hwr (fun v i j=>Zd5 g w Zac v i j) (fun v i h=>Zfz hg h) hj hO
 have hrr:∀ k (hk:k < g.rules.length),g.rules[k].left=(v:Int)→ACalls Tryz.prog 93 [.ptr 1000 0,.d (ints false g.rules[k].right),I i,I j] (cxH g w (nulB g) (wcns g w Zac)) (I ((min Zac (wcn (wcns g w Zac) w g.rules[k].right i j):Nat):Int)) (cxH g w (nulB g) (wcns g w Zac)):=fun k hk e=>hrow _ i false (Pre.start (List.getElem_mem hk) e) hij
 have hfin:min Zac ((by_ g (v:Int)).map fun b=>wcn (wcns g w Zac) w (ZaW g b) i j).sum=wcns g w Zac v i j:=by
  rw[Zvw (fun l=>wcn (wcns g w Zac) w l i j)]
  exact (Zqq hv hij hj).symm
 have hin:∀ x (h:x < (by_ g (v:Int)).length),∃ k,∃ hk:k < g.rules.length,(by_ g (v:Int))[x]=(k:Int)∧g.rules[k].left=(v:Int):=fun x h=>by
  obtain⟨k,hk,e1,e2⟩:=by_mem.1 (List.getElem_mem h)
  exact⟨k,hk,e1,e2⟩
 have hpl:=fun a b=>ZkK (a:=min Zac a) (b:=min Zac b) (Nat.min_le_left _ _) (Nat.min_le_left _ _)
 have hgood:∀ l,Za7 (wcns g w Zac) l→∀ n,lkp l ((v:Int),(i:Int),(j:Int))=some n→n=((wcns g w Zac v i j:Nat):Int):=fun l hl n h=>by
  have:=hl _ (Zr9 h)
  simpa using this
 have hput:∀ l,Za7 (wcns g w Zac) l→Za7 (wcns g w Zac) (sto l ((v:Int),(i:Int),(j:Int)) ((wcns g w Zac v i j:Nat):Int)):=fun l hl x hx=>by
  rcases Zsa hx with rfl|hx
  ·simp
  ·exact hl x hx
 have hres:=Zd5 g w Zac v i j
 clear hrow hO ih
 generalize hNN:wcns g w Zac=N at *
 generalize hbl:by_ g (v:Int)=bl at *
 generalize nulB g=NB at *
 generalize hRES:N v i j=res at *
 have hn1:¬ ((v:Nat):Int) < 0:=by omega
 have hn2:¬ g.vars≤((v:Nat):Int):=by omega
 refine ACalls.intro (n:=82) Tryz.func54 rfl rfl (by simp) (by rfl) ?_
 simp only[Zak]
 repeat (first|refine wk ?_|refine Zaa (hr:=?_))
 refine Zaq [(1000,1000),(1001,1001)] (hA:=hwt) (hr:=?_)
 repeat (first|(refine Zqc 9 9 1001 (Za7 N) rfl rfl ?_;intro l hl)|refine wk1 ?_)
 have hlg:=hgood l hl
 refine ZtP Zqb rfl Zag rfl rfl rfl rfl rfl ?_
 cases hlk:lkp l ((v:Int),(i:Int),(j:Int)) with
 | some n0 =>
  have:=hlg n0 hlk
  subst this
  repeat (first|refine ZiN 11 1001 l (Za7 N) rfl rfl hl ?_|refine wk1 ?_)
  exact fin
 | none =>
  repeat (first|refine ZiN 11 1001 l (Za7 N) rfl rfl hl ?_|refine wk1 ?_)
  refine Zab [] (hA:=hby) (hr:=?_)
  repeat (first|refine wk ?_|refine Zaa (hr:=?_))
  have e:(0:Int)=((min Zac ((bl.take 0).map fun b=>wcn N w (ZaW g b) i j).sum:Nat):Int):=by simp
  refine Zai (X:=Nat) (fun x=>x≤bl.length) (fun x=>[(55,I x),(54,I bl.length),(53,.own 5 bl.length),(12,I ((min Zac ((bl.take x).map fun b=>wcn N w (ZaW g b) i j).sum:Nat):Int)),(9,.ptr 9 0),(3,I j),(2,I i),(1,I v),(0,.ptr 1000 0)]) (fun _=>[(5,.row 3 1 (bl.map iD)),(9,.box 123 [I v,I i,I j]),(1000,cxBx g w NB 1001),(1001,.mp (Za7 N))]) (fun x=>bl.length - x) 0 (Nat.zero_le _) ?_
  clear e
  intro x hx
  by_cases hlt:x < bl.length
  ·obtain⟨k,hk,e1,e2⟩:=hin x hlt
   have hr:=hrr k hk e2
   have hst:min Zac (min Zac ((bl.take x).map fun b=>wcn N w (ZaW g b) i j).sum+min Zac (wcn N w g.rules[k].right i j))=min Zac ((bl.take (x+1)).map fun b=>wcn N w (ZaW g b) i j).sum:=by
    rw[Zfp,ZkQ,List.take_succ_eq_append_getElem hlt,List.map_append,List.sum_append,List.map_singleton,List.sum_singleton,e1,ZaX hk]
   have hp:=hpl ((bl.take x).map fun b=>wcn N w (ZaW g b) i j).sum (wcn N w g.rules[k].right i j)
   rw[hst] at hp
   generalize min Zac (wcn N w g.rules[k].right i j)=fm at *
   generalize min Zac ((bl.take x).map fun b=>wcn N w (ZaW g b) i j).sum=a0 at *
   generalize hb0:min Zac ((bl.take (x+1)).map fun b=>wcn N w (ZaW g b) i j).sum=b0 at *
   repeat (first|refine wk ?_|refine Zaa (hr:=?_))
   refine Zaq [(1000,1000),(1001,1001)] (hA:=hr) (hr:=?_)
   repeat (first|refine wk ?_|refine Zaa (hr:=?_))
   refine Zaq [] (hA:=hp) (hr:=?_)
   repeat (first|refine wk ?_|refine Zaa (hr:=?_))
   subst hb0
   exact Zad (x+1)
  ·obtain rfl:x=bl.length:=by omega
   rw[List.take_length,hfin]
   repeat (first|refine wk ?_|refine Zaa (hr:=?_))
   refine ZnG Zqb (Za7 N) Zag rfl rfl rfl rfl rfl rfl hput ?_
   repeat (first|refine wk ?_|refine Zaa (hr:=?_))
   exact fin
end Go.Proofs.YtbpmepgnjanhnaaGreat
