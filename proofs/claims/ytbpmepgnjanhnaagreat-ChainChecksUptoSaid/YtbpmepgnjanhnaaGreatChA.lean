import Derived.Test.YtbpmepgnjanhnaaGreatQChartP
import Derived.Test.YtbpmepgnjanhnaaGreatSmN
import Derived.Test.YtbpmepgnjanhnaaGreatQGramC
set_option linter.unusedVariables false
set_option linter.unusedSimpArgs false
set_option linter.unusedSectionVars false
namespace Go.Proofs.YtbpmepgnjanhnaaGreat
open Go.RowKit
set_option maxRecDepth 100000
theorem ZiB {a b M:Nat} (hM:M≤4611686018427387904) (ha:a≤M) (hb:b≤M):ACalls Tryz.prog 175 [I a,I b,I M] [] (I (min M (a+b):Nat)) []:=by
 by_cases h:M≤a∨M - a≤b
 ·have e:min M (a+b)=M:=by omega
  rw[e]
  refine ACalls.intro (n:=21) Tryz.func175 rfl rfl (by simp) (by rfl) ?_
  simp only[Zak]
  by_cases h1:M≤a
  ·(repeat (first|refine wk ?_|refine Zaa (hr:=?_)))
   (repeat (first|refine wkz ?_|refine Zaa (hr:=?_)))
   repeat (first|refine wk ?_|refine Zaa (hr:=?_))
   exact fin
  ·have h2:(M:Int) - a≤b:=by omega
   have h3:¬ (M:Int)≤a:=by omega
   repeat (first|refine wk ?_|refine Zaa (hr:=?_))
   exact fin
 ·have e:min M (a+b)=a+b:=by omega
  rw[e]
  have h1:¬ (M:Int)≤a:=by omega
  have h2:¬ (M:Int) - a≤b:=by omega
  refine ACalls.intro (n:=21) Tryz.func175 rfl rfl (by simp) (by rfl) ?_
  simp only[Zak]
  repeat (first|refine wk ?_|refine Zaa (hr:=?_))
  exact fin
theorem Zmc {a b M:Nat} (hM:M≤4611686018427387904) (hM1:1≤M) (ha:a≤M) (hb:b≤M):ACalls Tryz.prog 217 [I a,I b,I M] [] (I (min M (a * b):Nat)) []:=by
 by_cases h0:a=0∨b=0
 ·have e:min M (a * b)=0:=by rcases h0 with h|h <;> subst h <;> simp
  rw[e]
  refine ACalls.intro (n:=33) Tryz.func217 rfl rfl (by simp) (by rfl) ?_
  simp only[Zak]
  by_cases h1:a=0
  ·subst h1
   (repeat (first|refine wk ?_|refine Zaa (hr:=?_)))
   (repeat (first|refine wkz ?_|refine Zaa (hr:=?_)))
   repeat (first|refine wk ?_|refine Zaa (hr:=?_))
   exact fin
  ·have h2:b=0:=by omega
   subst h2
   have h1':¬ (a:Int)=0:=by omega
   repeat (first|refine wk ?_|refine Zaa (hr:=?_))
   exact fin
 ·have ha0:¬ (a:Int)=0:=by omega
  have hb0:¬ (b:Int)=0:=by omega
  by_cases h1:M≤a
  ·have e:min M (a * b)=M:=by
    have:a * 1≤a * b:=Nat.mul_le_mul_left _ (by omega)
    omega
   rw[e]
   have h1':(M:Int)≤a:=by omega
   refine ACalls.intro (n:=33) Tryz.func217 rfl rfl (by simp) (by rfl) ?_
   simp only[Zak]
   (repeat (first|refine wk ?_|refine Zaa (hr:=?_)))
   (repeat (first|refine wkz ?_|refine Zaa (hr:=?_)))
   repeat (first|refine wk ?_|refine Zaa (hr:=?_))
   exact fin
  ·have h1':¬ (M:Int)≤a:=by omega
   by_cases h2:M≤b
   ·have e:min M (a * b)=M:=by
     have:1 * b≤a * b:=Nat.mul_le_mul_right _ (by omega)
     omega
    rw[e]
    have h2':(M:Int)≤b:=by omega
    refine ACalls.intro (n:=33) Tryz.func217 rfl rfl (by simp) (by rfl) ?_
    simp only[Zak]
    (repeat (first|refine wk ?_|refine Zaa (hr:=?_)))
    (repeat (first|refine wkz ?_|refine Zaa (hr:=?_)))
    repeat (first|refine wk ?_|refine Zaa (hr:=?_))
    exact fin
   ·have h2':¬ (M:Int)≤b:=by omega
    have hq:((M:Int) - 1) / b=(((M - 1) / b:Nat):Int):=by rw[Int.natCast_ediv];congr 1;omega
    have hlt:(M - 1) / b < a↔M - 1 < a * b:=Nat.div_lt_iff_lt_mul (by omega)
    by_cases h3:M - 1 < a * b
    ·have e:min M (a * b)=M:=by omega
     rw[e]
     have h3':((M:Int) - 1) / b < a:=by rw[hq];have:=hlt.2 h3;omega
     refine ACalls.intro (n:=33) Tryz.func217 rfl rfl (by simp) (by rfl) ?_
     simp only[Zak]
     repeat (first|refine wk ?_|refine Zaa (hr:=?_))
     exact fin
    ·have e:((min M (a * b):Nat):Int)=(a:Int) * b:=by rw[Nat.min_eq_right (by omega)];exact Int.natCast_mul a b
     rw[e]
     have hab:(a:Int) * b≤4611686018427387904:=by rw[←e];omega
     have hab0:0≤(a:Int) * b:=by rw[←e];omega
     have h3':¬ ((M:Int) - 1) / b < a:=by rw[hq];have:=mt hlt.1 h3;omega
     refine ACalls.intro (n:=33) Tryz.func217 rfl rfl (by simp) (by rfl) ?_
     simp only[Zak]
     repeat (first|refine wk ?_|refine Zaa (hr:=?_))
     exact fin
end Go.Proofs.YtbpmepgnjanhnaaGreat
namespace Go.Proofs.YtbpmepgnjanhnaaGreat
open Go.RowKit
set_option maxRecDepth 100000
def ZcJ (L:Nat) (a:Nat→Nat):List Int:=(List.range L).map fun x=>((a x:Nat):Int)
def Zbc (L:Nat) (a:Nat→Nat):List D:=(ZcJ L a).map iD
theorem Zkw (L:Nat) (a:Nat→Nat):(ZcJ L a).length=L:=by simp[ZcJ]
theorem ZcD (L:Nat) (a:Nat→Nat):(Zbc L a).length=L:=by simp[Zbc,ZcJ]
theorem ZdZ {L:Nat} {a:Nat→Nat} {e:Nat} (h:e < L):(Zbc L a)[e]?=some (iD ((a e:Nat):Int)):=by simp[Zbc,ZcJ,h]
theorem Zg7 {L:Nat} {a:Nat→Nat} {e v:Nat}:(Zbc L a).set e (iD ((v:Nat):Int))=Zbc L (fun x=>if x=e then v else a x):=by
 refine List.ext_getElem (by simp[Zbc,ZcJ]) fun k h1 h2=>?_
 rw[List.getElem_set]
 simp only[Zbc,ZcJ,List.getElem_map,List.getElem_range]
 by_cases e1:e=k
 ·subst e1;simp
 ·rw[if_neg e1,if_neg (fun h=>e1 h.symm)]
theorem ZfO (L:Nat):List.replicate L (iD 0)=Zbc L (fun _=>0):=by
 refine List.ext_getElem (by simp[Zbc,ZcJ]) fun k h1 h2=>?_
 simp[Zbc,ZcJ]
theorem Zg8 {L:Nat} {a b:Nat→Nat} (h:∀ x,x < L→a x=b x):ZcJ L a=ZcJ L b:=by
 unfold ZcJ
 exact List.map_congr_left fun x hx=>by rw[h x (by simpa using hx)]
theorem ZeN {L:Nat} {a b:Nat→Nat} (h:∀ x,x < L→a x=b x):Zbc L a=Zbc L b:=by unfold Zbc;rw[Zg8 h]
theorem natsI_eq {L:Nat} {a b:Nat→Nat}:ZcJ L a=ZcJ L b↔∀ x,x < L→a x=b x:=by
 constructor
 ·intro h x hx
  have:=congrArg (fun l=>l[x]?) h
  simp only[ZcJ,List.getElem?_map,List.getElem?_range hx,Option.map_some,Option.some.injEq] at this
  omega
 ·exact Zg8
def Zfh (t:Bool) (N:Cube) (L v:Nat):List D:=(List.range L).map fun i=>.sl t 1 (Zbc L (fun j=>N v i j))
def ZgH (t:Bool) (N:Cube) (V L:Nat):List D:=(List.range V).map fun v=>.sl t 1 (Zfh t N L v)
theorem ZfP (t:Bool) (N:Cube) (L v:Nat):(Zfh t N L v).length=L:=by simp[Zfh]
theorem Zg9 (t:Bool) (N:Cube) (V L:Nat):(ZgH t N V L).length=V:=by simp[ZgH]
theorem ZfQ {t:Bool} {N:Cube} {L v i:Nat} (h:i < L):(Zfh t N L v)[i]?=some (.sl t 1 (Zbc L (fun j=>N v i j))):=by simp[Zfh,h]
theorem Zha {t:Bool} {N:Cube} {V L v:Nat} (h:v < V):(ZgH t N V L)[v]?=some (.sl t 1 (Zfh t N L v)):=by simp[ZgH,h]
abbrev ctBx (t u:Bool) (g:Gram) (w:List Int) (M:Nat) (N:Cube):Ob:=.box 230 [.d (iD g.vars),.d (iD g.terms),.d (iD g.start),.d (ZaT t g.rules),.d (ints u w),.d (iD ((M:Nat):Int)),.d (.sl false 1 (ZgH false N g.vars.toNat (w.length+1)))]
def prt (N:Cube) (w:List Int) (i j:Nat) (a:Nat→Nat) (s:Int) (k x:Nat):Nat:=if x≤j then sumN (j+1) (fun y=>if i≤y∧y≤x∧y < k then a y * symN N w s y x else 0) else 0
def nxt (M:Nat) (N:Cube) (w:List Int) (i j:Nat) (a:Nat→Nat) (s:Int) (m e:Nat):Nat→Nat:=fun x=>min M (prt N w i j a s (if m≤x∧x < e then m+1 else m) x)
section
variable {M:Nat} {N:Cube} {w:List Int} {i j:Nat} {a:Nat→Nat} {s:Int}
theorem Zvu (m e x:Nat):nxt M N w i j a s m e x≤M:=Nat.min_le_left _ _
theorem ZpQ:nxt M N w i j a s i i=fun _=>0:=by
 funext x
 unfold nxt
 rw[if_neg (show ¬ (i≤x∧x < i) by omega)]
 unfold prt
 split
 ·rw[Zbw (fun y _=>by rw[if_neg (by omega)])];omega
 ·omega
theorem Zsl {m x:Nat} (hx:x≤j) (hi:i≤m) (hm:m≤x):prt N w i j a s (m+1) x=prt N w i j a s m x+a m * symN N w s m x:=by
 unfold prt
 rw[if_pos hx,if_pos hx]
 have e:(fun y=>if i≤y∧y≤x∧y < m+1 then a y * symN N w s y x else 0)=fun y=>(if i≤y∧y≤x∧y < m then a y * symN N w s y x else 0)+(if y=m then a m * symN N w s m x else 0):=by
  funext y
  by_cases e1:y=m
  ·subst e1
   rw[if_pos ⟨hi,hm,by omega⟩,if_neg (by omega),if_pos rfl];omega
  ·rw[if_neg e1]
   by_cases h:i≤y∧y≤x∧y < m
   ·rw[if_pos h,if_pos ⟨h.1,h.2.1,by omega⟩];omega
   ·rw[if_neg h,if_neg (fun q=>h ⟨q.1,q.2.1,by omega⟩)]
 rw[e,ZjK]
 congr 1
 rw[Zct (k:=m) (by omega) (fun y _ hy=>by rw[if_neg hy]),if_pos rfl]
theorem Zsm {m e:Nat} (hi:i≤m) (hm:m≤e) (he:e≤j):nxt M N w i j a s m (e+1)=fun x=>if x=e then min M (nxt M N w i j a s m e e+min M (a m * symN N w s m e)) else nxt M N w i j a s m e x:=by
 funext x
 by_cases e1:x=e
 ·subst e1
  rw[if_pos rfl]
  unfold nxt
  rw[if_pos ⟨hm,by omega⟩,if_neg (by omega),Zsl he hi hm]
  omega
 ·rw[if_neg e1]
  unfold nxt
  by_cases h:m≤x∧x < e
  ·rw[if_pos h,if_pos ⟨h.1,by omega⟩]
  ·rw[if_neg h,if_neg (by omega)]
theorem Zuf {m x:Nat} (hm:x < m):prt N w i j a s (m+1) x=prt N w i j a s m x:=by
 unfold prt
 split
 ·exact Zcs fun y _=>by
   by_cases h:i≤y∧y≤x∧y < m
   ·rw[if_pos h,if_pos ⟨h.1,h.2.1,by omega⟩]
   ·rw[if_neg h,if_neg (fun q=>h ⟨q.1,q.2.1,by omega⟩)]
 ·rfl
theorem Zsn {m:Nat}:nxt M N w i j a s m (j+1)=nxt M N w i j a s (m+1) (m+1):=by
 funext x
 unfold nxt
 rw[if_neg (show ¬ (m+1≤x∧x < m+1) by omega)]
 by_cases h:m≤x∧x < j+1
 ·rw[if_pos h]
 ·rw[if_neg h]
  by_cases hx:x≤j
  ·rw[Zuf (by omega)]
  ·unfold prt;rw[if_neg hx,if_neg hx]
theorem Zso {m e:Nat} (h0:a m=0):nxt M N w i j a s m e=nxt M N w i j a s (m+1) (m+1):=by
 have key:∀ x,prt N w i j a s (m+1) x=prt N w i j a s m x:=fun x=>by
  unfold prt
  split
  ·exact Zcs fun y _=>by
    by_cases e1:y=m
    ·subst e1
     rw[h0,Nat.zero_mul]
     split <;> split <;> rfl
    ·by_cases h:i≤y∧y≤x∧y < m
     ·rw[if_pos h,if_pos ⟨h.1,h.2.1,by omega⟩]
     ·rw[if_neg h,if_neg (fun q=>h ⟨q.1,q.2.1,by omega⟩)]
  ·rfl
 funext x
 unfold nxt
 rw[if_neg (show ¬ (m+1≤x∧x < m+1) by omega),key]
 split
 ·rw[key]
 ·rfl
theorem Zug:nxt M N w i j a s (j+1) (j+1)=stpS M N w i j a s:=by
 funext x
 unfold nxt
 rw[if_neg (show ¬ (j+1≤x∧x < j+1) by omega)]
 unfold stpS stp prt
 congr 1
 split
 ·exact Zcs fun y hy=>by
   by_cases h:i≤y∧y≤x
   ·rw[if_pos h,if_pos ⟨h.1,h.2,by omega⟩]
   ·rw[if_neg h,if_neg (fun q=>h ⟨q.1,q.2.1⟩)]
 ·rfl
end
theorem Zuh {M:Nat} {N:Cube} {w:List Int} {i j:Nat} {a:Nat→Nat} {s:Int} (x:Nat):stpS M N w i j a s x≤M:=Nat.min_le_left _ _
set_option maxHeartbeats 4000000 in
theorem ZgP {g:Gram} {t u v':Bool} {w rs:List Int} {M:Nat} {N:Cube} {i j:Nat} (hV:g.vars≤100000) (hrs:rs.length≤100000) (hM:M≤4611686018427387904) (hM1:1≤M) (hN:∀ v i j,N v i j≤M) (hw:w.length≤100000) (hwr:∀ x∈w,0≤x∧x≤1000000)
  (hs:∀ s∈rs,s < g.vars ∧ -1000000≤s) (hij:i≤j) (hj:j≤w.length) :
  ACalls Tryz.prog 176 [.ptr 1000 0,.d (ints v' rs),I i,I j] [(1000,ctBx t u g w M N)] (I ((rs.foldl (stpS M N w i j) (at0 i) j:Nat):Int)) [(1000,ctBx t u g w M N)]:=by
 have hCl:=Zg9 false N g.vars.toNat (w.length+1)
 have hCg:=fun v (hv:v < g.vars.toNat)=>Zha (t:=false) (N:=N) (L:=w.length+1) hv
 have hLw:(w.length:Int)+1=((w.length+1:Nat):Int):=by omega
 simp only[ctBx]
 generalize ZgH false N g.vars.toNat (w.length+1)=CU at *
 have e:(List.replicate (w.length+1) (iD 0)).set i (iD 1)=Zbc (w.length+1) (at0 i):=by
  rw[ZfO]
  exact Zg7 (v:=1)
 refine ACalls.intro (n:=124) Tryz.func176 rfl rfl (by simp) (by rfl) ?_
 simp only[Zak]
 repeat (first|refine wk ?_|refine Zaa (hr:=?_))
 refine Zvi 9 950 rfl rfl (by simp) rfl rfl ?_
 refine Zai (X:=Nat) (fun k=>k≤rs.length) (fun k=>[(10,I k),(9,.own 950 (w.length+1)),(3,I j),(2,I i),(1,.d (ints v' rs)),(0,.ptr 1000 0)]) (fun k=>[(950,.row 3 1 (Zbc (w.length+1) ((rs.take k).foldl (stpS M N w i j) (at0 i)))),(1000,.box 230 [.d (iD g.vars),.d (iD g.terms),.d (iD g.start),.d (ZaT t g.rules),.d (ints u w),.d (iD ((M:Nat):Int)),.d (.sl false 1 CU)])]) (fun k=>rs.length - k) 0 (Nat.zero_le _) ?_
 intro k hk
 clear e
 have hal:=ZcD (w.length+1) ((rs.take k).foldl (stpS M N w i j) (at0 i))
 have hag:=fun x (hx:x < (w.length+1))=>ZdZ (a:=(rs.take k).foldl (stpS M N w i j) (at0 i)) hx
 have hab:∀ x,(rs.take k).foldl (stpS M N w i j) (at0 i) x≤M:=fun x=>by
  cases k with
  | zero=>simp only[List.take_zero,List.foldl_nil,at0];split <;> omega
  | succ k=>rw[List.take_succ_eq_append_getElem (by omega),List.foldl_append];exact Zuh x
 by_cases hlt:k < rs.length
 ·have hnx:(rs.take (k+1)).foldl (stpS M N w i j) (at0 i)=stpS M N w i j ((rs.take k).foldl (stpS M N w i j) (at0 i)) rs[k]:=by rw[List.take_succ_eq_append_getElem hlt,List.foldl_append];rfl
  obtain⟨hs1,hs2⟩:=hs _ (List.getElem_mem hlt)
  have hrk:rs[k]?=some rs[k]:=by simp
  have e:List.replicate (w.length+1) (iD 0)=Zbc (w.length+1) (nxt M N w i j ((rs.take k).foldl (stpS M N w i j) (at0 i)) rs[k] i i):=by rw[ZfO,ZpQ]
  generalize (rs.take k).foldl (stpS M N w i j) (at0 i)=A at *
  generalize hsd:rs[k]=s at *
  repeat (first|refine wk ?_|refine Zaa (hr:=?_))
  refine Zai (X:=Nat) (fun m=>i≤m∧m≤j+1) (fun m=>[(12,I m),(11,.own 37 (w.length+1)),(10,I k),(9,.own 950 (w.length+1)),(3,I j),(2,I i),(1,.d (ints v' rs)),(0,.ptr 1000 0)]) (fun m=>[(37,.row 3 1 (Zbc (w.length+1) (nxt M N w i j A s m m))),(950,.row 3 1 (Zbc (w.length+1) A)),(1000,.box 230 [.d (iD g.vars),.d (iD g.terms),.d (iD g.start),.d (ZaT t g.rules),.d (ints u w),.d (iD ((M:Nat):Int)),.d (.sl false 1 CU)])]) (fun m=>j+1 - m) i ⟨Nat.le_refl _,by omega⟩ ?_
  rintro m ⟨m1,m2⟩
  have hA2:=hab m
  by_cases hmj:m≤j
  ·have hA1:=hag m (by omega)
   repeat (first|refine wk ?_|refine Zaa (hr:=?_))
   refine Zai (X:=Nat) (fun q=>m≤q∧q≤j+1) (fun q=>[(13,I q),(12,I m),(11,.own 37 (w.length+1)),(10,I k),(9,.own 950 (w.length+1)),(3,I j),(2,I i),(1,.d (ints v' rs)),(0,.ptr 1000 0)]) (fun q=>[(37,.row 3 1 (Zbc (w.length+1) (nxt M N w i j A s m q))),(950,.row 3 1 (Zbc (w.length+1) A)),(1000,.box 230 [.d (iD g.vars),.d (iD g.terms),.d (iD g.start),.d (ZaT t g.rules),.d (ints u w),.d (iD ((M:Nat):Int)),.d (.sl false 1 CU)])]) (fun q=>j+1 - q) m ⟨Nat.le_refl _,by omega⟩ ?_
   rintro q ⟨e1,e2⟩
   clear e
   have hB0:=ZcD (w.length+1) (nxt M N w i j A s m q)
   by_cases hgo:q≤j∧0 < A m
   ·obtain⟨g1,g2⟩:=hgo
    have hB1:(Zbc (w.length+1) (nxt M N w i j A s m q))[q]?=some (iD ((nxt M N w i j A s m q q:Nat):Int)):=ZdZ (by omega)
    have hB2:nxt M N w i j A s m q q≤M:=Zvu _ _ _
    have hst:=Zsm (M:=M) (N:=N) (w:=w) (i:=i) (j:=j) (a:=A) (s:=s) m1 e1 g1
    have g3:(0:Int) < ((A m:Nat):Int):=by omega
    have hsy:symN N w s m q≤M:=by
     unfold symN
     split
     ·exact hN _ _ _
     ·split <;> omega
    have hpr:=Zmc (a:=A m) (b:=symN N w s m q) hM hM1 hA2 hsy
    have hsm:=ZiB (a:=nxt M N w i j A s m q q) (b:=min M (A m * symN N w s m q)) hM hB2 (Nat.min_le_left _ _)
    rw[Zfp] at hsm
    have e:(Zbc (w.length+1) (nxt M N w i j A s m q)).set q (iD ((min M (nxt M N w i j A s m q q+A m * symN N w s m q):Nat):Int))=Zbc (w.length+1) (nxt M N w i j A s m (q+1)):=by rw[hst,Zg7,Zfp]
    by_cases h0:0≤s
    ·obtain⟨sn,rfl⟩:∃ sn:Nat,s=(sn:Int):=⟨s.toNat,by omega⟩
     have hsv:sn < g.vars.toNat:=by omega
     have hsy2:symN N w (sn:Int) m q=N sn m q:=by unfold symN;rw[if_pos h0,Int.toNat_natCast]
     have hC1:=hCg sn hsv
     have hP0:=ZfP false N (w.length+1) sn
     have hP1:=ZfQ (t:=false) (N:=N) (v:=sn) (L:=w.length+1) (i:=m) (by omega)
     have hQ0:=ZcD (w.length+1) (fun j=>N sn m j)
     have hQ1:=ZdZ (L:=w.length+1) (a:=fun j=>N sn m j) (e:=q) (by omega)
     rw[hsy2] at hpr hsm e
     generalize Zfh false N (w.length+1) sn=PL at *
     generalize Zbc (w.length+1) (fun j=>N sn m j)=QL at *
     generalize N sn m q=ne at *
     generalize Zbc (w.length+1) (nxt M N w i j A (sn:Int) m q)=BL at *
     generalize nxt M N w i j A (sn:Int) m q q=be at *
     repeat (first|refine wk ?_|refine Zaa (hr:=?_))
     refine Zab [] (hA:=hpr) (hr:=?_)
     repeat (first|refine wk ?_|refine Zaa (hr:=?_))
     refine Zab [] (hA:=hsm) (hr:=?_)
     repeat (first|refine wk ?_|refine Zaa (hr:=?_))
     exact Zad (q+1)
    ·have h0':¬ (0≤s):=h0
     have hC:symN N w s m q=if q=m+1∧w[m]?=some (-1 - s) then 1 else 0:=by unfold symN;rw[if_neg h0]
     by_cases hq:q=m+1
     ·have hmw:m < w.length:=by omega
      have hwm:=hwr _ (List.getElem_mem hmw)
      have hwm2:w[m]?=some w[m]:=by simp
      have hq':(q:Int)=(m:Int)+1:=by omega
      by_cases hw0:w[m] = -1 - s
      ·have hone:symN N w s m q=1:=by rw[hC,if_pos ⟨hq,by rw[hwm2,hw0]⟩]
       rw[hone] at hpr hsm e
       generalize Zbc (w.length+1) (nxt M N w i j A s m q)=BL at *
       generalize nxt M N w i j A s m q q=be at *
       repeat (first|refine wk ?_|refine Zaa (hr:=?_))
       refine Zab [] (hA:=hpr) (hr:=?_)
       repeat (first|refine wk ?_|refine Zaa (hr:=?_))
       refine Zab [] (hA:=hsm) (hr:=?_)
       repeat (first|refine wk ?_|refine Zaa (hr:=?_))
       exact Zad (q+1)
      ·have hone:symN N w s m q=0:=by rw[hC,if_neg (fun h=>hw0 (by have:=h.2;rw[hwm2] at this;simpa using this))]
       rw[hone] at hpr hsm e
       generalize Zbc (w.length+1) (nxt M N w i j A s m q)=BL at *
       generalize nxt M N w i j A s m q q=be at *
       repeat (first|refine wk ?_|refine Zaa (hr:=?_))
       refine Zab [] (hA:=hpr) (hr:=?_)
       repeat (first|refine wk ?_|refine Zaa (hr:=?_))
       refine Zab [] (hA:=hsm) (hr:=?_)
       repeat (first|refine wk ?_|refine Zaa (hr:=?_))
       exact Zad (q+1)
     ·have hq':¬ (q:Int)=(m:Int)+1:=by omega
      have hone:symN N w s m q=0:=by rw[hC,if_neg (fun h=>hq h.1)]
      rw[hone] at hpr hsm e
      generalize Zbc (w.length+1) (nxt M N w i j A s m q)=BL at *
      generalize nxt M N w i j A s m q q=be at *
      repeat (first|refine wk ?_|refine Zaa (hr:=?_))
      (repeat (first|refine wkz ?_|refine Zaa (hr:=?_)))
      repeat (first|refine wk ?_|refine Zaa (hr:=?_))
      refine Zab [] (hA:=hpr) (hr:=?_)
      repeat (first|refine wk ?_|refine Zaa (hr:=?_))
      refine Zab [] (hA:=hsm) (hr:=?_)
      repeat (first|refine wk ?_|refine Zaa (hr:=?_))
      exact Zad (q+1)
   ·have hE:nxt M N w i j A s m q=nxt M N w i j A s (m+1) (m+1):=by
     by_cases hA0:A m=0
     ·exact Zso hA0
     ·have:q=j+1:=by omega
      rw[this];exact Zsn
    rw[hE]
    by_cases hqj:q≤j
    ·have hA0:¬ (0:Int) < ((A m:Nat):Int):=by omega
     repeat (first|refine wk ?_|refine Zaa (hr:=?_))
     exact Zad (m+1)
    ·have hqj':¬ (q:Int)≤j:=by omega
     (repeat (first|refine wk ?_|refine Zaa (hr:=?_)))
     (repeat (first|refine wkz ?_|refine Zaa (hr:=?_)))
     repeat (first|refine wk ?_|refine Zaa (hr:=?_))
     exact Zad (m+1)
  ·obtain rfl:m=j+1:=by omega
   rw[Zug]
   rw[←hnx]
   have hbl:=ZcD (w.length+1) ((rs.take (k+1)).foldl (stpS M N w i j) (at0 i))
   repeat (first|refine ZnF 9 37 950 rfl rfl hbl [(10,I k),(3,I j),(2,I i),(1,.d (ints v' rs)),(0,.ptr 1000 0)] [(1000,.box 230 [.d (iD g.vars),.d (iD g.terms),.d (iD g.start),.d (ZaT t g.rules),.d (ints u w),.d (iD ((M:Nat):Int)),.d (.sl false 1 CU)])] rfl rfl rfl (by repeat' (first|exact trivial|exact VLe.refl _|refine And.intro ?_ ?_)) (by repeat' (first|exact trivial|exact HElt.of rfl|refine And.intro ?_ ?_)) ?_|refine wk1 ?_)
   exact Zad (k+1)
 ·obtain rfl:k=rs.length:=by omega
  rw[List.take_length]
  rw[List.take_length] at hag hal
  have hA1:=hag j (by omega)
  repeat (first|refine wk ?_|refine Zaa (hr:=?_))
  exact fin
end Go.Proofs.YtbpmepgnjanhnaaGreat
namespace Go.Proofs.YtbpmepgnjanhnaaGreat
open Go.RowKit
set_option maxRecDepth 100000
def rowT (N:Cube) (L v i:Nat):Tr:=.row 3 1 (Zbc L (fun j=>N v i j))
def Zbt (N:Cube) (L v k:Nat):List Tr:=(List.range k).map (rowT N L v)
def Zhb (N:Cube) (L v:Nat):Tr:=.node 25 (Zbt N L v L)
def Zba (N:Cube) (L V:Nat):List Tr:=(List.range V).map (Zhb N L)
theorem Zdm (N:Cube) (L v k:Nat):(Zbt N L v k).length=k:=by simp[Zbt]
theorem Zfi (N:Cube) (L V:Nat):(Zba N L V).length=V:=by simp[Zba]
theorem ZoR (N:Cube) (L v k:Nat):Zbt N L v k++[rowT N L v k]=Zbt N L v (k+1):=by simp[Zbt,List.range_succ]
theorem ZoS (N:Cube) (L V:Nat):Zba N L V++[Zhb N L V]=Zba N L (V+1):=by simp[Zba,List.range_succ]
abbrev Zd0:Cube:=fun _ _ _=>0
abbrev wBx (u:Bool) (w:List Int):Ob:=.box 25 [.d (ints u w)]
theorem ZfR {h:Hp} {k e:Nat} {A A':List Tr} {r:List (Nat×Nat)} {B:List Tr} (hk:hget h k=some (.nest e A r B)) (hx:A=A'):HElt h k (.nest e A' r B):=HElt.of (hx ▸ hk)
set_option maxHeartbeats 4000000 in
theorem Zsp {g:Gram} {t u:Bool} {w:List Int} (hV0:0≤g.vars) (hV:g.vars≤100000) (hw:w.length≤100000) :
  ACalls Tryz.prog 174 [.ptr 1001 0,.ptr 1002 0] [(1001,Zar t g),(1002,wBx u w)] (.own 903 g.vars.toNat) [(903,.nest 231 (Zba Zd0 (w.length+1) g.vars.toNat) [] []),(1001,Zar t g),(1002,wBx u w)]:=by
 have hLw:(w.length:Int)+1=((w.length+1:Nat):Int):=by omega
 obtain⟨V,hVe⟩:∃ V:Nat,g.vars=(V:Int):=⟨g.vars.toNat,by omega⟩
 rw[hVe,Int.toNat_natCast]
 refine ACalls.intro (n:=31) Tryz.func174 rfl rfl (by simp) (by rfl) ?_
 simp only[Zak,Zar,hVe]
 repeat (first|refine wk ?_|refine Zaa (hr:=?_))
 refine Zr8 3 903 231 rfl rfl rfl ?_
 have e0:Zba Zd0 (w.length+1) 0=[]:=rfl
 refine Zai (X:=Nat) (fun v=>v≤V) (fun v=>[(4,I v),(3,.own 903 v),(1,.ptr 1002 0),(0,.ptr 1001 0)]) (fun v=>[(903,.nest 231 (Zba Zd0 (w.length+1) v) [] []),(1001,.box 24 [.d (iD V),.d (iD g.terms),.d (iD g.start),.d (ZaT t g.rules)]),(1002,wBx u w)]) (fun v=>V - v) 0 (Nat.zero_le _) ?_
 intro v hv
 by_cases hlt:v < V
 ·repeat (first|refine wk ?_|refine Zaa (hr:=?_))
  refine Zr8 5 904 25 rfl rfl rfl ?_
  refine Zai (X:=Nat) (fun i=>i≤w.length+1) (fun i=>[(6,I i),(5,.own 904 i),(4,I v),(3,.own 903 v),(1,.ptr 1002 0),(0,.ptr 1001 0)]) (fun i=>[(904,.nest 25 (Zbt Zd0 (w.length+1) v i) [] []),(903,.nest 231 (Zba Zd0 (w.length+1) v) [] []),(1001,.box 24 [.d (iD V),.d (iD g.terms),.d (iD g.start),.d (ZaT t g.rules)]),(1002,wBx u w)]) (fun i=>w.length+1 - i) 0 (Nat.zero_le _) ?_
  intro i hi
  by_cases hil:i≤w.length
  ·have hrl:=Zdm Zd0 (w.length+1) v i
   have e:List.replicate (w.length+1) (iD 0)=Zbc (w.length+1) (fun _=>0):=ZfO _
   have hnl:=ZcD (w.length+1) (fun _=>0)
   repeat (first|refine Zud TY rfl rfl Zag rfl rfl rfl rfl rfl rfl rfl ?_|refine Zue TY rfl Zag rfl rfl rfl hrl rfl rfl rfl rfl rfl rfl rfl rfl (nb:=24) rfl (by omega) (by omega) ?_|refine ZdC 904 rfl rfl (.row (by simp)) ?_|refine wk1 ?_)
   have e9:Zbt Zd0 (w.length+1) v i++[Tr.row 3 1 (List.replicate (w.length+1) (iD 0))]=Zbt Zd0 (w.length+1) v (i+1):=by rw[e];exact ZoR Zd0 (w.length+1) v i
   exact Zad (i+1) (d:=⟨ZfR rfl e9,.of rfl,.of rfl,.of rfl,trivial⟩)
  ·obtain rfl:i=w.length+1:=by omega
   have hrl:=Zdm Zd0 (w.length+1) v (w.length+1)
   have hcl:=Zfi Zd0 (w.length+1) v
   repeat (first|refine Zud TY rfl rfl Zag rfl rfl rfl rfl rfl rfl rfl ?_|refine Zue TY rfl Zag rfl rfl rfl hcl rfl rfl rfl rfl rfl rfl rfl rfl (nb:=24) rfl (by omega) (by omega) ?_|refine ZdC 903 rfl rfl (.nest hrl) ?_|refine wk1 ?_)
   have e9:Zba Zd0 (w.length+1) v++[Tr.node 25 (Zbt Zd0 (w.length+1) v (w.length+1))]=Zba Zd0 (w.length+1) (v+1):=ZoS Zd0 (w.length+1) v
   exact Zad (v+1) (d:=⟨ZfR rfl e9,.of rfl,.of rfl,trivial⟩)
 ·obtain rfl:v=V:=by omega
  repeat (first|refine wk ?_|refine Zaa (hr:=?_))
  exact fin
end Go.Proofs.YtbpmepgnjanhnaaGreat
