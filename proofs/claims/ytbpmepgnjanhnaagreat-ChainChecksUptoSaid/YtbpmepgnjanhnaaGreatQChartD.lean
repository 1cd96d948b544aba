import Derived.Test.YtbpmepgnjanhnaaGreatChA
import Derived.Test.YtbpmepgnjanhnaaGreatSmN
import Derived.Test.YtbpmepgnjanhnaaGreatQChF
set_option linter.unusedVariables false
set_option linter.unusedSimpArgs false
set_option linter.unusedSectionVars false
namespace Go.Proofs.YtbpmepgnjanhnaaGreat
open Go.RowKit
set_option maxRecDepth 100000
theorem Zqe (N:Cube) (L v k:Nat):Tr.toDs (Zbt N L v k)=(List.range k).map fun i=>.sl false 1 (Zbc L (fun j=>N v i j)):=by rw[Tr.toDs_map];simp[Zbt,rowT,Tr.toD]
theorem ZkL (N:Cube) (L V:Nat):Tr.toDs (Zba N L V)=ZgH false N V L:=by
 rw[Tr.toDs_map]
 simp only[Zba,ZgH,List.map_map]
 exact List.map_congr_left fun v _=>by simp only[Function.comp,Zhb,Tr.toD,Zqe];rfl
def accC (g:Gram) (w:List Int) (M:Nat) (N:Cube) (k:Nat):Cube:=fun v i j=>if i≤j∧j≤w.length then min M (((g.rules.take k).filter fun r=>decide (r.left=(v:Int))).map fun r=>wcn N w r.right i j).sum else 0
def midC (g:Gram) (w:List Int) (M:Nat) (N:Cube) (k a b:Nat):Cube:=fun v i j=>if i < a∨(i=a∧j < b) then accC g w M N (k+1) v i j else accC g w M N k v i j
section
variable {g:Gram} {w:List Int} {M:Nat} {N:Cube}
theorem Zqf:accC g w M N 0=Zd0:=by funext v i j;unfold accC;simp
theorem Zuo (k v i j:Nat):accC g w M N k v i j≤M:=by unfold accC;split <;> omega
theorem Zup (k a b v i j:Nat):midC g w M N k a b v i j≤M:=by unfold midC;split <;> exact Zuo _ _ _ _
theorem ZsK (hg:∀ r∈g.rules,r.left < g.vars):accC g w M N g.rules.length=rnd g w M N:=by
 funext v i j
 unfold accC rnd allR
 rw[List.take_length]
 by_cases hv:(v:Int) < g.vars
 ·simp[hv]
 ·rw[if_neg (show ¬ ((v:Int) < g.vars∧i≤j∧j≤w.length) from fun h=>hv h.1)]
  have:(g.rules.filter fun r=>decide (r.left=(v:Int)))=[]:=List.filter_eq_nil_iff.2 fun r hr=>by have:=hg r hr;simp;omega
  rw[this];simp
theorem Zo8 {k v i j:Nat} (hk:k < g.rules.length) (hv:g.rules[k].left≠(v:Int)):accC g w M N (k+1) v i j=accC g w M N k v i j:=by
 unfold accC
 rw[List.take_succ_eq_append_getElem hk,List.filter_append]
 simp[hv]
theorem Zqg {k v i j:Nat} (hk:k < g.rules.length) (hv:g.rules[k].left=(v:Int)) (hij:i≤j) (hj:j≤w.length):accC g w M N (k+1) v i j=min M (accC g w M N k v i j+min M (wcn N w g.rules[k].right i j)):=by
 unfold accC
 rw[if_pos ⟨hij,hj⟩,if_pos ⟨hij,hj⟩,List.take_succ_eq_append_getElem hk,List.filter_append]
 simp only[hv,decide_true,List.filter_cons_of_pos,List.filter_nil,List.map_append,List.map_cons,List.map_nil,List.sum_append,List.sum_cons,List.sum_nil]
 omega
theorem Zeo {k v i j:Nat} (h:¬ (i≤j∧j≤w.length)):accC g w M N k v i j=0:=by unfold accC;rw[if_neg h]
theorem Zo9 (k:Nat):midC g w M N k 0 0=accC g w M N k:=by funext v i j;unfold midC;rw[if_neg (by omega)]
theorem ZsL (k a:Nat):midC g w M N k a (w.length+1)=midC g w M N k (a+1) (a+1):=by
 funext v i j
 unfold midC
 by_cases h:i < a∨(i=a∧j < w.length+1)
 ·rw[if_pos h,if_pos (by omega)]
 ·rw[if_neg h]
  split
  ·rename_i h2
   by_cases e:i=a
   ·rw[Zeo (by omega),Zeo (by omega)]
   ·rw[Zeo (by omega),Zeo (by omega)]
  ·rfl
theorem ZsM (k:Nat):midC g w M N k (w.length+1) (w.length+1)=accC g w M N (k+1):=by
 funext v i j
 unfold midC
 split
 ·rfl
 ·rw[Zeo (by omega),Zeo (by omega)]
theorem Zqh {k a b v:Nat} (hk:k < g.rules.length) (hv:g.rules[k].left=(v:Int)) (hab:a≤b) (hb:b≤w.length) :
  midC g w M N k a (b+1)=fun v' i j=>if v'=v∧i=a∧j=b then min M (midC g w M N k a b v a b+min M (wcn N w g.rules[k].right a b)) else midC g w M N k a b v' i j:=by
 funext v' i j
 by_cases e:v'=v∧i=a∧j=b
 ·obtain⟨rfl,rfl,rfl⟩:=e
  rw[if_pos ⟨rfl,rfl,rfl⟩]
  unfold midC
  rw[if_pos (by omega),if_neg (by omega),Zqg hk hv hab hb]
 ·rw[if_neg e]
  unfold midC
  by_cases h:i < a∨(i=a∧j < b)
  ·rw[if_pos h,if_pos (by omega)]
  ·rw[if_neg h]
   split
   ·have:i=a∧j=b:=by omega
    exact Zo8 hk (fun q=>e ⟨by omega,this⟩)
   ·rfl
end
theorem ZkM {α:Type} {l:List α} {i:Nat} {t:α} (h:i < l.length):l.take i++t::l.drop (i+1)=l.set i t:=by rw[List.set_eq_take_append_cons_drop,if_pos h]
theorem Zqi {N:Cube} {L V v i j x:Nat} (hv:v < V) (hi:i < L) :
  (Zba N L V).take v++Tr.node 25 ((Zbt N L v L).take i++Tr.row 3 1 ((Zbc L (fun y=>N v i y)).set j (iD ((x:Nat):Int)))::(Zbt N L v L).drop (i+1))::(Zba N L V).drop (v+1)=Zba (fun v' i' j'=>if v'=v∧i'=i∧j'=j then x else N v' i' j') L V:=by
 rw[ZkM (l:=Zbt N L v L) (by rw[Zdm];exact hi),ZkM (l:=Zba N L V) (by rw[Zfi];exact hv)]
 refine List.ext_getElem (by simp[Zfi]) fun k k1 k2=>?_
 rw[List.getElem_set]
 by_cases e:v=k
 ·subst e
  rw[if_pos rfl]
  simp only[Zba,List.getElem_map,List.getElem_range,Zhb]
  congr 1
  refine List.ext_getElem (by simp[Zdm]) fun l l1 l2=>?_
  rw[List.getElem_set]
  by_cases e2:i=l
  ·subst e2
   rw[if_pos rfl]
   simp only[Zbt,List.getElem_map,List.getElem_range,rowT]
   rw[Zg7]
   congr 1
   exact ZeN fun y _=>by simp
  ·rw[if_neg e2]
   simp only[Zbt,List.getElem_map,List.getElem_range,rowT]
   congr 1
   exact ZeN fun y _=>by rw[if_neg (fun h=>e2 h.2.1.symm)]
 ·rw[if_neg e]
  simp only[Zba,List.getElem_map,List.getElem_range,Zhb]
  congr 1
  simp only[Zbt]
  refine List.map_congr_left fun l _=>?_
  simp only[rowT]
  congr 1
  exact ZeN fun y _=>by rw[if_neg (fun h=>e h.1.symm)]
abbrev ctBV (t u:Bool) (g:Gram) (w:List Int) (M V:Nat) (N:Cube):Ob:=.box 230 [.d (iD g.vars),.d (iD g.terms),.d (iD g.start),.d (ZaT t g.rules),.d (ints u w),.d (iD ((M:Nat):Int)),.d (.sl false 1 (ZgH false N V (w.length+1)))]
def ZeF (N N':Cube) (L a b:Nat):Prop:=∀ v i,(v < a∨(v=a∧i < b))→i < L→∀ j,j < L→N v i j=N' v i j
theorem Zqj {N N':Cube} {L v i:Nat} (h:ZeF N N' L v (i+1)):ZeF N N' L v i:=fun v' i' q=>h v' i' (by omega)
theorem Zmw {N N':Cube} {L v i:Nat} (h:ZeF N N' L v i):(i < L→∀ x,x < L→N v i x=N' v i x)↔ZeF N N' L v (i+1):=by
 constructor
 ·intro q v' i' hv' hi' x hx
  by_cases e:v'=v∧i'=i
  ·obtain⟨rfl,rfl⟩:=e;exact q hi' x hx
  ·exact h v' i' (by omega) hi' x hx
 ·intro q hi x hx
  exact q v i (.inr ⟨rfl,by omega⟩) hi x hx
theorem Zpa {N N':Cube} {L v:Nat}:ZeF N N' L v L↔ZeF N N' L (v+1) 0 :=
 ⟨fun h v' i' q hi=>h v' i' (by omega) hi,fun h v' i' q hi=>h v' i' (by omega) hi⟩
set_option maxHeartbeats 4000000 in
theorem ZkN {g:Gram} (hg:g.ok) {t u:Bool} {w:List Int} {M:Nat} (hw:w.length≤100000) (hwr:∀ x∈w,0≤x∧x≤1000000) (hM1:1≤M) (hM:M≤4611686018427387904) :
  ACalls Tryz.prog 99 [.d (ZaH t g),.d (ints u w),I M] [] (.ptr 21 0) [(21,ctBx t u g w M (wcns g w M))]:=by
 have hvv:=hg.vars
 have hv1:=hg.vars1
 have hrl:=hg.rules
 have hz:=Zsp (g:=g) (t:=t) (u:=u) (w:=w) (by omega) (by omega) (by omega)
 obtain⟨V,hVe⟩:∃ V:Nat,g.vars.toNat=V:=⟨_,rfl⟩
 have hVi:g.vars=(V:Int):=by omega
 rw[hVe] at hz
 have hCL:=fun N=>Zfi N (w.length+1) V
 have hbx:∀ N,ctBx t u g w M N=ctBV t u g w M V N:=fun N=>by rw[←hVe]
 refine ACalls.intro (n:=127) Tryz.func99 rfl rfl (by simp) (by rfl) ?_
 simp only[Zak]
 repeat (first|refine wk ?_|refine Zaa (hr:=?_))
 refine Zab [(1001,3),(1002,4),(903,960)] (hA:=hz) (hr:=?_)
 repeat (first|refine ZnH 21 6 960 rfl rfl rfl (hCL _) ?_|refine wk1 ?_)
 rw[ZkL]
 refine Zai (X:=Nat×Bool) (fun x=>(x.2=false→rnds g w M x.1=wcns g w M)∧(x.2=true→x.1≤many g w M)) (fun x=>[(9,B x.2),(8,.fn (.func 174) [] [.ptr 3 0,.ptr 4 0]),(7,.ptr 21 0),(4,.ptr 4 0),(3,.ptr 3 0),(2,I M)]) (fun x=>[(21,ctBV t u g w M V (rnds g w M x.1)),(3,Zar t g),(4,wBx u w)]) (fun x=>if x.2=true then many g w M+1 - x.1 else 0) (0,true) ⟨by simp,by simp⟩ ?_
 rintro⟨k,b⟩ ⟨b1,b2⟩
 dsimp only at b1 b2 ⊢
 cases b with
 | false =>
  rw[b1 rfl]
  repeat (first|refine wk ?_|refine Zaa (hr:=?_))
  rw[←hVe]
  exact fin
 | true =>
 have hkm:=b2 rfl
 have hN0:=fun v i j=>Zmx (g:=g) (w:=w) (M:=M) k v i j
 have hnew:rnds g w M (k+1)=rnd g w M (rnds g w M k):=rfl
 have hmore:=ZkT (g:=g) (w:=w) (M:=M) (k:=k)
 have hlast:=ZnZ (g:=g) (w:=w) (M:=M) (k:=k)
 have hacc:=ZsK (w:=w) (M:=M) (N:=rnds g w M k) hg.left
 rw[←hnew] at hacc
 have hwys:=fun (i j:Nat) (hij:i≤j) (l:List Int)=>ZgT (M:=M) (N:=rnds g w M k) (w:=w) hM1 hij l
 generalize hN:rnds g w M k=N0 at *
 generalize hN1:rnds g w M (k+1)=N1 at *
 repeat (first|refine wk ?_|refine Zaa (hr:=?_))
 refine Zab [(1001,3),(1002,4),(903,961)] (hA:=hz) (hr:=?_)
 repeat (first|refine wk ?_|refine Zaa (hr:=?_))
 have e:Zba Zd0 (w.length+1) V=Zba (accC g w M N0 0) (w.length+1) V:=by rw[Zqf]
 refine Zai (X:=Nat) (fun r=>r≤g.rules.length) (fun r=>[(11,I r),(10,.own 961 V),(9,B false),(8,.fn (.func 174) [] [.ptr 3 0,.ptr 4 0]),(7,.ptr 21 0),(4,.ptr 4 0),(3,.ptr 3 0),(2,I M)]) (fun r=>[(961,.nest 231 (Zba (accC g w M N0 r) (w.length+1) V) [] []),(21,ctBV t u g w M V N0),(3,Zar t g),(4,wBx u w)]) (fun r=>g.rules.length - r) 0 (Nat.zero_le _) ?_ (hh:=⟨ZfR rfl e,.of rfl,.of rfl,.of rfl,trivial⟩)
 intro r hr
 clear e
 by_cases hlt:r < g.rules.length
 ·obtain⟨v0,hv0⟩:∃ v0:Nat,g.rules[r].left=(v0:Int):=⟨g.rules[r].left.toNat,by have:=hg.left0 _ (List.getElem_mem hlt);omega⟩
  have hvl:=hg.left _ (List.getElem_mem hlt)
  have hv0V:v0 < V:=by omega
  have hrr:=hg.right _ (List.getElem_mem hlt)
  have hri:=hg.hi _ (List.getElem_mem hlt)
  have hrlo:=hg.lo _ (List.getElem_mem hlt)
  have htm:=hg.terms
  repeat (first|refine wk ?_|refine Zaa (hr:=?_))
  have e:Zba (accC g w M N0 r) (w.length+1) V=Zba (midC g w M N0 r 0 0) (w.length+1) V:=by rw[Zo9]
  refine Zai (X:=Nat) (fun i=>i≤w.length+1) (fun i=>[(13,I i),(12,I v0),(11,I r),(10,.own 961 V),(9,B false),(8,.fn (.func 174) [] [.ptr 3 0,.ptr 4 0]),(7,.ptr 21 0),(4,.ptr 4 0),(3,.ptr 3 0),(2,I M)]) (fun i=>[(961,.nest 231 (Zba (midC g w M N0 r i i) (w.length+1) V) [] []),(21,ctBV t u g w M V N0),(3,Zar t g),(4,wBx u w)]) (fun i=>w.length+1 - i) 0 (Nat.zero_le _) ?_ (hh:=⟨ZfR rfl e,.of rfl,.of rfl,.of rfl,trivial⟩)
  intro i hi
  clear e
  by_cases hil:i≤w.length
  ·repeat (first|refine wk ?_|refine Zaa (hr:=?_))
   refine Zai (X:=Nat) (fun j=>i≤j∧j≤w.length+1) (fun j=>[(14,I j),(13,I i),(12,I v0),(11,I r),(10,.own 961 V),(9,B false),(8,.fn (.func 174) [] [.ptr 3 0,.ptr 4 0]),(7,.ptr 21 0),(4,.ptr 4 0),(3,.ptr 3 0),(2,I M)]) (fun j=>[(961,.nest 231 (Zba (midC g w M N0 r i j) (w.length+1) V) [] []),(21,ctBV t u g w M V N0),(3,Zar t g),(4,wBx u w)]) (fun j=>w.length+1 - j) i ⟨Nat.le_refl _,by omega⟩ ?_
   rintro j ⟨j1,j2⟩
   by_cases hjl:j≤w.length
   ·have hstep:=Zqh (w:=w) (M:=M) (N:=N0) hlt hv0 j1 hjl
    have hMle:=Zup (g:=g) (w:=w) (M:=M) (N:=N0) r i j v0 i j
    have hways:=ZgP (g:=g) (t:=t) (u:=u) (v':=t) (w:=w) (rs:=g.rules[r].right) (M:=M) (N:=N0) (i:=i) (j:=j) (by omega) (by omega) hM hM1 hN0 hw hwr (fun s hs=>⟨hri s hs,by have:=hrlo s hs;omega⟩) j1 hjl
    rw[hwys i j j1,hbx] at hways
    have hsm:=ZiB (a:=midC g w M N0 r i j v0 i j) (b:=min M (wcn N0 w g.rules[r].right i j)) hM hMle (Nat.min_le_left _ _)
    have hupd:=Zqi (N:=midC g w M N0 r i j) (L:=w.length+1) (V:=V) (v:=v0) (i:=i) (j:=j) (x:=min M (midC g w M N0 r i j v0 i j+min M (wcn N0 w g.rules[r].right i j))) hv0V (by omega)
    rw[←hstep] at hupd
    have hf1:(Zba (midC g w M N0 r i j) (w.length+1) V)[v0]?=some (.node 25 (Zbt (midC g w M N0 r i j) (w.length+1) v0 (w.length+1))):=by simp[Zba,Zhb,hv0V]
    have hf2:(Zbt (midC g w M N0 r i j) (w.length+1) v0 (w.length+1))[i]?=some (.row 3 1 (Zbc (w.length+1) (fun y=>midC g w M N0 r i j v0 i y))):=by simp[Zbt,rowT,(show i < w.length+1 by omega)]
    have hr0:=Zdm (midC g w M N0 r i j) (w.length+1) v0 (w.length+1)
    have hn0:=ZcD (w.length+1) (fun y=>midC g w M N0 r i j v0 i y)
    have hng:(Zbc (w.length+1) (fun y=>midC g w M N0 r i j v0 i y))[j]?=some (iD ((midC g w M N0 r i j v0 i j:Nat):Int)):=ZdZ (a:=fun y=>midC g w M N0 r i j v0 i y) (by omega)
    have hl1:((Zba (midC g w M N0 r i j) (w.length+1) V).take v0).length=v0:=by rw[List.length_take,hCL];omega
    have hl2:((Zba (midC g w M N0 r i j) (w.length+1) V).drop (v0+1)).length=V - (v0+1):=by rw[List.length_drop,hCL]
    have hl3:((Zbt (midC g w M N0 r i j) (w.length+1) v0 (w.length+1)).take i).length=i:=by rw[List.length_take,hr0];omega
    have hl4:((Zbt (midC g w M N0 r i j) (w.length+1) v0 (w.length+1)).drop (i+1)).length=w.length+1 - (i+1):=by rw[List.length_drop,hr0]
    have hm1:((Zba (midC g w M N0 r i j) (w.length+1) V).take v0).length+1+((Zba (midC g w M N0 r i j) (w.length+1) V).drop (v0+1)).length=V:=by omega
    have hm2:((Zbt (midC g w M N0 r i j) (w.length+1) v0 (w.length+1)).take i).length+1+((Zbt (midC g w M N0 r i j) (w.length+1) v0 (w.length+1)).drop (i+1)).length=w.length+1:=by omega
    have hiL:i < w.length+1:=by omega
    refine Zg4 961 970 v0 rfl rfl rfl hf1 (.nest hr0) ?_
    refine Zg4 970 971 i rfl rfl rfl hf2 (.row hn0) ?_
    generalize min M (wcn N0 w g.rules[r].right i j)=wc at *
    generalize midC g w M N0 r i j v0 i j=mc at *
    generalize Zbc (w.length+1) (fun y=>midC g w M N0 r i j v0 i y)=RW at *
    generalize (Zbt (midC g w M N0 r i j) (w.length+1) v0 (w.length+1)).take i=RA at *
    generalize (Zbt (midC g w M N0 r i j) (w.length+1) v0 (w.length+1)).drop (i+1)=RB at *
    generalize (Zba (midC g w M N0 r i j) (w.length+1) V).take v0=PA at *
    generalize (Zba (midC g w M N0 r i j) (w.length+1) V).drop (v0+1)=PB at *
    repeat (first|refine wk ?_|refine Za2 TY v0 rfl Zag rfl rfl hm1 rfl rfl hv0V rfl rfl rfl rfl ?_|refine Za2 TY i rfl Zag rfl rfl hm2 rfl rfl hiL rfl rfl rfl rfl ?_|refine Zdl TY rfl Zag rfl rfl hm1 hl1 rfl rfl ?_|refine Zdl TY rfl Zag rfl rfl hm2 hl3 rfl rfl ?_)
    refine Zab [(1000,21)] (hA:=hways) (hr:=?_)
    repeat (first|refine wk ?_|refine Za2 TY v0 rfl Zag rfl rfl hm1 rfl rfl hv0V rfl rfl rfl rfl ?_|refine Za2 TY i rfl Zag rfl rfl hm2 rfl rfl hiL rfl rfl rfl rfl ?_|refine Zdl TY rfl Zag rfl rfl hm1 hl1 rfl rfl ?_|refine Zdl TY rfl Zag rfl rfl hm2 hl3 rfl rfl ?_)
    refine Zab [] (hA:=hsm) (hr:=?_)
    repeat (first|refine ZdC 970 rfl rfl (.row (by simp[hn0])) ?_|refine ZdC 961 rfl rfl (.nest (by simp;omega)) ?_|refine wk1 ?_|refine Za2 TY v0 rfl Zag rfl rfl hm1 rfl rfl hv0V rfl rfl rfl rfl ?_|refine Za2 TY i rfl Zag rfl rfl hm2 rfl rfl hiL rfl rfl rfl rfl ?_|refine Zdl TY rfl Zag rfl rfl hm1 hl1 rfl rfl ?_|refine Zdl TY rfl Zag rfl rfl hm2 hl3 rfl rfl ?_)
    exact Zad (j+1) (d:=⟨ZfR rfl hupd,.of rfl,.of rfl,.of rfl,trivial⟩)
   ·obtain rfl:j=w.length+1:=by omega
    rw[ZsL]
    repeat (first|refine wk ?_|refine Zaa (hr:=?_))
    exact Zad (i+1) (d:=⟨.of rfl,.of rfl,.of rfl,.of rfl,trivial⟩)
  ·obtain rfl:i=w.length+1:=by omega
   rw[ZsM]
   repeat (first|refine wk ?_|refine Zaa (hr:=?_))
   exact Zad (r+1) (d:=⟨.of rfl,.of rfl,.of rfl,.of rfl,trivial⟩)
 ·obtain rfl:r=g.rules.length:=by omega
  rw[hacc]
  repeat (first|refine wk ?_|refine Zaa (hr:=?_))
  refine Zai (X:=Nat×Bool) (fun x=>x.1≤V∧(x.2=false↔ZeF N1 N0 (w.length+1) x.1 0)) (fun x=>[(15,I x.1),(10,.own 961 V),(9,B x.2),(8,.fn (.func 174) [] [.ptr 3 0,.ptr 4 0]),(7,.ptr 21 0),(4,.ptr 4 0),(3,.ptr 3 0),(2,I M)]) (fun x=>[(961,.nest 231 (Zba N1 (w.length+1) V) [] []),(21,ctBV t u g w M V N0),(3,Zar t g),(4,wBx u w)]) (fun x=>V - x.1) (0,false) ⟨Nat.zero_le _,by simp;exact fun v' i' h=>by omega⟩ ?_
  rintro⟨v,b⟩ ⟨hv,hb⟩
  dsimp only at hv hb ⊢
  by_cases hlv:v < V
  ·repeat (first|refine wk ?_|refine Zaa (hr:=?_))
   refine Zai (X:=Nat×Bool) (fun x=>x.1≤w.length+1∧(x.2=false↔ZeF N1 N0 (w.length+1) v x.1)) (fun x=>[(16,I x.1),(15,I v),(10,.own 961 V),(9,B x.2),(8,.fn (.func 174) [] [.ptr 3 0,.ptr 4 0]),(7,.ptr 21 0),(4,.ptr 4 0),(3,.ptr 3 0),(2,I M)]) (fun x=>[(961,.nest 231 (Zba N1 (w.length+1) V) [] []),(21,ctBV t u g w M V N0),(3,Zar t g),(4,wBx u w)]) (fun x=>w.length+1 - x.1) (0,b) ⟨Nat.zero_le _,hb⟩ ?_
   clear hb
   rintro⟨i,b⟩ ⟨hi,hb⟩
   dsimp only at hi hb ⊢
   by_cases hil:i≤w.length
   ·cases b with
    | true =>
     have hna:true=false↔ZeF N1 N0 (w.length+1) v (i+1):=by
      simp only[Bool.true_eq_false,false_iff] at hb ⊢
      exact fun h=>hb (Zqj h)
     (repeat (first|refine wk ?_|refine Zaa (hr:=?_)))
     (repeat (first|refine wkz ?_|refine Zaa (hr:=?_)))
     repeat (first|refine wk ?_|refine Zaa (hr:=?_))
     exact Zad (i+1,true) (d:=⟨.of rfl,.of rfl,.of rfl,.of rfl,trivial⟩)
    | false =>
     have hal:=hb.1 rfl
     have hf1:(Zba N1 (w.length+1) V)[v]?=some (.node 25 (Zbt N1 (w.length+1) v (w.length+1))):=by simp[Zba,Zhb,hlv]
     have hf2:(Zbt N1 (w.length+1) v (w.length+1))[i]?=some (.row 3 1 (Zbc (w.length+1) (fun y=>N1 v i y))):=by simp[Zbt,rowT,(show i < w.length+1 by omega)]
     have hp1:=split_at hf1
     have hp2:=split_at hf2
     rw[hp2] at hp1
     have hr0:=Zdm N1 (w.length+1) v (w.length+1)
     have hn0:=Zkw (w.length+1) (fun y=>N1 v i y)
     have hn0':=ZcD (w.length+1) (fun y=>N1 v i y)
     have hn1:=Zkw (w.length+1) (fun y=>N0 v i y)
     have hl1:((Zba N1 (w.length+1) V).take v).length=v:=by rw[List.length_take,hCL];omega
     have hl2:((Zba N1 (w.length+1) V).drop (v+1)).length=V - (v+1):=by rw[List.length_drop,hCL]
     have hl3:((Zbt N1 (w.length+1) v (w.length+1)).take i).length=i:=by rw[List.length_take,hr0];omega
     have hl4:((Zbt N1 (w.length+1) v (w.length+1)).drop (i+1)).length=w.length+1 - (i+1):=by rw[List.length_drop,hr0]
     have hm1:((Zba N1 (w.length+1) V).take v).length+1+((Zba N1 (w.length+1) V).drop (v+1)).length=V:=by omega
     have hm2:((Zbt N1 (w.length+1) v (w.length+1)).take i).length+1+((Zbt N1 (w.length+1) v (w.length+1)).drop (i+1)).length=w.length+1:=by omega
     have hv0V:=hlv
     have hiL:i < w.length+1:=by omega
     have hc1:=Zha (t:=false) (N:=N0) (L:=w.length+1) hlv
     have hc2:=ZfQ (t:=false) (N:=N0) (L:=w.length+1) (v:=v) hiL
     have hc1l:=Zg9 false N0 V (w.length+1)
     have hc2l:=ZfP false N0 (w.length+1) v
     have hsame:=Zgl (t:=true) (u:=false) (xs:=ZcJ (w.length+1) (fun y=>N1 v i y)) (ys:=ZcJ (w.length+1) (fun y=>N0 v i y)) (by omega) (by omega)
     have hna:(!decide (ZcJ (w.length+1) (fun y=>N1 v i y)=ZcJ (w.length+1) (fun y=>N0 v i y)))=false↔ZeF N1 N0 (w.length+1) v (i+1):=by
      simp only[Bool.not_eq_false',decide_eq_true_eq]
      exact natsI_eq.trans (Iff.trans ⟨fun q _=>q,fun q=>q (by omega)⟩ (Zmw hal))
     rw[show Zbc (w.length+1) (fun y=>N1 v i y)=(ZcJ (w.length+1) (fun y=>N1 v i y)).map iD from rfl] at *
     rw[show Zbc (w.length+1) (fun y=>N0 v i y)=(ZcJ (w.length+1) (fun y=>N0 v i y)).map iD from rfl] at *
     generalize hdd:decide (ZcJ (w.length+1) (fun y=>N1 v i y)=ZcJ (w.length+1) (fun y=>N0 v i y))=dd at *
     refine Zg4 961 970 v rfl rfl rfl hf1 (.nest hr0) ?_
     refine Zg4 970 971 i rfl rfl rfl hf2 (.row hn0') ?_
     simp only[ctBV]
     generalize ZcJ (w.length+1) (fun y=>N1 v i y)=XS at *
     generalize ZcJ (w.length+1) (fun y=>N0 v i y)=YS at *
     generalize Zfh false N0 (w.length+1) v=PD at *
     generalize ZgH false N0 V (w.length+1)=CD at *
     generalize (Zbt N1 (w.length+1) v (w.length+1)).take i=RA at *
     generalize (Zbt N1 (w.length+1) v (w.length+1)).drop (i+1)=RB at *
     generalize (Zba N1 (w.length+1) V).take v=PA at *
     generalize (Zba N1 (w.length+1) V).drop (v+1)=PB at *
     repeat (first|refine wk ?_|refine Za2 TY v rfl (by first|exact Zag|exact Zae rfl rfl rfl) rfl rfl hm1 rfl rfl hv0V rfl rfl rfl rfl ?_|refine Za2 TY i rfl (by first|exact Zag|exact Zae rfl rfl rfl) rfl rfl hm2 rfl rfl hiL rfl rfl rfl rfl ?_|refine Zdl TY rfl (by first|exact Zag|exact Zae rfl rfl rfl) rfl rfl hm1 hl1 rfl rfl ?_|refine Zdl TY rfl (by first|exact Zag|exact Zae rfl rfl rfl) rfl rfl hm2 hl3 rfl rfl ?_)
     refine Zab [] (hA:=hsame) (hr:=?_)
     repeat (first|refine ZdC 970 rfl rfl (.row (by simp[hn0])) ?_|refine ZdC 961 rfl rfl (.nest (by simp;omega)) ?_|refine wk1 ?_|refine Za2 TY v rfl (by first|exact Zag|exact Zae rfl rfl rfl) rfl rfl hm1 rfl rfl hv0V rfl rfl rfl rfl ?_|refine Za2 TY i rfl (by first|exact Zag|exact Zae rfl rfl rfl) rfl rfl hm2 rfl rfl hiL rfl rfl rfl rfl ?_|refine Zdl TY rfl (by first|exact Zag|exact Zae rfl rfl rfl) rfl rfl hm1 hl1 rfl rfl ?_|refine Zdl TY rfl (by first|exact Zag|exact Zae rfl rfl rfl) rfl rfl hm2 hl3 rfl rfl ?_)
     exact Zad (i+1,!dd) (a:=⟨by dsimp only;omega,hna⟩) (d:=⟨ZfR rfl hp1.symm,.of rfl,.of rfl,.of rfl,trivial⟩)
   ·obtain rfl:i=w.length+1:=by omega
    have hb':=hb.trans Zpa
    repeat (first|refine wk ?_|refine Zaa (hr:=?_))
    exact Zad (v+1,b) (a:=⟨by dsimp only;omega,hb'⟩) (d:=⟨.of rfl,.of rfl,.of rfl,.of rfl,trivial⟩)
  ·obtain rfl:v=V:=by omega
   have hnx:(b=false→N1=wcns g w M)∧(b=true→k+1≤many g w M):=by
    refine⟨fun e=>?_,fun e=>?_⟩
    ·have h:=hb.1 e
     have e2:N1=N0:=by
      rw[←hN,←hN1]
      funext v i j
      by_cases hin:(v:Int) < g.vars∧i≤j∧j≤w.length
      ·rw[hN,hN1];exact h v i (.inl (by omega)) (by omega) j (by omega)
      ·rw[ZdG hin,ZdG hin]
     rw[e2];exact hlast e2
    ·have:N1≠N0:=fun e2=>by
      have:=hb.2 (by rw[e2];exact fun _ _ _ _ _ _=>rfl)
      rw[this] at e;cases e
     have:=hmore this
     omega
   rw[←hN1] at hnx ⊢
   iterate 11 (refine wk1 ?_)
   repeat (first|refine ZcH ?_|refine ZcI ?_|refine Zbm ?_)
   refine Zvo ?_
   repeat (first|refine wk ?_|refine Zaa (hr:=?_))
   refine Zwj (Zl4 21 6 961 rfl rfl rfl (hCL _) (Zwi ?_))
   repeat (first|refine wk ?_|refine Zaa (hr:=?_))
   rw[ZkL]
   exact Zad (k+1,b) (a:=hnx) (b:=by dsimp only;split <;> simp <;> omega)
end Go.Proofs.YtbpmepgnjanhnaaGreat
namespace Go.Proofs.YtbpmepgnjanhnaaGreat
open Go.RowKit
set_option maxRecDepth 100000
def ofC (g:Gram) (w:List Int) (N:Cube) (v i j:Int):Nat:=if 0≤v∧v < g.vars∧0≤i∧i≤j∧j≤w.length then N v.toNat i.toNat j.toNat else 0
set_option maxHeartbeats 4000000 in
theorem Zuq {g:Gram} {t u:Bool} {w:List Int} {M:Nat} {N:Cube} (hw:w.length≤100000) (v i j:Int) :
  ACalls Tryz.prog 100 [.ptr 1000 0,I v,I i,I j] [(1000,ctBx t u g w M N)] (I ((ofC g w N v i j:Nat):Int)) [(1000,ctBx t u g w M N)]:=by
 by_cases hin:0≤v∧v < g.vars∧0≤i∧i≤j∧j≤w.length
 ·obtain⟨h1,h2,h3,h4,h5⟩:=hin
  have e:ofC g w N v i j=N v.toNat i.toNat j.toNat:=by unfold ofC;rw[if_pos ⟨h1,h2,h3,h4,h5⟩]
  rw[e]
  obtain⟨vn,rfl⟩:∃ vn:Nat,v=(vn:Int):=⟨v.toNat,by omega⟩
  obtain⟨a,rfl⟩:∃ a:Nat,i=(a:Int):=⟨i.toNat,by omega⟩
  obtain⟨b,rfl⟩:∃ b:Nat,j=(b:Int):=⟨j.toNat,by omega⟩
  simp only[Int.toNat_natCast]
  have hvV:vn < g.vars.toNat:=by omega
  have hC1:=Zha (t:=false) (N:=N) (L:=w.length+1) hvV
  have hC0:=Zg9 false N g.vars.toNat (w.length+1)
  have hP1:=ZfQ (t:=false) (N:=N) (v:=vn) (L:=w.length+1) (i:=a) (by omega)
  have hP0:=ZfP false N (w.length+1) vn
  have hQ1:(Zbc (w.length+1) (fun j=>N vn a j))[b]?=some (iD ((N vn a b:Nat):Int)):=ZdZ (a:=fun j=>N vn a j) (by omega)
  have hQ0:=ZcD (w.length+1) (fun j=>N vn a j)
  simp only[ctBx]
  generalize ZgH false N g.vars.toNat (w.length+1)=CD at *
  generalize Zfh false N (w.length+1) vn=PD at *
  generalize Zbc (w.length+1) (fun j=>N vn a j)=ND at *
  have hn1:¬ ((vn:Nat):Int) < 0:=by omega
  have hn2:¬ g.vars≤((vn:Nat):Int):=by omega
  have hn3:¬ ((a:Nat):Int) < 0:=by omega
  have hn4:¬ ((b:Nat):Int) < ((a:Nat):Int):=by omega
  have hn5:¬ (w.length:Int) < ((b:Nat):Int):=by omega
  refine ACalls.intro (n:=51) Tryz.func100 rfl rfl (by simp) (by rfl) ?_
  simp only[Zak]
  repeat (first|refine wk ?_|refine Zaa (hr:=?_))
  exact fin
 ·have e:ofC g w N v i j=0:=by unfold ofC;rw[if_neg hin]
  rw[e]
  refine ACalls.intro (n:=51) Tryz.func100 rfl rfl (by simp) (by rfl) ?_
  simp only[Zak,ctBx]
  by_cases h1:v < 0
  ·((repeat (first|refine wk ?_|refine Zaa (hr:=?_)));(repeat (first|refine wkz ?_|refine Zaa (hr:=?_)));(repeat (first|refine wk ?_|refine Zaa (hr:=?_)));exact fin)
  ·by_cases h2:g.vars≤v
   ·((repeat (first|refine wk ?_|refine Zaa (hr:=?_)));(repeat (first|refine wkz ?_|refine Zaa (hr:=?_)));(repeat (first|refine wk ?_|refine Zaa (hr:=?_)));exact fin)
   ·by_cases h3:i < 0
    ·((repeat (first|refine wk ?_|refine Zaa (hr:=?_)));(repeat (first|refine wkz ?_|refine Zaa (hr:=?_)));(repeat (first|refine wk ?_|refine Zaa (hr:=?_)));exact fin)
    ·by_cases h4:j < i
     ·((repeat (first|refine wk ?_|refine Zaa (hr:=?_)));(repeat (first|refine wkz ?_|refine Zaa (hr:=?_)));(repeat (first|refine wk ?_|refine Zaa (hr:=?_)));exact fin)
     ·have h5:(w.length:Int) < j:=by omega
      ((repeat (first|refine wk ?_|refine Zaa (hr:=?_)));(repeat (first|refine wkz ?_|refine Zaa (hr:=?_)));(repeat (first|refine wk ?_|refine Zaa (hr:=?_)));exact fin)
def ruC (g:Gram) (w:List Int) (M:Nat) (N:Cube) (r i j:Int):Nat:=if 0≤r∧r < g.rules.length∧0≤i∧i≤j∧j≤w.length then min M (wcn N w (ZaW g r) i.toNat j.toNat) else 0
set_option maxHeartbeats 4000000 in
theorem Zqk {g:Gram} (hg:g.ok) {t u:Bool} {w:List Int} {M:Nat} {N:Cube} (hw:w.length≤100000) (hwr:∀ x∈w,0≤x∧x≤1000000) (hM1:1≤M) (hM:M≤4611686018427387904) (hN:∀ v i j,N v i j≤M) (r i j:Int) :
  ACalls Tryz.prog 178 [.ptr 1000 0,I r,I i,I j] [(1000,ctBx t u g w M N)] (I ((ruC g w M N r i j:Nat):Int)) [(1000,ctBx t u g w M N)]:=by
 have hrl:=hg.rules
 by_cases hin:0≤r∧r < g.rules.length∧0≤i∧i≤j∧j≤w.length
 ·obtain⟨h1,h2,h3,h4,h5⟩:=hin
  have e:ruC g w M N r i j=min M (wcn N w (ZaW g r) i.toNat j.toNat):=by unfold ruC;rw[if_pos ⟨h1,h2,h3,h4,h5⟩]
  rw[e]
  obtain⟨rn,rfl⟩:∃ rn:Nat,r=(rn:Int):=⟨r.toNat,by omega⟩
  obtain⟨a,rfl⟩:∃ a:Nat,i=(a:Int):=⟨i.toNat,by omega⟩
  obtain⟨b,rfl⟩:∃ b:Nat,j=(b:Int):=⟨j.toNat,by omega⟩
  have hrn:rn < g.rules.length:=by omega
  simp only[Int.toNat_natCast]
  rw[ZaX hrn]
  have hrr:=hg.right _ (List.getElem_mem hrn)
  have htm:=hg.terms
  have hv:=hg.vars
  have hways:=ZgP (g:=g) (t:=t) (u:=u) (v':=t) (w:=w) (rs:=g.rules[rn].right) (M:=M) (N:=N) (i:=a) (j:=b) (by omega) (by omega) hM hM1 hN hw hwr (fun s hs=>⟨hg.hi _ (List.getElem_mem hrn) s hs,by have:=hg.lo _ (List.getElem_mem hrn) s hs;omega⟩) (by omega) (by omega)
  rw[ZgT hM1 (by omega)] at hways
  simp only[ctBx] at hways ⊢
  generalize min M (wcn N w g.rules[rn].right a b)=res at *
  generalize ZgH false N g.vars.toNat (w.length+1)=CD at *
  have hn1:¬ ((rn:Nat):Int) < 0:=by omega
  have hn2:¬ (g.rules.length:Int)≤((rn:Nat):Int):=by omega
  have hn3:¬ ((a:Nat):Int) < 0:=by omega
  have hn4:¬ ((b:Nat):Int) < ((a:Nat):Int):=by omega
  have hn5:¬ (w.length:Int) < ((b:Nat):Int):=by omega
  refine ACalls.intro (n:=52) Tryz.func178 rfl rfl (by simp) (by rfl) ?_
  simp only[Zak]
  repeat (first|refine wk ?_|refine Zaa (hr:=?_))
  refine Zab [] (hA:=hways) (hr:=?_)
  repeat (first|refine wk ?_|refine Zaa (hr:=?_))
  exact fin
 ·have e:ruC g w M N r i j=0:=by unfold ruC;rw[if_neg hin]
  rw[e]
  refine ACalls.intro (n:=52) Tryz.func178 rfl rfl (by simp) (by rfl) ?_
  simp only[Zak,ctBx]
  by_cases h1:r < 0
  ·((repeat (first|refine wk ?_|refine Zaa (hr:=?_)));(repeat (first|refine wkz ?_|refine Zaa (hr:=?_)));(repeat (first|refine wk ?_|refine Zaa (hr:=?_)));exact fin)
  ·by_cases h2:(g.rules.length:Int)≤r
   ·((repeat (first|refine wk ?_|refine Zaa (hr:=?_)));(repeat (first|refine wkz ?_|refine Zaa (hr:=?_)));(repeat (first|refine wk ?_|refine Zaa (hr:=?_)));exact fin)
   ·by_cases h3:i < 0
    ·((repeat (first|refine wk ?_|refine Zaa (hr:=?_)));(repeat (first|refine wkz ?_|refine Zaa (hr:=?_)));(repeat (first|refine wk ?_|refine Zaa (hr:=?_)));exact fin)
    ·by_cases h4:j < i
     ·((repeat (first|refine wk ?_|refine Zaa (hr:=?_)));(repeat (first|refine wkz ?_|refine Zaa (hr:=?_)));(repeat (first|refine wk ?_|refine Zaa (hr:=?_)));exact fin)
     ·have h5:(w.length:Int) < j:=by omega
      ((repeat (first|refine wk ?_|refine Zaa (hr:=?_)));(repeat (first|refine wkz ?_|refine Zaa (hr:=?_)));(repeat (first|refine wk ?_|refine Zaa (hr:=?_)));exact fin)
theorem Zur {N:Cube} {w:List Int} {s:Int} {i m:Nat} (h:i≤m):wcn N w [s] i m=symN N w s i m:=by
 rw[wcn,Zct (k:=m) (by omega) (fun x _ hx=>by simp[wcn,hx]),if_pos h]
 simp[wcn]
def spC (g:Gram) (w:List Int) (M:Nat) (N:Cube) (r k i m j:Int):Nat :=
 if 0≤r∧r < g.rules.length∧0≤k∧k < (ZaW g r).length∧0≤i∧i≤m∧m≤j∧j≤w.length then min M (symN N w ((ZaW g r).getD k.toNat 0) i.toNat m.toNat * wcn N w ((ZaW g r).drop (k.toNat+1)) m.toNat j.toNat) else 0
end Go.Proofs.YtbpmepgnjanhnaaGreat
namespace Go.Proofs.YtbpmepgnjanhnaaGreat
open Go.RowKit
set_option maxRecDepth 100000
theorem Zfo {t:Bool} {g:Gram} (hg:g.fit):ACalls Tryz.prog 43 [.d (ZaH t g)] [] (.agg [.d (iD g.vars),.d (iD g.terms),.d (iD g.start),.own 900 g.rules.length]) [(900,.row 68 2 (g.rules.map (Zbu false)))]:=by
 refine ACalls.intro (n:=28) Tryz.func43 rfl rfl (by simp) (by rfl) ?_
 simp only[Zak]
 have hl:=hg.rules
 repeat (first|refine wk ?_|refine Zaa (hr:=?_))
 refine Za9 3 3 900 68 2 rfl rfl rfl rfl ?_
 refine Zai (X:=Nat) (fun k=>k≤g.rules.length) (fun k=>[(11,I k),(10,I g.rules.length),(9,.d (ZaT t g.rules)),(3,.ptr 3 0),(2,.ptr 2 0),(1,.ptr 1 0)]) (fun k=>[(1,Zar t g),(2,.box 24 [.d (iD 0),.d (iD 0),.d (iD 0),.d (.raw (.slice none 0 0))]),(3,.box 24 [.d (iD g.vars),.d (iD g.terms),.d (iD g.start),.own 900 k]),(900,.row 68 2 ((g.rules.take k).map (Zbu false)))]) (fun k=>g.rules.length - k) 0 (Nat.zero_le _) ?_
 intro k hk
 by_cases hlt:k < g.rules.length
 ·have hrk:=hg.right _ (List.getElem_mem hlt)
  have hcl:=Zdt (t:=t) (xs:=g.rules[k].right) (by omega)
  have hlk:(g.rules.take k).length=k:=by rw[List.length_take];omega
  have e:(g.rules.take k).map (Zbu false)++[.agg [iD g.rules[k].left,.sl false 1 (g.rules[k].right.map iD)]]=(g.rules.take (k+1)).map (Zbu false):=by
   rw[List.take_succ_eq_append_getElem hlt,List.map_append];rfl
  repeat (first|refine wk ?_|refine Zaa (hr:=?_))
  refine Zab [(5,905)] (hA:=hcl) (hr:=?_)
  repeat (first|refine wk ?_|refine Zaa (hr:=?_))
  rw[e]
  exact Zad (k+1)
 ·obtain rfl:k=g.rules.length:=by omega
  rw[List.take_length]
  repeat (first|refine wk ?_|refine Zaa (hr:=?_))
  exact fin
section
variable {g:Gram} {w:List Int}
set_option maxHeartbeats 4000000 in
theorem Zql (hg:g.ok) (hcy:cycL g=[]) (hw:w.length≤100000) (hwr:∀ x∈w,0≤x∧x≤1000000) (v i j:Int) :
  ACalls Tryz.prog 54 [.ptr 1000 0,I v,I i,I j] (cxH g w (nulB g) (wcns g w Zac)) (I ((ofC g w (wcns g w Zac) v i j:Nat):Int)) (cxH g w (nulB g) (wcns g w Zac)):=by
 by_cases hin:0≤v∧v < g.vars∧0≤i∧i≤j∧j≤w.length
 ·have e:ofC g w (wcns g w Zac) v i j=wcns g w Zac v.toNat i.toNat j.toNat:=by unfold ofC;rw[if_pos hin]
  rw[e]
  obtain⟨h1,h2,h3,h4,h5⟩:=hin
  have:=Zqd hg hcy hw hwr (muC g v.toNat i.toNat j.toNat+1) v.toNat i.toNat j.toNat (by omega) (by omega) (by omega) (by omega)
  rw[show ((v.toNat:Nat):Int)=v by omega,show ((i.toNat:Nat):Int)=i by omega,show ((j.toNat:Nat):Int)=j by omega] at this
  exact this
 ·have e:ofC g w (wcns g w Zac) v i j=0:=by unfold ofC;rw[if_neg hin]
  rw[e]
  have hwt:=ZcW (g:=g) (w:=w) (nl:=nulB g) (N:=wcns g w Zac) hw i j
  have hb:0≤v→v < g.vars→Zbp w i j=false:=fun h1 h2=>decide_eq_false (fun h=>hin ⟨h1,h2,h⟩)
  generalize wcns g w Zac=N at *
  generalize nulB g=NB at *
  generalize Zbp w i j=wb at *
  refine ACalls.intro (n:=82) Tryz.func54 rfl rfl (by simp) (by rfl) ?_
  simp only[Zak]
  by_cases h1:v < 0
  ·((repeat (first|refine wk ?_|refine Zaa (hr:=?_)));(repeat (first|refine wkz ?_|refine Zaa (hr:=?_)));(repeat (first|refine wk ?_|refine Zaa (hr:=?_)));exact fin)
  ·by_cases h2:g.vars≤v
   ·((repeat (first|refine wk ?_|refine Zaa (hr:=?_)));(repeat (first|refine wkz ?_|refine Zaa (hr:=?_)));(repeat (first|refine wk ?_|refine Zaa (hr:=?_)));exact fin)
   ·have h3:=hb (by omega) (by omega)
    subst h3
    repeat (first|refine wk ?_|refine Zaa (hr:=?_))
    refine Zaq [(1000,1000),(1001,1001)] (hA:=hwt) (hr:=?_)
    repeat (first|refine wk ?_|refine Zaa (hr:=?_))
    exact fin
theorem Zvx (hg:g.ok) (hcy:cycL g=[]) (hw:w.length≤100000) (hwr:∀ x∈w,0≤x∧x≤1000000) {j:Nat} (hj:j≤w.length) :
  OkC Tryz.prog g w (wcns g w Zac) j (fun suf _=>∃ r∈g.rules,∃ pre,r.right=pre++suf):=by
 refine⟨fun s rest i' hq=>?_,fun l i' hq=>?_,fun s rest i' hq x hx=>?_,fun s rest i' m hq him hmj hall=>?_,fun s rest i' m hq him hs=>?_⟩
 ·obtain⟨r,hr,pre,e2⟩:=hq
  have h1:=hg.hi r hr s (by rw[e2];simp)
  have h2:=hg.lo r hr s (by rw[e2];simp)
  have:=hg.terms
  exact⟨h1,by omega⟩
 ·obtain⟨r,hr,pre,e2⟩:=hq
  have h1:=hg.right r hr
  have:=congrArg List.length e2
  simp at this;omega
 ·obtain⟨r,hr,pre,e2⟩:=hq
  exact hg.hi r hr x (by rw[e2];simp[hx])
 ·obtain⟨r,hr,pre,e2⟩:=hq
  have h1:=hg.hi r hr (s:Int) (by rw[e2];simp)
  exact Zqd hg hcy hw hwr (muC g s i' m+1) s i' m (by omega) h1 him (by omega)
 ·obtain⟨r,hr,pre,e2⟩:=hq
  exact⟨r,hr,pre++[s],by rw[e2];simp⟩
set_option maxHeartbeats 4000000 in
theorem Zqm (hg:g.ok) (hcy:cycL g=[]) (hw:w.length≤100000) (hwr:∀ x∈w,0≤x∧x≤1000000) (r i j:Int) :
  ACalls Tryz.prog 153 [.ptr 1000 0,I r,I i,I j] (cxH g w (nulB g) (wcns g w Zac)) (I ((ruC g w Zac (wcns g w Zac) r i j:Nat):Int)) (cxH g w (nulB g) (wcns g w Zac)):=by
 have hrl:=hg.rules
 have hwt:=ZcW (g:=g) (w:=w) (nl:=nulB g) (N:=wcns g w Zac) hw i j
 by_cases hin:0≤r∧r < g.rules.length∧0≤i∧i≤j∧j≤w.length
 ·have e:ruC g w Zac (wcns g w Zac) r i j=min Zac (wcn (wcns g w Zac) w (ZaW g r) i.toNat j.toNat):=by unfold ruC;rw[if_pos hin]
  rw[e]
  obtain⟨h1,h2,h3⟩:=hin
  rw[show Zbp w i j=true from decide_eq_true h3] at hwt
  obtain⟨h3,h4,h5⟩:=h3
  obtain⟨rn,rfl⟩:∃ rn:Nat,r=(rn:Int):=⟨r.toNat,by omega⟩
  obtain⟨a,rfl⟩:∃ a:Nat,i=(a:Int):=⟨i.toNat,by omega⟩
  obtain⟨b,rfl⟩:∃ b:Nat,j=(b:Int):=⟨j.toNat,by omega⟩
  have hrn:rn < g.rules.length:=by omega
  simp only[Int.toNat_natCast]
  rw[ZaX hrn]
  have hrow:=Zmv hg hw hwr (fun v i j=>Zd5 g w Zac v i j) (fun v i h=>Zfz hg h) (by omega) (Zvx hg hcy hw hwr (j:=b) (by omega)) g.rules[rn].right a false ⟨_,List.getElem_mem hrn,[],rfl⟩ (by omega)
  have hn1:¬ ((rn:Nat):Int) < 0:=by omega
  have hn2:¬ (g.rules.length:Int)≤((rn:Nat):Int):=by omega
  generalize min Zac (wcn (wcns g w Zac) w g.rules[rn].right a b)=res at *
  generalize wcns g w Zac=N at *
  generalize nulB g=NB at *
  refine ACalls.intro (n:=41) Tryz.func153 rfl rfl (by simp) (by rfl) ?_
  simp only[Zak]
  repeat (first|refine wk ?_|refine Zaa (hr:=?_))
  refine Zaq [(1000,1000),(1001,1001)] (hA:=hwt) (hr:=?_)
  repeat (first|refine wk ?_|refine Zaa (hr:=?_))
  refine Zaq [(1000,1000),(1001,1001)] (hA:=hrow) (hr:=?_)
  repeat (first|refine wk ?_|refine Zaa (hr:=?_))
  exact fin
 ·have e:ruC g w Zac (wcns g w Zac) r i j=0:=by unfold ruC;rw[if_neg hin]
  rw[e]
  have hb:0≤r→r < g.rules.length→Zbp w i j=false:=fun h1 h2=>decide_eq_false (fun h=>hin ⟨h1,h2,h⟩)
  generalize wcns g w Zac=N at *
  generalize nulB g=NB at *
  generalize Zbp w i j=wb at *
  refine ACalls.intro (n:=41) Tryz.func153 rfl rfl (by simp) (by rfl) ?_
  simp only[Zak]
  by_cases h1:r < 0
  ·((repeat (first|refine wk ?_|refine Zaa (hr:=?_)));(repeat (first|refine wkz ?_|refine Zaa (hr:=?_)));(repeat (first|refine wk ?_|refine Zaa (hr:=?_)));exact fin)
  ·by_cases h2:(g.rules.length:Int)≤r
   ·((repeat (first|refine wk ?_|refine Zaa (hr:=?_)));(repeat (first|refine wkz ?_|refine Zaa (hr:=?_)));(repeat (first|refine wk ?_|refine Zaa (hr:=?_)));exact fin)
   ·have h3:=hb (by omega) (by omega)
    subst h3
    repeat (first|refine wk ?_|refine Zaa (hr:=?_))
    refine Zaq [(1000,1000),(1001,1001)] (hA:=hwt) (hr:=?_)
    repeat (first|refine wk ?_|refine Zaa (hr:=?_))
    exact fin
theorem Zdq (hg:g.ok) (hcy:cycL g=[]) (hw:w.length≤100000) (hwr:∀ x∈w,0≤x∧x≤1000000) :
  ACalls Tryz.prog 23 [.ptr 1000 0] (cxH g w (nulB g) (wcns g w Zac)) (I ((ofC g w (wcns g w Zac) g.start 0 w.length:Nat):Int)) (cxH g w (nulB g) (wcns g w Zac)):=by
 have hof:=Zql hg hcy hw hwr g.start 0 w.length
 generalize ofC g w (wcns g w Zac) g.start 0 w.length=res at *
 generalize wcns g w Zac=N at *
 generalize nulB g=NB at *
 refine ACalls.intro (n:=15) Tryz.func23 rfl rfl (by simp) (by rfl) ?_
 simp only[Zak]
 repeat (first|refine wk ?_|refine Zaa (hr:=?_))
 refine Zaq [(1000,1000),(1001,1001)] (hA:=hof) (hr:=?_)
 repeat (first|refine wk ?_|refine Zaa (hr:=?_))
 exact fin
set_option maxHeartbeats 4000000 in
theorem Zpb (hg:g.ok) (hcy:cycL g=[]) (hw:w.length≤100000) (hwr:∀ x∈w,0≤x∧x≤1000000) (r k i m j:Int) :
  ACalls Tryz.prog 206 [.ptr 1000 0,I r,I k,I i,I m,I j] (cxH g w (nulB g) (wcns g w Zac)) (I ((spC g w Zac (wcns g w Zac) r k i m j:Nat):Int)) (cxH g w (nulB g) (wcns g w Zac)):=by
 have hrl:=hg.rules
 have hwt1:=ZcW (g:=g) (w:=w) (nl:=nulB g) (N:=wcns g w Zac) hw i m
 have hwt2:=ZcW (g:=g) (w:=w) (nl:=nulB g) (N:=wcns g w Zac) hw m j
 by_cases hin:0≤r∧r < g.rules.length∧0≤k∧k < (ZaW g r).length∧0≤i∧i≤m∧m≤j∧j≤w.length
 ·have e:spC g w Zac (wcns g w Zac) r k i m j=min Zac (symN (wcns g w Zac) w ((ZaW g r).getD k.toNat 0) i.toNat m.toNat * wcn (wcns g w Zac) w ((ZaW g r).drop (k.toNat+1)) m.toNat j.toNat):=by unfold spC;rw[if_pos hin]
  rw[e]
  obtain⟨h1,h2,h3,h4,h5,h6,h7,h8⟩:=hin
  rw[show Zbp w i m=true from decide_eq_true ⟨by omega,by omega,by omega⟩] at hwt1
  rw[show Zbp w m j=true from decide_eq_true ⟨by omega,by omega,by omega⟩] at hwt2
  obtain⟨rn,rfl⟩:∃ rn:Nat,r=(rn:Int):=⟨r.toNat,by omega⟩
  obtain⟨kn,rfl⟩:∃ kn:Nat,k=(kn:Int):=⟨k.toNat,by omega⟩
  obtain⟨a,rfl⟩:∃ a:Nat,i=(a:Int):=⟨i.toNat,by omega⟩
  obtain⟨b,rfl⟩:∃ b:Nat,m=(b:Int):=⟨m.toNat,by omega⟩
  obtain⟨c,rfl⟩:∃ c:Nat,j=(c:Int):=⟨j.toNat,by omega⟩
  have hrn:rn < g.rules.length:=by omega
  simp only[Int.toNat_natCast]
  rw[ZaX hrn] at *
  have hrr:=hg.right _ (List.getElem_mem hrn)
  have hkn:kn < g.rules[rn].right.length:=by omega
  have e1:g.rules[rn].right.drop kn=g.rules[rn].right[kn]::g.rules[rn].right.drop (kn+1):=List.drop_eq_getElem_cons hkn
  have e2:g.rules[rn].right.getD kn 0=g.rules[rn].right[kn]:=by rw[List.getD_eq_getElem?_getD,List.getElem?_eq_getElem hkn];rfl
  have hq:∃ r∈g.rules,∃ pre,r.right=pre++(g.rules[rn].right[kn]::g.rules[rn].right.drop (kn+1)):=⟨_,List.getElem_mem hrn,g.rules[rn].right.take kn,by rw[←e1,List.take_append_drop]⟩
  have hOk:=Zvx hg hcy hw hwr (j:=c) (by omega)
  have hfirst:=ZiM (t:=false) hg hw hwr (fun v i j=>Zd5 g w Zac v i j) (fun v i h=>Zfz hg h) (by omega) hOk (right:=g.rules[rn].right.drop kn) e1 (i:=a) (m:=b) hq (by omega) (by omega)
   (fun hqr=>Zmv hg hw hwr (fun v i j=>Zd5 g w Zac v i j) (fun v i h=>Zfz hg h) (by omega) hOk _ b false hqr (by omega))
  rw[←e2] at hfirst
  simp only[ints,List.map_drop] at hfirst
  have hn1:¬ ((rn:Nat):Int) < 0:=by omega
  have hn2:¬ (g.rules.length:Int)≤((rn:Nat):Int):=by omega
  have hn3:¬ ((kn:Nat):Int) < 0:=by omega
  have hn4:¬ (g.rules[rn].right.length:Int)≤((kn:Nat):Int):=by omega
  generalize min Zac (symN (wcns g w Zac) w (g.rules[rn].right.getD kn 0) a b * wcn (wcns g w Zac) w (g.rules[rn].right.drop (kn+1)) b c)=res at *
  generalize wcns g w Zac=N at *
  generalize nulB g=NB at *
  refine ACalls.intro (n:=73) Tryz.func206 rfl rfl (by simp) (by rfl) ?_
  simp only[Zak]
  repeat (first|refine wk ?_|refine Zaa (hr:=?_))
  refine Zaq [(1000,1000),(1001,1001)] (hA:=hwt1) (hr:=?_)
  repeat (first|refine wk ?_|refine Zaa (hr:=?_))
  refine Zaq [(1000,1000),(1001,1001)] (hA:=hwt2) (hr:=?_)
  repeat (first|refine wk ?_|refine Zaa (hr:=?_))
  rw[List.take_length]
  refine Zaq [(1000,1000),(1001,1001)] (hA:=hfirst) (hr:=?_)
  repeat (first|refine wk ?_|refine Zaa (hr:=?_))
  exact fin
 ·have e:spC g w Zac (wcns g w Zac) r k i m j=0:=by unfold spC;rw[if_neg hin]
  rw[e]
  have hb1:0≤r→r < g.rules.length→0≤k→k < (ZaW g r).length→Zbp w i m=true→Zbp w m j=false:=fun h1 h2 h3 h4 h5=>decide_eq_false (fun h=>by
   unfold Zbp at h5
   rw[decide_eq_true_eq] at h5
   exact hin ⟨h1,h2,h3,h4,h5.1,h5.2.1,h.2.1,h.2.2⟩)
  generalize wcns g w Zac=N at *
  generalize nulB g=NB at *
  generalize hwa:Zbp w i m=wa at *
  generalize Zbp w m j=wb at *
  refine ACalls.intro (n:=73) Tryz.func206 rfl rfl (by simp) (by rfl) ?_
  simp only[Zak]
  by_cases h1:r < 0
  ·((repeat (first|refine wk ?_|refine Zaa (hr:=?_)));(repeat (first|refine wkz ?_|refine Zaa (hr:=?_)));(repeat (first|refine wk ?_|refine Zaa (hr:=?_)));exact fin)
  ·by_cases h2:(g.rules.length:Int)≤r
   ·((repeat (first|refine wk ?_|refine Zaa (hr:=?_)));(repeat (first|refine wkz ?_|refine Zaa (hr:=?_)));(repeat (first|refine wk ?_|refine Zaa (hr:=?_)));exact fin)
   ·obtain⟨rn,rfl⟩:∃ rn:Nat,r=(rn:Int):=⟨r.toNat,by omega⟩
    have hrn:rn < g.rules.length:=by omega
    have hrr:=hg.right _ (List.getElem_mem hrn)
    rw[ZaX hrn] at hb1 hin
    by_cases h3:k < 0
    ·((repeat (first|refine wk ?_|refine Zaa (hr:=?_)));(repeat (first|refine wkz ?_|refine Zaa (hr:=?_)));(repeat (first|refine wk ?_|refine Zaa (hr:=?_)));exact fin)
    ·by_cases h4:(g.rules[rn].right.length:Int)≤k
     ·((repeat (first|refine wk ?_|refine Zaa (hr:=?_)));(repeat (first|refine wkz ?_|refine Zaa (hr:=?_)));(repeat (first|refine wk ?_|refine Zaa (hr:=?_)));exact fin)
     ·cases wa with
      | false =>
       repeat (first|refine wk ?_|refine Zaa (hr:=?_))
       refine Zaq [(1000,1000),(1001,1001)] (hA:=hwt1) (hr:=?_)
       (repeat (first|refine wk ?_|refine Zaa (hr:=?_)))
       (repeat (first|refine wkz ?_|refine Zaa (hr:=?_)))
       repeat (first|refine wk ?_|refine Zaa (hr:=?_))
       exact fin
      | true =>
       have h5:=hb1 (by omega) (by omega) (by omega) (by omega) rfl
       subst h5
       repeat (first|refine wk ?_|refine Zaa (hr:=?_))
       refine Zaq [(1000,1000),(1001,1001)] (hA:=hwt1) (hr:=?_)
       repeat (first|refine wk ?_|refine Zaa (hr:=?_))
       refine Zaq [(1000,1000),(1001,1001)] (hA:=hwt2) (hr:=?_)
       repeat (first|refine wk ?_|refine Zaa (hr:=?_))
       exact fin
end
end Go.Proofs.YtbpmepgnjanhnaaGreat
