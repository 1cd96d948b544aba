import Derived.Test.YtbpmepgnjanhnaaGreatQChartP
import Derived.Shelf.Slices.Delete
set_option linter.unusedVariables false
set_option linter.unusedSimpArgs false
set_option linter.unusedSectionVars false
namespace Go.Proofs.YtbpmepgnjanhnaaGreat
open Go.RowKit
set_option maxRecDepth 100000
end Go.Proofs.YtbpmepgnjanhnaaGreat
namespace Go.Proofs.YtbpmepgnjanhnaaGreat
open Go.RowKit
set_option maxRecDepth 100000
def Zd1 (f:List Int→List Int) (g:Gram) (v:Int) (k:Nat):List Int:=((by_ g v).take k).flatMap fun i=>f (ZaW g i)
theorem Zmd {f:List Int→List Int} {g:Gram} {v:Int} {k:Nat} (h:k < (by_ g v).length):Zd1 f g v (k+1)=Zd1 f g v k++f (ZaW g (by_ g v)[k]):=by
 rw[Zd1,List.take_succ_eq_append_getElem h,List.flatMap_append];simp[Zd1]
theorem ZoT {f:List Int→List Int} {g:Gram} {v:Int} {k:Nat} (h:¬ k < (by_ g v).length):Zd1 f g v k=Zio f g v:=by
 rw[Zd1,List.take_of_length_le (by omega)];rfl
theorem ZpR {f:List Int→List Int} {g:Gram} (hg:g.ok) (hf:∀ xs:List Int,(f xs).length≤xs.length) (v:Int) (k:Nat):(Zd1 f g v k).length≤1600:=by
 have h:(Zio f g v).length=(Zd1 f g v k).length+(((by_ g v).drop k).flatMap fun i=>f (ZaW g i)).length:=by
  rw[Zd1,←List.length_append,←List.flatMap_append,List.take_append_drop];rfl
 have:=Zma hg hf v
 omega
theorem Zwk {g:Gram} {v:Int} {k:Nat} (h:k < (by_ g v).length):∃ m:Nat,∃ hm:m < g.rules.length,(by_ g v)[k]=(m:Int)∧ZaW g (by_ g v)[k]=g.rules[m].right:=by
 obtain⟨m,hm,e,_⟩:=by_mem.1 (List.getElem_mem h)
 exact⟨m,hm,e,by rw[e,ZaX hm]⟩
end Go.Proofs.YtbpmepgnjanhnaaGreat
namespace Go.Proofs.YtbpmepgnjanhnaaGreat
open Go.RowKit
set_option maxRecDepth 100000
def setD (r:List Bool):D:=uD (setN r:Nat)
abbrev matD (M:Mat):List D:=M.map setD
theorem Zui:Tryz.prog.underlying 114=some (.slice 118):=Tryz.underlying114
theorem ZoU {t:Bool} {M:Mat} (hl:M.length≤100000000:=by ((try simp only[List.length_map,List.length_append,List.length_cons,List.length_nil,List.length_replicate,List.length_set,List.length_take,List.length_drop]);first|omega|assumption)) :
  ACalls Tryz.prog 167 [.d (.sl t 1 (matD M))] [] (.own 5 M.length) [(5,.row 118 1 (matD M))]:=by
 refine ACalls.intro (n:=8) Tryz.func167 rfl rfl (by simp) (by rfl) ?_
 simp only[Zak]
 refine Zdy ?_
 refine Zkn ?_
 refine ZcB (hr:=?_)
 refine Zcc ?_
 refine Zbm ?_
 refine Zdy ?_
 refine Zdy ?_
 refine Zr2 ?_ ?_ Zui
 ·intro hx
  have hx':M=[]:=by simpa using hx
  subst hx'
  repeat (first|refine wkr ?_|refine Zaa (hr:=?_))
  refine ZaU 2 5 118 1 rfl rfl rfl ?_
  repeat (first|refine wk ?_)
  exact fin
 ·repeat (first|refine wk ?_)
  exact finx
def mixK (k i:Nat) (M:Mat):Mat:=(M.take i).map (rowK (rowM M k) k)++M.drop i
theorem ZpS (k:Nat) (M:Mat):mixK k 0 M=M:=by simp[mixK]
theorem Zsq {k i:Nat} {M:Mat} (h:¬ i < M.length):mixK k i M=stepK k M:=by
 rw[mixK,List.take_of_length_le (by omega),List.drop_of_length_le (by omega),List.append_nil];rfl
theorem Zme (k i:Nat) (M:Mat):(mixK k i M).length=M.length:=by simp[mixK];omega
theorem Zuj {k i:Nat} {M:Mat} (h:i < M.length) (h':i < (mixK k i M).length):(mixK k i M)[i]=M[i]:=by
 simp only[mixK]
 rw[List.getElem_append_right (by simp;omega)]
 simp[Nat.min_eq_left (Nat.le_of_lt h)]
theorem ZpT {k i:Nat} {M:Mat} (h:i < M.length):mixK k (i+1) M=(mixK k i M).set i (rowK (rowM M k) k M[i]):=by
 rw[mixK,mixK,List.take_succ_eq_append_getElem h,List.map_append,List.set_append_right _ _ (by simp;omega)]
 have e:i - ((M.take i).map (rowK (rowM M k) k)).length=0:=by simp;omega
 rw[e,List.drop_eq_getElem_cons h]
 simp only[List.map_cons,List.map_nil,List.append_assoc,List.cons_append,List.nil_append,List.set_cons_zero]
theorem Zsr {k i:Nat} {M:Mat} (h:k < M.length) (h':k < (mixK k i M).length):(mixK k i M)[k]=rowM M k:=by
 have hr:rowM M k=M[k]:=by simp[rowM,List.getD_eq_getElem?_getD,h]
 simp only[mixK]
 by_cases hk:k < i
 ·rw[List.getElem_append_left (by simp;omega)]
  simp only[List.getElem_map,List.getElem_take]
  rw[←hr,rowK]
  cases has (rowM M k) k with
  | true=>rw[cond_true,ZtW]
  | false=>rfl
 ·rw[List.getElem_append_right (by simp;omega)]
  refine Eq.trans ?_ hr.symm
  rw[List.getElem_drop]
  congr 1
  simp only[List.length_map,List.length_take]
  omega
theorem Zuk {V k i:Nat} {M:Mat} (h:Sq V M) (hk:k < V):Sq V (mixK k i M):=by
 refine⟨by rw[Zme];exact h.len,fun r hr=>?_⟩
 rw[mixK] at hr
 rcases List.mem_append.1 hr with hr|hr
 ·exact (h.stepK hk).row r (by
   obtain⟨q,hq,rfl⟩:=List.mem_map.1 hr
   exact List.mem_map.2 ⟨q,List.mem_of_mem_take hq,rfl⟩)
 ·exact h.row r (List.mem_of_mem_drop hr)
set_option maxHeartbeats 600000 in
theorem ZoV {t:Bool} {M:Mat} {N:Nat} (hq:Sq N M) (hN:N≤64) :
  ACalls Tryz.prog 86 [.d (.sl t 1 (matD M))] [] (.own 900 N) [(900,.row 118 1 (matD (closeK N M)))]:=by
 refine ACalls.intro (n:=37) Tryz.func86 rfl rfl (by simp) (by rfl) ?_
 simp only[Zak]
 have hl:=hq.len
 repeat (first|refine wk ?_)
 refine Zab [(5,900)] (hA:=ZoU (t:=t) (M:=M)) (hr:=?_)
 repeat (first|refine wk ?_)
 have e0:(matD M).length=N:=by simp[hl]
 refine Zai (X:=Nat) (fun k=>k≤N) (fun k=>[(10,I k),(9,I N),(3,.own 900 N)]) (fun k=>[(900,.row 118 1 (matD (closeK k M)))]) (fun k=>N - k) 0 (Nat.zero_le _) ?_
 intro k hk
 have hQ:=hq.closeK k hk
 generalize hQe:closeK k M=Q at hQ
 have hQl:=hQ.len
 by_cases hkN:k < N
 ·have hnx:closeK (k+1) M=stepK k Q:=by rw[closeK,hQe]
  have hpl:(rowM Q k).length=N:=hQ.at (by omega) (by omega)
  repeat (first|refine wk ?_)
  refine Zai (X:=Nat×Mat) (fun x=>x.1≤N∧x.2=mixK k x.1 Q) (fun x=>[(15,I x.1),(14,I N),(4,I k),(10,I k),(9,I N),(3,.own 900 N)]) (fun x=>[(900,.row 118 1 (matD x.2))]) (fun x=>N - x.1) (0,Q) ⟨Nat.zero_le _,(ZpS k Q).symm⟩ ?_
  rintro⟨i,A⟩ ⟨hi,hA⟩
  dsimp only at hi hA ⊢
  have hAq:Sq N A:=by rw[hA];exact Zuk hQ hkN
  have hAl:=hAq.len
  by_cases hiN:i < N
  ·have hiQ:i < Q.length:=by omega
   have hsu:=ZpT (k:=k) hiQ
   have hAi:A[i]=Q[i]:=by subst hA;exact Zuj hiQ (by omega)
   have hAk:A[k]=rowM Q k:=by subst hA;exact Zsr (by omega) (by omega)
   have hri:=hQ.row _ (List.getElem_mem hiQ)
   have hl64:Q[i].length≤64:=by omega
   have hs1:=Zdb hl64
   have hs2:=Zdb (l:=rowM Q k) (by omega)
   have hh:=ZjM (s:=setN Q[i]) (v:=k) hs1
   rw[ZjN hl64,←hAi] at hh
   rw[←hA] at hsu
   rw[←hAi] at hsu hs1
   rw[←hAk] at hs2
   repeat (first|refine wk ?_)
   refine Zab [] (hA:=hh) (hr:=?_)
   cases hb:has A[i] k with
   | true =>
    have hro:rowK (rowM Q k) k A[i]=orL A[i] A[k]:=by rw[rowK,hb,cond_true,hAk]
    rw[hro] at hsu
    have e:(matD A).set i (.raw (.int .u64 (orU (setN A[i]:Nat) (setN A[k]:Nat))))=matD (mixK k (i+1) Q):=by
     rw[hsu,matD,matD,List.map_set]
     congr 1
     show _=uD (setN (orL A[i] A[k]):Nat)
     rw[Zvt (by rw[hAi,hAk,hri,hpl])];rfl
    repeat (first|refine wk ?_)
    exact Zad (i+1,mixK k (i+1) Q) (a:=⟨by omega,rfl⟩) (b:=by dsimp only;omega)
   | false =>
    have hro:rowK (rowM Q k) k A[i]=A[i]:=by rw[rowK,hb];rfl
    rw[hro,List.set_getElem_self] at hsu
    repeat (first|refine wk ?_)
    exact Zad (i+1,A) (a:=⟨by omega,hsu.symm⟩) (b:=by dsimp only;omega)
  ·rw[Zsq (by omega),←hnx] at hA
   subst hA
   repeat (first|refine wk ?_)
   exact Zad (k+1)
 ·have hkN':k=N:=by omega
  have e:matD Q=matD (closeK N M):=by rw[←hQe,hkN']
  rw[←e]
  repeat (first|refine wk ?_)
  exact fin
end Go.Proofs.YtbpmepgnjanhnaaGreat
namespace Go.Proofs
open Go.Shelf
def Tryz.delRen:Go.Shelf.Ren:=⟨fun|23=>168|n=>n,fun|0=>0|3=>3|4=>4|22=>25|n=>n,fun|n=>n⟩
theorem Tryz.delLay:Go.Proofs.Lays2.n23 Tryz.prog Tryz.delRen:={
 mixed:=by kernel_rfl
 f23:=Tryz.func168.trans (congrArg some (by kernel_rfl))
 t0:=Tryz.underlying0
 a0:=Tryz.isAgg0
 z0:=Tryz.sizeOf0
 v0:=Tryz.zeroValue0
 t3:=Tryz.underlying3
 a3:=Tryz.isAgg3
 z3:=Tryz.sizeOf3
 v3:=Tryz.zeroValue3
 t4:=Tryz.underlying4
 a4:=Tryz.isAgg4
 z4:=Tryz.sizeOf4
 v4:=Tryz.zeroValue4
 t22:=Tryz.underlying25
 a22:=Tryz.isAgg25
 z22:=Tryz.sizeOf25
 v22:=Tryz.zeroValue25
 i3:=by kernel_rfl }
end Go.Proofs
namespace Go.Proofs.YtbpmepgnjanhnaaGreat
open Go.RowKit Go.Sort
set_option maxRecDepth 100000
theorem ZiC:∀ (xs:List Int),Zkk (xs.map iD)=some (xs.map fun x=>Value.int .i64 x)
 | []=>rfl
 | x::xs=>by simp[Zkk,iD,ZiC xs]
theorem Zkx {M:Bars} {w:World}:∀ (xs:List Int),D.Reps M w (xs.map iD) (xs.map fun x=>Value.int .i64 x)
 | []=>by simp[D.Reps]
 | x::xs=>by
  simp only[List.map_cons,D.Reps]
  exact⟨[_],_,rfl,by simp[iD,D.Rep,Value.oneCell'],Zkx xs⟩
theorem ZjC {E:Env} {n k b:Nat} (hb:blkOf E [(1000,.dead n)] k b):False:=by
 unfold blkOf at hb
 simp only[hget] at hb
 cases hk:Nat.beq 1000 k <;> rw[hk] at hb <;> cases hb
theorem ZoW {xs:List Int} {i:Nat} (hi:i < xs.length) (hl:xs.length≤100000000:=by ((try simp only[List.length_map,List.length_append,List.length_cons,List.length_nil,List.length_replicate,List.length_set,List.length_take,List.length_drop]);first|omega|assumption)) :
  ACalls Tryz.prog 168 [.own 1000 xs.length,I i,I ((i:Int)+1)] [(1000,.row 3 1 (xs.map iD))] (.d (ints false (xs.take i++xs.drop (i+1)))) [(1000,.dead xs.length)]:=by
 refine⟨⟨_,Tryz.func168,rfl,rfl⟩,fun E w us o H hr hk ho hs=>?_⟩
 simp only[V.Reps,V.Rep,D.RepV,D.Rep,List.cons.injEq,and_true] at hr
 obtain⟨u,_,rfl,⟨m,v1,v2,v3,v4⟩,_,_,rfl,⟨rfl,_⟩,_,_,rfl,⟨rfl,_⟩,rfl⟩:=hr
 have hk1:hget [(1000,Ob.row 3 1 (xs.map iD))] 1000=some (.row 3 1 (xs.map iD)):=rfl
 have e1:m=xs.length:=Zax v1 (.inl ⟨_,_,_,hk1,by simp⟩)
 have hu:=v4 e1.symm
 subst hu
 have hrow:=H.obs 1000 _ hk1
 simp only[ObRep] at hrow
 obtain⟨_,⟨a,_,hn⟩|⟨g,off,cap,cur,hv,h0,hg,hlc,hcm,hcs,hreps⟩⟩:=hrow
 ·have:xs=[]:=by simpa using hn
  subst this;simp at hi
 rw[List.length_map] at hv hlc
 have hcells:=Zh8 hreps (ZiC xs)
 simp only[List.length_map,Nat.mul_one] at hcells
 have hH:Go.Sort.Holds encI w g off xs.toArray:=fun j hj=>by
  have hj':j < xs.length:=by simpa using hj
  constructor
  ·simp only[World.cell?,hg]
   have h1:((cur.toList.drop off).take xs.length)[j]?=(xs.map fun x=>Value.int .i64 x)[j]?:=by rw[hcells]
   rw[List.getElem?_take,if_pos hj',List.getElem?_drop] at h1
   simp only[Array.getElem?_toList] at h1
   rw[h1]
   simp[hj']
  ·simp only[World.frozen?,hg];simp
 have hc:=Go.Proofs.Any.slices_Delete_int Tryz.delLay g off cap i (i+1) xs w hH hlc (by unfold maxLen at hcm;omega) (by omega) (by omega)
 have hlive:Live E [(1000,Ob.row 3 1 (xs.map iD))] g:=⟨1000,by unfold blkOf;rw[hk1,hv];simp[obOf];omega⟩
 rw[hv]
 refine hc.mono ?_
 rintro e w' ⟨rfl,q,rfl⟩
 have hH2:=holds_putRow encI (Sort.ahead w q) g off xs.toArray (xs.take i++xs.drop (i+1)++List.replicate (i+1 - i) 0).toArray (Go.Sort.holds_ahead encI w q g off _ hH) (by simp;omega)
 have hsz:g < w.heap.size:=(Array.getElem?_eq_some_iff.1 hg).1
 have hll:(xs.take i++xs.drop (i+1)).length=xs.length - 1:=by simp;omega
 refine⟨E,_,rfl,⟨?_,?_,?_⟩,?_,by simp[V.keys],⟨rfl,rfl,rfl,?_,?_,Nat.le_add_right _ _⟩,?_,?_⟩
 ·intro k ob hk
  simp only[hget] at hk
  split at hk
  ·cases hk;trivial
  ·cases hk
 ·intro k k' b h1
  exact (ZjC h1).elim
 ·intro k ob hk j hj
  simp only[hget] at hk
  split at hk
  ·cases hk;simp[Ob.keys] at hj
  ·cases hk
 ·simp only[V.Rep,D.RepV,D.Rep]
  refine⟨_,cap,(xs.take i++xs.drop (i+1)).map fun x=>Value.int .i64 x,?_,?_,hcm,?_,Zkx _,fun _=>⟨g,off,rfl,?_,by simpa[putRow,mapBlock,Sort.ahead] using hsz,fun j hj=>?_⟩⟩
  ·rw[List.length_map,hll,show xs.length - (i+1 - i)=xs.length - 1 by omega]
  ·rw[List.length_map,hll];omega
  ·intro x hx
   obtain⟨y,_,rfl⟩:=List.mem_map.1 hx
   rfl
  ·rintro (⟨k,hk⟩|hob)
   ·exact (ZjC hk).elim
   ·exact (ho _ _ hob).2 hlive
  ·have hj':j < (xs.take i++xs.drop (i+1)).length:=by simpa using hj
   have:=(hH2 j (by simp at hj' ⊢;omega)).1
   rw[this]
   have hj2:j < (xs.take i++xs.drop (i+1)++List.replicate (i+1 - i) 0).length:=by simp at hj' ⊢;omega
   rw[getElem!_pos _ _ (by simpa using hj2)]
   simp only[List.getElem?_map]
   rw[List.getElem?_eq_getElem hj']
   simp only[Option.map_some,List.getElem_toArray]
   rw[List.getElem_append_left hj']
 ·simp[putRow,mapBlock,Sort.ahead]
 ·intro k hk hn
  have hne:g≠k:=fun e=>hn (e ▸ hlive)
  simp only[putRow,mapBlock,Sort.ahead,Array.getElem?_modify]
  rw[if_neg hne]
 ·intro k hk1000 hks
  simp only[hget] at hks
  split at hks
  ·rename_i hb
   have:=Nat.eq_of_beq_eq_true hb
   subst this
   refine⟨rfl,rfl,fun m hm=>⟨m,.inr (.inr ?_),Nat.le_refl _,fun _=>rfl⟩,fun sz n hv=>?_⟩
   ·have:m=xs.length:=Zax hm (.inl ⟨_,_,_,hk1,by simp⟩)
    rw[this];simp[hget]
   ·rcases hv with ⟨_,_,h1,_⟩|⟨_,_,_,_,h1,_⟩ <;> simp[hget] at h1
  ·cases hks
 ·intro k b hb
  exact (ZjC hb).elim
end Go.Proofs.YtbpmepgnjanhnaaGreat
namespace Go.Proofs.YtbpmepgnjanhnaaGreat
open Go.RowKit
set_option maxRecDepth 100000
theorem Zky (a b:List Int) (is:List Bool):Zbn (a++b) is=(Zbn a is && Zbn b is):=by simp[Zbn,List.all_append]
theorem ZpU {g:Gram} {N:Nat} (h:g.vars.toNat=N):List.replicate N (ZgN (.int .u64 0))=matD (Zmb g):=by
 rw[matD,Zmb,h,List.map_replicate,setD,Zin,ZoL];rfl
theorem Zss {M:Mat} {u w:Int} {k:Nat} (hk:u=(k:Int)) (h:k < M.length):(matD M).set k (uD (setN (put M[k] w):Nat))=matD (addM u w M):=by
 subst hk
 have hr:rowM M k=M[k]:=by simp[rowM,List.getD_eq_getElem?_getD,h]
 rw[addM,hr,matD,matD,List.map_set];rfl
theorem Zul {null:List Bool} {c:Bool} {rs:List Rule} {i:Nat} {M:Mat} (h:i < rs.length):matM null c (rs.drop i) M=matM null c (rs.drop (i+1)) (Zip null c rs[i] rs[i].right.length M):=by
 rw[List.drop_eq_getElem_cons h,matM]
theorem Zst {null:List Bool} {c:Bool} {rs:List Rule} {i:Nat} {M:Mat} (h:¬ i < rs.length):matM null c (rs.drop i) M=M:=by
 rw[List.drop_of_length_le (by omega),matM]
theorem Zsu {xs:List Int} {k:Nat} (h:k < xs.length):xs.getD k 0=xs[k]:=by simp[List.getD_eq_getElem?_getD,h]
set_option maxHeartbeats 1000000 in
theorem ZpV {t:Bool} {g:Gram} (hg:g.ok):ACalls Tryz.prog 87 [.d (ZaH t g)] [] (.own 14 g.vars.toNat) [(14,.row 118 1 (matD (oneM false g)))]:=by
 refine ACalls.intro (n:=59) Tryz.func87 rfl rfl (by simp) (by rfl) ?_
 simp only[Zak]
 have hv:=hg.vars
 have hv1:=hg.vars1
 have hlen:=hg.rules
 have hnl:=ZbZ (t:=false) hg
 obtain⟨N,hN⟩:∃ N:Nat,g.vars=(N:Int):=⟨g.vars.toNat,by omega⟩
 have hNt:g.vars.toNat=N:=by omega
 have hsq:=Zku g
 rw[hNt] at hsq hnl ⊢
 have e:=ZpU hNt
 repeat (first|refine wk ?_)
 refine Zab [] (hA:=ZkW (u:=false) hg) (hr:=?_)
 repeat (first|refine wk ?_)
 refine Zai (X:=Nat×Mat) (fun x=>x.1≤g.rules.length∧oneM false g=matM (ZaJ false g) false (g.rules.drop x.1) x.2∧Sq N x.2) (fun x=>[(18,I x.1),(17,I g.rules.length),(16,.d (ZaT t g.rules)),(4,.own 14 N),(3,U (setN (ZaJ false g))),(1,.ptr 1 0)]) (fun x=>[(14,.row 118 1 (matD x.2)),(1,Zar t g)]) (fun x=>g.rules.length - x.1) (0,Zmb g) ⟨Nat.zero_le _,rfl,hsq⟩ ?_
 clear e
 rintro⟨i,A⟩ ⟨h1,h2,h3⟩
 dsimp only at h1 h2 h3 ⊢
 by_cases hlt:i < g.rules.length
 ·have hmem:=List.getElem_mem hlt
  obtain⟨a1,a2,a5⟩:=Zkv hg _ hmem
  rw[hNt] at a2 a5
  have a3:=hg.right _ hmem
  have hp:=Zul (null:=ZaJ false g) (c:=false) (M:=A) hlt
  obtain⟨l,hlk⟩:∃ l:Nat,g.rules[i].left=(l:Int):=⟨g.rules[i].left.toNat,by omega⟩
  repeat (first|refine wk ?_)
  refine Zai (X:=Nat×Mat) (fun x=>x.1≤g.rules[i].right.length∧x.2=Zip (ZaJ false g) false g.rules[i] x.1 A) (fun x=>[(25,I x.1),(24,I g.rules[i].right.length),(23,.d (ints t g.rules[i].right)),(6,.ptr 6 0),(18,I i),(17,I g.rules.length),(16,.d (ZaT t g.rules)),(4,.own 14 N),(3,U (setN (ZaJ false g))),(1,.ptr 1 0)]) (fun x=>[(6,Zut t g.rules[i]),(14,.row 118 1 (matD x.2)),(1,Zar t g)]) (fun x=>g.rules[i].right.length - x.1) (0,A) ⟨Nat.zero_le _,rfl⟩ ?_
  rintro⟨k,C⟩ ⟨k1,k2⟩
  dsimp only at k1 k2 ⊢
  by_cases hkt:k < g.rules[i].right.length
  ·obtain⟨hCq,_⟩:=ZeA (null:=ZaJ false g) (c:=false) h3 a1 a2 a5 k (by omega)
   rw[←k2] at hCq
   have hCl:=hCq.len
   have hlC:l < C.length:=by omega
   have hCr:=hCq.row _ (List.getElem_mem hlC)
   have hgd:=Zsu hkt
   have hx:=a5 _ (List.getElem_mem hkt)
   have hrs:Zip (ZaJ false g) false g.rules[i] (k+1) A=bif ZdE (ZaJ false g) false g.rules[i].right k then addM g.rules[i].left g.rules[i].right[k] C else C:=by rw[Zip,hgd,←k2]
   have hpk:ZdE (ZaJ false g) false g.rules[i].right k=(decide (0≤g.rules[i].right[k]) && Zbn (g.rules[i].right.take k++g.rules[i].right.drop (k+1)) (ZaJ false g)):=by
    rw[ZdE,hgd,Bool.false_or,Zky]
   have hdl:=ZoW (xs:=g.rules[i].right) hkt (by omega)
   have htl:(g.rules[i].right.take k++g.rules[i].right.drop (k+1)).length≤100:=by simp;omega
   repeat (first|refine wk ?_)
   refine Zab [(5,900)] (hA:=Zdt) (hr:=?_)
   repeat (first|refine wk ?_)
   refine Zab [(1000,900)] (hA:=hdl) (hr:=?_)
   by_cases h0:0≤g.rules[i].right[k]
   ·have hwh:=ZkV (t:=false) (u:=false) (r:=⟨0,g.rules[i].right.take k++g.rules[i].right.drop (k+1)⟩) (is:=ZaJ false g) (by omega) (by show (g.rules[i].right.take k++g.rules[i].right.drop (k+1)).length≤100000000;omega)
    repeat (first|refine wk ?_)
    refine Zab [] (hA:=hwh) (hr:=?_)
    cases hb:Zbn (g.rules[i].right.take k++g.rules[i].right.drop (k+1)) (ZaJ false g) with
    | true =>
     rw[hpk,hb,decide_eq_true h0,Bool.and_true,cond_true] at hrs
     have hw:=Zn0 (s:=setN C[l]) (v:=g.rules[i].right[k]) (Zdb (by omega))
     rw[ZkU (by omega) h0 (by omega)] at hw
     have e:=Zss (M:=C) (w:=g.rules[i].right[k]) hlk hlC
     repeat (first|refine wk ?_)
     refine Zab [] (hA:=hw) (hr:=?_)
     repeat (first|refine wk ?_)
     exact Zad (k+1,addM g.rules[i].left g.rules[i].right[k] C) (a:=⟨by omega,hrs.symm⟩) (b:=by dsimp only;omega)
    | false =>
     rw[hpk,hb,Bool.and_false,cond_false] at hrs
     repeat (first|refine wk ?_)
     exact Zad (k+1,C) (a:=⟨by omega,hrs.symm⟩) (b:=by dsimp only;omega)
   ·rw[hpk,decide_eq_false h0,Bool.false_and,cond_false] at hrs
    repeat (first|refine wk ?_)
    exact Zad (k+1,C) (a:=⟨by omega,hrs.symm⟩) (b:=by dsimp only;omega)
  ·obtain rfl:k=g.rules[i].right.length:=by omega
   have hCs:=(ZeA (null:=ZaJ false g) (c:=false) h3 a1 a2 a5 _ (Nat.le_refl _)).1
   rw[←k2] at hCs hp
   repeat (first|refine wk ?_)
   exact Zad (i+1,C) (a:=⟨by omega,h2.trans hp,hCs⟩) (b:=by dsimp only;omega)
 ·rw[Zst hlt] at h2
  rw[h2]
  repeat (first|refine wk ?_)
  exact fin
end Go.Proofs.YtbpmepgnjanhnaaGreat
namespace Go.Proofs.YtbpmepgnjanhnaaGreat
open Go.RowKit
set_option maxRecDepth 100000
def Zd2 (M:Mat) (n:Nat):List Int:=((List.range n).filter (fun (v:Nat)=>has (rowM M v) v)).map (fun (k:Nat)=>(k:Int))
theorem ZiD (M:Mat) (n:Nat):Zd2 M (n+1)=Zd2 M n++(if has (rowM M n) n=true then [(n:Int)] else []):=by
 unfold Zd2
 rw[List.range_succ,List.filter_append,List.map_append]
 congr 1
 by_cases h:has (rowM M n) n=true <;> simp[h]
theorem ZnK (M:Mat) (n:Nat):(Zd2 M n).length≤n:=by
 unfold Zd2
 rw[List.length_map]
 exact Nat.le_trans (List.length_filter_le _ _) (by simp)
def cycL (g:Gram):List Int:=if (Zah g).code=0 then Zd2 (ledM false g) g.vars.toNat else []
theorem Zmf {M:Mat} {k:Nat} (h:k < M.length):rowM M k=M[k]:=by simp[rowM,List.getD_eq_getElem?_getD,h]
theorem ZfS {t:Bool} {g:Gram} (hf:g.fit):ACalls Tryz.prog 51 [.d (ZaH t g)] [] (.tup [.d (ints false (cycL g)),.d (ZaN (Zah g))]) []:=by
 refine ACalls.intro (n:=33) Tryz.func51 rfl rfl (by simp) (by rfl) ?_
 simp only[Zak]
 have hl:=hf.rules
 have hr:=hf.right
 repeat (first|refine wk ?_)
 refine Zab [] (hA:=ZaY) (hr:=?_)
 by_cases h0:(Zah g).code=0
 ·have hg:=Zbr h0
  have hz:=ZjA h0
  have hv:=hg.vars
  have hsq:=ZnJ (c:=false) hg
  have hlq:=Zel (c:=false) hg
  have hlql:=hlq.len
  have hol:=hsq.len
  obtain⟨N,hN⟩:∃ N:Nat,g.vars.toNat=N:=⟨_,rfl⟩
  have hal:=ZpV (t:=t) hg
  have hcl:=ZoV (t:=false) hsq (by omega)
  rw[show closeK g.vars.toNat (oneM false g)=ledM false g from rfl] at hcl
  rw[cycL,if_pos h0,hz]
  rw[hN] at hal hcl hlql hol ⊢
  repeat (first|refine wk ?_)
  refine Zab [(14,902)] (hA:=hal) (hr:=?_)
  repeat (first|refine wk ?_)
  refine ZdQ [] (hA:=hcl) (hr:=?_)
  repeat (first|refine wk ?_)
  refine ZaU 5 901 3 1 rfl rfl rfl ?_
  refine Zai (X:=Nat) (fun k=>k≤N) (fun k=>[(18,I k),(17,I N),(16,.own 900 N),(5,.own 901 (Zd2 (ledM false g) k).length),(3,.ptr 3 0)]) (fun k=>[(901,.row 3 1 ((Zd2 (ledM false g) k).map iD)),(900,.row 118 1 (matD (ledM false g))),(3,.box 31 [.d (iD 0),.d (iD 0)])]) (fun k=>N - k) 0 (Nat.zero_le _) ?_
  intro k hk
  have hsl:=ZnK (ledM false g) k
  by_cases hkN:k < N
  ·have hkL:k < (ledM false g).length:=by omega
   have hr64:(ledM false g)[k].length≤64:=by have:=hlq.row _ (List.getElem_mem hkL);omega
   have e:=ZiD (ledM false g) k
   have hh:=ZjM (s:=setN (ledM false g)[k]) (v:=k) (Zdb hr64)
   rw[ZjN hr64,←Zmf hkL] at hh
   rw[←Zmf hkL] at hr64
   have hrow:=Zmf hkL
   cases hb:has (rowM (ledM false g) k) k with
   | true =>
    rw[hb,if_pos rfl] at e
    rw[hb,hrow] at hh
    repeat (first|refine wk ?_)
    refine Zab [] (hA:=hh) (hr:=?_)
    repeat (first|refine wk ?_)
    exact Zad (k+1)
   | false =>
    rw[hb,if_neg (by decide),List.append_nil] at e
    rw[hb,hrow] at hh
    repeat (first|refine wk ?_)
    refine Zab [] (hA:=hh) (hr:=?_)
    repeat (first|refine wk ?_)
    exact Zad (k+1)
  ·obtain rfl:k=N:=by omega
   refine ZaF 901 rfl ?_
   repeat (first|refine wk ?_)
   exact fin
 ·rw[cycL,if_neg h0]
  repeat (first|refine wk ?_)
  exact fin
end Go.Proofs.YtbpmepgnjanhnaaGreat
