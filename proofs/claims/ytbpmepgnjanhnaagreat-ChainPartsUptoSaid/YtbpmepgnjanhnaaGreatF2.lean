import Derived.Test.YtbpmepgnjanhnaaGreatQChartP
import Derived.Shelf.Slices.Delete
set_option linter.unusedVariables false
set_option linter.unusedSimpArgs false
set_option linter.unusedSectionVars false
namespace Go.Proofs.YtbpmepgnjanhnaaGreat
open Go.RowKit
set_option maxRecDepth 100000
theorem Zut {rs:List Rule} {i:Nat} {is:List Bool} (h:i < rs.length):Zfg (rs.drop i) is=Zfg (rs.drop (i+1)) (ZfN rs[i] is):=by
 rw[List.drop_eq_getElem_cons h,Zfg]
theorem Zrp {rs:List Rule} {i:Nat} {is:List Bool} (h:¬ i < rs.length):Zfg (rs.drop i) is=is:=by
 rw[List.drop_of_length_le (by omega),Zfg]
theorem Zrq {vs:List Int} {i:Nat} {is:List Bool} (h:i < vs.length):Zc9 (vs.drop i) is=Zc9 (vs.drop (i+1)) (put is vs[i]):=by
 rw[List.drop_eq_getElem_cons h,Zc9]
theorem Zp8 {vs:List Int} {i:Nat} {is:List Bool} (h:¬ i < vs.length):Zc9 (vs.drop i) is=is:=by
 rw[List.drop_of_length_le (by omega),Zc9]
theorem Zp9 {t:Bool} {g:Gram} (hg:g.ok) {is:List Bool} (hl:is.length=g.vars.toNat) :
  ACalls Tryz.prog 183 [U (setN is),.ptr 1000 0] [(1000,Zay t g)] (U (setN (Zfg g.rules is))) [(1000,Zay t g)]:=by
 refine ACalls.intro (n:=32) Tryz.func183 rfl rfl (by simp) (by rfl) ?_
 simp only[Zal]
 have hv:=hg.vars
 have hlen:=hg.rules
 repeat (first|refine wk ?_)
 refine Zak (X:=Nat×List Bool) (fun x=>x.1≤g.rules.length∧Zfg g.rules is=Zfg (g.rules.drop x.1) x.2∧x.2.length=is.length) (fun x=>[(11,I x.1),(10,I g.rules.length),(9,.d (ZaL t g.rules)),(0,U (setN x.2)),(1,.ptr 1000 0)]) (fun _=>[(1000,Zay t g)]) (fun x=>g.rules.length - x.1) (0,is) ⟨Nat.zero_le _,rfl,rfl⟩ ?_
 rintro⟨i,js⟩ ⟨h1,h2,h3⟩
 dsimp only at h1 h2 h3 ⊢
 by_cases hlt:i < g.rules.length
 ·have hmem:=List.getElem_mem hlt
  have a3:=hg.right _ hmem
  have a4:=hg.hi _ hmem
  have hkl:=Za3 g.rules[i].right
  have hp:=Zut (is:=js) hlt
  have hl64:js.length≤64:=by omega
  have hh:=ZhO (s:=setN js) (v:=g.rules[i].left) (Zcq hl64)
  rw[Zhq hl64] at hh
  repeat (first|refine wk ?_)
  refine Zab [] (hA:=hh) (hr:=?_)
  cases hc:has js g.rules[i].left with
  | true =>
   have ho:ZfN g.rules[i] js=Zc9 (kids g.rules[i].right) js:=by rw[ZfN,hc];rfl
   rw[ho] at hp
   repeat (first|refine wk ?_)
   refine Zab [(3,900)] (hA:=Zb5) (hr:=?_)
   repeat (first|refine wk ?_)
   refine Zak (X:=Nat×List Bool) (fun x=>x.1≤(kids g.rules[i].right).length∧Zc9 (kids g.rules[i].right) js=Zc9 ((kids g.rules[i].right).drop x.1) x.2∧x.2.length=is.length) (fun x=>[(22,I x.1),(21,I (kids g.rules[i].right).length),(20,.own 900 (kids g.rules[i].right).length),(11,I i),(10,I g.rules.length),(9,.d (ZaL t g.rules)),(0,U (setN x.2)),(1,.ptr 1000 0)]) (fun _=>[(900,.row 3 1 ((kids g.rules[i].right).map iD)),(1000,Zay t g)]) (fun x=>(kids g.rules[i].right).length - x.1) (0,js) ⟨Nat.zero_le _,rfl,h3⟩ ?_
   rintro⟨k,ks⟩ ⟨k1,k2,k3⟩
   dsimp only at k1 k2 k3 ⊢
   by_cases hkt:k < (kids g.rules[i].right).length
   ·have hkm:=List.getElem_mem hkt
    have b1:=Zd1 _ hkm
    have b2:=a4 _ (ZkG hkm)
    have hq:=Zrq (is:=ks) hkt
    have hl65:ks.length≤64:=by omega
    have hw:=Zhp (s:=setN ks) (v:=(kids g.rules[i].right)[k]) (Zcq hl65)
    rw[ZfK hl65 b1 (by omega)] at hw
    repeat (first|refine wk ?_)
    refine Zab [] (hA:=hw) (hr:=?_)
    repeat (first|refine wk ?_)
    exact Zae (k+1,put ks (kids g.rules[i].right)[k]) (a:=⟨by omega,k2.trans hq,by rw[ZbN];exact k3⟩) (b:=by dsimp only;omega)
   ·rw[Zp8 hkt] at k2
    repeat (first|refine wk ?_)
    exact Zae (i+1,ks) (a:=⟨by omega,by dsimp only;rw[h2,hp,k2],k3⟩) (b:=by dsimp only;omega)
  | false =>
   have ho:ZfN g.rules[i] js=js:=by rw[ZfN,hc];rfl
   rw[ho] at hp
   repeat (first|refine wk ?_)
   exact Zae (i+1,js) (a:=⟨by omega,h2.trans hp,h3⟩) (b:=by dsimp only;omega)
 ·rw[h2,Zrp hlt]
  repeat (first|refine wk ?_)
  exact fin
def Zls (g:Gram):List Int:=if (Zac g).code=0 then Za2 (Zcr g) else []
theorem Zkh {t:Bool} {g:Gram} (hf:g.fit):ACalls Tryz.prog 114 [.d (Za6 t g)] [] (.tup [.d (ints false (Zls g)),.d (Zba (Zac g))]) []:=by
 refine ACalls.intro (n:=20) Tryz.func114 rfl rfl (by simp) (by rfl) ?_
 simp only[Zal]
 have hl:=hf.rules
 have hr:=hf.right
 repeat (first|refine wk ?_)
 refine Zab [] (hA:=ZaM) (hr:=?_)
 by_cases h0:(Zac g).code=0
 ·have hg:=Za1 h0
  have hz:=ZdM h0
  have hv:=hg.vars
  have hv1:=hg.vars1
  have hs:=hg.start
  have hrl:=Zd2 g
  have hnl:=Zbb g
  have hn64:(Zd0 g).length≤64:=by omega
  have hw:=Zhp (s:=0) (v:=g.start) (by decide)
  rw[show 0=setN (Zd0 g) from (Zhu _).symm,ZfK hn64 hg.start0 (by omega),show setN (Zd0 g)=0 from Zhu _] at hw
  have h:=Zo3 (clos:=183) (caps:=[.ptr 1000 0]) (H:=[(1000,Zay t g)]) (f:=Zfg g.rules) (is:=put (Zd0 g) g.start) ⟨rfl,rfl,rfl,⟨rfl,trivial⟩⟩ (ZdN _) (by rw[ZbN];omega) (fun x hx=>Zp9 hg (by rw[hx,ZbN,Zbb]))
  rw[Zls,if_pos h0,hz]
  repeat (first|refine wk ?_)
  refine Zab [] (hA:=hw) (hr:=?_)
  repeat (first|refine wk ?_)
  refine Zab [(1000,1)] (hA:=h) (hr:=?_)
  repeat (first|refine wk ?_)
  refine Zab [] (hA:=Zkr (is:=Zcr g) (by omega)) (hr:=?_)
  repeat (first|refine wkr ?_|refine Zaa (hr:=?_))
  refine Zav 900 rfl ?_
  repeat (first|refine wk ?_)
  exact fin
 ·rw[Zls,if_neg h0]
  repeat (first|refine wk ?_)
  exact fin
set_option maxRecDepth 100000
set_option maxRecDepth 100000
def setD (r:List Bool):D:=uD (setN r:Nat)
abbrev matD (M:Mat):List D:=M.map setD
theorem ZwB:Tryz.prog.underlying 114=some (.slice 118):=Tryz.underlying114
theorem Zqa {t:Bool} {M:Mat} (hl:M.length≤100000000:=by exact Vm) :
  ACalls Tryz.prog 167 [.d (.sl t 1 (matD M))] [] (.own 5 M.length) [(5,.row 118 1 (matD M))]:=by
 refine ACalls.intro (n:=8) Tryz.func167 rfl rfl (by simp) (by rfl) ?_
 simp only[Zal]
 refine ZdS ?_
 refine Zlq ?_
 refine Zv8 (hr:=?_)
 refine Zb7 ?_
 refine Zby ?_
 refine ZdS ?_
 refine ZdS ?_
 refine Zuh ?_ ?_ ZwB
 ·intro hx
  have hx':M=[]:=by simpa using hx
  subst hx'
  repeat (first|refine wkr ?_|refine Zaa (hr:=?_))
  refine Zbi 2 5 118 1 rfl rfl rfl ?_
  repeat (first|refine wk ?_)
  exact fin
 ·repeat (first|refine wk ?_)
  exact finx
def mixK (k i:Nat) (M:Mat):Mat:=(M.take i).map (rowK (rowM M k) k)++M.drop i
theorem Zrr (k:Nat) (M:Mat):mixK k 0 M=M:=by simp[mixK]
theorem Zuu {k i:Nat} {M:Mat} (h:¬ i < M.length):mixK k i M=stepK k M:=by
 rw[mixK,List.take_of_length_le (by omega),List.drop_of_length_le (by omega),List.append_nil];rfl
theorem Znt (k i:Nat) (M:Mat):(mixK k i M).length=M.length:=by simp[mixK];omega
theorem ZwC {k i:Nat} {M:Mat} (h:i < M.length) (h':i < (mixK k i M).length):(mixK k i M)[i]=M[i]:=by
 simp only[mixK]
 rw[List.getElem_append_right (by simp;omega)]
 simp[Nat.min_eq_left (Nat.le_of_lt h)]
theorem Zrs {k i:Nat} {M:Mat} (h:i < M.length):mixK k (i+1) M=(mixK k i M).set i (rowK (rowM M k) k M[i]):=by
 rw[mixK,mixK,List.take_succ_eq_append_getElem h,List.map_append,List.set_append_right _ _ (by simp;omega)]
 have e:i - ((M.take i).map (rowK (rowM M k) k)).length=0:=by simp;omega
 rw[e,List.drop_eq_getElem_cons h]
 simp only[List.map_cons,List.map_nil,List.append_assoc,List.cons_append,List.nil_append,List.set_cons_zero]
theorem Zuv {k i:Nat} {M:Mat} (h:k < M.length) (h':k < (mixK k i M).length):(mixK k i M)[k]=rowM M k:=by
 have hr:rowM M k=M[k]:=by simp[rowM,List.getD_eq_getElem?_getD,h]
 simp only[mixK]
 by_cases hk:k < i
 ·rw[List.getElem_append_left (by simp;omega)]
  simp only[List.getElem_map,List.getElem_take]
  rw[←hr,rowK]
  cases has (rowM M k) k with
  | true=>rw[cond_true,Zvk]
  | false=>rfl
 ·rw[List.getElem_append_right (by simp;omega)]
  refine Eq.trans ?_ hr.symm
  rw[List.getElem_drop]
  congr 1
  simp only[List.length_map,List.length_take]
  omega
theorem ZwD {V k i:Nat} {M:Mat} (h:Sq V M) (hk:k < V):Sq V (mixK k i M):=by
 refine⟨by rw[Znt];exact h.len,fun r hr=>?_⟩
 rw[mixK] at hr
 rcases List.mem_append.1 hr with hr|hr
 ·exact (h.stepK hk).row r (by
   obtain⟨q,hq,rfl⟩:=List.mem_map.1 hr
   exact List.mem_map.2 ⟨q,List.mem_of_mem_take hq,rfl⟩)
 ·exact h.row r (List.mem_of_mem_drop hr)
set_option maxHeartbeats 600000 in
theorem Zqb {t:Bool} {M:Mat} {N:Nat} (hq:Sq N M) (hN:N≤64) :
  ACalls Tryz.prog 86 [.d (.sl t 1 (matD M))] [] (.own 900 N) [(900,.row 118 1 (matD (closeK N M)))]:=by
 refine ACalls.intro (n:=37) Tryz.func86 rfl rfl (by simp) (by rfl) ?_
 simp only[Zal]
 have hl:=hq.len
 repeat (first|refine wk ?_)
 refine Zab [(5,900)] (hA:=Zqa (t:=t) (M:=M)) (hr:=?_)
 repeat (first|refine wk ?_)
 have e0:(matD M).length=N:=by simp[hl]
 refine Zak (X:=Nat) (fun k=>k≤N) (fun k=>[(10,I k),(9,I N),(3,.own 900 N)]) (fun k=>[(900,.row 118 1 (matD (closeK k M)))]) (fun k=>N - k) 0 (Nat.zero_le _) ?_
 intro k hk
 have hQ:=hq.closeK k hk
 generalize hQe:closeK k M=Q at hQ
 have hQl:=hQ.len
 by_cases hkN:k < N
 ·have hnx:closeK (k+1) M=stepK k Q:=by rw[closeK,hQe]
  have hpl:(rowM Q k).length=N:=hQ.at (by omega) (by omega)
  repeat (first|refine wk ?_)
  refine Zak (X:=Nat×Mat) (fun x=>x.1≤N∧x.2=mixK k x.1 Q) (fun x=>[(15,I x.1),(14,I N),(4,I k),(10,I k),(9,I N),(3,.own 900 N)]) (fun x=>[(900,.row 118 1 (matD x.2))]) (fun x=>N - x.1) (0,Q) ⟨Nat.zero_le _,(Zrr k Q).symm⟩ ?_
  rintro⟨i,A⟩ ⟨hi,hA⟩
  dsimp only at hi hA ⊢
  have hAq:Sq N A:=by rw[hA];exact ZwD hQ hkN
  have hAl:=hAq.len
  by_cases hiN:i < N
  ·have hiQ:i < Q.length:=by omega
   have hsu:=Zrs (k:=k) hiQ
   have hAi:A[i]=Q[i]:=by subst hA;exact ZwC hiQ (by omega)
   have hAk:A[k]=rowM Q k:=by subst hA;exact Zuv (by omega) (by omega)
   have hri:=hQ.row _ (List.getElem_mem hiQ)
   have hl64:Q[i].length≤64:=by omega
   have hs1:=Zcq hl64
   have hs2:=Zcq (l:=rowM Q k) (by omega)
   have hh:=ZhO (s:=setN Q[i]) (v:=k) hs1
   rw[Zhq hl64,←hAi] at hh
   rw[←hA] at hsu
   rw[←hAi] at hsu hs1
   rw[←hAk] at hs2
   repeat (first|refine wk ?_)
   refine Zab [] (hA:=hh) (hr:=?_)
   cases hb:has A[i] k with
   | true =>
    have hro:rowK (rowM Q k) k A[i]=orL A[i] A[k]:=by rw[rowK,hb,cond_true,hAk]
    rw[hro] at hsu
    have e:(matD A).set i (.raw (.int .u64 (orU (setN A[i]:Nat) (setN A[k]:Nat))))=matD (mixK k (i+1) Q):=by
     rw[hsu,matD,matD,List.map_set]
     congr 1
     show _=uD (setN (orL A[i] A[k]):Nat)
     rw[Zw3 (by rw[hAi,hAk,hri,hpl])];rfl
    repeat (first|refine wk ?_)
    exact Zae (i+1,mixK k (i+1) Q) (a:=⟨by omega,rfl⟩) (b:=by dsimp only;omega)
   | false =>
    have hro:rowK (rowM Q k) k A[i]=A[i]:=by rw[rowK,hb];rfl
    rw[hro,List.set_getElem_self] at hsu
    repeat (first|refine wk ?_)
    exact Zae (i+1,A) (a:=⟨by omega,hsu.symm⟩) (b:=by dsimp only;omega)
  ·rw[Zuu (by omega),←hnx] at hA
   subst hA
   repeat (first|refine wk ?_)
   exact Zae (k+1)
 ·have hkN':k=N:=by omega
  have e:matD Q=matD (closeK N M):=by rw[←hQe,hkN']
  rw[←e]
  repeat (first|refine wk ?_)
  exact fin
end Go.Proofs.YtbpmepgnjanhnaaGreat
namespace Go.Proofs
open Go.Shelf
def Tryz.delRen:Go.Shelf.Ren:=⟨fun|23=>168|n=>n,fun|0=>0|3=>3|4=>4|22=>25|n=>n,fun|n=>n⟩
theorem Tryz.delLay:Go.Proofs.Lays2.n23 Tryz.prog Tryz.delRen:={
 mixed:=by kernel_rfl
 f23:=Tryz.func168.trans (congrArg some (by kernel_rfl))
 t0:=Tryz.underlying0
 a0:=Tryz.isAgg0
 z0:=Tryz.sizeOf0
 v0:=Tryz.zeroValue0
 t3:=Tryz.underlying3
 a3:=Tryz.isAgg3
 z3:=Tryz.sizeOf3
 v3:=Tryz.zeroValue3
 t4:=Tryz.underlying4
 a4:=Tryz.isAgg4
 z4:=Tryz.sizeOf4
 v4:=Tryz.zeroValue4
 t22:=Tryz.underlying25
 a22:=Tryz.isAgg25
 z22:=Tryz.sizeOf25
 v22:=Tryz.zeroValue25
 i3:=by kernel_rfl }
end Go.Proofs
namespace Go.Proofs.YtbpmepgnjanhnaaGreat
open Go.RowKit Go.Sort
set_option maxRecDepth 100000
theorem Zji:∀ (xs:List Int),Zln (xs.map iD)=some (xs.map fun x=>Value.int .i64 x)
 | []=>rfl
 | x::xs=>by simp[Zln,iD,Zji xs]
theorem Zlt {M:Bars} {w:World}:∀ (xs:List Int),D.Reps M w (xs.map iD) (xs.map fun x=>Value.int .i64 x)
 | []=>by simp[D.Reps]
 | x::xs=>by
  simp only[List.map_cons,D.Reps]
  exact⟨[_],_,rfl,by simp[iD,D.Rep,Value.oneCell'],Zlt xs⟩
theorem Zki {E:Env} {n k b:Nat} (hb:blkOf E [(1000,.dead n)] k b):False:=by
 unfold blkOf at hb
 simp only[hget] at hb
 cases hk:Nat.beq 1000 k <;> rw[hk] at hb <;> cases hb
theorem Zqc {xs:List Int} {i:Nat} (hi:i < xs.length) (hl:xs.length≤100000000:=by exact Vm) :
  ACalls Tryz.prog 168 [.own 1000 xs.length,I i,I ((i:Int)+1)] [(1000,.row 3 1 (xs.map iD))] (.d (ints false (xs.take i++xs.drop (i+1)))) [(1000,.dead xs.length)]:=by
 refine⟨⟨_,Tryz.func168,rfl,rfl⟩,fun E w us o H hr hk ho hs=>?_⟩
 simp only[V.Reps,V.Rep,D.RepV,D.Rep,List.cons.injEq,and_true] at hr
 obtain⟨u,_,rfl,⟨m,v1,v2,v3,v4⟩,_,_,rfl,⟨rfl,_⟩,_,_,rfl,⟨rfl,_⟩,rfl⟩:=hr
 have hk1:hget [(1000,Ob.row 3 1 (xs.map iD))] 1000=some (.row 3 1 (xs.map iD)):=rfl
 have e1:m=xs.length:=ZaS v1 (.inl ⟨_,_,_,hk1,by simp⟩)
 have hu:=v4 e1.symm
 subst hu
 have hrow:=H.obs 1000 _ hk1
 simp only[ObRep] at hrow
 obtain⟨_,⟨a,_,hn⟩|⟨g,off,cap,cur,hv,h0,hg,hlc,hcm,hcs,hreps⟩⟩:=hrow
 ·have:xs=[]:=by simpa using hn
  subst this;simp at hi
 rw[List.length_map] at hv hlc
 have hcells:=ZiV hreps (Zji xs)
 simp only[List.length_map,Nat.mul_one] at hcells
 have hH:Go.Sort.Holds encI w g off xs.toArray:=fun j hj=>by
  have hj':j < xs.length:=by simpa using hj
  constructor
  ·simp only[World.cell?,hg]
   have h1:((cur.toList.drop off).take xs.length)[j]? = (xs.map fun x=>Value.int .i64 x)[j]? := by rw[hcells]
   rw[List.getElem?_take,if_pos hj',List.getElem?_drop] at h1
   simp only[Array.getElem?_toList] at h1
   rw[h1]
   simp[hj']
  ·simp only[World.frozen?,hg];simp
 have hc:=Go.Proofs.Any.slices_Delete_int Tryz.delLay g off cap i (i+1) xs w hH hlc (by unfold maxLen at hcm;omega) (by omega) (by omega)
 have hlive:Live E [(1000,Ob.row 3 1 (xs.map iD))] g:=⟨1000,by unfold blkOf;rw[hk1,hv];simp[obOf];omega⟩
 rw[hv]
 refine hc.mono ?_
 rintro e w' ⟨rfl,q,rfl⟩
 have hH2:=holds_putRow encI (Sort.ahead w q) g off xs.toArray (xs.take i++xs.drop (i+1)++List.replicate (i+1 - i) 0).toArray (Go.Sort.holds_ahead encI w q g off _ hH) (by simp;omega)
 have hsz:g < w.heap.size:=(Array.getElem?_eq_some_iff.1 hg).1
 have hll:(xs.take i++xs.drop (i+1)).length=xs.length - 1:=by simp;omega
 refine⟨E,_,rfl,⟨?_,?_,?_⟩,?_,by simp[V.keys],⟨rfl,rfl,rfl,?_,?_,Nat.le_add_right _ _⟩,?_,?_⟩
 ·intro k ob hk
  simp only[hget] at hk
  split at hk
  ·cases hk;trivial
  ·cases hk
 ·intro k k' b h1
  exact (Zki h1).elim
 ·intro k ob hk j hj
  simp only[hget] at hk
  split at hk
  ·cases hk;simp[Ob.keys] at hj
  ·cases hk
 ·simp only[V.Rep,D.RepV,D.Rep]
  refine⟨_,cap,(xs.take i++xs.drop (i+1)).map fun x=>Value.int .i64 x,?_,?_,hcm,?_,Zlt _,fun _=>⟨g,off,rfl,?_,by simpa[putRow,mapBlock,Sort.ahead] using hsz,fun j hj=>?_⟩⟩
  ·rw[List.length_map,hll,show xs.length - (i+1 - i)=xs.length - 1 by omega]
  ·rw[List.length_map,hll];omega
  ·intro x hx
   obtain⟨y,_,rfl⟩:=List.mem_map.1 hx
   rfl
  ·rintro (⟨k,hk⟩|hob)
   ·exact (Zki hk).elim
   ·exact (ho _ _ hob).2 hlive
  ·have hj':j < (xs.take i++xs.drop (i+1)).length:=by simpa using hj
   have:=(hH2 j (by simp at hj' ⊢;omega)).1
   rw[this]
   have hj2:j < (xs.take i++xs.drop (i+1)++List.replicate (i+1 - i) 0).length:=by simp at hj' ⊢;omega
   rw[getElem!_pos _ _ (by simpa using hj2)]
   simp only[List.getElem?_map]
   rw[List.getElem?_eq_getElem hj']
   simp only[Option.map_some,List.getElem_toArray]
   rw[List.getElem_append_left hj']
 ·simp[putRow,mapBlock,Sort.ahead]
 ·intro k hk hn
  have hne:g≠k:=fun e=>hn (e ▸ hlive)
  simp only[putRow,mapBlock,Sort.ahead,Array.getElem?_modify]
  rw[if_neg hne]
 ·intro k hk1000 hks
  simp only[hget] at hks
  split at hks
  ·rename_i hb
   have:=Nat.eq_of_beq_eq_true hb
   subst this
   refine⟨rfl,rfl,fun m hm=>⟨m,.inr (.inr ?_),Nat.le_refl _,fun _=>rfl⟩,fun sz n hv=>?_⟩
   ·have:m=xs.length:=ZaS hm (.inl ⟨_,_,_,hk1,by simp⟩)
    rw[this];simp[hget]
   ·rcases hv with ⟨_,_,h1,_⟩|⟨_,_,_,_,h1,_⟩ <;> simp[hget] at h1
  ·cases hks
 ·intro k b hb
  exact (Zki hb).elim
open Go.RowKit
set_option maxRecDepth 100000
theorem Zlu (a b:List Int) (is:List Bool):Zcn (a++b) is=(Zcn a is && Zcn b is):=by simp[Zcn,List.all_append]
theorem Zrt {g:Gram} {N:Nat} (h:g.vars.toNat=N):List.replicate N (Zjh (.int .u64 0))=matD (Zmg g):=by
 rw[matD,Zmg,h,List.map_replicate,setD,Zd0,Zhu];rfl
theorem Zuw {M:Mat} {u w:Int} {k:Nat} (hk:u=(k:Int)) (h:k < M.length):(matD M).set k (uD (setN (put M[k] w):Nat))=matD (addM u w M):=by
 subst hk
 have hr:rowM M k=M[k]:=by simp[rowM,List.getD_eq_getElem?_getD,h]
 rw[addM,hr,matD,matD,List.map_set];rfl
theorem ZwE {null:List Bool} {c:Bool} {rs:List Rule} {i:Nat} {M:Mat} (h:i < rs.length):matM null c (rs.drop i) M=matM null c (rs.drop (i+1)) (Zh7 null c rs[i] rs[i].right.length M):=by
 rw[List.drop_eq_getElem_cons h,matM]
theorem Zux {null:List Bool} {c:Bool} {rs:List Rule} {i:Nat} {M:Mat} (h:¬ i < rs.length):matM null c (rs.drop i) M=M:=by
 rw[List.drop_of_length_le (by omega),matM]
theorem Zuy {xs:List Int} {k:Nat} (h:k < xs.length):xs.getD k 0=xs[k]:=by simp[List.getD_eq_getElem?_getD,h]
set_option maxHeartbeats 1000000 in
theorem Zru {t:Bool} {g:Gram} (hg:g.ok):ACalls Tryz.prog 87 [.d (Za6 t g)] [] (.own 14 g.vars.toNat) [(14,.row 118 1 (matD (oneM false g)))]:=by
 refine ACalls.intro (n:=59) Tryz.func87 rfl rfl (by simp) (by rfl) ?_
 simp only[Zal]
 have hv:=hg.vars
 have hv1:=hg.vars1
 have hlen:=hg.rules
 have hnl:=Zcd (t:=false) hg
 obtain⟨N,hN⟩:∃ N:Nat,g.vars=(N:Int):=⟨g.vars.toNat,by omega⟩
 have hNt:g.vars.toNat=N:=by omega
 have hsq:=ZkJ g
 rw[hNt] at hsq hnl ⊢
 have e:=Zrt hNt
 repeat (first|refine wk ?_)
 refine Zab [] (hA:=ZhP (u:=false) hg) (hr:=?_)
 repeat (first|refine wk ?_)
 refine Zak (X:=Nat×Mat) (fun x=>x.1≤g.rules.length∧oneM false g=matM (ZaT false g) false (g.rules.drop x.1) x.2∧Sq N x.2) (fun x=>[(18,I x.1),(17,I g.rules.length),(16,.d (ZaL t g.rules)),(4,.own 14 N),(3,U (setN (ZaT false g))),(1,.ptr 1 0)]) (fun x=>[(14,.row 118 1 (matD x.2)),(1,Zay t g)]) (fun x=>g.rules.length - x.1) (0,Zmg g) ⟨Nat.zero_le _,rfl,hsq⟩ ?_
 clear e
 rintro⟨i,A⟩ ⟨h1,h2,h3⟩
 dsimp only at h1 h2 h3 ⊢
 by_cases hlt:i < g.rules.length
 ·have hmem:=List.getElem_mem hlt
  obtain⟨a1,a2,a5⟩:=ZkK hg _ hmem
  rw[hNt] at a2 a5
  have a3:=hg.right _ hmem
  have hp:=ZwE (null:=ZaT false g) (c:=false) (M:=A) hlt
  obtain⟨l,hlk⟩:∃ l:Nat,g.rules[i].left=(l:Int):=⟨g.rules[i].left.toNat,by omega⟩
  repeat (first|refine wk ?_)
  refine Zak (X:=Nat×Mat) (fun x=>x.1≤g.rules[i].right.length∧x.2=Zh7 (ZaT false g) false g.rules[i] x.1 A) (fun x=>[(25,I x.1),(24,I g.rules[i].right.length),(23,.d (ints t g.rules[i].right)),(6,.ptr 6 0),(18,I i),(17,I g.rules.length),(16,.d (ZaL t g.rules)),(4,.own 14 N),(3,U (setN (ZaT false g))),(1,.ptr 1 0)]) (fun x=>[(6,Zfe t g.rules[i]),(14,.row 118 1 (matD x.2)),(1,Zay t g)]) (fun x=>g.rules[i].right.length - x.1) (0,A) ⟨Nat.zero_le _,rfl⟩ ?_
  rintro⟨k,C⟩ ⟨k1,k2⟩
  dsimp only at k1 k2 ⊢
  by_cases hkt:k < g.rules[i].right.length
  ·obtain⟨hCq,_⟩:=ZeL (null:=ZaT false g) (c:=false) h3 a1 a2 a5 k (by omega)
   rw[←k2] at hCq
   have hCl:=hCq.len
   have hlC:l < C.length:=by omega
   have hCr:=hCq.row _ (List.getElem_mem hlC)
   have hgd:=Zuy hkt
   have hx:=a5 _ (List.getElem_mem hkt)
   have hrs:Zh7 (ZaT false g) false g.rules[i] (k+1) A=bif Ze7 (ZaT false g) false g.rules[i].right k then addM g.rules[i].left g.rules[i].right[k] C else C:=by rw[Zh7,hgd,←k2]
   have hpk:Ze7 (ZaT false g) false g.rules[i].right k=(decide (0≤g.rules[i].right[k]) && Zcn (g.rules[i].right.take k++g.rules[i].right.drop (k+1)) (ZaT false g)):=by
    rw[Ze7,hgd,Bool.false_or,Zlu]
   have hdl:=Zqc (xs:=g.rules[i].right) hkt (by omega)
   have htl:(g.rules[i].right.take k++g.rules[i].right.drop (k+1)).length≤100:=by simp;omega
   repeat (first|refine wk ?_)
   refine Zab [(5,900)] (hA:=ZbX) (hr:=?_)
   repeat (first|refine wk ?_)
   refine Zab [(1000,900)] (hA:=hdl) (hr:=?_)
   by_cases h0:0≤g.rules[i].right[k]
   ·have hwh:=ZlL (t:=false) (u:=false) (r:=⟨0,g.rules[i].right.take k++g.rules[i].right.drop (k+1)⟩) (is:=ZaT false g) (by omega) (by show (g.rules[i].right.take k++g.rules[i].right.drop (k+1)).length≤100000000;omega)
    repeat (first|refine wk ?_)
    refine Zab [] (hA:=hwh) (hr:=?_)
    cases hb:Zcn (g.rules[i].right.take k++g.rules[i].right.drop (k+1)) (ZaT false g) with
    | true =>
     rw[hpk,hb,decide_eq_true h0,Bool.and_true,cond_true] at hrs
     have hw:=Zhp (s:=setN C[l]) (v:=g.rules[i].right[k]) (Zcq (by omega))
     rw[ZfK (by omega) h0 (by omega)] at hw
     have e:=Zuw (M:=C) (w:=g.rules[i].right[k]) hlk hlC
     repeat (first|refine wk ?_)
     refine Zab [] (hA:=hw) (hr:=?_)
     repeat (first|refine wk ?_)
     exact Zae (k+1,addM g.rules[i].left g.rules[i].right[k] C) (a:=⟨by omega,hrs.symm⟩) (b:=by dsimp only;omega)
    | false =>
     rw[hpk,hb,Bool.and_false,cond_false] at hrs
     repeat (first|refine wk ?_)
     exact Zae (k+1,C) (a:=⟨by omega,hrs.symm⟩) (b:=by dsimp only;omega)
   ·rw[hpk,decide_eq_false h0,Bool.false_and,cond_false] at hrs
    repeat (first|refine wk ?_)
    exact Zae (k+1,C) (a:=⟨by omega,hrs.symm⟩) (b:=by dsimp only;omega)
  ·obtain rfl:k=g.rules[i].right.length:=by omega
   have hCs:=(ZeL (null:=ZaT false g) (c:=false) h3 a1 a2 a5 _ (Nat.le_refl _)).1
   rw[←k2] at hCs hp
   repeat (first|refine wk ?_)
   exact Zae (i+1,C) (a:=⟨by omega,h2.trans hp,hCs⟩) (b:=by dsimp only;omega)
 ·rw[Zux hlt] at h2
  rw[h2]
  repeat (first|refine wk ?_)
  exact fin
set_option maxRecDepth 100000
def Zfc (M:Mat) (n:Nat):List Int:=((List.range n).filter (fun (v:Nat)=>has (rowM M v) v)).map (fun (k:Nat)=>(k:Int))
theorem Zqd (M:Mat) (n:Nat):Zfc M (n+1)=Zfc M n++(if has (rowM M n) n=true then [(n:Int)] else []):=by
 unfold Zfc
 rw[List.range_succ,List.filter_append,List.map_append]
 congr 1
 by_cases h:has (rowM M n) n=true <;> simp[h]
theorem Zuz (M:Mat) (n:Nat):(Zfc M n).length≤n:=by
 unfold Zfc
 rw[List.length_map]
 exact Nat.le_trans (List.length_filter_le _ _) (by simp)
def cycL (g:Gram):List Int:=if (Zac g).code=0 then Zfc (ledM false g) g.vars.toNat else []
theorem Znu {M:Mat} {k:Nat} (h:k < M.length):rowM M k=M[k]:=by simp[rowM,List.getD_eq_getElem?_getD,h]
theorem ZdE {t:Bool} {g:Gram} (hf:g.fit):ACalls Tryz.prog 51 [.d (Za6 t g)] [] (.tup [.d (ints false (cycL g)),.d (Zba (Zac g))]) []:=by
 refine ACalls.intro (n:=33) Tryz.func51 rfl rfl (by simp) (by rfl) ?_
 simp only[Zal]
 have hl:=hf.rules
 have hr:=hf.right
 repeat (first|refine wk ?_)
 refine Zab [] (hA:=ZaM) (hr:=?_)
 by_cases h0:(Zac g).code=0
 ·have hg:=Za1 h0
  have hz:=ZdM h0
  have hv:=hg.vars
  have hsq:=ZnS (c:=false) hg
  have hlq:=ZgC (c:=false) hg
  have hlql:=hlq.len
  have hol:=hsq.len
  obtain⟨N,hN⟩:∃ N:Nat,g.vars.toNat=N:=⟨_,rfl⟩
  have hal:=Zru (t:=t) hg
  have hcl:=Zqb (t:=false) hsq (by omega)
  rw[show closeK g.vars.toNat (oneM false g)=ledM false g from rfl] at hcl
  rw[cycL,if_pos h0,hz]
  rw[hN] at hal hcl hlql hol ⊢
  repeat (first|refine wk ?_)
  refine Zab [(14,902)] (hA:=hal) (hr:=?_)
  repeat (first|refine wk ?_)
  refine ZaO [] (hA:=hcl) (hr:=?_)
  repeat (first|refine wk ?_)
  refine Zbi 5 901 3 1 rfl rfl rfl ?_
  refine Zak (X:=Nat) (fun k=>k≤N) (fun k=>[(18,I k),(17,I N),(16,.own 900 N),(5,.own 901 (Zfc (ledM false g) k).length),(3,.ptr 3 0)]) (fun k=>[(901,.row 3 1 ((Zfc (ledM false g) k).map iD)),(900,.row 118 1 (matD (ledM false g))),(3,.box 31 [.d (iD 0),.d (iD 0)])]) (fun k=>N - k) 0 (Nat.zero_le _) ?_
  intro k hk
  have hsl:=Zuz (ledM false g) k
  by_cases hkN:k < N
  ·have hkL:k < (ledM false g).length:=by omega
   have hr64:(ledM false g)[k].length≤64:=by have:=hlq.row _ (List.getElem_mem hkL);omega
   have e:=Zqd (ledM false g) k
   have hh:=ZhO (s:=setN (ledM false g)[k]) (v:=k) (Zcq hr64)
   rw[Zhq hr64,←Znu hkL] at hh
   rw[←Znu hkL] at hr64
   have hrow:=Znu hkL
   cases hb:has (rowM (ledM false g) k) k with
   | true =>
    rw[hb,if_pos rfl] at e
    rw[hb,hrow] at hh
    repeat (first|refine wk ?_)
    refine Zab [] (hA:=hh) (hr:=?_)
    repeat (first|refine wk ?_)
    exact Zae (k+1)
   | false =>
    rw[hb,if_neg (by decide),List.append_nil] at e
    rw[hb,hrow] at hh
    repeat (first|refine wk ?_)
    refine Zab [] (hA:=hh) (hr:=?_)
    repeat (first|refine wk ?_)
    exact Zae (k+1)
  ·obtain rfl:k=N:=by omega
   refine Zav 901 rfl ?_
   repeat (first|refine wk ?_)
   exact fin
 ·rw[cycL,if_neg h0]
  repeat (first|refine wk ?_)
  exact fin
theorem listB_mem {is:List Bool} {x:Int}:x∈Za2 is↔has is x=true:=by
 unfold Za2
 rw[List.mem_map]
 constructor
 ·rintro⟨k,hk,rfl⟩
  rw[List.mem_filter] at hk
  rw[Zbl];exact hk.2
 ·intro h
  obtain⟨h0,h1⟩:=Ze6 h
  obtain⟨k,rfl⟩:∃ k:Nat,x=(k:Int):=⟨x.toNat,by omega⟩
  rw[Zbl] at h
  exact⟨k,List.mem_filter.2 ⟨List.mem_range.2 (by omega),h⟩,rfl⟩
def more (g:Gram) (r:Rule):Gram:=⟨g.vars,g.terms,g.start,g.rules++[r]⟩
section
variable {g:Gram} {r:Rule} (hg:g.ok) (hh:(more g r).ok)
include hh
include hg
end
end Go.Proofs.YtbpmepgnjanhnaaGreat
