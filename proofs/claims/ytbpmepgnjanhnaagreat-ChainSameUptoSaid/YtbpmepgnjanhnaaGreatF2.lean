import Derived.Test.YtbpmepgnjanhnaaGreatQChartP
import Derived.Shelf.Slices.Delete
set_option linter.unusedVariables false
set_option linter.unusedSimpArgs false
set_option linter.unusedSectionVars false
set_option maxHeartbeats 1000000
set_option maxRecDepth 100000
namespace Go.Proofs.YtbpmepgnjanhnaaGreat
open Go.RowKit
theorem Zzy {rs:List Rule} {i:Nat} {is:List Bool} (h:i < rs.length):Zhl (rs.drop i) is=Zhl (rs.drop (i+1)) (Zig rs[i] is):=by
 rw[Hw h,Zhl]
theorem ZvT {rs:List Rule} {i:Nat} {is:List Bool} (h:¬ i < rs.length):Zhl (rs.drop i) is=is:=by
 rw[HL (by omega),Zhl]
theorem ZvU {vs:List Int} {i:Nat} {is:List Bool} (h:i < vs.length):Zeu (vs.drop i) is=Zeu (vs.drop (i+1)) (put is vs[i]):=by
 rw[Hw h,Zeu]
theorem Zun {vs:List Int} {i:Nat} {is:List Bool} (h:¬ i < vs.length):Zeu (vs.drop i) is=is:=by
 rw[HL (by omega),Zeu]
theorem Zuo {t:Bool} {g:Ac} (hg:g.ok) {is:List Bool} (hl:is.length=g.vars.toNat) :
  Af Tryz.prog 183 [U (setN is),.ptr 1000 0] [(1000,ZaE t g)] (U (setN (Zhl g.Aa is))) [(1000,ZaE t g)]:=by
 refine Af.intro (n:=32) Tryz.func183 (hw:=?_);simp only[Zal];have hv:=hg.vars;have hlen:=hg.Aa
 (try refine wk ?_)
 refine Zak (X:=Nat×List Bool) (fun x=>x.1≤g.Aa.length∧Zhl g.Aa is=Zhl (g.Aa.drop x.1) x.2∧x.2.length=is.length) (fun x=>[(11,I x.1),(10,I g.Aa.length),(9,.d (ZaS t g.Aa)),(0,U (setN x.2)),(1,.ptr 1000 0)]) (fun _=>[(1000,ZaE t g)]) (fun x=>g.Aa.length - x.1) (0,is) ⟨Hh _,rfl,rfl⟩ ?_;rintro⟨i,js⟩ ⟨h1,h2,h3⟩;dsimp only at h1 h2 h3 ⊢;by_cases hlt:i < g.Aa.length
 ·have hmem:=He hlt;have a3:=hg.right _ hmem;have a4:=hg.hi _ hmem;have hkl:=Zbj g.Aa[i].right;have hp:=Zzy (is:=js) hlt;have hl64:js.length≤64:=by omega
  have hh:=Zkt (s:=setN js) (v:=g.Aa[i].left) (Zdf hl64);rw[ZjF hl64] at hh
  (try refine wk ?_)
  refine Zab [] (hA:=hh) (hr:=?_);cases hc:has js g.Aa[i].left with
  | true =>
   have ho:Zig g.Aa[i] js=Zeu (Ab g.Aa[i].right) js:=by rw[Zig,hc];rfl
   rw[ho] at hp
   (try refine wk ?_)
   refine Zab [(3,900)] (hA:=ZcH) (hr:=?_)
   (try refine wk ?_)
   refine Zak (X:=Nat×List Bool) (fun x=>x.1≤(Ab g.Aa[i].right).length∧Zeu (Ab g.Aa[i].right) js=Zeu ((Ab g.Aa[i].right).drop x.1) x.2∧x.2.length=is.length) (fun x=>[(22,I x.1),(21,I (Ab g.Aa[i].right).length),(20,.own 900 (Ab g.Aa[i].right).length),(11,I i),(10,I g.Aa.length),(9,.d (ZaS t g.Aa)),(0,U (setN x.2)),(1,.ptr 1000 0)]) (fun _=>[(900,.row 3 1 ((Ab g.Aa[i].right).map iD)),(1000,ZaE t g)]) (fun x=>(Ab g.Aa[i].right).length - x.1) (0,js) ⟨Hh _,rfl,h3⟩ ?_;rintro⟨k,ks⟩ ⟨k1,k2,k3⟩;dsimp only at k1 k2 k3 ⊢;by_cases hkt:k < (Ab g.Aa[i].right).length
   ·have hkm:=He hkt;have b1:=ZbY _ hkm;have b2:=a4 _ (ZdY hkm);have hq:=ZvU (is:=ks) hkt;have hl65:ks.length≤64:=(by omega);have hw:=ZjE (s:=setN ks) (v:=(Ab g.Aa[i].right)[k]) (Zdf hl65);rw[ZhH hl65 b1 (by omega)] at hw
    (try refine wk ?_)
    refine Zab [] (hA:=hw) (hr:=?_)
    (try refine wk ?_)
    exact Zad (k+1,put ks (Ab g.Aa[i].right)[k]) (a:=⟨by omega,k2.trans hq,by rw[Zcu];exact k3⟩) (b:=by dsimp only;omega)
   ·rw[Zun hkt] at k2
    (try refine wk ?_)
    exact Zad (i+1,ks) (a:=⟨by omega,by dsimp only;rw[h2,hp,k2],k3⟩) (b:=by dsimp only;omega)
  | false =>
   have ho:Zig g.Aa[i] js=js:=by rw[Zig,hc];rfl
   rw[ho] at hp
   (try refine wk ?_)
   exact Zad (i+1,js) (a:=⟨by omega,h2.trans hp,h3⟩) (b:=by dsimp only;omega)
 ·rw[h2,ZvT hlt]
  (try refine wk ?_)
  exact fin
def ZoZ (g:Ac):List Int:=if (Zac g).code=0 then Zba (Zdg g) else []
theorem Znk {t:Bool} {g:Ac} (hf:g.fit):Af Tryz.prog 114 [.d (Zbr t g)] [] (.tup [.d (ints false (ZoZ g)),.d (Zbu (Zac g))]) []:=by
 refine Af.intro (n:=20) Tryz.func114 (hw:=?_);simp only[Zal];have hl:=hf.Aa;have hr:=hf.right
 (try refine wk ?_)
 refine Zab [] (hA:=ZaT) (hr:=?_);by_cases h0:(Zac g).code=0
 ·have hg:=Zbd h0;have hz:=Zfd h0;have hv:=hg.vars;have hv1:=hg.vars1;have hs:=hg.start;have hrl:=ZfM g;have hnl:=Zbl g;have hn64:(Zff g).length≤64:=by omega
  have hw:=ZjE (s:=0) (v:=g.start) (by decide);rw[show 0=setN (Zff g) from (Zj4 _).symm,ZhH hn64 hg.start0 (by omega),show setN (Zff g)=0 from Zj4 _] at hw;have h:=Zs2 (clos:=183) (caps:=[.ptr 1000 0]) (H:=[(1000,ZaE t g)]) (f:=Zhl g.Aa) (is:=put (Zff g) g.start) ⟨rfl,rfl,rfl,⟨rfl,trivial⟩⟩ (Zfg _) (by rw[Zcu];omega) (fun x hx=>Zuo hg (by rw[hx,Zcu,Zbl]));rw[ZoZ,Hb h0,hz]
  (try refine wk ?_)
  refine Zab [] (hA:=hw) (hr:=?_)
  (try refine wk ?_)
  refine Zab [(1000,1)] (hA:=h) (hr:=?_)
  (try refine wk ?_)
  refine Zab [] (hA:=ZnI (is:=Zdg g) (by omega)) (hr:=?_);repeat (first|refine wkr ?_|refine Zaa (hr:=?_))
  refine Zaz 900 rfl ?_
  (try refine wk ?_)
  exact fin
 ·rw[ZoZ,Ha h0]
  (try refine wk ?_)
  exact fin
def setD (r:List Bool):D:=uD (setN r:Nat)
abbrev matD (M:Mat):List D:=M.map setD
theorem ZCb:Tryz.prog.underlying 114=some (.slice 118):=Tryz.underlying114
theorem Zup {t:Bool} {M:Mat} (hl:M.length≤100000000:=by exact Vm) :
  Af Tryz.prog 167 [.d (.sl t 1 (matD M))] [] (.own 5 M.length) [(5,.row 118 1 (matD M))]:=by
 refine Af.intro (n:=8) Tryz.func167 (hw:=?_);simp only[Zal];refine Ze6 ?_;refine ZoN ?_;refine ZBw (hr:=?_);refine ZcK ?_;refine Zb2 ?_;refine Ze6 ?_;refine Ze6 ?_;refine ZxJ ?_ ?_ ZCb
 ·intro hx;have hx':M=[]:=by simpa using hx
  subst hx';repeat (first|refine wkr ?_|refine Zaa (hr:=?_))
  refine ZbB 2 5 118 1 rfl rfl rfl ?_
  (try refine wk ?_)
  exact fin
 ·(try refine wk ?_)
  exact finx
def mixK (k i:Nat) (M:Mat):Mat:=(M.take i).map (rowK (rowM M k) k)++M.drop i
theorem ZvV (k:Nat) (M:Mat):mixK k 0 M=M:=by simp[mixK]
theorem Zzz {k i:Nat} {M:Mat} (h:¬ i < M.length):mixK k i M=stepK k M:=by
 rw[mixK,H6 (by omega),HL (by omega),Ht];rfl
theorem Zq6 (k i:Nat) (M:Mat):(mixK k i M).length=M.length:=by simp[mixK];omega
theorem ZCc {k i:Nat} {M:Mat} (h:i < M.length) (h':i < (mixK k i M).length):(mixK k i M)[i]=M[i]:=by
 simp only[mixK];rw[JC (by simp;omega)];simp[Gs (Nat.le_of_lt h)]
theorem ZvW {k i:Nat} {M:Mat} (h:i < M.length):mixK k (i+1) M=(mixK k i M).set i (rowK (rowM M k) k M[i]):=by
 rw[mixK,mixK,HD h,Ho,Jg _ _ (by simp;omega)];have e:i - ((M.take i).map (rowK (rowM M k) k)).length=0:=by simp;omega
 rw[e,Hw h];simp only[Hm,HF,HH,Hv,H3,List.set_cons_zero]
theorem ZzA {k i:Nat} {M:Mat} (h:k < M.length) (h':k < (mixK k i M).length):(mixK k i M)[k]=rowM M k:=by
 have hr:rowM M k=M[k]:=by simp[rowM,Hf,h]
 simp only[mixK];by_cases hk:k < i
 ·rw[Jp (by simp;omega)];simp only[Gu,List.getElem_take];rw[←hr,rowK];cases has (rowM M k) k with
  | true=>rw[Gc,ZBM]
  | false=>rfl
 ·rw[JC (by simp;omega)];refine Eq.trans ?_ hr.symm;rw[Jq];congr 1;simp only[Hi,Hs];omega
theorem ZCd {V k i:Nat} {M:Mat} (h:Sq V M) (hk:k < V):Sq V (mixK k i M):=by
 refine⟨by rw[Zq6];exact h.len,fun r hr=>?_⟩;rw[mixK] at hr;rcases List.mem_append.1 hr with hr|hr
 ·exact (h.stepK hk).row r (by
   obtain⟨q,hq,rfl⟩:=List.mem_map.1 hr;exact List.mem_map.2 ⟨q,Gf hq,rfl⟩)
 ·exact h.row r (G5 hr)
theorem Zuq {t:Bool} {M:Mat} {N:Nat} (hq:Sq N M) (hN:N≤64) :
  Af Tryz.prog 86 [.d (.sl t 1 (matD M))] [] (.own 900 N) [(900,.row 118 1 (matD (closeK N M)))]:=by
 refine Af.intro (n:=37) Tryz.func86 (hw:=?_);simp only[Zal];have hl:=hq.len
 (try refine wk ?_)
 refine Zab [(5,900)] (hA:=Zup (t:=t) (M:=M)) (hr:=?_)
 (try refine wk ?_)
 have e0:(matD M).length=N:=by simp[hl]
 refine Zak (X:=Nat) (fun k=>k≤N) (fun k=>[(10,I k),(9,I N),(3,.own 900 N)]) (fun k=>[(900,.row 118 1 (matD (closeK k M)))]) (fun k=>N - k) 0 (Hh _) ?_;intro k hk;have hQ:=hq.closeK k hk;generalize hQe:closeK k M=Q at hQ;have hQl:=hQ.len;by_cases hkN:k < N
 ·have hnx:closeK (k+1) M=stepK k Q:=by rw[closeK,hQe]
  have hpl:(rowM Q k).length=N:=hQ.at (by omega) (by omega)
  (try refine wk ?_)
  refine Zak (X:=Nat×Mat) (fun x=>x.1≤N∧x.2=mixK k x.1 Q) (fun x=>[(15,I x.1),(14,I N),(4,I k),(10,I k),(9,I N),(3,.own 900 N)]) (fun x=>[(900,.row 118 1 (matD x.2))]) (fun x=>N - x.1) (0,Q) ⟨Hh _,(ZvV k Q).symm⟩ ?_;rintro⟨i,A⟩ ⟨hi,hA⟩;dsimp only at hi hA ⊢;have hAq:Sq N A:=by rw[hA];exact ZCd hQ hkN
  have hAl:=hAq.len;by_cases hiN:i < N
  ·have hiQ:i < Q.length:=by omega
   have hsu:=ZvW (k:=k) hiQ;have hAi:A[i]=Q[i]:=by subst hA;exact ZCc hiQ (by omega)
   have hAk:A[k]=rowM Q k:=by subst hA;exact ZzA (by omega) (by omega)
   have hri:=hQ.row _ (He hiQ);have hl64:Q[i].length≤64:=by omega
   have hs1:=Zdf hl64;have hs2:=Zdf (l:=rowM Q k) (by omega);have hh:=Zkt (s:=setN Q[i]) (v:=k) hs1;rw[ZjF hl64,←hAi] at hh;rw[←hA] at hsu;rw[←hAi] at hsu hs1;rw[←hAk] at hs2
   (try refine wk ?_)
   refine Zab [] (hA:=hh) (hr:=?_);cases hb:has A[i] k with
   | true =>
    have hro:rowK (rowM Q k) k A[i]=orL A[i] A[k]:=(by rw[rowK,hb,Gc,hAk]);rw[hro] at hsu;have e:(matD A).set i (.raw (.int .u64 (orU (setN A[i]:Nat) (setN A[k]:Nat))))=matD (mixK k (i+1) Q):=by
     rw[hsu,matD,matD,GN];congr 1;show _=uD (setN (orL A[i] A[k]):Nat);rw[ZDC (by rw[hAi,hAk,hri,hpl])];rfl
    (try refine wk ?_)
    exact Zad (i+1,mixK k (i+1) Q) (a:=⟨by omega,rfl⟩) (b:=by dsimp only;omega)
   | false =>
    have hro:rowK (rowM Q k) k A[i]=A[i]:=(by rw[rowK,hb];rfl);rw[hro,List.set_getElem_self] at hsu
    (try refine wk ?_)
    exact Zad (i+1,A) (a:=⟨by omega,hsu.symm⟩) (b:=by dsimp only;omega)
  ·rw[Zzz (by omega),←hnx] at hA;subst hA
   (try refine wk ?_)
   exact Zad (k+1)
 ·have hkN':k=N:=by omega
  have e:matD Q=matD (closeK N M):=by rw[←hQe,hkN']
  rw[←e]
  (try refine wk ?_)
  exact fin
end Go.Proofs.YtbpmepgnjanhnaaGreat
namespace Go.Proofs
open Go.Shelf
def Tryz.delRen:Go.Shelf.Ren:=⟨fun|23=>168|n=>n,fun|0=>0|3=>3|4=>4|22=>25|n=>n,fun|n=>n⟩
theorem Tryz.delLay:Go.Proofs.Lays2.n23 Tryz.prog Tryz.delRen:={
 mixed:=by kernel_rfl
 f23:=Tryz.func168.trans (congrArg some (by kernel_rfl))
 t0:=Tryz.underlying0
 a0:=Tryz.isAgg0
 z0:=Tryz.sizeOf0
 v0:=Tryz.zeroValue0
 t3:=Tryz.underlying3
 a3:=Tryz.isAgg3
 z3:=Tryz.sizeOf3
 v3:=Tryz.zeroValue3
 t4:=Tryz.underlying4
 a4:=Tryz.isAgg4
 z4:=Tryz.sizeOf4
 v4:=Tryz.zeroValue4
 t22:=Tryz.underlying25
 a22:=Tryz.isAgg25
 z22:=Tryz.sizeOf25
 v22:=Tryz.zeroValue25
 i3:=by kernel_rfl }
end Go.Proofs
namespace Go.Proofs.YtbpmepgnjanhnaaGreat
open Go.RowKit Go.Sort
theorem Zl2:∀ (xs:List Int),ZoG (xs.map iD)=some (xs.map fun x=>Value.int .i64 x)
 | []=>rfl
 | x::xs=>by simp[ZoG,iD,Zl2 xs]
theorem Zo0 {M:Bars} {w:World}:∀ (xs:List Int),D.Reps M w (xs.map iD) (xs.map fun x=>Value.int .i64 x)
 | []=>by simp[D.Reps]
 | x::xs=>by
  simp only[Hm,D.Reps];exact⟨[_],_,rfl,by simp[iD,D.Rep,Value.oneCell'],Zo0 xs⟩
theorem Znl {E:Env} {n k b:Nat} (hb:Ai E [(1000,.dead n)] k b):False:=by
 unfold Ai at hb;simp only[Ah] at hb;cases hk:Nat.beq 1000 k <;> rw[hk] at hb <;> cases hb
theorem Zur {xs:List Int} {i:Nat} (hi:i < xs.length) (hl:xs.length≤100000000:=by exact Vm) :
  Af Tryz.prog 168 [.own 1000 xs.length,I i,I ((i:Int)+1)] [(1000,.row 3 1 (xs.map iD))] (.d (ints false (xs.take i++xs.drop (i+1)))) [(1000,.dead xs.length)]:=by
 refine⟨⟨_,Tryz.func168,rfl,rfl⟩,fun E w us o H hr hk ho hs=>?_⟩;simp only[V.Reps,V.Rep,D.RepV,D.Rep,Hz,HA] at hr;obtain⟨u,_,rfl,⟨m,v1,v2,v3,v4⟩,_,_,rfl,⟨rfl,_⟩,_,_,rfl,⟨rfl,_⟩,rfl⟩:=hr;have hk1:Ah [(1000,Ob.row 3 1 (xs.map iD))] 1000=some (.row 3 1 (xs.map iD)):=rfl;have e1:m=xs.length:=Za9 v1 (.inl ⟨_,_,_,hk1,by simp⟩);have hu:=v4 e1.symm;subst hu;have hrow:=H.obs 1000 _ hk1;simp only[ObRep] at hrow;obtain⟨_,⟨a,_,hn⟩|⟨g,off,cap,cur,hv,h0,hg,hlc,hcm,hcs,hreps⟩⟩:=hrow
 ·have:xs=[]:=by simpa using hn
  subst this;simp at hi
 rw[Hi] at hv hlc;have hcells:=Zlw hreps (Zl2 xs);simp only[Hi,Nat.mul_one] at hcells;have hH:Go.Sort.Holds encI w g off xs.toArray:=fun j hj=>by
  have hj':j < xs.length:=by simpa using hj
  constructor
  ·simp only[World.cell?,hg];have h1:((cur.toList.drop off).take xs.length)[j]? = (xs.map fun x=>Value.int .i64 x)[j]? := by rw[hcells]
   rw[GC,Hb hj',Gy] at h1;simp only[JN] at h1;rw[h1];simp[hj']
  ·simp only[World.frozen?,hg];simp
 have hc:=Go.Proofs.Any.slices_Delete_int Tryz.delLay g off cap i (i+1) xs w hH hlc (by unfold maxLen at hcm;omega) (by omega) (by omega);have hlive:Live E [(1000,Ob.row 3 1 (xs.map iD))] g:=⟨1000,by unfold Ai;rw[hk1,hv];simp[obOf];omega⟩
 rw[hv];refine hc.mono ?_;rintro e w' ⟨rfl,q,rfl⟩;have hH2:=holds_putRow encI (Sort.ahead w q) g off xs.toArray (xs.take i++xs.drop (i+1)++List.replicate (i+1 - i) 0).toArray (Go.Sort.holds_ahead encI w q g off _ hH) (by simp;omega);have hsz:g < w.heap.size:=(Array.getElem?_eq_some_iff.1 hg).1;have hll:(xs.take i++xs.drop (i+1)).length=xs.length - 1:=by simp;omega
 refine⟨E,_,rfl,⟨?_,?_,?_⟩,?_,by simp[V.keys],⟨rfl,rfl,rfl,?_,?_,Nat.le_add_right _ _⟩,?_,?_⟩
 ·intro k ob hk;simp only[Ah] at hk;split at hk
  ·cases hk;trivial
  ·cases hk
 ·intro k k' b h1;exact (Znl h1).elim
 ·intro k ob hk j hj;simp only[Ah] at hk;split at hk
  ·cases hk;simp[Ob.keys] at hj
  ·cases hk
 ·simp only[V.Rep,D.RepV,D.Rep];refine⟨_,cap,(xs.take i++xs.drop (i+1)).map fun x=>Value.int .i64 x,?_,?_,hcm,?_,Zo0 _,fun _=>⟨g,off,rfl,?_,by simpa[putRow,mapBlock,Sort.ahead] using hsz,fun j hj=>?_⟩⟩
  ·rw[Hi,hll,show xs.length - (i+1 - i)=xs.length - 1 by omega]
  ·rw[Hi,hll];omega
  ·intro x hx;obtain⟨y,_,rfl⟩:=List.mem_map.1 hx;rfl
  ·rintro (⟨k,hk⟩|hob)
   ·exact (Znl hk).elim
   ·exact (ho _ _ hob).2 hlive
  ·have hj':j < (xs.take i++xs.drop (i+1)).length:=by simpa using hj
   have:=(hH2 j (by simp at hj' ⊢;omega)).1;rw[this];have hj2:j < (xs.take i++xs.drop (i+1)++List.replicate (i+1 - i) 0).length:=by simp at hj' ⊢;omega
   rw[getElem!_pos _ _ (by simpa using hj2)];simp only[Gg];rw[Hj hj'];simp only[H9,List.getElem_toArray];rw[Jp hj']
 ·simp[putRow,mapBlock,Sort.ahead]
 ·intro k hk hn;have hne:g≠k:=fun e=>hn (e ▸ hlive)
  simp only[putRow,mapBlock,Sort.ahead,JD];rw[Ha hne]
 ·intro k hk1000 hks;simp only[Ah] at hks;split at hks
  ·rename_i hb;have:=HQ hb;subst this;refine⟨rfl,rfl,fun m hm=>⟨m,.inr (.inr ?_),Hg _,fun _=>rfl⟩,fun sz n hv=>?_⟩
   ·have:m=xs.length:=Za9 hm (.inl ⟨_,_,_,hk1,by simp⟩)
    rw[this];simp[Ah]
   ·rcases hv with ⟨_,_,h1,_⟩|⟨_,_,_,_,h1,_⟩ <;> simp[Ah] at h1
  ·cases hks
 ·intro k b hb;exact (Znl hb).elim
open Go.RowKit
theorem Zo1 (a b:List Int) (is:List Bool):ZaQ (a++b) is=(ZaQ a is && ZaQ b is):=by simp[ZaQ,List.all_append]
theorem ZvX {g:Ac} {N:Nat} (h:g.vars.toNat=N):List.replicate N (Zl1 (.int .u64 0))=matD (Zq1 g):=by
 rw[matD,Zq1,h,List.map_replicate,setD,Zff,Zj4];rfl
theorem ZzB {M:Mat} {u w:Int} {k:Nat} (hk:u=(k:Int)) (h:k < M.length):(matD M).set k (uD (setN (put M[k] w):Nat))=matD (addM u w M):=by
 subst hk;have hr:rowM M k=M[k]:=by simp[rowM,Hf,h]
 rw[addM,hr,matD,matD,GN];rfl
theorem ZCe {null:List Bool} {c:Bool} {rs:List Rule} {i:Nat} {M:Mat} (h:i < rs.length):matM null c (rs.drop i) M=matM null c (rs.drop (i+1)) (ZlL null c rs[i] rs[i].right.length M):=by
 rw[Hw h,matM]
theorem ZzC {null:List Bool} {c:Bool} {rs:List Rule} {i:Nat} {M:Mat} (h:¬ i < rs.length):matM null c (rs.drop i) M=M:=by
 rw[HL (by omega),matM]
theorem ZzD {xs:List Int} {k:Nat} (h:k < xs.length):xs.getD k 0=xs[k]:=by simp[Hf,h]
theorem ZvY {t:Bool} {g:Ac} (hg:g.ok):Af Tryz.prog 87 [.d (Zbr t g)] [] (.own 14 g.vars.toNat) [(14,.row 118 1 (matD (oneM false g)))]:=by
 refine Af.intro (n:=59) Tryz.func87 (hw:=?_);simp only[Zal];have hv:=hg.vars;have hv1:=hg.vars1;have hlen:=hg.Aa;have hnl:=ZcR (t:=false) hg;obtain⟨N,hN⟩:∃ N:Nat,g.vars=(N:Int):=⟨g.vars.toNat,by omega⟩
 have hNt:g.vars.toNat=N:=by omega
 have hsq:=ZoX g;rw[hNt] at hsq hnl ⊢;have e:=ZvX hNt
 (try refine wk ?_)
 refine Zab [] (hA:=Zku (u:=false) hg) (hr:=?_)
 (try refine wk ?_)
 refine Zak (X:=Nat×Mat) (fun x=>x.1≤g.Aa.length∧oneM false g=matM (Za1 false g) false (g.Aa.drop x.1) x.2∧Sq N x.2) (fun x=>[(18,I x.1),(17,I g.Aa.length),(16,.d (ZaS t g.Aa)),(4,.own 14 N),(3,U (setN (Za1 false g))),(1,.ptr 1 0)]) (fun x=>[(14,.row 118 1 (matD x.2)),(1,ZaE t g)]) (fun x=>g.Aa.length - x.1) (0,Zq1 g) ⟨Hh _,rfl,hsq⟩ ?_;clear e;rintro⟨i,A⟩ ⟨h1,h2,h3⟩;dsimp only at h1 h2 h3 ⊢;by_cases hlt:i < g.Aa.length
 ·have hmem:=He hlt;obtain⟨a1,a2,a5⟩:=ZoY hg _ hmem;rw[hNt] at a2 a5;have a3:=hg.right _ hmem;have hp:=ZCe (null:=Za1 false g) (c:=false) (M:=A) hlt;obtain⟨l,hlk⟩:∃ l:Nat,g.Aa[i].left=(l:Int):=⟨g.Aa[i].left.toNat,by omega⟩
  (try refine wk ?_)
  refine Zak (X:=Nat×Mat) (fun x=>x.1≤g.Aa[i].right.length∧x.2=ZlL (Za1 false g) false g.Aa[i] x.1 A) (fun x=>[(25,I x.1),(24,I g.Aa[i].right.length),(23,.d (ints t g.Aa[i].right)),(6,.ptr 6 0),(18,I i),(17,I g.Aa.length),(16,.d (ZaS t g.Aa)),(4,.own 14 N),(3,U (setN (Za1 false g))),(1,.ptr 1 0)]) (fun x=>[(6,ZgV t g.Aa[i]),(14,.row 118 1 (matD x.2)),(1,ZaE t g)]) (fun x=>g.Aa[i].right.length - x.1) (0,A) ⟨Hh _,rfl⟩ ?_;rintro⟨k,C⟩ ⟨k1,k2⟩;dsimp only at k1 k2 ⊢;by_cases hkt:k < g.Aa[i].right.length
  ·obtain⟨hCq,_⟩:=ZgB (null:=Za1 false g) (c:=false) h3 a1 a2 a5 k (by omega);rw[←k2] at hCq;have hCl:=hCq.len;have hlC:l < C.length:=by omega
   have hCr:=hCq.row _ (He hlC);have hgd:=ZzD hkt;have hx:=a5 _ (He hkt);have hrs:ZlL (Za1 false g) false g.Aa[i] (k+1) A=bif ZdQ (Za1 false g) false g.Aa[i].right k then addM g.Aa[i].left g.Aa[i].right[k] C else C:=by rw[ZlL,hgd,←k2]
   have hpk:ZdQ (Za1 false g) false g.Aa[i].right k=(decide (0≤g.Aa[i].right[k]) && ZaQ (g.Aa[i].right.take k++g.Aa[i].right.drop (k+1)) (Za1 false g)):=by
    rw[ZdQ,hgd,GD,Zo1]
   have hdl:=Zur (xs:=g.Aa[i].right) hkt (by omega);have htl:(g.Aa[i].right.take k++g.Aa[i].right.drop (k+1)).length≤100:=by simp;omega
   (try refine wk ?_)
   refine Zab [(5,900)] (hA:=ZcA) (hr:=?_)
   (try refine wk ?_)
   refine Zab [(1000,900)] (hA:=hdl) (hr:=?_);by_cases h0:0≤g.Aa[i].right[k]
   ·have hwh:=Zpt (t:=false) (u:=false) (r:=⟨0,g.Aa[i].right.take k++g.Aa[i].right.drop (k+1)⟩) (is:=Za1 false g) (by omega) (by show (g.Aa[i].right.take k++g.Aa[i].right.drop (k+1)).length≤100000000;omega)
    (try refine wk ?_)
    refine Zab [] (hA:=hwh) (hr:=?_);cases hb:ZaQ (g.Aa[i].right.take k++g.Aa[i].right.drop (k+1)) (Za1 false g) with
    | true =>
     rw[hpk,hb,Hu h0,Bool.and_true,Gc] at hrs;have hw:=ZjE (s:=setN C[l]) (v:=g.Aa[i].right[k]) (Zdf (by omega));rw[ZhH (by omega) h0 (by omega)] at hw;have e:=ZzB (M:=C) (w:=g.Aa[i].right[k]) hlk hlC
     (try refine wk ?_)
     refine Zab [] (hA:=hw) (hr:=?_)
     (try refine wk ?_)
     exact Zad (k+1,addM g.Aa[i].left g.Aa[i].right[k] C) (a:=⟨by omega,hrs.symm⟩) (b:=by dsimp only;omega)
    | false =>
     rw[hpk,hb,G6,cond_false] at hrs
     (try refine wk ?_)
     exact Zad (k+1,C) (a:=⟨by omega,hrs.symm⟩) (b:=by dsimp only;omega)
   ·rw[hpk,HC h0,Gz,cond_false] at hrs
    (try refine wk ?_)
    exact Zad (k+1,C) (a:=⟨by omega,hrs.symm⟩) (b:=by dsimp only;omega)
  ·obtain rfl:k=g.Aa[i].right.length:=by omega
   have hCs:=(ZgB (null:=Za1 false g) (c:=false) h3 a1 a2 a5 _ (Hg _)).1;rw[←k2] at hCs hp
   (try refine wk ?_)
   exact Zad (i+1,C) (a:=⟨by omega,h2.trans hp,hCs⟩) (b:=by dsimp only;omega)
 ·rw[ZzC hlt] at h2;rw[h2]
  (try refine wk ?_)
  exact fin
def ZfT (M:Mat) (n:Nat):List Int:=((List.range n).filter (fun (v:Nat)=>has (rowM M v) v)).map (fun (k:Nat)=>(k:Int))
theorem Zus (M:Mat) (n:Nat):ZfT M (n+1)=ZfT M n++(if has (rowM M n) n=true then [(n:Int)] else []):=by
 unfold ZfT;rw[Gn,GS,Ho];congr 1;by_cases h:has (rowM M n) n=true <;> simp[h]
theorem ZzE (M:Mat) (n:Nat):(ZfT M n).length≤n:=by
 unfold ZfT;rw[Hi];exact Hq (Gd _ _) (by simp)
def cycL (g:Ac):List Int:=if (Zac g).code=0 then ZfT (ledM false g) g.vars.toNat else []
theorem Zq7 {M:Mat} {k:Nat} (h:k < M.length):rowM M k=M[k]:=by simp[rowM,Hf,h]
theorem ZeR {t:Bool} {g:Ac} (hf:g.fit):Af Tryz.prog 51 [.d (Zbr t g)] [] (.tup [.d (ints false (cycL g)),.d (Zbu (Zac g))]) []:=by
 refine Af.intro (n:=33) Tryz.func51 (hw:=?_);simp only[Zal];have hl:=hf.Aa;have hr:=hf.right
 (try refine wk ?_)
 refine Zab [] (hA:=ZaT) (hr:=?_);by_cases h0:(Zac g).code=0
 ·have hg:=Zbd h0;have hz:=Zfd h0;have hv:=hg.vars;have hsq:=ZsE (c:=false) hg;have hlq:=Zhn (c:=false) hg;have hlql:=hlq.len;have hol:=hsq.len;obtain⟨N,hN⟩:∃ N:Nat,g.vars.toNat=N:=⟨_,rfl⟩
  have hal:=ZvY (t:=t) hg;have hcl:=Zuq (t:=false) hsq (by omega);rw[show closeK g.vars.toNat (oneM false g)=ledM false g from rfl] at hcl;rw[cycL,Hb h0,hz];rw[hN] at hal hcl hlql hol ⊢
  (try refine wk ?_)
  refine Zab [(14,902)] (hA:=hal) (hr:=?_)
  (try refine wk ?_)
  refine ZaW [] (hA:=hcl) (hr:=?_)
  (try refine wk ?_)
  refine ZbB 5 901 3 1 rfl rfl rfl ?_;refine Zak (X:=Nat) (fun k=>k≤N) (fun k=>[(18,I k),(17,I N),(16,.own 900 N),(5,.own 901 (ZfT (ledM false g) k).length),(3,.ptr 3 0)]) (fun k=>[(901,.row 3 1 ((ZfT (ledM false g) k).map iD)),(900,.row 118 1 (matD (ledM false g))),(3,.box 31 [.d (iD 0),.d (iD 0)])]) (fun k=>N - k) 0 (Hh _) ?_;intro k hk;have hsl:=ZzE (ledM false g) k;by_cases hkN:k < N
  ·have hkL:k < (ledM false g).length:=by omega
   have hr64:(ledM false g)[k].length≤64:=by have:=hlq.row _ (He hkL);omega
   have e:=Zus (ledM false g) k;have hh:=Zkt (s:=setN (ledM false g)[k]) (v:=k) (Zdf hr64);rw[ZjF hr64,←Zq7 hkL] at hh;rw[←Zq7 hkL] at hr64;have hrow:=Zq7 hkL;cases hb:has (rowM (ledM false g) k) k with
   | true =>
    rw[hb,Hb rfl] at e;rw[hb,hrow] at hh
    (try refine wk ?_)
    refine Zab [] (hA:=hh) (hr:=?_)
    (try refine wk ?_)
    exact Zad (k+1)
   | false =>
    rw[hb,Ha (by decide),Ht] at e;rw[hb,hrow] at hh
    (try refine wk ?_)
    refine Zab [] (hA:=hh) (hr:=?_)
    (try refine wk ?_)
    exact Zad (k+1)
  ·obtain rfl:k=N:=by omega
   refine Zaz 901 rfl ?_
   (try refine wk ?_)
   exact fin
 ·rw[cycL,Ha h0]
  (try refine wk ?_)
  exact fin
theorem listB_mem {is:List Bool} {x:Int}:x∈Zba is↔has is x=true:=by
 unfold Zba;rw[Gv];constructor
 ·rintro⟨k,hk,rfl⟩;rw[List.mem_filter] at hk;rw[ZbH];exact hk.2
 ·intro h;obtain⟨h0,h1⟩:=Zfe h;obtain⟨k,rfl⟩:∃ k:Nat,x=(k:Int):=⟨x.toNat,by omega⟩
  rw[ZbH] at h;exact⟨k,List.mem_filter.2 ⟨List.mem_range.2 (by omega),h⟩,rfl⟩
def more (g:Ac) (r:Rule):Ac:=⟨g.vars,g.terms,g.start,g.Aa++[r]⟩
section
variable {g:Ac} {r:Rule} (hg:g.ok) (hh:(more g r).ok)
include hh
include hg
end
end Go.Proofs.YtbpmepgnjanhnaaGreat
