import Derived.Shelf.Spec.SlicesGrow
import Derived.Test.YtbpmepgnjanhnaaGreatQPlugA
set_option linter.unusedVariables false
set_option linter.unusedSimpArgs false
set_option linter.unusedSectionVars false
namespace Go.Proofs
open Go.Shelf
def Tryz.growRen:Go.Shelf.Ren:=⟨fun|4=>220|n=>n,fun|0=>0|3=>3|4=>4|9=>9|20=>20|22=>25|25=>3|n=>n,fun|n=>n⟩
theorem Tryz.growLay:Go.Proofs.Lays8.n4 Tryz.prog Tryz.growRen:={
 mixed:=by kernel_rfl
 f4:=⟨"slices.Grow[[]int,int]",by decide,Tryz.func220.trans (congrArg some (by kernel_rfl))⟩
 t0:=Tryz.underlying0
 a0:=Tryz.isAgg0
 z0:=Tryz.sizeOf0
 v0:=Tryz.zeroValue0
 t3:=Tryz.underlying3
 a3:=Tryz.isAgg3
 z3:=Tryz.sizeOf3
 v3:=Tryz.zeroValue3
 t4:=Tryz.underlying4
 a4:=Tryz.isAgg4
 z4:=Tryz.sizeOf4
 v4:=Tryz.zeroValue4
 t9:=Tryz.underlying9
 a9:=Tryz.isAgg9
 z9:=Tryz.sizeOf9
 v9:=Tryz.zeroValue9
 t20:=Tryz.underlying20
 a20:=Tryz.isAgg20
 z20:=Tryz.sizeOf20
 v20:=Tryz.zeroValue20
 t22:=Tryz.underlying25
 a22:=Tryz.isAgg25
 z22:=Tryz.sizeOf25
 v22:=Tryz.zeroValue25 }
end Go.Proofs
set_option maxHeartbeats 8000000
set_option maxRecDepth 100000
namespace Go.Proofs.YtbpmepgnjanhnaaGreat
open Go.RowKit Go.Lib
theorem Zrx {E:Env} {k b:Nat} (hb:Ai E [(10,.row 3 1 [])] k b):k=10∧obOf (E.row 10)=some b:=by
 unfold Ai at hb;simp only[Ah] at hb;cases hk:Nat.beq 10 k <;> rw[hk] at hb
 ·cases hb
 ·have:=HQ hk;subst this;exact⟨rfl,hb⟩
theorem Zw8 {n:Nat} (hn:n≤100000000:=by exact Vm):Af Tryz.prog 220 [.d (.raw (.slice none 0 0)),I n] [] (.own 10 0) [(10,.row 3 1 [])]:=by
 refine⟨⟨_,Tryz.func220,rfl,rfl⟩,fun E w us o H hr hk ho hs=>?_⟩;simp only[V.Reps,V.Rep,D.RepV,D.Rep,Hz,HA] at hr;obtain⟨u,_,rfl,⟨rfl,_⟩,_,_,rfl,⟨rfl,_⟩,rfl⟩:=hr;have key:∀ (v:Value) (w':World),Ext (Live E []) w w'→(∀ b,obOf v=some b→w.heap.size≤b∧b < w'.heap.size)→(∀ M,RowAt M w' 3 1 v []) →
   ∃ E' u,Ending.returned v=.returned u∧HRep E' [(10,.row 3 1 [])] o w'∧V.Rep E' [(10,.row 3 1 [])] (bars E' [(10,.row 3 1 [])] o) w' (.own 10 0) u∧(∀ k∈(V.own 10 0).keys,(Ah [(10,Ob.row 3 1 [])] k).isSome=true)∧Ext (Live E []) w w'∧Hist E [] E' [(10,.row 3 1 [])]∧(∀ k b,Ai E' [(10,.row 3 1 [])] k b→Live E [] b∨w.heap.size≤b):=by
  intro v w' hE hb hrow;refine⟨{ E with row:=fun k=>if k=10 then v else E.row k },v,rfl,⟨?_,?_,?_⟩,?_,?_,hE,?_,?_⟩
  ·intro k ob hk;simp only[Ah] at hk;split at hk
   ·rename_i hb2;have:=HQ hb2;subst this;cases hk;simp only[ObRep,if_true];exact hrow _
   ·cases hk
  ·intro k k' b h1 h2;rw[(Zrx h1).1,(Zrx h2).1]
  ·intro k ob hk j hj;simp only[Ah] at hk;split at hk
   ·cases hk;simp[Ob.keys] at hj
   ·cases hk
  ·simp only[V.Rep];refine⟨0,.inl ⟨_,_,_,rfl,rfl⟩,Hg _,?_,fun _=>by simp⟩;obtain⟨a,cap,e,_⟩:=(hrow (bars E [] o)).shape;rw[e];rfl
  ·intro k hk;simp only[V.keys,Gw] at hk;subst hk;rfl
  ·intro k hk hks;simp only[Ah] at hks;cases hb2:Nat.beq 10 k with
   | true=>have:=HQ hb2;omega
   | false=>rw[hb2] at hks;cases hks
  ·intro k b h1;obtain⟨_,h2⟩:=Zrx h1;simp only[if_true] at h2;exact .inr (hb b h2).1
 by_cases h0:n=0
 ·subst h0;refine (Go.Proofs.Any8.slices_Grow_room Tryz.growLay none 0 0 0 w (Hg _) (by decide) (by decide) (Hg _)).mono ?_;rintro e w' ⟨rfl,rfl⟩;exact key _ _ (Ext.refl _ _) (fun b hb=>by simp[obOf] at hb) (fun M=>⟨fun x hx=>(by cases hx),.inl ⟨none,rfl,rfl⟩⟩)
 ·obtain⟨i0,_,g1,_,g2,g3,_,g4,_⟩:=ZaH (TY.at (t:=3) rfl);refine (Go.Proofs.Any8.slices_Grow_grow Tryz.growLay i0 (.int .i64 0) g1 g4 (by rw[g2];decide) none 0 0 n [] w (Hg _) (by omega) (by rw[g3];show (0+n) * 8≤_;omega) (by omega) (by simp) (fun _=>rfl) (fun a ha=>by cases ha)).mono ?_;rintro e w' ⟨rfl,rfl⟩;have hG:=grownCap_ge w (0+n) 0 3;have hG2:=grownCap_le_maxLen w (0+n) 0 3 (by unfold maxLen;omega);change _≤grownCap w (0+n) 0 (Tryz.growRen.t 25) at hG;change grownCap w (0+n) 0 (Tryz.growRen.t 25)≤_ at hG2;generalize grownCap w (0+n) 0 (Tryz.growRen.t 25)=G at *;refine key _ _ ?_ ?_ ?_
  ·refine⟨rfl,rfl,rfl,?_,fun k hk _=>?_,by first|exact Hg _|exact Nat.le_add_right _ _|exact Nat.le_succ _⟩
   ·exact Nat.le_of_lt (Nat.lt_of_lt_of_eq (Gk _) (Array.size_push _).symm)
   ·exact (Array.getElem?_push_lt hk).trans (JW hk).symm
  ·intro b hb;simp only[obOf] at hb;rw[Ha (by omega)] at hb;cases hb;exact⟨Hg _,Nat.lt_of_lt_of_eq (Gk _) (Array.size_push _).symm⟩
  ·intro M;refine⟨fun x hx=>(by cases hx),.inr ⟨w.heap.size,0,G,_,rfl,by omega,Array.getElem?_push_size,Hh _,hG2,?_,by simp[D.Reps]⟩⟩;have z1:∀ k:Nat,(Builtin.zeroCells (Value.int .i64 0).cells k).size=k:=fun k=>by simp[Builtin.zeroCells,Value.cells]
   simp only[Array.size_append,z1];show 0+(0+n - 0)+(G - (0+n))=0+G * 1;omega
theorem ZuU {t u1 u2:Bool} {a b:List Int} (ha:a.length≤100000) (hb:b.length≤100000):Af Tryz.prog 197 [.d (.sl t 1 [ints u1 a,ints u2 b])] [] (.own 910 (a++b).length) [(910,.row 3 1 ((a++b).map iD))]:=by
 refine Af.intro (n:=36) Tryz.func197 (hw:=?_);simp only[Zal];refine VA ?_;refine Zak (X:=Nat) (fun i=>i≤2) (fun i=>[(11,I i),(10,I ((2:Nat):Int)),(9,.d (.sl t 1 [ints u1 a,ints u2 b])),(3,I ((if i=0 then 0 else if i=1 then a.length else a.length+b.length:Nat):Int)),(0,.d (.sl t 1 [ints u1 a,ints u2 b]))]) (fun _=>[]) (fun i=>2 - i) 0 (by decide) ?_;intro i hi;obtain rfl|rfl|rfl:i=0∨i=1∨i=2:=by omega
 ·simp only[if_true];refine VA ?_;exact Zad 1
 ·simp only[Ha (show ¬ (1:Nat)=0 by decide),if_true];refine VA ?_;exact Zad 2 (b:=by decide)
 ·simp only[Ha (show ¬ (2:Nat)=0 by decide),Ha (show ¬ (2:Nat)=1 by decide)];refine VA ?_;refine Zab [(10,910)] (hA:=Zw8) (hr:=?_);refine VA ?_;refine Zak (X:=Nat) (fun i=>i≤2) (fun i=>[(27,I i),(26,I ((2:Nat):Int)),(25,.d (.sl t 1 [ints u1 a,ints u2 b])),(6,.own 910 (if i=0 then [] else if i=1 then a else a++b).length)]) (fun i=>[(910,.row 3 1 ((if i=0 then [] else if i=1 then a else a++b).map iD))]) (fun i=>2 - i) 0 (by decide) ?_;intro i hi;obtain rfl|rfl|rfl:i=0∨i=1∨i=2:=by omega
  ·simp only[if_true,HF,HB];refine VA ?_;exact Zad 1
  ·simp only[Ha (show ¬ (1:Nat)=0 by decide),if_true];have e1:a.map iD++b.map iD=(a++b).map iD:=by rw[Ho]
   refine VA ?_;rw[e1];exact Zad 2 (b:=by decide)
  ·simp only[Ha (show ¬ (2:Nat)=0 by decide),Ha (show ¬ (2:Nat)=1 by decide)];refine VA ?_;exact finx
open Go.RowKit
abbrev Zmo (n:Nat) (b:Bool):Ob:=.box 185 [.own 1001 n,B b]
abbrev Zpy (all:List (List Ae)) (b:Bool):Hp:=[(1000,Zmo all.length b),(1001,.row 186 1 (all.map (Zat false)))]
theorem Zpz {x:Ae} {A out:List Ae} {k:Nat} (h:k < A.length):ZbE x (A.drop k) out=if 10 < (mixW x A[k]).right.length∨160 < (out++[mixW x A[k]]).length then none else ZbE x (A.drop (k+1)) (out++[mixW x A[k]]):=by
 rw[Hw h,ZbE]
theorem Zry {x:Ae} {A out:List Ae} {k:Nat} (h:¬ k < A.length):ZbE x (A.drop k) out=some out:=by
 rw[HL (by omega),ZbE]
theorem Zrz {A:List Ae} {u:Int} {l out:List Ae} {i:Nat} (h:i < l.length):ZbJ A u (l.drop i) out=if hdI l[i].right≠u then ZbJ A u (l.drop (i+1)) (out++[l[i]]) else
   match ZbE l[i] A out with
   | none=>none
   | some out'=>ZbJ A u (l.drop (i+1)) out':=by
 rw[Hw h,ZbJ];rfl
theorem ZBU {r:List Int} (h:0 < r.length):hdI r=r[0]:=by
 cases r with
 | nil=>simp at h
 | cons a r=>rfl
theorem ZuV {A:List Ae} {u:Int} {l out:List Ae} {i:Nat} (h:¬ i < l.length):ZbJ A u (l.drop i) out=if 160 < out.length then none else some out:=by
 rw[HL (by omega),ZbJ]
theorem Zw9 {g:Ac} (hg:g.ok) {all:List (List Ae)} {l:List Ae} {u N B:Nat} (hu:u < all.length) (h64:all.length≤64) (hA:∀ y∈all.getD u [],TOk g 60 10 N true y) (hA160:(all.getD u []).length≤160) (hl:∀ w∈l,TOk g B 10 N true w) (hl160:l.length≤160) (hB:B≤3900) :
  Af Tryz.prog 130 [.ptr 1000 0,.d (Zat false l),I u] (Zpy all false) (.d (Zat false ((ZbJ (all.getD u []) u l []).getD []))) (Zpy all (ZbJ (all.getD u []) u l []).isNone):=by
 refine Af.intro (n:=81) Tryz.func130 (hw:=?_);simp only[Zal];have hml:(all.map (Zat false)).length=all.length:=Hi _;have eA:all.getD u []=all[u]:=by rw[Hf,Hj hu];rfl
 rw[eA] at hA hA160 ⊢;generalize hres:ZbJ all[u] u l []=res at *;refine VA ?_;refine ZbB 7 907 188 2 rfl rfl rfl ?_;refine Zak (X:=Nat×List Ae) (fun y=>y.1≤l.length∧y.2.length≤160+y.1∧res=ZbJ (all[u]) u (l.drop y.1) y.2) (fun y=>[(15,I y.1),(14,I l.length),(13,.d (Zat false l)),(7,.own 907 y.2.length),(0,.ptr 1000 0),(0+1+1,I u)]) (fun y=>[(907,.row 188 2 (y.2.map (Zbq false))),(1000,Zmo all.length false),(1001,.row 186 1 (all.map (Zat false)))]) (fun y=>l.length - y.1) (0,[]) ⟨Hh _,Hh _,hres.symm⟩ ?_;rintro⟨i,out⟩ ⟨h1,h2,h3⟩;dsimp only at h1 h2 h3 ⊢;by_cases hlt:i < l.length
 ·have hx:=hl _ (He hlt);have hne:=hx.ne rfl;have h0:0 < l[i].right.length:=List.length_pos_iff.2 hne;have hhd:=ZBU h0;rw[Zrz hlt,hhd] at h3;have e1:out.map (Zbq false)++[D.agg [ints false l[i].right,Zah false l[i].l]]=(out++[l[i]]).map (Zbq false):=by rw[Ho];rfl
  by_cases hh:l[i].right[0]=(u:Int)
  ·rw[Ha (fun q=>q hh)] at h3;have hu0:hdI l[i].right=(u:Int):=by rw[hhd,hh]
   have hin:∃ rI,ZbE l[i] (all[u]) out=rI:=⟨_,rfl⟩
   obtain⟨rI,hrI⟩:=hin;rw[hrI] at h3;have hxr:=hx.rl;have etl:List.drop 1 (List.take (l[i].right.map iD).length (l[i].right.map iD))=l[i].right.tail.map iD:=by
    rw[HO,←List.map_drop,List.drop_one]
   refine VA ?_;refine Zak (X:=Nat×List Ae) (fun y=>y.1≤all[u].length∧y.2.length≤160+i∧rI=ZbE l[i] (all[u].drop y.1) y.2) (fun y=>[(37,I y.1),(36,I all[u].length),(35,.d (Zat false all[u])),(9,.ptr 9 0),(15,I i),(14,I l.length),(13,.d (Zat false l)),(7,.own 907 y.2.length),(0,.ptr 1000 0),(0+1+1,I u)]) (fun y=>[(9,ZAI false l[i]),(907,.row 188 2 (y.2.map (Zbq false))),(1000,Zmo all.length false),(1001,.row 186 1 (all.map (Zat false)))]) (fun y=>all[u].length - y.1) (0,out) ⟨Hh _,by dsimp only;omega,hrI.symm⟩ ?_;rintro⟨k,L⟩ ⟨k1,k2,k3⟩;dsimp only at k1 k2 k3 ⊢;by_cases hkl:k < all[u].length
   ·have hy:=hA _ (He hkl);have hmix:=Zum hx hy hu0 (by omega);have hcc:=ZuU (t:=false) (u1:=false) (u2:=false) (a:=all[u][k].right) (b:=l[i].right.tail) (by have:=hy.rl;omega) (by rw[List.length_tail];omega);have hki:=ZkQ (t:=false) (xs:=all[u][k].right) (by have:=hy.rl;omega);have hpl:=ZxF (t:=false) (u:=false) hg hx hy (by omega) (by omega) (by omega) hu0 (by omega) (hmix.small _ _ hmix.sz (by have:=hmix.rl;omega));have hyr:=hy.rl;rw[Zpz hkl] at k3;have e2:L.map (Zbq false)++[D.agg [D.sl false 1 ((all[u][k].right++l[i].right.tail).map iD),Zah false (mixW l[i] all[u][k]).l]]=(L++[mixW l[i] all[u][k]]).map (Zbq false):=(by rw[Ho (f:=Zbq false)];rfl);have e3:(mixW l[i] all[u][k]).right=all[u][k].right++l[i].right.tail:=rfl;refine VA ?_;rw[etl];refine Zab [(910,912)] (hA:=hcc) (hr:=?_);refine VA ?_;refine Zab [] (hA:=hki) (hr:=?_);refine VA ?_;refine Zab [] (hA:=hpl) (hr:=?_);by_cases q1:10 < all[u][k].right.length+l[i].right.tail.length
    ·rw[Hb (.inl (by rw[e3,Hk];exact q1))] at k3;subst k3;subst h3;refine VA ?_;refine VB ?_;refine VA ?_;exact fin
    ·by_cases q2:160 < L.length+1
     ·rw[Hb (.inr (by rw[Hk,HS];exact q2))] at k3;subst k3;subst h3;refine VA ?_;exact fin
     ·rw[Ha (fun q=>by
       rw[e3,Hk,Hk,HS] at q;omega)] at k3
      refine VA ?_;rw[e2];exact Zad (k+1,L++[mixW l[i] all[u][k]]) (a:=⟨by omega,by simp;omega,k3⟩) (b:=by dsimp only;omega)
   ·rw[Zry hkl] at k3;subst k3;refine VA ?_;exact Zad (i+1,L) (a:=⟨by omega,by dsimp only;omega,h3⟩) (b:=by dsimp only;omega)
  ·rw[Hb hh] at h3;refine VA ?_;rw[e1];exact Zad (i+1,out++[l[i]]) (a:=⟨by omega,by simp;omega,h3⟩) (b:=by dsimp only;omega)
 ·rw[ZuV hlt] at h3;by_cases hm:160 < out.length
  ·rw[Hb hm] at h3;subst h3;refine VA ?_;exact fin
  ·rw[Ha hm] at h3;subst h3;refine Zaz 907 rfl ?_;refine VA ?_;exact fin
theorem Zxa {v:Int} {l:List Ae} {i:Nat} (h:i < l.length):ownW v (l.take (i+1))=ownW v (l.take i)++(if hdI l[i].right=v then [ZbC l[i]] else []):=by
 rw[HD h];unfold ownW;rw[GS,Ho];by_cases e:hdI l[i].right=v
 ·rw[Hb e,Gr (by simpa using e)];rfl
 ·rw[Ha e,GJ (by simpa using e)];rfl
theorem ZrA {v:Int} {l:List Ae} {i:Nat} (h:i < l.length):Zcv v (l.take (i+1))=Zcv v (l.take i)++(if hdI l[i].right=v then [] else [l[i]]):=by
 rw[HD h];unfold Zcv;rw[GS];by_cases e:hdI l[i].right=v
 ·rw[Hb e,GJ (by simpa using e)];rfl
 ·rw[Ha e,Gr (by simpa using e)];rfl
theorem Zmp {u:Int} {S:List Ae} {i:Nat} (h:i < S.length):(S.take (i+1)).flatMap (ZbU u)=(S.take i).flatMap (ZbU u)++ZbU u S[i]:=by
 rw[HD h,JL];simp
theorem ZfX (u:Int):∀ S:List Ae,(S.flatMap (ZbU u)).length=2 * S.length
 | []=>rfl
 | x::S=>by rw[HP,Hk,ZfX u S];simp[ZbU];omega
def itL (all:List (List Ae)) (l:List Ae) (v:Nat):List Ae:=if (ownW v l).length=0 then l else (Zcv v l).flatMap (ZbU all.length)
def itA (all:List (List Ae)) (l:List Ae) (v:Nat):List (List Ae):=if (ownW v l).length=0 then all else all++[(ownW v l).flatMap (ZbU all.length)]
theorem Zxb (all:List (List Ae)) (l:List Ae) (v:Nat):Zbf all l v=(itA all l v).set v (itL all l v):=by
 unfold Zbf itA itL;split <;> rfl
theorem ZuW {g:Ac} (hg:g.ok) {all:List (List Ae)} {l:List Ae} {v N B:Nat} {b:Bool} (h64:all.length≤64) (hl:∀ w∈l,TOk g B 10 N true w) (hl160:l.length≤160) (hB:B≤4000) :
  Af Tryz.prog 131 [.ptr 1000 0,.d (Zat false l),I v] (Zpy all b) (.d (Zat false (itL all l v))) (Zpy (itA all l v) b):=by
 refine Af.intro (n:=89) Tryz.func131 (hw:=?_);simp only[Zal];have hml:(all.map (Zat false)).length=all.length:=Hi _;have hgo:∀ w∈ownW v l,w.right.length≤1000:=fun w hw=>by
  obtain⟨x,hx,rfl⟩:=List.mem_map.1 hw;have:=(hl x (List.mem_filter.1 hx).1).rl;show x.right.tail.length≤_;rw[List.length_tail];omega
 have hgr:∀ w∈Zcv v l,w.right.length≤1000:=fun w hw=>by
  have:=(hl w (List.mem_filter.1 hw).1).rl;omega
 have hol:(ownW v l).length≤160:=by
  unfold ownW;rw[Hi];exact Hq (Gd _ _) hl160
 have hrl:(Zcv v l).length≤160:=Hq (Gd _ _) hl160;refine VA ?_;refine ZbB 7 907 188 2 rfl rfl rfl ?_;refine ZbB 8 908 188 2 rfl rfl rfl ?_;refine Zak (X:=Nat) (fun i=>i≤l.length) (fun i=>[(20,I i),(19,I l.length),(18,.d (Zat false l)),(7,.own 907 (ownW v (l.take i)).length),(8,.own 908 (Zcv v (l.take i)).length),(9,.d (.raw (.slice none 0 0))),(0,.ptr 1000 0),(0+1,.d (Zat false l)),(0+1+1,I v)]) (fun i=>[(907,.row 188 2 ((ownW v (l.take i)).map (Zbq false))),(908,.row 188 2 ((Zcv v (l.take i)).map (Zbq false))),(1000,Zmo all.length b),(1001,.row 186 1 (all.map (Zat false)))]) (fun i=>l.length - i) 0 (Hh _) ?_;intro i hi;by_cases hlt:i < l.length
 ·have hx:=hl _ (He hlt);have hne:=hx.ne rfl;have h0:0 < l[i].right.length:=List.length_pos_iff.2 hne;have hhd:=ZBU h0;have s1:=Zxa (v:=(v:Int)) hlt;have s2:=ZrA (v:=(v:Int)) hlt;rw[hhd] at s1 s2;have b1:(ownW (v:Int) (l.take i)).length≤160:=by
   unfold ownW;rw[Hi];refine Hq (Gd _ _) ?_;rw[Hs];omega
  have b2:(Zcv (v:Int) (l.take i)).length≤160:=by
   refine Hq (Gd _ _) ?_;rw[Hs];omega
  by_cases hh:l[i].right[0]=(v:Int)
  ·rw[Hb hh] at s1 s2;rw[Ht] at s2;have hgp:=Zu7 (t:=false) hg hx hB (by omega) (by rw[hhd,hh];omega);have etl:List.drop 1 (List.take (l[i].right.map iD).length (l[i].right.map iD))=l[i].right.tail.map iD:=by
    rw[HO,←List.map_drop,List.drop_one]
   have e1:(ownW (v:Int) (l.take i)).map (Zbq false)++[D.agg [D.sl false 1 (l[i].right.tail.map iD),Zah false (ZbC l[i]).l]]=(ownW (v:Int) (l.take (i+1))).map (Zbq false):=by rw[s1,Ho (f:=Zbq false)];rfl
   have e3:(ownW (v:Int) (l.take (i+1))).length=(ownW (v:Int) (l.take i)).length+1:=by rw[s1];simp
   rw[←s2];generalize ownW (v:Int) (l.take i)=O1 at *;refine VA ?_;refine Zab [] (hA:=hgp) (hr:=?_);rw[etl];refine VA ?_;rw[e1];exact Zad (i+1)
  ·rw[Ha hh] at s1 s2;rw[Ht] at s1;have e1:(Zcv (v:Int) (l.take i)).map (Zbq false)++[D.agg [ints false l[i].right,Zah false l[i].l]]=(Zcv (v:Int) (l.take (i+1))).map (Zbq false):=by rw[s2,Ho (f:=Zbq false)];rfl
   rw[←s1];refine VA ?_;rw[e1];exact Zad (i+1)
 ·obtain rfl:i=l.length:=by omega
  rw[HO];unfold itL itA;generalize ownW (v:Int) l=OW at *;generalize Zcv (v:Int) l=RW at *;by_cases h0:OW.length=0
  ·rw[Hb h0,Hb h0];refine VA ?_;exact fin
  ·rw[Ha h0,Ha h0];refine Zaz 907 rfl ?_;refine ZyX 7 (v:=.d (Zat false OW)) (Co.froz rfl (by simp)) rfl ?_;refine Zaz 908 rfl ?_;refine ZyX 8 (v:=.d (Zat false RW)) (Co.froz rfl (by simp)) rfl ?_;refine VA ?_;refine ZbB 9 909 188 2 rfl rfl rfl ?_;refine Zak (X:=Nat) (fun i=>i≤RW.length) (fun i=>[(56,I i),(55,I RW.length),(54,.d (Zat false RW)),(12,I all.length),(9,.own 909 ((RW.take i).flatMap (ZbU all.length)).length),(7,.d (Zat false OW)),(0,.ptr 1000 0)]) (fun i=>[(909,.row 188 2 (((RW.take i).flatMap (ZbU all.length)).map (Zbq false))),(1000,Zmo all.length b),(1001,.row 186 1 (all.map (Zat false)))]) (fun i=>RW.length - i) 0 (Hh _) ?_;intro i hi;by_cases hlt:i < RW.length
   ·have hth:=Zth (x:=RW[i]) (v:=all.length) (hgr _ (He hlt)) (by omega);have hs:=Zmp (u:=(all.length:Int)) hlt;have hln:=ZfX (all.length:Int) (RW.take i);rw[Hs] at hln;have e1:((RW.take i).flatMap (ZbU all.length)).map (Zbq false)++(ZbU (all.length:Int) RW[i]).map (Zbq false)=((RW.take (i+1)).flatMap (ZbU all.length)).map (Zbq false):=(by rw[hs,Ho]);generalize (RW.take i).flatMap (ZbU all.length)=F1 at *;have hl2:(ZbU (all.length:Int) RW[i]).length=2:=rfl;refine VA ?_;refine Zab [(22,922)] (hA:=hth) (hr:=?_);refine VA ?_;rw[e1];exact Zad (i+1)
   ·obtain rfl:i=RW.length:=(by omega);rw[HO];generalize RW.flatMap (ZbU all.length)=RR at *;refine VA ?_;refine ZbB 15 915 188 2 rfl rfl rfl ?_;refine Zak (X:=Nat) (fun i=>i≤OW.length) (fun i=>[(68,I i),(67,I OW.length),(66,.d (Zat false OW)),(12,I all.length),(9,.own 909 RR.length),(15,.own 915 ((OW.take i).flatMap (ZbU all.length)).length),(0,.ptr 1000 0)]) (fun i=>[(915,.row 188 2 (((OW.take i).flatMap (ZbU all.length)).map (Zbq false))),(909,.row 188 2 (RR.map (Zbq false))),(1000,Zmo all.length b),(1001,.row 186 1 (all.map (Zat false)))]) (fun i=>OW.length - i) 0 (Hh _) ?_;intro i hi;by_cases hlt:i < OW.length
    ·have hth:=Zth (x:=OW[i]) (v:=all.length) (hgo _ (He hlt)) (by omega);have hs:=Zmp (u:=(all.length:Int)) hlt;have hln:=ZfX (all.length:Int) (OW.take i);rw[Hs] at hln;have e1:((OW.take i).flatMap (ZbU all.length)).map (Zbq false)++(ZbU (all.length:Int) OW[i]).map (Zbq false)=((OW.take (i+1)).flatMap (ZbU all.length)).map (Zbq false):=(by rw[hs,Ho]);generalize (OW.take i).flatMap (ZbU all.length)=F1 at *;have hl2:(ZbU (all.length:Int) OW[i]).length=2:=rfl;refine VA ?_;refine Zab [(22,922)] (hA:=hth) (hr:=?_);refine VA ?_;rw[e1];exact Zad (i+1)
    ·obtain rfl:i=OW.length:=(by omega);rw[HO];generalize OW.flatMap (ZbU all.length)=OO at *;have e2:all.map (Zat false)++[D.sl false 2 (OO.map (Zbq false))]=(all++[OO]).map (Zat false):=(by rw[Ho];rfl);have e3:(all++[OO]).length=all.length+1:=(by simp);refine Zaz 909 rfl ?_;refine VA ?_;rw[e2,Hi];exact fin
theorem Zxc {all:List (List Ae)} {i j:Nat} (hi:i < all.length) (hj:j < all[i].length) (h:10 < all[i][j].right.length∨60 < Aj all[i][j].l):Zjx all=false:=by
 cases hc:Zjx all with
 | false=>rfl
 | true =>
  have:=(fitsT_iff.1 hc).1 _ (He hi) _ (He hj);omega
theorem ZAf {all:List (List Ae)} {i:Nat} (h:i < all.length):((all.take (i+1)).map List.length).sum=((all.take i).map List.length).sum+all[i].length:=by
 rw[HD h,Ho,List.sum_append];simp
theorem Zxd {all:List (List Ae)} {C:Nat} (h:∀ l∈all,l.length≤C):(all.map List.length).sum≤C * all.length:=by
 induction all with
 | nil=>simp
 | cons l all ih =>
  have h1:=h l (by simp);have h2:=ih fun k hk=>h k (by simp[hk])
  rw[Hm,List.sum_cons,Hl,Jj];omega
theorem Zxe {all:List (List Ae)} {b:Bool} (h65:all.length≤100) (hl:∀ l∈all,l.length≤1000) (hr:∀ l∈all,∀ w∈l,w.right.length≤1000∧Aj w.l≤100000) :
  Af Tryz.prog 132 [.ptr 1000 0] (Zpy all b) (B (!b && Zjx all)) (Zpy all b):=by
 refine Af.intro (n:=56) Tryz.func132 (hw:=?_);simp only[Zal];have hml:(all.map (Zat false)).length=all.length:=Hi _;refine VA ?_;refine Zak (X:=Nat) (fun i=>i≤all.length∧∀ l∈all.take i,∀ w∈l,w.right.length≤10∧Aj w.l≤60) (fun i=>[(13,I i),(12,I all.length),(11,.own 1001 all.length),(3,I (((all.take i).map List.length).sum:Nat)),(0,.ptr 1000 0)]) (fun _=>Zpy all b) (fun i=>all.length - i) 0 ⟨Hh _,fun l hl=>by simp at hl⟩ ?_;rintro i ⟨hi,ho⟩;have hsm:=Zxd (all:=all.take i) (C:=1000) fun l h=>hl l (Gf h)
 rw[Hs] at hsm;by_cases hlt:i < all.length
 ·have hs:=ZAf hlt;have hil:=hl _ (He hlt);have hir:=hr _ (He hlt);have hno:=fun j (hj:j < all[i].length) h=>Zxc hlt hj h
  have hta:∀ w∈all[i],w.right.length≤10∧Aj w.l≤60→True:=fun _ _ _=>trivial
  have hnext:(∀ w∈all[i],w.right.length≤10∧Aj w.l≤60)→∀ l∈all.take (i+1),∀ w∈l,w.right.length≤10∧Aj w.l≤60:=fun h l hl=>by
   rw[HD hlt] at hl;rcases List.mem_append.1 hl with hl|hl
   ·exact ho l hl
   ·rw[List.mem_singleton.1 hl];exact h
  have hel:(all.map (Zat false))[i]? = some (Zat false all[i]):=by rw[Gg,Hj hlt];rfl
  generalize hS:((all.take i).map List.length).sum=S at *;generalize hS2:((all.take (i+1)).map List.length).sum=S2 at *;refine VA ?_;refine Zak (X:=Nat) (fun j=>j≤all[i].length∧∀ w∈all[i].take j,w.right.length≤10∧Aj w.l≤60) (fun j=>[(23,I j),(22,I all[i].length),(21,.d (Zat false all[i])),(13,I i),(12,I all.length),(11,.own 1001 all.length),(3,I ((S+all[i].length:Nat):Int)),(0,.ptr 1000 0)]) (fun _=>Zpy all b) (fun j=>all[i].length - j) 0 ⟨Hh _,fun w hw=>by simp at hw⟩ ?_;rintro j ⟨hj,hw⟩;by_cases hjl:j < all[i].length
  ·have hr1:=hir _ (He hjl);have hpt:=Zu6 _ (t:=false) (l:=all[i][j].l) (Gk _) (by omega);by_cases q1:10 < all[i][j].right.length
   ·rw[hno j hjl (.inl q1)];refine VA ?_;refine VB ?_;refine VA ?_;rw[G6];exact fin
   ·by_cases q2:60 < Aj all[i][j].l
    ·rw[hno j hjl (.inr q2)];refine VA ?_;refine Zab [] (hA:=hpt) (hr:=?_);refine VA ?_;rw[G6];exact fin
    ·refine VA ?_;refine Zab [] (hA:=hpt) (hr:=?_);refine VA ?_;exact Zad (j+1) (a:=⟨by omega,fun w hw'=>by
      rw[HD hjl] at hw';rcases List.mem_append.1 hw' with hw'|hw'
      ·exact hw w hw'
      ·rw[List.mem_singleton.1 hw'];omega⟩)
  ·obtain rfl:j=all[i].length:=by omega
   rw[HO] at hw;have e1:S+all[i].length=S2:=hs.symm;rw[e1];refine VA ?_;rw[←hS2];exact Zad (i+1) (a:=⟨by omega,hnext hw⟩)
 ·obtain rfl:i=all.length:=by omega
  rw[HO];rw[HO] at ho hsm;have hfit:Zjx all=(decide ((all.map List.length).sum≤160) && decide (all.length≤64)):=by
   rw[GX,fitsT_iff,Hr,HZ,HZ];exact⟨fun q=>q.2,fun q=>⟨ho,q⟩⟩
  rw[hfit];generalize (all.map List.length).sum=S at *;cases b with
  | true =>
   refine VA ?_;refine VB ?_;refine VA ?_;exact fin
  | false =>
   by_cases q1:S≤160
   ·rw[Hu q1];by_cases q2:all.length≤64
    ·rw[Hu q2];refine VA ?_;rw[show decide (((all.length:Nat):Int)≤64)=true from Hu (by omega)];exact fin
    ·rw[HC q2];refine VA ?_;rw[show decide (((all.length:Nat):Int)≤64)=false from HC (by omega)];exact fin
   ·rw[HC q1];refine VA ?_;refine VB ?_;refine VA ?_;exact fin
end Go.Proofs.YtbpmepgnjanhnaaGreat
