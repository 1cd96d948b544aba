import Derived.Shelf.Spec.SlicesGrow
import Derived.Test.YtbpmepgnjanhnaaGreatQTurnR
set_option linter.unusedVariables false
set_option linter.unusedSimpArgs false
set_option linter.unusedSectionVars false
namespace Go.Proofs
open Go.Shelf
def Tryz.growRen:Go.Shelf.Ren:=⟨fun|4=>220|n=>n,fun|0=>0|3=>3|4=>4|9=>9|20=>20|22=>25|25=>3|n=>n,fun|n=>n⟩
theorem Tryz.growLay:Go.Proofs.Lays8.n4 Tryz.prog Tryz.growRen:={
 mixed:=by kernel_rfl
 f4:=⟨"slices.Grow[[]int,int]",by decide,Tryz.func220.trans (congrArg some (by kernel_rfl))⟩
 t0:=Tryz.underlying0
 a0:=Tryz.isAgg0
 z0:=Tryz.sizeOf0
 v0:=Tryz.zeroValue0
 t3:=Tryz.underlying3
 a3:=Tryz.isAgg3
 z3:=Tryz.sizeOf3
 v3:=Tryz.zeroValue3
 t4:=Tryz.underlying4
 a4:=Tryz.isAgg4
 z4:=Tryz.sizeOf4
 v4:=Tryz.zeroValue4
 t9:=Tryz.underlying9
 a9:=Tryz.isAgg9
 z9:=Tryz.sizeOf9
 v9:=Tryz.zeroValue9
 t20:=Tryz.underlying20
 a20:=Tryz.isAgg20
 z20:=Tryz.sizeOf20
 v20:=Tryz.zeroValue20
 t22:=Tryz.underlying25
 a22:=Tryz.isAgg25
 z22:=Tryz.sizeOf25
 v22:=Tryz.zeroValue25 }
end Go.Proofs
set_option maxHeartbeats 8000000
set_option maxRecDepth 100000
namespace Go.Proofs.YtbpmepgnjanhnaaGreat
open Go.RowKit Go.Lib
theorem Zri {E:Env} {k b:Nat} (hb:Ai E [(10,.row 3 1 [])] k b):k=10∧obOf (E.row 10)=some b:=by
 unfold Ai at hb;simp only[Ah] at hb;cases hk:Nat.beq 10 k <;> rw[hk] at hb
 ·cases hb
 ·have:=HR hk;subst this;exact⟨rfl,hb⟩
theorem ZwC {n:Nat} (hn:n≤100000000:=by exact Vm):Af Tryz.prog 220 [.d (.raw (.slice none 0 0)),I n] [] (.own 10 0) [(10,.row 3 1 [])]:=by
 refine⟨⟨_,Tryz.func220,rfl,rfl⟩,fun E w us o H hr hk ho hs=>?_⟩;simp only[V.Reps,V.Rep,D.RepV,D.Rep,Hy,HB] at hr;obtain⟨u,_,rfl,⟨rfl,_⟩,_,_,rfl,⟨rfl,_⟩,rfl⟩:=hr;have key:∀ (v:Value) (w':World),Ext (Live E []) w w'→(∀ b,obOf v=some b→w.heap.size≤b∧b < w'.heap.size)→(∀ M,RowAt M w' 3 1 v []) →
   ∃ E' u,Ending.returned v=.returned u∧HRep E' [(10,.row 3 1 [])] o w'∧V.Rep E' [(10,.row 3 1 [])] (bars E' [(10,.row 3 1 [])] o) w' (.own 10 0) u∧(∀ k∈(V.own 10 0).keys,(Ah [(10,Ob.row 3 1 [])] k).isSome=true)∧Ext (Live E []) w w'∧Hist E [] E' [(10,.row 3 1 [])]∧(∀ k b,Ai E' [(10,.row 3 1 [])] k b→Live E [] b∨w.heap.size≤b):=by
  intro v w' hE hb hrow;refine⟨{ E with row:=fun k=>if k=10 then v else E.row k },v,rfl,⟨?_,?_,?_⟩,?_,?_,hE,?_,?_⟩
  ·intro k ob hk;simp only[Ah] at hk;split at hk
   ·rename_i hb2;have:=HR hb2;subst this;cases hk;simp only[ObRep,if_true];exact hrow _
   ·cases hk
  ·intro k k' b h1 h2;rw[(Zri h1).1,(Zri h2).1]
  ·intro k ob hk j hj;simp only[Ah] at hk;split at hk
   ·cases hk;simp[Ob.keys] at hj
   ·cases hk
  ·simp only[V.Rep];refine⟨0,.inl ⟨_,_,_,rfl,rfl⟩,Hg _,?_,fun _=>by simp⟩;obtain⟨a,cap,e,_⟩:=(hrow (bars E [] o)).shape;rw[e];rfl
  ·intro k hk;simp only[V.keys,Gw] at hk;subst hk;rfl
  ·intro k hk hks;simp only[Ah] at hks;cases hb2:Nat.beq 10 k with
   | true=>have:=HR hb2;omega
   | false=>rw[hb2] at hks;cases hks
  ·intro k b h1;obtain⟨_,h2⟩:=Zri h1;simp only[if_true] at h2;exact .inr (hb b h2).1
 by_cases h0:n=0
 ·subst h0;refine (Go.Proofs.Any8.slices_Grow_room Tryz.growLay none 0 0 0 w (Hg _) (by decide) (by decide) (Hg _)).mono ?_;rintro e w' ⟨rfl,rfl⟩;exact key _ _ (Ext.refl _ _) (fun b hb=>by simp[obOf] at hb) (fun M=>⟨fun x hx=>(by cases hx),.inl ⟨none,rfl,rfl⟩⟩)
 ·obtain⟨i0,_,g1,_,g2,g3,_,g4,_⟩:=ZaG (TY.at (t:=3) rfl);refine (Go.Proofs.Any8.slices_Grow_grow Tryz.growLay i0 (.int .i64 0) g1 g4 (by rw[g2];decide) none 0 0 n [] w (Hg _) (by omega) (by rw[g3];show (0+n) * 8≤_;omega) (by omega) (by simp) (fun _=>rfl) (fun a ha=>by cases ha)).mono ?_;rintro e w' ⟨rfl,rfl⟩;have hG:=grownCap_ge w (0+n) 0 3;have hG2:=grownCap_le_maxLen w (0+n) 0 3 (by unfold maxLen;omega);change _≤grownCap w (0+n) 0 (Tryz.growRen.t 25) at hG;change grownCap w (0+n) 0 (Tryz.growRen.t 25)≤_ at hG2;generalize grownCap w (0+n) 0 (Tryz.growRen.t 25)=G at *;refine key _ _ ?_ ?_ ?_
  ·refine⟨rfl,rfl,rfl,?_,fun k hk _=>?_,by first|exact Hg _|exact Nat.le_add_right _ _|exact Nat.le_succ _⟩
   ·exact Nat.le_of_lt (Nat.lt_of_lt_of_eq (Gj _) (Array.size_push _).symm)
   ·exact (Array.getElem?_push_lt hk).trans (JV hk).symm
  ·intro b hb;simp only[obOf] at hb;rw[Ha (by omega)] at hb;cases hb;exact⟨Hg _,Nat.lt_of_lt_of_eq (Gj _) (Array.size_push _).symm⟩
  ·intro M;refine⟨fun x hx=>(by cases hx),.inr ⟨w.heap.size,0,G,_,rfl,by omega,Array.getElem?_push_size,Hi _,hG2,?_,by simp[D.Reps]⟩⟩;have z1:∀ k:Nat,(Builtin.zeroCells (Value.int .i64 0).cells k).size=k:=fun k=>by simp[Builtin.zeroCells,Value.cells]
   simp only[Array.size_append,z1];show 0+(0+n - 0)+(G - (0+n))=0+G * 1;omega
theorem Zuy {t u1 u2:Bool} {a b:List Int} (ha:a.length≤100000) (hb:b.length≤100000):Af Tryz.prog 197 [.d (.sl t 1 [ints u1 a,ints u2 b])] [] (.own 910 (a++b).length) [(910,.row 3 1 ((a++b).map iD))]:=by
 refine Af.intro (n:=36) Tryz.func197 (hw:=?_);simp only[Zal];refine VA ?_;refine Zak (X:=Nat) (fun i=>i≤2) (fun i=>[(11,I i),(10,I ((2:Nat):Int)),(9,.d (.sl t 1 [ints u1 a,ints u2 b])),(3,I ((if i=0 then 0 else if i=1 then a.length else a.length+b.length:Nat):Int)),(0,.d (.sl t 1 [ints u1 a,ints u2 b]))]) (fun _=>[]) (fun i=>2 - i) 0 (by decide) ?_;intro i hi;obtain rfl|rfl|rfl:i=0∨i=1∨i=2:=by omega
 ·simp only[if_true];refine VA ?_;exact Zad 1
 ·simp only[Ha (show ¬ (1:Nat)=0 by decide),if_true];refine VA ?_;exact Zad 2 (b:=by decide)
 ·simp only[Ha (show ¬ (2:Nat)=0 by decide),Ha (show ¬ (2:Nat)=1 by decide)];refine VA ?_;refine Zab [(10,910)] (hA:=ZwC) (hr:=?_);refine VA ?_;refine Zak (X:=Nat) (fun i=>i≤2) (fun i=>[(27,I i),(26,I ((2:Nat):Int)),(25,.d (.sl t 1 [ints u1 a,ints u2 b])),(6,.own 910 (if i=0 then [] else if i=1 then a else a++b).length)]) (fun i=>[(910,.row 3 1 ((if i=0 then [] else if i=1 then a else a++b).map iD))]) (fun i=>2 - i) 0 (by decide) ?_;intro i hi;obtain rfl|rfl|rfl:i=0∨i=1∨i=2:=by omega
  ·simp only[if_true,HH,HC];refine VA ?_;exact Zad 1
  ·simp only[Ha (show ¬ (1:Nat)=0 by decide),if_true];have e1:a.map iD++b.map iD=(a++b).map iD:=by rw[Ho]
   refine VA ?_;rw[e1];exact Zad 2 (b:=by decide)
  ·simp only[Ha (show ¬ (2:Nat)=0 by decide),Ha (show ¬ (2:Nat)=1 by decide)];refine VA ?_;exact finx
open Go.RowKit
abbrev Zmj (n:Nat) (b:Bool):Ob:=.box 185 [.own 1001 n,B b]
abbrev Zpg (all:List (List Ae)) (b:Bool):Hp:=[(1000,Zmj all.length b),(1001,.row 186 1 (all.map (Zau false)))]
theorem Zph {x:Ae} {A out:List Ae} {k:Nat} (h:k < A.length):ZbE x (A.drop k) out=if 10 < (mixW x A[k]).right.length∨160 < (out++[mixW x A[k]]).length then none else ZbE x (A.drop (k+1)) (out++[mixW x A[k]]):=by
 rw[Hw h,ZbE]
theorem Zrj {x:Ae} {A out:List Ae} {k:Nat} (h:¬ k < A.length):ZbE x (A.drop k) out=some out:=by
 rw[HL (by omega),ZbE]
theorem Zrk {A:List Ae} {u:Int} {l out:List Ae} {i:Nat} (h:i < l.length):ZbJ A u (l.drop i) out=if hdI l[i].right≠u then ZbJ A u (l.drop (i+1)) (out++[l[i]]) else
   match ZbE l[i] A out with
   | none=>none
   | some out'=>ZbJ A u (l.drop (i+1)) out':=by
 rw[Hw h,ZbJ];rfl
theorem ZBx {r:List Int} (h:0 < r.length):hdI r=r[0]:=by
 cases r with
 | nil=>simp at h
 | cons a r=>rfl
theorem Zuz {A:List Ae} {u:Int} {l out:List Ae} {i:Nat} (h:¬ i < l.length):ZbJ A u (l.drop i) out=if 160 < out.length then none else some out:=by
 rw[HL (by omega),ZbJ]
theorem ZwD {g:Ac} (hg:g.ok) {all:List (List Ae)} {l:List Ae} {u N B:Nat} (hu:u < all.length) (h64:all.length≤64) (hA:∀ y∈all.getD u [],TOk g 60 10 N true y) (hA160:(all.getD u []).length≤160) (hl:∀ w∈l,TOk g B 10 N true w) (hl160:l.length≤160) (hB:B≤3900) :
  Af Tryz.prog 130 [.ptr 1000 0,.d (Zau false l),I u] (Zpg all false) (.d (Zau false ((ZbJ (all.getD u []) u l []).getD []))) (Zpg all (ZbJ (all.getD u []) u l []).isNone):=by
 refine Af.intro (n:=81) Tryz.func130 (hw:=?_);simp only[Zal];have hml:(all.map (Zau false)).length=all.length:=Hh _;have eA:all.getD u []=all[u]:=by rw[Hf,Hj hu];rfl
 rw[eA] at hA hA160 ⊢;generalize hres:ZbJ all[u] u l []=res at *;refine VA ?_;refine ZbB 7 907 188 2 rfl rfl rfl ?_;refine Zak (X:=Nat×List Ae) (fun y=>y.1≤l.length∧y.2.length≤160+y.1∧res=ZbJ (all[u]) u (l.drop y.1) y.2) (fun y=>[(15,I y.1),(14,I l.length),(13,.d (Zau false l)),(7,.own 907 y.2.length),(0,.ptr 1000 0),(0+1+1,I u)]) (fun y=>[(907,.row 188 2 (y.2.map (Zbp false))),(1000,Zmj all.length false),(1001,.row 186 1 (all.map (Zau false)))]) (fun y=>l.length - y.1) (0,[]) ⟨Hi _,Hi _,hres.symm⟩ ?_;rintro⟨i,out⟩ ⟨h1,h2,h3⟩;dsimp only at h1 h2 h3 ⊢;by_cases hlt:i < l.length
 ·have hx:=hl _ (He hlt);have hne:=hx.ne rfl;have h0:0 < l[i].right.length:=List.length_pos_iff.2 hne;have hhd:=ZBx h0;rw[Zrk hlt,hhd] at h3;have e1:out.map (Zbp false)++[D.agg [ints false l[i].right,Zah false l[i].l]]=(out++[l[i]]).map (Zbp false):=by rw[Ho];rfl
  by_cases hh:l[i].right[0]=(u:Int)
  ·rw[Ha (fun q=>q hh)] at h3;have hu0:hdI l[i].right=(u:Int):=by rw[hhd,hh]
   have hin:∃ rI,ZbE l[i] (all[u]) out=rI:=⟨_,rfl⟩
   obtain⟨rI,hrI⟩:=hin;rw[hrI] at h3;have hxr:=hx.rl;have etl:List.drop 1 (List.take (l[i].right.map iD).length (l[i].right.map iD))=l[i].right.tail.map iD:=by
    rw[HP,←List.map_drop,List.drop_one]
   refine VA ?_;refine Zak (X:=Nat×List Ae) (fun y=>y.1≤all[u].length∧y.2.length≤160+i∧rI=ZbE l[i] (all[u].drop y.1) y.2) (fun y=>[(37,I y.1),(36,I all[u].length),(35,.d (Zau false all[u])),(9,.ptr 9 0),(15,I i),(14,I l.length),(13,.d (Zau false l)),(7,.own 907 y.2.length),(0,.ptr 1000 0),(0+1+1,I u)]) (fun y=>[(9,ZA7 false l[i]),(907,.row 188 2 (y.2.map (Zbp false))),(1000,Zmj all.length false),(1001,.row 186 1 (all.map (Zau false)))]) (fun y=>all[u].length - y.1) (0,out) ⟨Hi _,by dsimp only;omega,hrI.symm⟩ ?_;rintro⟨k,L⟩ ⟨k1,k2,k3⟩;dsimp only at k1 k2 k3 ⊢;by_cases hkl:k < all[u].length
   ·have hy:=hA _ (He hkl);have hmix:=ZtI hx hy hu0 (by omega);have hcc:=Zuy (t:=false) (u1:=false) (u2:=false) (a:=all[u][k].right) (b:=l[i].right.tail) (by have:=hy.rl;omega) (by rw[List.length_tail];omega);have hki:=Zlk (t:=false) (xs:=all[u][k].right) (by have:=hy.rl;omega);have hpl:=ZyC (t:=false) (u:=false) hg hx hy (by omega) (by omega) (by omega) hu0 (by omega) (hmix.small _ _ hmix.sz (by have:=hmix.rl;omega));have hyr:=hy.rl;rw[Zph hkl] at k3;have e2:L.map (Zbp false)++[D.agg [D.sl false 1 ((all[u][k].right++l[i].right.tail).map iD),Zah false (mixW l[i] all[u][k]).l]]=(L++[mixW l[i] all[u][k]]).map (Zbp false):=(by rw[Ho (f:=Zbp false)];rfl);have e3:(mixW l[i] all[u][k]).right=all[u][k].right++l[i].right.tail:=rfl;refine VA ?_;rw[etl];refine Zab [(910,912)] (hA:=hcc) (hr:=?_);refine VA ?_;refine Zab [] (hA:=hki) (hr:=?_);refine VA ?_;refine Zab [] (hA:=hpl) (hr:=?_);by_cases q1:10 < all[u][k].right.length+l[i].right.tail.length
    ·rw[Hb (.inl (by rw[e3,Hk];exact q1))] at k3;subst k3;subst h3;refine VA ?_;refine VB ?_;refine VA ?_;exact fin
    ·by_cases q2:160 < L.length+1
     ·rw[Hb (.inr (by rw[Hk,HZ];exact q2))] at k3;subst k3;subst h3;refine VA ?_;exact fin
     ·rw[Ha (fun q=>by
       rw[e3,Hk,Hk,HZ] at q;omega)] at k3
      refine VA ?_;rw[e2];exact Zad (k+1,L++[mixW l[i] all[u][k]]) (a:=⟨by omega,by simp;omega,k3⟩) (b:=by dsimp only;omega)
   ·rw[Zrj hkl] at k3;subst k3;refine VA ?_;exact Zad (i+1,L) (a:=⟨by omega,by dsimp only;omega,h3⟩) (b:=by dsimp only;omega)
  ·rw[Hb hh] at h3;refine VA ?_;rw[e1];exact Zad (i+1,out++[l[i]]) (a:=⟨by omega,by simp;omega,h3⟩) (b:=by dsimp only;omega)
 ·rw[Zuz hlt] at h3;by_cases hm:160 < out.length
  ·rw[Hb hm] at h3;subst h3;refine VA ?_;exact fin
  ·rw[Ha hm] at h3;subst h3;refine Zaz 907 rfl ?_;refine VA ?_;exact fin
theorem ZwE {v:Int} {l:List Ae} {i:Nat} (h:i < l.length):ownW v (l.take (i+1))=ownW v (l.take i)++(if hdI l[i].right=v then [ZbA l[i]] else []):=by
 rw[HE h];unfold ownW;rw[GR,Ho];by_cases e:hdI l[i].right=v
 ·rw[Hb e,Gp (by simpa using e)];rfl
 ·rw[Ha e,GH (by simpa using e)];rfl
theorem Zrl {v:Int} {l:List Ae} {i:Nat} (h:i < l.length):Zcu v (l.take (i+1))=Zcu v (l.take i)++(if hdI l[i].right=v then [] else [l[i]]):=by
 rw[HE h];unfold Zcu;rw[GR];by_cases e:hdI l[i].right=v
 ·rw[Hb e,GH (by simpa using e)];rfl
 ·rw[Ha e,Gp (by simpa using e)];rfl
theorem Zmk {u:Int} {S:List Ae} {i:Nat} (h:i < S.length):(S.take (i+1)).flatMap (ZbT u)=(S.take i).flatMap (ZbT u)++ZbT u S[i]:=by
 rw[HE h,JG];simp
theorem ZfW (u:Int):∀ S:List Ae,(S.flatMap (ZbT u)).length=2 * S.length
 | []=>rfl
 | x::S=>by rw[HO,Hk,ZfW u S];simp[ZbT];omega
def itL (all:List (List Ae)) (l:List Ae) (v:Nat):List Ae:=if (ownW v l).length=0 then l else (Zcu v l).flatMap (ZbT all.length)
def itA (all:List (List Ae)) (l:List Ae) (v:Nat):List (List Ae):=if (ownW v l).length=0 then all else all++[(ownW v l).flatMap (ZbT all.length)]
theorem ZwF (all:List (List Ae)) (l:List Ae) (v:Nat):Zbd all l v=(itA all l v).set v (itL all l v):=by
 unfold Zbd itA itL;split <;> rfl
theorem ZuA {g:Ac} (hg:g.ok) {all:List (List Ae)} {l:List Ae} {v N B:Nat} {b:Bool} (h64:all.length≤64) (hl:∀ w∈l,TOk g B 10 N true w) (hl160:l.length≤160) (hB:B≤4000) :
  Af Tryz.prog 131 [.ptr 1000 0,.d (Zau false l),I v] (Zpg all b) (.d (Zau false (itL all l v))) (Zpg (itA all l v) b):=by
 refine Af.intro (n:=89) Tryz.func131 (hw:=?_);simp only[Zal];have hml:(all.map (Zau false)).length=all.length:=Hh _;have hgo:∀ w∈ownW v l,w.right.length≤1000:=fun w hw=>by
  obtain⟨x,hx,rfl⟩:=List.mem_map.1 hw;have:=(hl x (List.mem_filter.1 hx).1).rl;show x.right.tail.length≤_;rw[List.length_tail];omega
 have hgr:∀ w∈Zcu v l,w.right.length≤1000:=fun w hw=>by
  have:=(hl w (List.mem_filter.1 hw).1).rl;omega
 have hol:(ownW v l).length≤160:=by
  unfold ownW;rw[Hh];exact Hq (Gc _ _) hl160
 have hrl:(Zcu v l).length≤160:=Hq (Gc _ _) hl160;refine VA ?_;refine ZbB 7 907 188 2 rfl rfl rfl ?_;refine ZbB 8 908 188 2 rfl rfl rfl ?_;refine Zak (X:=Nat) (fun i=>i≤l.length) (fun i=>[(20,I i),(19,I l.length),(18,.d (Zau false l)),(7,.own 907 (ownW v (l.take i)).length),(8,.own 908 (Zcu v (l.take i)).length),(9,.d (.raw (.slice none 0 0))),(0,.ptr 1000 0),(0+1,.d (Zau false l)),(0+1+1,I v)]) (fun i=>[(907,.row 188 2 ((ownW v (l.take i)).map (Zbp false))),(908,.row 188 2 ((Zcu v (l.take i)).map (Zbp false))),(1000,Zmj all.length b),(1001,.row 186 1 (all.map (Zau false)))]) (fun i=>l.length - i) 0 (Hi _) ?_;intro i hi;by_cases hlt:i < l.length
 ·have hx:=hl _ (He hlt);have hne:=hx.ne rfl;have h0:0 < l[i].right.length:=List.length_pos_iff.2 hne;have hhd:=ZBx h0;have s1:=ZwE (v:=(v:Int)) hlt;have s2:=Zrl (v:=(v:Int)) hlt;rw[hhd] at s1 s2;have b1:(ownW (v:Int) (l.take i)).length≤160:=by
   unfold ownW;rw[Hh];refine Hq (Gc _ _) ?_;rw[Hs];omega
  have b2:(Zcu (v:Int) (l.take i)).length≤160:=by
   refine Hq (Gc _ _) ?_;rw[Hs];omega
  by_cases hh:l[i].right[0]=(v:Int)
  ·rw[Hb hh] at s1 s2;rw[Hu] at s2;have hgp:=Zvj (t:=false) hg hx hB (by omega) (by rw[hhd,hh];omega);have etl:List.drop 1 (List.take (l[i].right.map iD).length (l[i].right.map iD))=l[i].right.tail.map iD:=by
    rw[HP,←List.map_drop,List.drop_one]
   have e1:(ownW (v:Int) (l.take i)).map (Zbp false)++[D.agg [D.sl false 1 (l[i].right.tail.map iD),Zah false (ZbA l[i]).l]]=(ownW (v:Int) (l.take (i+1))).map (Zbp false):=by rw[s1,Ho (f:=Zbp false)];rfl
   have e3:(ownW (v:Int) (l.take (i+1))).length=(ownW (v:Int) (l.take i)).length+1:=by rw[s1];simp
   rw[←s2];generalize ownW (v:Int) (l.take i)=O1 at *;refine VA ?_;refine Zab [] (hA:=hgp) (hr:=?_);rw[etl];refine VA ?_;rw[e1];exact Zad (i+1)
  ·rw[Ha hh] at s1 s2;rw[Hu] at s1;have e1:(Zcu (v:Int) (l.take i)).map (Zbp false)++[D.agg [ints false l[i].right,Zah false l[i].l]]=(Zcu (v:Int) (l.take (i+1))).map (Zbp false):=by rw[s2,Ho (f:=Zbp false)];rfl
   rw[←s1];refine VA ?_;rw[e1];exact Zad (i+1)
 ·obtain rfl:i=l.length:=by omega
  rw[HP];unfold itL itA;generalize ownW (v:Int) l=OW at *;generalize Zcu (v:Int) l=RW at *;by_cases h0:OW.length=0
  ·rw[Hb h0,Hb h0];refine VA ?_;exact fin
  ·rw[Ha h0,Ha h0];refine Zaz 907 rfl ?_;refine Zy2 7 (v:=.d (Zau false OW)) (Co.froz rfl (by simp)) rfl ?_;refine Zaz 908 rfl ?_;refine Zy2 8 (v:=.d (Zau false RW)) (Co.froz rfl (by simp)) rfl ?_;refine VA ?_;refine ZbB 9 909 188 2 rfl rfl rfl ?_;refine Zak (X:=Nat) (fun i=>i≤RW.length) (fun i=>[(56,I i),(55,I RW.length),(54,.d (Zau false RW)),(12,I all.length),(9,.own 909 ((RW.take i).flatMap (ZbT all.length)).length),(7,.d (Zau false OW)),(0,.ptr 1000 0)]) (fun i=>[(909,.row 188 2 (((RW.take i).flatMap (ZbT all.length)).map (Zbp false))),(1000,Zmj all.length b),(1001,.row 186 1 (all.map (Zau false)))]) (fun i=>RW.length - i) 0 (Hi _) ?_;intro i hi;by_cases hlt:i < RW.length
   ·have hth:=ZtJ (x:=RW[i]) (v:=all.length) (hgr _ (He hlt)) (by omega);have hs:=Zmk (u:=(all.length:Int)) hlt;have hln:=ZfW (all.length:Int) (RW.take i);rw[Hs] at hln;have e1:((RW.take i).flatMap (ZbT all.length)).map (Zbp false)++(ZbT (all.length:Int) RW[i]).map (Zbp false)=((RW.take (i+1)).flatMap (ZbT all.length)).map (Zbp false):=(by rw[hs,Ho]);generalize (RW.take i).flatMap (ZbT all.length)=F1 at *;have hl2:(ZbT (all.length:Int) RW[i]).length=2:=rfl;refine VA ?_;refine Zab [(22,922)] (hA:=hth) (hr:=?_);refine VA ?_;rw[e1];exact Zad (i+1)
   ·obtain rfl:i=RW.length:=(by omega);rw[HP];generalize RW.flatMap (ZbT all.length)=RR at *;refine VA ?_;refine ZbB 15 915 188 2 rfl rfl rfl ?_;refine Zak (X:=Nat) (fun i=>i≤OW.length) (fun i=>[(68,I i),(67,I OW.length),(66,.d (Zau false OW)),(12,I all.length),(9,.own 909 RR.length),(15,.own 915 ((OW.take i).flatMap (ZbT all.length)).length),(0,.ptr 1000 0)]) (fun i=>[(915,.row 188 2 (((OW.take i).flatMap (ZbT all.length)).map (Zbp false))),(909,.row 188 2 (RR.map (Zbp false))),(1000,Zmj all.length b),(1001,.row 186 1 (all.map (Zau false)))]) (fun i=>OW.length - i) 0 (Hi _) ?_;intro i hi;by_cases hlt:i < OW.length
    ·have hth:=ZtJ (x:=OW[i]) (v:=all.length) (hgo _ (He hlt)) (by omega);have hs:=Zmk (u:=(all.length:Int)) hlt;have hln:=ZfW (all.length:Int) (OW.take i);rw[Hs] at hln;have e1:((OW.take i).flatMap (ZbT all.length)).map (Zbp false)++(ZbT (all.length:Int) OW[i]).map (Zbp false)=((OW.take (i+1)).flatMap (ZbT all.length)).map (Zbp false):=(by rw[hs,Ho]);generalize (OW.take i).flatMap (ZbT all.length)=F1 at *;have hl2:(ZbT (all.length:Int) OW[i]).length=2:=rfl;refine VA ?_;refine Zab [(22,922)] (hA:=hth) (hr:=?_);refine VA ?_;rw[e1];exact Zad (i+1)
    ·obtain rfl:i=OW.length:=(by omega);rw[HP];generalize OW.flatMap (ZbT all.length)=OO at *;have e2:all.map (Zau false)++[D.sl false 2 (OO.map (Zbp false))]=(all++[OO]).map (Zau false):=(by rw[Ho];rfl);have e3:(all++[OO]).length=all.length+1:=(by simp);refine Zaz 909 rfl ?_;refine VA ?_;rw[e2,Hh];exact fin
theorem ZwG {all:List (List Ae)} {i j:Nat} (hi:i < all.length) (hj:j < all[i].length) (h:10 < all[i][j].right.length∨60 < Aj all[i][j].l):Zju all=false:=by
 cases hc:Zju all with
 | false=>rfl
 | true =>
  have:=(fitsT_iff.1 hc).1 _ (He hi) _ (He hj);omega
theorem ZzP {all:List (List Ae)} {i:Nat} (h:i < all.length):((all.take (i+1)).map List.length).sum=((all.take i).map List.length).sum+all[i].length:=by
 rw[HE h,Ho,List.sum_append];simp
theorem ZwH {all:List (List Ae)} {C:Nat} (h:∀ l∈all,l.length≤C):(all.map List.length).sum≤C * all.length:=by
 induction all with
 | nil=>simp
 | cons l all ih =>
  have h1:=h l (by simp);have h2:=ih fun k hk=>h k (by simp[hk])
  rw[Hm,List.sum_cons,Hl,Nat.mul_add];omega
theorem ZwI {all:List (List Ae)} {b:Bool} (h65:all.length≤100) (hl:∀ l∈all,l.length≤1000) (hr:∀ l∈all,∀ w∈l,w.right.length≤1000∧Aj w.l≤100000) :
  Af Tryz.prog 132 [.ptr 1000 0] (Zpg all b) (B (!b && Zju all)) (Zpg all b):=by
 refine Af.intro (n:=56) Tryz.func132 (hw:=?_);simp only[Zal];have hml:(all.map (Zau false)).length=all.length:=Hh _;refine VA ?_;refine Zak (X:=Nat) (fun i=>i≤all.length∧∀ l∈all.take i,∀ w∈l,w.right.length≤10∧Aj w.l≤60) (fun i=>[(13,I i),(12,I all.length),(11,.own 1001 all.length),(3,I (((all.take i).map List.length).sum:Nat)),(0,.ptr 1000 0)]) (fun _=>Zpg all b) (fun i=>all.length - i) 0 ⟨Hi _,fun l hl=>by simp at hl⟩ ?_;rintro i ⟨hi,ho⟩;have hsm:=ZwH (all:=all.take i) (C:=1000) fun l h=>hl l (Gm h)
 rw[Hs] at hsm;by_cases hlt:i < all.length
 ·have hs:=ZzP hlt;have hil:=hl _ (He hlt);have hir:=hr _ (He hlt);have hno:=fun j (hj:j < all[i].length) h=>ZwG hlt hj h
  have hta:∀ w∈all[i],w.right.length≤10∧Aj w.l≤60→True:=fun _ _ _=>trivial
  have hnext:(∀ w∈all[i],w.right.length≤10∧Aj w.l≤60)→∀ l∈all.take (i+1),∀ w∈l,w.right.length≤10∧Aj w.l≤60:=fun h l hl=>by
   rw[HE hlt] at hl;rcases List.mem_append.1 hl with hl|hl
   ·exact ho l hl
   ·rw[List.mem_singleton.1 hl];exact h
  have hel:(all.map (Zau false))[i]? = some (Zau false all[i]):=by rw[Gf,Hj hlt];rfl
  generalize hS:((all.take i).map List.length).sum=S at *;generalize hS2:((all.take (i+1)).map List.length).sum=S2 at *;refine VA ?_;refine Zak (X:=Nat) (fun j=>j≤all[i].length∧∀ w∈all[i].take j,w.right.length≤10∧Aj w.l≤60) (fun j=>[(23,I j),(22,I all[i].length),(21,.d (Zau false all[i])),(13,I i),(12,I all.length),(11,.own 1001 all.length),(3,I ((S+all[i].length:Nat):Int)),(0,.ptr 1000 0)]) (fun _=>Zpg all b) (fun j=>all[i].length - j) 0 ⟨Hi _,fun w hw=>by simp at hw⟩ ?_;rintro j ⟨hj,hw⟩;by_cases hjl:j < all[i].length
  ·have hr1:=hir _ (He hjl);have hpt:=Zvi _ (t:=false) (l:=all[i][j].l) (Gj _) (by omega);by_cases q1:10 < all[i][j].right.length
   ·rw[hno j hjl (.inl q1)];refine VA ?_;refine VB ?_;refine VA ?_;rw[G5];exact fin
   ·by_cases q2:60 < Aj all[i][j].l
    ·rw[hno j hjl (.inr q2)];refine VA ?_;refine Zab [] (hA:=hpt) (hr:=?_);refine VA ?_;rw[G5];exact fin
    ·refine VA ?_;refine Zab [] (hA:=hpt) (hr:=?_);refine VA ?_;exact Zad (j+1) (a:=⟨by omega,fun w hw'=>by
      rw[HE hjl] at hw';rcases List.mem_append.1 hw' with hw'|hw'
      ·exact hw w hw'
      ·rw[List.mem_singleton.1 hw'];omega⟩)
  ·obtain rfl:j=all[i].length:=by omega
   rw[HP] at hw;have e1:S+all[i].length=S2:=hs.symm;rw[e1];refine VA ?_;rw[←hS2];exact Zad (i+1) (a:=⟨by omega,hnext hw⟩)
 ·obtain rfl:i=all.length:=by omega
  rw[HP];rw[HP] at ho hsm;have hfit:Zju all=(decide ((all.map List.length).sum≤160) && decide (all.length≤64)):=by
   rw[GS,fitsT_iff,Hr,HY,HY];exact⟨fun q=>q.2,fun q=>⟨ho,q⟩⟩
  rw[hfit];generalize (all.map List.length).sum=S at *;cases b with
  | true =>
   refine VA ?_;refine VB ?_;refine VA ?_;exact fin
  | false =>
   by_cases q1:S≤160
   ·rw[Ht q1];by_cases q2:all.length≤64
    ·rw[Ht q2];refine VA ?_;rw[show decide (((all.length:Nat):Int)≤64)=true from Ht (by omega)];exact fin
    ·rw[HA q2];refine VA ?_;rw[show decide (((all.length:Nat):Int)≤64)=false from HA (by omega)];exact fin
   ·rw[HA q1];refine VA ?_;refine VB ?_;refine VA ?_;exact fin
theorem Zrm {a b:List Int} {n:Nat} (h:n≤Zbn a b) (ha:n < a.length):(n < Zbn a b↔∃ hb:n < b.length,b[n]=a[n]):=by
 constructor
 ·intro h1;obtain⟨_,h2,h3⟩:=Zix a b n h1;exact⟨h2,h3.symm⟩
 ·rintro⟨hb,he⟩;rcases Jk n (Zbn a b) with hlt|hge
  ·exact hlt
  ·exfalso;have e:Zbn a b=n:=by omega
   rcases Zkp a b with h1|h1|⟨h1,h2,h3⟩
   ·omega
   ·omega
   ·apply h3;simp only[e];exact he.symm
theorem ZuB {t:Bool} {l:List Ae} (h0:0 < l.length) (hl:l.length≤100000) (hr:∀ w∈l,w.right.length≤100000) :
  Af Tryz.prog 194 [.d (Zau t l)] [] (I (Zdj l[0].right l)) []:=by
 refine Af.intro (n:=36) Tryz.func194 (hw:=?_);simp only[Zal];refine VA ?_;have h0r:=hr _ (He h0);have hcl:=Ziy l[0].right l;refine Zak (X:=Nat) (fun n=>n≤Zdj l[0].right l) (fun n=>[(3,I n),(0,.d (Zau t l))]) (fun _=>[]) (fun n=>l[0].right.length - n) 0 (Hi _) ?_;intro n hn;refine VA ?_;refine Zak (X:=Nat) (fun j=>j≤l.length∧(0 < j→n < l[0].right.length)∧∀ i (hi:i < l.length),i < j→n < Zbn l[0].right l[i].right) (fun j=>[(10,I j),(9,I l.length),(8,.d (Zau t l)),(3,I n),(0,.d (Zau t l))]) (fun _=>[]) (fun j=>l.length - j) 0 ⟨Hi _,fun h=>by omega,fun i _ h=>by omega⟩ ?_;rintro j ⟨hj,hj0,hjn⟩;by_cases hlt:j < l.length
 ·have hrj:=hr _ (He hlt);have hnj:n≤Zbn l[0].right l[j].right:=Hq hn (Zfm (He hlt));have hnj2:=(Zpc l[0].right l[j].right).2;by_cases h1:n < Zbn l[0].right l[j].right
  ·obtain⟨g1,g2,g3⟩:=Zix _ _ _ h1;have g3':decide (l[j].right[n]=l[0].right[n])=true:=Ht g3.symm;refine VA ?_;exact Zad (j+1) (a:=⟨by omega,fun _=>g1,fun i hi hij=>by
    by_cases e:i=j
    ·subst e;exact h1
    ·exact hjn i hi (by omega)⟩)
  ·have hc:Zdj l[0].right l=n:=by
    have:=Zfm (a:=l[0].right) (He hlt);omega
   rw[hc];by_cases h2:n < l[j].right.length
   ·have h3:n < l[0].right.length:=by
     rcases Nat.eq_zero_or_pos j with rfl|hp
     ·exact h2
     ·exact hj0 hp
    have h4:l[j].right[n]≠l[0].right[n]:=(fun he=>h1 ((Zrm hnj h3).2 ⟨h2,he⟩));have h5:(!decide (l[j].right[n]=l[0].right[n]))=true:=(by simp[h4]);refine VA ?_;exact fin
   ·refine VB ?_;exact fin
 ·have hn1:n < l[0].right.length:=hj0 (by omega);have hnext:n+1≤Zdj l[0].right l:=Ziz hn1 (fun x hx=>by
   obtain⟨i,hi,rfl⟩:=List.getElem_of_mem hx;exact hjn i hi (by omega))
  refine VA ?_;exact Zad (n+1)
theorem ZwJ (t:Bool) (n:Nat) (gap:Bool):(ZcU n gap).map (ZaN t)=[.agg [iD 4,iD n,Zah t (gapL gap++ZaE n)]]:=by simp[ZcU,ZaN,Zcr]
theorem Zkt (t:Bool) (G:List Ad) (k:Nat):(G++ZaE (k+1)).map (ZaN t)=(G++ZaE k).map (ZaN t)++[.agg [iD 2,iD k,.sl t 3 []]]:=by
 rw[Ho,ZgW,Ho,HJ]
theorem ZzQ {n:Nat} {gap:Bool} (hn:n≤100000) :
  Af Tryz.prog 195 [I n,B gap] [] (.own 29 1) [(29,.row 102 3 ((ZcU n gap).map (ZaN false)))]:=by
 refine Af.intro (n:=30) Tryz.func195 (hw:=?_);simp only[Zal];have hh:∀ i,(ZaE i).length=i:=fun i=>by simp[ZaE]
 have hg:(gapL gap).length≤1:=by cases gap <;> simp[gapL]
 rw[ZwJ];refine VA ?_;refine ZaC 5 2 900 102 3 rfl rfl rfl rfl ?_;cases gap with
 | false =>
  refine VA ?_;refine Zak (X:=Nat) (fun x=>x≤n) (fun x=>[(17,I x),(16,I n),(5,.ptr 5 0)]) (fun x=>[(5,.box 102 [.d (iD 4),.d (iD n),.own 900 (gapL false++ZaE x).length]),(900,.row 102 3 ((gapL false++ZaE x).map (ZaN false)))]) (fun x=>n - x) 0 (Hi _) ?_;intro i h1;have hhi:=hh i;have hhi':=hh (i+1);by_cases hlt:i < n
  ·have e:=Zkt false (gapL false) i;have e':(gapL false++ZaE (i+1)).length=(gapL false++ZaE i).length+1:=by simp[hh];omega
   have hl:(gapL false++ZaE i).length≤n+1:=by simp[hh];omega
   refine VA ?_;exact Zad (i+1)
  ·obtain rfl:i=n:=by omega
   refine Zaz 900 rfl ?_;refine VA ?_;exact fin
 | true =>
  refine VA ?_;obtain⟨T,hT⟩:∃ T:Nat→List Ad,∀ j,T j=gapL true++ZaE j:=⟨_,fun _=>rfl⟩
  have hTl:∀ j,(T j).length=1+j:=fun j=>by rw[hT,Hk,hh];rfl
  have e0:(T 0).map (ZaN false)=[]++[.agg [iD 3,iD 0,.sl false 3 []]]:=by rw[hT];simp[gapL,ZaE,ZaN,ZeD]
  have hT0:=hTl 0;rw[←hT];refine Zak (X:=Nat) (fun x=>x≤n) (fun x=>[(17,I x),(16,I n),(5,.ptr 5 0)]) (fun x=>[(5,.box 102 [.d (iD 4),.d (iD n),.own 900 (T x).length]),(900,.row 102 3 ((T x).map (ZaN false)))]) (fun x=>n - x) 0 (Hi _) ?_
   (hh:=⟨ZcT rfl (by rw[hT0];rfl),ZcD rfl (DLes.snoc (a:=[]) e0 (.agg (.cons (.refl _) (.cons (.refl _) (.cons (.nil _ _) .nil))))),trivial⟩)
  clear e0 hT0;intro i h1;have hTi:=hTl i;have hTi':=hTl (i+1);by_cases hlt:i < n
  ·have e:(T (i+1)).map (ZaN false)=(T i).map (ZaN false)++[.agg [iD 2,iD i,.sl false 3 []]]:=by rw[hT,hT,Zkt]
   refine VA ?_;exact Zad (i+1)
  ·obtain rfl:i=n:=by omega
   refine Zaz 900 rfl ?_;refine VA ?_;exact fin
theorem ZDw {gap:Bool} {m j:Nat} (h:j < (gapL gap++ZaE m).length):(j < (gapL gap).length∧(gapL gap++ZaE m)[j].op=3)∨((gapL gap).length≤j∧(gapL gap++ZaE m)[j].op=2∧(gapL gap++ZaE m)[j].n=((j - (gapL gap).length:Nat):Int)):=by
 by_cases hj:j < (gapL gap).length
 ·refine .inl ⟨hj,?_⟩;rw[JB hj];cases gap with
  | false=>simp[gapL] at hj
  | true=>simp[gapL] at hj;subst hj;rfl
 ·refine .inr ⟨by omega,?_⟩;rw[JM (by omega)];simp[ZaE,Ad.op,Ad.n]
theorem ZzR {t:Bool} {r:Int} {m n:Nat} {gap:Bool} (hn:n≤100000) (hm:m≤100000) :
  Af Tryz.prog 196 [.d (Zah t [.mk 1 r (gapL gap++ZaE m)]),I n] [] (.own 43 1) [(43,.row 102 3 ((Znx r (m - n)).map (ZaN false)))]:=by
 refine Af.intro (n:=44) Tryz.func196 (hw:=?_);simp only[Zal];have hh:∀ i,(ZaE i).length=i:=fun i=>by simp[ZaE]
 have hg:(gapL gap).length≤1:=by cases gap <;> simp[gapL]
 have hL:(gapL gap++ZaE m).length=(gapL gap).length+m:=by simp[hh]
 have hat:=fun j h=>ZDw (gap:=gap) (m:=m) (j:=j) h
 have hmap:(Znx r (m - n)).map (ZaN false)=[.agg [iD 1,iD r,Zah false (.mk 3 0 []::ZaE (m - n))]]:=by simp[Znx,ZaN,Zcr]
 rw[hmap];refine VA ?_;have hf0:[Ad.mk 1 r (gapL gap++ZaE m)][0]=Ad.mk 1 r (gapL gap++ZaE m):=rfl;rw[hf0];generalize hLL:gapL gap++ZaE m=L at *;generalize hgg:(gapL gap).length=gg at *;obtain⟨T,hT⟩:∃ T:Nat→List Ad,∀ j,T j=Ad.mk 3 0 []::ZaE ((j - gg) - n):=⟨_,fun _=>rfl⟩
 have hTl:∀ j,(T j).length=1+((j - gg) - n):=fun j=>by rw[hT,Hl,hh];omega
 have e0:(T 0).map (ZaN false)=[]++[.agg [iD 3,iD 0,.sl false 3 []]]:=by rw[hT,show 0 - gg - n=0 by omega];simp[ZaE,ZaN,ZeD]
 have e:=e0;have hT0:(T 0).length=1:=by rw[hTl];omega
 refine Zak (X:=Nat) (fun j=>j≤L.length) (fun j=>[(17,I j),(16,I L.length),(15,.d (Zah t L)),(6,.own 13 (T j).length),(5,.ptr 5 0),(1,I n)]) (fun j=>[(13,.row 102 3 ((T j).map (ZaN false))),(5,.box 102 [.d (iD 1),.d (iD r),.d (Zah t L)])]) (fun j=>L.length - j) 0 (Hi _) ?_ (hh:=⟨ZcD rfl (DLes.snoc (a:=[]) e0 (.agg (.cons (.refl _) (.cons (.refl _) (.cons (.nil _ _) .nil))))),.of rfl,trivial⟩);clear e e0 hT0;intro j hj;have hTj:=hTl j;have hTj':=hTl (j+1);by_cases hlt:j < L.length
 ·rcases hat j hlt with ⟨h1,h2⟩|⟨h1,h2,h3⟩
  ·have hTe:T (j+1)=T j:=by rw[hT,hT,show j+1 - gg - n=j - gg - n by omega]
   refine VB ?_;rw[←hTe];exact Zad (j+1)
  ·by_cases h4:(n:Int)≤L[j].n
   ·have e:(T (j+1)).map (ZaN false)=(T j).map (ZaN false)++[.agg [iD 2,iD (L[j].n - n),.sl false 3 []]]:=by
     rw[hT,hT,show j+1 - gg - n=(j - gg - n)+1 by omega,h3,Hm,ZgW,Hm,Hv];rw[show ((j - gg:Nat):Int) - (n:Int)=((j - gg - n:Nat):Int) by omega]
    have hn0:0≤L[j].n:=(by omega);have hn1:L[j].n≤100000:=(by omega);refine VA ?_;exact Zad (j+1)
   ·have hTe:T (j+1)=T j:=(by rw[hT,hT,show j+1 - gg - n=j - gg - n by omega]);refine VA ?_;rw[←hTe];exact Zad (j+1)
 ·obtain rfl:j=L.length:=by omega
  have hTe:T L.length=Ad.mk 3 0 []::ZaE (m - n):=by rw[hT,show L.length - gg - n=m - n by omega]
  rw[←hTe];refine VA ?_;exact fin
theorem Zpi {t:Bool} {xs:List Int} {v:Int} (hl:xs.length≤100000000:=by exact Vm) :
  Af Tryz.prog 116 [.d (ints t xs),I v] [] (I (idxR (fun y=>decide (v=y)) xs 0)) []:=by
 refine Af.intro (n:=19) Tryz.func116 (hw:=?_);simp only[Zal]
 (try refine wk ?_)
 refine Zak (X:=Nat) (fun k=>k≤xs.length∧idxR (fun y=>decide (v=y)) xs 0=idxR (fun y=>decide (v=y)) (xs.drop k) k) (fun k=>[(8,I k),(7,I xs.length),(1,I v),(0,.d (ints t xs))]) (fun _=>[]) (fun k=>xs.length - k) 0 ⟨Hi _,rfl⟩ ?_;rintro k ⟨hk,hp⟩;by_cases hlt:k < xs.length
 ·have hs:=Zpz (p:=fun y=>decide (v=y)) hlt;by_cases hv:v=xs[k]
  ·rw[Ht hv,Gb] at hs;rw[hp,hs]
   (try refine wk ?_)
   exact fin
  ·rw[HA hv,cond_false] at hs
   (try refine wk ?_)
   exact Zad (k+1) (a:=⟨by omega,hp.trans hs⟩)
 ·rw[hp,ZsZ hlt]
  (try refine wk ?_)
  exact fin
theorem Zdy {t:Bool} {xs:List Int} {v:Int} (hl:xs.length≤100000000:=by exact Vm) :
  Af Tryz.prog 115 [.d (ints t xs),I v] [] (B (xs.any (fun y=>decide (v=y)))) []:=by
 refine Af.intro (n:=9) Tryz.func115 (hw:=?_);simp only[Zal]
 (try refine wk ?_)
 refine Zab [] (hA:=Zpi) (hr:=?_)
 (try refine wk ?_)
 rw[←ZnJ (fun y=>decide (v=y)) xs 0];exact fin
abbrev ZsM (g:Ac) (n:Nat):Ob:=.box 177 [.d (iD g.vars),.d (iD g.terms),.d (iD g.start),.d (ZaS false g.Aa),.own 1001 n]
abbrev facH (g:Ac) (all:List (List Ae)):Hp:=[(1000,ZsM g all.length),(1001,.row 178 1 (all.map (Zau false)))]
theorem Zku {at_:List Int}:∀ {l:List Ae} {i k:Nat} (hk:k < l.length),(∀ j,j < k→inL at_ (i+j)=false)→inL at_ (i+k)=true→∃ r,ZaM at_ l i=l[k]::r
 | x::l,i,0,_,_,h=>⟨ZaM at_ l (i+1),by rw[ZaM,Hb (by simpa using h)];rfl⟩
 | x::l,i,k+1,hk,h0,h=>by
  rw[ZaM,Ha (by have:=h0 0 (by omega);simpa using this)];obtain⟨r,hr⟩:=Zku (l:=l) (i:=i+1) (k:=k) (by simpa using hk) (fun j hj=>by have:=h0 (j+1) (by omega);rwa [show i+1+j=i+(j+1) by omega]) (by rwa [show i+1+k=i+(k+1) by omega]);exact⟨r,by simpa using hr⟩
theorem ZuC {l:List Ae} {k:Nat} {g:Ac} {gap:Bool} {n:Nat} (G:GrpK g gap l (Zas l 0) k n) (hne:Zas l 0≠[]):∃ r,ZaM (Zas l 0) l 0=(l[k]'G.hk)::r:=by
 obtain⟨k',h1,h2,h3,h4⟩:=ZgU hne;have hkk:k=k':=by
  have:=G.at0;rw[h2] at this;simp at this;omega
 subst hkk;refine Zku G.hk (fun j hj=>?_) (by rw[HD,G.inn k G.hk];exact G.self);rw[HD];cases hc:inL (Zas l 0) j with
 | false=>rfl
 | true =>
  exfalso;rw[inL,h2,Jj] at hc;obtain⟨y,hy,e⟩:=hc;have e:=H3 e;rcases List.mem_cons.1 hy with rfl|hy
  ·omega
  ·obtain⟨j2,d1,d2,_⟩:=Zhy hy;omega
theorem Zpj:∀ (l:List Ae) (i:Nat),(Zas l i).length≤l.length
 | [],i=>by simp[Zas]
 | x::l,i=>by
  have h1:=Zpj l (i+1);have h2:=Znw x.right l (i+1);rw[Zas];split <;> simp only[Hl] <;> omega
theorem ZfX {at_:List Int}:∀ (l:List Ae) (i:Nat),(ZaM at_ l i).length≤l.length
 | [],i=>by simp[ZaM]
 | x::r,i=>by
  have ih:=ZfX (at_:=at_) r (i+1);rw[ZaM];split <;> simp only[Hl] <;> omega
theorem ZDx {g:Ac} {all:List (List Ae)} {v:Nat} (hv:v < all.length) (h:FInv g all v) (hW:∀ l∈all,l.length≤160) (hne:Zas (all.getD v []) 0=[]) :
  Af Tryz.prog 128 [.ptr 1000 0,I v] (facH g all) (B false) (facH g all):=by
 refine Af.intro (n:=137) Tryz.func128 (hw:=?_);simp only[Zal];have hl64:=h.len;have hm:=He hv;have hgr:=Zqr (t:=false) (l:=all[v]) (by have:=hW _ hm;omega) (fun w hw=>by have:=(h.ok _ hm w hw).len;omega);have e:all.getD v []=all[v]:=by rw[Hf,Hj hv];rfl
 rw[e] at hne;rw[hne] at hgr;refine VA ?_;refine ZaV [] (hA:=hgr) (hr:=?_);refine VA ?_;exact fin
theorem ZCa {g:Ac} {all:List (List Ae)} {v:Nat} (hg:g.ok) (hv:v < all.length) (h:FInv g all v) (hW:∀ l∈all,l.length≤160) (hne:Zas (all.getD v []) 0≠[]) :
  Af Tryz.prog 128 [.ptr 1000 0,I v] (facH g all) (B true) (facH g (oneW g.vars.toNat all v (Zas (all.getD v []) 0))):=by
 refine Af.intro (n:=137) Tryz.func128 (hw:=?_);simp only[Zal];have hl64:=h.len;have hm:=He hv;have hgr:=Zqr (t:=false) (l:=all[v]) (by have:=hW _ hm;omega) (fun w hw=>by have:=(h.ok _ hm w hw).len;omega);have e:all.getD v []=all[v]:=by rw[Hf,Hj hv];rfl
 obtain⟨k,G⟩:=h.grp hne;have hone:oneW g.vars.toNat all v (Zas (all.getD v []) 0)=all.set v (Za3 (Zas (all.getD v []) 0) (Zrf g.vars.toNat all.length v (all.getD v []) (Zas (all.getD v []) 0)) (all.getD v []) 0) ++
  [(ZaM (Zas (all.getD v []) 0) (all.getD v []) 0).map (ZcW (comW (all.getD v []) (Zas (all.getD v []) 0)) (Ab ((ZfQ (all.getD v []) (Zas (all.getD v []) 0)).take (comW (all.getD v []) (Zas (all.getD v []) 0)))).length)]:=rfl
 have hhd:Zrf g.vars.toNat all.length v (all.getD v []) (Zas (all.getD v []) 0)=⟨(ZfQ (all.getD v []) (Zas (all.getD v []) 0)).take (comW (all.getD v []) (Zas (all.getD v []) 0))++[(all.length:Int)],ZcU (Ab ((ZfQ (all.getD v []) (Zas (all.getD v []) 0)).take (comW (all.getD v []) (Zas (all.getD v []) 0)))).length (decide (g.vars.toNat≤v))⟩:=rfl;obtain⟨sr,hsk⟩:=ZuC G hne;have hlW:=hW _ hm;have hok:=h.ok _ hm;rw[hone,hhd];clear hone hhd;rw[←e] at hlW hok hgr;have hel:(all.map (Zau false))[v]? = some (Zau false (all.getD v [])):=by rw[Gf,Hj hv,e];rfl
 generalize all.getD v []=l at *;have hcs:=ZuB (t:=false) (l:=ZaM (Zas l 0) l 0) (by rw[hsk];simp) (by have:=ZfX (at_:=Zas l 0) l 0;omega) (fun w hw=>by
  obtain⟨j,h1,rfl,_⟩:=ZdZ hw;have:=(hok _ (He h1)).len;omega)
 have hgl:=Zpj l 0;generalize Zas l 0=at_ at *;have hfr:=G.first
 have hcom:Zdj ((ZaM at_ l 0)[0]'(by rw[hsk];simp)).right (ZaM at_ l 0)=comW l at_:=by
  show _=Zdj (ZfQ l at_) (ZaM at_ l 0);rw[hfr];simp only[hsk,JD]
 rw[hcom] at hcs;generalize comW l at_=n at *;generalize ZfQ l at_=fr at *;have hkr:=(hok _ (He G.hk)).len;have hnl:=G.nl;rw[←hfr] at hkr hnl;have hat0:=G.at0;have hatl:0 < at_.length:=by
  cases at_ with
  | nil=>exact absurd rfl hne
  | cons _ _=>simp
 have hat0':at_[0]=(k:Int):=by rw[←hat0,Hf,Hj hatl];rfl
 have hkk:=G.hk;refine VA ?_;rw[←e];refine ZaV [] (hA:=hgr) (hr:=?_);refine VA ?_;refine ZbB 7 907 181 2 rfl rfl rfl ?_;refine ZbB 8 908 181 2 rfl rfl rfl ?_;refine Zak (X:=Nat) (fun i=>i≤l.length) (fun i=>[(32,I i),(31,I l.length),(30,.d (Zau false l)),(5,.d (Zau false l)),(6,.d (ints false at_)),(7,.own 907 (ZaM at_ (l.take i) 0).length),(8,.own 908 0),(0,.ptr 1000 0),(1,I v)])
  (fun i=>[(907,.row 181 2 ((ZaM at_ (l.take i) 0).map (Zbp false))),(908,.row 181 2 []),(1000,ZsM g all.length),(1001,.row 178 1 (all.map (Zau false)))]) (fun i=>l.length - i) 0 (Hi _) ?_
 intro i hi;by_cases hlt:i < l.length
 ·have hs:=Zrd (at_:=at_) hlt;have hct:=Zdy (t:=false) (xs:=at_) (v:=(i:Int)) (by omega);rw[show at_.any (fun y=>decide ((i:Int)=y))=inL at_ i from rfl] at hct;have hsl:=ZfX (at_:=at_) (l.take i) 0;simp only[Hs] at hsl;generalize ZaM at_ (l.take i) 0=S at *;generalize inL at_ i=b at *;refine VA ?_;refine ZaV [] (hA:=hct) (hr:=?_);cases b with
  | true =>
   rw[Hb rfl] at hs;have e1:S.map (Zbp false)++[D.agg [ints false l[i].right,Zah false l[i].l]]=(ZaM at_ (l.take (i+1)) 0).map (Zbp false):=by rw[hs];simp[Zbp]
   refine VA ?_;rw[e1];exact Zad (i+1)
  | false =>
   rw[Ha (by decide),Hu] at hs;refine VA ?_;rw[←hs];exact Zad (i+1)
 ·obtain rfl:i=l.length:=by omega
  rw[HP];have hSl:=ZfX (at_:=at_) l 0;have hS0:0 < (ZaM at_ l 0).length:=by rw[hsk];simp
  have hSr:((ZaM at_ l 0)[0]'hS0).right=fr:=by rw[hfr];simp only[hsk,JD]
  have hfk:=Zqq (t:=false) (xs:=fr.take n) (by simp;omega);generalize hSS:ZaM at_ l 0=S at *;refine Zaz 907 rfl ?_;refine Zy2 7 (v:=.d (Zau false S)) (Co.froz rfl (by simp)) rfl ?_;refine VA ?_;refine ZaV [] (hA:=hcs) (hr:=?_);refine VA ?_;rw[hSr];refine ZDk TY (hr:=?_);rw[Gk,←List.map_take];refine ZaV [] (hA:=hfk) (hr:=?_);refine VA ?_;generalize hkk2:(Ab (fr.take n)).length=kk at *;obtain⟨hd,hhd⟩:∃ hd:Ae,hd=⟨fr.take n++[(all.length:Int)],ZcU kk (decide (g.vars.toNat≤v))⟩:=⟨_,rfl⟩
  rw[←hhd];have hkkl:kk≤11:=by
   rw[←hkk2];have:=Zbi (fr.take n);simp only[Hs] at this;omega
  refine Zak (X:=Nat) (fun i=>i≤l.length) (fun i=>[(56,I i),(55,I l.length),(54,.d (Zau false l)),(7,.d (Zau false S)),(6,.d (ints false at_)),(11,I n),(12,I kk),(8,.own 908 (Za3 at_ hd (l.take i) 0).length),(0,.ptr 1000 0),(1,I v)])
   (fun i=>[(908,.row 181 2 ((Za3 at_ hd (l.take i) 0).map (Zbp false))),(1000,ZsM g all.length),(1001,.row 178 1 (all.map (Zau false)))]) (fun i=>l.length - i) 0 (Hi _) ?_
  intro i hi;by_cases hlt:i < l.length
  ·have hs:=Zre (at_:=at_) (hd:=hd) hlt;rw[hat0] at hs;have hct:=Zdy (t:=false) (xs:=at_) (v:=(i:Int)) (by omega);rw[show at_.any (fun y=>decide ((i:Int)=y))=inL at_ i from rfl] at hct;have hsl:=ZfV (at_:=at_) (hd:=hd) (l.take i) 0;simp only[Hs] at hsl;generalize Za3 at_ hd (l.take i) 0=LS at *;by_cases hik:i=k
   ·subst hik;rw[Hb rfl] at hs;have hri:l[i].right=fr:=hfr.symm;have hik2:decide ((i:Int)=at_[0])=true:=Ht hat0'.symm;have hvv:decide (g.vars≤(v:Int))=decide (g.vars.toNat≤v):=decide_eq_decide.2 (by have:=hg.vars1;omega);have hcl:=Zcy (t:=false) (xs:=fr.take n) (by simp;omega);have htl:(fr.take n).length=n:=(by simp;omega);have hnl2:n≤l[i].right.length:=(by rw[hri];exact hnl);refine VA ?_;rw[Gk,←List.map_take];rw[hri];refine ZaV [(5,920)] (hA:=hcl) (hr:=?_);refine VA ?_;rw[hvv];have hhe:=ZzQ (n:=kk) (gap:=decide (g.vars.toNat≤v)) (by omega);refine Zab [(29,921)] (hA:=hhe) (hr:=?_);refine VA ?_;have e1:LS.map (Zbp false)++[D.agg [D.sl false 1 ((fr.take n).map iD++[D.raw (.int .i64 (all.length:Int))]),Zah false (ZcU kk (decide (g.vars.toNat≤v)))]]=(Za3 at_ hd (l.take (i+1)) 0).map (Zbp false):=(by rw[hs,hhd];simp[Zbp,iD]);rw[e1];exact Zad (i+1)
   ·have hik2:decide ((i:Int)=at_[0])=false:=HA (by rw[hat0'];omega);rw[Ha (by omega)] at hs;generalize inL at_ i=b at *;refine VA ?_;refine ZaV [] (hA:=hct) (hr:=?_);cases b with
    | true =>
     rw[Hb rfl,Hu] at hs;refine VA ?_;rw[←hs];exact Zad (i+1)
    | false =>
     rw[Ha (by decide)] at hs;have e1:LS.map (Zbp false)++[D.agg [ints false l[i].right,Zah false l[i].l]]=(Za3 at_ hd (l.take (i+1)) 0).map (Zbp false):=(by rw[hs];simp[Zbp]);refine VA ?_;rw[e1];exact Zad (i+1)
  ·obtain rfl:i=l.length:=by omega
   rw[HP];have hLl:=ZfV (at_:=at_) (hd:=hd) l 0;generalize Za3 at_ hd l 0=LL at *;have hset:(all.map (Zau false)).set v (Zau false LL)=(all.set v LL).map (Zau false):=by rw[Je]
   refine Zaz 908 rfl ?_;refine Zy2 8 (v:=.d (Zau false LL)) (Co.froz rfl (by simp)) rfl ?_;refine VA ?_;have hrest:∀ x∈S,∃ (r:Nat) (m:Nat),x.l=Zb8 r m (Zbx g v)∧m=(Ab x.right).length∧n≤x.right.length∧x.right.length≤11:=fun x hx=>by
    rw[←hSS] at hx;obtain⟨j,j1,rfl,j3⟩:=ZdZ hx;rw[HD] at j3;obtain⟨⟨r,p1,p2,p3⟩,p4⟩:=G.plain j j1 j3;refine⟨r,_,p2,rfl,?_,by omega⟩;have e:=Hz List.length p4;rw[←hfr] at e;simp only[Hs] at e;omega
   refine ZbB 15 915 181 2 rfl rfl rfl ?_;refine Zak (X:=Nat) (fun i=>i≤S.length) (fun i=>[(109,I i),(108,I S.length),(107,.d (Zau false S)),(15,.own 915 ((S.take i).map (ZcW n kk)).length),(11,I n),(12,I kk),(0,.ptr 1000 0)])
    (fun i=>[(915,.row 181 2 (((S.take i).map (ZcW n kk)).map (Zbp false))),(1000,ZsM g all.length),(1001,.row 178 1 ((all.map (Zau false)).set v (Zau false LL)))]) (fun i=>S.length - i) 0 (Hi _) ?_
   intro i hi;have hTl:((S.take i).map (ZcW n kk)).length=i:=by simp;omega
   by_cases hlt:i < S.length
   ·have hsn:(S.take (i+1)).map (ZcW n kk)=(S.take i).map (ZcW n kk)++[ZcW n kk S[i]]:=(by rw[HE hlt,Ho];rfl);obtain⟨r,m,q1,q2,q3,q4⟩:=hrest _ (He hlt);have hml:=Zbi S[i].right;have hcl:=Zcy (t:=false) (xs:=S[i].right.drop n) (by simp;omega);have hta:Af Tryz.prog 196 [.d (Zah false (Zb8 r m (Zbx g v))),I kk] [] (.own 43 1) [(43,.row 102 3 ((Znx r (m - kk)).map (ZaN false)))]:=ZzR (by omega) (by omega);have hrw:ZcW n kk S[i]=⟨S[i].right.drop n,Znx r (m - kk)⟩:=(by rw[ZcW,q1,q2];rfl);have e1:((S.take i).map (ZcW n kk)).map (Zbp false)++[D.agg [ints false (S[i].right.drop n),Zah false (Znx r (m - kk))]]=((S.take (i+1)).map (ZcW n kk)).map (Zbp false):=(by rw[hsn,hrw];simp[Zbp]);have hdl:(S[i].right.drop n).length=S[i].right.length - n:=(by simp);generalize (S.take i).map (ZcW n kk)=RS at *;refine VA ?_;rw[H5 (by simp),←List.map_drop];refine ZaV [(5,920)] (hA:=hcl) (hr:=?_);refine VA ?_;rw[q1];refine ZaV [(43,921)] (hA:=hta) (hr:=?_);refine VA ?_;rw[e1];exact Zad (i+1)
   ·obtain rfl:i=S.length:=(by omega);rw[HP];rw[hset];have hal:(all.set v LL).length=all.length:=(by simp);have e1:(all.set v LL).map (Zau false)++[Zau false (S.map (ZcW n kk))]=(all.set v LL++[S.map (ZcW n kk)]).map (Zau false):=(by simp);have e2:all.length+(0+1)=(all.set v LL++[S.map (ZcW n kk)]).length:=(by simp);generalize S.map (ZcW n kk)=RS at *;refine VA ?_;rw[e1,Hh];exact fin
end Go.Proofs.YtbpmepgnjanhnaaGreat
