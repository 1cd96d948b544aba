import Derived.Test.YtbpmepgnjanhnaaGreatF2
import Derived.Shelf.Spec.SlicesGrow
import Derived.Test.YtbpmepgnjanhnaaGreatQTurnR
set_option linter.unusedVariables false
set_option linter.unusedSimpArgs false
set_option linter.unusedSectionVars false
namespace Go.Proofs
open Go.Shelf
def Tryz.growRen:Go.Shelf.Ren:=⟨fun|4=>220|n=>n,fun|0=>0|3=>3|4=>4|9=>9|20=>20|22=>25|25=>3|n=>n,fun|n=>n⟩
theorem Tryz.growLay:Go.Proofs.Lays8.n4 Tryz.prog Tryz.growRen:={
 mixed:=by kernel_rfl
 f4:=⟨"slices.Grow[[]int,int]",by decide,Tryz.func220.trans (congrArg some (by kernel_rfl))⟩
 t0:=Tryz.underlying0
 a0:=Tryz.isAgg0
 z0:=Tryz.sizeOf0
 v0:=Tryz.zeroValue0
 t3:=Tryz.underlying3
 a3:=Tryz.isAgg3
 z3:=Tryz.sizeOf3
 v3:=Tryz.zeroValue3
 t4:=Tryz.underlying4
 a4:=Tryz.isAgg4
 z4:=Tryz.sizeOf4
 v4:=Tryz.zeroValue4
 t9:=Tryz.underlying9
 a9:=Tryz.isAgg9
 z9:=Tryz.sizeOf9
 v9:=Tryz.zeroValue9
 t20:=Tryz.underlying20
 a20:=Tryz.isAgg20
 z20:=Tryz.sizeOf20
 v20:=Tryz.zeroValue20
 t22:=Tryz.underlying25
 a22:=Tryz.isAgg25
 z22:=Tryz.sizeOf25
 v22:=Tryz.zeroValue25 }
end Go.Proofs
namespace Go.Proofs.YtbpmepgnjanhnaaGreat
open Go.RowKit Go.Lib
set_option maxRecDepth 100000
theorem ZnF {E:Env} {k b:Nat} (hb:blkOf E [(10,.row 3 1 [])] k b):k=10∧obOf (E.row 10)=some b:=by
 unfold blkOf at hb
 simp only[hget] at hb
 cases hk:Nat.beq 10 k <;> rw[hk] at hb
 ·cases hb
 ·have:=Nat.eq_of_beq_eq_true hk
  subst this
  exact⟨rfl,hb⟩
theorem ZrZ {n:Nat} (hn:n≤100000000:=by exact Vm):ACalls Tryz.prog 220 [.d (.raw (.slice none 0 0)),I n] [] (.own 10 0) [(10,.row 3 1 [])]:=by
 refine⟨⟨_,Tryz.func220,rfl,rfl⟩,fun E w us o H hr hk ho hs=>?_⟩
 simp only[V.Reps,V.Rep,D.RepV,D.Rep,List.cons.injEq,and_true] at hr
 obtain⟨u,_,rfl,⟨rfl,_⟩,_,_,rfl,⟨rfl,_⟩,rfl⟩:=hr
 have key:∀ (v:Value) (w':World),Ext (Live E []) w w'→(∀ b,obOf v=some b→w.heap.size≤b∧b < w'.heap.size)→(∀ M,RowAt M w' 3 1 v []) →
   ∃ E' u,Ending.returned v=.returned u∧HRep E' [(10,.row 3 1 [])] o w'∧V.Rep E' [(10,.row 3 1 [])] (bars E' [(10,.row 3 1 [])] o) w' (.own 10 0) u∧(∀ k∈(V.own 10 0).keys,(hget [(10,Ob.row 3 1 [])] k).isSome=true)∧Ext (Live E []) w w'∧Hist E [] E' [(10,.row 3 1 [])]∧(∀ k b,blkOf E' [(10,.row 3 1 [])] k b→Live E [] b∨w.heap.size≤b):=by
  intro v w' hE hb hrow
  refine⟨{ E with row:=fun k=>if k=10 then v else E.row k },v,rfl,⟨?_,?_,?_⟩,?_,?_,hE,?_,?_⟩
  ·intro k ob hk
   simp only[hget] at hk
   split at hk
   ·rename_i hb2
    have:=Nat.eq_of_beq_eq_true hb2
    subst this
    cases hk
    simp only[ObRep,if_true]
    exact hrow _
   ·cases hk
  ·intro k k' b h1 h2
   rw[(ZnF h1).1,(ZnF h2).1]
  ·intro k ob hk j hj
   simp only[hget] at hk
   split at hk
   ·cases hk;simp[Ob.keys] at hj
   ·cases hk
  ·simp only[V.Rep]
   refine⟨0,.inl ⟨_,_,_,rfl,rfl⟩,Nat.le_refl _,?_,fun _=>by simp⟩
   obtain⟨a,cap,e,_⟩:=(hrow (bars E [] o)).shape
   rw[e];rfl
  ·intro k hk
   simp only[V.keys,List.mem_singleton] at hk
   subst hk;rfl
  ·intro k hk hks
   simp only[hget] at hks
   cases hb2:Nat.beq 10 k with
   | true=>have:=Nat.eq_of_beq_eq_true hb2;omega
   | false=>rw[hb2] at hks;cases hks
  ·intro k b h1
   obtain⟨_,h2⟩:=ZnF h1
   simp only[if_true] at h2
   exact .inr (hb b h2).1
 by_cases h0:n=0
 ·subst h0
  refine (Go.Proofs.Any8.slices_Grow_room Tryz.growLay none 0 0 0 w (Nat.le_refl _) (by decide) (by decide) (Nat.le_refl _)).mono ?_
  rintro e w' ⟨rfl,rfl⟩
  exact key _ _ (Ext.refl _ _) (fun b hb=>by simp[obOf] at hb) (fun M=>⟨fun x hx=>(by cases hx),.inl ⟨none,rfl,rfl⟩⟩)
 ·obtain⟨i0,_,g1,_,g2,g3,_,g4,_⟩:=ZaA (TY.at (t:=3) rfl)
  refine (Go.Proofs.Any8.slices_Grow_grow Tryz.growLay i0 (.int .i64 0) g1 g4 (by rw[g2];decide) none 0 0 n [] w (Nat.le_refl _) (by omega) (by rw[g3];show (0+n) * 8≤_;omega) (by omega) (by simp) (fun _=>rfl) (fun a ha=>by cases ha)).mono ?_
  rintro e w' ⟨rfl,rfl⟩
  have hG:=grownCap_ge w (0+n) 0 3
  have hG2:=grownCap_le_maxLen w (0+n) 0 3 (by unfold maxLen;omega)
  change _≤grownCap w (0+n) 0 (Tryz.growRen.t 25) at hG
  change grownCap w (0+n) 0 (Tryz.growRen.t 25)≤_ at hG2
  generalize grownCap w (0+n) 0 (Tryz.growRen.t 25)=G at *
  refine key _ _ ?_ ?_ ?_
  ·refine⟨rfl,rfl,rfl,?_,fun k hk _=>?_,by first|exact Nat.le_refl _|exact Nat.le_add_right _ _|exact Nat.le_succ _⟩
   ·exact Nat.le_of_lt (Nat.lt_of_lt_of_eq (Nat.lt_succ_self _) (Array.size_push _).symm)
   ·exact (Array.getElem?_push_lt hk).trans (Array.getElem?_eq_getElem hk).symm
  ·intro b hb
   simp only[obOf] at hb
   rw[if_neg (by omega)] at hb
   cases hb
   exact⟨Nat.le_refl _,Nat.lt_of_lt_of_eq (Nat.lt_succ_self _) (Array.size_push _).symm⟩
  ·intro M
   refine⟨fun x hx=>(by cases hx),.inr ⟨w.heap.size,0,G,_,rfl,by omega,Array.getElem?_push_size,Nat.zero_le _,hG2,?_,by simp[D.Reps]⟩⟩
   have z1:∀ k:Nat,(Builtin.zeroCells (Value.int .i64 0).cells k).size=k:=fun k=>by simp[Builtin.zeroCells,Value.cells]
   simp only[Array.size_append,z1]
   show 0+(0+n - 0)+(G - (0+n))=0+G * 1
   omega
theorem Zqu {t u1 u2:Bool} {a b:List Int} (ha:a.length≤100000) (hb:b.length≤100000):ACalls Tryz.prog 197 [.d (.sl t 1 [ints u1 a,ints u2 b])] [] (.own 910 (a++b).length) [(910,.row 3 1 ((a++b).map iD))]:=by
 refine ACalls.intro (n:=36) Tryz.func197 rfl rfl (by simp) (by rfl) ?_
 simp only[Zal]
 refine VA ?_
 refine Zak (X:=Nat) (fun i=>i≤2) (fun i=>[(11,I i),(10,I ((2:Nat):Int)),(9,.d (.sl t 1 [ints u1 a,ints u2 b])),(3,I ((if i=0 then 0 else if i=1 then a.length else a.length+b.length:Nat):Int)),(0,.d (.sl t 1 [ints u1 a,ints u2 b]))]) (fun _=>[]) (fun i=>2 - i) 0 (by decide) ?_
 intro i hi
 obtain rfl|rfl|rfl:i=0∨i=1∨i=2:=by omega
 ·simp only[if_true]
  refine VA ?_
  exact Zae 1
 ·simp only[if_neg (show ¬ (1:Nat)=0 by decide),if_true]
  refine VA ?_
  exact Zae 2 (b:=by decide)
 ·simp only[if_neg (show ¬ (2:Nat)=0 by decide),if_neg (show ¬ (2:Nat)=1 by decide)]
  refine VA ?_
  refine Zab [(10,910)] (hA:=ZrZ) (hr:=?_)
  refine VA ?_
  refine Zak (X:=Nat) (fun i=>i≤2) (fun i=>[(27,I i),(26,I ((2:Nat):Int)),(25,.d (.sl t 1 [ints u1 a,ints u2 b])),(6,.own 910 (if i=0 then [] else if i=1 then a else a++b).length)]) (fun i=>[(910,.row 3 1 ((if i=0 then [] else if i=1 then a else a++b).map iD))]) (fun i=>2 - i) 0 (by decide) ?_
  intro i hi
  obtain rfl|rfl|rfl:i=0∨i=1∨i=2:=by omega
  ·simp only[if_true,List.map_nil,List.length_nil]
   refine VA ?_
   exact Zae 1
  ·simp only[if_neg (show ¬ (1:Nat)=0 by decide),if_true]
   have e1:a.map iD++b.map iD=(a++b).map iD:=by rw[List.map_append]
   refine VA ?_
   rw[e1]
   exact Zae 2 (b:=by decide)
  ·simp only[if_neg (show ¬ (2:Nat)=0 by decide),if_neg (show ¬ (2:Nat)=1 by decide)]
   refine VA ?_
   exact finx
open Go.RowKit
set_option maxRecDepth 100000
abbrev Zjt (n:Nat) (b:Bool):Ob:=.box 185 [.own 1001 n,B b]
abbrev ZlN (all:List (List Work)) (b:Bool):Hp:=[(1000,Zjt all.length b),(1001,.row 186 1 (all.map (Zat false)))]
theorem ZlO {x:Work} {A out:List Work} {k:Nat} (h:k < A.length):Zcp x (A.drop k) out=if 10 < (mixW x A[k]).right.length∨160 < (out++[mixW x A[k]]).length then none else Zcp x (A.drop (k+1)) (out++[mixW x A[k]]):=by
 rw[List.drop_eq_getElem_cons h,Zcp]
theorem ZnG {x:Work} {A out:List Work} {k:Nat} (h:¬ k < A.length):Zcp x (A.drop k) out=some out:=by
 rw[List.drop_of_length_le (by omega),Zcp]
theorem ZnH {A:List Work} {u:Int} {l out:List Work} {i:Nat} (h:i < l.length):Zcl A u (l.drop i) out=if hdI l[i].right≠u then Zcl A u (l.drop (i+1)) (out++[l[i]]) else
   match Zcp l[i] A out with
   | none=>none
   | some out'=>Zcl A u (l.drop (i+1)) out':=by
 rw[List.drop_eq_getElem_cons h,Zcl];rfl
theorem Zwl {r:List Int} (h:0 < r.length):hdI r=r[0]:=by
 cases r with
 | nil=>simp at h
 | cons a r=>rfl
theorem Zqv {A:List Work} {u:Int} {l out:List Work} {i:Nat} (h:¬ i < l.length):Zcl A u (l.drop i) out=if 160 < out.length then none else some out:=by
 rw[List.drop_of_length_le (by omega),Zcl]
set_option maxHeartbeats 8000000 in
theorem Zr0 {g:Gram} (hg:g.ok) {all:List (List Work)} {l:List Work} {u N B:Nat} (hu:u < all.length) (h64:all.length≤64) (hA:∀ y∈all.getD u [],TOk g 60 10 N true y) (hA160:(all.getD u []).length≤160) (hl:∀ w∈l,TOk g B 10 N true w) (hl160:l.length≤160) (hB:B≤3900) :
  ACalls Tryz.prog 130 [.ptr 1000 0,.d (Zat false l),I u] (ZlN all false) (.d (Zat false ((Zcl (all.getD u []) u l []).getD []))) (ZlN all (Zcl (all.getD u []) u l []).isNone):=by
 refine ACalls.intro (n:=81) Tryz.func130 rfl rfl (by simp) (by rfl) ?_
 simp only[Zal]
 have hml:(all.map (Zat false)).length=all.length:=List.length_map _
 have eA:all.getD u []=all[u]:=by rw[List.getD_eq_getElem?_getD,List.getElem?_eq_getElem hu];rfl
 rw[eA] at hA hA160 ⊢
 generalize hres:Zcl all[u] u l []=res at *
 refine VA ?_
 refine Zbi 7 907 188 2 rfl rfl rfl ?_
 refine Zak (X:=Nat×List Work) (fun y=>y.1≤l.length∧y.2.length≤160+y.1∧res=Zcl (all[u]) u (l.drop y.1) y.2) (fun y=>[(15,I y.1),(14,I l.length),(13,.d (Zat false l)),(7,.own 907 y.2.length),(0,.ptr 1000 0),(0+1+1,I u)]) (fun y=>[(907,.row 188 2 (y.2.map (Za8 false))),(1000,Zjt all.length false),(1001,.row 186 1 (all.map (Zat false)))]) (fun y=>l.length - y.1) (0,[]) ⟨Nat.zero_le _,Nat.zero_le _,hres.symm⟩ ?_
 rintro⟨i,out⟩ ⟨h1,h2,h3⟩
 dsimp only at h1 h2 h3 ⊢
 by_cases hlt:i < l.length
 ·have hx:=hl _ (List.getElem_mem hlt)
  have hne:=hx.ne rfl
  have h0:0 < l[i].right.length:=List.length_pos_iff.2 hne
  have hhd:=Zwl h0
  rw[ZnH hlt,hhd] at h3
  have e1:out.map (Za8 false)++[D.agg [ints false l[i].right,Zah false l[i].l]]=(out++[l[i]]).map (Za8 false):=by rw[List.map_append];rfl
  by_cases hh:l[i].right[0]=(u:Int)
  ·rw[if_neg (fun q=>q hh)] at h3
   have hu0:hdI l[i].right=(u:Int):=by rw[hhd,hh]
   have hin:∃ rI,Zcp l[i] (all[u]) out=rI:=⟨_,rfl⟩
   obtain⟨rI,hrI⟩:=hin
   rw[hrI] at h3
   have hxr:=hx.rl
   have etl:List.drop 1 (List.take (l[i].right.map iD).length (l[i].right.map iD))=l[i].right.tail.map iD:=by
    rw[List.take_length,←List.map_drop,List.drop_one]
   refine VA ?_
   refine Zak (X:=Nat×List Work) (fun y=>y.1≤all[u].length∧y.2.length≤160+i∧rI=Zcp l[i] (all[u].drop y.1) y.2) (fun y=>[(37,I y.1),(36,I all[u].length),(35,.d (Zat false all[u])),(9,.ptr 9 0),(15,I i),(14,I l.length),(13,.d (Zat false l)),(7,.own 907 y.2.length),(0,.ptr 1000 0),(0+1+1,I u)]) (fun y=>[(9,Zv6 false l[i]),(907,.row 188 2 (y.2.map (Za8 false))),(1000,Zjt all.length false),(1001,.row 186 1 (all.map (Zat false)))]) (fun y=>all[u].length - y.1) (0,out) ⟨Nat.zero_le _,by dsimp only;omega,hrI.symm⟩ ?_
   rintro⟨k,L⟩ ⟨k1,k2,k3⟩
   dsimp only at k1 k2 k3 ⊢
   by_cases hkl:k < all[u].length
   ·have hy:=hA _ (List.getElem_mem hkl)
    have hmix:=ZtR hx hy hu0 (by omega)
    have hcc:=Zqu (t:=false) (u1:=false) (u2:=false) (a:=all[u][k].right) (b:=l[i].right.tail) (by have:=hy.rl;omega) (by rw[List.length_tail];omega)
    have hki:=ZiJ (t:=false) (xs:=all[u][k].right) (by have:=hy.rl;omega)
    have hpl:=ZtU (t:=false) (u:=false) hg hx hy (by omega) (by omega) (by omega) hu0 (by omega) (hmix.small _ _ hmix.sz (by have:=hmix.rl;omega))
    have hyr:=hy.rl
    rw[ZlO hkl] at k3
    have e2:L.map (Za8 false)++[D.agg [D.sl false 1 ((all[u][k].right++l[i].right.tail).map iD),Zah false (mixW l[i] all[u][k]).l]]=(L++[mixW l[i] all[u][k]]).map (Za8 false):=by rw[List.map_append (f:=Za8 false)];rfl
    have e3:(mixW l[i] all[u][k]).right=all[u][k].right++l[i].right.tail:=rfl
    refine VA ?_
    rw[etl]
    refine Zab [(910,912)] (hA:=hcc) (hr:=?_)
    refine VA ?_
    refine Zab [] (hA:=hki) (hr:=?_)
    refine VA ?_
    refine Zab [] (hA:=hpl) (hr:=?_)
    by_cases q1:10 < all[u][k].right.length+l[i].right.tail.length
    ·rw[if_pos (.inl (by rw[e3,List.length_append];exact q1))] at k3
     subst k3
     subst h3
     (repeat (first|refine wk ?_|refine Zaa (hr:=?_)))
     (repeat (first|refine wkz ?_|refine Zaa (hr:=?_)))
     refine VA ?_
     exact fin
    ·by_cases q2:160 < L.length+1
     ·rw[if_pos (.inr (by rw[List.length_append,List.length_singleton];exact q2))] at k3
      subst k3
      subst h3
      refine VA ?_
      exact fin
     ·rw[if_neg (fun q=>by
       rw[e3,List.length_append,List.length_append,List.length_singleton] at q
       omega)] at k3
      refine VA ?_
      rw[e2]
      exact Zae (k+1,L++[mixW l[i] all[u][k]]) (a:=⟨by omega,by simp;omega,k3⟩) (b:=by dsimp only;omega)
   ·rw[ZnG hkl] at k3
    subst k3
    refine VA ?_
    exact Zae (i+1,L) (a:=⟨by omega,by dsimp only;omega,h3⟩) (b:=by dsimp only;omega)
  ·rw[if_pos hh] at h3
   refine VA ?_
   rw[e1]
   exact Zae (i+1,out++[l[i]]) (a:=⟨by omega,by simp;omega,h3⟩) (b:=by dsimp only;omega)
 ·rw[Zqv hlt] at h3
  by_cases hm:160 < out.length
  ·rw[if_pos hm] at h3
   subst h3
   refine VA ?_
   exact fin
  ·rw[if_neg hm] at h3
   subst h3
   refine Zav 907 rfl ?_
   refine VA ?_
   exact fin
set_option maxRecDepth 100000
theorem Zr1 {v:Int} {l:List Work} {i:Nat} (h:i < l.length):ownW v (l.take (i+1))=ownW v (l.take i)++(if hdI l[i].right=v then [ZgR l[i]] else []):=by
 rw[List.take_succ_eq_append_getElem h]
 unfold ownW
 rw[List.filter_append,List.map_append]
 by_cases e:hdI l[i].right=v
 ·rw[if_pos e,List.filter_cons_of_pos (by simpa using e)];rfl
 ·rw[if_neg e,List.filter_cons_of_neg (by simpa using e)];rfl
theorem ZnI {v:Int} {l:List Work} {i:Nat} (h:i < l.length):Zds v (l.take (i+1))=Zds v (l.take i)++(if hdI l[i].right=v then [] else [l[i]]):=by
 rw[List.take_succ_eq_append_getElem h]
 unfold Zds
 rw[List.filter_append]
 by_cases e:hdI l[i].right=v
 ·rw[if_pos e,List.filter_cons_of_neg (by simpa using e)];rfl
 ·rw[if_neg e,List.filter_cons_of_pos (by simpa using e)];rfl
theorem Zju {u:Int} {S:List Work} {i:Nat} (h:i < S.length):(S.take (i+1)).flatMap (Zcb u)=(S.take i).flatMap (Zcb u)++Zcb u S[i]:=by
 rw[List.take_succ_eq_append_getElem h,List.flatMap_append];simp
theorem Zet (u:Int):∀ S:List Work,(S.flatMap (Zcb u)).length=2 * S.length
 | []=>rfl
 | x::S=>by rw[List.flatMap_cons,List.length_append,Zet u S];simp[Zcb];omega
def itL (all:List (List Work)) (l:List Work) (v:Nat):List Work:=if (ownW v l).length=0 then l else (Zds v l).flatMap (Zcb all.length)
def itA (all:List (List Work)) (l:List Work) (v:Nat):List (List Work):=if (ownW v l).length=0 then all else all++[(ownW v l).flatMap (Zcb all.length)]
theorem Zr2 (all:List (List Work)) (l:List Work) (v:Nat):Zbk all l v=(itA all l v).set v (itL all l v):=by
 unfold Zbk itA itL
 split <;> rfl
set_option maxHeartbeats 8000000 in
theorem Zqw {g:Gram} (hg:g.ok) {all:List (List Work)} {l:List Work} {v N B:Nat} {b:Bool} (h64:all.length≤64) (hl:∀ w∈l,TOk g B 10 N true w) (hl160:l.length≤160) (hB:B≤4000) :
  ACalls Tryz.prog 131 [.ptr 1000 0,.d (Zat false l),I v] (ZlN all b) (.d (Zat false (itL all l v))) (ZlN (itA all l v) b):=by
 refine ACalls.intro (n:=89) Tryz.func131 rfl rfl (by simp) (by rfl) ?_
 simp only[Zal]
 have hml:(all.map (Zat false)).length=all.length:=List.length_map _
 have hgo:∀ w∈ownW v l,w.right.length≤1000:=fun w hw=>by
  obtain⟨x,hx,rfl⟩:=List.mem_map.1 hw
  have:=(hl x (List.mem_filter.1 hx).1).rl
  show x.right.tail.length≤_
  rw[List.length_tail];omega
 have hgr:∀ w∈Zds v l,w.right.length≤1000:=fun w hw=>by
  have:=(hl w (List.mem_filter.1 hw).1).rl
  omega
 have hol:(ownW v l).length≤160:=by
  unfold ownW;rw[List.length_map];exact Nat.le_trans (List.length_filter_le _ _) hl160
 have hrl:(Zds v l).length≤160:=Nat.le_trans (List.length_filter_le _ _) hl160
 refine VA ?_
 refine Zbi 7 907 188 2 rfl rfl rfl ?_
 refine Zbi 8 908 188 2 rfl rfl rfl ?_
 refine Zak (X:=Nat) (fun i=>i≤l.length) (fun i=>[(20,I i),(19,I l.length),(18,.d (Zat false l)),(7,.own 907 (ownW v (l.take i)).length),(8,.own 908 (Zds v (l.take i)).length),(9,.d (.raw (.slice none 0 0))),(0,.ptr 1000 0),(0+1,.d (Zat false l)),(0+1+1,I v)]) (fun i=>[(907,.row 188 2 ((ownW v (l.take i)).map (Za8 false))),(908,.row 188 2 ((Zds v (l.take i)).map (Za8 false))),(1000,Zjt all.length b),(1001,.row 186 1 (all.map (Zat false)))]) (fun i=>l.length - i) 0 (Nat.zero_le _) ?_
 intro i hi
 by_cases hlt:i < l.length
 ·have hx:=hl _ (List.getElem_mem hlt)
  have hne:=hx.ne rfl
  have h0:0 < l[i].right.length:=List.length_pos_iff.2 hne
  have hhd:=Zwl h0
  have s1:=Zr1 (v:=(v:Int)) hlt
  have s2:=ZnI (v:=(v:Int)) hlt
  rw[hhd] at s1 s2
  have b1:(ownW (v:Int) (l.take i)).length≤160:=by
   unfold ownW;rw[List.length_map]
   refine Nat.le_trans (List.length_filter_le _ _) ?_
   rw[List.length_take];omega
  have b2:(Zds (v:Int) (l.take i)).length≤160:=by
   refine Nat.le_trans (List.length_filter_le _ _) ?_
   rw[List.length_take];omega
  by_cases hh:l[i].right[0]=(v:Int)
  ·rw[if_pos hh] at s1 s2
   rw[List.append_nil] at s2
   have hgp:=Zrg (t:=false) hg hx hB (by omega) (by rw[hhd,hh];omega)
   have etl:List.drop 1 (List.take (l[i].right.map iD).length (l[i].right.map iD))=l[i].right.tail.map iD:=by
    rw[List.take_length,←List.map_drop,List.drop_one]
   have e1:(ownW (v:Int) (l.take i)).map (Za8 false)++[D.agg [D.sl false 1 (l[i].right.tail.map iD),Zah false (ZgR l[i]).l]]=(ownW (v:Int) (l.take (i+1))).map (Za8 false):=by rw[s1,List.map_append (f:=Za8 false)];rfl
   have e3:(ownW (v:Int) (l.take (i+1))).length=(ownW (v:Int) (l.take i)).length+1:=by rw[s1];simp
   rw[←s2]
   generalize ownW (v:Int) (l.take i)=O1 at *
   refine VA ?_
   refine Zab [] (hA:=hgp) (hr:=?_)
   rw[etl]
   refine VA ?_
   rw[e1]
   exact Zae (i+1)
  ·rw[if_neg hh] at s1 s2
   rw[List.append_nil] at s1
   have e1:(Zds (v:Int) (l.take i)).map (Za8 false)++[D.agg [ints false l[i].right,Zah false l[i].l]]=(Zds (v:Int) (l.take (i+1))).map (Za8 false):=by rw[s2,List.map_append (f:=Za8 false)];rfl
   rw[←s1]
   refine VA ?_
   rw[e1]
   exact Zae (i+1)
 ·obtain rfl:i=l.length:=by omega
  rw[List.take_length]
  unfold itL itA
  generalize ownW (v:Int) l=OW at *
  generalize Zds (v:Int) l=RW at *
  by_cases h0:OW.length=0
  ·rw[if_pos h0,if_pos h0]
   refine VA ?_
   exact fin
  ·rw[if_neg h0,if_neg h0]
   refine Zav 907 rfl ?_
   refine Zrh 7 (v:=.d (Zat false OW)) (Co.froz rfl (by simp)) rfl ?_
   refine Zav 908 rfl ?_
   refine Zrh 8 (v:=.d (Zat false RW)) (Co.froz rfl (by simp)) rfl ?_
   refine VA ?_
   refine Zbi 9 909 188 2 rfl rfl rfl ?_
   refine Zak (X:=Nat) (fun i=>i≤RW.length) (fun i=>[(56,I i),(55,I RW.length),(54,.d (Zat false RW)),(12,I all.length),(9,.own 909 ((RW.take i).flatMap (Zcb all.length)).length),(7,.d (Zat false OW)),(0,.ptr 1000 0)]) (fun i=>[(909,.row 188 2 (((RW.take i).flatMap (Zcb all.length)).map (Za8 false))),(1000,Zjt all.length b),(1001,.row 186 1 (all.map (Zat false)))]) (fun i=>RW.length - i) 0 (Nat.zero_le _) ?_
   intro i hi
   by_cases hlt:i < RW.length
   ·have hth:=ZpZ (x:=RW[i]) (v:=all.length) (hgr _ (List.getElem_mem hlt)) (by omega)
    have hs:=Zju (u:=(all.length:Int)) hlt
    have hln:=Zet (all.length:Int) (RW.take i)
    rw[List.length_take] at hln
    have e1:((RW.take i).flatMap (Zcb all.length)).map (Za8 false)++(Zcb (all.length:Int) RW[i]).map (Za8 false)=((RW.take (i+1)).flatMap (Zcb all.length)).map (Za8 false):=by rw[hs,List.map_append]
    generalize (RW.take i).flatMap (Zcb all.length)=F1 at *
    have hl2:(Zcb (all.length:Int) RW[i]).length=2:=rfl
    refine VA ?_
    refine Zab [(22,922)] (hA:=hth) (hr:=?_)
    refine VA ?_
    rw[e1]
    exact Zae (i+1)
   ·obtain rfl:i=RW.length:=by omega
    rw[List.take_length]
    generalize RW.flatMap (Zcb all.length)=RR at *
    refine VA ?_
    refine Zbi 15 915 188 2 rfl rfl rfl ?_
    refine Zak (X:=Nat) (fun i=>i≤OW.length) (fun i=>[(68,I i),(67,I OW.length),(66,.d (Zat false OW)),(12,I all.length),(9,.own 909 RR.length),(15,.own 915 ((OW.take i).flatMap (Zcb all.length)).length),(0,.ptr 1000 0)]) (fun i=>[(915,.row 188 2 (((OW.take i).flatMap (Zcb all.length)).map (Za8 false))),(909,.row 188 2 (RR.map (Za8 false))),(1000,Zjt all.length b),(1001,.row 186 1 (all.map (Zat false)))]) (fun i=>OW.length - i) 0 (Nat.zero_le _) ?_
    intro i hi
    by_cases hlt:i < OW.length
    ·have hth:=ZpZ (x:=OW[i]) (v:=all.length) (hgo _ (List.getElem_mem hlt)) (by omega)
     have hs:=Zju (u:=(all.length:Int)) hlt
     have hln:=Zet (all.length:Int) (OW.take i)
     rw[List.length_take] at hln
     have e1:((OW.take i).flatMap (Zcb all.length)).map (Za8 false)++(Zcb (all.length:Int) OW[i]).map (Za8 false)=((OW.take (i+1)).flatMap (Zcb all.length)).map (Za8 false):=by rw[hs,List.map_append]
     generalize (OW.take i).flatMap (Zcb all.length)=F1 at *
     have hl2:(Zcb (all.length:Int) OW[i]).length=2:=rfl
     refine VA ?_
     refine Zab [(22,922)] (hA:=hth) (hr:=?_)
     refine VA ?_
     rw[e1]
     exact Zae (i+1)
    ·obtain rfl:i=OW.length:=by omega
     rw[List.take_length]
     generalize OW.flatMap (Zcb all.length)=OO at *
     have e2:all.map (Zat false)++[D.sl false 2 (OO.map (Za8 false))]=(all++[OO]).map (Zat false):=by rw[List.map_append];rfl
     have e3:(all++[OO]).length=all.length+1:=by simp
     refine Zav 909 rfl ?_
     refine VA ?_
     rw[e2,List.length_map]
     exact fin
theorem Zr3 {all:List (List Work)} {i j:Nat} (hi:i < all.length) (hj:j < all[i].length) (h:10 < all[i][j].right.length∨60 < fszs all[i][j].l):Zhl all=false:=by
 cases hc:Zhl all with
 | false=>rfl
 | true =>
  have:=(fitsT_iff.1 hc).1 _ (List.getElem_mem hi) _ (List.getElem_mem hj)
  omega
theorem ZuU {all:List (List Work)} {i:Nat} (h:i < all.length):((all.take (i+1)).map List.length).sum=((all.take i).map List.length).sum+all[i].length:=by
 rw[List.take_succ_eq_append_getElem h,List.map_append,List.sum_append];simp
theorem Zr4 {all:List (List Work)} {C:Nat} (h:∀ l∈all,l.length≤C):(all.map List.length).sum≤C * all.length:=by
 induction all with
 | nil=>simp
 | cons l all ih =>
  have h1:=h l (by simp)
  have h2:=ih fun k hk=>h k (by simp[hk])
  rw[List.map_cons,List.sum_cons,List.length_cons,Nat.mul_add];omega
set_option maxHeartbeats 8000000 in
theorem Zr5 {all:List (List Work)} {b:Bool} (h65:all.length≤100) (hl:∀ l∈all,l.length≤1000) (hr:∀ l∈all,∀ w∈l,w.right.length≤1000∧fszs w.l≤100000) :
  ACalls Tryz.prog 132 [.ptr 1000 0] (ZlN all b) (B (!b && Zhl all)) (ZlN all b):=by
 refine ACalls.intro (n:=56) Tryz.func132 rfl rfl (by simp) (by rfl) ?_
 simp only[Zal]
 have hml:(all.map (Zat false)).length=all.length:=List.length_map _
 refine VA ?_
 refine Zak (X:=Nat) (fun i=>i≤all.length∧∀ l∈all.take i,∀ w∈l,w.right.length≤10∧fszs w.l≤60) (fun i=>[(13,I i),(12,I all.length),(11,.own 1001 all.length),(3,I (((all.take i).map List.length).sum:Nat)),(0,.ptr 1000 0)]) (fun _=>ZlN all b) (fun i=>all.length - i) 0 ⟨Nat.zero_le _,fun l hl=>by simp at hl⟩ ?_
 rintro i ⟨hi,ho⟩
 have hsm:=Zr4 (all:=all.take i) (C:=1000) fun l h=>hl l (List.mem_of_mem_take h)
 rw[List.length_take] at hsm
 by_cases hlt:i < all.length
 ·have hs:=ZuU hlt
  have hil:=hl _ (List.getElem_mem hlt)
  have hir:=hr _ (List.getElem_mem hlt)
  have hno:=fun j (hj:j < all[i].length) h=>Zr3 hlt hj h
  have hta:∀ w∈all[i],w.right.length≤10∧fszs w.l≤60→True:=fun _ _ _=>trivial
  have hnext:(∀ w∈all[i],w.right.length≤10∧fszs w.l≤60)→∀ l∈all.take (i+1),∀ w∈l,w.right.length≤10∧fszs w.l≤60:=fun h l hl=>by
   rw[List.take_succ_eq_append_getElem hlt] at hl
   rcases List.mem_append.1 hl with hl|hl
   ·exact ho l hl
   ·rw[List.mem_singleton.1 hl];exact h
  have hel:(all.map (Zat false))[i]? = some (Zat false all[i]):=by rw[List.getElem?_map,List.getElem?_eq_getElem hlt];rfl
  generalize hS:((all.take i).map List.length).sum=S at *
  generalize hS2:((all.take (i+1)).map List.length).sum=S2 at *
  refine VA ?_
  refine Zak (X:=Nat) (fun j=>j≤all[i].length∧∀ w∈all[i].take j,w.right.length≤10∧fszs w.l≤60) (fun j=>[(23,I j),(22,I all[i].length),(21,.d (Zat false all[i])),(13,I i),(12,I all.length),(11,.own 1001 all.length),(3,I ((S+all[i].length:Nat):Int)),(0,.ptr 1000 0)]) (fun _=>ZlN all b) (fun j=>all[i].length - j) 0 ⟨Nat.zero_le _,fun w hw=>by simp at hw⟩ ?_
  rintro j ⟨hj,hw⟩
  by_cases hjl:j < all[i].length
  ·have hr1:=hir _ (List.getElem_mem hjl)
   have hpt:=Zrf _ (t:=false) (l:=all[i][j].l) (Nat.lt_succ_self _) (by omega)
   by_cases q1:10 < all[i][j].right.length
   ·rw[hno j hjl (.inl q1)]
    (repeat (first|refine wk ?_|refine Zaa (hr:=?_)))
    (repeat (first|refine wkz ?_|refine Zaa (hr:=?_)))
    refine VA ?_
    rw[Bool.and_false]
    exact fin
   ·by_cases q2:60 < fszs all[i][j].l
    ·rw[hno j hjl (.inr q2)]
     refine VA ?_
     refine Zab [] (hA:=hpt) (hr:=?_)
     refine VA ?_
     rw[Bool.and_false]
     exact fin
    ·refine VA ?_
     refine Zab [] (hA:=hpt) (hr:=?_)
     refine VA ?_
     exact Zae (j+1) (a:=⟨by omega,fun w hw'=>by
      rw[List.take_succ_eq_append_getElem hjl] at hw'
      rcases List.mem_append.1 hw' with hw'|hw'
      ·exact hw w hw'
      ·rw[List.mem_singleton.1 hw'];omega⟩)
  ·obtain rfl:j=all[i].length:=by omega
   rw[List.take_length] at hw
   have e1:S+all[i].length=S2:=hs.symm
   rw[e1]
   refine VA ?_
   rw[←hS2]
   exact Zae (i+1) (a:=⟨by omega,hnext hw⟩)
 ·obtain rfl:i=all.length:=by omega
  rw[List.take_length]
  rw[List.take_length] at ho hsm
  have hfit:Zhl all=(decide ((all.map List.length).sum≤160) && decide (all.length≤64)):=by
   rw[Bool.eq_iff_iff,fitsT_iff,Bool.and_eq_true,decide_eq_true_eq,decide_eq_true_eq]
   exact⟨fun q=>q.2,fun q=>⟨ho,q⟩⟩
  rw[hfit]
  generalize (all.map List.length).sum=S at *
  cases b with
  | true =>
   (repeat (first|refine wk ?_|refine Zaa (hr:=?_)))
   (repeat (first|refine wkz ?_|refine Zaa (hr:=?_)))
   refine VA ?_
   exact fin
  | false =>
   by_cases q1:S≤160
   ·rw[decide_eq_true q1]
    by_cases q2:all.length≤64
    ·rw[decide_eq_true q2]
     refine VA ?_
     rw[show decide (((all.length:Nat):Int)≤64)=true from decide_eq_true (by omega)]
     exact fin
    ·rw[decide_eq_false q2]
     refine VA ?_
     rw[show decide (((all.length:Nat):Int)≤64)=false from decide_eq_false (by omega)]
     exact fin
   ·rw[decide_eq_false q1]
    (repeat (first|refine wk ?_|refine Zaa (hr:=?_)))
    (repeat (first|refine wkz ?_|refine Zaa (hr:=?_)))
    refine VA ?_
    exact fin
end Go.Proofs.YtbpmepgnjanhnaaGreat
