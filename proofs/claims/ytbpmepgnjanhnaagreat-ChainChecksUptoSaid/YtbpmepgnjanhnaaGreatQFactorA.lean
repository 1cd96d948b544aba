import Derived.Test.YtbpmepgnjanhnaaGreatQFactorP
import Derived.Test.YtbpmepgnjanhnaaGreatQFrC
import Derived.Test.YtbpmepgnjanhnaaGreatS5
import Derived.Test.YtbpmepgnjanhnaaGreatQTurnR
import Derived.Test.YtbpmepgnjanhnaaGreatF2
import Derived.Shelf.Spec.SlicesGrow
import Derived.Test.YtbpmepgnjanhnaaGreatG1
set_option linter.unusedVariables false
set_option linter.unusedSimpArgs false
set_option linter.unusedSectionVars false
namespace Go.Proofs.YtbpmepgnjanhnaaGreat
open Go.RowKit
set_option maxRecDepth 100000
def ZbE (t:Bool) (w:Work):D:=.agg [ints t w.right,Zam t w.l]
abbrev ZaP (t:Bool) (l:List Work):D:=.sl t 2 (l.map (ZbE t))
end Go.Proofs.YtbpmepgnjanhnaaGreat
namespace Go.Proofs.YtbpmepgnjanhnaaGreat
open Go.RowKit
set_option maxRecDepth 100000
abbrev Zs1 (t:Bool) (w:Work):Ob:=.box 188 [.d (ints t w.right),.d (Zam t w.l)]
theorem Zhp {t:Bool} {xs:List Int} (hl:xs.length≤100000000:=by ((try simp only[List.length_map,List.length_append,List.length_cons,List.length_nil,List.length_replicate,List.length_set,List.length_take,List.length_drop]);first|omega|assumption)) :
  ACalls Tryz.prog 129 [.d (ints t xs)] [] (I (kids xs).length) []:=by
 refine ACalls.intro (n:=7) Tryz.func129 rfl rfl (by simp) (by rfl) ?_
 simp only[Zak]
 repeat (first|refine wk ?_|refine Zaa (hr:=?_))
 refine Zab [] (hA:=ZgS) (hr:=?_)
 repeat (first|refine wk ?_|refine Zaa (hr:=?_))
 exact fin
theorem Zpj:∀ (N:Nat) {t:Bool} {l:List Frag},fszs l < N→fszs l≤100000000→ACalls Tryz.prog 200 [.d (Zam t l)] [] (I (fszs l)) []:=by
 intro N
 induction N with
 | zero=>intro t l h;omega
 | succ N ih =>
 intro t l hN hle
 have hl:=Nat.le_trans (Zbg l) hle
 refine ACalls.intro (n:=21) Tryz.func200 rfl rfl (by simp) (by rfl) ?_
 simp only[Zak]
 repeat (first|refine wk ?_|refine Zaa (hr:=?_))
 refine Zai (X:=Nat×Nat) (fun x=>x.1≤l.length∧x.2+x.1=l.length+fszs (l.take x.1)) (fun x=>[(10,I x.1),(9,I l.length),(8,.d (Zam t l)),(3,I x.2)]) (fun _=>[]) (fun x=>l.length - x.1) (0,l.length) ⟨Nat.zero_le _,by simp[fszs]⟩ ?_
 rintro⟨i,v⟩ ⟨h1,h2⟩
 dsimp only at h1 h2 ⊢
 by_cases hlt:i < l.length
 ·have e1:=Zfm hlt
  have e3:=Zb8 (List.getElem_mem hlt)
  have e2:=ZdV l[i]
  have e4:fszs l=fszs (l.take (i+1))+fszs (l.drop (i+1)):=Zdp _ _
  have e5:(l.take i).length≤fszs (l.take i):=Zbg _
  repeat (first|refine wk ?_|refine Zaa (hr:=?_))
  refine Zab [] (hA:=ih (t:=t) (l:=l[i].l) (by omega) (by omega)) (hr:=?_)
  repeat (first|refine wk ?_|refine Zaa (hr:=?_))
  exact Zad (i+1,v+fszs l[i].l) (a:=⟨by omega,by dsimp only;omega⟩) (b:=by dsimp only;omega)
 ·rw[List.take_of_length_le (by omega)] at h2
  obtain rfl:v=fszs l:=by omega
  repeat (first|refine wk ?_|refine Zaa (hr:=?_))
  exact fin
theorem Zqy {t u:Bool} {g:Gram} (hg:g.ok) {B B' C N:Nat} {o:Bool} {x y:Work} {v:Int} (hx:TOk g B C N true x) (hy:TOk g B' C N o y) (hB:B≤4000) (hB':B'≤100) (hC:C≤20) (hu:hdI x.right=v) (h0:0≤v) (hm:TOk g (B+B') 40 N o (mixW x y)) :
  ACalls Tryz.prog 189 [.d (Zam t x.l),I 0,.d (Zam u y.l),I ((kids y.right).length:Nat)] [] (.d (Zam false (mixW x y).l)) []:=by
 have hz:=hx.nz rfl (by omega)
 have s1:=hx.sz
 have s2:=hy.sz
 have r2:=hy.rl
 have hk:=Zb6 y.right
 have hmul:fszs x.l * fszs y.l≤4000 * 100:=Nat.mul_le_mul (by omega) (by omega)
 have h3:PtL 0 (movL (-1) 0 y.l) (((kids y.right).length:Int) - 1) x.l:=by rw[ZcX];exact Zk3 x.l hx.wf hz (by omega)
 exact ZoB (t:=t) (u:=u) (l:=x.l) (inn:=y.l) (k:=0) (n:=((kids y.right).length:Nat)) (by omega) (by omega) h3 (hx.nb hg (by omega)) (hy.nb hg (by omega)) (hm.nb hg (by omega)) (by decide) (by decide) (by omega) (by omega)
theorem Zuv (t:Bool):Zam t [gapF]=.sl t 3 [.agg [iD 3,iD 0,.sl t 3 []]]:=by simp[gapF,Zam,ZaV,Zed]
theorem Zpk {t:Bool} {g:Gram} (hg:g.ok) {B C N:Nat} {x:Work} (hx:TOk g B C N true x) (hB:B≤4000) (hC:C≤20) (h0:0≤hdI x.right) :
  ACalls Tryz.prog 198 [.d (Zam t x.l)] [] (.d (Zam false (Zgb x).l)) []:=by
 have hgo:=ZlH hx h0
 have hz:=hx.nz rfl h0
 have s1:=hx.sz
 have h3:PtL 0 (movL (-1) 0 [gapF]) ((0:Int) - 1) x.l:=by rw[ZcX];exact Zk3 x.l hx.wf hz (by have:fszs [gapF]=1:=rfl;rw[this];omega)
 have hp:=ZoB (t:=t) (u:=false) (l:=x.l) (inn:=[gapF]) (k:=0) (n:=0) (by omega) (by decide) h3 (hx.nb hg (by omega)) ⟨⟨by decide,trivial⟩,trivial⟩ (hgo.nb hg (by omega)) (by decide) (by decide) (by decide) (by decide)
 rw[Zuv] at hp
 have hp2:ACalls Tryz.prog 189 [.d (Zam t x.l),I 0,.d (.sl false 3 [.agg [iD 3,iD 0,nilT]]),I 0] [] (.d (Zam false (Zgb x).l)) []:=hp.le (args:=[.d (Zam t x.l),I 0,.d (.sl false 3 [.agg [iD 3,iD 0,nilT]]),I 0]) ⟨.refl _,.refl _,.sl (.cons (.agg (.cons (.refl _) (.cons (.refl _) (.cons (.nil _ _) .nil)))) .nil),.refl _,trivial⟩
 refine ACalls.intro (n:=7) Tryz.func198 rfl rfl (by simp) (by rfl) ?_
 simp only[Zak]
 repeat (first|refine wk ?_|refine Zaa (hr:=?_))
 refine Zab [] (hA:=hp2) (hr:=?_)
 repeat (first|refine wk ?_|refine Zaa (hr:=?_))
 exact fin
theorem Zn6 {x:Work} {v:Nat} (h1:x.right.length≤1000) (hv:v≤1000) :
  ACalls Tryz.prog 199 [.d (ZbE false x),I v] [] (.own 22 2) [(22,.row 188 2 ((ZbR (v:Int) x).map (ZbE false)))]:=by
 have hk:=Zb6 x.right
 have e1:x.right.map iD++[D.raw (.int .i64 (v:Int))]=(x.right++[(v:Int)]).map iD:=by simp[iD]
 refine ACalls.intro (n:=23) Tryz.func199 rfl rfl (by simp) (by rfl) ?_
 simp only[Zak]
 repeat (first|refine wk ?_|refine Zaa (hr:=?_))
 refine Zab [(5,905)] (hA:=Zdt) (hr:=?_)
 repeat (first|refine wk ?_|refine Zaa (hr:=?_))
 rw[e1]
 refine Zab [] (hA:=Zhp) (hr:=?_)
 repeat (first|refine wk ?_|refine Zaa (hr:=?_))
 have e2:(ZbR (v:Int) x).map (ZbE false)=[D.agg [ints false x.right,Zam false x.l],D.agg [D.sl false 1 ((x.right++[(v:Int)]).map iD),D.sl false 3 [D.agg [D.raw (.int .i64 4),D.raw (.int .i64 ((kids x.right).length:Int)),Zam false x.l]]]]:=by simp[ZbR,ZbE,ints,Zam,ZaV,iD,ZcU]
 rw[e2]
 exact finx
end Go.Proofs.YtbpmepgnjanhnaaGreat
namespace Go.Proofs
open Go.Shelf
def Tryz.growRen:Go.Shelf.Ren:=⟨fun|4=>220|n=>n,fun|0=>0|3=>3|4=>4|9=>9|20=>20|22=>25|25=>3|n=>n,fun|n=>n⟩
theorem Tryz.growLay:Go.Proofs.Lays8.n4 Tryz.prog Tryz.growRen:={
 mixed:=by kernel_rfl
 f4:=⟨"slices.Grow[[]int,int]",by decide,Tryz.func220.trans (congrArg some (by kernel_rfl))⟩
 t0:=Tryz.underlying0
 a0:=Tryz.isAgg0
 z0:=Tryz.sizeOf0
 v0:=Tryz.zeroValue0
 t3:=Tryz.underlying3
 a3:=Tryz.isAgg3
 z3:=Tryz.sizeOf3
 v3:=Tryz.zeroValue3
 t4:=Tryz.underlying4
 a4:=Tryz.isAgg4
 z4:=Tryz.sizeOf4
 v4:=Tryz.zeroValue4
 t9:=Tryz.underlying9
 a9:=Tryz.isAgg9
 z9:=Tryz.sizeOf9
 v9:=Tryz.zeroValue9
 t20:=Tryz.underlying20
 a20:=Tryz.isAgg20
 z20:=Tryz.sizeOf20
 v20:=Tryz.zeroValue20
 t22:=Tryz.underlying25
 a22:=Tryz.isAgg25
 z22:=Tryz.sizeOf25
 v22:=Tryz.zeroValue25 }
end Go.Proofs
namespace Go.Proofs.YtbpmepgnjanhnaaGreat
open Go.RowKit Go.Lib
set_option maxRecDepth 100000
theorem ZmC {E:Env} {k b:Nat} (hb:blkOf E [(10,.row 3 1 [])] k b):k=10∧obOf (E.row 10)=some b:=by
 unfold blkOf at hb
 simp only[hget] at hb
 cases hk:Nat.beq 10 k <;> rw[hk] at hb
 ·cases hb
 ·have:=Nat.eq_of_beq_eq_true hk
  subst this
  exact⟨rfl,hb⟩
theorem Zqz {n:Nat} (hn:n≤100000000:=by ((try simp only[List.length_map,List.length_append,List.length_cons,List.length_nil,List.length_replicate,List.length_set,List.length_take,List.length_drop]);first|omega|assumption)):ACalls Tryz.prog 220 [.d (.raw (.slice none 0 0)),I n] [] (.own 10 0) [(10,.row 3 1 [])]:=by
 refine⟨⟨_,Tryz.func220,rfl,rfl⟩,fun E w us o H hr hk ho hs=>?_⟩
 simp only[V.Reps,V.Rep,D.RepV,D.Rep,List.cons.injEq,and_true] at hr
 obtain⟨u,_,rfl,⟨rfl,_⟩,_,_,rfl,⟨rfl,_⟩,rfl⟩:=hr
 have key:∀ (v:Value) (w':World),Ext (Live E []) w w'→(∀ b,obOf v=some b→w.heap.size≤b∧b < w'.heap.size)→(∀ M,RowAt M w' 3 1 v []) →
   ∃ E' u,Ending.returned v=.returned u∧HRep E' [(10,.row 3 1 [])] o w'∧V.Rep E' [(10,.row 3 1 [])] (bars E' [(10,.row 3 1 [])] o) w' (.own 10 0) u∧(∀ k∈(V.own 10 0).keys,(hget [(10,Ob.row 3 1 [])] k).isSome=true)∧Ext (Live E []) w w'∧Hist E [] E' [(10,.row 3 1 [])]∧(∀ k b,blkOf E' [(10,.row 3 1 [])] k b→Live E [] b∨w.heap.size≤b):=by
  intro v w' hE hb hrow
  refine⟨{ E with row:=fun k=>if k=10 then v else E.row k },v,rfl,⟨?_,?_,?_⟩,?_,?_,hE,?_,?_⟩
  ·intro k ob hk
   simp only[hget] at hk
   split at hk
   ·rename_i hb2
    have:=Nat.eq_of_beq_eq_true hb2
    subst this
    cases hk
    simp only[ObRep,if_true]
    exact hrow _
   ·cases hk
  ·intro k k' b h1 h2
   rw[(ZmC h1).1,(ZmC h2).1]
  ·intro k ob hk j hj
   simp only[hget] at hk
   split at hk
   ·cases hk;simp[Ob.keys] at hj
   ·cases hk
  ·simp only[V.Rep]
   refine⟨0,.inl ⟨_,_,_,rfl,rfl⟩,Nat.le_refl _,?_,fun _=>by simp⟩
   obtain⟨a,cap,e,_⟩:=(hrow (bars E [] o)).shape
   rw[e];rfl
  ·intro k hk
   simp only[V.keys,List.mem_singleton] at hk
   subst hk;rfl
  ·intro k hk hks
   simp only[hget] at hks
   cases hb2:Nat.beq 10 k with
   | true=>have:=Nat.eq_of_beq_eq_true hb2;omega
   | false=>rw[hb2] at hks;cases hks
  ·intro k b h1
   obtain⟨_,h2⟩:=ZmC h1
   simp only[if_true] at h2
   exact .inr (hb b h2).1
 by_cases h0:n=0
 ·subst h0
  refine (Go.Proofs.Any8.slices_Grow_room Tryz.growLay none 0 0 0 w (Nat.le_refl _) (by decide) (by decide) (Nat.le_refl _)).mono ?_
  rintro e w' ⟨rfl,rfl⟩
  exact key _ _ (Ext.refl _ _) (fun b hb=>by simp[obOf] at hb) (fun M=>⟨fun x hx=>(by cases hx),.inl ⟨none,rfl,rfl⟩⟩)
 ·obtain⟨i0,_,g1,_,g2,g3,_,g4,_⟩:=ZaC (TY.at (t:=3) rfl)
  refine (Go.Proofs.Any8.slices_Grow_grow Tryz.growLay i0 (.int .i64 0) g1 g4 (by rw[g2];decide) none 0 0 n [] w (Nat.le_refl _) (by omega) (by rw[g3];show (0+n) * 8≤_;omega) (by omega) (by simp) (fun _=>rfl) (fun a ha=>by cases ha)).mono ?_
  rintro e w' ⟨rfl,rfl⟩
  have hG:=grownCap_ge w (0+n) 0 3
  have hG2:=grownCap_le_maxLen w (0+n) 0 3 (by unfold maxLen;omega)
  change _≤grownCap w (0+n) 0 (Tryz.growRen.t 25) at hG
  change grownCap w (0+n) 0 (Tryz.growRen.t 25)≤_ at hG2
  generalize grownCap w (0+n) 0 (Tryz.growRen.t 25)=G at *
  refine key _ _ ?_ ?_ ?_
  ·refine⟨rfl,rfl,rfl,?_,fun k hk _=>?_,by first|exact Nat.le_refl _|exact Nat.le_add_right _ _|exact Nat.le_succ _⟩
   ·exact Nat.le_of_lt (Nat.lt_of_lt_of_eq (Nat.lt_succ_self _) (Array.size_push _).symm)
   ·exact (Array.getElem?_push_lt hk).trans (Array.getElem?_eq_getElem hk).symm
  ·intro b hb
   simp only[obOf] at hb
   rw[if_neg (by omega)] at hb
   cases hb
   exact⟨Nat.le_refl _,Nat.lt_of_lt_of_eq (Nat.lt_succ_self _) (Array.size_push _).symm⟩
  ·intro M
   refine⟨fun x hx=>(by cases hx),.inr ⟨w.heap.size,0,G,_,rfl,by omega,Array.getElem?_push_size,Nat.zero_le _,hG2,?_,by simp[D.Reps]⟩⟩
   have z1:∀ k:Nat,(Builtin.zeroCells (Value.int .i64 0).cells k).size=k:=fun k=>by simp[Builtin.zeroCells,Value.cells]
   simp only[Array.size_append,z1]
   show 0+(0+n - 0)+(G - (0+n))=0+G * 1
   omega
theorem Zpl {t u1 u2:Bool} {a b:List Int} (ha:a.length≤100000) (hb:b.length≤100000):ACalls Tryz.prog 197 [.d (.sl t 1 [ints u1 a,ints u2 b])] [] (.own 910 (a++b).length) [(910,.row 3 1 ((a++b).map iD))]:=by
 refine ACalls.intro (n:=36) Tryz.func197 rfl rfl (by simp) (by rfl) ?_
 simp only[Zak]
 repeat (first|refine wk ?_|refine Zaa (hr:=?_))
 refine Zai (X:=Nat) (fun i=>i≤2) (fun i=>[(11,I i),(10,I ((2:Nat):Int)),(9,.d (.sl t 1 [ints u1 a,ints u2 b])),(3,I ((if i=0 then 0 else if i=1 then a.length else a.length+b.length:Nat):Int)),(0,.d (.sl t 1 [ints u1 a,ints u2 b]))]) (fun _=>[]) (fun i=>2 - i) 0 (by decide) ?_
 intro i hi
 obtain rfl|rfl|rfl:i=0∨i=1∨i=2:=by omega
 ·simp only[if_true]
  repeat (first|refine wk ?_|refine Zaa (hr:=?_))
  exact Zad 1
 ·simp only[if_neg (show ¬ (1:Nat)=0 by decide),if_true]
  repeat (first|refine wk ?_|refine Zaa (hr:=?_))
  exact Zad 2 (b:=by decide)
 ·simp only[if_neg (show ¬ (2:Nat)=0 by decide),if_neg (show ¬ (2:Nat)=1 by decide)]
  repeat (first|refine wk ?_|refine Zaa (hr:=?_))
  refine Zab [(10,910)] (hA:=Zqz) (hr:=?_)
  repeat (first|refine wk ?_|refine Zaa (hr:=?_))
  refine Zai (X:=Nat) (fun i=>i≤2) (fun i=>[(27,I i),(26,I ((2:Nat):Int)),(25,.d (.sl t 1 [ints u1 a,ints u2 b])),(6,.own 910 (if i=0 then [] else if i=1 then a else a++b).length)]) (fun i=>[(910,.row 3 1 ((if i=0 then [] else if i=1 then a else a++b).map iD))]) (fun i=>2 - i) 0 (by decide) ?_
  intro i hi
  obtain rfl|rfl|rfl:i=0∨i=1∨i=2:=by omega
  ·simp only[if_true,List.map_nil,List.length_nil]
   repeat (first|refine wk ?_|refine Zaa (hr:=?_))
   exact Zad 1
  ·simp only[if_neg (show ¬ (1:Nat)=0 by decide),if_true]
   have e1:a.map iD++b.map iD=(a++b).map iD:=by rw[List.map_append]
   repeat (first|refine wk ?_|refine Zaa (hr:=?_))
   rw[e1]
   exact Zad 2 (b:=by decide)
  ·simp only[if_neg (show ¬ (2:Nat)=0 by decide),if_neg (show ¬ (2:Nat)=1 by decide)]
   repeat (first|refine wk ?_|refine Zaa (hr:=?_))
   exact finx
end Go.Proofs.YtbpmepgnjanhnaaGreat
namespace Go.Proofs.YtbpmepgnjanhnaaGreat
open Go.RowKit
set_option maxRecDepth 100000
abbrev ZiS (n:Nat) (b:Bool):Ob:=.box 185 [.own 1001 n,B b]
abbrev Zk1 (all:List (List Work)) (b:Bool):Hp:=[(1000,ZiS all.length b),(1001,.row 186 1 (all.map (ZaP false)))]
theorem Zk2 {x:Work} {A out:List Work} {k:Nat} (h:k < A.length):Zb9 x (A.drop k) out=if 10 < (mixW x A[k]).right.length∨160 < (out++[mixW x A[k]]).length then none else Zb9 x (A.drop (k+1)) (out++[mixW x A[k]]):=by
 rw[List.drop_eq_getElem_cons h,Zb9]
theorem ZmD {x:Work} {A out:List Work} {k:Nat} (h:¬ k < A.length):Zb9 x (A.drop k) out=some out:=by
 rw[List.drop_of_length_le (by omega),Zb9]
theorem ZmE {A:List Work} {u:Int} {l out:List Work} {i:Nat} (h:i < l.length):Zb2 A u (l.drop i) out=if hdI l[i].right≠u then Zb2 A u (l.drop (i+1)) (out++[l[i]]) else
   match Zb9 l[i] A out with
   | none=>none
   | some out'=>Zb2 A u (l.drop (i+1)) out':=by
 rw[List.drop_eq_getElem_cons h,Zb2];rfl
theorem Zt0 {r:List Int} (h:0 < r.length):hdI r=r[0]:=by
 cases r with
 | nil=>simp at h
 | cons a r=>rfl
theorem Zpm {A:List Work} {u:Int} {l out:List Work} {i:Nat} (h:¬ i < l.length):Zb2 A u (l.drop i) out=if 160 < out.length then none else some out:=by
 rw[List.drop_of_length_le (by omega),Zb2]
set_option maxHeartbeats 8000000 in
theorem ZqA {g:Gram} (hg:g.ok) {all:List (List Work)} {l:List Work} {u N B:Nat} (hu:u < all.length) (h64:all.length≤64) (hA:∀ y∈all.getD u [],TOk g 60 10 N true y) (hA160:(all.getD u []).length≤160) (hl:∀ w∈l,TOk g B 10 N true w) (hl160:l.length≤160) (hB:B≤3900) :
  ACalls Tryz.prog 130 [.ptr 1000 0,.d (ZaP false l),I u] (Zk1 all false) (.d (ZaP false ((Zb2 (all.getD u []) u l []).getD []))) (Zk1 all (Zb2 (all.getD u []) u l []).isNone):=by
 refine ACalls.intro (n:=81) Tryz.func130 rfl rfl (by simp) (by rfl) ?_
 simp only[Zak]
 have hml:(all.map (ZaP false)).length=all.length:=List.length_map _
 have eA:all.getD u []=all[u]:=by rw[List.getD_eq_getElem?_getD,List.getElem?_eq_getElem hu];rfl
 rw[eA] at hA hA160 ⊢
 generalize hres:Zb2 all[u] u l []=res at *
 repeat (first|refine wk ?_|refine Zaa (hr:=?_))
 refine ZaU 7 907 188 2 rfl rfl rfl ?_
 refine Zai (X:=Nat×List Work) (fun y=>y.1≤l.length∧y.2.length≤160+y.1∧res=Zb2 (all[u]) u (l.drop y.1) y.2) (fun y=>[(15,I y.1),(14,I l.length),(13,.d (ZaP false l)),(7,.own 907 y.2.length),(0,.ptr 1000 0),(0+1+1,I u)]) (fun y=>[(907,.row 188 2 (y.2.map (ZbE false))),(1000,ZiS all.length false),(1001,.row 186 1 (all.map (ZaP false)))]) (fun y=>l.length - y.1) (0,[]) ⟨Nat.zero_le _,Nat.zero_le _,hres.symm⟩ ?_
 rintro⟨i,out⟩ ⟨h1,h2,h3⟩
 dsimp only at h1 h2 h3 ⊢
 by_cases hlt:i < l.length
 ·have hx:=hl _ (List.getElem_mem hlt)
  have hne:=hx.ne rfl
  have h0:0 < l[i].right.length:=List.length_pos_iff.2 hne
  have hhd:=Zt0 h0
  rw[ZmE hlt,hhd] at h3
  have e1:out.map (ZbE false)++[D.agg [ints false l[i].right,Zam false l[i].l]]=(out++[l[i]]).map (ZbE false):=by rw[List.map_append];rfl
  by_cases hh:l[i].right[0]=(u:Int)
  ·rw[if_neg (fun q=>q hh)] at h3
   have hu0:hdI l[i].right=(u:Int):=by rw[hhd,hh]
   have hin:∃ rI,Zb9 l[i] (all[u]) out=rI:=⟨_,rfl⟩
   obtain⟨rI,hrI⟩:=hin
   rw[hrI] at h3
   have hxr:=hx.rl
   have etl:List.drop 1 (List.take (l[i].right.map iD).length (l[i].right.map iD))=l[i].right.tail.map iD:=by
    rw[List.take_length,←List.map_drop,List.drop_one]
   repeat (first|refine wk ?_|refine Zaa (hr:=?_))
   refine Zai (X:=Nat×List Work) (fun y=>y.1≤all[u].length∧y.2.length≤160+i∧rI=Zb9 l[i] (all[u].drop y.1) y.2) (fun y=>[(37,I y.1),(36,I all[u].length),(35,.d (ZaP false all[u])),(9,.ptr 9 0),(15,I i),(14,I l.length),(13,.d (ZaP false l)),(7,.own 907 y.2.length),(0,.ptr 1000 0),(0+1+1,I u)]) (fun y=>[(9,Zs1 false l[i]),(907,.row 188 2 (y.2.map (ZbE false))),(1000,ZiS all.length false),(1001,.row 186 1 (all.map (ZaP false)))]) (fun y=>all[u].length - y.1) (0,out) ⟨Nat.zero_le _,by dsimp only;omega,hrI.symm⟩ ?_
   rintro⟨k,L⟩ ⟨k1,k2,k3⟩
   dsimp only at k1 k2 k3 ⊢
   by_cases hkl:k < all[u].length
   ·have hy:=hA _ (List.getElem_mem hkl)
    have hmix:=ZrE hx hy hu0 (by omega)
    have hcc:=Zpl (t:=false) (u1:=false) (u2:=false) (a:=all[u][k].right) (b:=l[i].right.tail) (by have:=hy.rl;omega) (by rw[List.length_tail];omega)
    have hki:=Zhp (t:=false) (xs:=all[u][k].right) (by have:=hy.rl;omega)
    have hpl:=Zqy (t:=false) (u:=false) hg hx hy (by omega) (by omega) (by omega) hu0 (by omega) (hmix.small _ _ hmix.sz (by have:=hmix.rl;omega))
    have hyr:=hy.rl
    rw[Zk2 hkl] at k3
    have e2:L.map (ZbE false)++[D.agg [D.sl false 1 ((all[u][k].right++l[i].right.tail).map iD),Zam false (mixW l[i] all[u][k]).l]]=(L++[mixW l[i] all[u][k]]).map (ZbE false):=by rw[List.map_append (f:=ZbE false)];rfl
    have e3:(mixW l[i] all[u][k]).right=all[u][k].right++l[i].right.tail:=rfl
    repeat (first|refine wk ?_|refine Zaa (hr:=?_))
    rw[etl]
    refine Zab [(910,912)] (hA:=hcc) (hr:=?_)
    repeat (first|refine wk ?_|refine Zaa (hr:=?_))
    refine Zab [] (hA:=hki) (hr:=?_)
    repeat (first|refine wk ?_|refine Zaa (hr:=?_))
    refine Zab [] (hA:=hpl) (hr:=?_)
    by_cases q1:10 < all[u][k].right.length+l[i].right.tail.length
    ·rw[if_pos (.inl (by rw[e3,List.length_append];exact q1))] at k3
     subst k3
     subst h3
     (repeat (first|refine wk ?_|refine Zaa (hr:=?_)))
     (repeat (first|refine wkz ?_|refine Zaa (hr:=?_)))
     repeat (first|refine wk ?_|refine Zaa (hr:=?_))
     exact fin
    ·by_cases q2:160 < L.length+1
     ·rw[if_pos (.inr (by rw[List.length_append,List.length_singleton];exact q2))] at k3
      subst k3
      subst h3
      repeat (first|refine wk ?_|refine Zaa (hr:=?_))
      exact fin
     ·rw[if_neg (fun q=>by
       rw[e3,List.length_append,List.length_append,List.length_singleton] at q
       omega)] at k3
      repeat (first|refine wk ?_|refine Zaa (hr:=?_))
      rw[e2]
      exact Zad (k+1,L++[mixW l[i] all[u][k]]) (a:=⟨by omega,by simp;omega,k3⟩) (b:=by dsimp only;omega)
   ·rw[ZmD hkl] at k3
    subst k3
    repeat (first|refine wk ?_|refine Zaa (hr:=?_))
    exact Zad (i+1,L) (a:=⟨by omega,by dsimp only;omega,h3⟩) (b:=by dsimp only;omega)
  ·rw[if_pos hh] at h3
   repeat (first|refine wk ?_|refine Zaa (hr:=?_))
   rw[e1]
   exact Zad (i+1,out++[l[i]]) (a:=⟨by omega,by simp;omega,h3⟩) (b:=by dsimp only;omega)
 ·rw[Zpm hlt] at h3
  by_cases hm:160 < out.length
  ·rw[if_pos hm] at h3
   subst h3
   repeat (first|refine wk ?_|refine Zaa (hr:=?_))
   exact fin
  ·rw[if_neg hm] at h3
   subst h3
   refine ZaF 907 rfl ?_
   repeat (first|refine wk ?_|refine Zaa (hr:=?_))
   exact fin
end Go.Proofs.YtbpmepgnjanhnaaGreat
namespace Go.Proofs.YtbpmepgnjanhnaaGreat
open Go.RowKit
set_option maxRecDepth 100000
theorem ZqB {v:Int} {l:List Work} {i:Nat} (h:i < l.length):ownW v (l.take (i+1))=ownW v (l.take i)++(if hdI l[i].right=v then [Zgb l[i]] else []):=by
 rw[List.take_succ_eq_append_getElem h]
 unfold ownW
 rw[List.filter_append,List.map_append]
 by_cases e:hdI l[i].right=v
 ·rw[if_pos e,List.filter_cons_of_pos (by simpa using e)];rfl
 ·rw[if_neg e,List.filter_cons_of_neg (by simpa using e)];rfl
theorem ZmF {v:Int} {l:List Work} {i:Nat} (h:i < l.length):Zde v (l.take (i+1))=Zde v (l.take i)++(if hdI l[i].right=v then [] else [l[i]]):=by
 rw[List.take_succ_eq_append_getElem h]
 unfold Zde
 rw[List.filter_append]
 by_cases e:hdI l[i].right=v
 ·rw[if_pos e,List.filter_cons_of_neg (by simpa using e)];rfl
 ·rw[if_neg e,List.filter_cons_of_pos (by simpa using e)];rfl
theorem ZiT {u:Int} {S:List Work} {i:Nat} (h:i < S.length):(S.take (i+1)).flatMap (ZbR u)=(S.take i).flatMap (ZbR u)++ZbR u S[i]:=by
 rw[List.take_succ_eq_append_getElem h,List.flatMap_append];simp
theorem Zd6 (u:Int):∀ S:List Work,(S.flatMap (ZbR u)).length=2 * S.length
 | []=>rfl
 | x::S=>by rw[List.flatMap_cons,List.length_append,Zd6 u S];simp[ZbR];omega
def itL (all:List (List Work)) (l:List Work) (v:Nat):List Work:=if (ownW v l).length=0 then l else (Zde v l).flatMap (ZbR all.length)
def itA (all:List (List Work)) (l:List Work) (v:Nat):List (List Work):=if (ownW v l).length=0 then all else all++[(ownW v l).flatMap (ZbR all.length)]
theorem ZqC (all:List (List Work)) (l:List Work) (v:Nat):Za8 all l v=(itA all l v).set v (itL all l v):=by
 unfold Za8 itA itL
 split <;> rfl
set_option maxHeartbeats 8000000 in
theorem Zpn {g:Gram} (hg:g.ok) {all:List (List Work)} {l:List Work} {v N B:Nat} {b:Bool} (h64:all.length≤64) (hl:∀ w∈l,TOk g B 10 N true w) (hl160:l.length≤160) (hB:B≤4000) :
  ACalls Tryz.prog 131 [.ptr 1000 0,.d (ZaP false l),I v] (Zk1 all b) (.d (ZaP false (itL all l v))) (Zk1 (itA all l v) b):=by
 refine ACalls.intro (n:=89) Tryz.func131 rfl rfl (by simp) (by rfl) ?_
 simp only[Zak]
 have hml:(all.map (ZaP false)).length=all.length:=List.length_map _
 have hgo:∀ w∈ownW v l,w.right.length≤1000:=fun w hw=>by
  obtain⟨x,hx,rfl⟩:=List.mem_map.1 hw
  have:=(hl x (List.mem_filter.1 hx).1).rl
  show x.right.tail.length≤_
  rw[List.length_tail];omega
 have hgr:∀ w∈Zde v l,w.right.length≤1000:=fun w hw=>by
  have:=(hl w (List.mem_filter.1 hw).1).rl
  omega
 have hol:(ownW v l).length≤160:=by
  unfold ownW;rw[List.length_map];exact Nat.le_trans (List.length_filter_le _ _) hl160
 have hrl:(Zde v l).length≤160:=Nat.le_trans (List.length_filter_le _ _) hl160
 repeat (first|refine wk ?_|refine Zaa (hr:=?_))
 refine ZaU 7 907 188 2 rfl rfl rfl ?_
 refine ZaU 8 908 188 2 rfl rfl rfl ?_
 refine Zai (X:=Nat) (fun i=>i≤l.length) (fun i=>[(20,I i),(19,I l.length),(18,.d (ZaP false l)),(7,.own 907 (ownW v (l.take i)).length),(8,.own 908 (Zde v (l.take i)).length),(9,.d (.raw (.slice none 0 0))),(0,.ptr 1000 0),(0+1,.d (ZaP false l)),(0+1+1,I v)]) (fun i=>[(907,.row 188 2 ((ownW v (l.take i)).map (ZbE false))),(908,.row 188 2 ((Zde v (l.take i)).map (ZbE false))),(1000,ZiS all.length b),(1001,.row 186 1 (all.map (ZaP false)))]) (fun i=>l.length - i) 0 (Nat.zero_le _) ?_
 intro i hi
 by_cases hlt:i < l.length
 ·have hx:=hl _ (List.getElem_mem hlt)
  have hne:=hx.ne rfl
  have h0:0 < l[i].right.length:=List.length_pos_iff.2 hne
  have hhd:=Zt0 h0
  have s1:=ZqB (v:=(v:Int)) hlt
  have s2:=ZmF (v:=(v:Int)) hlt
  rw[hhd] at s1 s2
  have b1:(ownW (v:Int) (l.take i)).length≤160:=by
   unfold ownW;rw[List.length_map]
   refine Nat.le_trans (List.length_filter_le _ _) ?_
   rw[List.length_take];omega
  have b2:(Zde (v:Int) (l.take i)).length≤160:=by
   refine Nat.le_trans (List.length_filter_le _ _) ?_
   rw[List.length_take];omega
  by_cases hh:l[i].right[0]=(v:Int)
  ·rw[if_pos hh] at s1 s2
   rw[List.append_nil] at s2
   have hgp:=Zpk (t:=false) hg hx hB (by omega) (by rw[hhd,hh];omega)
   have etl:List.drop 1 (List.take (l[i].right.map iD).length (l[i].right.map iD))=l[i].right.tail.map iD:=by
    rw[List.take_length,←List.map_drop,List.drop_one]
   have e1:(ownW (v:Int) (l.take i)).map (ZbE false)++[D.agg [D.sl false 1 (l[i].right.tail.map iD),Zam false (Zgb l[i]).l]]=(ownW (v:Int) (l.take (i+1))).map (ZbE false):=by rw[s1,List.map_append (f:=ZbE false)];rfl
   have e3:(ownW (v:Int) (l.take (i+1))).length=(ownW (v:Int) (l.take i)).length+1:=by rw[s1];simp
   rw[←s2]
   generalize ownW (v:Int) (l.take i)=O1 at *
   repeat (first|refine wk ?_|refine Zaa (hr:=?_))
   refine Zab [] (hA:=hgp) (hr:=?_)
   rw[etl]
   repeat (first|refine wk ?_|refine Zaa (hr:=?_))
   rw[e1]
   exact Zad (i+1)
  ·rw[if_neg hh] at s1 s2
   rw[List.append_nil] at s1
   have e1:(Zde (v:Int) (l.take i)).map (ZbE false)++[D.agg [ints false l[i].right,Zam false l[i].l]]=(Zde (v:Int) (l.take (i+1))).map (ZbE false):=by rw[s2,List.map_append (f:=ZbE false)];rfl
   rw[←s1]
   repeat (first|refine wk ?_|refine Zaa (hr:=?_))
   rw[e1]
   exact Zad (i+1)
 ·obtain rfl:i=l.length:=by omega
  rw[List.take_length]
  unfold itL itA
  generalize ownW (v:Int) l=OW at *
  generalize Zde (v:Int) l=RW at *
  by_cases h0:OW.length=0
  ·rw[if_pos h0,if_pos h0]
   repeat (first|refine wk ?_|refine Zaa (hr:=?_))
   exact fin
  ·rw[if_neg h0,if_neg h0]
   refine ZaF 907 rfl ?_
   refine Zu7 7 (v:=.d (ZaP false OW)) (Co.froz rfl (by simp)) rfl ?_
   refine ZaF 908 rfl ?_
   refine Zu7 8 (v:=.d (ZaP false RW)) (Co.froz rfl (by simp)) rfl ?_
   repeat (first|refine wk ?_|refine Zaa (hr:=?_))
   refine ZaU 9 909 188 2 rfl rfl rfl ?_
   refine Zai (X:=Nat) (fun i=>i≤RW.length) (fun i=>[(56,I i),(55,I RW.length),(54,.d (ZaP false RW)),(12,I all.length),(9,.own 909 ((RW.take i).flatMap (ZbR all.length)).length),(7,.d (ZaP false OW)),(0,.ptr 1000 0)]) (fun i=>[(909,.row 188 2 (((RW.take i).flatMap (ZbR all.length)).map (ZbE false))),(1000,ZiS all.length b),(1001,.row 186 1 (all.map (ZaP false)))]) (fun i=>RW.length - i) 0 (Nat.zero_le _) ?_
   intro i hi
   by_cases hlt:i < RW.length
   ·have hth:=Zn6 (x:=RW[i]) (v:=all.length) (hgr _ (List.getElem_mem hlt)) (by omega)
    have hs:=ZiT (u:=(all.length:Int)) hlt
    have hln:=Zd6 (all.length:Int) (RW.take i)
    rw[List.length_take] at hln
    have e1:((RW.take i).flatMap (ZbR all.length)).map (ZbE false)++(ZbR (all.length:Int) RW[i]).map (ZbE false)=((RW.take (i+1)).flatMap (ZbR all.length)).map (ZbE false):=by rw[hs,List.map_append]
    generalize (RW.take i).flatMap (ZbR all.length)=F1 at *
    have hl2:(ZbR (all.length:Int) RW[i]).length=2:=rfl
    repeat (first|refine wk ?_|refine Zaa (hr:=?_))
    refine Zab [(22,922)] (hA:=hth) (hr:=?_)
    repeat (first|refine wk ?_|refine Zaa (hr:=?_))
    rw[e1]
    exact Zad (i+1)
   ·obtain rfl:i=RW.length:=by omega
    rw[List.take_length]
    generalize RW.flatMap (ZbR all.length)=RR at *
    repeat (first|refine wk ?_|refine Zaa (hr:=?_))
    refine ZaU 15 915 188 2 rfl rfl rfl ?_
    refine Zai (X:=Nat) (fun i=>i≤OW.length) (fun i=>[(68,I i),(67,I OW.length),(66,.d (ZaP false OW)),(12,I all.length),(9,.own 909 RR.length),(15,.own 915 ((OW.take i).flatMap (ZbR all.length)).length),(0,.ptr 1000 0)]) (fun i=>[(915,.row 188 2 (((OW.take i).flatMap (ZbR all.length)).map (ZbE false))),(909,.row 188 2 (RR.map (ZbE false))),(1000,ZiS all.length b),(1001,.row 186 1 (all.map (ZaP false)))]) (fun i=>OW.length - i) 0 (Nat.zero_le _) ?_
    intro i hi
    by_cases hlt:i < OW.length
    ·have hth:=Zn6 (x:=OW[i]) (v:=all.length) (hgo _ (List.getElem_mem hlt)) (by omega)
     have hs:=ZiT (u:=(all.length:Int)) hlt
     have hln:=Zd6 (all.length:Int) (OW.take i)
     rw[List.length_take] at hln
     have e1:((OW.take i).flatMap (ZbR all.length)).map (ZbE false)++(ZbR (all.length:Int) OW[i]).map (ZbE false)=((OW.take (i+1)).flatMap (ZbR all.length)).map (ZbE false):=by rw[hs,List.map_append]
     generalize (OW.take i).flatMap (ZbR all.length)=F1 at *
     have hl2:(ZbR (all.length:Int) OW[i]).length=2:=rfl
     repeat (first|refine wk ?_|refine Zaa (hr:=?_))
     refine Zab [(22,922)] (hA:=hth) (hr:=?_)
     repeat (first|refine wk ?_|refine Zaa (hr:=?_))
     rw[e1]
     exact Zad (i+1)
    ·obtain rfl:i=OW.length:=by omega
     rw[List.take_length]
     generalize OW.flatMap (ZbR all.length)=OO at *
     have e2:all.map (ZaP false)++[D.sl false 2 (OO.map (ZbE false))]=(all++[OO]).map (ZaP false):=by rw[List.map_append];rfl
     have e3:(all++[OO]).length=all.length+1:=by simp
     refine ZaF 909 rfl ?_
     repeat (first|refine wk ?_|refine Zaa (hr:=?_))
     rw[e2,List.length_map]
     exact fin
theorem ZqD {all:List (List Work)} {i j:Nat} (hi:i < all.length) (hj:j < all[i].length) (h:10 < all[i][j].right.length∨60 < fszs all[i][j].l):ZgL all=false:=by
 cases hc:ZgL all with
 | false=>rfl
 | true =>
  have:=(fitsT_iff.1 hc).1 _ (List.getElem_mem hi) _ (List.getElem_mem hj)
  omega
theorem Zs2 {all:List (List Work)} {i:Nat} (h:i < all.length):((all.take (i+1)).map List.length).sum=((all.take i).map List.length).sum+all[i].length:=by
 rw[List.take_succ_eq_append_getElem h,List.map_append,List.sum_append];simp
theorem ZqE {all:List (List Work)} {C:Nat} (h:∀ l∈all,l.length≤C):(all.map List.length).sum≤C * all.length:=by
 induction all with
 | nil=>simp
 | cons l all ih =>
  have h1:=h l (by simp)
  have h2:=ih fun k hk=>h k (by simp[hk])
  rw[List.map_cons,List.sum_cons,List.length_cons,Nat.mul_add];omega
set_option maxHeartbeats 8000000 in
theorem ZqF {all:List (List Work)} {b:Bool} (h65:all.length≤100) (hl:∀ l∈all,l.length≤1000) (hr:∀ l∈all,∀ w∈l,w.right.length≤1000∧fszs w.l≤100000) :
  ACalls Tryz.prog 132 [.ptr 1000 0] (Zk1 all b) (B (!b && ZgL all)) (Zk1 all b):=by
 refine ACalls.intro (n:=56) Tryz.func132 rfl rfl (by simp) (by rfl) ?_
 simp only[Zak]
 have hml:(all.map (ZaP false)).length=all.length:=List.length_map _
 repeat (first|refine wk ?_|refine Zaa (hr:=?_))
 refine Zai (X:=Nat) (fun i=>i≤all.length∧∀ l∈all.take i,∀ w∈l,w.right.length≤10∧fszs w.l≤60) (fun i=>[(13,I i),(12,I all.length),(11,.own 1001 all.length),(3,I (((all.take i).map List.length).sum:Nat)),(0,.ptr 1000 0)]) (fun _=>Zk1 all b) (fun i=>all.length - i) 0 ⟨Nat.zero_le _,fun l hl=>by simp at hl⟩ ?_
 rintro i ⟨hi,ho⟩
 have hsm:=ZqE (all:=all.take i) (C:=1000) fun l h=>hl l (List.mem_of_mem_take h)
 rw[List.length_take] at hsm
 by_cases hlt:i < all.length
 ·have hs:=Zs2 hlt
  have hil:=hl _ (List.getElem_mem hlt)
  have hir:=hr _ (List.getElem_mem hlt)
  have hno:=fun j (hj:j < all[i].length) h=>ZqD hlt hj h
  have hta:∀ w∈all[i],w.right.length≤10∧fszs w.l≤60→True:=fun _ _ _=>trivial
  have hnext:(∀ w∈all[i],w.right.length≤10∧fszs w.l≤60)→∀ l∈all.take (i+1),∀ w∈l,w.right.length≤10∧fszs w.l≤60:=fun h l hl=>by
   rw[List.take_succ_eq_append_getElem hlt] at hl
   rcases List.mem_append.1 hl with hl|hl
   ·exact ho l hl
   ·rw[List.mem_singleton.1 hl];exact h
  have hel:(all.map (ZaP false))[i]?=some (ZaP false all[i]):=by rw[List.getElem?_map,List.getElem?_eq_getElem hlt];rfl
  generalize hS:((all.take i).map List.length).sum=S at *
  generalize hS2:((all.take (i+1)).map List.length).sum=S2 at *
  repeat (first|refine wk ?_|refine Zaa (hr:=?_))
  refine Zai (X:=Nat) (fun j=>j≤all[i].length∧∀ w∈all[i].take j,w.right.length≤10∧fszs w.l≤60) (fun j=>[(23,I j),(22,I all[i].length),(21,.d (ZaP false all[i])),(13,I i),(12,I all.length),(11,.own 1001 all.length),(3,I ((S+all[i].length:Nat):Int)),(0,.ptr 1000 0)]) (fun _=>Zk1 all b) (fun j=>all[i].length - j) 0 ⟨Nat.zero_le _,fun w hw=>by simp at hw⟩ ?_
  rintro j ⟨hj,hw⟩
  by_cases hjl:j < all[i].length
  ·have hr1:=hir _ (List.getElem_mem hjl)
   have hpt:=Zpj _ (t:=false) (l:=all[i][j].l) (Nat.lt_succ_self _) (by omega)
   by_cases q1:10 < all[i][j].right.length
   ·rw[hno j hjl (.inl q1)]
    (repeat (first|refine wk ?_|refine Zaa (hr:=?_)))
    (repeat (first|refine wkz ?_|refine Zaa (hr:=?_)))
    repeat (first|refine wk ?_|refine Zaa (hr:=?_))
    rw[Bool.and_false]
    exact fin
   ·by_cases q2:60 < fszs all[i][j].l
    ·rw[hno j hjl (.inr q2)]
     repeat (first|refine wk ?_|refine Zaa (hr:=?_))
     refine Zab [] (hA:=hpt) (hr:=?_)
     repeat (first|refine wk ?_|refine Zaa (hr:=?_))
     rw[Bool.and_false]
     exact fin
    ·repeat (first|refine wk ?_|refine Zaa (hr:=?_))
     refine Zab [] (hA:=hpt) (hr:=?_)
     repeat (first|refine wk ?_|refine Zaa (hr:=?_))
     exact Zad (j+1) (a:=⟨by omega,fun w hw'=>by
      rw[List.take_succ_eq_append_getElem hjl] at hw'
      rcases List.mem_append.1 hw' with hw'|hw'
      ·exact hw w hw'
      ·rw[List.mem_singleton.1 hw'];omega⟩)
  ·obtain rfl:j=all[i].length:=by omega
   rw[List.take_length] at hw
   have e1:S+all[i].length=S2:=hs.symm
   rw[e1]
   repeat (first|refine wk ?_|refine Zaa (hr:=?_))
   rw[←hS2]
   exact Zad (i+1) (a:=⟨by omega,hnext hw⟩)
 ·obtain rfl:i=all.length:=by omega
  rw[List.take_length]
  rw[List.take_length] at ho hsm
  have hfit:ZgL all=(decide ((all.map List.length).sum≤160) && decide (all.length≤64)):=by
   rw[Bool.eq_iff_iff,fitsT_iff,Bool.and_eq_true,decide_eq_true_eq,decide_eq_true_eq]
   exact⟨fun q=>q.2,fun q=>⟨ho,q⟩⟩
  rw[hfit]
  generalize (all.map List.length).sum=S at *
  cases b with
  | true =>
   (repeat (first|refine wk ?_|refine Zaa (hr:=?_)))
   (repeat (first|refine wkz ?_|refine Zaa (hr:=?_)))
   repeat (first|refine wk ?_|refine Zaa (hr:=?_))
   exact fin
  | false =>
   by_cases q1:S≤160
   ·rw[decide_eq_true q1]
    by_cases q2:all.length≤64
    ·rw[decide_eq_true q2]
     repeat (first|refine wk ?_|refine Zaa (hr:=?_))
     rw[show decide (((all.length:Nat):Int)≤64)=true from decide_eq_true (by omega)]
     exact fin
    ·rw[decide_eq_false q2]
     repeat (first|refine wk ?_|refine Zaa (hr:=?_))
     rw[show decide (((all.length:Nat):Int)≤64)=false from decide_eq_false (by omega)]
     exact fin
   ·rw[decide_eq_false q1]
    (repeat (first|refine wk ?_|refine Zaa (hr:=?_)))
    (repeat (first|refine wkz ?_|refine Zaa (hr:=?_)))
    repeat (first|refine wk ?_|refine Zaa (hr:=?_))
    exact fin
end Go.Proofs.YtbpmepgnjanhnaaGreat
namespace Go.Proofs.YtbpmepgnjanhnaaGreat
open Go.RowKit
set_option maxRecDepth 100000
end Go.Proofs.YtbpmepgnjanhnaaGreat
namespace Go.Proofs.YtbpmepgnjanhnaaGreat
open Go.RowKit
set_option maxRecDepth 100000
end Go.Proofs.YtbpmepgnjanhnaaGreat
namespace Go.Proofs.YtbpmepgnjanhnaaGreat
open Go.RowKit
set_option maxRecDepth 100000
end Go.Proofs.YtbpmepgnjanhnaaGreat
namespace Go.Proofs.YtbpmepgnjanhnaaGreat
open Go.RowKit
set_option maxRecDepth 100000
theorem Zvz (g:Gram) (v:Int):(by_ g v).length≤g.rules.length:=Zfl v g.rules 0
end Go.Proofs.YtbpmepgnjanhnaaGreat
