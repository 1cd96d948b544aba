import Derived.Test.YtbpmepgnjanhnaaGreatQFactorA
import Derived.Test.YtbpmepgnjanhnaaGreatQFactsK
import Derived.Test.YtbpmepgnjanhnaaGreatQFrC
import Derived.Test.YtbpmepgnjanhnaaGreatP1
import Derived.Test.YtbpmepgnjanhnaaGreatS5
set_option linter.unusedVariables false
set_option linter.unusedSimpArgs false
set_option linter.unusedSectionVars false
namespace Go.Proofs.YtbpmepgnjanhnaaGreat
open Go.RowKit
set_option maxRecDepth 100000
abbrev tmF:Fr:=[(8,.ptr 53 0),(1,.ptr 1 0),(2,.ptr 2 0),(3,.ptr 3 0)]
abbrev tmH (g:Gram) (all:List (List Work)) (b:Bool):Hp:=[(1,Zar false g),(2,Zbh false zeroStep),(3,.box 31 [.d (iD 0),.d (iD 0)]),(53,.box 185 [.own 901 all.length,B b]),(901,.row 186 1 (all.map (ZaP false)))]
theorem ZpI {rs:List Rule}:∀ {i:Nat},(∀ (j:Nat) (h:j < rs.length),j < i→¬ rs[j].right.length=0)→∀ h:i < rs.length,rs[i].right.length=0→rs.findIdx? (fun r=>decide (r.right.length=0))=some i:=fun {i} h1 h h2=>by
 rw[List.findIdx?_eq_some_iff_getElem]
 exact⟨h,decide_eq_true h2,fun j hj=>by simpa using h1 j (by omega) hj⟩
theorem ZmZ {rs:List Rule} (h1:∀ (j:Nat) (h:j < rs.length),¬ rs[j].right.length=0):rs.findIdx? (fun r=>decide (r.right.length=0))=none:=by
 rw[List.findIdx?_eq_none_iff]
 intro r hr
 obtain⟨j,hj,rfl⟩:=List.mem_iff_getElem.1 hr
 simpa using h1 j hj
theorem Zm0 {all:List (List Work)} {u n:Nat} {l:List Work}:Zds all u (n+1) l=match Zb2 (all.getD u []) u l [] with
  | none=>none
  | some l'=>Zds all (u+1) n l':=rfl
theorem Zm1 {all:List (List Work)} {l:List Work} {v:Nat} (h:∀ k∈all,k.length≤160) (hl:l.length≤160):∀ k∈Za8 all l v,k.length≤320:=by
 have ho:(Zde v l).length≤l.length:=List.length_filter_le _ _
 have hw:(ownW v l).length≤l.length:=by rw[ownW,List.length_map];exact List.length_filter_le _ _
 intro k hk
 unfold Za8 at hk
 split at hk
 ·rcases List.mem_or_eq_of_mem_set hk with hk|rfl
  ·have:=h k hk;omega
  ·omega
 ·rcases List.mem_or_eq_of_mem_set hk with hk|rfl
  ·rcases List.mem_append.1 hk with hk|hk
   ·have:=h k hk;omega
   ·rw[List.mem_singleton.1 hk,Zd6];omega
  ·rw[Zd6];omega
set_option maxHeartbeats 8000000 in
theorem ZlF {g:Gram} (hf:g.fit) :
  ACalls Tryz.prog 72 [.d (ZaH false g)] [] (.tup [.d (Zbv false (Zgc g).1),.d (ZaN (Zgc g).2)]) []:=by
 refine ACalls.intro (n:=196) Tryz.func72 rfl rfl (by simp) (by rfl) ?_
 simp only[Zak]
 have hr1:=hf.rules
 have hr2:=hf.right
 have hcy:=ZfS (t:=false) hf
 by_cases hc:(Zah g).code=0
 rotate_left
 ·rw[show Zgc g=(zeroStep,Zah g) by rw[Zgc,if_neg hc]]
  generalize Zah g=gf at *
  generalize cycL g=cl at *
  repeat (first|refine wk ?_|refine Zaa (hr:=?_))
  refine Zab [] (hA:=hcy) (hr:=?_)
  repeat (first|refine wk ?_|refine Zaa (hr:=?_))
  exact fin2
 have hg:=Zbr hc
 have hgf:=hg.fault
 rw[hgf] at hcy
 have hcl:(cycL g).length≤100000000:=by
  have h1:=hg.vars
  unfold cycL Zd2
  rw[if_pos hc,List.length_map]
  have h2:=List.length_filter_le (fun (v:Nat)=>has (rowM (ledM false g) v) v) (List.range g.vars.toNat)
  rw[List.length_range] at h2
  omega
 have hts:Zgc g=match ZeY g with
  | some i=>(zeroStep,⟨11,i⟩)
  | none=>if 0 < (cycL g).length then (zeroStep,⟨10, -1⟩) else
   match ZbS 0 g.vars.toNat (ZbI g) with
   | .error v=>(zeroStep,⟨6,(v:Nat)⟩)
   | .ok z=>(⟨⟨(z.length:Nat),g.terms,g.start,Zb1 z 0⟩,Zcr z,[]⟩,⟨0,0⟩):=by rw[Zgc,if_pos hc];rfl
 have hv:=hg.vars
 have hv1:=hg.vars1
 have hr160:=hg.rules
 generalize hcl':cycL g=cl at *
 repeat (first|refine wk ?_|refine Zaa (hr:=?_))
 refine Zab [] (hA:=hcy) (hr:=?_)
 repeat (first|refine wk ?_|refine Zaa (hr:=?_))
 refine Zai (X:=Nat) (fun i=>i≤g.rules.length∧∀ (j:Nat) (h:j < g.rules.length),j < i→¬ g.rules[j].right.length=0) (fun i=>[(34,I i),(33,I g.rules.length),(32,.d (ZaT false g.rules)),(4,.d (ints false cl)),(1,.ptr 1 0),(2,.ptr 2 0),(3,.ptr 3 0)]) (fun _=>[(1,Zar false g),(2,Zbh false zeroStep),(3,.box 31 [.d (iD 0),.d (iD 0)])]) (fun i=>g.rules.length - i) 0 ⟨Nat.zero_le _,fun j h q=>by omega⟩ ?_
 rintro i ⟨hi,hne⟩
 by_cases hlt:i < g.rules.length
 ·by_cases h0:g.rules[i].right.length=0
  ·have he:ZeY g=some i:=ZpI hne hlt h0
   rw[he] at hts
   rw[hts]
   repeat (first|refine wk ?_|refine Zaa (hr:=?_))
   exact fin2
  ·repeat (first|refine wk ?_|refine Zaa (hr:=?_))
   exact Zad (i+1) (a:=⟨by omega,fun j h q=>by
    by_cases e:j=i
    ·subst e;exact h0
    ·exact hne j h (by omega)⟩)
 ·obtain rfl:i=g.rules.length:=by omega
  have hne':∀ (j:Nat) (h:j < g.rules.length),¬ g.rules[j].right.length=0:=fun j h=>hne j h h
  have he:ZeY g=none:=ZmZ hne'
  rw[he] at hts
  dsimp only at hts
  by_cases hn:0 < cl.length
  ·rw[if_pos hn] at hts
   rw[hts]
   repeat (first|refine wk ?_|refine Zaa (hr:=?_))
   exact fin2
  rw[if_neg hn] at hts
  have hI0:=Zjs hg fun r hr=>by
   obtain⟨j,hj,rfl⟩:=List.mem_iff_getElem.1 hr
   intro q
   exact hne' j hj (by rw[q];rfl)
  have hSl:=ZdH g
  obtain⟨N,hN⟩:∃ N:Nat,g.vars=(N:Int):=⟨g.vars.toNat,by omega⟩
  have hNt:g.vars.toNat=N:=by omega
  rw[hNt] at hSl hts
  generalize hrr:ZbS 0 N (ZbI g)=r at *
  repeat (first|refine wk ?_|refine Zaa (hr:=?_))
  refine Za9 53 0 901 186 1 rfl rfl rfl rfl ?_
  refine Zai (X:=Nat) (fun v=>v≤N) (fun v=>(56,I v)::(55,.d (iD g.vars))::tmF) (fun v=>tmH g ((ZbI g).take v) false) (fun v=>N - v) 0 (Nat.zero_le _) ?_
  intro v hvN
  have htl:((ZbI g).take v).length=v:=by simp;omega
  by_cases hvl:v < N
  ·have hsn:(ZbI g).take (v+1)=(ZbI g).take v++[ZfX g v]:=by
    have e:=ZiU (g:=g) (v:=v) (by omega)
    rw[List.getD_eq_getElem?_getD,List.getElem?_eq_getElem (by omega)] at e
    rw[List.take_succ_eq_append_getElem (by omega)]
    congr 2
   have hbl:=Zvz g (v:Int)
   have hby:=fun r hr=>Zt2 (g:=g) (v:=v) (r:=r) hr
   repeat (first|refine wk ?_|refine Zaa (hr:=?_))
   refine Zab [(5,933)] (hA:=ZtZ) (hr:=?_)
   repeat (first|refine wk ?_|refine Zaa (hr:=?_))
   have hwk:ZfX g v=(by_ g v).map fun r=>⟨(Zgp g r).right,Zdd r (kids (Zgp g r).right).length⟩:=rfl
   rw[hwk] at hsn
   generalize by_ g v=bs at *
   generalize (ZbI g).take v=SW at *
   generalize hmk:(fun r=>(⟨(Zgp g r).right,Zdd r (kids (Zgp g r).right).length⟩:Work))=mk at *
   refine ZaU 10 907 188 2 rfl rfl rfl ?_
   refine Zai (X:=Nat) (fun j=>j≤bs.length) (fun j=>(63,I j)::(62,I bs.length)::(61,.own 933 bs.length)::(10,.own 907 ((bs.take j).map mk).length)::(9,I v)::(56,I v)::(55,.d (iD g.vars))::tmF)
    (fun j=>(933,.row 3 1 (bs.map iD))::(907,.row 188 2 (((bs.take j).map mk).map (ZbE false)))::tmH g SW false) (fun j=>bs.length - j) 0 (Nat.zero_le _) ?_
   intro j hj
   have hTl:((bs.take j).map mk).length=j:=by simp;omega
   by_cases hjl:j < bs.length
   ·obtain⟨m,hm,hbm,_,hra⟩:=hby _ (List.getElem_mem hjl)
    have hrm:=hg.right _ (List.getElem_mem hm)
    have hkl:=Zb6 g.rules[m].right
    have hcl:=Zdt (t:=false) (xs:=g.rules[m].right) (by omega)
    have hki:=Zhp (t:=false) (xs:=g.rules[m].right) (by omega)
    have hno:=Zof (r:=bs[j]) (k:=(kids g.rules[m].right).length) (by omega)
    have hmkj:mk bs[j]=⟨g.rules[m].right,Zdd bs[j] (kids g.rules[m].right).length⟩:=by rw[←hmk];simp only[hra]
    have e1:((bs.take j).map mk).map (ZbE false)++[D.agg [ints false g.rules[m].right,Zam false (Zdd bs[j] (kids g.rules[m].right).length)]]=((bs.take (j+1)).map mk).map (ZbE false):=by
     rw[List.take_succ_eq_append_getElem hjl,List.map_append,List.map_append];simp[hmkj,ZbE]
    generalize (bs.take j).map mk=WK at *
    repeat (first|refine wk ?_|refine Zaa (hr:=?_))
    refine ZdQ [(5,920)] (hA:=hcl) (hr:=?_)
    repeat (first|refine wk ?_|refine Zaa (hr:=?_))
    refine ZdQ [] (hA:=hki) (hr:=?_)
    repeat (first|refine wk ?_|refine Zaa (hr:=?_))
    refine ZdQ [(20,921)] (hA:=hno) (hr:=?_)
    repeat (first|refine wk ?_|refine Zaa (hr:=?_))
    rw[e1]
    exact Zad (j+1)
   ·obtain rfl:j=bs.length:=by omega
    rw[List.take_length]
    have e1:SW.map (ZaP false)++[ZaP false (bs.map mk)]=((ZbI g).take (v+1)).map (ZaP false):=by rw[hsn];simp
    have e2:((ZbI g).take (v+1)).length=SW.length+1:=by rw[hsn];simp
    generalize bs.map mk=WK at *
    repeat (first|refine wk ?_|refine Zaa (hr:=?_))
    rw[e1,List.length_map]
    exact Zad (v+1)
  ·obtain rfl:N=v:=by omega
   have hall:(ZbI g).take N=ZbI g:=List.take_of_length_le (by omega)
   rw[hall]
   clear htl hall
   repeat (first|refine wk ?_|refine Zaa (hr:=?_))
   refine Zai (X:=Nat×List (List Work)) (fun x=>x.1≤N∧TInv g x.2∧ZbS x.1 (N - x.1) x.2=r) (fun x=>(101,I x.1)::(100,.d (iD g.vars))::tmF) (fun x=>tmH g x.2 false) (fun x=>N - x.1) (0,ZbI g) ⟨Nat.zero_le _,hI0,hrr⟩ ?_
   rintro⟨v,all⟩ ⟨k1,k2,k3⟩
   dsimp only at k1 k2 k3 ⊢
   have h64:=k2.len
   have hvars:=k2.vars
   rw[hNt] at hvars
   by_cases hva:v < N
   ·obtain⟨n,hn1⟩:∃ n,N - v=n+1:=⟨N - v - 1,by omega⟩
    rw[hn1,ZbS] at k3
    have hn2:n=N - (v+1):=by omega
    subst hn2
    have hgv:all.getD v []=all[v]:=by rw[List.getD_eq_getElem?_getD,List.getElem?_eq_getElem (by omega)];rfl
    have hok0:∀ w∈all[v],TOk g 60 10 all.length true w:=fun w hw=>by
     have:=k2.ok v w (by rw[hgv];exact hw)
     rw[decide_eq_true (by omega)] at this;exact this
    have hw0:=k2.wide _ (List.getElem_mem (show v < all.length by omega))
    have hround:=fun l hl hf=>Zox hg k2 (v:=v) (by omega) (l:=l) hl hf
    rw[hgv] at k3 hround
    generalize hl0:all[v]=l0 at *
    repeat (first|refine wk ?_|refine Zaa (hr:=?_))
    rw[hl0]
    refine Zai (X:=Nat×List Work×Bool) (fun x=>x.1≤v∧x.2.1.length≤160∧(∀ w∈x.2.1,TOk g (60+60 * x.1) 10 all.length true w)∧Zds all 0 v l0=(if x.2.2=true then none else Zds all x.1 (v - x.1) x.2.1)) (fun x=>(15,I x.1)::(14,.d (ZaP false x.2.1))::(13,I v)::(101,I v)::(100,.d (iD g.vars))::tmF) (fun x=>tmH g all x.2.2) (fun x=>v - x.1) (0,l0,false) ⟨Nat.zero_le _,hw0,hok0,rfl⟩ ?_
    rintro⟨u,l,b⟩ ⟨j1,j2,j3,j4⟩
    dsimp only at j1 j2 j3 j4 ⊢
    by_cases hb:u < v∧b=false
    ·obtain⟨huv,rfl⟩:=hb
     have hA:∀ y∈all.getD u [],TOk g 60 10 all.length true y:=fun y hy=>by
      have:=k2.ok u y hy
      rw[decide_eq_true (by omega)] at this;exact this
     have hA160:(all.getD u []).length≤160:=by
      refine k2.wide _ ?_
      rw[List.getD_eq_getElem?_getD,List.getElem?_eq_getElem (by omega)];exact List.getElem_mem _
     have hah:=ZqA hg (u:=u) (l:=l) (N:=all.length) (B:=60+60 * u) (by omega) h64 hA hA160 j3 j2 (by omega)
     have haok:∀ l',Zb2 (all.getD u []) u l []=some l'→(∀ w∈l',TOk g (60+60 * u+60) 10 all.length true w)∧l'.length≤160:=fun l' hl'=>ZfE (by omega) hA j3 (fun w hw=>by cases hw) hl'
     obtain⟨m,hm⟩:∃ m,v - u=m+1:=⟨v - u - 1,by omega⟩
     rw[if_neg (by decide),hm,Zm0] at j4
     generalize Zb2 (all.getD u []) u l []=res at *
     repeat (first|refine wk ?_|refine Zaa (hr:=?_))
     refine Zab [(1000,53),(1001,901)] (hA:=hah) (hr:=?_)
     cases res with
     | none =>
      repeat (first|refine wk ?_|refine Zaa (hr:=?_))
      exact Zad (u+1,[],true) (a:=⟨by omega,by simp,fun w hw=>(by cases hw),j4⟩) (b:=by dsimp only;omega)
     | some l' =>
      obtain⟨q1,q2⟩:=haok l' rfl
      obtain rfl:m=v - (u+1):=by omega
      repeat (first|refine wk ?_|refine Zaa (hr:=?_))
      exact Zad (u+1,l',false) (a:=⟨by omega,q2,fun w hw=>(q1 w hw).mono (by omega) (Nat.le_refl _) (Nat.le_refl _),j4⟩) (b:=by dsimp only;omega)
    ·have hit:=Zpn hg (all:=all) (l:=l) (v:=v) (N:=all.length) (B:=60+60 * u) (b:=b) h64 j3 j2 (by omega)
     have his:=ZqC all l v
     have hsl:((itA all l v).set v (itL all l v)).length=(itA all l v).length:=List.length_set
     have hia:v < (itA all l v).length:=by
      have:=Zjq all l v
      rw[his,hsl] at this;omega
     have hwd:=Zm1 (v:=v) k2.wide j2
     have hbd:=ZlJ hg k2 (v:=v) (by omega) (l:=l) (B:=60+60 * u) j3
     have hbe:∀ k∈Za8 all l v,∀ w∈k,w.right.length≤1000∧fszs w.l≤100000:=fun k hk w hw=>by
      obtain⟨i,hi,rfl⟩:=List.mem_iff_getElem.1 hk
      have:=hbd i w (by rw[List.getD_eq_getElem?_getD,List.getElem?_eq_getElem hi];exact hw)
      exact⟨Nat.le_trans this.rl (by omega),Nat.le_trans this.sz (by omega)⟩
     have hlen:(Za8 all l v).length≤65:=by
      unfold Za8
      split
      ·rw[List.length_set];omega
      ·rw[List.length_set,List.length_append,List.length_singleton];omega
     have hfi:=ZqF (all:=Za8 all l v) (b:=b) (by omega) (fun k hk=>Nat.le_trans (hwd k hk) (by omega)) hbe
     have hset:((itA all l v).map (ZaP false)).set v (ZaP false (itL all l v))=(Za8 all l v).map (ZaP false):=by rw[his,List.map_set]
     have hlw:(itA all l v).length=(Za8 all l v).length:=by rw[his,hsl]
     have hrd:=hround l
     have hk3:Zds all 0 v l0=some l→(if ZgL (Za8 all l v)=true then ZbS (v+1) (N - (v+1)) (Za8 all l v) else Except.error v)=r:=fun e=>by rw[e] at k3;exact k3
     clear hwd hbd hbe hsl hround
     generalize Za8 all l v=S at *
     generalize itA all l v=A at *
     generalize itL all l v=L at *
     have hvA:v < (A.map (ZaP false)).length:=by rw[List.length_map];exact hia
     cases b with
     | true =>
      rw[if_pos rfl] at j4
      rw[j4] at k3
      dsimp only at k3
      subst k3
      rw[hts]
      clear hrr hk3
      by_cases huv:u < v
      ·repeat (first|refine wk ?_|refine Zaa (hr:=?_))
       refine Zab [(1000,53),(1001,901)] (hA:=hit) (hr:=?_)
       repeat (first|refine wk ?_|refine Zaa (hr:=?_))
       rw[hset,hlw]
       refine Zab [(1000,53),(1001,901)] (hA:=hfi) (hr:=?_)
       repeat (first|refine wk ?_|refine Zaa (hr:=?_))
       exact fin2
      ·repeat (first|refine wk ?_|refine Zaa (hr:=?_))
       refine Zab [(1000,53),(1001,901)] (hA:=hit) (hr:=?_)
       repeat (first|refine wk ?_|refine Zaa (hr:=?_))
       rw[hset,hlw]
       refine Zab [(1000,53),(1001,901)] (hA:=hfi) (hr:=?_)
       repeat (first|refine wk ?_|refine Zaa (hr:=?_))
       exact fin2
     | false =>
      rw[if_neg (by decide)] at j4
      obtain rfl:u=v:=Classical.byContradiction fun q=>hb ⟨by omega,rfl⟩
      rw[Nat.sub_self,Zds] at j4
      have k3:=hk3 j4
      by_cases hft:ZgL S=true
      ·have hrd:=hrd j4 hft
       rw[if_pos hft] at k3
       rw[hft] at hfi
       clear hrr hk3
       repeat (first|refine wk ?_|refine Zaa (hr:=?_))
       refine Zab [(1000,53),(1001,901)] (hA:=hit) (hr:=?_)
       repeat (first|refine wk ?_|refine Zaa (hr:=?_))
       rw[hset,hlw]
       refine Zab [(1000,53),(1001,901)] (hA:=hfi) (hr:=?_)
       repeat (first|refine wk ?_|refine Zaa (hr:=?_))
       exact Zad (u+1,S) (a:=⟨by dsimp only;omega,hrd,k3⟩)
      ·rw[if_neg hft] at k3
       rw[Bool.not_eq_true] at hft
       rw[hft] at hfi
       clear hrr hk3
       subst k3
       rw[hts]
       repeat (first|refine wk ?_|refine Zaa (hr:=?_))
       refine Zab [(1000,53),(1001,901)] (hA:=hit) (hr:=?_)
       repeat (first|refine wk ?_|refine Zaa (hr:=?_))
       rw[hset,hlw]
       refine Zab [(1000,53),(1001,901)] (hA:=hfi) (hr:=?_)
       repeat (first|refine wk ?_|refine Zaa (hr:=?_))
       exact fin2
   ·obtain rfl:v=N:=by omega
    rw[Nat.sub_self,ZbS] at k3
    subst k3
    have hgk:=Zoz hg (Zgy he) (z:=all) (by rw[hNt];exact hrr)
    have h160:=hgk.rules
    dsimp only at hts h160
    rw[hts]
    have hw160:∀ i (h:i < all.length),all[i].length≤160:=fun i h=>k2.wide _ (List.getElem_mem h)
    have hwo:∀ i (h:i < all.length),∀ w∈all[i],w.right.length≤10∧fszs w.l≤100000000∧NbL 1000000000 w.l:=fun i h w hw=>by
     have:=k2.ok i w (by rw[List.getD_eq_getElem?_getD,List.getElem?_eq_getElem h];exact hw)
     exact⟨this.rl,Nat.le_trans this.sz (by decide),this.nb hg (by decide)⟩
    clear hrr hts hgk hI0 hva hvars
    generalize all=z at *
    repeat (first|refine wk ?_|refine Zaa (hr:=?_))
    refine Za9 16 3 903 68 2 rfl rfl rfl rfl ?_
    refine Za9 16 4 904 75 1 rfl rfl rfl rfl ?_
    refine Zai (X:=Nat×List Rule×List (List Frag)) (fun x=>x.1≤z.length∧Zb1 z 0=x.2.1++Zb1 (z.drop x.1) x.1∧Zcr z=x.2.2++Zcr (z.drop x.1)∧x.2.2.length=x.2.1.length)
     (fun x=>[(161,I x.1),(160,I z.length),(159,.own 901 z.length),(16,.ptr 16 0),(2,.ptr 2 0),(3,.ptr 3 0)])
     (fun x=>[(2,Zbh false zeroStep),(3,.box 31 [.d (iD 0),.d (iD 0)]),(901,.row 186 1 (z.map (ZaP false))),(16,.box 39 [.d (iD (z.length:Nat)),.d (iD g.terms),.d (iD g.start),.own 903 x.2.1.length,.own 904 x.2.2.length,.d nilT]),(903,.row 68 2 (x.2.1.map (Zbu false))),(904,.row 75 1 (x.2.2.map (Zam false)))])
     (fun x=>z.length - x.1) (0,[],[]) ⟨Nat.zero_le _,rfl,rfl,rfl⟩ ?_
    rintro⟨v,R,F⟩ ⟨m1,m2,m3,m4⟩
    dsimp only at m1 m2 m3 m4 ⊢
    by_cases hvz:v < z.length
    ·have hzl:=hw160 v hvz
     have hzo:=hwo v hvz
     rw[List.drop_eq_getElem_cons hvz,Zb1] at m2
     rw[List.drop_eq_getElem_cons hvz,Zcr] at m3
     rw[←List.append_assoc] at m2 m3
     generalize hl:z[v]=l at *
     repeat (first|refine wk ?_|refine Zaa (hr:=?_))
     rw[hl]
     repeat (first|refine wk ?_|refine Zaa (hr:=?_))
     refine Zai (X:=Nat×List Rule×List (List Frag)) (fun x=>x.1≤l.length∧Zb1 z 0=x.2.1++(l.drop x.1).map (fun w=>(⟨(v:Int),w.right⟩:Rule))++Zb1 (z.drop (v+1)) (v+1)∧Zcr z=x.2.2++(l.drop x.1).map (·.l)++Zcr (z.drop (v+1))∧x.2.2.length=x.2.1.length)
      (fun x=>[(168,I x.1),(167,I l.length),(166,.d (ZaP false l)),(17,I v),(161,I v),(160,I z.length),(159,.own 901 z.length),(16,.ptr 16 0),(2,.ptr 2 0),(3,.ptr 3 0)])
      (fun x=>[(2,Zbh false zeroStep),(3,.box 31 [.d (iD 0),.d (iD 0)]),(901,.row 186 1 (z.map (ZaP false))),(16,.box 39 [.d (iD (z.length:Nat)),.d (iD g.terms),.d (iD g.start),.own 903 x.2.1.length,.own 904 x.2.2.length,.d nilT]),(903,.row 68 2 (x.2.1.map (Zbu false))),(904,.row 75 1 (x.2.2.map (Zam false)))])
      (fun x=>l.length - x.1) (0,R,F) ⟨Nat.zero_le _,m2,m3,m4⟩ ?_
     clear m1 m2 m3 m4
     rintro⟨i,R,F⟩ ⟨m1,m2,m3,m4⟩
     dsimp only at m1 m2 m3 m4 ⊢
     by_cases hil:i < l.length
     ·obtain⟨hwl,hws,hwn⟩:=hzo _ (List.getElem_mem hil)
      rw[List.drop_eq_getElem_cons hil,List.map_cons,List.append_cons] at m2 m3
      have hR:R.length≤160:=by rw[m2] at h160;simp at h160;omega
      have hcl:=Zdt (t:=false) (xs:=l[i].right) (by omega)
      have how:=ZoA (t:=false) (l:=l[i].l) hws hwn
      have e1:R.map (Zbu false)++[D.agg [D.raw (.int .i64 (v:Int)),ints false l[i].right]]=(R++[(⟨(v:Int),l[i].right⟩:Rule)]).map (Zbu false):=by simp[Zbu,iD]
      have e2:F.map (Zam false)++[Zam false l[i].l]=(F++[l[i].l]).map (Zam false):=by simp
      repeat (first|refine wk ?_|refine Zaa (hr:=?_))
      refine ZdQ [(5,920)] (hA:=hcl) (hr:=?_)
      repeat (first|refine wk ?_|refine Zaa (hr:=?_))
      refine Zab [] (hA:=how) (hr:=?_)
      repeat (first|refine wk ?_|refine Zaa (hr:=?_))
      rw[e1,e2,List.length_map,List.length_map]
      exact Zad (i+1,R++[(⟨(v:Int),l[i].right⟩:Rule)],F++[l[i].l]) (a:=⟨by dsimp only;omega,m2,m3,by simp;omega⟩)
     ·obtain rfl:i=l.length:=by omega
      rw[List.drop_length,List.map_nil,List.append_nil] at m2 m3
      repeat (first|refine wk ?_|refine Zaa (hr:=?_))
      exact Zad (v+1,R,F) (a:=⟨by dsimp only;omega,m2,m3,m4⟩)
    ·obtain rfl:v=z.length:=by omega
     rw[List.drop_length,Zb1,List.append_nil] at m2
     rw[List.drop_length,Zcr,List.append_nil] at m3
     rw[m2,m3]
     refine ZaF 903 rfl ?_
     refine ZaF 904 rfl ?_
     repeat (first|refine wk ?_|refine Zaa (hr:=?_))
     exact fin2
end Go.Proofs.YtbpmepgnjanhnaaGreat
namespace Go.Proofs.YtbpmepgnjanhnaaGreat
open Go.RowKit
set_option maxRecDepth 100000
abbrev spHr (g:Gram) (v:Int) (R F:List D) (n1 n2:Nat) (many:Bool) (tm:List D):Hp:=[(1000,.box 171 [.d (iD v),.d (iD g.terms),.d (iD g.start),.own 1001 n1,.own 1002 n2,.d nilT,.own 1003 g.terms.toNat,.d (bD many)]),(1001,.row 68 2 R),(1002,.row 75 1 F),(1003,.row 3 1 tm)]
abbrev spH (g:Gram) (s:SP) (tm:List D):Hp:=spHr g s.vars (s.rules.map (Zbu false)) (s.frags.map (Zam false)) s.rules.length s.frags.length s.many tm
theorem Zjo (s:SP):s.fresh.many=(s.many || decide (s.vars=64)):=by
 have h:s.fresh.vars=s.vars+1:=rfl
 have h2:s.fresh.rules=s.rules:=rfl
 rw[Bool.eq_iff_iff];simp only[SP.many,h,h2,Bool.or_eq_true,decide_eq_true_eq]
 constructor <;> (intro h3;omega)
theorem Zrx (s:SP) (v:Int) (right:List Int) (l:List Frag):(s.rule v right l).many=(s.many || decide ((s.rules.length:Int)=160)):=by
 have h:(s.rule v right l).vars=s.vars:=rfl
 have h2:(s.rule v right l).rules.length=s.rules.length+1:=by simp[SP.rule]
 rw[Bool.eq_iff_iff];simp only[SP.many,h,h2,Bool.or_eq_true,decide_eq_true_eq]
 constructor <;> (intro h3;omega)
theorem ZcQ {k:Int}:ACalls Tryz.prog 192 [I k] [] (.d (.agg [iD 2,iD k,nilT])) []:=by
 refine ACalls.intro (n:=5) Tryz.func192 rfl rfl (by simp) (by rfl) ?_
 simp only[Zak]
 repeat (first|refine wk ?_|refine Zaa (hr:=?_))
 exact fin
theorem ZlG {g:Gram} {s:SP} {tm:List D} (h0:0≤s.vars:=by ((try simp only[List.length_map,List.length_append,List.length_cons,List.length_nil,List.length_replicate,List.length_set,List.length_take,List.length_drop]);first|omega|assumption)) (h1:s.vars≤100000:=by ((try simp only[List.length_map,List.length_append,List.length_cons,List.length_nil,List.length_replicate,List.length_set,List.length_take,List.length_drop]);first|omega|assumption)) :
  ACalls Tryz.prog 191 [.ptr 1000 0] (spH g s tm) (I s.vars) (spH g s.fresh tm):=by
 refine ACalls.intro (n:=37) Tryz.func191 rfl rfl (by simp) (by rfl) ?_
 simp only[Zak]
 have e0:s.vars+1 - 1=s.vars:=by omega
 cases hm:s.many with
 | true =>
  rw[show spH g s.fresh tm=spHr g (s.vars+1) (s.rules.map (Zbu false)) (s.frags.map (Zam false)) s.rules.length s.frags.length true tm by simp only[spH,Zjo,hm];rfl]
  repeat (first|refine wk ?_|refine Zaa (hr:=?_))
  exact fin
 | false =>
  rw[show spH g s.fresh tm=spHr g (s.vars+1) (s.rules.map (Zbu false)) (s.frags.map (Zam false)) s.rules.length s.frags.length (decide (s.vars=64)) tm by simp only[spH,Zjo,hm];rfl]
  repeat (first|refine wk ?_|refine Zaa (hr:=?_))
  exact fin
theorem ZgY {g:Gram} {s:SP} {tm:List D} {v:Int} {right:List Int} {l:List Frag} (h1:s.rules.length≤100000:=by ((try simp only[List.length_map,List.length_append,List.length_cons,List.length_nil,List.length_replicate,List.length_set,List.length_take,List.length_drop]);first|omega|assumption)) (h2:s.frags.length≤100000:=by ((try simp only[List.length_map,List.length_append,List.length_cons,List.length_nil,List.length_replicate,List.length_set,List.length_take,List.length_drop]);first|omega|assumption)) :
  ACalls Tryz.prog 125 [.ptr 1000 0,I v,.d (ints false right),.d (Zam false l)] (spH g s tm) (.tup []) (spH g (s.rule v right l) tm):=by
 refine ACalls.intro (n:=53) Tryz.func125 rfl rfl (by simp) (by rfl) ?_
 simp only[Zak]
 have hH:spH g (s.rule v right l) tm=spHr g s.vars (s.rules.map (Zbu false)++[.agg [iD v,ints false right]]) (s.frags.map (Zam false)++[Zam false l]) (s.rules.map (Zbu false)++[D.agg [iD v,ints false right]]).length (s.frags.map (Zam false)++[Zam false l]).length (s.many || decide ((s.rules.length:Int)=160)) tm:=by
  rw[←Zrx s v right l];simp[SP.rule,Zbu]
 rw[hH]
 cases hm:s.many with
 | true =>
  repeat (first|refine wk ?_|refine Zaa (hr:=?_))
  exact fin
 | false =>
  repeat (first|refine wk ?_|refine Zaa (hr:=?_))
  exact fin
end Go.Proofs.YtbpmepgnjanhnaaGreat
namespace Go.Proofs.YtbpmepgnjanhnaaGreat
open Go.RowKit
set_option maxRecDepth 100000
theorem Zry {g:Gram} {s:SP} {tm:List D} {v:Int} {right:List Int} (h1:s.rules.length≤100000:=by ((try simp only[List.length_map,List.length_append,List.length_cons,List.length_nil,List.length_replicate,List.length_set,List.length_take,List.length_drop]);first|omega|assumption)) (h2:s.frags.length≤100000:=by ((try simp only[List.length_map,List.length_append,List.length_cons,List.length_nil,List.length_replicate,List.length_set,List.length_take,List.length_drop]);first|omega|assumption)) :
  ACalls Tryz.prog 125 [.ptr 1000 0,I v,.d (ints false right),.d nilT] (spH g s tm) (.tup []) (spH g (s.rule v right []) tm) :=
 (ZgY (l:=[]) h1 h2).le ⟨.refl _,.refl _,.refl _,.nil _ _,trivial⟩
theorem SP.lift_new {s:SP} {x:Int} {k:Nat} (hk : -1 - x=(k:Int)) (hl:k < s.term.length) (h1:s.term[k] < 0) :
  s.lift x=SP.rule ⟨s.vars+1,s.rules,s.frags,s.term.set k s.vars⟩ s.vars [x] []∧s.lifted x=s.vars:=by
 have e:(-1 - x).toNat=k:=by omega
 have e2:s.lift x=SP.rule ⟨s.vars+1,s.rules,s.frags,s.term.set k s.vars⟩ s.vars [x] []:=by
  rw[SP.lift,if_neg (by omega),e,List.getD_eq_getElem?_getD,List.getElem?_eq_getElem hl,Option.getD_some,if_pos h1];rfl
 refine⟨e2,?_⟩
 rw[SP.lifted,if_neg (by omega),e2,e]
 simp[SP.rule,List.getD_eq_getElem?_getD,hl]
theorem SP.lift_old {s:SP} {x:Int} {k:Nat} (hk : -1 - x=(k:Int)) (hl:k < s.term.length) (h1:¬ s.term[k] < 0) :
  s.lift x=s∧s.lifted x=s.term[k]:=by
 have e:(-1 - x).toNat=k:=by omega
 have e2:s.lift x=s:=by
  rw[SP.lift,if_neg (by omega),e,List.getD_eq_getElem?_getD,List.getElem?_eq_getElem hl,Option.getD_some,if_neg h1]
 refine⟨e2,?_⟩
 rw[SP.lifted,if_neg (by omega),e2,e,List.getD_eq_getElem?_getD,List.getElem?_eq_getElem hl];rfl
set_option maxHeartbeats 2000000 in
theorem ZtC {g:Gram} {s:SP} {x:Int} (hx : -g.terms≤x:=by ((try simp only[List.length_map,List.length_append,List.length_cons,List.length_nil,List.length_replicate,List.length_set,List.length_take,List.length_drop]);first|omega|assumption)) (ht:(s.term.length:Int)=g.terms:=by ((try simp only[List.length_map,List.length_append,List.length_cons,List.length_nil,List.length_replicate,List.length_set,List.length_take,List.length_drop]);first|omega|assumption)) (ht4:g.terms≤90000:=by ((try simp only[List.length_map,List.length_append,List.length_cons,List.length_nil,List.length_replicate,List.length_set,List.length_take,List.length_drop]);first|omega|assumption)) (h0:0≤s.vars:=by ((try simp only[List.length_map,List.length_append,List.length_cons,List.length_nil,List.length_replicate,List.length_set,List.length_take,List.length_drop]);first|omega|assumption)) (h1:s.vars≤90000:=by ((try simp only[List.length_map,List.length_append,List.length_cons,List.length_nil,List.length_replicate,List.length_set,List.length_take,List.length_drop]);first|omega|assumption)) (h2:s.rules.length≤90000:=by ((try simp only[List.length_map,List.length_append,List.length_cons,List.length_nil,List.length_replicate,List.length_set,List.length_take,List.length_drop]);first|omega|assumption)) (h3:s.frags.length≤90000:=by ((try simp only[List.length_map,List.length_append,List.length_cons,List.length_nil,List.length_replicate,List.length_set,List.length_take,List.length_drop]);first|omega|assumption)) :
  ACalls Tryz.prog 190 [.ptr 1000 0,I x] (spH g s (s.term.map iD)) (I (s.lifted x)) (spH g (s.lift x) ((s.lift x).term.map iD)):=by
 refine ACalls.intro (n:=46) Tryz.func190 rfl rfl (by simp) (by rfl) ?_
 simp only[Zak]
 by_cases hp:0≤x
 ·rw[show s.lift x=s by rw[SP.lift,if_pos hp],show s.lifted x=x by rw[SP.lifted,if_pos hp]]
  repeat (first|refine wk ?_)
  exact fin
 obtain⟨k,hk⟩:∃ k:Nat, -1 - x=(k:Int):=⟨(-1 - x).toNat,by omega⟩
 have hl:k < s.term.length:=by omega
 have hlt:k < g.terms.toNat:=by omega
 have hlm:(s.term.map iD).length=g.terms.toNat:=by simp;omega
 by_cases hn:s.term[k] < 0
 ·obtain⟨e1,e2⟩:=SP.lift_new hk hl hn
  have e3:(s.term.map iD).set k (D.raw (.int .i64 s.vars))=(s.term.set k s.vars).map iD:=by rw[List.map_set];rfl
  have hlm2:((s.term.set k s.vars).map iD).length=g.terms.toNat:=by simp;omega
  have hl2:k < (s.term.set k s.vars).length:=by simpa using hl
  have e4:(s.term.set k s.vars)[k]=s.vars:=by simp
  have f1:s.fresh.rules.length≤100000:=by show s.rules.length≤_;omega
  have f2:s.fresh.frags.length≤100000:=by show s.frags.length≤_;omega
  rw[e1,e2]
  repeat (first|refine Zh1 TY (d:=19) (by exact rfl) Zag (by exact rfl) (by exact rfl) (by exact rfl) (by exact rfl) (by exact rfl) ?_|refine Zvk TY (d:=20) (by exact rfl) Zag (by exact rfl) (by exact rfl) (by exact rfl) (by exact rfl) (by exact rfl) (by exact rfl) ?_|refine wk1 ?_)
  refine Zab [] (hA:=ZlG) (hr:=?_)
  repeat (first|refine wk ?_)
  refine Zr5 (u:=[(1003,_),(1000,_),(1001,_),(1002,_),(1003,_)]) ?_ rfl ?_
  rotate_left
  ·intro q hq e
   simp only[List.mem_cons,List.not_mem_nil,or_false] at hq
   rcases hq with rfl|rfl|rfl|rfl|rfl
   ·simp at e
   ·exact⟨_,_,rfl,rfl⟩
   ·simp at e
   ·simp at e
   ·simp at e
  rw[e3]
  repeat (first|refine wk ?_)
  rw[e4]
  refine Zab [] (hA:=Zry (s:=s.fresh) (v:=s.vars) (right:=[x])) (hr:=?_)
  repeat (first|refine wk ?_)
  rw[e4,show spH g (SP.rule ⟨s.vars+1,s.rules,s.frags,s.term.set k s.vars⟩ s.vars [x] []) ((SP.rule ⟨s.vars+1,s.rules,s.frags,s.term.set k s.vars⟩ s.vars [x] []).term.map iD)=spH g (s.fresh.rule s.vars [x] []) ((s.term.set k s.vars).map iD) from rfl]
  exact fin
 ·obtain⟨e1,e2⟩:=SP.lift_old hk hl hn
  rw[e1,e2]
  repeat (first|refine wk ?_)
  exact fin
end Go.Proofs.YtbpmepgnjanhnaaGreat
namespace Go.Proofs.YtbpmepgnjanhnaaGreat
open Go.RowKit
set_option maxRecDepth 100000
theorem SP.lift_small (s:SP) (x:Int):s.vars≤(s.lift x).vars∧(s.lift x).vars≤s.vars+1∧(s.lift x).rules.length≤s.rules.length+1∧(s.lift x).frags.length≤s.frags.length+1:=by
 unfold SP.lift
 split
 ·omega
 ·split
  ·simp;omega
  ·omega
theorem SP.lifts_small:∀ (l:List Int) (s:SP),s.vars≤(s.lifts l).vars∧(s.lifts l).vars≤s.vars+l.length∧(s.lifts l).rules.length≤s.rules.length+l.length∧(s.lifts l).frags.length≤s.frags.length+l.length
 | [],s=>by simp[SP.lifts]
 | x::l,s=>by
  have h1:=s.lift_small x
  have h2:=SP.lifts_small l (s.lift x)
  simp only[SP.lifts,List.length_cons]
  omega
theorem SP.lifts_term:∀ (l:List Int) (s:SP),(s.lifts l).term.length=s.term.length
 | [],s=>rfl
 | x::l,s=>by rw[SP.lifts,SP.lifts_term l,SP.lift_term]
theorem SP.lifteds_snoc (s:SP) (l:List Int) (x:Int):s.lifteds (l++[x])=s.lifteds l++[(s.lifts l).lifted x]:=by rw[SP.lifteds_append];rfl
theorem SP.lifts_snoc (s:SP) (l:List Int) (x:Int):s.lifts (l++[x])=(s.lifts l).lift x:=by rw[SP.lifts_append];rfl
def SP.more (s:SP) (n:Nat):SP:=⟨s.vars+n,s.rules,s.frags,s.term⟩
theorem SP.more_fresh (s:SP) (n:Nat):(s.more n).fresh=s.more (n+1):=by simp[SP.more,SP.fresh];omega
def SP.pairs (s:SP) (v r:Int) (l rs:List Int) (k:Nat):SP:=⟨s.vars,s.rules++Zis v l rs k,s.frags++ZgK r k,s.term⟩
theorem SP.pairs_rule (s:SP) (v r:Int) (l rs:List Int) (k:Nat):(s.pairs v r l rs k).rule (if k=0 then v else rs.getD (k - 1) 0) [l.getD k 0,rs.getD k 0] (if k=0 then [.mk 1 r ZbL] else ZbL)=s.pairs v r l rs (k+1):=by
 simp[SP.pairs,SP.rule,Zis,ZgK]
theorem Zow:Zam false ZbL=.sl false 3 [.agg [iD 2,iD 0,Zam false []],.agg [iD 2,iD 1,Zam false []]]:=by simp[ZbL,Zam,ZaV,Zed]
abbrev Zrz (k:Int):D:=.agg [iD 2,iD k,nilT]
theorem ZgZ (k:Int):DLe (Zrz k) (.agg [iD 2,iD k,Zam false []]):=.agg (.cons (.refl _) (.cons (.refl _) (.cons (.nil _ _) .nil)))
theorem ZrA {g:Gram} {s:SP} {tm:List D} {v r:Int} {right:List Int} (h1:s.rules.length≤100000:=by ((try simp only[List.length_map,List.length_append,List.length_cons,List.length_nil,List.length_replicate,List.length_set,List.length_take,List.length_drop]);first|omega|assumption)) (h2:s.frags.length≤100000:=by ((try simp only[List.length_map,List.length_append,List.length_cons,List.length_nil,List.length_replicate,List.length_set,List.length_take,List.length_drop]);first|omega|assumption)) :
  ACalls Tryz.prog 125 [.ptr 1000 0,I v,.d (ints false right),.d (.sl false 3 [.agg [iD 1,iD r,.sl false 3 [Zrz 0,Zrz 1]]])] (spH g s tm) (.tup []) (spH g (s.rule v right [.mk 1 r ZbL]) tm):=by
 have h:=ZgY (g:=g) (s:=s) (tm:=tm) (v:=v) (right:=right) (l:=[.mk 1 r ZbL]) h1 h2
 rw[show Zam false [.mk 1 r ZbL]=.sl false 3 [.agg [iD 1,iD r,Zam false ZbL]] by simp[Zam,ZaV,ZcU],Zow] at h
 exact h.le ⟨.refl _,.refl _,.refl _,.sl (.cons (.agg (.cons (.refl _) (.cons (.refl _) (.cons (.sl (.cons (ZgZ _) (.cons (ZgZ _) .nil))) .nil)))) .nil),trivial⟩
theorem ZrB {g:Gram} {s:SP} {tm:List D} {v:Int} {right:List Int} (h1:s.rules.length≤100000:=by ((try simp only[List.length_map,List.length_append,List.length_cons,List.length_nil,List.length_replicate,List.length_set,List.length_take,List.length_drop]);first|omega|assumption)) (h2:s.frags.length≤100000:=by ((try simp only[List.length_map,List.length_append,List.length_cons,List.length_nil,List.length_replicate,List.length_set,List.length_take,List.length_drop]);first|omega|assumption)) :
  ACalls Tryz.prog 125 [.ptr 1000 0,I v,.d (ints false right),.d (.sl false 3 [Zrz 0,Zrz 1])] (spH g s tm) (.tup []) (spH g (s.rule v right ZbL) tm):=by
 have h:=ZgY (g:=g) (s:=s) (tm:=tm) (v:=v) (right:=right) (l:=ZbL) h1 h2
 rw[Zow] at h
 exact h.le ⟨.refl _,.refl _,.refl _,.sl (.cons (ZgZ _) (.cons (ZgZ _) .nil)),trivial⟩
set_option maxHeartbeats 4000000 in
theorem ZrC {t:Bool} {g:Gram} {s:SP} {v r:Int} {right:List Int} (hx:∀ x∈right, -g.terms≤x) (h2:2≤right.length) (h10:right.length≤10) (ht:(s.term.length:Int)=g.terms) (ht4:g.terms≤80000) (h0:0≤s.vars) (h1:s.vars≤80000) (h3:s.rules.length≤80000) (h4:s.frags.length≤80000) :
  ACalls Tryz.prog 126 [.ptr 1000 0,I v,I r,.d (ints t right)] (spH g s (s.term.map iD)) (.tup []) (spH g (s.split v r right) ((s.split v r right).term.map iD)):=by
 refine ACalls.intro (n:=87) Tryz.func126 rfl rfl (by simp) (by rfl) ?_
 simp only[Zak]
 repeat (first|refine wk ?_)
 refine ZaU 8 900 3 1 rfl rfl rfl ?_
 refine Zai (X:=Nat) (fun k=>k≤right.length) (fun k=>[(15,I k),(14,I right.length),(13,.d (ints t right)),(0,.ptr 1000 0),(1,I v),(2,I r),(8,.own 900 (s.lifteds (right.take k)).length)])
  (fun k=>(900,.row 3 1 ((s.lifteds (right.take k)).map iD))::spH g (s.lifts (right.take k)) ((s.lifts (right.take k)).term.map iD)) (fun k=>right.length - k) 0 (Nat.zero_le _) ?_
 intro k hk
 have hle:=SP.lifteds_length s (right.take k)
 have hsm:=SP.lifts_small (right.take k) s
 have htk:(right.take k).length=k:=by simp;omega
 rw[htk] at hle hsm
 by_cases hlt:k < right.length
 ·have e1:=SP.lifteds_snoc s (right.take k) right[k]
  have e2:=SP.lifts_snoc s (right.take k) right[k]
  rw[←List.take_succ_eq_append_getElem hlt] at e1 e2
  have hxk:=hx _ (List.getElem_mem hlt)
  have htm:=SP.lifts_term (right.take k) s
  have e:=e1
  generalize s.lifts (right.take k)=q at *
  generalize s.lifteds (right.take k)=ls at *
  repeat (first|refine wk ?_)
  refine Zab [] (hA:=ZtC (s:=q)) (hr:=?_)
  repeat (first|refine wk ?_)
  rw[←e2]
  exact Zad (k+1)
 ·obtain rfl:k=right.length:=by omega
  rw[List.take_length]
  rw[List.take_length] at hle hsm
  obtain⟨m,hm⟩:∃ m:Nat,right.length=m+2:=⟨right.length - 2,by omega⟩
  have hls:(s.lifteds right).length=m+2:=by omega
  have hlift:(s.split v r right)=((s.lifts right).more m).pairs v r (s.lifteds right) (ZgJ (s.lifts right).vars (s.lifteds right)) (m+1):=by
   rw[SP.split,hm];simp[SP.pairs,SP.more]
  have hN:(((s.lifteds right).length:Nat):Int) - 2=(m:Int):=by omega
  rw[hlift,hls,hm]
  clear hlift hle hk hlt htk
  have hterm:=SP.lifts_term right s
  generalize s.lifts right=q at *
  generalize s.lifteds right=ls at *
  repeat (first|refine wk ?_)
  rw[hN]
  have e0:q=q.more 0:=by simp[SP.more]
  have hq:spH g q (q.term.map iD)=spH g (q.more 0) (q.term.map iD):=by rw[←e0]
  rw[hq]
  refine ZaU 11 901 3 1 rfl rfl rfl ?_
  refine Zai (X:=Nat) (fun k=>k≤m) (fun k=>[(29,I k),(28,I m),(0,.ptr 1000 0),(1,I v),(2,I r),(8,.own 900 (m+2)),(11,.own 901 k)])
   (fun k=>(900,.row 3 1 (ls.map iD))::(901,.row 3 1 (((List.range k).map (fun (i:Nat)=>q.vars+(i:Int))).map iD))::spH g (q.more k) (q.term.map iD)) (fun k=>m - k) 0 (Nat.zero_le _) ?_
  intro k hk
  have a1:(q.more k).vars=q.vars+k:=rfl
  have hrl:(List.range k).length=k:=List.length_range
  by_cases hlt:k < m
  ·repeat (first|refine wk ?_)
   refine Zab [] (hA:=ZlG (s:=q.more k)) (hr:=?_)
   repeat (first|refine wk ?_)
   rw[SP.more_fresh]
   have e:(List.range (k+1)).map (fun (i:Nat)=>q.vars+(i:Int))=(List.range k).map (fun (i:Nat)=>q.vars+(i:Int))++[(q.more k).vars]:=by rw[List.range_succ];simp[SP.more]
   exact Zad (k+1)
  ·obtain rfl:k=m:=by omega
   have hidx:((ls.length:Nat):Int) - 1=((k+1:Nat):Int):=by omega
   repeat (first|refine wk ?_)
   have hget:ls[k+1]=ls.getD (ls.length - 1) 0:=by rw[List.getD_eq_getElem?_getD,List.getElem?_eq_getElem (by omega)];simp;congr 1;omega
   have hrs:((List.range k).map (fun (i:Nat)=>q.vars+(i:Int))).map iD++[iD ls[k+1]]=(ZgJ q.vars ls).map iD:=by
    rw[ZgJ,hget,show ls.length - 2=k by omega,List.map_append];rfl
   have hrl2:(ZgJ q.vars ls).length=k+1:=by rw[Zgo _ (by omega)];omega
   have hrl3:((ZgJ q.vars ls).map iD).length=k+1:=by simp[hrl2]
   rw[hrs,hrl3]
   generalize ZgJ q.vars ls=rs at *
   have b1:(q.more k).rules.length=q.rules.length:=rfl
   have b2:(q.more k).frags.length=q.frags.length:=rfl
   have c1:(q.more k).rules.length≤100000:=by omega
   have c2:(q.more k).frags.length≤100000:=by omega
   repeat (first|refine wk ?_)
   refine Zab [] (hA:=ZcQ) (hr:=?_)
   repeat (first|refine wk ?_)
   refine Zab [] (hA:=ZcQ) (hr:=?_)
   repeat (first|refine wk ?_)
   refine Zab [] (hA:=ZrA (s:=q.more k) (v:=v) (r:=r) (right:=[ls[0],rs[0]]) c1 c2) (hr:=?_)
   repeat (first|refine wk ?_)
   have Zf9:∀ (xs:List Int) (i:Nat) (h:i < xs.length),xs.getD i 0=xs[i]:=fun xs i h=>by rw[List.getD_eq_getElem?_getD,List.getElem?_eq_getElem h];rfl
   have hp1:(q.more k).rule v [ls[0],rs[0]] [.mk 1 r ZbL]=(q.more k).pairs v r ls rs 1:=by
    have:=SP.pairs_rule (q.more k) v r ls rs 0
    rw[if_pos rfl,if_pos rfl,Zf9 ls 0 (by omega),Zf9 rs 0 (by omega)] at this
    rw[←this];simp[SP.pairs,SP.more,Zis,ZgK]
   rw[hp1]
   refine Zai (X:=Nat) (fun j=>1≤j∧j≤k+1) (fun j=>[(12,I j),(0,.ptr 1000 0),(1,I v),(2,I r),(8,.own 900 (k+2)),(11,.own 901 (k+1))])
    (fun j=>(900,.row 3 1 (ls.map iD))::(901,.row 3 1 (rs.map iD))::spH g ((q.more k).pairs v r ls rs j) (q.term.map iD)) (fun j=>k+1 - j) 1 (by omega) ?_
   rintro j ⟨hj1,hj2⟩
   by_cases hlj:j < k+1
   ·have hj0:(j:Int) - 1=((j - 1:Nat):Int):=by omega
    have hp2:((q.more k).pairs v r ls rs j).rule rs[j - 1] [ls[j],rs[j]] ZbL=(q.more k).pairs v r ls rs (j+1):=by
     have:=SP.pairs_rule (q.more k) v r ls rs j
     rwa [if_neg (by omega),if_neg (by omega),Zf9 ls j (by omega),Zf9 rs j (by omega),Zf9 rs (j - 1) (by omega)] at this
    have d1:((q.more k).pairs v r ls rs j).rules.length≤100000:=by simp[SP.pairs,Zgm];omega
    have d2:((q.more k).pairs v r ls rs j).frags.length≤100000:=by simp[SP.pairs,Zgn];omega
    repeat (first|refine wk ?_)
    refine Zab [] (hA:=ZcQ) (hr:=?_)
    repeat (first|refine wk ?_)
    refine Zab [] (hA:=ZcQ) (hr:=?_)
    repeat (first|refine wk ?_)
    refine Zab [] (hA:=ZrB (s:=(q.more k).pairs v r ls rs j) (v:=rs[j - 1]) (right:=[ls[j],rs[j]]) d1 d2) (hr:=?_)
    repeat (first|refine wk ?_)
    rw[hp2]
    exact Zad (j+1)
   ·obtain rfl:j=k+1:=by omega
    repeat (first|refine wk ?_)
    exact fin
end Go.Proofs.YtbpmepgnjanhnaaGreat
