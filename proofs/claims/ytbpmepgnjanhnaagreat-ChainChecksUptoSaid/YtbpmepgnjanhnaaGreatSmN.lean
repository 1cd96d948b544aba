import Derived.Test.YtbpmepgnjanhnaaGreatS5
import Derived.MapKept
set_option linter.unusedVariables false
set_option linter.unusedSimpArgs false
set_option linter.unusedSectionVars false
namespace Go.Proofs.YtbpmepgnjanhnaaGreat
open Go.RowKit
theorem NE.Reps.split {E:Env} {h:Hp} {M:Bars} {w:World}:∀ {xs ys:List NE} {f:List Nat} {us:List Value},NE.Reps E h M w (xs++ys) f us→∃ f1 f2 u1 u2,f=f1++f2∧us=u1++u2∧NE.Reps E h M w xs f1 u1∧NE.Reps E h M w ys f2 u2
 | [],_,f,us,r=>⟨[],f,[],us,rfl,rfl,by simp[NE.Reps],r⟩
 | .tr t::xs,_,_,_,r=>by
  simp only[NE.Reps,List.cons_append] at r
  obtain⟨f1,f2,u,vs,rfl,rfl,r1,r2⟩:=r
  obtain⟨g1,g2,u1,u2,rfl,rfl,q1,q2⟩:=NE.Reps.split r2
  exact⟨f1++g1,g2,u::u1,u2,by simp,by simp,by simp only[NE.Reps];exact⟨f1,g1,u,u1,rfl,rfl,r1,q1⟩,q2⟩
 | .ref k n::xs,_,_,_,r=>by
  simp only[NE.Reps,List.cons_append] at r
  obtain⟨u,vs,rfl,r1,r2⟩:=r
  obtain⟨g1,g2,u1,u2,rfl,rfl,q1,q2⟩:=NE.Reps.split r2
  exact⟨g1,g2,u::u1,u2,rfl,by simp,by simp only[NE.Reps];exact⟨u,u1,rfl,r1,q1⟩,q2⟩
theorem NE.Reps.append {E:Env} {h:Hp} {M:Bars} {w:World}:∀ {xs ys:List NE} {f1 f2:List Nat} {u1 u2:List Value},NE.Reps E h M w xs f1 u1→NE.Reps E h M w ys f2 u2→NE.Reps E h M w (xs++ys) (f1++f2) (u1++u2)
 | [],_,_,_,_,_,r,q=>by simp only[NE.Reps] at r;obtain⟨rfl,rfl⟩:=r;simpa using q
 | .tr t::xs,_,_,_,_,_,r,q=>by
  simp only[NE.Reps,List.cons_append] at r ⊢
  obtain⟨g1,g2,u,vs,rfl,rfl,r1,r2⟩:=r
  exact⟨g1,_,u,_,by simp only[List.append_assoc],rfl,r1,NE.Reps.append r2 q⟩
 | .ref k n::xs,_,_,_,_,_,r,q=>by
  simp only[NE.Reps,List.cons_append] at r ⊢
  obtain⟨u,vs,rfl,r1,r2⟩:=r
  exact⟨u,_,rfl,r1,NE.Reps.append r2 q⟩
theorem NE.Reps.trs {E:Env} {h:Hp} {M:Bars} {w:World}:∀ {ts:List Tr} {f:List Nat} {us:List Value},NE.Reps E h M w (ts.map .tr) f us↔Tr.Reps M w ts f us
 | [],_,_=>by simp[NE.Reps,Tr.Reps]
 | t::ts,_,_=>by simp only[List.map_cons,NE.Reps,Tr.Reps,NE.Reps.trs (ts:=ts)]
theorem Zg3 (l:List Tr):(l.map NE.tr).flatMap NE.keys=[]:=by
 have:=ZcR l [] []
 simpa[nes] using this
theorem Zih {M:Bars} {w:World}:∀ {us:List Value},(∀ u∈us,u.oneCell'=true)→D.Reps M w (us.map D.raw) us
 | [],_=>by simp[D.Reps]
 | u::us,h=>by
  simp only[List.map_cons,D.Reps]
  exact⟨[u],us,rfl,⟨rfl,h u (by simp)⟩,Zih (fun x hx=>h x (by simp[hx]))⟩
theorem Zii {M:Bars} {w:World}:∀ {us vs:List Value},D.Reps M w (us.map D.raw) vs→vs=us
 | [],_,h=>by simpa[D.Reps] using h
 | u::us,_,h=>by
  simp only[List.map_cons,D.Reps] at h
  obtain⟨c,r,rfl,h1,h2⟩:=h
  simp only[D.Rep] at h1
  rw[h1.1,Zii h2];rfl
section
variable {G:Ctx} {E:Env} {fr:Fr} {h:Hp} {a:Act} {w:World}
theorem Conc.regroup (C:Conc G E fr h a w) (E':Env) (h2:Hp) (S:Nat→Prop)
  (hoff:∀ j,¬ S j→hget h2 j=hget h j∧E'.blk j=E.blk j∧E'.row j=E.row j∧E'.fp j=E.fp j)
  (hmono:∀ j,(hget h j).isSome=true→(hget h2 j).isSome=true)
  (hblk:∀ j,(hget h j).isSome=true→E'.blk j=E.blk j)
  (hver:∀ j m,S j→verAny h j m→∃ m',verAny h2 j m'∧m≤m'∧(m=m'→E'.row j=E.row j))
  (hverR:∀ j sz n,S j→(hget h j).isSome=true→verRow h2 j sz n→∃ m,verRow h j sz m)
  (hown:∀ j b,S j→blkOf E' h2 j b→∃ i,S i∧blkOf E h i b)
  (hap:∀ j j' b,S j→S j'→blkOf E' h2 j b→blkOf E' h2 j' b→j=j')
  (hobs:Trans E h (bars E h G.o) w E' h2 (bars E' h2 G.o) w→∀ j,S j→∀ ob,hget h2 j=some ob→ObRep E' h2 (bars E' h2 G.o) w j ob)
  (hcl:∀ j,S j→∀ ob,hget h2 j=some ob→∀ i∈ob.keys,(hget h2 i).isSome=true)
  (hlow:∀ j,1000≤j→(hget h2 j).isSome=true→(hget h j).isSome=true):Conc G E' fr h2 a w:=by
 have hbo:∀ j,¬ S j→∀ b,blkOf E' h2 j b↔blkOf E h j b:=fun j hj b=>by
  obtain⟨q1,q2,q3,q4⟩:=hoff j hj
  unfold blkOf;rw[q1,q2,q3,q4]
 have howner:∀ j b,blkOf E' h2 j b→∃ i,blkOf E h i b∧(S j→S i)∧(¬ S j→i=j):=fun j b hb=>by
  by_cases hj:S j
  ·obtain⟨i,q1,q2⟩:=hown j b hj hb
   exact⟨i,q2,fun _=>q1,fun q=>absurd hj q⟩
  ·exact⟨j,(hbo j hj b).1 hb,fun q=>absurd q hj,fun _=>rfl⟩
 have T:Trans E h (bars E h G.o) w E' h2 (bars E' h2 G.o) w:=by
  refine⟨fun j hj _=>hblk j hj,fun j _ m hv=>?_,fun j hj s n hv=>?_,fun t b _ hm=>⟨rfl,?_⟩,Nat.le_refl _⟩
  ·by_cases hj:S j
   ·exact hver j m hj hv
   ·obtain⟨q1,_,q3,_⟩:=hoff j hj
    exact⟨m,by unfold verAny;rw[q1];exact hv,Nat.le_refl _,fun _=>q3⟩
  ·by_cases hs:S j
   ·exact hverR j s n hs hj hv
   ·obtain⟨q1,_⟩:=hoff j hs
    exact⟨n,by unfold verRow at hv ⊢;rw[q1] at hv;exact hv⟩
  ·rintro (⟨j,hj⟩|ho)
   ·obtain⟨i,q,_⟩:=howner j b hj
    exact hm (.inl ⟨i,q⟩)
   ·exact hm (.inr ho)
 refine⟨C.size,C.defers,fun i=>(C.frame i).move T (C.closed i) (fun j hj=>hmono j (C.closed i j hj)),⟨fun j ob hj=>?_,fun j j' b h1 h2'=>?_,fun j ob hj i hi=>?_⟩,fun i j hj=>hmono j (C.closed i j hj),C.ext,fun j b hj=>?_,fun j hj hs=>?_,C.outer,C.sub⟩
 ·by_cases hs:S j
  ·exact hobs T j hs ob hj
  ·obtain⟨q1,q2,q3,q4⟩:=hoff j hs
   rw[q1] at hj
   exact (C.heap.obs j _ hj).move T hj q2 q3 q4 (fun _ _=>rfl) (C.heap.closed j _ hj) (fun i hi=>hmono i (C.heap.closed j _ hj i hi))
 ·obtain⟨i,a1,a2,a3⟩:=howner j b h1
  obtain⟨i',b1,b2,b3⟩:=howner j' b h2'
  have e:=C.heap.apart i i' b a1 b1
  by_cases hs:S j
  ·by_cases hs':S j'
   ·exact hap j j' b hs hs' h1 h2'
   ·exact absurd (e ▸ a2 hs) (by rw[b3 hs'];exact hs')
  ·by_cases hs':S j'
   ·exact absurd (e ▸ b2 hs') (by rw[a3 hs];exact hs)
   ·rw[←a3 hs,←b3 hs',e]
 ·by_cases hs:S j
  ·exact hcl j hs ob hj i hi
  ·rw[(hoff j hs).1] at hj
   exact hmono i (C.heap.closed j _ hj i hi)
 ·obtain⟨i,q,_⟩:=howner j b hj
  exact C.fresh i b q
 ·have hold:=hlow j hj hs
  obtain⟨g0,g1,g2,g3⟩:=C.keep j hj hold
  refine⟨g0,(hblk j hold).trans g1,fun m hm=>?_,fun s n hv=>?_⟩
  ·obtain⟨m1,k1,k2,k3⟩:=g2 m hm
   obtain⟨m2,l1,l2,l3⟩:=T.ver j (hmono j hold) m1 k1
   exact⟨m2,l1,by omega,fun e=>(l3 (by omega)).trans (k3 (by omega))⟩
  ·obtain⟨m,hm⟩:=T.verR j hold s n hv
   exact g3 s m hm
inductive IsTr:Ob→Tr→Nat→Prop
 | row {e:TypeId} {sz n:Nat} {xs:List D} (hn:xs.length=n):IsTr (.row e sz xs) (.row e sz xs) n
 | nest {e:TypeId} {A:List Tr} {n:Nat} (hn:A.length=n):IsTr (.nest e A [] []) (.node e A) n
theorem IsTr.ver {ob:Ob} {t:Tr} {n k:Nat} {h:Hp} (i:IsTr ob t n) (hk:hget h k=some ob):verAny h k n:=by
 cases i with
 | row hn=>exact .inl ⟨_,_,_,hk,hn⟩
 | nest hn=>exact .inr (.inr (.inr ⟨_,_,_,_,hk,by simpa using hn⟩))
def obFp (E:Env) (k:Nat):Ob→List Nat
 | .row ..=>(obOf (E.row k)).toList
 | .nest ..=>(obOf (E.row k)).toList++E.fp k
 | _=>[]
theorem IsTr.blk {ob:Ob} {t:Tr} {n k:Nat} (i:IsTr ob t n) (hk:hget h k=some ob) (b:Nat):b∈obFp E k ob↔blkOf E h k b:=by
 cases i <;> simp[blkOf,hk,obFp]
theorem IsTr.rep {ob:Ob} {t:Tr} {n k:Nat} {M:Bars} (i:IsTr ob t n) (hr:ObRep E h M w k ob):Tr.Rep M w t (obFp E k ob) (E.row k)∧(obFp E k ob).Nodup:=by
 cases i with
 | row hn =>
  simp only[ObRep] at hr
  simp only[Tr.Rep,obFp]
  exact⟨⟨hr,trivial⟩,by cases obOf (E.row k) <;> simp⟩
 | @nest e A n hn =>
  simp only[ObRep,nes,List.map_nil,List.append_nil] at hr
  obtain⟨us,r1,r2,r3⟩:=hr
  simp only[Tr.Rep,obFp]
  exact⟨⟨us,E.fp k,r1,NE.Reps.trs.1 r2,rfl⟩,r3⟩
theorem ZnE {h:Hp} {k n:Nat} (hk:hget h k=some (.dead n)):verAny h k n:=.inr (.inr (.inl hk))
theorem ZaS {h:Hp} {k n:Nat} {e:TypeId} {A:List Tr} {r:List (Nat×Nat)} {B:List Tr} (hk:hget h k=some (.nest e A r B)) (hn:A.length+r.length+B.length=n):verAny h k n:=.inr (.inr (.inr ⟨e,A,r,B,hk,hn⟩))
theorem ZdT {h:Hp} {k n sz:Nat} {e:TypeId} {A:List Tr} {r:List (Nat×Nat)} {B:List Tr} (hk:hget h k=some (.nest e A r B)) (hv:verRow h k sz n):sz=1∧A.length+r.length+B.length=n:=by
 rcases hv with ⟨_,_,h1,_⟩|⟨_,_,_,_,h1,h2,h3⟩ <;> rw[hk] at h1 <;> cases h1
 exact⟨h2,h3⟩
theorem Conc.absorb (C:Conc G E fr h a w) {K k0 n0:Nat} {e:TypeId} {A B:List Tr} {ob:Ob} {t:Tr} (hK:hget h K=some (.nest e A [(k0,n0)] B)) (h0:hget h k0=some ob) (ht:IsTr ob t n0) :
  ∃ E',Conc G E' fr ((K,.nest e (A++t::B) [] [])::(k0,.dead n0)::h) a w:=by
 have hne:k0≠K:=by rintro rfl;rw[hK] at h0;cases h0;cases ht
 obtain⟨us,r1,r2,r3⟩:=C.heap.obs K _ hK
 simp only[nes,List.map_cons,List.map_nil] at r2
 obtain⟨f1,f2,u1,u2,hf,rfl,q1,q2⟩:=r2.split
 simp only[List.cons_append,List.nil_append,NE.Reps,V.Rep] at q2
 obtain⟨u,u3,rfl,⟨m,v1,v2,v3,v4⟩,q3⟩:=q2
 have em:=Zax v1 (ht.ver h0)
 have hu:u=E.row k0:=v4 em.symm
 obtain⟨t1,t2⟩:=ht.rep (C.heap.obs k0 _ h0)
 let F:=f1++(obFp E k0 ob++f2)
 let E':Env:=⟨E.blk,E.row,fun j=>if j=K then F else E.fp j⟩
 refine⟨E',?_⟩
 have hg1:hget ((K,.nest e (A++t::B) [] [])::(k0,.dead n0)::h) K=some (.nest e (A++t::B) [] []):=Zaf _ _ _
 have hg2:hget ((K,.nest e (A++t::B) [] [])::(k0,.dead n0)::h) k0=some (.dead n0):=by rw[Zap _ _ hne.symm,Zaf]
 have hg3:∀ j,¬ (j=K∨j=k0)→hget ((K,.nest e (A++t::B) [] [])::(k0,.dead n0)::h) j=hget h j:=fun j hj=>by
  rw[Zap _ _ (fun q=>hj (.inl q.symm)),Zap _ _ (fun q=>hj (.inr q.symm))]
 generalize ((K,.nest e (A++t::B) [] [])::(k0,.dead n0)::h:Hp)=h2 at hg1 hg2 hg3 ⊢
 have hmono:∀ j,(hget h j).isSome=true→(hget h2 j).isSome=true:=fun j hj=>by
  by_cases e1:j=K
  ·subst e1;rw[hg1];rfl
  ·by_cases e2:j=k0
   ·subst e2;rw[hg2];rfl
   ·rw[hg3 j (by simp[e1,e2])];exact hj
 have hKf:E'.fp K=F:=by simp[E']
 refine C.regroup E' h2 (fun j=>j=K∨j=k0) (fun j hj=>⟨hg3 j hj,rfl,rfl,by simp only[E',if_neg (fun q=>hj (.inl q))]⟩) hmono (fun _ _=>rfl) (fun j m hj hv=>?_) (fun j sz n hj hs hv=>?_) (fun j b hj hb=>?_) (fun j j' b hj hj' h1 h2'=>?_) (fun T j hj ob' ho=>?_) (fun j hj ob' ho i hi=>?_) (fun j _ hj=>?_)
 ·rcases hj with rfl|rfl
  ·have:=Zax hv (ZaS hK rfl)
   exact⟨m,ZaS hg1 (by rw[this];simp;omega),Nat.le_refl _,fun _=>rfl⟩
  ·have:=Zax hv (ht.ver h0)
   exact⟨m,by rw[this];exact ZnE hg2,Nat.le_refl _,fun _=>rfl⟩
 ·rcases hj with rfl|rfl
  ·obtain⟨e1,e2⟩:=ZdT hg1 hv
   exact⟨n,.inr ⟨_,_,_,_,hK,e1,by simp at e2 ⊢;omega⟩⟩
  ·rcases hv with ⟨_,_,h1,_⟩|⟨_,_,_,_,h1,_⟩ <;> rw[hg2] at h1 <;> cases h1
 ·rcases hj with rfl|rfl
  ·unfold blkOf at hb
   rw[hg1] at hb
   simp only[hKf,F,List.mem_append] at hb
   rcases hb with hb|hb|hb|hb
   ·exact⟨j,.inl rfl,by simp[blkOf,hK];exact .inl hb⟩
   ·exact⟨j,.inl rfl,by simp[blkOf,hK];exact .inr (by rw[hf];simp[hb])⟩
   ·exact⟨k0,.inr rfl,(ht.blk h0 b).1 hb⟩
   ·exact⟨j,.inl rfl,by simp[blkOf,hK];exact .inr (by rw[hf];simp[hb])⟩
  ·unfold blkOf at hb;rw[hg2] at hb;cases hb
 ·have nd:∀ b,¬ blkOf E' h2 k0 b:=fun b hb=>by unfold blkOf at hb;rw[hg2] at hb;cases hb
  rcases hj with rfl|rfl <;> rcases hj' with rfl|rfl
  ·rfl
  ·exact absurd h2' (nd b)
  ·exact absurd h1 (nd b)
  ·rfl
 ·rcases hj with rfl|rfl
  ·rw[hg1] at ho;cases ho
   simp only[ObRep]
   refine⟨u1++u::u3,r1.move T.carry (fun _ _=>rfl),?_,?_⟩
   ·rw[hKf]
    have hkk:∀ l:List Tr,∀ k∈(l.map NE.tr).flatMap NE.keys,(hget h k).isSome=true:=fun l k hk=>by rw[Zg3] at hk;cases hk
    have hkk':∀ l:List Tr,∀ k∈(l.map NE.tr).flatMap NE.keys,(hget h2 k).isSome=true:=fun l k hk=>by rw[Zg3] at hk;cases hk
    have p1:=q1.move T (fun _ _=>rfl) (hkk A) (hkk' A)
    have p3:=q3.move T (fun _ _=>rfl) (hkk B) (hkk' B)
    have:nes (A++t::B) [] []=A.map NE.tr++(.tr t::B.map .tr):=by simp[nes]
    rw[this]
    refine p1.append ?_
    simp only[NE.Reps]
    exact⟨_,_,u,u3,rfl,rfl,by rw[hu];exact t1.move T.carry (fun _ _=>rfl),p3⟩
   ·rw[hKf]
    show ((obOf (E.row j)).toList++F).Nodup
    rw[hf] at r3
    have hd:∀ b∈obFp E k0 ob,∀ c∈(obOf (E.row j)).toList++(f1++f2),c≠b:=fun b hb c hc ecb=>by
     subst ecb
     have q:=(ht.blk h0 c).1 hb
     have q':blkOf E h j c:=by
      simp only[blkOf,hK]
      rcases List.mem_append.1 hc with hc|hc
      ·exact .inl (by simpa using hc)
      ·exact .inr (by rw[hf];exact hc)
     exact hne (C.heap.apart _ _ c q q')
    have hp:((obOf (E.row j)).toList++F).Perm (obFp E k0 ob++((obOf (E.row j)).toList++(f1++f2))):=by
     simp only[F]
     refine (List.Perm.append_left _ (List.perm_append_comm_assoc f1 (obFp E k0 ob) f2)).trans ?_
     exact List.perm_append_comm_assoc _ _ _
    rw[hp.nodup_iff,List.nodup_append]
    exact⟨t2,r3,fun b hb c hc ebc=>hd b hb c hc ebc.symm⟩
  ·rw[hg2] at ho;cases ho;trivial
 ·rcases hj with rfl|rfl
  ·rw[hg1] at ho;cases ho;simp[Ob.keys] at hi
  ·rw[hg2] at ho;cases ho;simp[Ob.keys] at hi
 ·by_cases e1:j=K
  ·subst e1;rw[hK];rfl
  ·by_cases e2:j=k0
   ·subst e2;rw[h0];rfl
   ·rw[hg3 j (by simp[e1,e2])] at hj;exact hj
theorem Conc.focus (C:Conc G E fr h a w) {K k0 n0 i:Nat} {e:TypeId} {A:List Tr} {ob:Ob} {t:Tr} (hK:hget h K=some (.nest e A [] [])) (h0:hget h k0=none) (hlow:k0 < 1000) (hi:A[i]?=some t) (ht:IsTr ob t n0) :
  ∃ E',Conc G E' fr ((k0,ob)::(K,.nest e (A.take i) [(k0,n0)] (A.drop (i+1)))::h) a w:=by
 have hne:k0≠K:=by rintro rfl;rw[hK] at h0;cases h0
 obtain⟨us,r1,r2,r3⟩:=C.heap.obs K _ hK
 have hA:A=A.take i++(t::A.drop (i+1)):=Proofs.YtbpmepgnjanhnaaGreat.split_at hi
 have hnes:nes A [] []=(A.take i).map NE.tr++(.tr t::(A.drop (i+1)).map .tr):=by
  rw[show nes A [] []=A.map NE.tr by simp[nes]]
  conv=>lhs;rw[hA]
  simp
 rw[hnes] at r2
 obtain⟨f1,f3,u1,u3,hf,rfl,q1,q2⟩:=r2.split
 simp only[NE.Reps] at q2
 obtain⟨f0,f2,u,u2,rfl,rfl,q0,q2⟩:=q2
 have hsub:∃ g,f0=(obOf u).toList++g∧(match ob with|.nest ..=>True|_=>g=[]):=by
  cases ht with
  | row hn=>simp only[Tr.Rep] at q0;exact⟨[],by simp[q0.2],rfl⟩
  | nest hn=>simp only[Tr.Rep] at q0;obtain⟨_,f',_,_,e1⟩:=q0;exact⟨f',e1,trivial⟩
 obtain⟨g,rfl,hgn⟩:=hsub
 let E':Env:=⟨E.blk,fun j=>if j=k0 then u else E.row j,fun j=>if j=K then f1++f2 else if j=k0 then g else E.fp j⟩
 refine⟨E',?_⟩
 have hg1:hget ((k0,ob)::(K,.nest e (A.take i) [(k0,n0)] (A.drop (i+1)))::h) k0=some ob:=Zaf _ _ _
 have hg2:hget ((k0,ob)::(K,.nest e (A.take i) [(k0,n0)] (A.drop (i+1)))::h) K=some (.nest e (A.take i) [(k0,n0)] (A.drop (i+1))):=by rw[Zap _ _ hne,Zaf]
 have hg3:∀ j,¬ (j=K∨j=k0)→hget ((k0,ob)::(K,.nest e (A.take i) [(k0,n0)] (A.drop (i+1)))::h) j=hget h j:=fun j hj=>by
  rw[Zap _ _ (fun q=>hj (.inr q.symm)),Zap _ _ (fun q=>hj (.inl q.symm))]
 generalize ((k0,ob)::(K,.nest e (A.take i) [(k0,n0)] (A.drop (i+1)))::h:Hp)=h2 at hg1 hg2 hg3 ⊢
 have hmono:∀ j,(hget h j).isSome=true→(hget h2 j).isSome=true:=fun j hj=>by
  by_cases e1:j=K
  ·subst e1;rw[hg2];rfl
  ·by_cases e2:j=k0
   ·subst e2;rw[hg1];rfl
   ·rw[hg3 j (by simp[e1,e2])];exact hj
 have hil:i < A.length:=(List.getElem?_eq_some_iff.1 hi).1
 have hlen:(A.take i).length+[(k0,n0)].length+(A.drop (i+1)).length=A.length:=by simp;omega
 have k1:E'.fp K=f1++f2:=by simp[E']
 have k2:E'.fp k0=g:=by simp[E',hne]
 have k3:E'.row k0=u:=by simp[E']
 have k4:E'.row K=E.row K:=by simp[E',hne.symm]
 have hmemf:∀ b,b∈E.fp K↔b∈f1∨(b∈(obOf u).toList∨b∈g)∨b∈f2:=fun b=>by rw[hf];simp only[List.mem_append]
 have hkb:∀ b,blkOf E' h2 K b↔obOf (E.row K)=some b∨b∈f1∨b∈f2:=fun b=>by simp[blkOf,hg2,k1,k4]
 have h0b:∀ b,blkOf E' h2 k0 b↔b∈(obOf u).toList∨b∈g:=fun b=>by
  cases ht with
  | row hn =>
   simp only at hgn
   subst hgn
   simp[blkOf,hg1,k3]
  | nest hn=>simp[blkOf,hg1,k2,k3]
 have hnd:=r3
 rw[hf] at hnd
 refine C.regroup E' h2 (fun j=>j=K∨j=k0) (fun j hj=>⟨hg3 j hj,rfl,by simp only[E',if_neg (fun q=>hj (.inr q))],by simp only[E',if_neg (fun q=>hj (.inl q)),if_neg (fun q=>hj (.inr q))]⟩) hmono (fun _ _=>rfl) (fun j m hj hv=>?_) (fun j sz n hj hs hv=>?_) (fun j b hj hb=>?_) (fun j j' b hj hj' h1 h2'=>?_) (fun T j hj ob' ho=>?_) (fun j hj ob' ho i' hi'=>?_) (fun j hj1 hj=>?_)
 ·rcases hj with rfl|rfl
  ·have:=Zax hv (ZaS hK rfl)
   exact⟨m,ZaS hg2 (by rw[hlen,this];simp),Nat.le_refl _,fun _=>k4⟩
  ·exact (ZrP h0 hv).elim
 ·rcases hj with rfl|rfl
  ·obtain⟨e1,e2⟩:=ZdT hg2 hv
   exact⟨n,.inr ⟨_,_,_,_,hK,e1,by rw[hlen] at e2;simpa using e2⟩⟩
  ·rw[h0] at hs;cases hs
 ·refine⟨K,.inl rfl,?_⟩
  simp only[blkOf,hK]
  rcases hj with rfl|rfl
  ·rcases (hkb b).1 hb with q|q|q
   ·exact .inl q
   ·exact .inr ((hmemf b).2 (.inl q))
   ·exact .inr ((hmemf b).2 (.inr (.inr q)))
  ·exact .inr ((hmemf b).2 (.inr (.inl ((h0b b).1 hb))))
 ·have cross:∀ b,blkOf E' h2 K b→blkOf E' h2 k0 b→False:=fun b p q=>by
   have q':=(h0b b).1 q
   have q'':b∈(obOf u).toList++g:=by simpa using q'
   rcases (hkb b).1 p with p|p|p
   ·rw[List.nodup_append] at hnd
    exact hnd.2.2 b (by simp[p]) b (by simp only[List.mem_append];exact .inr (.inl (by simpa using q'))) rfl
   ·rw[List.nodup_append] at hnd
    have:=hnd.2.1
    rw[List.nodup_append] at this
    exact this.2.2 b p b (by simp only[List.mem_append];exact .inl (by simpa using q')) rfl
   ·rw[List.nodup_append] at hnd
    have:=hnd.2.1
    rw[List.nodup_append] at this
    have:=this.2.1
    rw[List.nodup_append] at this
    exact this.2.2 b q'' b p rfl
  rcases hj with rfl|rfl <;> rcases hj' with rfl|rfl
  ·rfl
  ·exact (cross b h1 h2').elim
  ·exact (cross b h2' h1).elim
  ·rfl
 ·have hkk:∀ l:List Tr,∀ k∈(l.map NE.tr).flatMap NE.keys,(hget h k).isSome=true:=fun l k hk=>by rw[Zg3] at hk;cases hk
  have hkk':∀ l:List Tr,∀ k∈(l.map NE.tr).flatMap NE.keys,(hget h2 k).isSome=true:=fun l k hk=>by rw[Zg3] at hk;cases hk
  rcases hj with rfl|rfl
  ·rw[hg2] at ho;cases ho
   simp only[ObRep]
   refine⟨u1++u::u2,by rw[k4];exact r1.move T.carry (fun _ _=>rfl),?_,?_⟩
   ·rw[k1]
    simp only[nes,List.map_cons,List.map_nil,List.cons_append,List.nil_append]
    refine (q1.move T (fun _ _=>rfl) (hkk _) (hkk' _)).append ?_
    simp only[NE.Reps,V.Rep]
    exact⟨u,u2,rfl,⟨n0,ht.ver hg1,Nat.le_refl _,q0.one,fun _=>k3.symm⟩,q2.move T (fun _ _=>rfl) (hkk _) (hkk' _)⟩
   ·rw[k1,k4]
    have hs:((obOf (E.row j)).toList++(f1++f2)).Sublist ((obOf (E.row j)).toList++(f1++((obOf u).toList++g++f2))):=by
     refine List.Sublist.append_left (List.Sublist.append_left ?_ _) _
     exact List.sublist_append_right _ _
    exact hs.nodup hnd
  ·rw[hg1] at ho;cases ho
   have q0':=q0.move T.carry (fun _ _=>rfl)
   cases ht with
   | row hn =>
    simp only[Tr.Rep] at q0'
    simp only[ObRep]
    rw[k3];exact q0'.1
   | @nest e' A' _ hn =>
    simp only[Tr.Rep] at q0'
    obtain⟨us',f',p1,p2,p3⟩:=q0'
    have eg:g=f':=List.append_cancel_left p3
    simp only[ObRep]
    refine⟨us',by rw[k3];exact p1,?_,?_⟩
    ·rw[k2,eg,show nes A' [] []=A'.map NE.tr by simp[nes]]
     exact NE.Reps.trs.2 p2
    ·rw[k2,k3]
     have hs:((obOf u).toList++g).Sublist ((obOf (E.row K)).toList++(f1++((obOf u).toList++g++f2))) :=
      ((List.sublist_append_left _ _).trans (List.sublist_append_right _ _)).trans (List.sublist_append_right _ _)
     exact hs.nodup hnd
 ·rcases hj with rfl|rfl
  ·rw[hg2] at ho;cases ho;simp[Ob.keys] at hi';subst hi';rw[hg1];rfl
  ·rw[hg1] at ho;cases ho
   cases ht <;> simp[Ob.keys] at hi'
 ·by_cases e1:j=K
  ·subst e1;rw[hK];rfl
  ·by_cases e2:j=k0
   ·omega
   ·rw[hg3 j (by simp[e1,e2])] at hj;exact hj
end
section
variable {P:Program} {n:Nat} {Q:Exit→Fr→Hp→Prop} {fr:Fr} {h:Hp}
theorem ZdC {c:Code} (K:Nat) {k0 n0:Nat} {e:TypeId} {A B:List Tr} {ob:Ob} {t:Tr} (hK:hget h K=some (.nest e A [(k0,n0)] B)) (h0:hget h k0=some ob) (ht:IsTr ob t n0)
  (hc:aw P n c Q fr ((K,.nest e (A++t::B) [] [])::(k0,.dead n0)::h)):aw P n c Q fr h:=fun G E a w hn C=>by
 obtain⟨E',C'⟩:=C.absorb hK h0 ht
 exact hc G E' a w hn C'
theorem Zg4 {c:Code} (K k0 i:Nat) {n0:Nat} {e:TypeId} {A:List Tr} {ob:Ob} {t:Tr} (hK:hget h K=some (.nest e A [] [])) (h0:hget h k0=none) (hlow:Nat.blt k0 1000=true) (hi:A[i]?=some t) (ht:IsTr ob t n0)
  (hc:aw P n c Q fr ((k0,ob)::(K,.nest e (A.take i) [(k0,n0)] (A.drop (i+1)))::h)):aw P n c Q fr h:=fun G E a w hn C=>by
 obtain⟨E',C'⟩:=C.focus hK h0 (by simpa[Nat.blt_eq] using hlow) hi ht
 exact hc G E' a w hn C'
theorem ZnF {c:Code} (i k k':Nat) {m e sz:Nat} {xs:List D} (hi:fget fr i=.own k m) (hk:hget h k=some (.row e sz xs)) (hm:xs.length=m) (F:Fr) (H:Hp) (hk':hget ((k,.row e sz xs)::H) k'=none) (hlow:Nat.blt k' 1000=true)
  (hI:(frIn ((k,.row e sz xs)::H) ((i,.own k m)::F) && hpIn ((k,.row e sz xs)::H) ((k,.row e sz xs)::H))=true) (hf:FLe fr F) (hh:HLe h H)
  (hc:aw P n c Q ((i,.own k' m)::(i,.own k m)::F) ((k',.row e sz xs)::(k,.dead m)::(k,.row e sz xs)::H)):aw P n c Q fr h :=
 Zm4 ((i,.own k m)::F) ((k,.row e sz xs)::H) ⟨VLe.of hi,hf⟩ ⟨HElt.of hk,hh⟩ hI (Zvi i k' (ZaM _ _ _) (Zaf _ _ _) hm hk' hlow hc)
end
end Go.Proofs.YtbpmepgnjanhnaaGreat
namespace Go.Proofs.YtbpmepgnjanhnaaGreat
open Go.RowKit
section
variable {G:Ctx} {E:Env} {fr:Fr} {h:Hp} {a:Act} {w:World}
theorem Conc.newNest (C:Conc G E fr h a w) {k:Nat} (hk:hget h k=none) (hlow:Nat.blt k 1000=true) {e:TypeId} {r:List (Nat×Nat)} {us:List Value} {v:Value} {w':World} (hE:Ext NoB w w') (hb:∀ b,obOf v=some b→w.heap.size≤b)
  (hrow:∀ M',Carry (bars E h G.o) M' w w'→RowAt M' w' e 1 v (us.map D.raw)) (hne:NE.Reps E h (bars E h G.o) w (nes [] r []) [] us) (hcl:∀ j∈r.map Prod.fst,(hget h j).isSome=true) :
  ∃ E',Conc G E' fr ((k,.nest e [] r [])::h) a w'∧E'.row k=v:=by
 refine⟨⟨E.blk,fun j=>if j=k then v else E.row j,fun j=>if j=k then [] else E.fp j⟩,?_,by simp⟩
 have U:Upd E h w k (.nest e [] r []) ⟨E.blk,fun j=>if j=k then v else E.row j,fun j=>if j=k then [] else E.fp j⟩ w' :=
  ⟨fun _ _=>rfl,fun j hj=>by simp[hj],fun j hj=>by simp[hj],fun _=>rfl,fun _=>by simpa[Nat.blt_eq] using hlow,fun m hm=>(ZrP hk hm).elim,(fun hs=>by rw[hk] at hs;cases hs),hE.mono (fun _ hf=>hf.elim),
   (fun b hb'=>by unfold blkOf at hb';rw[Zaf] at hb';simp at hb';exact .inr (hb b hb'))⟩
 refine C.upd U ?_ (fun j hj=>U.mono j (hcl j (by simpa[Ob.keys] using hj)))
 simp only[ObRep]
 refine⟨us,by simp only[if_true];exact hrow _ (U.carry G.o),?_,?_⟩
 ·simp only[if_true]
  exact hne.move (U.trans G.o) (fun b hb=>by cases hb) (by rw[ZcR];exact hcl) (by rw[ZcR];exact fun j hj=>U.mono j (hcl j hj))
 ·simp only[if_true]
  cases obOf v <;> simp
theorem Conc.setNest (C:Conc G E fr h a w) {k:Nat} {e:TypeId} {A B A' B':List Tr} {r r':List (Nat×Nat)} (hk:hget h k=some (.nest e A r B)) {us:List Value} {v:Value} {w':World} (hE:Ext (fun b=>obOf (E.row k)=some b) w w')
  (hb:∀ b,obOf v=some b→obOf (E.row k)=some b∨w.heap.size≤b) (hlen:A.length+r.length+B.length≤A'.length+r'.length+B'.length) (hsame:A.length+r.length+B.length=A'.length+r'.length+B'.length→v=E.row k)
  (hrow:∀ M',Carry (bars E h G.o) M' w w'→RowAt M' w' e 1 v (us.map D.raw)) (hne:NE.Reps E h (bars E h G.o) w (nes A' r' B') (E.fp k) us) (hcl:∀ j∈r'.map Prod.fst,(hget h j).isSome=true) :
  ∃ E',Conc G E' fr ((k,.nest e A' r' B')::h) a w'∧E'.row k=v:=by
 refine⟨⟨E.blk,fun j=>if j=k then v else E.row j,E.fp⟩,?_,by simp⟩
 have hbk:∀ b,blkOf E h k b↔obOf (E.row k)=some b∨b∈E.fp k:=fun b=>by simp[blkOf,hk]
 obtain⟨us0,r1,r2,r3⟩:=C.heap.obs k _ hk
 have hflt:∀ b∈E.fp k,b < w.heap.size:=r2.lt
 have U:Upd E h w k (.nest e A' r' B') ⟨E.blk,fun j=>if j=k then v else E.row j,E.fp⟩ w':=by
  refine⟨fun _ _=>rfl,fun j hj=>by simp[hj],fun _ _=>rfl,fun _=>rfl,(fun hn=>by rw[hk] at hn;cases hn),fun m hm=>?_,fun _ sz' n' hv=>?_,hE.mono (fun b hb=>(hbk b).2 (.inl hb)),fun b hb'=>?_⟩
  ·have e1:=Zax hm (ZaS hk rfl)
   exact⟨_,ZaS (Zaf _ _ _) rfl,by omega,fun q=>by simp[hsame (by omega)]⟩
  ·obtain⟨e1,e2⟩:=ZdT (Zaf _ _ _) hv
   exact⟨_,.inr ⟨_,_,_,_,hk,e1,rfl⟩⟩
  ·unfold blkOf at hb'
   rw[Zaf] at hb'
   simp only[if_true] at hb'
   rcases hb' with hb'|hb'
   ·rcases hb b hb' with q|q
    ·exact .inl ((hbk b).2 (.inl q))
    ·exact .inr q
   ·exact .inl ((hbk b).2 (.inr hb'))
 refine C.upd U ?_ (fun j hj=>U.mono j (hcl j (by simpa[Ob.keys] using hj)))
 simp only[ObRep]
 have hdis:∀ b∈E.fp k,obOf (E.row k)≠some b:=fun b hb q=>by
  rw[List.nodup_append] at r3
  exact r3.2.2 b (by simp[q]) b hb rfl
 refine⟨us,by simp only[if_true];exact hrow _ (U.carry G.o),?_,?_⟩
 ·exact hne.move (U.trans G.o) (fun b hb=>hE.block b (hflt b hb) (hdis b hb)) (by rw[ZcR];exact hcl) (by rw[ZcR];exact fun j hj=>U.mono j (hcl j hj))
 ·simp only[if_true]
  rw[List.nodup_append] at r3 ⊢
  refine⟨by cases obOf v <;> simp,r3.2.1,fun b hb1 c hc ebc=>?_⟩
  subst ebc
  rcases hb b (by simpa using hb1) with q|q
  ·exact hdis b hc q
  ·have:=hflt b hc;omega
mutual
def Tr.toD:Tr→D
 | .row _ sz xs=>.sl false sz xs
 | .node _ ts=>.sl false 1 (Tr.toDs ts)
def Tr.toDs:List Tr→List D
 | []=>[]
 | t::ts=>t.toD::Tr.toDs ts
end
theorem Tr.toDs_map:∀ (ts:List Tr),Tr.toDs ts=ts.map Tr.toD
 | []=>rfl
 | t::ts=>by simp[Tr.toDs,Tr.toDs_map ts]
theorem Tr.toD_size (t:Tr):t.toD.size=1:=by cases t <;> rfl
theorem RowAt.rep {M M':Bars} {w:World} {e sz:Nat} {v:Value} {xs ds:List D} (hr:RowAt M w e sz v xs) (hlen:ds.length=xs.length) (hsz:∀ x∈ds,x.size=sz) (hds:∀ us,D.Reps M w xs us→D.Reps M' w ds us) (hm:∀ b,obOf v=some b→¬ M' false b) :
  D.Rep M' w (.sl false sz ds) [v]:=by
 simp only[D.Rep]
 obtain⟨ad,cap,h1,h2,h3⟩:=hr.shape
 by_cases hne:xs=[]
 ·subst hne
  have:ds=[]:=List.eq_nil_of_length_eq_zero hlen
  subst this
  exact⟨ad,cap,[],by rw[h1],h2,h3,by simp,by simp[D.Reps],by simp⟩
 ·obtain⟨g,off,cap',us,k1,k2,k3,k4,k5,k6⟩:=hr.cells hne
  rw[h1] at k1
  simp only[Value.slice.injEq] at k1
  obtain⟨rfl,_,rfl⟩:=k1
  exact⟨_,cap,us,by rw[h1,hlen],by omega,h3,hsz,hds us k3,fun _=>⟨g,off,rfl,hm g k2,k5,k6⟩⟩
mutual
theorem Tr.Rep.toD {M M':Bars} {w:World} (hb:Carry M M' w w):∀ {t:Tr} {f:List Nat} {u:Value},(∀ b∈f,¬ M' false b)→Tr.Rep M w t f u→D.Rep M' w t.toD [u]
 | .row e sz xs,f,u,hf,r=>by
  simp only[Tr.Rep] at r
  obtain⟨r1,rfl⟩:=r
  simp only[Tr.toD]
  exact r1.rep rfl r1.1 (fun us q=>q.carry hb) (fun b hb=>hf b (by simp[hb]))
 | .node e ts,f,u,hf,r=>by
  simp only[Tr.Rep] at r
  obtain⟨us,f',r1,r2,rfl⟩:=r
  simp only[Tr.toD]
  have q2:=Tr.Reps.toDs hb (fun b hb=>hf b (by simp[hb])) r2
  refine r1.rep ?_ (fun x hx=>?_) (fun vs q=>?_) (fun b hb=>hf b (by simp[hb]))
  ·have:=q2.length
   rw[Tr.toDs_map] at this ⊢
   rw[D.sizes_eq (sz:=1) (fun x hx=>by obtain⟨t,_,rfl⟩:=List.mem_map.1 hx;exact Tr.toD_size t)] at this
   simp at this ⊢;exact this.symm
  ·rw[Tr.toDs_map] at hx
   obtain⟨t,_,rfl⟩:=List.mem_map.1 hx
   exact Tr.toD_size t
  ·rw[Zii q];exact q2
theorem Tr.Reps.toDs {M M':Bars} {w:World} (hb:Carry M M' w w):∀ {ts:List Tr} {f:List Nat} {us:List Value},(∀ b∈f,¬ M' false b)→Tr.Reps M w ts f us→D.Reps M' w (Tr.toDs ts) us
 | [],_,_,_,r=>by simp only[Tr.Reps] at r;obtain⟨_,rfl⟩:=r;simp[Tr.toDs,D.Reps]
 | t::ts,_,_,hf,r=>by
  simp only[Tr.Reps] at r
  obtain⟨f1,f2,u,vs,rfl,rfl,r1,r2⟩:=r
  simp only[Tr.toDs,D.Reps]
  exact⟨[u],vs,rfl,Tr.Rep.toD hb (fun b hb=>hf b (by simp[hb])) r1,Tr.Reps.toDs hb (fun b hb=>hf b (by simp[hb])) r2⟩
end
theorem Conc.frozN (C:Conc G E fr h a w) {k:Nat} {e:TypeId} {A:List Tr} (hk:hget h k=some (.nest e A [] [])):Conc G E fr ((k,.froz 1 (Tr.toDs A))::h) a w:=by
 have hl:(Tr.toDs A).length=A.length:=by rw[Tr.toDs_map];simp
 have U:Upd E h w k (.froz 1 (Tr.toDs A)) E w :=
  ⟨fun _ _=>rfl,fun _ _=>rfl,fun _ _=>rfl,fun _=>rfl,(fun hn=>by rw[hk] at hn;cases hn),
   fun m hm=>⟨m,.inr (.inl ⟨1,Tr.toDs A,Zaf _ _ _,by have:=Zax hm (ZaS hk rfl);simp at this;omega⟩),Nat.le_refl _,fun _=>rfl⟩,
   (fun _ sz' n' hv=>by rcases hv with ⟨_,_,h1,_⟩|⟨_,_,_,_,h1,_⟩ <;> (rw[Zaf] at h1;cases h1)),
   Ext.refl _ _,(fun b hb=>by unfold blkOf at hb;rw[Zaf] at hb;cases hb)⟩
 refine C.upd U ?_ (by simp[Ob.keys])
 obtain⟨us,r1,r2,r3⟩:=C.heap.obs k _ hk
 have t:Tr.Rep (bars E h G.o) w (.node e A) ((obOf (E.row k)).toList++E.fp k) (E.row k):=by
  simp only[Tr.Rep]
  exact⟨us,E.fp k,r1,NE.Reps.trs.1 (by simpa[nes] using r2),rfl⟩
 have:=t.toD (M':=bars E ((k,.froz 1 (Tr.toDs A))::h) G.o) ⟨fun t b hb hm=>⟨rfl,((U.carry G.o).1 t b hb hm).2⟩,Nat.le_refl _⟩ (fun b hb=>by
  have hgl:blkOf E h k b:=by simp[blkOf,hk];simpa using hb
  rintro (⟨j,hj⟩|ho)
  ·by_cases e:j=k
   ·subst e;unfold blkOf at hj;rw[Zaf] at hj;cases hj
   ·rw[U.blkOf_other e] at hj
    exact e (C.heap.apart j k b hj hgl)
  ·obtain⟨o1,o2⟩:=C.outer _ _ ho
   rcases C.fresh k b hgl with f1|f1
   ·exact o2 f1
   ·omega)
 simpa only [ObRep,Tr.toD] using this
end
section
variable {P:Program} {n:Nat} {Q:Exit→Fr→Hp→Prop} {fr:Fr} {h:Hp}
theorem ZtO {c:Code} (k:Nat) {e:TypeId} {A:List Tr} (hk:hget h k=some (.nest e A [] [])) (hc:aw P n c Q fr ((k,.froz 1 (Tr.toDs A))::h)):aw P n c Q fr h :=
 fun G E a w hn C=>hc G E a w hn (C.frozN hk)
theorem Zr8 {c:Code} (i k e:Nat) (hi:fget fr i=.d (.raw (.slice none 0 0))) (hk:hget h k=none) (hlow:Nat.blt k 1000=true) (hc:aw P n c Q ((i,.own k 0)::fr) ((k,.nest e [] [] [])::h)):aw P n c Q fr h:=by
 intro G E a w hn C
 obtain⟨E',C',hE⟩:=C.newNest (k:=k) (e:=e) (r:=[]) (us:=[]) (v:=.slice none 0 0) hk hlow (Ext.refl _ w) (fun b hb=>by simp[obOf] at hb) (fun M' _=>⟨by simp,.inl ⟨none,rfl,rfl⟩⟩) (by simp[nes,NE.Reps]) (by simp)
 refine hc G E' a w hn ⟨C'.size,C'.defers,fun j=>?_,C'.heap,fun j=>?_,C'.ext,C'.fresh,C'.keep,C'.outer,C'.sub⟩
 ·by_cases e:i=j
  ·subst e
   rw[ZaM]
   have hf:=C'.frame i
   rw[hi] at hf
   simp only[V.Rep,D.RepV,D.Rep,List.cons.injEq,and_true] at hf
   simp only[V.Rep]
   exact⟨0,ZaS (Zaf _ _ _) rfl,Nat.le_refl _,by rw[hf.1];exact hf.2,fun _=>by rw[hE];exact hf.1⟩
  ·rw[ZaI _ _ e];exact C'.frame j
 ·by_cases e:i=j
  ·subst e;rw[ZaM];intro q hq;simp[V.keys] at hq;subst hq;rw[Zaf];rfl
  ·rw[ZaI _ _ e];exact C'.closed j
end
section
variable {P:Program} {n:Nat} {dr:Bool} {ops:Array Oper} {rest:List Oper} {log:List Rec} {K:Exit→Fr→Hp→Prop} {fr:Fr} {h:Hp}
variable {d:Nat} {ty:TypeId} {pos:String} {after:Array Edge} {g:Option (Nat×Bool)}
variable (T:TT P)
theorem Zud {x:Operand} {t e k0 n0:Nat} {y ye:Ty} {z:Value} (hdn:Nat.blt d n=true) (hlow:Nat.blt d 1000=true) (hg:gOk ops fr g) (hx:oev fr x=.own k0 n0) (hk:hget h d=none)
  (ht:T.rows[t]?=some y) (hel:y.elem=some e) (hte:T.rows[e]?=some ye) (hz:ye.zero=some z) (hsz:Nat.beq ye.size 1=true)
  (hr:dops P n dr ops rest (⟨(gIns ops g++Zay x (.own k0 n0)).map Prod.fst,[d],[d],[d]⟩::log) K ((d,.own d 1)::fr) ((d,.nest e [] [(k0,n0)] [])::h)):dops P n dr ops (⟨some d,.buildSlice t 1 #[(0,x)],ty,pos,after,g⟩::rest) log K fr h:=by
 refine Zav (ins:=gIns ops g++Zay x (.own k0 n0)) (objs:=[(d,none)]) (v:=.own d 1) (upd:=[(d,.nest e [] [(k0,n0)] [])]) (LStep.updV rfl hdn rfl hg _ _ _ _ fun G E fr' h' a w C hi ho=>?_) (ZbN hg (Zbj hx)) (by simpa using hk) hr
 have hk':hget h' d=none:=ho (d,none) (by simp)
 obtain⟨r1,r2⟩:=C.oev (Zcb hx hi) (Zao (Zaj hx rfl))
 have hs:=Nat.eq_of_beq_eq_true hsz
 have h1:(a.eval x).oneCell'=true:=by simp only[V.Rep] at r1;obtain⟨_,_,_,h0,_⟩:=r1;exact h0
 have hc1:(a.eval x).cells=#[a.eval x]:=by cases hq:a.eval x <;> simp_all [Value.cells,Value.oneCell']
 have hrun:=ZeJ T ht hel hte hz (by omega) (len:=1) (by omega) (qs:=[(0,a.eval x)]) (us:=[a.eval x]) rfl rfl (by simp[hc1,hs]) w
 obtain⟨E',C',hE⟩:=C.newNest (k:=d) (e:=e) (r:=[(k0,n0)]) (us:=[a.eval x]) (v:=.slice (some ⟨w.heap.size,0,none⟩) 1 1) hk' hlow (Ext.new w (.cells ([a.eval x].flatMap fun u=>u.cells.toList).toArray e)) (fun b hb=>by simp[obOf] at hb;omega) (fun M' hM=>by
  refine⟨by simp[D.size],.inr ⟨w.heap.size,0,1,_,rfl,by omega,heap_alloc_new w _,by simp,by simp[maxLen],by simp[hc1],?_⟩⟩
  simp only[List.flatMap_cons,List.flatMap_nil,hc1]
  exact Zih (by simpa using h1)) (by
  simp only[nes,List.map_cons,List.map_nil,List.nil_append,List.append_nil,NE.Reps]
  exact⟨_,_,rfl,r1,trivial,rfl⟩) (fun j hj=>r2 j (by simpa[V.keys] using hj))
 refine⟨.slice (some ⟨w.heap.size,0,none⟩) 1 1,E',_,?_,C',?_,by intro q hq;simp[V.keys] at hq;subst hq;simp[Zaf]⟩
 ·show (do let x ←Instr.buildSlice t 1 (#[(0,x)].map fun p=>(p.1,a.eval p.2));pure (Next.value x):Sem Next).run P w=_
  rw[show (#[(0,x)].map fun p=>(p.1,a.eval p.2))=[(0,a.eval x)].toArray by simp,Sem.run_bind,hrun]
  rfl
 ·simp only[V.Rep]
  exact⟨1,ZaS (Zaf _ _ _) rfl,Nat.le_refl _,rfl,fun _=>hE.symm⟩
theorem Zue {x xy:Operand} {t e k m k1 k0 n0:Nat} {A:List Tr} {e1:TypeId} {y ye:Ty} {z:Value} (hdn:Nat.blt d n=true) (hg:gOk ops fr g) (hx:oev fr x=.own k m) (hy:oev fr xy=.own k1 1) (hk:hget h k=some (.nest e A [] [])) (hm:A.length=m) (hk1:hget h k1=some (.nest e1 [] [(k0,n0)] []))
  (hk0:(hget h k0).isSome=true) (ht:T.rows[t]?=some y) (hel:y.elem=some e) (hte:T.rows[e]?=some ye) (hz:ye.zero=some z) (hsz:Nat.beq ye.size 1=true) (hzs:Nat.beq z.cells.size 1=true) {nb:Nat} (hnb:ye.bytes=nb) (hbytes:(m+1) * nb≤140737488355328) (h63:m+1≤4611686018427387904)
  (hr:dops P n dr ops rest (⟨(gIns ops g++Zan [x,xy] [.own k m,.own k1 1]).map Prod.fst,[d],[k,k1],[k]⟩::log) K ((d,.own k (m+1))::fr) ((k,.nest e A [(k0,n0)] [])::h)) :
  dops P n dr ops (⟨some d,.call { callee:=.builtin .append,args:=#[x,xy],argTypes:=#[t,t] },ty,pos,after,g⟩::rest) log K fr h:=by
 subst hnb;subst hm
 refine Zav (ins:=gIns ops g++Zan [x,xy] [.own k A.length,.own k1 1]) (objs:=[(k,some (.nest e A [] [])),(k1,some (.nest e1 [] [(k0,n0)] []))]) (v:=.own k (A.length+1)) (upd:=[(k,.nest e A [(k0,n0)] [])]) (LStep.updV rfl hdn rfl hg _ _ _ _ fun G E fr' h' a w C hi ho=>?_) (ZbN hg (Za5 ⟨hx,hy,trivial⟩)) (by simp[hk,hk1]) hr
 have hk':hget h' k=some (.nest e A [] []):=ho (k,_) (by simp)
 have hk1':hget h' k1=some (.nest e1 [] [(k0,n0)] []):=ho (k1,_) (by simp)
 have hx':=Zbx (xs:=[x,xy]) (vs:=[.own k A.length,.own k1 1]) ⟨hx,hy,trivial⟩ hi
 simp only[oevs] at hx'
 obtain⟨p1,_⟩:=C.oev hx'.1 (Zao (Zaj hx rfl))
 obtain⟨q1,_⟩:=C.oev hx'.2.1 (Zao (Zaj hy rfl))
 simp only[V.Rep] at p1 q1
 obtain⟨m',v1,_,_,v4⟩:=p1
 have hev:=v4 (Zax v1 (ZaS hk' (by simp))).symm
 obtain⟨m2,u1,_,_,u4⟩:=q1
 have hev2:=u4 (Zax u1 (ZaS hk1' (by simp))).symm
 obtain⟨us,r1,r2,r3⟩:=C.heap.obs k _ hk'
 obtain⟨us2,s1,s2,s3⟩:=C.heap.obs k1 _ hk1'
 simp only[nes,List.map_cons,List.map_nil,List.nil_append,List.append_nil,NE.Reps] at s2
 obtain⟨u,vs,rfl,s4,s5,rfl⟩:=s2
 have hul:us.length=A.length:=by have:=r2.length;rw[Zgd] at this;simpa using this
 have hsa:ZpN (bars E h' G.o) w 1 (a.eval xy) [D.raw u]:=by
  rw[hev2]
  obtain⟨gb,off,cap,us',q1,_,q3,q4,_,q6⟩:=s1.cells (by simp)
  exact⟨_,cap,us',q1,q3,by simp[D.size],fun _=>⟨gb,off,rfl,q6⟩⟩
 obtain⟨v',w',r1',r0,r2',r3',r4⟩:=Zna T (fun b=>obOf (E.row k)=some b) (ty:=ty) (xs:=us.map D.raw) ht hel hte hz (Nat.eq_of_beq_eq_true hsz) (by omega) (Nat.eq_of_beq_eq_true hzs) hsa (by simpa[hul] using hbytes) (by simpa[hul] using h63) (by simp) (.inl ⟨r1,fun b hb=>hb⟩)
 have hk0':(hget h' k0).isSome=true:=C.heap.closed k1 _ hk1' k0 (by simp[Ob.keys])
 obtain⟨E',C',hE⟩:=C.setNest (A':=A) (r':=[(k0,n0)]) (B':=[]) (us:=us++[u]) hk' (v:=v') r2' r3' (by simp) (fun q=>by simp at q) (fun M' hM=>by simpa using r4 M' hM) (by
  have e2:nes A [(k0,n0)] []=nes A [] []++[.ref k0 n0]:=by simp[nes]
  rw[e2,←List.append_nil (E.fp k)]
  exact r2.append (by simp only[NE.Reps];exact⟨u,[],rfl,s4,trivial,rfl⟩)) (by simpa using hk0')
 refine⟨v',E',w',Ze4 (by rw[hev];exact r1'),C',?_,by intro q hq;simp[V.keys] at hq;subst hq;simp[Zaf]⟩
 simp only[V.Rep]
 exact⟨_,ZaS (Zaf _ _ _) (by simp),Nat.le_refl _,r0,fun _=>hE.symm⟩
theorem Za2 {x ix:Operand} {st e:Nat} {y ye:Ty} {k m:Nat} {e':TypeId} {A B:List Tr} {l:List (Nat×Nat)} {ik:IntKind} {c:Int} (i:Nat) (hdn:Nat.blt d n=true) (hg:gOk ops fr g) (hx:oev fr x=.own k m) (hk:hget h k=some (.nest e' A l B)) (hm:A.length+l.length+B.length=m) (hy:oev fr ix=.d (.raw (.int ik c))) (hc:c=(i:Int)) (hlt:i < m)
  (ht:T.rows[st]?=some y) (he:y.elem=some e) (hte:T.rows[e]?=some ye) (hsz:Nat.beq ye.size 1=true)
  (hr:dops P n dr ops rest (⟨(gIns ops g++(Zay x (.own k m)++Zay ix (.d (.raw (.int ik c))))).map Prod.fst,[d],[k],[]⟩::log) K ((d,.optr k m i 0)::fr) h):dops P n dr ops (⟨some d,.indexAddr st x ix,ty,pos,after,g⟩::rest) log K fr h:=by
 have hone:Zaz x=true:=Zaj hx rfl
 refine Zu9 x ix _ ik c (.optr k m i 0) [(k,some (.nest e' A l B))] (by simpa using hk) hone (fun G E fr h a w C ho r hkk hyv=>?_) hdn hg hx hy hr
 have hk':=ho (k,some (.nest e' A l B)) (by simp)
 simp only[V.Rep] at r
 obtain⟨m',h1,h2,h0,h3⟩:=r
 have e1:=Zax h1 (ZaS hk' hm)
 obtain⟨us,r1,r2,_⟩:=C.heap.obs k _ hk'
 have hul:us.length=m:=by rw[r2.length,Zgd];exact hm
 obtain⟨b,o,cap,vs,q1,_⟩:=r1.cells (by intro q;have:=congrArg List.length q;simp only[List.length_map,List.length_nil] at this;omega)
 have hs:=Nat.eq_of_beq_eq_true hsz
 have hev:a.eval x=.slice (some ⟨b,o,none⟩) us.length cap:=by rw[h3 e1.symm,q1];simp
 refine⟨.pointer (some ⟨b,o+i * 1,none⟩),?_,?_,by simpa[V.keys] using hkk⟩
 ·simp only[execOp,hev,hyv,hc,Sem.run_bind,Zcu T ht he hte b o us.length cap i ik (by omega),Result.andThen_ok,Sem.run_pure,hs]
 ·simp only[V.Rep]
  refine⟨m',h1,h2,rfl,fun _ sz' hv=>?_⟩
  obtain⟨q2,_⟩:=ZdT hk' hv
  subst q2
  exact⟨b,o,cap,by rw[q1];simp[hul],by simp⟩
theorem Zdl {x:Operand} {t:TypeId} {y:Ty} {k m i k0 n0:Nat} {e':TypeId} {A B:List Tr} (hdn:Nat.blt d n=true) (hg:gOk ops fr g) (hx:oev fr x=.optr k m i 0) (hk:hget h k=some (.nest e' A [(k0,n0)] B)) (hm:A.length+1+B.length=m) (hi:A.length=i)
  (ht:T.rows[t]?=some y) (hrow:y.row=false)
  (hr:dops P n dr ops rest (⟨(gIns ops g++Zay x (.optr k m i 0)).map Prod.fst,[d],[k],[]⟩::log) K ((d,.own k0 n0)::fr) h):dops P n dr ops (⟨some d,.load t x,ty,pos,after,g⟩::rest) log K fr h:=by
 have hone:Zaz x=true:=Zaj hx rfl
 refine d_un x _ (.own k0 n0) [(k,some (.nest e' A [(k0,n0)] B))] (by simpa using hk) hone (fun G E fr h a w C ho r hkk=>?_) hdn hg hx hr
 have hk':=ho (k,some (.nest e' A [(k0,n0)] B)) (by simp)
 simp only[V.Rep] at r
 obtain⟨m',h1,h2,h0,h3⟩:=r
 have e1:=Zax h1 (ZaS hk' (by simpa using hm))
 obtain⟨b,o,cap,h5,h4⟩:=h3 e1.symm 1 (.inr ⟨_,_,_,_,hk',rfl,by simpa using hm⟩)
 obtain⟨us,r1,r2,_⟩:=C.heap.obs k _ hk'
 have hul:us.length=m:=by rw[r2.length,Zgd];simpa using hm
 obtain⟨gb,off,cap',vs,q1,_,q3,q4,_,q6⟩:=r1.cells (by intro q;have:=congrArg List.length q;simp only[List.length_map,List.length_nil] at this;omega)
 rw[q1] at h5
 simp only[Value.slice.injEq,Option.some.injEq,Addr.mk.injEq,and_true] at h5
 obtain⟨⟨rfl,rfl⟩,_,rfl⟩:=h5
 have evs:vs=us:=Zii q3
 subst evs
 simp only[nes,List.map_cons,List.map_nil] at r2
 obtain⟨f1,f2,u1,u2,_,rfl,p1,p2⟩:=r2.split
 simp only[List.cons_append,List.nil_append,NE.Reps] at p2
 obtain⟨u,u3,rfl,p3,_⟩:=p2
 have hl1:u1.length=i:=by rw[p1.length];simpa using hi
 have hcell:w.cell? ⟨gb,off+i,none⟩=some u:=by
  rw[q6 i (by simp;omega),List.getElem?_append_right (by omega),hl1];simp
 obtain⟨_,ds,_,g2,_,_,g5,_⟩:=ZaC (T.at ht)
 refine⟨u,?_,p3,fun j hj=>?_⟩
 ·simp only[Nat.mul_one,Nat.add_zero] at h4
  have:=Zcy (P:=P) g2 (by rw[g5];exact hrow) hcell
  simp only[execOp,h4,Sem.run_bind,this,Result.andThen_ok,Sem.run_pure]
 ·simp[V.keys] at hj;subst hj
  exact C.heap.closed k _ hk' _ (by simp[Ob.keys])
end
end Go.Proofs.YtbpmepgnjanhnaaGreat
namespace Go.Proofs.YtbpmepgnjanhnaaGreat
open Go.RowKit
abbrev ML:=List ((Int×Int×Int)×Int)
def lkp:ML→Int×Int×Int→Option Int
 | [],_=>none
 | x::r,k=>if k=x.1 then some x.2 else lkp r k
def sto:ML→Int×Int×Int→Int→ML
 | [],k,n=>[(k,n)]
 | x::r,k,n=>if k=x.1 then (k,n)::r else x::sto r k n
theorem Zr9:∀ {l:ML} {k:Int×Int×Int} {n:Int},lkp l k=some n→(k,n)∈l
 | [],_,_,h=>by simp[lkp] at h
 | x::r,k,n,h=>by
  simp only[lkp] at h
  split at h
  ·rename_i e;cases h;subst e;simp
  ·exact List.mem_cons_of_mem _ (Zr9 h)
theorem Zsa:∀ {l:ML} {k:Int×Int×Int} {n:Int} {x},x∈sto l k n→x=(k,n)∨x∈l
 | [],_,_,_,h=>by simp[sto] at h;exact .inl h
 | y::r,k,n,x,h=>by
  simp only[sto] at h
  split at h
  ·rcases List.mem_cons.1 h with h|h
   ·exact .inl h
   ·exact .inr (List.mem_cons_of_mem _ h)
  ·rcases List.mem_cons.1 h with h|h
   ·exact .inr (by simp[h])
   ·exact (Zsa h).imp id (List.mem_cons_of_mem _)
structure KeyRun (P:Program) (mt kt et:TypeId):Prop where
 hm:P.underlying mt=some (.map kt et)
 chk:∀ (em:Bool) (k:Int×Int×Int) (w:World),(Instr.checkKey em 10000 kt (spK k)).run P w=.ok () w
 now:∃ ds,P.underlying kt=some ds∧∀ k k':Int×Int×Int,Instr.sameNow ds (spK k) (spK k')=none
 eq:∀ (k k':Int×Int×Int) (w:World),(Op.equal kt (spK k) (spK k')).run P w=.ok (decide (k=k')) w
 zero:∀ w:World,(zeroValue et).run P w=.ok (.int .i64 0) w
def lkI:ML→Int×Int×Int→Nat→Option (Nat×Value)
 | [],_,_=>none
 | x::r,k,i=>if k=x.1 then some (i,.int .i64 x.2) else lkI r k (i+1)
theorem Zsb:∀ (l:ML) (k:Int×Int×Int) (i:Nat),(lkI l k i).map Prod.snd=(lkp l k).map (Value.int .i64)
 | [],_,_=>rfl
 | x::r,k,i=>by
  simp only[lkI,lkp]
  split
  ·rfl
  ·exact Zsb r k (i+1)
section
variable {P:Program} {mt kt et:TypeId} (R:KeyRun P mt kt et)
include R
theorem KeyRun.asking (k:Int×Int×Int) (w:World):∀ (l:ML) (es:List MapEntry) (i:Nat),(es.map fun x=>(x.key,x.val))=l.map (fun x=>(spK x.1,Value.int .i64 x.2))→(Instr.findAsking kt (spK k) es i).run P w=.ok (lkI l k i) w
 | [],[],i,_=>by simp[Instr.findAsking,lkI]
 | [],e::es,i,h=>by simp at h
 | x::l,[],i,h=>by simp at h
 | x::l,e::es,i,h=>by
  simp only[List.map_cons,List.cons.injEq,Prod.mk.injEq] at h
  obtain⟨⟨h1,h2⟩,h3⟩:=h
  simp only[Instr.findAsking,Sem.run_bind,h1,R.eq,Result.andThen_ok,lkI]
  by_cases e1:k=x.1
  ·simp[e1,h2]
  ·simp only[e1,decide_false,if_false,Bool.false_eq_true]
   exact KeyRun.asking k w l es (i+1) h3
theorem KeyRun.find (k:Int×Int×Int) (w:World) {l:ML} {es:List MapEntry} (h:(es.map fun x=>(x.key,x.val))=l.map (fun x=>(spK x.1,Value.int .i64 x.2))):(Instr.findKey kt (spK k) es).run P w=.ok (lkI l k 0) w:=by
 obtain⟨ds,h1,h2⟩:=R.now
 unfold Instr.findKey
 simp only[Sem.run_bind,run_underlying h1,Result.andThen_ok]
 match l,es,h with
 | [],[],_=>simp[Instr.findNow,lkI]
 | [],e::es,h=>simp at h
 | x::l,[],h=>simp at h
 | x::l,e::es,h =>
  have h':=h
  simp only[List.map_cons,List.cons.injEq,Prod.mk.injEq] at h'
  simp only[Instr.findNow,h'.1.1,h2]
  exact R.asking k w (x::l) (e::es) 0 h
theorem KeyRun.lookup (k:Int×Int×Int) {w:World} {b:Nat} {es:Array MapEntry} {clock:Nat} {l:ML} (hb:w.heap[b]?=some (.map es clock)) (h:(es.toList.map fun x=>(x.key,x.val))=l.map (fun x=>(spK x.1,Value.int .i64 x.2))) :
  (Instr.lookup mt (.map (some b)) (spK k) true).run P w=.ok (.tuple #[.int .i64 ((lkp l k).getD 0),.bool (lkp l k).isSome]) w:=by
 have hv:=Zsb l k 0
 simp only[Instr.lookup,Sem.run_bind,run_underlying R.hm,Result.andThen_ok,MapKept.run_getObj_map hb,R.chk,R.find k w h,Sem.run_pure]
 cases e1:lkI l k 0 with
 | none =>
  rw[e1] at hv
  have e2:lkp l k=none:=by cases e3:lkp l k <;> simp_all
  simp[e2,R.zero]
 | some p =>
  rw[e1] at hv
  obtain⟨n,e2⟩:∃ n,lkp l k=some n:=by cases e3:lkp l k <;> simp_all
  rw[e2] at hv
  simp at hv
  simp[e2,hv]
theorem ZoH:∀ {l:ML} {k:Int×Int×Int} {i j:Nat} {v:Value},lkI l k i=some (j,v)→i≤j∧∃ x,l[j - i]?=some x∧x.1=k∧∀ n,sto l k n=l.set (j - i) (k,n)
 | [],_,_,_,_,h=>by simp[lkI] at h
 | x::r,k,i,j,v,h=>by
  simp only[lkI] at h
  split at h
  ·rename_i e
   simp only[Option.some.injEq,Prod.mk.injEq] at h
   obtain⟨rfl,_⟩:=h
   refine⟨Nat.le_refl _,x,by simp,e.symm,fun n=>?_⟩
   simp[sto,e]
  ·rename_i e
   obtain⟨h1,y,h2,h3,h4⟩:=ZoH h
   refine⟨by omega,y,?_,h3,fun n=>?_⟩
   ·rw[show j - i=(j - (i+1))+1 by omega];simpa using h2
   ·rw[show j - i=(j - (i+1))+1 by omega];simp only[sto,if_neg e,h4 n,List.set_cons_succ]
omit R in
theorem ZoI:∀ {l:ML} {k:Int×Int×Int} {i:Nat},lkI l k i=none→∀ n,sto l k n=l++[(k,n)]
 | [],_,_,_,n=>rfl
 | x::r,k,i,h,n=>by
  simp only[lkI] at h
  split at h
  ·cases h
  ·rename_i e
   simp only[sto,if_neg e,ZoI h n,List.cons_append]
theorem KeyRun.update (k:Int×Int×Int) (n:Int) {w:World} {b:Nat} {es:Array MapEntry} {clock:Nat} {l:ML} (hb:w.heap[b]?=some (.map es clock)) (h:(es.toList.map fun x=>(x.key,x.val))=l.map (fun x=>(spK x.1,Value.int .i64 x.2))) :
  ∃ es' clock',(Instr.mapUpdate mt (.map (some b)) (spK k) (.int .i64 n)).run P w=.ok () { w with heap:=w.heap.setIfInBounds b (.map es' clock') }∧(es'.toList.map fun x=>(x.key,x.val))=(sto l k n).map (fun x=>(spK x.1,Value.int .i64 x.2)):=by
 have hf:=R.find k w h
 cases e1:lkI l k 0 with
 | none =>
  rw[e1] at hf
  refine⟨es.push ⟨spK k,.int .i64 n,clock⟩,clock+1,?_,?_⟩
  ·simp[Instr.mapUpdate,run_underlying R.hm,MapKept.run_getObj_map hb,R.chk,hf,MapKept.run_setObj_map _ hb]
  ·rw[ZoI e1]
   simp[h]
 | some p =>
  obtain⟨j,v⟩:=p
  rw[e1] at hf
  obtain⟨_,x,h2,h3,h4⟩:=ZoH R e1
  simp only[Nat.sub_zero] at h2 h4
  have hjl:j < l.length:=(List.getElem?_eq_some_iff.1 h2).1
  have hlen:es.toList.length=l.length:=by have:=congrArg List.length h;simpa using this
  have hje:j < es.size:=by rw[Array.length_toList] at hlen;omega
  obtain⟨e0,he0⟩:∃ e0,es[j]?=some e0:=⟨es[j],by simp[hje]⟩
  have hkey:e0.key=spK k:=by
   have:=congrArg (fun l=>l[j]?) h
   simp only[List.getElem?_map,h2] at this
   have he0':es.toList[j]?=some e0:=by simpa using he0
   rw[he0'] at this
   simp only[Option.map_some,Option.some.injEq,Prod.mk.injEq] at this
   rw[this.1,h3]
  have hstay:(Instr.keyThatStays (spK k) (spK k)).run P w=.ok (spK k) w:=by
   have:Instr.sameBits 10000 (spK k) (spK k)=true:=by simp[Instr.sameBits,spK]
   simp[Instr.keyThatStays,this]
  refine⟨es.modify j (fun e=>{ e with key:=spK k,val:=.int .i64 n }),clock,?_,?_⟩
  ·simp[Instr.mapUpdate,run_underlying R.hm,MapKept.run_getObj_map hb,R.chk,hf,he0,hkey,hstay,MapKept.run_setObj_map _ hb]
  ·rw[h4 n]
   apply List.ext_getElem?
   intro i
   have hi:=congrArg (fun l=>l[i]?) h
   simp only[List.getElem?_map,Array.getElem?_toList] at hi
   simp only[List.getElem?_map,Array.getElem?_toList,Array.getElem?_modify,List.getElem?_set]
   by_cases e:j=i
   ·subst e
    simp only[if_true,if_pos hjl,Array.getElem?_eq_getElem hje,Option.map_some]
   ·simp only[if_neg e]
    exact hi
end
section
variable {G:Ctx} {E:Env} {fr:Fr} {h:Hp} {a:Act} {w:World}
theorem Conc.newMap (C:Conc G E fr h a w) {k:Nat} (hk:hget h k=none) (hlow:Nat.blt k 1000=true):∃ E',Conc G E' fr ((k,.mp (Eq []))::h) a (w.alloc (.map #[] 0))∧E'.blk k=w.heap.size:=by
 refine⟨⟨fun j=>if j=k then w.heap.size else E.blk j,E.row,E.fp⟩,?_,by simp⟩
 have U:Upd E h w k (.mp (Eq [])) ⟨fun j=>if j=k then w.heap.size else E.blk j,E.row,E.fp⟩ (w.alloc (.map #[] 0)) :=
  ⟨fun j hj=>by simp[hj],fun _ _=>rfl,fun _ _=>rfl,(fun hs=>by rw[hk] at hs;cases hs),fun _=>by simpa[Nat.blt_eq] using hlow,fun m hm=>(ZrP hk hm).elim,(fun hs=>by rw[hk] at hs;cases hs),Ext.new _ _,
   (fun b hb=>by unfold blkOf at hb;rw[Zaf] at hb;simp at hb;exact .inr (by omega))⟩
 exact C.upd U ⟨#[],0,[],by simpa using heap_alloc_new w _,rfl,rfl⟩ (by simp[Ob.keys])
theorem Zvm {h:Hp} {k m:Nat} {p:ML→Prop} (hk:hget h k=some (.mp p)):¬ verAny h k m:=by
 rintro (⟨_,_,_,h1,_⟩|⟨_,_,h1,_⟩|h1|⟨_,_,_,_,h1,_⟩) <;> rw[hk] at h1 <;> cases h1
theorem Zvn {h:Hp} {k sz m:Nat} {p:ML→Prop} (hk:hget h k=some (.mp p)):¬ verRow h k sz m:=by
 rintro (⟨_,_,h1,_⟩|⟨_,_,_,_,h1,_⟩) <;> rw[hk] at h1 <;> cases h1
theorem Conc.setMap (C:Conc G E fr h a w) {k:Nat} {p q:ML→Prop} (hk:hget h k=some (.mp p)) {w':World} (hE:Ext (fun b=>b=E.blk k) w w') (hq:MapAt w' (E.blk k) q):Conc G E fr ((k,.mp q)::h) a w':=by
 have hbk:blkOf E h k (E.blk k):=by simp[blkOf,hk]
 have U:Upd E h w k (.mp q) E w' :=
  ⟨fun _ _=>rfl,fun _ _=>rfl,fun _ _=>rfl,fun _=>rfl,(fun hn=>by rw[hk] at hn;cases hn),(fun m hm=>(Zvm hk hm).elim),(fun _ sz n hv=>(Zvn (Zaf _ _ _) hv).elim),
   hE.mono (fun b hb=>by rw[hb];exact hbk),(fun b hb=>.inl (by unfold blkOf at hb ⊢;rw[Zaf] at hb;rw[hk];exact hb))⟩
 exact C.upd U hq (by simp[Ob.keys])
end
section
variable {P:Program} {n:Nat} {Q:Exit→Fr→Hp→Prop} {fr:Fr} {h:Hp}
theorem ZpO {c:Code} (k:Nat) {p:ML→Prop} (hk:hget h k=some (.mp p)) (hc:∀ l,p l→aw P n c Q fr ((k,.mp (Eq l))::h)):aw P n c Q fr h:=fun G E a w hn C=>by
 obtain⟨es,clock,l,h1,h2,h3⟩:=C.heap.obs k _ hk
 exact hc l h3 G E a w hn (C.setMap hk (Ext.refl _ _) ⟨es,clock,l,h1,h2,rfl⟩)
end
section
variable {P:Program} {n:Nat} {dr:Bool} {ops:Array Oper} {rest:List Oper} {log:List Rec} {K:Exit→Fr→Hp→Prop} {fr:Fr} {h:Hp}
variable {d:Nat} {ty:TypeId} {pos:String} {after:Array Edge} {g:Option (Nat×Bool)}
theorem Zsc {t:TypeId} (hdn:Nat.blt d n=true) (hlow:Nat.blt d 1000=true) (hg:gOk ops fr g) (hk:hget h d=none)
  (hr:dops P n dr ops rest (⟨(gIns ops g).map Prod.fst,[d],[d],[d]⟩::log) K ((d,.mapv d)::fr) ((d,.mp (Eq []))::h)):dops P n dr ops (⟨some d,.makeMap t none,ty,pos,after,g⟩::rest) log K fr h:=by
 refine Zav (ins:=gIns ops g++[]) (objs:=[(d,none)]) (v:=.mapv d) (upd:=[(d,.mp (Eq []))]) (LStep.updV rfl hdn rfl hg _ _ _ _ fun G E fr' h' a w C hi ho=>?_) (ZbN hg (by simp)) (by simpa using hk) (by rw[List.append_nil];exact hr)
 have hk':hget h' d=none:=ho (d,none) (by simp)
 obtain⟨E',C',hb⟩:=C.newMap hk' hlow
 refine⟨.map (some w.heap.size),E',_,?_,C',by simp only[V.Rep];rw[hb],by intro q hq;simp[V.keys] at hq;subst hq;simp[Zaf]⟩
 simp[execOp,Instr.makeMap]
theorem ZtP {x ix:Operand} {mt kt et:TypeId} {k:Nat} {v:V} {a1 a2 a3:Int} {l:ML} (R:KeyRun P mt kt et) (hdn:Nat.blt d n=true) (hg:gOk ops fr g) (hx:oev fr x=.mapv k) (hy:oev fr ix=v) (h1:Zaz ix=true) (hv:vval v=some (.agg #[.int .i64 a1,.int .i64 a2,.int .i64 a3])) (hk:hget h k=some (.mp (Eq l)))
  (hr:dops P n dr ops rest (⟨(gIns ops g++Zan [x,ix] [.mapv k,v]).map Prod.fst,[d],[k],[]⟩::log) K ((d,.tup [I ((lkp l (a1,a2,a3)).getD 0),B (lkp l (a1,a2,a3)).isSome])::fr) h) :
  dops P n dr ops (⟨some d,.lookup mt x ix true,ty,pos,after,g⟩::rest) log K fr h:=by
 refine Zav (ins:=gIns ops g++Zan [x,ix] [.mapv k,v]) (objs:=[(k,some (.mp (Eq l)))]) (v:=.tup [I ((lkp l (a1,a2,a3)).getD 0),B (lkp l (a1,a2,a3)).isSome]) (upd:=[]) (LStep.updV rfl hdn rfl hg _ _ _ _ fun G E fr' h' a w C hi ho=>?_) (ZbN hg (Za5 ⟨hx,hy,trivial⟩)) (by simpa using hk) hr
 have hk':hget h' k=some (.mp (Eq l)):=ho (k,_) (by simp)
 have hx':=Zbx (xs:=[x,ix]) (vs:=[.mapv k,v]) ⟨hx,hy,trivial⟩ hi
 simp only[oevs] at hx'
 obtain⟨p1,_⟩:=C.oev hx'.1 (Zao (Zaj hx rfl))
 obtain⟨q1,_⟩:=C.oev hx'.2.1 (Zao h1)
 have e1:=Zkl q1 hv
 simp only[V.Rep] at p1
 obtain⟨es,clock,l',m1,m2,rfl⟩:=C.heap.obs k _ hk'
 have hrun:=R.lookup (a1,a2,a3) m1 m2
 refine⟨.tuple #[.int .i64 ((lkp l (a1,a2,a3)).getD 0),.bool (lkp l (a1,a2,a3)).isSome],E,w,?_,C,?_,by simp[V.keys,V.keyss]⟩
 ·simp only[execOp,p1,e1,Sem.run_bind]
  rw[show (Value.agg #[.int .i64 a1,.int .i64 a2,.int .i64 a3])=spK (a1,a2,a3) from rfl,hrun]
  simp only[Result.andThen_ok,Sem.run_pure]
 ·simp[V.Rep,V.Reps,D.RepV,D.Rep,Value.oneCell']
theorem ZnG {x ix yv:Operand} {mt kt et:TypeId} {k:Nat} {v:V} {a1 a2 a3 c:Int} {p:ML→Prop} (R:KeyRun P mt kt et) (q:ML→Prop) (hg:gOk ops fr g) (hx:oev fr x=.mapv k) (hy:oev fr ix=v) (h1:Zaz ix=true) (hv:vval v=some (.agg #[.int .i64 a1,.int .i64 a2,.int .i64 a3])) (hz:oev fr yv=I c) (hk:hget h k=some (.mp p))
  (hq:∀ l,p l→q (sto l (a1,a2,a3) c))
  (hr:dops P n dr ops rest (⟨(gIns ops g++Zan [x,ix,yv] [.mapv k,v,I c]).map Prod.fst,[],[k],[k]⟩::log) K fr ((k,.mp q)::h)) :
  dops P n dr ops (⟨none,.mapUpdate mt x ix yv,ty,pos,after,g⟩::rest) log K fr h:=by
 refine Zav (ins:=gIns ops g++Zan [x,ix,yv] [.mapv k,v,I c]) (objs:=[(k,some (.mp p))]) (v:=.junk) (upd:=[(k,.mp q)]) (LStep.updS rfl rfl hg _ _ _ fun G E fr' h' a w C hi ho=>?_) (ZbN hg (Za5 ⟨hx,hy,hz,trivial⟩)) (by simpa using hk) hr
 have hk':hget h' k=some (.mp p):=ho (k,_) (by simp)
 have hx':=Zbx (xs:=[x,ix,yv]) (vs:=[.mapv k,v,I c]) ⟨hx,hy,hz,trivial⟩ hi
 simp only[oevs] at hx'
 obtain⟨p1,_⟩:=C.oev hx'.1 (Zao (Zaj hx rfl))
 obtain⟨q1,_⟩:=C.oev hx'.2.1 (Zao h1)
 obtain⟨r1,_⟩:=C.oev hx'.2.2.1 (Zao (Zaj hz rfl))
 have e1:=Zkl q1 hv
 simp only[V.Rep] at p1
 have e2:a.eval yv=.int .i64 c:=by simpa[V.Rep,D.RepV,D.Rep,Value.oneCell'] using r1
 obtain⟨es,clock,l,m1,m2,m3⟩:=C.heap.obs k _ hk'
 obtain⟨es',clock',r2,r3⟩:=R.update (a1,a2,a3) c m1 m2
 have hbl:E.blk k < w.heap.size:=(Array.getElem?_eq_some_iff.1 m1).1
 refine⟨E,_,?_,C.setMap hk' (w':={ w with heap:=w.heap.setIfInBounds (E.blk k) (.map es' clock') }) ⟨rfl,rfl,rfl,by simp,fun b hb hne=>?_,Nat.le_refl _⟩ ⟨es',clock',_,?_,r3,hq l m3⟩⟩
 ·simp only[execOp,p1,e1,e2,Sem.run_bind]
  rw[show (Value.agg #[.int .i64 a1,.int .i64 a2,.int .i64 a3])=spK (a1,a2,a3) from rfl,r2]
  simp only[Result.andThen_ok,Sem.run_pure]
 ·rw[Array.getElem?_setIfInBounds_ne (Ne.symm hne)]
 ·simp[hbl]
end
end Go.Proofs.YtbpmepgnjanhnaaGreat
namespace Go.Proofs.YtbpmepgnjanhnaaGreat
open Go.RowKit
section
variable {G:Ctx} {E:Env} {fr:Fr} {h:Hp} {a:Act} {w:World}
theorem Conc.reBox (C:Conc G E fr h a w) {k j:Nat} {ty:TypeId} {cs:List V} {c c':V} (hk:hget h k=some (.box ty cs)) (hj:cs[j]?=some c) (hco:Co h c c') (hin:c'.inside h=true):Conc G E fr ((k,.box ty (cs.set j c'))::h) a w:=by
 obtain⟨us,g1,g2,g3⟩:=C.heap.obs k _ hk
 have hcl:=C.heap.closed k _ hk
 have U:Upd E h w k (.box ty (cs.set j c')) E w :=
  ⟨fun _ _=>rfl,fun _ _=>rfl,fun _ _=>rfl,fun _=>rfl,(fun hn=>by rw[hk] at hn;cases hn),
   (fun m hm=>by exfalso;rcases hm with ⟨_,_,_,h1,_⟩|⟨_,_,h1,_⟩|h1|⟨_,_,_,_,h1,_⟩ <;> rw[hk] at h1 <;> cases h1),
   (fun _ sz n hv=>by exfalso;rcases hv with ⟨_,_,h1,_⟩|⟨_,_,_,_,h1,_⟩ <;> (rw[Zaf] at h1;cases h1)),
   Ext.refl _ _,(fun x hx=>.inl (by unfold blkOf at hx ⊢;rw[Zaf] at hx;rw[hk];exact hx))⟩
 have hkeys:∀ i∈V.keyss (cs.set j c'),(hget h i).isSome=true:=fun i hi=>by
  obtain⟨v,hv,hi'⟩:=V.keyss_mem.1 hi
  rcases List.mem_or_eq_of_mem_set hv with hv|rfl
  ·exact hcl i (by simp only[Ob.keys];exact V.keyss_mem.2 ⟨v,hv,hi'⟩)
  ·exact V.inside_spec hin i hi'
 refine C.upd U ⟨us,g1,?_,g3⟩ (fun i hi=>U.mono i (hkeys i (by simpa[Ob.keys] using hi)))
 obtain⟨u,hu,hur⟩:=g2.get hj
 have hs:=g2.set (i:=j) (hco E G.o w u C.heap C.sub hur)
 have e:us.set j u=us:=by
  apply List.ext_getElem?
  intro i
  rw[List.getElem?_set]
  split
  ·rename_i e;subst e;rw[hu];split <;> simp_all
  ·rfl
 rw[e] at hs
 exact hs.move (U.trans G.o) hkeys (fun i hi=>U.mono i (hkeys i hi))
end
section
variable {P:Program} {n:Nat} {Q:Exit→Fr→Hp→Prop} {fr:Fr} {h:Hp}
theorem ZoJ {c0:Code} (k j:Nat) {ty:TypeId} {cs:List V} {c:V} (c':V) (hk:hget h k=some (.box ty cs)) (hj:cs[j]?=some c) (hco:Co h c c') (hin:c'.inside h=true) (hc:aw P n c0 Q fr ((k,.box ty (cs.set j c'))::h)):aw P n c0 Q fr h :=
 fun G E a w hn C=>hc G E a w hn (C.reBox hk hj hco hin)
theorem ZnH {c0:Code} (k j k0:Nat) {n0 e:Nat} {A:List Tr} {ty:TypeId} {cs:List V} (hk:hget h k=some (.box ty cs)) (hj:cs[j]?=some (.own k0 n0)) (h0:hget h k0=some (.nest e A [] [])) (hn:A.length=n0)
  (hc:aw P n c0 Q fr ((k,.box ty (cs.set j (.d (.sl false 1 (Tr.toDs A)))))::(k0,.froz 1 (Tr.toDs A))::h)):aw P n c0 Q fr h:=by
 have hne:k0≠k:=by rintro rfl;rw[hk] at h0;cases h0
 exact ZtO k0 h0 (ZoJ k j _ (by rw[Zap _ _ hne];exact hk) hj (Co.froz (Zaf _ _ _) (by rw[Tr.toDs_map];simp[hn])) rfl hc)
def now (K:Fr→Hp→Prop) (fr:Fr) (h:Hp):Prop:=∀ (G:Ctx) (E:Env) (a:Act) (w:World),Conc G E fr h a w→∃ E' fr' h',K fr' h'∧Conc G E' fr' h' a w
theorem Zwi {K:Fr→Hp→Prop} (hk:K fr h):now K fr h:=fun _ E _ _ C=>⟨E,fr,h,hk,C⟩
def nowQ (Q:Exit→Fr→Hp→Prop):Exit→Fr→Hp→Prop
 | .normal,fr,h=>now (Q .normal) fr h
 | e,fr,h=>Q e fr h
theorem Zvo {c:Code} (hc:aw P n c (nowQ Q) fr h):aw P n c Q fr h:=fun G E a w hn C=>by
 refine wp_mono (hc G E a w hn C) fun e a' w' hq=>?_
 obtain⟨E',fr',h',h1,C'⟩:=hq
 cases e with
 | normal=>exact h1 G E' a' w' C'
 | _=>exact⟨E',fr',h',h1,C'⟩
theorem Zwj (hq:now (Q .normal) fr h):nowQ Q .normal fr h:=hq
theorem Zl4 {K:Fr→Hp→Prop} (k j k0:Nat) {n0 e:Nat} {A:List Tr} {ty:TypeId} {cs:List V} (hk:hget h k=some (.box ty cs)) (hj:cs[j]?=some (.own k0 n0)) (h0:hget h k0=some (.nest e A [] [])) (hn:A.length=n0)
  (hc:now K fr ((k,.box ty (cs.set j (.d (.sl false 1 (Tr.toDs A)))))::(k0,.froz 1 (Tr.toDs A))::h)):now K fr h:=fun G E a w C=>by
 have hne:k0≠k:=by rintro rfl;rw[hk] at h0;cases h0
 have C1:=C.frozN h0
 exact hc G E a w (C1.reBox (by rw[Zap _ _ hne];exact hk) hj (Co.froz (Zaf _ _ _) (by rw[Tr.toDs_map];simp[hn])) rfl)
end
end Go.Proofs.YtbpmepgnjanhnaaGreat
namespace Go.Proofs.YtbpmepgnjanhnaaGreat
open Go.RowKit
section
variable {P:Program} {n:Nat} {dr:Bool} {ops:Array Oper} {rest:List Oper} {log:List Rec} {K:Exit→Fr→Hp→Prop} {fr:Fr} {h:Hp}
variable {ty:TypeId} {pos:String} {after:Array Edge} {g:Option (Nat×Bool)}
theorem Zvp {dst:Option Tmp} {fop:Operand} {xs:List Operand} {args:Array Operand} {ats:Array TypeId} {vs caps cargs:List V} {f:FuncId} {hc:Hp} {r:V} (φ:List (Nat×Nat)) {objs:List (Nat×Option Ob)} {fz:Hp} {W:List Nat}
  (hg:gOk ops fr g) (hd:Zkj n dst=true) (hxs:args.toList=xs) (hf:oev fr fop=.fn (.func f) [] caps) (hx:oevs fr xs vs) (h1:xs.all Zaz=true) (hA:ACalls P f cargs hc r hc) (ha:CArgs φ h (vs++caps) cargs objs fz W)
  (hlink:LinkH h φ hc) (hnew:NewH h (Za1 φ hc hc)) (hok:ZdA φ hc hc fz W=true) (hin:(hpIn hc hc && V.insides hc cargs)=true) (hcl:W=[]∨(r.clean∧HpClean hc)) {fr':Fr} {h':Hp} (hfr:dput dst (r.ren φ) fr=fr') (hh:fz++h=h')
  (hr:dops P n dr ops rest (⟨(gIns ops g++(Zay fop (.fn (.func f) [] caps)++Zan xs vs)).map Prod.fst,dst.toList,(Zbb φ hc hc objs).map Prod.fst,fz.map Prod.fst⟩::log) K fr' h') :
  dops P n dr ops (⟨dst,.call { callee:=.value fop,args:=args,argTypes:=ats },ty,pos,after,g⟩::rest) log K fr h:=by
 have hargs:args=xs.toArray:=by rw[←hxs]
 subst hargs
 subst hfr
 subst hh
 simp only[Bool.and_eq_true] at hin
 have hnewo:ObjsOk h ((Za1 φ hc hc).map (fun k=>(k,(none:Option Ob)))):=fun p hp=>by
  obtain⟨k,hk,rfl⟩:=List.mem_map.1 hp
  exact hnew.get k hk
 refine Zav (ins:=gIns ops g++(Zay fop (.fn (.func f) [] caps)++Zan xs vs)) (objs:=Zbb φ hc hc objs) (v:=r.ren φ) (upd:=fz) ?_ (ZbN hg (fun p hp=>(List.mem_append.1 hp).elim (Zbj hf p) (Za5 hx p)))
  (ObjsOk.append.2 ⟨LinkH.iff.1 hlink,ObjsOk.append.2 ⟨hnewo,ha.objs⟩⟩) hr
 intro G E fr' h' a w K Q hPan hn C hi ho hK
 have hgo:gOk ops fr' g:=ZgB hg (fun p hp=>hi p (List.mem_append.2 (.inl hp)))
 have ho':=ObjsOk.append.1 (show ObjsOk h' (Zbb φ hc hc objs) from ho)
 have ho'':=ObjsOk.append.1 ho'.2
 have ha':=ha.of ho''.2
 have hlink':LinkH h' φ hc:=LinkH.iff.2 ho'.1
 have hf':=Zcb hf (fun p hp=>hi p (List.mem_append.2 (.inr (List.mem_append.2 (.inl hp)))))
 have hx':=Zbx hx (fun p hp=>hi p (List.mem_append.2 (.inr (List.mem_append.2 (.inr hp)))))
 simp only[ZdA,Bool.and_eq_true] at hok
 obtain⟨⟨⟨⟨⟨⟨c1,c2⟩,c3⟩,c4⟩,c5⟩,c6⟩,c7⟩:=hok
 have C1:=C.frozs ha'.fz
 have hoff:∀ k,(∀ p∈fz,p.1≠k)→hget (fz++h') k=hget h' k:=fun k hk=>by
  rw[ZaD,ZbM (fun hm=>by obtain⟨p,hp,e⟩:=List.mem_map.1 hm;exact hk p hp e)]
 have hlinkz:LinkH (fz++h') φ hc:=by
  refine LinkH.iff.2 (fun p hp=>?_)
  rw[hoff p.1 (fun q hq e=>?_)]
  ·exact ho'.1 p hp
  ·have hmem:∀ {l:Hp},p∈Zbs φ l→∃ q∈l,renK φ q.1=p.1:=by
    intro l
    induction l with
    | nil=>intro hp;simp[Zbs] at hp
    | cons q l ih =>
     intro hp
     obtain⟨j,ob⟩:=q
     simp only[Zbs,List.mem_cons] at hp
     rcases hp with rfl|hp
     ·exact⟨_,List.mem_cons_self,rfl⟩
     ·obtain⟨q,hq,e⟩:=ih hp;exact⟨q,List.mem_cons_of_mem _ hq,e⟩
   obtain⟨q',hq',e'⟩:=hmem hp
   have:=List.all_eq_true.1 (List.all_eq_true.1 c5 q hq) q' hq'
   rw[e,e',Nat.beq_refl] at this
   simp at this
 have hnewz:NewH (fz++h') (Za1 φ hc hc):=by
  have key:∀ (l:List Nat),(∀ k∈l,hget h' k=none)→NewH (fz++h') l:=by
   intro l
   induction l with
   | nil=>intro _;trivial
   | cons k l ih =>
    intro hl
    refine⟨?_,ih (fun j hj=>hl j (List.mem_cons_of_mem _ hj))⟩
    rw[hoff k (fun p hp e=>?_)]
    ·exact hl k List.mem_cons_self
    ·obtain⟨_,_,_,_,q⟩:=ha'.fz p hp
     rw[e,hl k List.mem_cons_self] at q;cases q
  exact key _ (fun k hk=>ho''.1 (k,none) (List.mem_map.2 ⟨k,hk,rfl⟩))
 have hWf:∀ k∈W,k ∉ fz.map Prod.fst:=fun k hk hm=>by
  obtain⟨p,hp,rfl⟩:=List.mem_map.1 hm
  have:=List.all_eq_true.1 (List.all_eq_true.1 c7 p hp) _ hk
  simp at this
 obtain⟨r1,_⟩:=C1.oev hf' (Zao (Zaj hf rfl))
 obtain⟨r2,_⟩:=ZcS C1 hx' h1
 simp only[V.Rep] at r1
 obtain⟨af,cf,e1,e2,e3⟩:=r1
 simp only[V.Reps] at e2
 subst e2
 have hus:=r2.append e3
 have hsame:∀ k,hget (Hp.ren φ hc++(fz++h')) k=hget (fz++h') k:=fun k=>by
  rw[ZaD]
  cases hq:hget (Hp.ren φ hc) k with
  | none=>rfl
  | some ob =>
   simp only
   have hk:k∈(Hp.ren φ hc).map Prod.fst:=Classical.byContradiction fun hn=>by rw[ZbM hn] at hq;cases hq
   rw[ren_keys] at hk
   obtain⟨k0,hk0,rfl⟩:=List.mem_map.1 hk
   obtain⟨p,hp,rfl⟩:=List.mem_map.1 hk0
   have h2:=Zkh (φ:=φ) (g:=hc) (k:=p.1) (fun j hj e=>Zei c2 hj hk0 e)
   obtain⟨o1,ho1⟩:=Option.isSome_iff_exists.1 (Zkg hp)
   rw[h2,ho1] at hq
   simp only[Option.map_some,Option.some.injEq] at hq
   rw[hlinkz.get ho1,hq]
 have hcall:=C1.call hA φ W hlinkz hnewz c1 hin.1 c2 c3 c4 (fun k hk=>⟨?_,fun q hq e=>?_⟩) hcl (us:=xs.map a.eval++cf) (fun Ec M L hAl hvw=>ha'.rep C1 ha'.fz L hAl hvw (fun _ hp=>hp) (fun _ hk=>hk) hWf (V.insides_spec hin.2) hus) (V.insides_spec hin.2)
 ·unfold wpS
  rw[if_pos (Zb3 (o:=⟨dst,_,ty,pos,after,g⟩) C hgo)]
  refine .inl ?_
  unfold Oper.wp
  rw[Zki hA.1 a.eval cf e1]
  simp only[Oper.upon]
  refine hcall.mono ?_
  rintro e w' ⟨E',u,rfl,C',hru,hku⟩
  have C':=Conc.congr (fun _=>rfl) hsame C'
  have hru:=(show V.Rep E' (fz++h') (bars E' (fz++h') G.o) w' (r.ren φ) u from by
   have e:∀ k,hget (Hp.ren φ hc++(fz++h')) k=hget (fz++h') k:=hsame
   have hB:bars E' (Hp.ren φ hc++(fz++h')) G.o=bars E' (fz++h') G.o:=by
    funext t b
    have:∀ k,blkOf E' (Hp.ren φ hc++(fz++h')) k=blkOf E' (fz++h') k:=fun k=>by funext b;unfold blkOf;rw[e k]
    unfold bars Live
    simp only[this]
   have T:Trans E' (Hp.ren φ hc++(fz++h')) (bars E' (Hp.ren φ hc++(fz++h')) G.o) w' E' (fz++h') (bars E' (fz++h') G.o) w':=by
    refine⟨fun _ _ _=>rfl,fun k _ m hv=>⟨m,?_,Nat.le_refl _,fun _=>rfl⟩,fun k _ sz n hv=>⟨n,?_⟩,?_⟩
    ·unfold verAny at hv ⊢;rw[←e k];exact hv
    ·unfold verRow at hv ⊢;rw[e k];exact hv
    ·rw[hB];exact Carry.refl _ _
   exact hru.move T hku (fun k hk=>by rw[←e k];exact hku k hk))
  have hku:∀ k∈(r.ren φ).keys,(hget (fz++h') k).isSome=true:=fun k hk=>by rw[←hsame k];exact hku k hk
  refine hK E' _ w' ?_
  cases dst with
  | none=>exact C'.putNone _
  | some d=>exact C'.put (by rw[hn];simpa[Zkj,Nat.blt_eq] using hd) hru hku
 ·obtain⟨e,sz,xs',q⟩:=ha'.vwRow k hk
  exact⟨e,sz,xs',by rw[hoff k (fun p hp e=>hWf k hk (List.mem_map.2 ⟨p,hp,e⟩))];exact q⟩
 ·have:=List.all_eq_true.1 (List.all_eq_true.1 c6 k hk) q hq
  rw[e,Nat.beq_refl] at this
  simp at this
end
section
theorem Zaq {ty:TypeId} {pos:String} {after:Array Edge} {g:Option (Nat×Bool)} {P:Program} {n:Nat} {dr:Bool} {ops:Array Oper} {rest:List Oper} {log:List Rec} {K:Exit→Fr→Hp→Prop} {fr:Fr} {h:Hp} {r':V} {dst:Option Tmp} {fop:Operand} {xs:List Operand} {args:Array Operand} {ats:Array TypeId} {vs caps cargs:List V} {f:FuncId} {hc:Hp} {r:V} (φ:List (Nat×Nat)) {objs:List (Nat×Option Ob)} {fz:Hp} {W:List Nat} {fr':Fr} {h':Hp} (hg:gOk ops fr g:=by first|exact Zag|exact Zae rfl rfl rfl|(apply Zae rfl rfl;(first|assumption|exact rfl|exact decide_eq_true rfl|exact congrArg not (decide_eq_true rfl)|((try simp only[decide_eq_true_eq,decide_eq_false_iff_not,Bool.not_true,Bool.not_false,Bool.not_eq_true',Bool.not_eq_false',Bool.not_not,Int.not_lt,Int.not_le,Bool.and_eq_true,Bool.or_eq_true,Bool.and_eq_false_iff,Bool.or_eq_false_iff]);first|assumption|omega)))) (hd:Zkj n dst=true:=by exact rfl) (hxs:args.toList=xs:=by exact rfl) (hf:oev fr fop=.fn (.func f) [] caps:=by exact rfl) (hx:oevs fr xs vs:=by repeat' (first|exact ZcA|(apply Zcd;conv=>lhs;whnf))) (h1:xs.all Zaz=true:=by exact rfl) (ha:CArgs φ h (vs++caps) cargs objs fz W:=by repeat' (first|exact CArgs.nil|(apply CArgs.cons)|exact CArg.same rfl|exact CArg.vw rfl (by first|exact rfl|assumption|(simp only[List.length_map,List.length_append,List.length_cons,List.length_nil,List.length_replicate,List.length_set,List.length_take,List.length_drop];done)|((try simp only[List.length_map,List.length_append,List.length_cons,List.length_nil,List.length_replicate,List.length_set,List.length_take,List.length_drop]);first|assumption|omega)) (by first|exact ZcV _|exact Zc9 _|exact ZdB _|exact ZaB (.rules _ _)|exact ZaB (.trees _ _)|exact ZaB (.tree1 _ _)|exact ZaB (.frags _ _)|exact ZaB (.frag1 _ _)|exact views_fragss _ _|exact views_intss _ _|exact views_exprs _ _|exact views_expr1 _ _|exact views_defs _ _|exact views_toks _|exact views_aux _ _|exact rfl)|exact CArg.emb (by repeat' (first|exact EmbV.one (.d _)|exact EmbV.one (.own rfl (by first|exact rfl|assumption|(simp only[List.length_map,List.length_append,List.length_cons,List.length_nil,List.length_replicate,List.length_set,List.length_take,List.length_drop];done)|((try simp only[List.length_map,List.length_append,List.length_cons,List.length_nil,List.length_replicate,List.length_set,List.length_take,List.length_drop]);first|assumption|omega)))|exact EmbV.one (.frz rfl (by first|exact rfl|assumption|(simp only[List.length_map,List.length_append,List.length_cons,List.length_nil,List.length_replicate,List.length_set,List.length_take,List.length_drop];done)|((try simp only[List.length_map,List.length_append,List.length_cons,List.length_nil,List.length_replicate,List.length_set,List.length_take,List.length_drop]);first|assumption|omega)))|exact EmbV.one (.full _ _ _)|apply EmbV.agg|exact Embs.nil|apply Embs.cons|exact Emb.d _|exact Emb.own rfl (by first|exact rfl|assumption|(simp only[List.length_map,List.length_append,List.length_cons,List.length_nil,List.length_replicate,List.length_set,List.length_take,List.length_drop];done)|((try simp only[List.length_map,List.length_append,List.length_cons,List.length_nil,List.length_replicate,List.length_set,List.length_take,List.length_drop]);first|assumption|omega))|exact Emb.frz rfl (by first|exact rfl|assumption|(simp only[List.length_map,List.length_append,List.length_cons,List.length_nil,List.length_replicate,List.length_set,List.length_take,List.length_drop];done)|((try simp only[List.length_map,List.length_append,List.length_cons,List.length_nil,List.length_replicate,List.length_set,List.length_take,List.length_drop]);first|assumption|omega))|exact Emb.full _ _ _)))) (hlink:LinkH h φ hc:=by repeat' (first|exact LinkH.nil|(apply LinkH.cons;exact rfl))) (hnew:NewH h (Za1 φ hc hc):=by first|exact True.intro|exact⟨rfl,True.intro⟩|exact⟨rfl,rfl,True.intro⟩|exact⟨rfl,rfl,rfl,True.intro⟩) (hok:ZdA φ hc hc fz W=true:=by exact rfl) (hin:(hpIn hc hc && V.insides hc cargs)=true:=by exact rfl) (hcl:W=[]∨(r.clean∧HpClean hc):=by first|exact Or.inl rfl|exact Or.inr ⟨trivial,trivial⟩|exact Or.inr ⟨⟨trivial,trivial⟩,trivial⟩|(refine Or.inr ⟨?_,?_⟩ <;> simp[V.clean,V.cleans,D.clean,D.cleans,HpClean,Ob.clean,Zet,ZeV,Zc0,Zc1])) (hr0:r.ren φ=r':=by first|(conv=>lhs;simp only[dput,V.ren,V.rens,Ob.ren,Hp.ren,renK,Nat.reduceBEq,cond_true,cond_false,List.cons_append,List.nil_append,List.append_nil])|exact rfl) (hfr:dput dst r' fr=fr':=by conv=>lhs;whnf) (hh:fz++h=h':=by conv=>lhs;whnf) (hA:ACalls P f cargs hc r hc) (hr:dops P n dr ops rest (⟨(gIns ops g++(Zay fop (.fn (.func f) [] caps)++Zan xs vs)).map Prod.fst,dst.toList,(Zbb φ hc hc objs).map Prod.fst,fz.map Prod.fst⟩::log) K fr' h') :dops P n dr ops (⟨dst,.call { callee:=.value fop,args:=args,argTypes:=ats },ty,pos,after,g⟩::rest) log K fr h:=Zvp φ hg hd hxs hf hx h1 hA ha hlink hnew hok hin hcl (by rw[hr0];exact hfr) hh hr
end
end Go.Proofs.YtbpmepgnjanhnaaGreat
namespace Go.Proofs.YtbpmepgnjanhnaaGreat
open Go.RowKit
section
variable {P:Program} {n:Nat} {Q:Exit→Fr→Hp→Prop} {fr:Fr} {h:Hp}
end
end Go.Proofs.YtbpmepgnjanhnaaGreat
