import Derived.Test.YtbpmepgnjanhnaaGreatF2
import Derived.Test.YtbpmepgnjanhnaaGreatQChartP
import Derived.Test.YtbpmepgnjanhnaaGreatQGramC
set_option linter.unusedVariables false
set_option linter.unusedSimpArgs false
set_option linter.unusedSectionVars false
namespace Go.Proofs.YtbpmepgnjanhnaaGreat
open Go.RowKit
theorem Zie:∀ {a b:List Bool},a.length=b.length→(∀ k:Nat,a.getD k false=true→b.getD k false=true)→a.count true≤b.count true
 | [],[],_,_=>Nat.le_refl _
 | [],_::_,h,_=>by simp at h
 | _::_,[],h,_=>by simp at h
 | x::a,y::b,h,hs=>by
  have ih:=Zie (a:=a) (b:=b) (by simpa using h) (fun k hk=>by have:=hs (k+1);simpa using this (by simpa using hk))
  have h0:=hs 0
  simp only[List.getD_cons_zero] at h0
  cases x <;> cases y <;> simp_all <;> omega
theorem Zif:∀ {a b:List Bool} (j:Nat),a.length=b.length→(∀ k:Nat,a.getD k false=true→b.getD k false=true)→b.getD j false=true→a.getD j false=false→a.count true < b.count true
 | [],[],_,_,_,hb,_=>by simp at hb
 | [],_::_,_,h,_,_,_=>by simp at h
 | _::_,[],_,h,_,_,_=>by simp at h
 | x::a,y::b,0,h,hs,hb,ha=>by
  have ih:=Zie (a:=a) (b:=b) (by simpa using h) (fun k hk=>by have:=hs (k+1);simpa using this (by simpa using hk))
  simp only[List.getD_cons_zero] at hb ha
  subst hb;subst ha
  simp only[List.count_cons_self,List.count_cons_of_ne (show false≠true by decide)]
  have:List.count true (false::a)=a.count true:=by simp
  omega
 | x::a,y::b,j+1,h,hs,hb,ha=>by
  have ih:=Zif (a:=a) (b:=b) j (by simpa using h) (fun k hk=>by have:=hs (k+1);simpa using this (by simpa using hk)) (by simpa using hb) (by simpa using ha)
  have h0:=hs 0
  simp only[List.getD_cons_zero] at h0
  cases x <;> cases y <;> simp_all <;> omega
def rnk (g:Gram) (v:Int):Nat:=(rowM (ledM false g) v).count true
abbrev ZsV (g:Gram) (v:Int):List Int:=ZgA false g (ZaT false g) v
theorem Zmn {g:Gram} (hg:g.ok) {v:Int} (h0:0≤v) (h1:v < g.vars):rnk g v≤64:=by
 have h:=(ZgC (c:=false) hg).at h0 (by omega)
 have:=List.count_le_length (a:=true) (l:=rowM (ledM false g) v)
 have:=hg.vars
 unfold rnk;omega
theorem Zw8 {g:Gram} (hg:g.ok) (hc:cycL g=[]) {v:Int} (h0:0≤v) (h1:v < g.vars):has (rowM (ledM false g) v) v=false:=by
 unfold cycL at hc
 rw[if_pos (by rw[hg.fault])] at hc
 cases h:has (rowM (ledM false g) v) v with
 | false=>rfl
 | true =>
  have:v∈Zfc (ledM false g) g.vars.toNat:=by
   unfold Zfc
   refine List.mem_map.2 ⟨v.toNat,List.mem_filter.2 ⟨List.mem_range.2 (by omega),?_⟩,by omega⟩
   rw[show ((v.toNat:Nat):Int)=v by omega];exact h
  rw[hc] at this;cases this
theorem ZgE {g:Gram} (hg:g.ok) {v u:Int} (h0:0≤v) (h1:v < g.vars) (hs:u∈ZsV g v):0≤u∧u < g.vars:=by
 have h:=(Zh9 (c:=false) hg h0 h1).from_ u hs
 have:=Ze6 h
 have:=(ZgC (c:=false) hg).at h0 (by omega)
 omega
theorem ZjJ {g:Gram} (hg:g.ok) (hc:cycL g=[]) {v u:Int} (h0:0≤v) (h1:v < g.vars) (hs:u∈ZsV g v):rnk g u < rnk g v:=by
 have hv:=Zh9 (c:=false) hg h0 h1
 have hu1:=hv.from_ u hs
 obtain⟨u0,u1⟩:=ZgE hg h0 h1 hs
 have hu:=Zh9 (c:=false) hg u0 u1
 have l1:=(ZgC (c:=false) hg).at h0 (by omega)
 have l2:=(ZgC (c:=false) hg).at u0 (by omega)
 have hsub:=(hu.least (rowM (ledM false g) v) (by omega) (fun w hw=>hv.goes u hu1 w hw) (fun x hx w hw=>hv.goes x hx w hw)).sub
 have hno:=Zw8 hg hc u0 u1
 unfold rnk
 refine Zif u.toNat (by omega) (fun k hk=>?_) ?_ ?_
 ·have:=hsub (k:Int) (by rw[Zbl];exact hk)
  rwa [Zbl] at this
 ·rw[←Zbl,show ((u.toNat:Nat):Int)=u by omega];exact hu1
 ·rw[←Zbl,show ((u.toNat:Nat):Int)=u by omega];exact hno
abbrev nulB (g:Gram):List Bool:=ZaT false g
theorem ZkS {N:Cube} {w:List Int} {S:List Bool} (hN:∀ v i,N v i i≠0→has S (v:Int)=true):∀ (r:List Int) (i:Nat),wcn N w r i i≠0→Zcn r S=true
 | [],_,_=>rfl
 | s::r,i,h=>by
  rw[wcn,ZhM (k:=i) (by omega) (fun x h1 h2=>by rw[if_neg (by omega)]),if_pos (Nat.le_refl i)] at h
  have h1:symN N w s i i≠0:=fun e=>h (by rw[e,Nat.zero_mul])
  have h2:wcn N w r i i≠0:=fun e=>h (by rw[e,Nat.mul_zero])
  have hr:=ZkS hN r i h2
  unfold symN at h1
  split at h1
  ·rename_i h0
   have:=hN _ _ h1
   rw[show ((s.toNat:Nat):Int)=s by omega] at this
   simp only[Zcn,List.all_cons,this,Bool.true_and];exact hr
  ·exact absurd (if_neg (by omega)) h1
theorem Zmo {g:Gram} (hg:g.ok) {w:List Int} {M:Nat}:∀ (k v i:Nat),rnds g w M k v i i≠0→has (nulB g) (v:Int)=true
 | 0,v,i,h=>absurd rfl h
 | k+1,v,i,h=>by
  change rnd g w M (rnds g w M k) v i i≠0 at h
  unfold rnd at h
  split at h
  ·have h1:allR g (rnds g w M k) w v i i≠0:=fun e=>h (by rw[e];simp)
   unfold allR at h1
   have:∃ r∈g.rules,r.left=(v:Int)∧wcn (rnds g w M k) w r.right i i≠0:=Classical.byContradiction fun hn=>h1 (by
    have:∀ l:List Rule,(∀ r∈l,r∈g.rules)→((l.filter fun r=>decide (r.left=(v:Int))).map fun r=>wcn (rnds g w M k) w r.right i i).sum=0:=by
     intro l
     induction l with
     | nil=>intro _;rfl
     | cons r l ih =>
      intro hl
      have ih:=ih (fun r hr=>hl r (by simp[hr]))
      by_cases e:r.left=(v:Int)
      ·rw[List.filter_cons_of_pos (by simpa using e),List.map_cons,List.sum_cons,ih]
       have:wcn (rnds g w M k) w r.right i i=0:=Classical.byContradiction fun q=>hn ⟨r,hl r (by simp),e,q⟩
       rw[this]
      ·rw[List.filter_cons_of_neg (by simpa using e),ih]
    exact this g.rules (fun _ h=>h))
   obtain⟨r,hr,e,h2⟩:=this
   have h3:=ZkS (fun v i=>Zmo hg k v i) r.right i h2
   have:=ZkF (t:=false) hg r hr (by simpa[asks] using h3)
   rw[e] at this;exact this
  ·exact absurd rfl h
theorem ZfS {g:Gram} (hg:g.ok) {w:List Int} {M v i:Nat} (h:wcns g w M v i i≠0):has (nulB g) (v:Int)=true:=Zmo hg _ v i h
def Pre (g:Gram) (v0 i0 j:Nat) (suf:List Int) (i:Nat):Prop:=∃ r∈g.rules,∃ pre,r.left=(v0:Int)∧r.right=pre++suf∧i0≤i∧(i=i0→Zcn pre (nulB g)=true)
def muC (g:Gram) (v i j:Nat):Nat:=(j - i) * 65+rnk g v
theorem Pre.lt {g:Gram} (hg:g.ok) (hc:cycL g=[]) {v0 i0 j:Nat} {s:Nat} {rest:List Int} {i m:Nat} (hp:Pre g v0 i0 j ((s:Int)::rest) i) (him:i≤m) (hmj:m≤j) (hn:m=j→Zcn rest (nulB g)=true):muC g s i m < muC g v0 i0 j∧(s:Int) < g.vars:=by
 obtain⟨r,hr,pre,e1,e2,e3,e4⟩:=hp
 have hs:(s:Int) < g.vars:=hg.hi r hr _ (by rw[e2];simp)
 have hv:(v0:Int) < g.vars:=by rw[←e1];exact hg.left r hr
 refine⟨?_,hs⟩
 have hk:=Zmn hg (v:=(s:Int)) (by omega) hs
 unfold muC
 by_cases h:m - i < j - i0
 ·have:(m - i+1) * 65≤(j - i0) * 65:=Nat.mul_le_mul_right _ h
  omega
 ·by_cases hz:i=i0∧m=j
  ·obtain⟨rfl,rfl⟩:=hz
   have hst:(s:Int)∈ZsV g (v0:Int):=by
    refine overBy_mem.2 ⟨r,hr,e1,picks_mem.2 ⟨pre.length,by rw[e2];simp,?_,by rw[e2];simp⟩⟩
    have e5:r.right.getD pre.length 0=(s:Int):=by rw[e2];simp
    have e6:r.right.take pre.length=pre:=by rw[e2];simp
    have e7:r.right.drop (pre.length+1)=rest:=by rw[e2];simp
    unfold Ze7
    rw[e5,e6,e7,e4 rfl,hn rfl]
    simp
   have:=ZjJ hg hc (by omega) hv hst
   omega
  ·omega
theorem Pre.next {g:Gram} {v0 i0 j:Nat} {s:Int} {rest:List Int} {i m:Nat} (hp:Pre g v0 i0 j (s::rest) i) (him:i≤m) (h:m=i→has (nulB g) s=true):Pre g v0 i0 j rest m:=by
 obtain⟨r,hr,pre,e1,e2,e3,e4⟩:=hp
 refine⟨r,hr,pre++[s],e1,by rw[e2];simp,by omega,fun e=>?_⟩
 have h1:=e4 (by omega)
 have h2:=h (by omega)
 simp only[Zcn,List.all_append,List.all_cons,List.all_nil,Bool.and_true,Bool.and_eq_true] at h1 ⊢
 exact⟨h1,h2⟩
theorem Pre.start {g:Gram} {v0 i j:Nat} {r:Rule} (hr:r∈g.rules) (e:r.left=(v0:Int)):Pre g v0 i j r.right i:=⟨r,hr,[],e,rfl,Nat.le_refl _,fun _=>rfl⟩
def Zig (F:Nat→Nat):Nat→Nat→Nat→Option (Nat×Nat)
 | 0,_,_=>none
 | n+1,m,k=>if k < F m then some (m,k) else Zig F n (m+1) (k - F m)
theorem ZgF {F:Nat→Nat}:∀ {n m k x a:Nat},Zig F n m k=some (x,a)→m≤x∧x < m+n∧a < F x∧k+sumN m F=sumN x F+a
 | 0,_,_,_,_,h=>by cases h
 | n+1,m,k,x,a,h=>by
  rw[Zig] at h
  split at h
  ·rename_i hk
   cases h
   exact⟨Nat.le_refl _,by omega,hk,by omega⟩
  ·obtain⟨h1,h2,h3,h4⟩:=ZgF h
   simp only[sumN] at h4
   exact⟨by omega,by omega,h3,by omega⟩
theorem ZgG {F:Nat→Nat}:∀ {n m k:Nat},k+sumN m F < sumN (m+n) F→∃ x a,Zig F n m k=some (x,a)
 | 0,m,k,h=>by rw[Nat.add_zero] at h;omega
 | n+1,m,k,h=>by
  rw[Zig]
  by_cases hk:k < F m
  ·rw[if_pos hk];exact⟨_,_,rfl⟩
  ·rw[if_neg hk]
   refine ZgG ?_
   rw[show m+1+n=m+(n+1) by omega]
   have:sumN (m+1) F=sumN m F+F m:=rfl
   omega
theorem ZkT {F:Nat→Nat} {m n:Nat} (h:m≤n):sumN m F≤sumN n F:=by
 induction n with
 | zero =>
      obtain rfl:m=0:=by omega
      exact Nat.le_refl _
 | succ n ih =>
  by_cases e:m=n+1
  ·rw[e];exact Nat.le_refl _
  ·simp only[sumN];have:=ih (by omega);omega
def fR (g:Gram) (N:Cube) (w:List Int) (v i j:Nat):Nat→Nat:=fun r=>match g.rules[r]? with
 | some x=>if x.left=(v:Int) then wcn N w x.right i j else 0
 | none=>0
def fM (N:Cube) (w:List Int) (s:Int) (r:List Int) (i j:Nat):Nat→Nat:=fun m=>if i≤m then symN N w s i m * wcn N w r m j else 0
def Zmp (g:Gram) (r:Nat):List Int:=(g.rules.getD r ⟨0,[]⟩).right
def rowF (N:Cube) (w:List Int) (T:Nat→Nat→Nat→Nat→Nat→Option (Tree×Nat)) (j:Nat):List Int→Nat→Nat→Nat→Option (List Tree×Nat)
 | [],_,_,L=>some ([],L)
 | s::r,i,k,L=>match Zig (fM N w s r i j) (j+1 - i) i k with
  | none=>none
  | some (m,a)=>if s < 0 then rowF N w T j r m (a % wcn N w r m j) L else match T s.toNat i m (a / wcn N w r m j) L with
   | none=>none
   | some (t,L1)=>match rowF N w T j r m (a % wcn N w r m j) L1 with
    | none=>none
    | some (l,L2)=>some (t::l,L2)
def ZcD (g:Gram) (N:Cube) (w:List Int):Nat→Nat→Nat→Nat→Nat→Nat→Option (Tree×Nat)
 | 0,_,_,_,_,_=>none
 | d+1,v,i,j,k,L=>if L=0 then none else match Zig (fR g N w v i j) g.rules.length 0 k with
  | none=>none
  | some (r,a)=>match rowF N w (ZcD g N w d) j (Zmp g r) i a (L - 1) with
   | none=>none
   | some (l,L2)=>some (.mk r l,L2)
def lenW (g:Gram) (t:Tree):Nat:=(ZcZ g t).length
mutual
def rkT (g:Gram) (N:Cube) (w:List Int):Tree→Nat→Nat→Nat
 | .mk r k,i,j=>sumN r.toNat (fR g N w (g.rules.getD r.toNat ⟨0,[]⟩).left.toNat i j)+rkR g N w (Zmp g r.toNat) k i j
 termination_by t=>(cnt t,0)
 decreasing_by simp[cnt,Prod.lex_def]
def rkR (g:Gram) (N:Cube) (w:List Int):List Int→List Tree→Nat→Nat→Nat
 | [],_,_,_=>0
 | s::ss,k,i,j=>if s < 0 then rkR g N w ss k (i+1) j else match k with
  | x::k=>sumN (i+lenW g x) (fM N w s ss i j)+rkT g N w x i (i+lenW g x) * wcn N w ss (i+lenW g x) j+rkR g N w ss k (i+lenW g x) j
  | []=>0
 termination_by ss k=>(cnts k,ss.length+1)
 decreasing_by all_goals (simp[cnts,Prod.lex_def];try omega)
end
variable {g:Gram} {N:Cube} {w:List Int}
theorem ZkU (s:Int) (r:List Int) (i j:Nat):wcn N w (s::r) i j=sumN (j+1) (fM N w s r i j):=rfl
theorem Zpv {s:Int} {r:List Int} {i j m:Nat} (h:m≤i):sumN m (fM N w s r i j)=0:=ZdI (fun x hx=>if_neg (by omega))
theorem ZfT {s:Int} {i m:Nat} (h:s < 0):symN N w s i m=if m=i+1∧w[i]? = some (-1 - s) then 1 else 0:=if_neg (by omega)
theorem Zvu {s:Int} {r:List Int} {i j:Nat} (h:s < 0):wcn N w (s::r) i j=if i+1≤j∧w[i]? = some (-1 - s) then wcn N w r (i+1) j else 0:=by
 rw[ZkU]
 by_cases hc:i+1≤j∧w[i]? = some (-1 - s)
 ·rw[if_pos hc,ZhM (k:=i+1) (by omega)]
  ·unfold fM;rw[if_pos (by omega),ZfT h,if_pos ⟨rfl,hc.2⟩,Nat.one_mul]
  ·intro x h1 h2
   unfold fM
   split
   ·rw[ZfT h,if_neg (fun q=>h2 q.1),Nat.zero_mul]
   ·rfl
 ·rw[if_neg hc]
  refine ZdI fun x hx=>?_
  unfold fM
  split
  ·rw[ZfT h]
   by_cases hq:x=i+1∧w[i]? = some (-1 - s)
   ·exact absurd ⟨by omega,hq.2⟩ hc
   ·rw[if_neg hq,Nat.zero_mul]
  ·rfl
theorem Zmq {s:Int} {r:List Int} {i j k:Nat} (h:k < wcn N w (s::r) i j) (hij:i≤j):∃ m a,Zig (fM N w s r i j) (j+1 - i) i k=some (m,a)∧i≤m∧m≤j∧a < symN N w s i m * wcn N w r m j∧k=sumN m (fM N w s r i j)+a:=by
 obtain⟨m,a,e⟩:=ZgG (F:=fM N w s r i j) (n:=j+1 - i) (m:=i) (k:=k) (by rw[Zpv (Nat.le_refl _),show i+(j+1 - i)=j+1 by omega,←ZkU];omega)
 obtain⟨h1,h2,h3,h4⟩:=ZgF e
 rw[Zpv (Nat.le_refl _)] at h4
 refine⟨m,a,e,h1,by omega,?_,by omega⟩
 unfold fM at h3
 rw[if_pos h1] at h3;exact h3
theorem ZsW {s:Int} {r:List Int} {i j m:Nat} (h1:i≤m) (h2:m≤j):symN N w s i m * wcn N w r m j≤wcn N w (s::r) i j:=by
 rw[ZkU]
 have:=ZnC (f:=fM N w s r i j) (n:=j+1) (k:=m) (by omega)
 unfold fM at this ⊢
 rw[if_pos h1] at this;exact this
theorem Zih {T:Nat→Nat→Nat→Nat→Nat→Option (Tree×Nat)} {s:Int} {r:List Int} {i j k L:Nat} (hs:s < 0) (h:k < wcn N w (s::r) i j):rowF N w T j (s::r) i k L=rowF N w T j r (i+1) k L∧k < wcn N w r (i+1) j∧i+1≤j∧w[i]? = some (-1 - s)∧wcn N w (s::r) i j=wcn N w r (i+1) j:=by
 have h0:=Zvu (N:=N) (w:=w) (s:=s) (r:=r) (i:=i) (j:=j) hs
 by_cases hc:i+1≤j∧w[i]? = some (-1 - s)
 ·rw[if_pos hc] at h0
  refine⟨?_,by omega,hc.1,hc.2,h0⟩
  obtain⟨m,a,e,h1,h2,h3,h4⟩:=Zmq h (by omega)
  rw[ZfT hs] at h3
  by_cases hm:m=i+1∧w[i]? = some (-1 - s)
  ·obtain⟨rfl,_⟩:=hm
   rw[if_pos ⟨rfl,hc.2⟩,Nat.one_mul] at h3
   have hz:sumN (i+1) (fM N w s r i j)=0:=ZdI fun x hx=>by
    unfold fM
    split
    ·rw[ZfT hs,if_neg (by omega),Nat.zero_mul]
    ·rfl
   obtain rfl:k=a:=by omega
   rw[rowF,e]
   simp only[hs,if_true]
   rw[Nat.mod_eq_of_lt h3]
  ·rw[if_neg hm,Nat.zero_mul] at h3;omega
 ·rw[if_neg hc] at h0;omega
theorem Zc1 {s:Nat} {i m:Nat}:symN N w (s:Int) i m=N s i m:=by unfold symN;rw[if_pos (by omega),Int.toNat_natCast]
theorem ZkV {s:Nat} {r:List Int} {i j k:Nat} (h:k < wcn N w ((s:Int)::r) i j) (hij:i≤j):∃ m a,Zig (fM N w s r i j) (j+1 - i) i k=some (m,a)∧i≤m∧m≤j∧a / wcn N w r m j < N s i m∧a % wcn N w r m j < wcn N w r m j∧N s i m≤wcn N w ((s:Int)::r) i j∧wcn N w r m j≤wcn N w ((s:Int)::r) i j∧k=sumN m (fM N w s r i j)+a∧(∀ T L,rowF N w T j ((s:Int)::r) i k L=match T s i m (a / wcn N w r m j) L with
   | none=>none
   | some (t,L1)=>match rowF N w T j r m (a % wcn N w r m j) L1 with
    | none=>none
    | some (l,L2)=>some (t::l,L2)):=by
 obtain⟨m,a,e,h1,h2,h3,h4⟩:=Zmq h hij
 have h5:=ZsW (N:=N) (w:=w) (s:=(s:Int)) (r:=r) h1 h2
 rw[Zc1] at h3 h5
 have hp:0 < wcn N w r m j:=Nat.pos_of_ne_zero fun q=>by rw[q,Nat.mul_zero] at h3;omega
 have hp2:0 < N s i m:=Nat.pos_of_ne_zero fun q=>by rw[q,Nat.zero_mul] at h3;omega
 have h6:N s i m * 1≤N s i m * wcn N w r m j:=Nat.mul_le_mul_left _ hp
 have h7:1 * wcn N w r m j≤N s i m * wcn N w r m j:=Nat.mul_le_mul_right _ hp2
 refine⟨m,a,e,h1,h2,Nat.div_lt_of_lt_mul (by rw[Nat.mul_comm];exact h3),Nat.mod_lt _ hp,by omega,by omega,h4,fun T L=>?_⟩
 rw[rowF,e]
 have hn:¬ (s:Int) < 0:=by omega
 simp only[hn,if_false,Int.toNat_natCast]
end Go.Proofs.YtbpmepgnjanhnaaGreat
namespace Go.Proofs.YtbpmepgnjanhnaaGreat
open Go.RowKit
def seg (w:List Int) (i j:Nat):List Int:=(w.drop i).take (j - i)
theorem Zw9 {w:List Int} {i j:Nat} (h:i≤j) (hj:j≤w.length):(seg w i j).length=j - i:=by unfold seg;rw[List.length_take,List.length_drop];omega
theorem Zvv (w:List Int) (i:Nat):seg w i i=[]:=by unfold seg;rw[Nat.sub_self,List.take_zero]
theorem ZsX {w:List Int} {i m j:Nat} (h1:i≤m) (h2:m≤j):seg w i m++seg w m j=seg w i j:=by
 unfold seg
 rw[show j - i=(m - i)+(j - m) by omega,List.take_add,List.drop_drop,show i+(m - i)=m by omega]
theorem Zvw {w:List Int} {i j:Nat} {x:Int} (h:i+1≤j) (hx:w[i]? = some x):seg w i j=x::seg w (i+1) j:=by
 obtain⟨hi,e⟩:=List.getElem?_eq_some_iff.1 hx
 rw[←ZsX (m:=i+1) (by omega) h]
 unfold seg
 rw[List.drop_eq_getElem_cons hi,e,show i+1 - i=1 by omega];rfl
theorem Zxa (w:List Int):seg w 0 w.length=w:=by unfold seg;simp
def FixN (g:Gram) (N:Cube) (w:List Int) (M:Nat):Prop:=∀ v i j,((v:Nat):Int) < g.vars→i≤j→j≤w.length→N v i j=min M (sumN g.rules.length (fR g N w v i j))
theorem Zvx (g:Gram) (N:Cube) (w:List Int) (v i j:Nat):allR g N w v i j=sumN g.rules.length (fR g N w v i j):=by
 have key:∀ k,k≤g.rules.length→(((g.rules.take k).filter fun r=>decide (r.left=(v:Int))).map fun r=>wcn N w r.right i j).sum=sumN k (fR g N w v i j):=by
  intro k
  induction k with
  | zero=>intro _;rfl
  | succ k ih =>
   intro hk
   have hk':k < g.rules.length:=by omega
   rw[List.take_succ_eq_append_getElem hk',List.filter_append,List.map_append,List.sum_append,ih (by omega)]
   show _=sumN k _+fR g N w v i j k
   congr 1
   unfold fR
   rw[List.getElem?_eq_getElem hk']
   by_cases e:g.rules[k].left=(v:Int)
   ·simp[e]
   ·simp[e]
 have:=key g.rules.length (Nat.le_refl _)
 rw[List.take_length] at this
 exact this
theorem Zii (g:Gram) (w:List Int) (M:Nat):FixN g (wcns g w M) w M:=fun v i j h1 h2 h3=>by rw[ZrX h1 h2 h3,Zvx]
variable {g:Gram} {N:Cube} {w:List Int} {M:Nat}
theorem ZgH {r:Nat} (h:r < g.rules.length):Zmp g r=g.rules[r].right:=by simp[Zmp,List.getD_eq_getElem?_getD,h]
theorem ZyU {r v i j:Nat} (h:r < g.rules.length) (hp:fR g N w v i j r≠0):g.rules[r].left=(v:Int)∧fR g N w v i j r=wcn N w g.rules[r].right i j:=by
 unfold fR at hp ⊢
 rw[List.getElem?_eq_getElem h] at hp ⊢
 dsimp only at hp ⊢
 by_cases e:g.rules[r].left=(v:Int)
 ·rw[if_pos e];exact⟨e,rfl⟩
 ·rw[if_neg e] at hp;exact absurd rfl hp
theorem Zwu {r v i j:Nat} (h:r < g.rules.length) (e:g.rules[r].left=(v:Int)):fR g N w v i j r=wcn N w g.rules[r].right i j:=by
 unfold fR;rw[List.getElem?_eq_getElem h];dsimp only;rw[if_pos e]
theorem ZyV {r v i j:Nat} (h:r < g.rules.length) (e:¬ g.rules[r].left=(v:Int)):fR g N w v i j r=0:=by
 unfold fR;rw[List.getElem?_eq_getElem h];dsimp only;rw[if_neg e]
theorem Zmr (hF:FixN g N w M) {v i j k:Nat} (hv:((v:Nat):Int) < g.vars) (hij:i≤j) (hj:j≤w.length) (hk:k < N v i j) (hM:N v i j < M):∃ r a,∃ h:r < g.rules.length,Zig (fR g N w v i j) g.rules.length 0 k=some (r,a)∧g.rules[r].left=(v:Int)∧a < wcn N w g.rules[r].right i j∧wcn N w g.rules[r].right i j≤N v i j∧k=sumN r (fR g N w v i j)+a:=by
 have e:=hF v i j hv hij hj
 obtain⟨r,a,hp⟩:=ZgG (F:=fR g N w v i j) (n:=g.rules.length) (m:=0) (k:=k) (by rw[show 0+g.rules.length=g.rules.length by omega];have:sumN 0 (fR g N w v i j)=0:=rfl;omega)
 obtain⟨h1,h2,h3,h4⟩:=ZgF hp
 have hr:r < g.rules.length:=by omega
 obtain⟨e1,e2⟩:=ZyU (N:=N) (w:=w) (v:=v) (i:=i) (j:=j) hr (by omega)
 refine⟨r,a,hr,hp,e1,by omega,?_,by simp only[sumN] at h4;omega⟩
 have:=ZnC (f:=fR g N w v i j) (n:=g.rules.length) (k:=r) hr
 omega
theorem Zxb (k:List Tree) (i j:Nat):rkR g N w [] k i j=0:=by rw[rkR.eq_def]
theorem Zxc {s:Int} (h:s < 0) (ss:List Int) (k:List Tree) (i j:Nat):rkR g N w (s::ss) k i j=rkR g N w ss k (i+1) j:=by rw[rkR.eq_def];simp[h]
theorem Zxd {s:Int} (h:¬ s < 0) (ss:List Int) (x:Tree) (k:List Tree) (i j:Nat):rkR g N w (s::ss) (x::k) i j=sumN (i+lenW g x) (fM N w s ss i j)+rkT g N w x i (i+lenW g x) * wcn N w ss (i+lenW g x) j+rkR g N w ss k (i+lenW g x) j:=by rw[rkR.eq_def];simp[h]
theorem Zyi (r:Int) (k:List Tree) (i j:Nat):rkT g N w (.mk r k) i j=sumN r.toNat (fR g N w (g.rules.getD r.toNat ⟨0,[]⟩).left.toNat i j)+rkR g N w (Zmp g r.toNat) k i j:=by rw[rkT]
theorem ZsY {s:Int} (h:s < 0) (r:List Int):kids (s::r)=kids r:=List.filter_cons_of_neg (by simpa using h)
theorem ZsZ {s:Int} (h:¬ s < 0) (r:List Int):kids (s::r)=s::kids r:=List.filter_cons_of_pos (by simpa using (by omega:0≤s))
def Zpw (g:Gram) (N:Cube) (w:List Int) (v i j k L:Nat) (x:Tree×Nat):Prop:=fits g x.1 (v:Int)=true∧ZcZ g x.1=seg w i j∧rkT g N w x.1 i j=k∧L=x.2+cnt x.1
theorem ZkW {T:Nat→Nat→Nat→Nat→Nat→Option (Tree×Nat)} {j:Nat} (hj:j≤w.length) (hT:∀ v i m k L x,((v:Nat):Int) < g.vars→i≤m→m≤j→k < N v i m→N v i m < M→T v i m k L=some x→Zpw g N w v i m k L x) :
  ∀ (r:List Int) (i k L:Nat) (l:List Tree) (L2:Nat),(∀ s∈r,s < g.vars)→i≤j→k < wcn N w r i j→wcn N w r i j < M→rowF N w T j r i k L=some (l,L2) →
   (kids r).length=l.length∧fitss g l (kids r)=true∧wordL g r l=seg w i j∧rkR g N w r l i j=k∧L=L2+cnts l
 | [],i,k,L,l,L2,_,hij,hk,_,h=>by
  rw[rowF] at h
  cases h
  unfold wcn at hk
  split at hk
  ·rename_i e
   subst e
   obtain rfl:k=0:=by omega
   exact⟨rfl,by rw[fitss.eq_def],by rw[Zh3,Zvv],Zxb _ _ _,by simp[cnts]⟩
  ·omega
 | s::r,i,k,L,l,L2,hr,hij,hk,hM,h=>by
  have hr':∀ s∈r,s < g.vars:=fun x hx=>hr x (by simp[hx])
  by_cases hs:s < 0
  ·obtain⟨e1,e2,e3,e4,e5⟩:=Zih (T:=T) (L:=L) hs hk
   rw[e1] at h
   obtain⟨q1,q2,q3,q4,q5⟩:=ZkW hj hT r (i+1) k L l L2 hr' e3 e2 (by omega) h
   rw[ZsY hs]
   exact⟨q1,q2,by rw[Zh4 hs,q3,Zvw e3 e4],by rw[Zxc hs,q4],q5⟩
  ·obtain⟨sn,rfl⟩:∃ sn:Nat,s=(sn:Int):=⟨s.toNat,by omega⟩
   obtain⟨m,a,e,h1,h2,h3,h4,h5,h6,h7,h8⟩:=ZkV hk hij
   rw[h8 T L] at h
   cases hc:T sn i m (a / wcn N w r m j) L with
   | none=>rw[hc] at h;cases h
   | some x =>
    obtain⟨t,L1⟩:=x
    rw[hc] at h
    dsimp only at h
    obtain⟨p1,p2,p3,p4⟩:=hT sn i m _ L _ (hr _ (by simp)) h1 h2 h3 (by omega) hc
    dsimp only at p1 p2 p3 p4
    cases hd:rowF N w T j r m (a % wcn N w r m j) L1 with
    | none=>rw[hd] at h;cases h
    | some y =>
     obtain⟨l',L2'⟩:=y
     rw[hd] at h
     cases h
     obtain⟨q1,q2,q3,q4,q5⟩:=ZkW hj hT r m _ L1 l' L2 hr' h2 h4 (by omega) hd
     have hl:i+lenW g t=m:=by unfold lenW;rw[p2,Zw9 h1 (by omega)];omega
     rw[ZsZ hs]
     refine⟨by simp[q1],by rw[fitss,p1,q2];rfl,by rw[Zh5 hs,p2,q3,ZsX h1 h2],?_,by rw[cnts];omega⟩
     rw[Zxd hs,hl,p3,q4,h7]
     have:=Nat.div_add_mod a (wcn N w r m j)
     rw[Nat.mul_comm (a / wcn N w r m j)]
     omega
theorem ZjK (hg:g.ok) (hF:FixN g N w M):∀ (d v i j k L:Nat) (x:Tree×Nat),((v:Nat):Int) < g.vars→i≤j→j≤w.length→k < N v i j→N v i j < M→ZcD g N w d v i j k L=some x→Zpw g N w v i j k L x
 | 0,_,_,_,_,_,_,_,_,_,_,_,h=>by cases h
 | d+1,v,i,j,k,L,x,hv,hij,hj,hk,hM,h=>by
  rw[ZcD] at h
  by_cases hL:L=0
  ·rw[if_pos hL] at h;cases h
  rw[if_neg hL] at h
  obtain⟨r,a,hr,e1,e2,e3,e4,e5⟩:=Zmr hF hv hij hj hk hM
  rw[e1] at h
  dsimp only at h
  rw[ZgH hr] at h
  cases hc:rowF N w (ZcD g N w d) j g.rules[r].right i a (L - 1) with
  | none=>rw[hc] at h;cases h
  | some y =>
   obtain⟨l,L2⟩:=y
   rw[hc] at h
   cases h
   obtain⟨q1,q2,q3,q4,q5⟩:=ZkW hj (fun v i m k L x p1 p2 p3 p4 p5 p6=>ZjK hg hF d v i m k L x p1 p2 (by omega) p4 p5 p6) g.rules[r].right i a (L - 1) l L2 (fun s hs=>hg.hi _ (List.getElem_mem hr) s hs) hij e3 (by omega) hc
   have eD:g.rules.getD r ⟨0,[]⟩=g.rules[r]:=by simp[List.getD_eq_getElem?_getD,hr]
   refine⟨?_,?_,?_,?_⟩
   ·rw[Zgz]
    show (match (if 0≤((r:Nat):Int) then g.rules[((r:Nat):Int).toNat]? else none) with
     | none=>false
     | some ru=>decide (ru.left=(v:Int)) && (decide ((kids ru.right).length=l.length) && fitss g l (kids ru.right)))=true
    rw[if_pos (by omega),Int.toNat_natCast,List.getElem?_eq_getElem hr]
    simp[e2,q1,q2]
   ·rw[Zpn]
    show wordL g ((g.rules[((r:Nat):Int).toNat]?).getD ⟨0,[]⟩).right l=_
    rw[Int.toNat_natCast,List.getElem?_eq_getElem hr];exact q3
   ·show rkT g N w (.mk r l) i j=k
    rw[Zyi,Int.toNat_natCast,eD,e2,ZgH hr,q4,Int.toNat_natCast];omega
   ·show L=L2+cnt (.mk r l)
    rw[cnt];omega
end Go.Proofs.YtbpmepgnjanhnaaGreat
