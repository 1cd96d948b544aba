import Derived.Test.YtbpmepgnjanhnaaGreatF2
set_option linter.unusedVariables false
set_option linter.unusedSimpArgs false
set_option linter.unusedSectionVars false
namespace Go.Proofs.YtbpmepgnjanhnaaGreat
open Go.RowKit
theorem ZkR:∀ {a b:List Bool},a.length=b.length→(∀ k:Nat,a.getD k false=true→b.getD k false=true)→a.count true≤b.count true
 | [],[],_,_=>Hg _
 | [],_::_,h,_=>by simp at h
 | _::_,[],h,_=>by simp at h
 | x::a,y::b,h,hs=>by
  have ih:=ZkR (a:=a) (b:=b) (by simpa using h) (fun k hk=>by have:=hs (k+1);simpa using this (by simpa using hk));have h0:=hs 0;simp only[GI] at h0;cases x <;> cases y <;> simp_all <;> omega
theorem ZkS:∀ {a b:List Bool} (j:Nat),a.length=b.length→(∀ k:Nat,a.getD k false=true→b.getD k false=true)→b.getD j false=true→a.getD j false=false→a.count true < b.count true
 | [],[],_,_,_,hb,_=>by simp at hb
 | [],_::_,_,h,_,_,_=>by simp at h
 | _::_,[],_,h,_,_,_=>by simp at h
 | x::a,y::b,0,h,hs,hb,ha=>by
  have ih:=ZkR (a:=a) (b:=b) (by simpa using h) (fun k hk=>by have:=hs (k+1);simpa using this (by simpa using hk));simp only[GI] at hb ha;subst hb;subst ha;simp only[List.count_cons_self,List.count_cons_of_ne (show false≠true by decide)];have:List.count true (false::a)=a.count true:=by simp
  omega
 | x::a,y::b,j+1,h,hs,hb,ha=>by
  have ih:=ZkS (a:=a) (b:=b) j (by simpa using h) (fun k hk=>by have:=hs (k+1);simpa using this (by simpa using hk)) (by simpa using hb) (by simpa using ha);have h0:=hs 0;simp only[GI] at h0;cases x <;> cases y <;> simp_all <;> omega
def rnk (g:Ac) (v:Int):Nat:=(rowM (ledM false g) v).count true
abbrev ZiL (g:Ac) (v:Int):List Int:=Zi7 false g (Za1 false g) v
theorem ZpT {g:Ac} (hg:g.ok) {v:Int} (h0:0≤v) (h1:v < g.vars):rnk g v≤64:=by
 have h:=(Zhn (c:=false) hg).at h0 (by omega);have:=List.count_le_length (a:=true) (l:=rowM (ledM false g) v);have:=hg.vars;unfold rnk;omega
theorem ZCL {g:Ac} (hg:g.ok) (hc:cycL g=[]) {v:Int} (h0:0≤v) (h1:v < g.vars):has (rowM (ledM false g) v) v=false:=by
 unfold cycL at hc;rw[Hb (by rw[hg.fault])] at hc;cases h:has (rowM (ledM false g) v) v with
 | false=>rfl
 | true =>
  have:v∈ZfT (ledM false g) g.vars.toNat:=by
   unfold ZfT;refine List.mem_map.2 ⟨v.toNat,List.mem_filter.2 ⟨List.mem_range.2 (by omega),?_⟩,by omega⟩;rw[show ((v.toNat:Nat):Int)=v by omega];exact h
  rw[hc] at this;cases this
theorem ZeM {g:Ac} (hg:g.ok) {v u:Int} (h0:0≤v) (h1:v < g.vars) (hs:u∈ZiL g v):0≤u∧u < g.vars:=by
 have h:=(Zih (c:=false) hg h0 h1).from_ u hs;have:=Zfe h;have:=(Zhn (c:=false) hg).at h0 (by omega);omega
theorem ZdO {g:Ac} (hg:g.ok) (hc:cycL g=[]) {v u:Int} (h0:0≤v) (h1:v < g.vars) (hs:u∈ZiL g v):rnk g u < rnk g v:=by
 have hv:=Zih (c:=false) hg h0 h1;have hu1:=hv.from_ u hs;obtain⟨u0,u1⟩:=ZeM hg h0 h1 hs;have hu:=Zih (c:=false) hg u0 u1;have l1:=(Zhn (c:=false) hg).at h0 (by omega);have l2:=(Zhn (c:=false) hg).at u0 (by omega);have hsub:=(hu.least (rowM (ledM false g) v) (by omega) (fun w hw=>hv.goes u hu1 w hw) (fun x hx w hw=>hv.goes x hx w hw)).sub;have hno:=ZCL hg hc u0 u1;unfold rnk;refine ZkS u.toNat (by omega) (fun k hk=>?_) ?_ ?_
 ·have:=hsub (k:Int) (by rw[ZbH];exact hk)
  rwa [ZbH] at this
 ·rw[←ZbH,show ((u.toNat:Nat):Int)=u by omega];exact hu1
 ·rw[←ZbH,show ((u.toNat:Nat):Int)=u by omega];exact hno
abbrev nulB (g:Ac):List Bool:=Za1 false g
theorem ZnY {N:Cube} {w:List Int} {S:List Bool} (hN:∀ v i,N v i i≠0→has S (v:Int)=true):∀ (r:List Int) (i:Nat),wcn N w r i i≠0→ZaQ r S=true
 | [],_,_=>rfl
 | s::r,i,h=>by
  rw[wcn,Zkr (k:=i) (by omega) (fun x h1 h2=>by rw[Ha (by omega)]),Hb (Hg i)] at h;have h1:symN N w s i i≠0:=fun e=>h (by rw[e,GK])
  have h2:wcn N w r i i≠0:=fun e=>h (by rw[e,Nat.mul_zero])
  have hr:=ZnY hN r i h2;unfold symN at h1;split at h1
  ·rename_i h0;have:=hN _ _ h1;rw[show ((s.toNat:Nat):Int)=s by omega] at this;simp only[ZaQ,GG,this,H5];exact hr
  ·exact absurd (Ha (by omega)) h1
theorem ZpU {g:Ac} (hg:g.ok) {w:List Int} {M:Nat}:∀ (k v i:Nat),rnds g w M k v i i≠0→has (nulB g) (v:Int)=true
 | 0,v,i,h=>absurd rfl h
 | k+1,v,i,h=>by
  change rnd g w M (rnds g w M k) v i i≠0 at h;unfold rnd at h;split at h
  ·have h1:allR g (rnds g w M k) w v i i≠0:=fun e=>h (by rw[e];simp)
   unfold allR at h1;have:∃ r∈g.Aa,r.left=(v:Int)∧wcn (rnds g w M k) w r.right i i≠0:=HN fun hn=>h1 (by
    have:∀ l:List Rule,(∀ r∈l,r∈g.Aa)→((l.filter fun r=>decide (r.left=(v:Int))).map fun r=>wcn (rnds g w M k) w r.right i i).sum=0:=by
     intro l
     induction l with
     | nil=>intro _;rfl
     | cons r l ih =>
      intro hl;have ih:=ih (fun r hr=>hl r (by simp[hr]));by_cases e:r.left=(v:Int)
      ·rw[Gr (by simpa using e),Hm,List.sum_cons,ih];have:wcn (rnds g w M k) w r.right i i=0:=HN fun q=>hn ⟨r,hl r (by simp),e,q⟩
       rw[this]
      ·rw[GJ (by simpa using e),ih]
    exact this g.Aa (fun _ h=>h))
   obtain⟨r,hr,e,h2⟩:=this;have h3:=ZnY (fun v i=>ZpU hg k v i) r.right i h2;have:=ZfL (t:=false) hg r hr (by simpa[asks] using h3);rw[e] at this;exact this
  ·exact absurd rfl h
theorem Ze3 {g:Ac} (hg:g.ok) {w:List Int} {M v i:Nat} (h:Ak g w M v i i≠0):has (nulB g) (v:Int)=true:=ZpU hg _ v i h
def Pre (g:Ac) (v0 i0 j:Nat) (suf:List Int) (i:Nat):Prop:=∃ r∈g.Aa,∃ pre,r.left=(v0:Int)∧r.right=pre++suf∧i0≤i∧(i=i0→ZaQ pre (nulB g)=true)
def muC (g:Ac) (v i j:Nat):Nat:=(j - i) * 65+rnk g v
theorem Pre.lt {g:Ac} (hg:g.ok) (hc:cycL g=[]) {v0 i0 j:Nat} {s:Nat} {rest:List Int} {i m:Nat} (hp:Pre g v0 i0 j ((s:Int)::rest) i) (him:i≤m) (hmj:m≤j) (hn:m=j→ZaQ rest (nulB g)=true):muC g s i m < muC g v0 i0 j∧(s:Int) < g.vars:=by
 obtain⟨r,hr,pre,e1,e2,e3,e4⟩:=hp;have hs:(s:Int) < g.vars:=hg.hi r hr _ (by rw[e2];simp);have hv:(v0:Int) < g.vars:=by rw[←e1];exact hg.left r hr
 refine⟨?_,hs⟩;have hk:=ZpT hg (v:=(s:Int)) (by omega) hs;unfold muC;by_cases h:m - i < j - i0
 ·have:(m - i+1) * 65≤(j - i0) * 65:=Gi _ h
  omega
 ·by_cases hz:i=i0∧m=j
  ·obtain⟨rfl,rfl⟩:=hz;have hst:(s:Int)∈ZiL g (v0:Int):=by
    refine overBy_mem.2 ⟨r,hr,e1,picks_mem.2 ⟨pre.length,by rw[e2];simp,?_,by rw[e2];simp⟩⟩;have e5:r.right.getD pre.length 0=(s:Int):=(by rw[e2];simp);have e6:r.right.take pre.length=pre:=(by rw[e2];simp);have e7:r.right.drop (pre.length+1)=rest:=(by rw[e2];simp);unfold ZdQ;rw[e5,e6,e7,e4 rfl,hn rfl];simp
   have:=ZdO hg hc (by omega) hv hst;omega
  ·omega
theorem Pre.next {g:Ac} {v0 i0 j:Nat} {s:Int} {rest:List Int} {i m:Nat} (hp:Pre g v0 i0 j (s::rest) i) (him:i≤m) (h:m=i→has (nulB g) s=true):Pre g v0 i0 j rest m:=by
 obtain⟨r,hr,pre,e1,e2,e3,e4⟩:=hp;refine⟨r,hr,pre++[s],e1,by rw[e2];simp,by omega,fun e=>?_⟩;have h1:=e4 (by omega);have h2:=h (by omega);simp only[ZaQ,List.all_append,GG,List.all_nil,Bool.and_true,Hr] at h1 ⊢;exact⟨h1,h2⟩
theorem Pre.start {g:Ac} {v0 i j:Nat} {r:Rule} (hr:r∈g.Aa) (e:r.left=(v0:Int)):Pre g v0 i j r.right i:=⟨r,hr,[],e,rfl,Hg _,fun _=>rfl⟩
def ZkT (F:Nat→Nat):Nat→Nat→Nat→Option (Nat×Nat)
 | 0,_,_=>none
 | n+1,m,k=>if k < F m then some (m,k) else ZkT F n (m+1) (k - F m)
theorem ZiM {F:Nat→Nat}:∀ {n m k x a:Nat},ZkT F n m k=some (x,a)→m≤x∧x < m+n∧a < F x∧k+Al m F=Al x F+a
 | 0,_,_,_,_,h=>by cases h
 | n+1,m,k,x,a,h=>by
  rw[ZkT] at h;split at h
  ·rename_i hk;cases h;exact⟨Hg _,by omega,hk,by omega⟩
  ·obtain⟨h1,h2,h3,h4⟩:=ZiM h;simp only[Al] at h4;exact⟨by omega,by omega,h3,by omega⟩
theorem ZiN {F:Nat→Nat}:∀ {n m k:Nat},k+Al m F < Al (m+n) F→∃ x a,ZkT F n m k=some (x,a)
 | 0,m,k,h=>by rw[Gx] at h;omega
 | n+1,m,k,h=>by
  rw[ZkT];by_cases hk:k < F m
  ·rw[Hb hk];exact⟨_,_,rfl⟩
  ·rw[Ha hk];refine ZiN ?_;rw[show m+1+n=m+(n+1) by omega];have:Al (m+1) F=Al m F+F m:=rfl
   omega
theorem ZnZ {F:Nat→Nat} {m n:Nat} (h:m≤n):Al m F≤Al n F:=by
 induction n with
 | zero =>
      obtain rfl:m=0:=(by omega);exact Hg _
 | succ n ih =>
  by_cases e:m=n+1
  ·rw[e];exact Hg _
  ·simp only[Al];have:=ih (by omega);omega
def fR (g:Ac) (N:Cube) (w:List Int) (v i j:Nat):Nat→Nat:=fun r=>match g.Aa[r]? with
 | some x=>if x.left=(v:Int) then wcn N w x.right i j else 0
 | none=>0
def fM (N:Cube) (w:List Int) (s:Int) (r:List Int) (i j:Nat):Nat→Nat:=fun m=>if i≤m then symN N w s i m * wcn N w r m j else 0
def ZpV (g:Ac) (r:Nat):List Int:=(g.Aa.getD r ⟨0,[]⟩).right
def rowF (N:Cube) (w:List Int) (T:Nat→Nat→Nat→Nat→Nat→Option (Tree×Nat)) (j:Nat):List Int→Nat→Nat→Nat→Option (List Tree×Nat)
 | [],_,_,L=>some ([],L)
 | s::r,i,k,L=>match ZkT (fM N w s r i j) (j+1 - i) i k with
  | none=>none
  | some (m,a)=>if s < 0 then rowF N w T j r m (a % wcn N w r m j) L else match T s.toNat i m (a / wcn N w r m j) L with
   | none=>none
   | some (t,L1)=>match rowF N w T j r m (a % wcn N w r m j) L1 with
    | none=>none
    | some (l,L2)=>some (t::l,L2)
def Zdi (g:Ac) (N:Cube) (w:List Int):Nat→Nat→Nat→Nat→Nat→Nat→Option (Tree×Nat)
 | 0,_,_,_,_,_=>none
 | d+1,v,i,j,k,L=>if L=0 then none else match ZkT (fR g N w v i j) g.Aa.length 0 k with
  | none=>none
  | some (r,a)=>match rowF N w (Zdi g N w d) j (ZpV g r) i a (L - 1) with
   | none=>none
   | some (l,L2)=>some (.mk r l,L2)
def lenW (g:Ac) (t:Tree):Nat:=(Zbo g t).length
mutual
def rkT (g:Ac) (N:Cube) (w:List Int):Tree→Nat→Nat→Nat
 | .mk r k,i,j=>Al r.toNat (fR g N w (g.Aa.getD r.toNat ⟨0,[]⟩).left.toNat i j)+rkR g N w (ZpV g r.toNat) k i j
 termination_by t=>(cnt t,0)
 decreasing_by simp[cnt,Prod.lex_def]
def rkR (g:Ac) (N:Cube) (w:List Int):List Int→List Tree→Nat→Nat→Nat
 | [],_,_,_=>0
 | s::ss,k,i,j=>if s < 0 then rkR g N w ss k (i+1) j else match k with
  | x::k=>Al (i+lenW g x) (fM N w s ss i j)+rkT g N w x i (i+lenW g x) * wcn N w ss (i+lenW g x) j+rkR g N w ss k (i+lenW g x) j
  | []=>0
 termination_by ss k=>(cnts k,ss.length+1)
 decreasing_by all_goals (simp[cnts,Prod.lex_def];try omega)
end
variable {g:Ac} {N:Cube} {w:List Int}
theorem Zn0 (s:Int) (r:List Int) (i j:Nat):wcn N w (s::r) i j=Al (j+1) (fM N w s r i j):=rfl
theorem Zti {s:Int} {r:List Int} {i j m:Nat} (h:m≤i):Al m (fM N w s r i j)=0:=ZeZ (fun x hx=>Ha (by omega))
theorem ZhP {s:Int} {i m:Nat} (h:s < 0):symN N w s i m=if m=i+1∧w[i]? = some (-1 - s) then 1 else 0:=Ha (by omega)
theorem ZAJ {s:Int} {r:List Int} {i j:Nat} (h:s < 0):wcn N w (s::r) i j=if i+1≤j∧w[i]? = some (-1 - s) then wcn N w r (i+1) j else 0:=by
 rw[Zn0];by_cases hc:i+1≤j∧w[i]? = some (-1 - s)
 ·rw[Hb hc,Zkr (k:=i+1) (by omega)]
  ·unfold fM;rw[Hb (by omega),ZhP h,Hb ⟨rfl,hc.2⟩,Nat.one_mul]
  ·intro x h1 h2;unfold fM;split
   ·rw[ZhP h,Ha (fun q=>h2 q.1),GK]
   ·rfl
 ·rw[Ha hc];refine ZeZ fun x hx=>?_
  unfold fM;split
  ·rw[ZhP h];by_cases hq:x=i+1∧w[i]? = some (-1 - s)
   ·exact absurd ⟨by omega,hq.2⟩ hc
   ·rw[Ha hq,GK]
  ·rfl
theorem ZpW {s:Int} {r:List Int} {i j k:Nat} (h:k < wcn N w (s::r) i j) (hij:i≤j):∃ m a,ZkT (fM N w s r i j) (j+1 - i) i k=some (m,a)∧i≤m∧m≤j∧a < symN N w s i m * wcn N w r m j∧k=Al m (fM N w s r i j)+a:=by
 obtain⟨m,a,e⟩:=ZiN (F:=fM N w s r i j) (n:=j+1 - i) (m:=i) (k:=k) (by rw[Zti (Hg _),show i+(j+1 - i)=j+1 by omega,←Zn0];omega);obtain⟨h1,h2,h3,h4⟩:=ZiM e;rw[Zti (Hg _)] at h4;refine⟨m,a,e,h1,by omega,?_,by omega⟩;unfold fM at h3;rw[Hb h1] at h3;exact h3
theorem ZxG {s:Int} {r:List Int} {i j m:Nat} (h1:i≤m) (h2:m≤j):symN N w s i m * wcn N w r m j≤wcn N w (s::r) i j:=by
 rw[Zn0];have:=Zro (f:=fM N w s r i j) (n:=j+1) (k:=m) (by omega);unfold fM at this ⊢;rw[Hb h1] at this;exact this
theorem ZkU {T:Nat→Nat→Nat→Nat→Nat→Option (Tree×Nat)} {s:Int} {r:List Int} {i j k L:Nat} (hs:s < 0) (h:k < wcn N w (s::r) i j):rowF N w T j (s::r) i k L=rowF N w T j r (i+1) k L∧k < wcn N w r (i+1) j∧i+1≤j∧w[i]? = some (-1 - s)∧wcn N w (s::r) i j=wcn N w r (i+1) j:=by
 have h0:=ZAJ (N:=N) (w:=w) (s:=s) (r:=r) (i:=i) (j:=j) hs;by_cases hc:i+1≤j∧w[i]? = some (-1 - s)
 ·rw[Hb hc] at h0;refine⟨?_,by omega,hc.1,hc.2,h0⟩;obtain⟨m,a,e,h1,h2,h3,h4⟩:=ZpW h (by omega);rw[ZhP hs] at h3;by_cases hm:m=i+1∧w[i]? = some (-1 - s)
  ·obtain⟨rfl,_⟩:=hm;rw[Hb ⟨rfl,hc.2⟩,Nat.one_mul] at h3;have hz:Al (i+1) (fM N w s r i j)=0:=ZeZ fun x hx=>by
    unfold fM;split
    ·rw[ZhP hs,Ha (by omega),GK]
    ·rfl
   obtain rfl:k=a:=by omega
   rw[rowF,e];simp only[hs,if_true];rw[Nat.mod_eq_of_lt h3]
  ·rw[Ha hm,GK] at h3;omega
 ·rw[Ha hc] at h0;omega
theorem ZdT {s:Nat} {i m:Nat}:symN N w (s:Int) i m=N s i m:=by unfold symN;rw[Hb (by omega),Hn]
theorem Zn1 {s:Nat} {r:List Int} {i j k:Nat} (h:k < wcn N w ((s:Int)::r) i j) (hij:i≤j):∃ m a,ZkT (fM N w s r i j) (j+1 - i) i k=some (m,a)∧i≤m∧m≤j∧a / wcn N w r m j < N s i m∧a % wcn N w r m j < wcn N w r m j∧N s i m≤wcn N w ((s:Int)::r) i j∧wcn N w r m j≤wcn N w ((s:Int)::r) i j∧k=Al m (fM N w s r i j)+a∧(∀ T L,rowF N w T j ((s:Int)::r) i k L=match T s i m (a / wcn N w r m j) L with
   | none=>none
   | some (t,L1)=>match rowF N w T j r m (a % wcn N w r m j) L1 with
    | none=>none
    | some (l,L2)=>some (t::l,L2)):=by
 obtain⟨m,a,e,h1,h2,h3,h4⟩:=ZpW h hij;have h5:=ZxG (N:=N) (w:=w) (s:=(s:Int)) (r:=r) h1 h2;rw[ZdT] at h3 h5;have hp:0 < wcn N w r m j:=Nat.pos_of_ne_zero fun q=>by rw[q,Nat.mul_zero] at h3;omega
 have hp2:0 < N s i m:=Nat.pos_of_ne_zero fun q=>by rw[q,GK] at h3;omega
 have h6:N s i m * 1≤N s i m * wcn N w r m j:=Ji _ hp;have h7:1 * wcn N w r m j≤N s i m * wcn N w r m j:=Gi _ hp2;refine⟨m,a,e,h1,h2,Nat.div_lt_of_lt_mul (by rw[Nat.mul_comm];exact h3),Nat.mod_lt _ hp,by omega,by omega,h4,fun T L=>?_⟩;rw[rowF,e];have hn:¬ (s:Int) < 0:=by omega
 simp only[hn,if_false,Hn]
end Go.Proofs.YtbpmepgnjanhnaaGreat
namespace Go.Proofs.YtbpmepgnjanhnaaGreat
open Go.RowKit
def seg (w:List Int) (i j:Nat):List Int:=(w.drop i).take (j - i)
theorem ZkV {w:List Int} {i j:Nat} (h:i≤j) (hj:j≤w.length):(seg w i j).length=j - i:=by unfold seg;rw[Hs,HG];omega
theorem Ztj (w:List Int) (i:Nat):seg w i i=[]:=by unfold seg;rw[Ga,GW]
theorem Zn2 {w:List Int} {i m j:Nat} (h1:i≤m) (h2:m≤j):seg w i m++seg w m j=seg w i j:=by
 unfold seg;rw[show j - i=(m - i)+(j - m) by omega,List.take_add,List.drop_drop,show i+(m - i)=m by omega]
theorem Ztk {w:List Int} {i j:Nat} {x:Int} (h:i+1≤j) (hx:w[i]? = some x):seg w i j=x::seg w (i+1) j:=by
 obtain⟨hi,e⟩:=List.getElem?_eq_some_iff.1 hx;rw[←Zn2 (m:=i+1) (by omega) h];unfold seg;rw[Hw hi,e,show i+1 - i=1 by omega];rfl
theorem ZCM (w:List Int):seg w 0 w.length=w:=by unfold seg;simp
def FixN (g:Ac) (N:Cube) (w:List Int) (M:Nat):Prop:=∀ v i j,((v:Nat):Int) < g.vars→i≤j→j≤w.length→N v i j=min M (Al g.Aa.length (fR g N w v i j))
theorem Ztl (g:Ac) (N:Cube) (w:List Int) (v i j:Nat):allR g N w v i j=Al g.Aa.length (fR g N w v i j):=by
 have key:∀ k,k≤g.Aa.length→(((g.Aa.take k).filter fun r=>decide (r.left=(v:Int))).map fun r=>wcn N w r.right i j).sum=Al k (fR g N w v i j):=by
  intro k
  induction k with
  | zero=>intro _;rfl
  | succ k ih =>
   intro hk;have hk':k < g.Aa.length:=by omega
   rw[HD hk',GS,Ho,List.sum_append,ih (by omega)];show _=Al k _+fR g N w v i j k;congr 1;unfold fR;rw[Hj hk'];by_cases e:g.Aa[k].left=(v:Int)
   ·simp[e]
   ·simp[e]
 have:=key g.Aa.length (Hg _);rw[HO] at this;exact this
theorem ZkW (g:Ac) (w:List Int) (M:Nat):FixN g (Ak g w M) w M:=fun v i j h1 h2 h3=>by rw[ZwU h1 h2 h3,Ztl]
variable {g:Ac} {N:Cube} {w:List Int} {M:Nat}
theorem ZiO {r:Nat} (h:r < g.Aa.length):ZpV g r=g.Aa[r].right:=by simp[ZpV,Hf,h]
theorem ZEW {r v i j:Nat} (h:r < g.Aa.length) (hp:fR g N w v i j r≠0):g.Aa[r].left=(v:Int)∧fR g N w v i j r=wcn N w g.Aa[r].right i j:=by
 unfold fR at hp ⊢;rw[Hj h] at hp ⊢;dsimp only at hp ⊢;by_cases e:g.Aa[r].left=(v:Int)
 ·rw[Hb e];exact⟨e,rfl⟩
 ·rw[Ha e] at hp;exact absurd rfl hp
theorem ZBY {r v i j:Nat} (h:r < g.Aa.length) (e:g.Aa[r].left=(v:Int)):fR g N w v i j r=wcn N w g.Aa[r].right i j:=by
 unfold fR;rw[Hj h];dsimp only;rw[Hb e]
theorem ZEX {r v i j:Nat} (h:r < g.Aa.length) (e:¬ g.Aa[r].left=(v:Int)):fR g N w v i j r=0:=by
 unfold fR;rw[Hj h];dsimp only;rw[Ha e]
theorem ZpX (hF:FixN g N w M) {v i j k:Nat} (hv:((v:Nat):Int) < g.vars) (hij:i≤j) (hj:j≤w.length) (hk:k < N v i j) (hM:N v i j < M):∃ r a,∃ h:r < g.Aa.length,ZkT (fR g N w v i j) g.Aa.length 0 k=some (r,a)∧g.Aa[r].left=(v:Int)∧a < wcn N w g.Aa[r].right i j∧wcn N w g.Aa[r].right i j≤N v i j∧k=Al r (fR g N w v i j)+a:=by
 have e:=hF v i j hv hij hj;obtain⟨r,a,hp⟩:=ZiN (F:=fR g N w v i j) (n:=g.Aa.length) (m:=0) (k:=k) (by rw[show 0+g.Aa.length=g.Aa.length by omega];have:Al 0 (fR g N w v i j)=0:=rfl;omega);obtain⟨h1,h2,h3,h4⟩:=ZiM hp;have hr:r < g.Aa.length:=by omega
 obtain⟨e1,e2⟩:=ZEW (N:=N) (w:=w) (v:=v) (i:=i) (j:=j) hr (by omega);refine⟨r,a,hr,hp,e1,by omega,?_,by simp only[Al] at h4;omega⟩;have:=Zro (f:=fR g N w v i j) (n:=g.Aa.length) (k:=r) hr;omega
theorem ZCN (k:List Tree) (i j:Nat):rkR g N w [] k i j=0:=by rw[rkR.eq_def]
theorem ZCO {s:Int} (h:s < 0) (ss:List Int) (k:List Tree) (i j:Nat):rkR g N w (s::ss) k i j=rkR g N w ss k (i+1) j:=by rw[rkR.eq_def];simp[h]
theorem ZCP {s:Int} (h:¬ s < 0) (ss:List Int) (x:Tree) (k:List Tree) (i j:Nat):rkR g N w (s::ss) (x::k) i j=Al (i+lenW g x) (fM N w s ss i j)+rkT g N w x i (i+lenW g x) * wcn N w ss (i+lenW g x) j+rkR g N w ss k (i+lenW g x) j:=by rw[rkR.eq_def];simp[h]
theorem ZD8 (r:Int) (k:List Tree) (i j:Nat):rkT g N w (.mk r k) i j=Al r.toNat (fR g N w (g.Aa.getD r.toNat ⟨0,[]⟩).left.toNat i j)+rkR g N w (ZpV g r.toNat) k i j:=by rw[rkT]
theorem Zc2 {s:Int} (h:s < 0) (r:List Int):Ab (s::r)=Ab r:=GJ (by simpa using h)
theorem ZbG {s:Int} (h:¬ s < 0) (r:List Int):Ab (s::r)=s::Ab r:=Gr (by simpa using (by omega:0≤s))
def Ztm (g:Ac) (N:Cube) (w:List Int) (v i j k L:Nat) (x:Tree×Nat):Prop:=fits g x.1 (v:Int)=true∧Zbo g x.1=seg w i j∧rkT g N w x.1 i j=k∧L=x.2+cnt x.1
theorem Zn3 {T:Nat→Nat→Nat→Nat→Nat→Option (Tree×Nat)} {j:Nat} (hj:j≤w.length) (hT:∀ v i m k L x,((v:Nat):Int) < g.vars→i≤m→m≤j→k < N v i m→N v i m < M→T v i m k L=some x→Ztm g N w v i m k L x) :
  ∀ (r:List Int) (i k L:Nat) (l:List Tree) (L2:Nat),(∀ s∈r,s < g.vars)→i≤j→k < wcn N w r i j→wcn N w r i j < M→rowF N w T j r i k L=some (l,L2) →
   (Ab r).length=l.length∧fitss g l (Ab r)=true∧wordL g r l=seg w i j∧rkR g N w r l i j=k∧L=L2+cnts l
 | [],i,k,L,l,L2,_,hij,hk,_,h=>by
  rw[rowF] at h;cases h;unfold wcn at hk;split at hk
  ·rename_i e;subst e;obtain rfl:k=0:=by omega
   exact⟨rfl,by rw[fitss.eq_def],by rw[Zbe,Ztj],ZCN _ _ _,by simp[cnts]⟩
  ·omega
 | s::r,i,k,L,l,L2,hr,hij,hk,hM,h=>by
  have hr':∀ s∈r,s < g.vars:=fun x hx=>hr x (by simp[hx])
  by_cases hs:s < 0
  ·obtain⟨e1,e2,e3,e4,e5⟩:=ZkU (T:=T) (L:=L) hs hk;rw[e1] at h;obtain⟨q1,q2,q3,q4,q5⟩:=Zn3 hj hT r (i+1) k L l L2 hr' e3 e2 (by omega) h;rw[Zc2 hs];exact⟨q1,q2,by rw[Zbi hs,q3,Ztk e3 e4],by rw[ZCO hs,q4],q5⟩
  ·obtain⟨sn,rfl⟩:∃ sn:Nat,s=(sn:Int):=⟨s.toNat,by omega⟩
   obtain⟨m,a,e,h1,h2,h3,h4,h5,h6,h7,h8⟩:=Zn1 hk hij;rw[h8 T L] at h;cases hc:T sn i m (a / wcn N w r m j) L with
   | none=>rw[hc] at h;cases h
   | some x =>
    obtain⟨t,L1⟩:=x;rw[hc] at h;dsimp only at h;obtain⟨p1,p2,p3,p4⟩:=hT sn i m _ L _ (hr _ (by simp)) h1 h2 h3 (by omega) hc;dsimp only at p1 p2 p3 p4;cases hd:rowF N w T j r m (a % wcn N w r m j) L1 with
    | none=>rw[hd] at h;cases h
    | some y =>
     obtain⟨l',L2'⟩:=y;rw[hd] at h;cases h;obtain⟨q1,q2,q3,q4,q5⟩:=Zn3 hj hT r m _ L1 l' L2 hr' h2 h4 (by omega) hd;have hl:i+lenW g t=m:=(by unfold lenW;rw[p2,ZkV h1 (by omega)];omega);rw[ZbG hs];refine⟨by simp[q1],by rw[fitss,p1,q2];rfl,by rw[Za2 hs,p2,q3,Zn2 h1 h2],?_,by rw[cnts];omega⟩;rw[ZCP hs,hl,p3,q4,h7];have:=Nat.div_add_mod a (wcn N w r m j);rw[Nat.mul_comm (a / wcn N w r m j)];omega
theorem Zmz (hg:g.ok) (hF:FixN g N w M):∀ (d v i j k L:Nat) (x:Tree×Nat),((v:Nat):Int) < g.vars→i≤j→j≤w.length→k < N v i j→N v i j < M→Zdi g N w d v i j k L=some x→Ztm g N w v i j k L x
 | 0,_,_,_,_,_,_,_,_,_,_,_,h=>by cases h
 | d+1,v,i,j,k,L,x,hv,hij,hj,hk,hM,h=>by
  rw[Zdi] at h;by_cases hL:L=0
  ·rw[Hb hL] at h;cases h
  rw[Ha hL] at h;obtain⟨r,a,hr,e1,e2,e3,e4,e5⟩:=ZpX hF hv hij hj hk hM;rw[e1] at h;dsimp only at h;rw[ZiO hr] at h;cases hc:rowF N w (Zdi g N w d) j g.Aa[r].right i a (L - 1) with
  | none=>rw[hc] at h;cases h
  | some y =>
   obtain⟨l,L2⟩:=y;rw[hc] at h;cases h;obtain⟨q1,q2,q3,q4,q5⟩:=Zn3 hj (fun v i m k L x p1 p2 p3 p4 p5 p6=>Zmz hg hF d v i m k L x p1 p2 (by omega) p4 p5 p6) g.Aa[r].right i a (L - 1) l L2 (fun s hs=>hg.hi _ (He hr) s hs) hij e3 (by omega) hc;have eD:g.Aa.getD r ⟨0,[]⟩=g.Aa[r]:=by simp[Hf,hr]
   refine⟨?_,?_,?_,?_⟩
   ·rw[Zf1];show (match (if 0≤((r:Nat):Int) then g.Aa[((r:Nat):Int).toNat]? else none) with
     | none=>false
     | some ru=>decide (ru.left=(v:Int)) && (decide ((Ab ru.right).length=l.length) && fitss g l (Ab ru.right)))=true
    rw[Hb (by omega),Hn,Hj hr];simp[e2,q1,q2]
   ·rw[ZgA];show wordL g ((g.Aa[((r:Nat):Int).toNat]?).getD ⟨0,[]⟩).right l=_;rw[Hn,Hj hr];exact q3
   ·show rkT g N w (.mk r l) i j=k;rw[ZD8,Hn,eD,e2,ZiO hr,q4,Hn];omega
   ·show L=L2+cnt (.mk r l);rw[cnt];omega
theorem ZpY {w a b:List Int} {i j:Nat} (h:a++b=seg w i j) (hij:i≤j) (hj:j≤w.length):i+a.length≤j∧a=seg w i (i+a.length)∧b=seg w (i+a.length) j:=by
 have hl:=Hy List.length h;rw[Hk,ZkV hij hj] at hl;have hm:i+a.length≤j:=by omega
 rw[←Zn2 (m:=i+a.length) (by omega) hm] at h;have:=List.append_inj h (by rw[ZkV (by omega) (by omega)];omega);exact⟨hm,this.1,this.2⟩
end Go.Proofs.YtbpmepgnjanhnaaGreat
