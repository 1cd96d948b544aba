import Derived.Test.YtbpmepgnjanhnaaGreatQChartP
import Derived.MapKept
set_option linter.unusedVariables false
set_option linter.unusedSimpArgs false
set_option linter.unusedSectionVars false
namespace Go.Proofs.YtbpmepgnjanhnaaGreat
open Go.RowKit
theorem ZkK:∀ {a b:List Bool},a.length=b.length→(∀ k:Nat,a.getD k false=true→b.getD k false=true)→a.count true≤b.count true
 | [],[],_,_=>Hg _
 | [],_::_,h,_=>by simp at h
 | _::_,[],h,_=>by simp at h
 | x::a,y::b,h,hs=>by
  have ih:=ZkK (a:=a) (b:=b) (by simpa using h) (fun k hk=>by have:=hs (k+1);simpa using this (by simpa using hk));have h0:=hs 0;simp only[GF] at h0;cases x <;> cases y <;> simp_all <;> omega
theorem ZkL:∀ {a b:List Bool} (j:Nat),a.length=b.length→(∀ k:Nat,a.getD k false=true→b.getD k false=true)→b.getD j false=true→a.getD j false=false→a.count true < b.count true
 | [],[],_,_,_,hb,_=>by simp at hb
 | [],_::_,_,h,_,_,_=>by simp at h
 | _::_,[],_,h,_,_,_=>by simp at h
 | x::a,y::b,0,h,hs,hb,ha=>by
  have ih:=ZkK (a:=a) (b:=b) (by simpa using h) (fun k hk=>by have:=hs (k+1);simpa using this (by simpa using hk));simp only[GF] at hb ha;subst hb;subst ha;simp only[List.count_cons_self,List.count_cons_of_ne (show false≠true by decide)];have:List.count true (false::a)=a.count true:=by simp
  omega
 | x::a,y::b,j+1,h,hs,hb,ha=>by
  have ih:=ZkL (a:=a) (b:=b) j (by simpa using h) (fun k hk=>by have:=hs (k+1);simpa using this (by simpa using hk)) (by simpa using hb) (by simpa using ha);have h0:=hs 0;simp only[GF] at h0;cases x <;> cases y <;> simp_all <;> omega
def rnk (g:Ac) (v:Int):Nat:=(rowM (ledM false g) v).count true
abbrev ZiE (g:Ac) (v:Int):List Int:=ZiN false g (ZaZ false g) v
theorem ZpF {g:Ac} (hg:g.ok) {v:Int} (h0:0≤v) (h1:v < g.vars):rnk g v≤64:=by
 have h:=(Zg1 (c:=false) hg).at h0 (by omega);have:=List.count_le_length (a:=true) (l:=rowM (ledM false g) v);have:=hg.vars;unfold rnk;omega
theorem ZCr {g:Ac} (hg:g.ok) (hc:cycL g=[]) {v:Int} (h0:0≤v) (h1:v < g.vars):has (rowM (ledM false g) v) v=false:=by
 unfold cycL at hc;rw[Hb (by rw[hg.fault])] at hc;cases h:has (rowM (ledM false g) v) v with
 | false=>rfl
 | true =>
  have:v∈ZfU (ledM false g) g.vars.toNat:=by
   unfold ZfU;refine List.mem_map.2 ⟨v.toNat,List.mem_filter.2 ⟨List.mem_range.2 (by omega),?_⟩,by omega⟩;rw[show ((v.toNat:Nat):Int)=v by omega];exact h
  rw[hc] at this;cases this
theorem ZeK {g:Ac} (hg:g.ok) {v u:Int} (h0:0≤v) (h1:v < g.vars) (hs:u∈ZiE g v):0≤u∧u < g.vars:=by
 have h:=(ZhU (c:=false) hg h0 h1).from_ u hs;have:=Ze5 h;have:=(Zg1 (c:=false) hg).at h0 (by omega);omega
theorem ZdL {g:Ac} (hg:g.ok) (hc:cycL g=[]) {v u:Int} (h0:0≤v) (h1:v < g.vars) (hs:u∈ZiE g v):rnk g u < rnk g v:=by
 have hv:=ZhU (c:=false) hg h0 h1;have hu1:=hv.from_ u hs;obtain⟨u0,u1⟩:=ZeK hg h0 h1 hs;have hu:=ZhU (c:=false) hg u0 u1;have l1:=(Zg1 (c:=false) hg).at h0 (by omega);have l2:=(Zg1 (c:=false) hg).at u0 (by omega);have hsub:=(hu.least (rowM (ledM false g) v) (by omega) (fun w hw=>hv.goes u hu1 w hw) (fun x hx w hw=>hv.goes x hx w hw)).sub;have hno:=ZCr hg hc u0 u1;unfold rnk;refine ZkL u.toNat (by omega) (fun k hk=>?_) ?_ ?_
 ·have:=hsub (k:Int) (by rw[ZbH];exact hk)
  rwa [ZbH] at this
 ·rw[←ZbH,show ((u.toNat:Nat):Int)=u by omega];exact hu1
 ·rw[←ZbH,show ((u.toNat:Nat):Int)=u by omega];exact hno
abbrev nulB (g:Ac):List Bool:=ZaZ false g
theorem ZnL {N:Cube} {w:List Int} {S:List Bool} (hN:∀ v i,N v i i≠0→has S (v:Int)=true):∀ (r:List Int) (i:Nat),wcn N w r i i≠0→ZaQ r S=true
 | [],_,_=>rfl
 | s::r,i,h=>by
  rw[wcn,Zkl (k:=i) (by omega) (fun x h1 h2=>by rw[Ha (by omega)]),Hb (Hg i)] at h;have h1:symN N w s i i≠0:=fun e=>h (by rw[e,GI])
  have h2:wcn N w r i i≠0:=fun e=>h (by rw[e,Nat.mul_zero])
  have hr:=ZnL hN r i h2;unfold symN at h1;split at h1
  ·rename_i h0;have:=hN _ _ h1;rw[show ((s.toNat:Nat):Int)=s by omega] at this;simp only[ZaQ,GE,this,H0];exact hr
  ·exact absurd (Ha (by omega)) h1
theorem ZpG {g:Ac} (hg:g.ok) {w:List Int} {M:Nat}:∀ (k v i:Nat),rnds g w M k v i i≠0→has (nulB g) (v:Int)=true
 | 0,v,i,h=>absurd rfl h
 | k+1,v,i,h=>by
  change rnd g w M (rnds g w M k) v i i≠0 at h;unfold rnd at h;split at h
  ·have h1:allR g (rnds g w M k) w v i i≠0:=fun e=>h (by rw[e];simp)
   unfold allR at h1;have:∃ r∈g.Aa,r.left=(v:Int)∧wcn (rnds g w M k) w r.right i i≠0:=HN fun hn=>h1 (by
    have:∀ l:List Rule,(∀ r∈l,r∈g.Aa)→((l.filter fun r=>decide (r.left=(v:Int))).map fun r=>wcn (rnds g w M k) w r.right i i).sum=0:=by
     intro l
     induction l with
     | nil=>intro _;rfl
     | cons r l ih =>
      intro hl;have ih:=ih (fun r hr=>hl r (by simp[hr]));by_cases e:r.left=(v:Int)
      ·rw[Gp (by simpa using e),Hm,List.sum_cons,ih];have:wcn (rnds g w M k) w r.right i i=0:=HN fun q=>hn ⟨r,hl r (by simp),e,q⟩
       rw[this]
      ·rw[GH (by simpa using e),ih]
    exact this g.Aa (fun _ h=>h))
   obtain⟨r,hr,e,h2⟩:=this;have h3:=ZnL (fun v i=>ZpG hg k v i) r.right i h2;have:=Zfy (t:=false) hg r hr (by simpa[asks] using h3);rw[e] at this;exact this
  ·exact absurd rfl h
theorem Ze2 {g:Ac} (hg:g.ok) {w:List Int} {M v i:Nat} (h:Ak g w M v i i≠0):has (nulB g) (v:Int)=true:=ZpG hg _ v i h
def Pre (g:Ac) (v0 i0 j:Nat) (suf:List Int) (i:Nat):Prop:=∃ r∈g.Aa,∃ pre,r.left=(v0:Int)∧r.right=pre++suf∧i0≤i∧(i=i0→ZaQ pre (nulB g)=true)
def muC (g:Ac) (v i j:Nat):Nat:=(j - i) * 65+rnk g v
theorem Pre.lt {g:Ac} (hg:g.ok) (hc:cycL g=[]) {v0 i0 j:Nat} {s:Nat} {rest:List Int} {i m:Nat} (hp:Pre g v0 i0 j ((s:Int)::rest) i) (him:i≤m) (hmj:m≤j) (hn:m=j→ZaQ rest (nulB g)=true):muC g s i m < muC g v0 i0 j∧(s:Int) < g.vars:=by
 obtain⟨r,hr,pre,e1,e2,e3,e4⟩:=hp;have hs:(s:Int) < g.vars:=hg.hi r hr _ (by rw[e2];simp);have hv:(v0:Int) < g.vars:=by rw[←e1];exact hg.left r hr
 refine⟨?_,hs⟩;have hk:=ZpF hg (v:=(s:Int)) (by omega) hs;unfold muC;by_cases h:m - i < j - i0
 ·have:(m - i+1) * 65≤(j - i0) * 65:=Gh _ h
  omega
 ·by_cases hz:i=i0∧m=j
  ·obtain⟨rfl,rfl⟩:=hz;have hst:(s:Int)∈ZiE g (v0:Int):=by
    refine overBy_mem.2 ⟨r,hr,e1,picks_mem.2 ⟨pre.length,by rw[e2];simp,?_,by rw[e2];simp⟩⟩;have e5:r.right.getD pre.length 0=(s:Int):=(by rw[e2];simp);have e6:r.right.take pre.length=pre:=(by rw[e2];simp);have e7:r.right.drop (pre.length+1)=rest:=(by rw[e2];simp);unfold ZdN;rw[e5,e6,e7,e4 rfl,hn rfl];simp
   have:=ZdL hg hc (by omega) hv hst;omega
  ·omega
theorem Pre.next {g:Ac} {v0 i0 j:Nat} {s:Int} {rest:List Int} {i m:Nat} (hp:Pre g v0 i0 j (s::rest) i) (him:i≤m) (h:m=i→has (nulB g) s=true):Pre g v0 i0 j rest m:=by
 obtain⟨r,hr,pre,e1,e2,e3,e4⟩:=hp;refine⟨r,hr,pre++[s],e1,by rw[e2];simp,by omega,fun e=>?_⟩;have h1:=e4 (by omega);have h2:=h (by omega);simp only[ZaQ,List.all_append,GE,List.all_nil,Bool.and_true,Hr] at h1 ⊢;exact⟨h1,h2⟩
theorem Pre.start {g:Ac} {v0 i j:Nat} {r:Rule} (hr:r∈g.Aa) (e:r.left=(v0:Int)):Pre g v0 i j r.right i:=⟨r,hr,[],e,rfl,Hg _,fun _=>rfl⟩
def ZkM (F:Nat→Nat):Nat→Nat→Nat→Option (Nat×Nat)
 | 0,_,_=>none
 | n+1,m,k=>if k < F m then some (m,k) else ZkM F n (m+1) (k - F m)
theorem ZiF {F:Nat→Nat}:∀ {n m k x a:Nat},ZkM F n m k=some (x,a)→m≤x∧x < m+n∧a < F x∧k+Al m F=Al x F+a
 | 0,_,_,_,_,h=>by cases h
 | n+1,m,k,x,a,h=>by
  rw[ZkM] at h;split at h
  ·rename_i hk;cases h;exact⟨Hg _,by omega,hk,by omega⟩
  ·obtain⟨h1,h2,h3,h4⟩:=ZiF h;simp only[Al] at h4;exact⟨by omega,by omega,h3,by omega⟩
theorem ZiG {F:Nat→Nat}:∀ {n m k:Nat},k+Al m F < Al (m+n) F→∃ x a,ZkM F n m k=some (x,a)
 | 0,m,k,h=>by rw[Gr] at h;omega
 | n+1,m,k,h=>by
  rw[ZkM];by_cases hk:k < F m
  ·rw[Hb hk];exact⟨_,_,rfl⟩
  ·rw[Ha hk];refine ZiG ?_;rw[show m+1+n=m+(n+1) by omega];have:Al (m+1) F=Al m F+F m:=rfl
   omega
theorem ZnM {F:Nat→Nat} {m n:Nat} (h:m≤n):Al m F≤Al n F:=by
 induction n with
 | zero =>
      obtain rfl:m=0:=(by omega);exact Hg _
 | succ n ih =>
  by_cases e:m=n+1
  ·rw[e];exact Hg _
  ·simp only[Al];have:=ih (by omega);omega
def fR (g:Ac) (N:Cube) (w:List Int) (v i j:Nat):Nat→Nat:=fun r=>match g.Aa[r]? with
 | some x=>if x.left=(v:Int) then wcn N w x.right i j else 0
 | none=>0
def fM (N:Cube) (w:List Int) (s:Int) (r:List Int) (i j:Nat):Nat→Nat:=fun m=>if i≤m then symN N w s i m * wcn N w r m j else 0
def ZpH (g:Ac) (r:Nat):List Int:=(g.Aa.getD r ⟨0,[]⟩).right
def rowF (N:Cube) (w:List Int) (T:Nat→Nat→Nat→Nat→Nat→Option (Tree×Nat)) (j:Nat):List Int→Nat→Nat→Nat→Option (List Tree×Nat)
 | [],_,_,L=>some ([],L)
 | s::r,i,k,L=>match ZkM (fM N w s r i j) (j+1 - i) i k with
  | none=>none
  | some (m,a)=>if s < 0 then rowF N w T j r m (a % wcn N w r m j) L else match T s.toNat i m (a / wcn N w r m j) L with
   | none=>none
   | some (t,L1)=>match rowF N w T j r m (a % wcn N w r m j) L1 with
    | none=>none
    | some (l,L2)=>some (t::l,L2)
def Zdf (g:Ac) (N:Cube) (w:List Int):Nat→Nat→Nat→Nat→Nat→Nat→Option (Tree×Nat)
 | 0,_,_,_,_,_=>none
 | d+1,v,i,j,k,L=>if L=0 then none else match ZkM (fR g N w v i j) g.Aa.length 0 k with
  | none=>none
  | some (r,a)=>match rowF N w (Zdf g N w d) j (ZpH g r) i a (L - 1) with
   | none=>none
   | some (l,L2)=>some (.mk r l,L2)
def lenW (g:Ac) (t:Tree):Nat:=(Zbm g t).length
mutual
def rkT (g:Ac) (N:Cube) (w:List Int):Tree→Nat→Nat→Nat
 | .mk r k,i,j=>Al r.toNat (fR g N w (g.Aa.getD r.toNat ⟨0,[]⟩).left.toNat i j)+rkR g N w (ZpH g r.toNat) k i j
 termination_by t=>(cnt t,0)
 decreasing_by simp[cnt,Prod.lex_def]
def rkR (g:Ac) (N:Cube) (w:List Int):List Int→List Tree→Nat→Nat→Nat
 | [],_,_,_=>0
 | s::ss,k,i,j=>if s < 0 then rkR g N w ss k (i+1) j else match k with
  | x::k=>Al (i+lenW g x) (fM N w s ss i j)+rkT g N w x i (i+lenW g x) * wcn N w ss (i+lenW g x) j+rkR g N w ss k (i+lenW g x) j
  | []=>0
 termination_by ss k=>(cnts k,ss.length+1)
 decreasing_by all_goals (simp[cnts,Prod.lex_def];try omega)
end
variable {g:Ac} {N:Cube} {w:List Int}
theorem ZnN (s:Int) (r:List Int) (i j:Nat):wcn N w (s::r) i j=Al (j+1) (fM N w s r i j):=rfl
theorem Zs2 {s:Int} {r:List Int} {i j m:Nat} (h:m≤i):Al m (fM N w s r i j)=0:=ZeU (fun x hx=>Ha (by omega))
theorem ZhI {s:Int} {i m:Nat} (h:s < 0):symN N w s i m=if m=i+1∧w[i]? = some (-1 - s) then 1 else 0:=Ha (by omega)
theorem ZAl {s:Int} {r:List Int} {i j:Nat} (h:s < 0):wcn N w (s::r) i j=if i+1≤j∧w[i]? = some (-1 - s) then wcn N w r (i+1) j else 0:=by
 rw[ZnN];by_cases hc:i+1≤j∧w[i]? = some (-1 - s)
 ·rw[Hb hc,Zkl (k:=i+1) (by omega)]
  ·unfold fM;rw[Hb (by omega),ZhI h,Hb ⟨rfl,hc.2⟩,Nat.one_mul]
  ·intro x h1 h2;unfold fM;split
   ·rw[ZhI h,Ha (fun q=>h2 q.1),GI]
   ·rfl
 ·rw[Ha hc];refine ZeU fun x hx=>?_
  unfold fM;split
  ·rw[ZhI h];by_cases hq:x=i+1∧w[i]? = some (-1 - s)
   ·exact absurd ⟨by omega,hq.2⟩ hc
   ·rw[Ha hq,GI]
  ·rfl
theorem ZpI {s:Int} {r:List Int} {i j k:Nat} (h:k < wcn N w (s::r) i j) (hij:i≤j):∃ m a,ZkM (fM N w s r i j) (j+1 - i) i k=some (m,a)∧i≤m∧m≤j∧a < symN N w s i m * wcn N w r m j∧k=Al m (fM N w s r i j)+a:=by
 obtain⟨m,a,e⟩:=ZiG (F:=fM N w s r i j) (n:=j+1 - i) (m:=i) (k:=k) (by rw[Zs2 (Hg _),show i+(j+1 - i)=j+1 by omega,←ZnN];omega);obtain⟨h1,h2,h3,h4⟩:=ZiF e;rw[Zs2 (Hg _)] at h4;refine⟨m,a,e,h1,by omega,?_,by omega⟩;unfold fM at h3;rw[Hb h1] at h3;exact h3
theorem Zxy {s:Int} {r:List Int} {i j m:Nat} (h1:i≤m) (h2:m≤j):symN N w s i m * wcn N w r m j≤wcn N w (s::r) i j:=by
 rw[ZnN];have:=Zq1 (f:=fM N w s r i j) (n:=j+1) (k:=m) (by omega);unfold fM at this ⊢;rw[Hb h1] at this;exact this
theorem ZkN {T:Nat→Nat→Nat→Nat→Nat→Option (Tree×Nat)} {s:Int} {r:List Int} {i j k L:Nat} (hs:s < 0) (h:k < wcn N w (s::r) i j):rowF N w T j (s::r) i k L=rowF N w T j r (i+1) k L∧k < wcn N w r (i+1) j∧i+1≤j∧w[i]? = some (-1 - s)∧wcn N w (s::r) i j=wcn N w r (i+1) j:=by
 have h0:=ZAl (N:=N) (w:=w) (s:=s) (r:=r) (i:=i) (j:=j) hs;by_cases hc:i+1≤j∧w[i]? = some (-1 - s)
 ·rw[Hb hc] at h0;refine⟨?_,by omega,hc.1,hc.2,h0⟩;obtain⟨m,a,e,h1,h2,h3,h4⟩:=ZpI h (by omega);rw[ZhI hs] at h3;by_cases hm:m=i+1∧w[i]? = some (-1 - s)
  ·obtain⟨rfl,_⟩:=hm;rw[Hb ⟨rfl,hc.2⟩,Nat.one_mul] at h3;have hz:Al (i+1) (fM N w s r i j)=0:=ZeU fun x hx=>by
    unfold fM;split
    ·rw[ZhI hs,Ha (by omega),GI]
    ·rfl
   obtain rfl:k=a:=by omega
   rw[rowF,e];simp only[hs,if_true];rw[Nat.mod_eq_of_lt h3]
  ·rw[Ha hm,GI] at h3;omega
 ·rw[Ha hc] at h0;omega
theorem ZdT {s:Nat} {i m:Nat}:symN N w (s:Int) i m=N s i m:=by unfold symN;rw[Hb (by omega),Hn]
theorem ZnO {s:Nat} {r:List Int} {i j k:Nat} (h:k < wcn N w ((s:Int)::r) i j) (hij:i≤j):∃ m a,ZkM (fM N w s r i j) (j+1 - i) i k=some (m,a)∧i≤m∧m≤j∧a / wcn N w r m j < N s i m∧a % wcn N w r m j < wcn N w r m j∧N s i m≤wcn N w ((s:Int)::r) i j∧wcn N w r m j≤wcn N w ((s:Int)::r) i j∧k=Al m (fM N w s r i j)+a∧(∀ T L,rowF N w T j ((s:Int)::r) i k L=match T s i m (a / wcn N w r m j) L with
   | none=>none
   | some (t,L1)=>match rowF N w T j r m (a % wcn N w r m j) L1 with
    | none=>none
    | some (l,L2)=>some (t::l,L2)):=by
 obtain⟨m,a,e,h1,h2,h3,h4⟩:=ZpI h hij;have h5:=Zxy (N:=N) (w:=w) (s:=(s:Int)) (r:=r) h1 h2;rw[ZdT] at h3 h5;have hp:0 < wcn N w r m j:=Nat.pos_of_ne_zero fun q=>by rw[q,Nat.mul_zero] at h3;omega
 have hp2:0 < N s i m:=Nat.pos_of_ne_zero fun q=>by rw[q,GI] at h3;omega
 have h6:N s i m * 1≤N s i m * wcn N w r m j:=Jo _ hp;have h7:1 * wcn N w r m j≤N s i m * wcn N w r m j:=Gh _ hp2;refine⟨m,a,e,h1,h2,Nat.div_lt_of_lt_mul (by rw[Nat.mul_comm];exact h3),Nat.mod_lt _ hp,by omega,by omega,h4,fun T L=>?_⟩;rw[rowF,e];have hn:¬ (s:Int) < 0:=by omega
 simp only[hn,if_false,Hn]
end Go.Proofs.YtbpmepgnjanhnaaGreat
namespace Go.Proofs.YtbpmepgnjanhnaaGreat
open Go.RowKit
def seg (w:List Int) (i j:Nat):List Int:=(w.drop i).take (j - i)
theorem ZkO {w:List Int} {i j:Nat} (h:i≤j) (hj:j≤w.length):(seg w i j).length=j - i:=by unfold seg;rw[Hs,HF];omega
theorem Zs3 (w:List Int) (i:Nat):seg w i i=[]:=by unfold seg;rw[Gg,Jg]
theorem ZnP {w:List Int} {i m j:Nat} (h1:i≤m) (h2:m≤j):seg w i m++seg w m j=seg w i j:=by
 unfold seg;rw[show j - i=(m - i)+(j - m) by omega,List.take_add,List.drop_drop,show i+(m - i)=m by omega]
theorem Zs4 {w:List Int} {i j:Nat} {x:Int} (h:i+1≤j) (hx:w[i]? = some x):seg w i j=x::seg w (i+1) j:=by
 obtain⟨hi,e⟩:=List.getElem?_eq_some_iff.1 hx;rw[←ZnP (m:=i+1) (by omega) h];unfold seg;rw[Hw hi,e,show i+1 - i=1 by omega];rfl
theorem ZCs (w:List Int):seg w 0 w.length=w:=by unfold seg;simp
def FixN (g:Ac) (N:Cube) (w:List Int) (M:Nat):Prop:=∀ v i j,((v:Nat):Int) < g.vars→i≤j→j≤w.length→N v i j=min M (Al g.Aa.length (fR g N w v i j))
theorem Zs5 (g:Ac) (N:Cube) (w:List Int) (v i j:Nat):allR g N w v i j=Al g.Aa.length (fR g N w v i j):=by
 have key:∀ k,k≤g.Aa.length→(((g.Aa.take k).filter fun r=>decide (r.left=(v:Int))).map fun r=>wcn N w r.right i j).sum=Al k (fR g N w v i j):=by
  intro k
  induction k with
  | zero=>intro _;rfl
  | succ k ih =>
   intro hk;have hk':k < g.Aa.length:=by omega
   rw[HE hk',GR,Ho,List.sum_append,ih (by omega)];show _=Al k _+fR g N w v i j k;congr 1;unfold fR;rw[Hj hk'];by_cases e:g.Aa[k].left=(v:Int)
   ·simp[e]
   ·simp[e]
 have:=key g.Aa.length (Hg _);rw[HP] at this;exact this
theorem ZkP (g:Ac) (w:List Int) (M:Nat):FixN g (Ak g w M) w M:=fun v i j h1 h2 h3=>by rw[Zwd h1 h2 h3,Zs5]
variable {g:Ac} {N:Cube} {w:List Int} {M:Nat}
theorem ZiH {r:Nat} (h:r < g.Aa.length):ZpH g r=g.Aa[r].right:=by simp[ZpH,Hf,h]
theorem ZEE {r v i j:Nat} (h:r < g.Aa.length) (hp:fR g N w v i j r≠0):g.Aa[r].left=(v:Int)∧fR g N w v i j r=wcn N w g.Aa[r].right i j:=by
 unfold fR at hp ⊢;rw[Hj h] at hp ⊢;dsimp only at hp ⊢;by_cases e:g.Aa[r].left=(v:Int)
 ·rw[Hb e];exact⟨e,rfl⟩
 ·rw[Ha e] at hp;exact absurd rfl hp
theorem ZBE {r v i j:Nat} (h:r < g.Aa.length) (e:g.Aa[r].left=(v:Int)):fR g N w v i j r=wcn N w g.Aa[r].right i j:=by
 unfold fR;rw[Hj h];dsimp only;rw[Hb e]
theorem ZEF {r v i j:Nat} (h:r < g.Aa.length) (e:¬ g.Aa[r].left=(v:Int)):fR g N w v i j r=0:=by
 unfold fR;rw[Hj h];dsimp only;rw[Ha e]
theorem ZpJ (hF:FixN g N w M) {v i j k:Nat} (hv:((v:Nat):Int) < g.vars) (hij:i≤j) (hj:j≤w.length) (hk:k < N v i j) (hM:N v i j < M):∃ r a,∃ h:r < g.Aa.length,ZkM (fR g N w v i j) g.Aa.length 0 k=some (r,a)∧g.Aa[r].left=(v:Int)∧a < wcn N w g.Aa[r].right i j∧wcn N w g.Aa[r].right i j≤N v i j∧k=Al r (fR g N w v i j)+a:=by
 have e:=hF v i j hv hij hj;obtain⟨r,a,hp⟩:=ZiG (F:=fR g N w v i j) (n:=g.Aa.length) (m:=0) (k:=k) (by rw[show 0+g.Aa.length=g.Aa.length by omega];have:Al 0 (fR g N w v i j)=0:=rfl;omega);obtain⟨h1,h2,h3,h4⟩:=ZiF hp;have hr:r < g.Aa.length:=by omega
 obtain⟨e1,e2⟩:=ZEE (N:=N) (w:=w) (v:=v) (i:=i) (j:=j) hr (by omega);refine⟨r,a,hr,hp,e1,by omega,?_,by simp only[Al] at h4;omega⟩;have:=Zq1 (f:=fR g N w v i j) (n:=g.Aa.length) (k:=r) hr;omega
theorem ZCt (k:List Tree) (i j:Nat):rkR g N w [] k i j=0:=by rw[rkR.eq_def]
theorem ZCu {s:Int} (h:s < 0) (ss:List Int) (k:List Tree) (i j:Nat):rkR g N w (s::ss) k i j=rkR g N w ss k (i+1) j:=by rw[rkR.eq_def];simp[h]
theorem ZCv {s:Int} (h:¬ s < 0) (ss:List Int) (x:Tree) (k:List Tree) (i j:Nat):rkR g N w (s::ss) (x::k) i j=Al (i+lenW g x) (fM N w s ss i j)+rkT g N w x i (i+lenW g x) * wcn N w ss (i+lenW g x) j+rkR g N w ss k (i+lenW g x) j:=by rw[rkR.eq_def];simp[h]
theorem ZDQ (r:Int) (k:List Tree) (i j:Nat):rkT g N w (.mk r k) i j=Al r.toNat (fR g N w (g.Aa.getD r.toNat ⟨0,[]⟩).left.toNat i j)+rkR g N w (ZpH g r.toNat) k i j:=by rw[rkT]
theorem ZcX {s:Int} (h:s < 0) (r:List Int):Ab (s::r)=Ab r:=GH (by simpa using h)
theorem ZbG {s:Int} (h:¬ s < 0) (r:List Int):Ab (s::r)=s::Ab r:=Gp (by simpa using (by omega:0≤s))
def Zs6 (g:Ac) (N:Cube) (w:List Int) (v i j k L:Nat) (x:Tree×Nat):Prop:=fits g x.1 (v:Int)=true∧Zbm g x.1=seg w i j∧rkT g N w x.1 i j=k∧L=x.2+cnt x.1
theorem ZnQ {T:Nat→Nat→Nat→Nat→Nat→Option (Tree×Nat)} {j:Nat} (hj:j≤w.length) (hT:∀ v i m k L x,((v:Nat):Int) < g.vars→i≤m→m≤j→k < N v i m→N v i m < M→T v i m k L=some x→Zs6 g N w v i m k L x) :
  ∀ (r:List Int) (i k L:Nat) (l:List Tree) (L2:Nat),(∀ s∈r,s < g.vars)→i≤j→k < wcn N w r i j→wcn N w r i j < M→rowF N w T j r i k L=some (l,L2) →
   (Ab r).length=l.length∧fitss g l (Ab r)=true∧wordL g r l=seg w i j∧rkR g N w r l i j=k∧L=L2+cnts l
 | [],i,k,L,l,L2,_,hij,hk,_,h=>by
  rw[rowF] at h;cases h;unfold wcn at hk;split at hk
  ·rename_i e;subst e;obtain rfl:k=0:=by omega
   exact⟨rfl,by rw[fitss.eq_def],by rw[Zba,Zs3],ZCt _ _ _,by simp[cnts]⟩
  ·omega
 | s::r,i,k,L,l,L2,hr,hij,hk,hM,h=>by
  have hr':∀ s∈r,s < g.vars:=fun x hx=>hr x (by simp[hx])
  by_cases hs:s < 0
  ·obtain⟨e1,e2,e3,e4,e5⟩:=ZkN (T:=T) (L:=L) hs hk;rw[e1] at h;obtain⟨q1,q2,q3,q4,q5⟩:=ZnQ hj hT r (i+1) k L l L2 hr' e3 e2 (by omega) h;rw[ZcX hs];exact⟨q1,q2,by rw[Zbh hs,q3,Zs4 e3 e4],by rw[ZCu hs,q4],q5⟩
  ·obtain⟨sn,rfl⟩:∃ sn:Nat,s=(sn:Int):=⟨s.toNat,by omega⟩
   obtain⟨m,a,e,h1,h2,h3,h4,h5,h6,h7,h8⟩:=ZnO hk hij;rw[h8 T L] at h;cases hc:T sn i m (a / wcn N w r m j) L with
   | none=>rw[hc] at h;cases h
   | some x =>
    obtain⟨t,L1⟩:=x;rw[hc] at h;dsimp only at h;obtain⟨p1,p2,p3,p4⟩:=hT sn i m _ L _ (hr _ (by simp)) h1 h2 h3 (by omega) hc;dsimp only at p1 p2 p3 p4;cases hd:rowF N w T j r m (a % wcn N w r m j) L1 with
    | none=>rw[hd] at h;cases h
    | some y =>
     obtain⟨l',L2'⟩:=y;rw[hd] at h;cases h;obtain⟨q1,q2,q3,q4,q5⟩:=ZnQ hj hT r m _ L1 l' L2 hr' h2 h4 (by omega) hd;have hl:i+lenW g t=m:=(by unfold lenW;rw[p2,ZkO h1 (by omega)];omega);rw[ZbG hs];refine⟨by simp[q1],by rw[fitss,p1,q2];rfl,by rw[Za1 hs,p2,q3,ZnP h1 h2],?_,by rw[cnts];omega⟩;rw[ZCv hs,hl,p3,q4,h7];have:=Nat.div_add_mod a (wcn N w r m j);rw[Nat.mul_comm (a / wcn N w r m j)];omega
theorem Zmv (hg:g.ok) (hF:FixN g N w M):∀ (d v i j k L:Nat) (x:Tree×Nat),((v:Nat):Int) < g.vars→i≤j→j≤w.length→k < N v i j→N v i j < M→Zdf g N w d v i j k L=some x→Zs6 g N w v i j k L x
 | 0,_,_,_,_,_,_,_,_,_,_,_,h=>by cases h
 | d+1,v,i,j,k,L,x,hv,hij,hj,hk,hM,h=>by
  rw[Zdf] at h;by_cases hL:L=0
  ·rw[Hb hL] at h;cases h
  rw[Ha hL] at h;obtain⟨r,a,hr,e1,e2,e3,e4,e5⟩:=ZpJ hF hv hij hj hk hM;rw[e1] at h;dsimp only at h;rw[ZiH hr] at h;cases hc:rowF N w (Zdf g N w d) j g.Aa[r].right i a (L - 1) with
  | none=>rw[hc] at h;cases h
  | some y =>
   obtain⟨l,L2⟩:=y;rw[hc] at h;cases h;obtain⟨q1,q2,q3,q4,q5⟩:=ZnQ hj (fun v i m k L x p1 p2 p3 p4 p5 p6=>Zmv hg hF d v i m k L x p1 p2 (by omega) p4 p5 p6) g.Aa[r].right i a (L - 1) l L2 (fun s hs=>hg.hi _ (He hr) s hs) hij e3 (by omega) hc;have eD:g.Aa.getD r ⟨0,[]⟩=g.Aa[r]:=by simp[Hf,hr]
   refine⟨?_,?_,?_,?_⟩
   ·rw[Zf0];show (match (if 0≤((r:Nat):Int) then g.Aa[((r:Nat):Int).toNat]? else none) with
     | none=>false
     | some ru=>decide (ru.left=(v:Int)) && (decide ((Ab ru.right).length=l.length) && fitss g l (Ab ru.right)))=true
    rw[Hb (by omega),Hn,Hj hr];simp[e2,q1,q2]
   ·rw[Zgo];show wordL g ((g.Aa[((r:Nat):Int).toNat]?).getD ⟨0,[]⟩).right l=_;rw[Hn,Hj hr];exact q3
   ·show rkT g N w (.mk r l) i j=k;rw[ZDQ,Hn,eD,e2,ZiH hr,q4,Hn];omega
   ·show L=L2+cnt (.mk r l);rw[cnt];omega
theorem ZpK {w a b:List Int} {i j:Nat} (h:a++b=seg w i j) (hij:i≤j) (hj:j≤w.length):i+a.length≤j∧a=seg w i (i+a.length)∧b=seg w (i+a.length) j:=by
 have hl:=Hz List.length h;rw[Hk,ZkO hij hj] at hl;have hm:i+a.length≤j:=by omega
 rw[←ZnP (m:=i+a.length) (by omega) hm] at h;have:=List.append_inj h (by rw[ZkO (by omega) (by omega)];omega);exact⟨hm,this.1,this.2⟩
end Go.Proofs.YtbpmepgnjanhnaaGreat
namespace Go.Proofs.YtbpmepgnjanhnaaGreat
open Go.RowKit
section
variable {G:Ctx} {E:Env} {fr:Fr} {h:Hp} {a:Act} {w:World}
end
section
variable {P:Program} {n:Nat} {Q:Exit→Fr→Hp→Prop} {fr:Fr} {h:Hp}
theorem Zxz {c:Code} (i k k':Nat) {m e sz:Nat} {xs:List D} (hi:fget fr i=.own k m) (hk:Ah h k=some (.row e sz xs)) (hm:xs.length=m) (F:Fr) (H:Hp) (hk':Ah ((k,.row e sz xs)::H) k'=none) (hlow:Nat.blt k' 1000=true)
  (hI:(frIn ((k,.row e sz xs)::H) ((i,.own k m)::F) && hpIn ((k,.row e sz xs)::H) ((k,.row e sz xs)::H))=true) (hf:FLe fr F) (hh:HLe h H)
  (hc:aw P n c Q ((i,.own k' m)::(i,.own k m)::F) ((k',.row e sz xs)::(k,.dead m)::(k,.row e sz xs)::H)):aw P n c Q fr h :=
 Zr3 ((i,.own k m)::F) ((k,.row e sz xs)::H) ⟨VLe.of hi,hf⟩ ⟨Ap.of hk,hh⟩ hI (ZED i k' (Zbc _ _ _) (Zai _ _ _) hm hk' hlow hc)
end
section
variable {G:Ctx} {E:Env} {fr:Fr} {h:Hp} {a:Act} {w:World}
end
section
variable {P:Program} {n:Nat} {Q:Exit→Fr→Hp→Prop} {fr:Fr} {h:Hp}
end
section
variable {P:Program} {n:Nat} {dr:Bool} {ops:Array Oper} {rest:List Oper} {log:List Rec} {K:Exit→Fr→Hp→Prop} {fr:Fr} {h:Hp}
variable {d:Nat} {ty:TypeId} {pos:String} {after:Array Edge} {g:Option (Nat×Bool)}
variable (T:TT P)
end
abbrev ML:=List ((Int×Int×Int)×Int)
def lkp:ML→Int×Int×Int→Option Int
 | [],_=>none
 | x::r,k=>if k=x.1 then some x.2 else lkp r k
def sto:ML→Int×Int×Int→Int→ML
 | [],k,n=>[(k,n)]
 | x::r,k,n=>if k=x.1 then (k,n)::r else x::sto r k n
theorem ZxA:∀ {l:ML} {k:Int×Int×Int} {n:Int},lkp l k=some n→(k,n)∈l
 | [],_,_,h=>by simp[lkp] at h
 | x::r,k,n,h=>by
  simp only[lkp] at h;split at h
  ·rename_i e;cases h;subst e;simp
  ·exact HK _ (ZxA h)
theorem ZxB:∀ {l:ML} {k:Int×Int×Int} {n:Int} {x},x∈sto l k n→x=(k,n)∨x∈l
 | [],_,_,_,h=>by simp[sto] at h;exact .inl h
 | y::r,k,n,x,h=>by
  simp only[sto] at h;split at h
  ·rcases List.mem_cons.1 h with h|h
   ·exact .inl h
   ·exact .inr (HK _ h)
  ·rcases List.mem_cons.1 h with h|h
   ·exact .inr (by simp[h])
   ·exact (ZxB h).imp id (HK _)
structure KeyRun (P:Program) (mt kt et:TypeId):Prop where
 hm:P.underlying mt=some (.map kt et)
 chk:∀ (em:Bool) (k:Int×Int×Int) (w:World),(Instr.checkKey em 10000 kt (spK k)).run P w=.ok () w
 now:∃ ds,P.underlying kt=some ds∧∀ k k':Int×Int×Int,Instr.sameNow ds (spK k) (spK k')=none
 eq:∀ (k k':Int×Int×Int) (w:World),(Op.equal kt (spK k) (spK k')).run P w=.ok (decide (k=k')) w
 zero:∀ w:World,(zeroValue et).run P w=.ok (.int .i64 0) w
def lkI:ML→Int×Int×Int→Nat→Option (Nat×Value)
 | [],_,_=>none
 | x::r,k,i=>if k=x.1 then some (i,.int .i64 x.2) else lkI r k (i+1)
theorem ZxC:∀ (l:ML) (k:Int×Int×Int) (i:Nat),(lkI l k i).map Prod.snd=(lkp l k).map (Value.int .i64)
 | [],_,_=>rfl
 | x::r,k,i=>by
  simp only[lkI,lkp];split
  ·rfl
  ·exact ZxC r k (i+1)
section
variable {P:Program} {mt kt et:TypeId} (R:KeyRun P mt kt et)
include R
theorem KeyRun.asking (k:Int×Int×Int) (w:World):∀ (l:ML) (es:List MapEntry) (i:Nat),(es.map fun x=>(x.key,x.val))=l.map (fun x=>(spK x.1,Value.int .i64 x.2))→(Instr.findAsking kt (spK k) es i).run P w=.ok (lkI l k i) w
 | [],[],i,_=>by simp[Instr.findAsking,lkI]
 | [],e::es,i,h=>by simp at h
 | x::l,[],i,h=>by simp at h
 | x::l,e::es,i,h=>by
  simp only[Hm,Hy,Jw] at h;obtain⟨⟨h1,h2⟩,h3⟩:=h;simp only[Instr.findAsking,Sem.run_bind,h1,R.eq,Result.andThen_ok,lkI];by_cases e1:k=x.1
  ·simp[e1,h2]
  ·simp only[e1,decide_false,if_false,Bool.false_eq_true];exact KeyRun.asking k w l es (i+1) h3
theorem KeyRun.find (k:Int×Int×Int) (w:World) {l:ML} {es:List MapEntry} (h:(es.map fun x=>(x.key,x.val))=l.map (fun x=>(spK x.1,Value.int .i64 x.2))):(Instr.findKey kt (spK k) es).run P w=.ok (lkI l k 0) w:=by
 obtain⟨ds,h1,h2⟩:=R.now;unfold Instr.findKey;simp only[Sem.run_bind,run_underlying h1,Result.andThen_ok]
 match l,es,h with
 | [],[],_=>simp[Instr.findNow,lkI]
 | [],e::es,h=>simp at h
 | x::l,[],h=>simp at h
 | x::l,e::es,h =>
  have h':=h;simp only[Hm,Hy,Jw] at h';simp only[Instr.findNow,h'.1.1,h2];exact R.asking k w (x::l) (e::es) 0 h
theorem KeyRun.lookup (k:Int×Int×Int) {w:World} {b:Nat} {es:Array MapEntry} {clock:Nat} {l:ML} (hb:w.heap[b]? = some (.map es clock)) (h:(es.toList.map fun x=>(x.key,x.val))=l.map (fun x=>(spK x.1,Value.int .i64 x.2))) :
  (Instr.lookup mt (.map (some b)) (spK k) true).run P w=.ok (.tuple #[.int .i64 ((lkp l k).getD 0),.bool (lkp l k).isSome]) w:=by
 have hv:=ZxC l k 0;simp only[Instr.lookup,Sem.run_bind,run_underlying R.hm,Result.andThen_ok,MapKept.run_getObj_map hb,R.chk,R.find k w h,Sem.run_pure];cases e1:lkI l k 0 with
 | none =>
  rw[e1] at hv;have e2:lkp l k=none:=by cases e3:lkp l k <;> simp_all
  simp[e2,R.zero]
 | some p =>
  rw[e1] at hv;obtain⟨n,e2⟩:∃ n,lkp l k=some n:=by cases e3:lkp l k <;> simp_all
  rw[e2] at hv;simp at hv;simp[e2,hv]
theorem Zs7:∀ {l:ML} {k:Int×Int×Int} {i j:Nat} {v:Value},lkI l k i=some (j,v)→i≤j∧∃ x,l[j - i]? = some x∧x.1=k∧∀ n,sto l k n=l.set (j - i) (k,n)
 | [],_,_,_,_,h=>by simp[lkI] at h
 | x::r,k,i,j,v,h=>by
  simp only[lkI] at h;split at h
  ·rename_i e;simp only[Hx,Jw] at h;obtain⟨rfl,_⟩:=h;refine⟨Hg _,x,by simp,e.symm,fun n=>?_⟩;simp[sto,e]
  ·rename_i e;obtain⟨h1,y,h2,h3,h4⟩:=Zs7 h;refine⟨by omega,y,?_,h3,fun n=>?_⟩
   ·rw[show j - i=(j - (i+1))+1 by omega];simpa using h2
   ·rw[show j - i=(j - (i+1))+1 by omega];simp only[sto,Ha e,h4 n,List.set_cons_succ]
omit R in
theorem Zs8:∀ {l:ML} {k:Int×Int×Int} {i:Nat},lkI l k i=none→∀ n,sto l k n=l++[(k,n)]
 | [],_,_,_,n=>rfl
 | x::r,k,i,h,n=>by
  simp only[lkI] at h;split at h
  ·cases h
  ·rename_i e;simp only[sto,Ha e,Zs8 h n,Hv]
theorem KeyRun.update (k:Int×Int×Int) (n:Int) {w:World} {b:Nat} {es:Array MapEntry} {clock:Nat} {l:ML} (hb:w.heap[b]? = some (.map es clock)) (h:(es.toList.map fun x=>(x.key,x.val))=l.map (fun x=>(spK x.1,Value.int .i64 x.2))) :
  ∃ es' clock',(Instr.mapUpdate mt (.map (some b)) (spK k) (.int .i64 n)).run P w=.ok () { w with heap:=w.heap.setIfInBounds b (.map es' clock') }∧(es'.toList.map fun x=>(x.key,x.val))=(sto l k n).map (fun x=>(spK x.1,Value.int .i64 x.2)):=by
 have hf:=R.find k w h;cases e1:lkI l k 0 with
 | none =>
  rw[e1] at hf;refine⟨es.push ⟨spK k,.int .i64 n,clock⟩,clock+1,?_,?_⟩
  ·simp[Instr.mapUpdate,run_underlying R.hm,MapKept.run_getObj_map hb,R.chk,hf,MapKept.run_setObj_map _ hb]
  ·rw[Zs8 e1];simp[h]
 | some p =>
  obtain⟨j,v⟩:=p;rw[e1] at hf;obtain⟨_,x,h2,h3,h4⟩:=Zs7 R e1;simp only[Ji] at h2 h4;have hjl:j < l.length:=(List.getElem?_eq_some_iff.1 h2).1;have hlen:es.toList.length=l.length:=by have:=Hz List.length h;simpa using this
  have hje:j < es.size:=by rw[Jt] at hlen;omega
  obtain⟨e0,he0⟩:∃ e0,es[j]? = some e0:=⟨es[j],by simp[hje]⟩
  have hkey:e0.key=spK k:=by
   have:=Hz (fun l=>l[j]?) h;simp only[Gf,h2] at this;have he0':es.toList[j]? = some e0:=by simpa using he0
   rw[he0'] at this;simp only[H9,Hx,Jw] at this;rw[this.1,h3]
  have hstay:(Instr.keyThatStays (spK k) (spK k)).run P w=.ok (spK k) w:=by
   have:Instr.sameBits 10000 (spK k) (spK k)=true:=by simp[Instr.sameBits,spK]
   simp[Instr.keyThatStays,this]
  refine⟨es.modify j (fun e=>{ e with key:=spK k,val:=.int .i64 n }),clock,?_,?_⟩
  ·simp[Instr.mapUpdate,run_underlying R.hm,MapKept.run_getObj_map hb,R.chk,hf,he0,hkey,hstay,MapKept.run_setObj_map _ hb]
  ·rw[h4 n];apply List.ext_getElem?;intro i;have hi:=Hz (fun l=>l[i]?) h;simp only[Gf,JN] at hi;simp only[Gf,JN,JI,Jx];by_cases e:j=i
   ·subst e;simp only[if_true,Hb hjl,JV hje,H9]
   ·simp only[Ha e];exact hi
end
section
variable {G:Ctx} {E:Env} {fr:Fr} {h:Hp} {a:Act} {w:World}
theorem An.newMap (C:An G E fr h a w) {k:Nat} (hk:Ah h k=none) (hlow:Nat.blt k 1000=true):∃ E',An G E' fr ((k,.mp (Eq []))::h) a (w.alloc (.map #[] 0))∧E'.blk k=w.heap.size:=by
 refine⟨⟨fun j=>if j=k then w.heap.size else E.blk j,E.row,E.fp⟩,?_,by simp⟩;have U:Upd E h w k (.mp (Eq [])) ⟨fun j=>if j=k then w.heap.size else E.blk j,E.row,E.fp⟩ (w.alloc (.map #[] 0)) :=
  ⟨fun j hj=>by simp[hj],fun _ _=>rfl,fun _ _=>rfl,(fun hs=>by rw[hk] at hs;cases hs),fun _=>by simpa[HT] using hlow,fun m hm=>(ZDf hk hm).elim,(fun hs=>by rw[hk] at hs;cases hs),Ext.new _ _,
   (fun b hb=>by unfold Ai at hb;rw[Zai] at hb;simp at hb;exact .inr (by omega))⟩
 exact C.upd U ⟨#[],0,[],by simpa using heap_alloc_new w _,rfl,rfl⟩ (by simp[Ob.keys])
theorem ZCw {h:Hp} {k m:Nat} {p:ML→Prop} (hk:Ah h k=some (.mp p)):¬ verAny h k m:=by
 rintro (⟨_,_,_,h1,_⟩|⟨_,_,h1,_⟩|h1|⟨_,_,_,_,h1,_⟩) <;> rw[hk] at h1 <;> cases h1
theorem ZCx {h:Hp} {k sz m:Nat} {p:ML→Prop} (hk:Ah h k=some (.mp p)):¬ verRow h k sz m:=by
 rintro (⟨_,_,h1,_⟩|⟨_,_,_,_,h1,_⟩) <;> rw[hk] at h1 <;> cases h1
theorem An.setMap (C:An G E fr h a w) {k:Nat} {p q:ML→Prop} (hk:Ah h k=some (.mp p)) {w':World} (hE:Ext (fun b=>b=E.blk k) w w') (hq:MapAt w' (E.blk k) q):An G E fr ((k,.mp q)::h) a w':=by
 have hbk:Ai E h k (E.blk k):=by simp[Ai,hk]
 have U:Upd E h w k (.mp q) E w' :=
  ⟨fun _ _=>rfl,fun _ _=>rfl,fun _ _=>rfl,fun _=>rfl,(fun hn=>by rw[hk] at hn;cases hn),(fun m hm=>(ZCw hk hm).elim),(fun _ sz n hv=>(ZCx (Zai _ _ _) hv).elim),
   hE.mono (fun b hb=>by rw[hb];exact hbk),(fun b hb=>.inl (by unfold Ai at hb ⊢;rw[Zai] at hb;rw[hk];exact hb))⟩
 exact C.upd U hq (by simp[Ob.keys])
end
section
variable {P:Program} {n:Nat} {Q:Exit→Fr→Hp→Prop} {fr:Fr} {h:Hp}
theorem ZuM {c:Code} (k:Nat) {p:ML→Prop} (hk:Ah h k=some (.mp p)) (hc:∀ l,p l→aw P n c Q fr ((k,.mp (Eq l))::h)):aw P n c Q fr h:=fun G E a w hn C=>by
 obtain⟨es,clock,l,h1,h2,h3⟩:=C.heap.obs k _ hk;exact hc l h3 G E a w hn (C.setMap hk (Ext.refl _ _) ⟨es,clock,l,h1,h2,rfl⟩)
end
section
variable {P:Program} {n:Nat} {dr:Bool} {ops:Array Oper} {rest:List Oper} {log:List Rec} {K:Exit→Fr→Hp→Prop} {fr:Fr} {h:Hp}
variable {d:Nat} {ty:TypeId} {pos:String} {after:Array Edge} {g:Option (Nat×Bool)}
theorem ZxD {t:TypeId} (hdn:Nat.blt d n=true) (hlow:Nat.blt d 1000=true) (hg:gOk ops fr g) (hk:Ah h d=none)
  (hr:dops P n dr ops rest (⟨(gIns ops g).map Prod.fst,[d],[d],[d]⟩::log) K ((d,.mapv d)::fr) ((d,.mp (Eq []))::h)):dops P n dr ops (⟨some d,.makeMap t none,ty,pos,after,g⟩::rest) log K fr h:=by
 refine Zay (ins:=gIns ops g++[]) (objs:=[(d,none)]) (v:=.mapv d) (upd:=[(d,.mp (Eq []))]) (LStep.updV rfl hdn rfl hg _ _ _ _ fun G E fr' h' a w C hi ho=>?_) (Zc6 hg (by simp)) (by simpa using hk) (by rw[Hu];exact hr);have hk':Ah h' d=none:=ho (d,none) (by simp);obtain⟨E',C',hb⟩:=C.newMap hk' hlow;refine⟨.map (some w.heap.size),E',_,?_,C',by simp only[V.Rep];rw[hb],by intro q hq;simp[V.keys] at hq;subst hq;simp[Zai]⟩;simp[execOp,Instr.makeMap]
theorem ZAm {x ix:Operand} {mt kt et:TypeId} {k:Nat} {v:V} {a1 a2 a3:Int} {l:ML} (R:KeyRun P mt kt et) (hdn:Nat.blt d n=true) (hg:gOk ops fr g) (hx:oev fr x=.mapv k) (hy:oev fr ix=v) (h1:ZaP ix=true) (hv:vval v=some (.agg #[.int .i64 a1,.int .i64 a2,.int .i64 a3])) (hk:Ah h k=some (.mp (Eq l)))
  (hr:dops P n dr ops rest (⟨(gIns ops g++Zaq [x,ix] [.mapv k,v]).map Prod.fst,[d],[k],[]⟩::log) K ((d,.tup [I ((lkp l (a1,a2,a3)).getD 0),B (lkp l (a1,a2,a3)).isSome])::fr) h) :
  dops P n dr ops (⟨some d,.lookup mt x ix true,ty,pos,after,g⟩::rest) log K fr h:=by
 refine Zay (ins:=gIns ops g++Zaq [x,ix] [.mapv k,v]) (objs:=[(k,some (.mp (Eq l)))]) (v:=.tup [I ((lkp l (a1,a2,a3)).getD 0),B (lkp l (a1,a2,a3)).isSome]) (upd:=[]) (LStep.updV rfl hdn rfl hg _ _ _ _ fun G E fr' h' a w C hi ho=>?_) (Zc6 hg (ZbK ⟨hx,hy,trivial⟩)) (by simpa using hk) hr;have hk':Ah h' k=some (.mp (Eq l)):=ho (k,_) (by simp);have hx':=Zcx (xs:=[x,ix]) (vs:=[.mapv k,v]) ⟨hx,hy,trivial⟩ hi;simp only[oevs] at hx';obtain⟨p1,_⟩:=C.oev hx'.1 (Zam (Zan hx rfl));obtain⟨q1,_⟩:=C.oev hx'.2.1 (Zam h1);have e1:=ZoH q1 hv;simp only[V.Rep] at p1;obtain⟨es,clock,l',m1,m2,rfl⟩:=C.heap.obs k _ hk';have hrun:=R.lookup (a1,a2,a3) m1 m2;refine⟨.tuple #[.int .i64 ((lkp l (a1,a2,a3)).getD 0),.bool (lkp l (a1,a2,a3)).isSome],E,w,?_,C,?_,by simp[V.keys,V.keyss]⟩
 ·simp only[execOp,p1,e1,Sem.run_bind];rw[show (Value.agg #[.int .i64 a1,.int .i64 a2,.int .i64 a3])=spK (a1,a2,a3) from rfl,hrun];simp only[Result.andThen_ok,Sem.run_pure]
 ·simp[V.Rep,V.Reps,D.RepV,D.Rep,Value.oneCell']
theorem Zrw {x ix yv:Operand} {mt kt et:TypeId} {k:Nat} {v:V} {a1 a2 a3 c:Int} {p:ML→Prop} (R:KeyRun P mt kt et) (q:ML→Prop) (hg:gOk ops fr g) (hx:oev fr x=.mapv k) (hy:oev fr ix=v) (h1:ZaP ix=true) (hv:vval v=some (.agg #[.int .i64 a1,.int .i64 a2,.int .i64 a3])) (hz:oev fr yv=I c) (hk:Ah h k=some (.mp p))
  (hq:∀ l,p l→q (sto l (a1,a2,a3) c))
  (hr:dops P n dr ops rest (⟨(gIns ops g++Zaq [x,ix,yv] [.mapv k,v,I c]).map Prod.fst,[],[k],[k]⟩::log) K fr ((k,.mp q)::h)) :
  dops P n dr ops (⟨none,.mapUpdate mt x ix yv,ty,pos,after,g⟩::rest) log K fr h:=by
 refine Zay (ins:=gIns ops g++Zaq [x,ix,yv] [.mapv k,v,I c]) (objs:=[(k,some (.mp p))]) (v:=.junk) (upd:=[(k,.mp q)]) (LStep.updS rfl rfl hg _ _ _ fun G E fr' h' a w C hi ho=>?_) (Zc6 hg (ZbK ⟨hx,hy,hz,trivial⟩)) (by simpa using hk) hr;have hk':Ah h' k=some (.mp p):=ho (k,_) (by simp);have hx':=Zcx (xs:=[x,ix,yv]) (vs:=[.mapv k,v,I c]) ⟨hx,hy,hz,trivial⟩ hi;simp only[oevs] at hx';obtain⟨p1,_⟩:=C.oev hx'.1 (Zam (Zan hx rfl));obtain⟨q1,_⟩:=C.oev hx'.2.1 (Zam h1);obtain⟨r1,_⟩:=C.oev hx'.2.2.1 (Zam (Zan hz rfl));have e1:=ZoH q1 hv;simp only[V.Rep] at p1;have e2:a.eval yv=.int .i64 c:=by simpa[V.Rep,D.RepV,D.Rep,Value.oneCell'] using r1
 obtain⟨es,clock,l,m1,m2,m3⟩:=C.heap.obs k _ hk';obtain⟨es',clock',r2,r3⟩:=R.update (a1,a2,a3) c m1 m2;have hbl:E.blk k < w.heap.size:=(Array.getElem?_eq_some_iff.1 m1).1;refine⟨E,_,?_,C.setMap hk' (w':={ w with heap:=w.heap.setIfInBounds (E.blk k) (.map es' clock') }) ⟨rfl,rfl,rfl,by simp,fun b hb hne=>?_,Hg _⟩ ⟨es',clock',_,?_,r3,hq l m3⟩⟩
 ·simp only[execOp,p1,e1,e2,Sem.run_bind];rw[show (Value.agg #[.int .i64 a1,.int .i64 a2,.int .i64 a3])=spK (a1,a2,a3) from rfl,r2];simp only[Result.andThen_ok,Sem.run_pure]
 ·rw[Array.getElem?_setIfInBounds_ne (Ne.symm hne)]
 ·simp[hbl]
end
section
variable {G:Ctx} {E:Env} {fr:Fr} {h:Hp} {a:Act} {w:World}
theorem An.reBox (C:An G E fr h a w) {k j:Nat} {ty:TypeId} {cs:List V} {c c':V} (hk:Ah h k=some (.box ty cs)) (hj:cs[j]? = some c) (hco:Co h c c') (hin:c'.inside h=true):An G E fr ((k,.box ty (cs.set j c'))::h) a w:=by
 obtain⟨us,g1,g2,g3⟩:=C.heap.obs k _ hk;have hcl:=C.heap.closed k _ hk;have U:Upd E h w k (.box ty (cs.set j c')) E w :=
  ⟨fun _ _=>rfl,fun _ _=>rfl,fun _ _=>rfl,fun _=>rfl,(fun hn=>by rw[hk] at hn;cases hn),
   (fun m hm=>by exfalso;rcases hm with ⟨_,_,_,h1,_⟩|⟨_,_,h1,_⟩|h1|⟨_,_,_,_,h1,_⟩ <;> rw[hk] at h1 <;> cases h1),
   (fun _ sz n hv=>by exfalso;rcases hv with ⟨_,_,h1,_⟩|⟨_,_,_,_,h1,_⟩ <;> (rw[Zai] at h1;cases h1)),
   Ext.refl _ _,(fun x hx=>.inl (by unfold Ai at hx ⊢;rw[Zai] at hx;rw[hk];exact hx))⟩
 have hkeys:∀ i∈V.keyss (cs.set j c'),(Ah h i).isSome=true:=fun i hi=>by
  obtain⟨v,hv,hi'⟩:=V.keyss_mem.1 hi;rcases GW hv with hv|rfl
  ·exact hcl i (by simp only[Ob.keys];exact V.keyss_mem.2 ⟨v,hv,hi'⟩)
  ·exact V.inside_spec hin i hi'
 refine C.upd U ⟨us,g1,?_,g3⟩ (fun i hi=>U.mono i (hkeys i (by simpa[Ob.keys] using hi)));obtain⟨u,hu,hur⟩:=g2.get hj;have hs:=g2.set (i:=j) (hco E G.o w u C.heap C.sub hur);have e:us.set j u=us:=by
  apply List.ext_getElem?;intro i;rw[Jx];split
  ·rename_i e;subst e;rw[hu];split <;> simp_all
  ·rfl
 rw[e] at hs;exact hs.move (U.trans G.o) hkeys (fun i hi=>U.mono i (hkeys i hi))
end
section
variable {P:Program} {n:Nat} {Q:Exit→Fr→Hp→Prop} {fr:Fr} {h:Hp}
theorem ZnR {c0:Code} (k j:Nat) {ty:TypeId} {cs:List V} {c:V} (c':V) (hk:Ah h k=some (.box ty cs)) (hj:cs[j]? = some c) (hco:Co h c c') (hin:c'.inside h=true) (hc:aw P n c0 Q fr ((k,.box ty (cs.set j c'))::h)):aw P n c0 Q fr h :=
 fun G E a w hn C=>hc G E a w hn (C.reBox hk hj hco hin)
def now (K:Fr→Hp→Prop) (fr:Fr) (h:Hp):Prop:=∀ (G:Ctx) (E:Env) (a:Act) (w:World),An G E fr h a w→∃ E' fr' h',K fr' h'∧An G E' fr' h' a w
end
section
variable {P:Program} {n:Nat} {dr:Bool} {ops:Array Oper} {rest:List Oper} {log:List Rec} {K:Exit→Fr→Hp→Prop} {fr:Fr} {h:Hp}
variable {ty:TypeId} {pos:String} {after:Array Edge} {g:Option (Nat×Bool)}
theorem ZCy {dst:Option Tmp} {fop:Operand} {xs:List Operand} {args:Array Operand} {ats:Array TypeId} {vs caps cargs:List V} {f:FuncId} {hc:Hp} {r:V} (φ:List (Nat×Nat)) {objs:List (Nat×Option Ob)} {fz:Hp} {W:List Nat}
  (hg:gOk ops fr g) (hd:ZoF n dst=true) (hxs:args.toList=xs) (hf:oev fr fop=.fn (.func f) [] caps) (hx:oevs fr xs vs) (h1:xs.all ZaP=true) (hA:Af P f cargs hc r hc) (ha:As φ h (vs++caps) cargs objs fz W)
  (hlink:LinkH h φ hc) (hnew:NewH h (Zbz φ hc hc)) (hok:Zfc φ hc hc fz W=true) (hin:(hpIn hc hc && V.insides hc cargs)=true) (hcl:W=[]∨(r.clean∧HpClean hc)) {fr':Fr} {h':Hp} (hfr:dput dst (r.ren φ) fr=fr') (hh:fz++h=h')
  (hr:dops P n dr ops rest (⟨(gIns ops g++(ZaF fop (.fn (.func f) [] caps)++Zaq xs vs)).map Prod.fst,dst.toList,(ZbL φ hc hc objs).map Prod.fst,fz.map Prod.fst⟩::log) K fr' h') :
  dops P n dr ops (⟨dst,.call { callee:=.value fop,args:=args,argTypes:=ats },ty,pos,after,g⟩::rest) log K fr h:=by
 have hargs:args=xs.toArray:=by rw[←hxs]
 subst hargs;subst hfr;subst hh;simp only[Hr] at hin;have hnewo:Am h ((Zbz φ hc hc).map (fun k=>(k,(none:Option Ob)))):=fun p hp=>by
  obtain⟨k,hk,rfl⟩:=List.mem_map.1 hp;exact hnew.get k hk
 refine Zay (ins:=gIns ops g++(ZaF fop (.fn (.func f) [] caps)++Zaq xs vs)) (objs:=ZbL φ hc hc objs) (v:=r.ren φ) (upd:=fz) ?_ (Zc6 hg (fun p hp=>(List.mem_append.1 hp).elim (ZbM hf p) (ZbK hx p)))
  (Am.append.2 ⟨LinkH.iff.1 hlink,Am.append.2 ⟨hnewo,ha.objs⟩⟩) hr
 intro G E fr' h' a w K Q hPan hn C hi ho hK;have hgo:gOk ops fr' g:=Zid hg (fun p hp=>hi p (List.mem_append.2 (.inl hp)));have ho':=Am.append.1 (show Am h' (ZbL φ hc hc objs) from ho);have ho'':=Am.append.1 ho'.2;have ha':=ha.of ho''.2;have hlink':LinkH h' φ hc:=LinkH.iff.2 ho'.1;have hf':=ZcC hf (fun p hp=>hi p (List.mem_append.2 (.inr (List.mem_append.2 (.inl hp)))));have hx':=Zcx hx (fun p hp=>hi p (List.mem_append.2 (.inr (List.mem_append.2 (.inr hp)))));simp only[Zfc,Hr] at hok;obtain⟨⟨⟨⟨⟨⟨c1,c2⟩,c3⟩,c4⟩,c5⟩,c6⟩,c7⟩:=hok;have C1:=C.frozs ha'.fz;have hoff:∀ k,(∀ p∈fz,p.1≠k)→Ah (fz++h') k=Ah h' k:=fun k hk=>by
  rw[ZaK,ZcB (fun hm=>by obtain⟨p,hp,e⟩:=List.mem_map.1 hm;exact hk p hp e)]
 have hlinkz:LinkH (fz++h') φ hc:=by
  refine LinkH.iff.2 (fun p hp=>?_);rw[hoff p.1 (fun q hq e=>?_)]
  ·exact ho'.1 p hp
  ·have hmem:∀ {l:Hp},p∈Zcb φ l→∃ q∈l,renK φ q.1=p.1:=by
    intro l
    induction l with
    | nil=>intro hp;simp[Zcb] at hp
    | cons q l ih =>
     intro hp;obtain⟨j,ob⟩:=q;simp only[Zcb,Gs] at hp;rcases hp with rfl|hp
     ·exact⟨_,HS,rfl⟩
     ·obtain⟨q,hq,e⟩:=ih hp;exact⟨q,HK _ hq,e⟩
   obtain⟨q',hq',e'⟩:=hmem hp;have:=List.all_eq_true.1 (List.all_eq_true.1 c5 q hq) q' hq';rw[e,e',Gt] at this;simp at this
 have hnewz:NewH (fz++h') (Zbz φ hc hc):=by
  have key:∀ (l:List Nat),(∀ k∈l,Ah h' k=none)→NewH (fz++h') l:=by
   intro l
   induction l with
   | nil=>intro _;trivial
   | cons k l ih =>
    intro hl;refine⟨?_,ih (fun j hj=>hl j (HK _ hj))⟩;rw[hoff k (fun p hp e=>?_)]
    ·exact hl k HS
    ·obtain⟨_,_,_,_,q⟩:=ha'.fz p hp;rw[e,hl k HS] at q;cases q
  exact key _ (fun k hk=>ho''.1 (k,none) (List.mem_map.2 ⟨k,hk,rfl⟩))
 have hWf:∀ k∈W,k ∉ fz.map Prod.fst:=fun k hk hm=>by
  obtain⟨p,hp,rfl⟩:=List.mem_map.1 hm;have:=List.all_eq_true.1 (List.all_eq_true.1 c7 p hp) _ hk;simp at this
 obtain⟨r1,_⟩:=C1.oev hf' (Zam (Zan hf rfl));obtain⟨r2,_⟩:=Zdw C1 hx' h1;simp only[V.Rep] at r1;obtain⟨af,cf,e1,e2,e3⟩:=r1;simp only[V.Reps] at e2;subst e2;have hus:=r2.append e3;have hsame:∀ k,Ah (Hp.ren φ hc++(fz++h')) k=Ah (fz++h') k:=fun k=>by
  rw[ZaK];cases hq:Ah (Hp.ren φ hc) k with
  | none=>rfl
  | some ob =>
   simp only;have hk:k∈(Hp.ren φ hc).map Prod.fst:=HN fun hn=>by rw[ZcB hn] at hq;cases hq
   rw[ren_keys] at hk;obtain⟨k0,hk0,rfl⟩:=List.mem_map.1 hk;obtain⟨p,hp,rfl⟩:=List.mem_map.1 hk0;have h2:=ZoD (φ:=φ) (g:=hc) (k:=p.1) (fun j hj e=>Zfd c2 hj hk0 e);obtain⟨o1,ho1⟩:=Option.isSome_iff_exists.1 (ZoC hp);rw[h2,ho1] at hq;simp only[H9,Hx] at hq;rw[hlinkz.get ho1,hq]
 have hcall:=C1.call hA φ W hlinkz hnewz c1 hin.1 c2 c3 c4 (fun k hk=>⟨?_,fun q hq e=>?_⟩) hcl (us:=xs.map a.eval++cf) (fun Ec M L hAl hvw=>ha'.rep C1 ha'.fz L hAl hvw (fun _ hp=>hp) (fun _ hk=>hk) hWf (V.insides_spec hin.2) hus) (V.insides_spec hin.2)
 ·unfold wpS;rw[Hb (Zct (o:=⟨dst,_,ty,pos,after,g⟩) C hgo)];refine .inl ?_;unfold Oper.wp;rw[ZoE hA.1 a.eval cf e1];simp only[Oper.upon];refine hcall.mono ?_;rintro e w' ⟨E',u,rfl,C',hru,hku⟩;have C':=An.congr (fun _=>rfl) hsame C';have hru:=(show V.Rep E' (fz++h') (bars E' (fz++h') G.o) w' (r.ren φ) u from by
   have e:∀ k,Ah (Hp.ren φ hc++(fz++h')) k=Ah (fz++h') k:=hsame
   have hB:bars E' (Hp.ren φ hc++(fz++h')) G.o=bars E' (fz++h') G.o:=by
    funext t b;have:∀ k,Ai E' (Hp.ren φ hc++(fz++h')) k=Ai E' (fz++h') k:=(fun k=>by funext b;unfold Ai;rw[e k]);unfold bars Live;simp only[this]
   have T:Trans E' (Hp.ren φ hc++(fz++h')) (bars E' (Hp.ren φ hc++(fz++h')) G.o) w' E' (fz++h') (bars E' (fz++h') G.o) w':=by
    refine⟨fun _ _ _=>rfl,fun k _ m hv=>⟨m,?_,Hg _,fun _=>rfl⟩,fun k _ sz n hv=>⟨n,?_⟩,?_⟩
    ·unfold verAny at hv ⊢;rw[←e k];exact hv
    ·unfold verRow at hv ⊢;rw[e k];exact hv
    ·rw[hB];exact Carry.refl _ _
   exact hru.move T hku (fun k hk=>by rw[←e k];exact hku k hk))
  have hku:∀ k∈(r.ren φ).keys,(Ah (fz++h') k).isSome=true:=fun k hk=>by rw[←hsame k];exact hku k hk
  refine hK E' _ w' ?_;cases dst with
  | none=>exact C'.putNone _
  | some d=>exact C'.put (by rw[hn];simpa[ZoF,HT] using hd) hru hku
 ·obtain⟨e,sz,xs',q⟩:=ha'.vwRow k hk;exact⟨e,sz,xs',by rw[hoff k (fun p hp e=>hWf k hk (List.mem_map.2 ⟨p,hp,e⟩))];exact q⟩
 ·have:=List.all_eq_true.1 (List.all_eq_true.1 c6 k hk) q hq;rw[e,Gt] at this;simp at this
end
section
theorem Zat {ty:TypeId} {pos:String} {after:Array Edge} {g:Option (Nat×Bool)} {P:Program} {n:Nat} {dr:Bool} {ops:Array Oper} {rest:List Oper} {log:List Rec} {K:Exit→Fr→Hp→Prop} {fr:Fr} {h:Hp} {r':V} {dst:Option Tmp} {fop:Operand} {xs:List Operand} {args:Array Operand} {ats:Array TypeId} {vs caps cargs:List V} {f:FuncId} {hc:Hp} {r:V} (φ:List (Nat×Nat)) {objs:List (Nat×Option Ob)} {fz:Hp} {W:List Nat} {fr':Fr} {h':Hp} (hg:gOk ops fr g:=by exact Vf) (hd:ZoF n dst=true:=by exact rfl) (hxs:args.toList=xs:=by exact rfl) (hf:oev fr fop=.fn (.func f) [] caps:=by exact rfl) (hx:oevs fr xs vs:=by exact Vt) (h1:xs.all ZaP=true:=by exact rfl) (ha:As φ h (vs++caps) cargs objs fz W:=by exact Vy) (hlink:LinkH h φ hc:=by exact Vs) (hnew:NewH h (Zbz φ hc hc):=by exact Vp) (hok:Zfc φ hc hc fz W=true:=by exact rfl) (hin:(hpIn hc hc && V.insides hc cargs)=true:=by exact rfl) (hcl:W=[]∨(r.clean∧HpClean hc):=by exact Vk) (hr0:r.ren φ=r':=by exact Vn) (hfr:dput dst r' fr=fr':=by exact Vu) (hh:fz++h=h':=by exact Vu) (hA:Af P f cargs hc r hc) (hr:dops P n dr ops rest (⟨(gIns ops g++(ZaF fop (.fn (.func f) [] caps)++Zaq xs vs)).map Prod.fst,dst.toList,(ZbL φ hc hc objs).map Prod.fst,fz.map Prod.fst⟩::log) K fr' h') :dops P n dr ops (⟨dst,.call { callee:=.value fop,args:=args,argTypes:=ats },ty,pos,after,g⟩::rest) log K fr h:=ZCy φ hg hd hxs hf hx h1 hA ha hlink hnew hok hin hcl (by rw[hr0];exact hfr) hh hr
end
section
variable {P:Program} {n:Nat} {Q:Exit→Fr→Hp→Prop} {fr:Fr} {h:Hp}
end
end Go.Proofs.YtbpmepgnjanhnaaGreat
