import Derived.Test.YtbpmepgnjanhnaaGreatQG1
set_option linter.unusedVariables false
set_option linter.unusedSimpArgs false
set_option linter.unusedSectionVars false
namespace Go.Proofs.YtbpmepgnjanhnaaGreat
open Go.RowKit
structure Ac.ok (g:Ac):Prop where
 vars1:1≤g.vars
 vars:g.vars≤64
 terms0:0≤g.terms
 terms:g.terms≤16
 start0:0≤g.start
 start:g.start < g.vars
 Aa:g.Aa.length≤160
 right:∀ r∈g.Aa,r.right.length≤10
 left0:∀ r∈g.Aa,0≤r.left
 left:∀ r∈g.Aa,r.left < g.vars
 lo:∀ r∈g.Aa,∀ s∈r.right, -g.terms≤s
 hi:∀ r∈g.Aa,∀ s∈r.right,s < g.vars
theorem Zb4 {g:Ac} {r:Rule} (h:ZaX g r=0):r.right.length≤10∧0≤r.left∧r.left < g.vars∧∀ s∈r.right, -g.terms≤s∧s < g.vars:=by
 unfold ZaX at h;split at h
 ·cases h
 ·split at h
  ·cases h
  ·rename_i h1 h2;simp only[not_or] at h2;refine⟨by omega,by omega,by omega,fun s hs=>?_⟩;have h3:=h2.2.2;simp only[G9,JH] at h3;have:=h3 s hs;simp[Ze0] at this;omega
theorem Zk4 {g:Ac}:∀ {rs:List Rule} {i:Nat},(ZeA g rs i).code=0→∀ r∈rs,ZaX g r=0
 | [],_,_,r,hr=>by cases hr
 | q::rs,i,h,r,hr=>by
  rw[ZeA] at h;split at h
  ·rename_i h0;rcases List.mem_cons.1 hr with rfl|hr
   ·exact h0
   ·exact Zk4 h r hr
  ·rename_i h0;exact absurd h h0
theorem Zp0 {g:Ac}:∀ {rs:List Rule} {i:Nat},(∀ r∈rs,ZaX g r=0)→ZeA g rs i=⟨0,0⟩
 | [],_,_=>rfl
 | q::rs,i,h=>by
  rw[ZeA,Hb (h q (by simp))];exact Zp0 (fun r hr=>h r (by simp[hr]))
theorem Zbe {g:Ac} (h:(Zac g).code=0):g.ok:=by
 unfold Zac at h;split at h
 ·rename_i hh;split at h
  ·cases h
  ·have hz:=Zk4 h;obtain⟨a1,a2,a3,a4,a5,a6⟩:=hh;exact⟨a1,a2,a3,a4,a5,a6,by omega,fun r hr=>(Zb4 (hz r hr)).1,fun r hr=>(Zb4 (hz r hr)).2.1,fun r hr=>(Zb4 (hz r hr)).2.2.1,
    fun r hr s hs=>((Zb4 (hz r hr)).2.2.2 s hs).1,fun r hr s hs=>((Zb4 (hz r hr)).2.2.2 s hs).2⟩
 ·cases h
theorem Ac.ok.fault {g:Ac} (h:g.ok):Zac g=⟨0,0⟩:=by
 unfold Zac;rw[Hb ⟨h.vars1,h.vars,h.terms0,h.terms,h.start0,h.start⟩,Ha (by have:=h.Aa;omega)];refine Zp0 (fun r hr=>?_);unfold ZaX;rw[Ha (by have:=h.right r hr;omega),Ha];simp only[not_or];refine⟨by have:=h.left0 r hr;omega,by have:=h.left r hr;omega,?_⟩;simp only[G9,JH];intro s hs;have:=h.lo r hr s hs;have:=h.hi r hr s hs;simp[Ze0];omega
theorem Ze4 {g:Ac} (h:(Zac g).code=0):Zac g=⟨0,0⟩:=(Zbe h).fault
theorem Ac.ok.fit {g:Ac} (h:g.ok):g.fit:=⟨by have:=h.Aa;omega,fun r hr=>by have:=h.right r hr;omega⟩
theorem Zgo (g:Ac) (x:Tree):Zbm g x=wordL g ((g.Aa[x.rule.toNat]?).getD ⟨0,[]⟩).right x.Ab:=by cases x;rw[Zbm];rfl
theorem Zba (g:Ac) (k:List Tree):wordL g [] k=[]:=by rw[wordL.eq_def]
theorem Zbh {g:Ac} {s:Int} (h:s < 0) (ss:List Int) (k:List Tree):wordL g (s::ss) k=(-1 - s)::wordL g ss k:=by rw[wordL.eq_def];simp[h]
theorem Za1 {g:Ac} {s:Int} (h:¬ s < 0) (ss:List Int) (x:Tree) (k:List Tree):wordL g (s::ss) (x::k)=Zbm g x++wordL g ss k:=by rw[wordL.eq_def];simp[h]
theorem ZdA {g:Ac} {s:Int} (h:¬ s < 0) (ss:List Int):wordL g (s::ss) []=wordL g ss []:=by rw[wordL.eq_def];simp[h]
theorem Zx7 {g:Ac} {l:List Int} {k:List Tree} {j:Nat} (h:j < l.length) (hs:l[j] < 0):wordL g (l.drop j) k=(-1 - l[j])::wordL g (l.drop (j+1)) k:=by
 rw[Hw h,Zbh hs]
theorem Zx8 {g:Ac} {l:List Int} {k:List Tree} {j q:Nat} (h:j < l.length) (hs:¬ l[j] < 0) (hq:q < k.length):wordL g (l.drop j) (k.drop q)=Zbm g k[q]++wordL g (l.drop (j+1)) (k.drop (q+1)):=by
 rw[Hw h,Hw hq,Za1 hs]
theorem Zx9 {g:Ac} {l:List Int} {k:List Tree} {j:Nat} (h:¬ j < l.length):wordL g (l.drop j) k=[]:=by
 rw[HL (by omega),Zba]
theorem Zbt {g:Ac}:∀ {k:List Tree} {vs:List Int},fitss g k vs=true→∀ {q:Nat} (h1:q < k.length) (h2:q < vs.length),fits g k[q] vs[q]=true
 | [],_,_,q,h1,_=>by simp at h1
 | _::_,[],_,q,_,h2=>by simp at h2
 | x::k,v::vs,h,q,h1,h2=>by
  simp only[fitss,Hr] at h
  match q with
  | 0=>exact h.1
  | q+1=>exact Zbt h.2 (by simpa using h1) (by simpa using h2)
theorem ZaR {g:Ac} {x:Tree} {v:Int} (h:fits g x v=true):∃ i:Nat,∃ hi:i < g.Aa.length,x.rule=(i:Int)∧g.Aa[i].left=v∧(Ab g.Aa[i].right).length=x.Ab.length∧fitss g x.Ab (Ab g.Aa[i].right)=true∧Zbm g x=wordL g g.Aa[i].right x.Ab:=by
 have h':=h;rw[Zf0] at h;by_cases h0:0≤x.rule
 ·rw[Hb h0] at h;cases hg:g.Aa[x.rule.toNat]? with
  | none=>rw[hg] at h;cases h
  | some ru =>
   rw[hg] at h;obtain⟨hi,rfl⟩:=List.getElem?_eq_some_iff.1 hg;simp only[Hr,HY] at h;refine⟨x.rule.toNat,hi,by omega,h.1,h.2.1,h.2.2,?_⟩;rw[Zgo,hg];rfl
 ·rw[Ha h0] at h;cases h
mutual
theorem ZjO {g:Ac} (R:Nat) (hR:∀ r∈g.Aa,r.right.length≤R):∀ (x:Tree),(Zbm g x).length≤R * cnt x
 | .mk r k=>by
  rw[Zbm];have h:=ZjP R hR ((g.Aa[r.toNat]?).getD ⟨0,[]⟩).right k;have h2:((g.Aa[r.toNat]?).getD ⟨0,[]⟩).right.length≤R:=by
   cases hg:g.Aa[r.toNat]? with
   | none=>simp
   | some ru=>obtain⟨hi,rfl⟩:=List.getElem?_eq_some_iff.1 hg;exact hR _ (He hi)
  simp only[cnt];rw[Nat.mul_add];omega
 termination_by x=>(cnt x,0)
 decreasing_by simp[cnt,Prod.lex_def]
theorem ZjP {g:Ac} (R:Nat) (hR:∀ r∈g.Aa,r.right.length≤R):∀ (ss:List Int) (k:List Tree),(wordL g ss k).length≤ss.length+R * cnts k
 | [],k=>by simp[Zba]
 | s::ss,k=>by
  by_cases hs:s < 0
  ·have:=ZjP R hR ss k;rw[Zbh hs];simp only[Hl];omega
  ·match k with
   | x::k =>
    have h1:=ZjO R hR x;have h2:=ZjP R hR ss k;rw[Za1 hs];simp only[Hk,Hl,cnts,Nat.mul_add];omega
   | [] =>
    have h2:=ZjP R hR ss [];rw[ZdA hs];simp only[Hl];omega
 termination_by ss k=>(cnts k,ss.length+1)
 decreasing_by all_goals (simp[cnts,Prod.lex_def];try omega)
end
def ZaA (g:Ac) (x:Tree) (v:Int):Zci:=if (Zac g).code=0 then (if cnt x≤400 then (if fits g x v=true then ⟨0,0⟩ else ⟨13, -1⟩) else ⟨6, -1⟩) else Zac g
theorem Zp1 {xs:List Int} {j:Nat} (h:j < xs.length) (hs:¬ xs[j] < 0):(Ab (xs.take j)).length < (Ab xs).length:=by
 have e:xs=xs.take j++xs.drop j:=by simp
 have e2:Ab xs=Ab (xs.take j)++Ab (xs.drop j):=(Hz Ab e).trans (by simp only[Ab,GR]);rw[e2,Hk,Hw h];have:Ab (xs[j]::xs.drop (j+1))=xs[j]::Ab (xs.drop (j+1)):=by simp only[Ab];rw[Gp (by simp;omega)]
 rw[this];simp
def Zya (g:Ac) (x:Tree):List Int:=if (ZaA g x g.start).code=0 then Zbm g x else []
theorem ZgH {g:Ac} {x:Tree} {v:Int} (h:(ZaA g x v).code=0):g.ok∧cnt x≤400∧fits g x v=true∧ZaA g x v=⟨0,0⟩:=by
 unfold ZaA at h ⊢;split at h
 ·rename_i h0;rw[Hb h0];split at h
  ·rename_i h1;rw[Hb h1];split at h
   ·rename_i h2;rw[Hb h2];exact⟨Zbe h0,h1,h2,rfl⟩
   ·cases h
  ·cases h
 ·rename_i h0;exact absurd h h0
def setN:List Bool→Nat
 | []=>0
 | b::r=>b.toNat+2 * setN r
theorem Zyb:∀ (l:List Bool),setN l < 2 ^ l.length
 | []=>by simp[setN]
 | b::r=>by
  have:=Zyb r;have:b.toNat≤1:=Bool.toNat_le b
  simp only[setN,Hl,Nat.pow_succ];omega
theorem ZcZ {l:List Bool} (h:l.length≤64):setN l < 18446744073709551616 :=
 Gl (Zyb l) (Hq (Nat.pow_le_pow_right (by decide) h) (by decide))
theorem Zcp:∀ (l:List Bool) (i:Nat),(setN l).testBit i=l.getD i false
 | [],i=>by simp[setN]
 | b::r,0=>by cases b <;> simp[setN,Nat.testBit_zero] <;> omega
 | b::r,i+1=>by
  rw[Nat.testBit_succ,setN];have e:(b.toNat+2 * setN r) / 2=setN r:=by have:b.toNat≤1:=Bool.toNat_le b;omega
  rw[e,Zcp r i];simp
theorem ZAK {a b:List Bool} (hl:a.length=b.length) (h:setN a=setN b):a=b:=by
 refine GM hl fun i h1 h2=>?_
 have e1:=Zcp a i;have e2:=Zcp b i;rw[h,e2] at e1;simpa[Hf,h1,h2] using e1.symm
theorem ZAL {l:List Bool} {i:Nat} (h:i < l.length):setN (l.set i true)=setN l ||| (1 <<< i):=by
 apply Nat.eq_of_testBit_eq;intro j;rw[Zcp,Nat.testBit_or,Zcp,Nat.one_shiftLeft,Nat.testBit_two_pow];simp only[Hf,Jx];by_cases e:i=j
 ·subst e;simp[h]
 ·simp[e]
theorem ZjQ (n:Nat):setN (List.replicate n false)=0:=by
 induction n with
 | zero=>rfl
 | succ n ih=>simp[G6,setN,ih]
def has (is:List Bool) (v:Int):Bool:=decide (0≤v) && is.getD v.toNat false
def put (is:List Bool) (v:Int):List Bool:=is.set v.toNat true
theorem Zcq (is:List Bool) (v:Int):(put is v).length=is.length:=by simp[put]
theorem ZbH (is:List Bool) (k:Nat):has is k=is.getD k false:=by simp[has]
theorem Zf5 {is:List Bool} {v:Int} (h0:0≤v) (h1:v < is.length) (u:Int):has (put is v) u=(has is u || decide (u=v)):=by
 unfold has put;by_cases hu:0≤u
 ·simp only[hu,decide_true,H0,Hf,Jx];by_cases e:u=v
  ·subst e;rw[Hb rfl,Hb (by omega)];simp
  ·rw[Ha (by omega)];simp[e]
 ·have:u≠v:=by omega
  simp[hu,this]
theorem Ze5 {is:List Bool} {v:Int} (h:has is v=true):0≤v∧v < is.length:=by
 simp only[has,Hr,HY] at h;refine⟨h.1,?_⟩;rcases Jk v.toNat is.length with h1|h1
 ·omega
 ·rw[Hf,HG h1] at h;simp at h
theorem ZCG {a b:List Bool} (hl:a.length=b.length) (h:∀ v,has a v=has b v):a=b:=by
 refine GM hl fun i h1 h2=>?_
 have:=h i;rw[ZbH,ZbH] at this;simpa[Hf,h1,h2] using this
structure Sub (a b:List Bool):Prop where
 len:a.length=b.length
 sub:∀ v,has a v=true→has b v=true
theorem Sub.refl (a:List Bool):Sub a a:=⟨rfl,fun _ h=>h⟩
theorem Sub.trans {a b c:List Bool} (h:Sub a b) (k:Sub b c):Sub a c:=⟨h.len.trans k.len,fun v hv=>k.sub v (h.sub v hv)⟩
theorem Sub.anti {a b:List Bool} (h:Sub a b) (k:Sub b a):a=b:=ZCG h.len fun v=>by
 rw[GS];exact⟨h.sub v,k.sub v⟩
theorem Sub.put {is:List Bool} {v:Int} (h0:0≤v):Sub is (put is v):=by
 refine⟨by simp[Proofs.YtbpmepgnjanhnaaGreat.put],fun u hu=>?_⟩;by_cases h1:v < is.length
 ·rw[Zf5 h0 h1,hu];rfl
 ·rw[Proofs.YtbpmepgnjanhnaaGreat.put,List.set_eq_of_length_le (by omega)];exact hu
theorem ZrO {a b:List Bool} (h:Sub a b) {v:Int} (hv:has b v=true):Sub (put a v) b:=by
 obtain⟨h0,h1⟩:=Ze5 hv;refine⟨by rw[Zcq];exact h.len,fun u hu=>?_⟩;rw[Zf5 h0 (by have:=h.len;omega),Gi,HY] at hu;rcases hu with hu|rfl
 ·exact h.sub u hu
 ·exact hv
def cntB:List Bool→Nat
 | []=>0
 | b::r=>b.toNat+cntB r
theorem ZrP:∀ (l:List Bool),cntB l≤l.length
 | []=>Hg _
 | b::r=>by have:=ZrP r;have:b.toNat≤1:=Bool.toNat_le b;simp only[cntB,Hl];omega
theorem Ztp:∀ {a b:List Bool},Sub a b→cntB a≤cntB b∧(cntB a=cntB b→a=b)
 | [],[],_=>⟨Hg _,fun _=>rfl⟩
 | [],y::b,h=>by have:=h.len;simp at this
 | x::a,[],h=>by have:=h.len;simp at this
 | x::a,y::b,h=>by
  have h1:Sub a b:=⟨by simpa using h.len,fun v hv=>by
   obtain⟨h0,hl⟩:=Ze5 hv;obtain⟨k,rfl⟩:∃ k:Nat,v=(k:Int):=⟨v.toNat,by omega⟩
   have:=h.sub ((k+1:Nat):Int) (by rw[ZbH];rw[ZbH] at hv;simpa using hv);rw[ZbH] at this ⊢;simpa using this⟩
  have h2:x=true→y=true:=fun hx=>by
   have:=h.sub ((0:Nat):Int) (by rw[ZbH];simpa using hx);rw[ZbH] at this;simpa using this
  obtain⟨k1,k2⟩:=Ztp h1;cases x <;> cases y <;> simp_all [cntB] <;> omega
theorem Sub.grows {a b:List Bool} (h:Sub a b) (hne:a≠b):cntB a < cntB b:=by
 obtain⟨h1,h2⟩:=Ztp h;rcases Jk (cntB a) (cntB b) with h3|h3
 ·exact h3
 ·exact absurd (h2 (by omega)) hne
def iter {α:Type} (f:α→α):Nat→α→α
 | 0,x=>x
 | n+1,x=>iter f n (f x)
theorem Zn4 {α:Type} {f:α→α} {x:α} (h:f x=x):∀ n,iter f n x=x
 | 0=>rfl
 | n+1=>by rw[iter,h];exact Zn4 h n
theorem Zp2 {α:Type} {f:α→α}:∀ (n:Nat) (x:α),iter f n (f x)=f (iter f n x)
 | 0,_=>rfl
 | n+1,x=>by rw[iter,iter,Zp2 n]
theorem Zp3 {f:List Bool→List Bool} (hs:∀ x,Sub x (f x)):∀ (n:Nat) (x:List Bool),x.length≤cntB x+n→f (iter f n x)=iter f n x
 | 0,x,h=>by
  rw[iter];by_cases e:x=f x
  ·exact e.symm
  ·have:=(hs x).grows e;have:=ZrP (f x);have:=(hs x).len;omega
 | n+1,x,h=>by
  rw[iter];by_cases e:x=f x
  ·rw[←e,Zn4 e.symm];exact e.symm
  ·have:=(hs x).grows e;have:=(hs x).len;exact Zp3 hs n (f x) (by omega)
theorem ZjR {f:List Bool→List Bool} (hs:∀ x,Sub x (f x)):∀ (n:Nat) (x:List Bool),Sub x (iter f n x)
 | 0,x=>Sub.refl x
 | n+1,x=>(hs x).trans (ZjR hs n (f x))
theorem ZiM {f:List Bool→List Bool} {S:List Bool} (hf:∀ x,Sub x S→Sub (f x) S):∀ (n:Nat) (x:List Bool),Sub x S→Sub (iter f n x) S
 | 0,_,h=>h
 | n+1,x,h=>ZiM hf n (f x) (hf x h)
def full (f:List Bool→List Bool) (x:List Bool):List Bool:=iter f x.length x
theorem Zn5 {f:List Bool→List Bool} (hs:∀ x,Sub x (f x)) (x:List Bool):f (full f x)=full f x:=Zp3 hs _ x (by omega)
theorem Zyc {f:List Bool→List Bool} (hs:∀ x,Sub x (f x)) (x:List Bool):full f (f x)=full f x:=by
 have h1:=Zn5 hs x;unfold full at h1 ⊢;rw[←(hs x).len,Zp2,h1]
theorem ZAM {f:List Bool→List Bool} {x:List Bool} (h:f x=x):full f x=x:=Zn4 h _
def ZaQ (xs:List Int) (is:List Bool):Bool:=xs.all (has is)
theorem Zyd {xs:List Int} {a b:List Bool} (h:Sub a b) (hx:ZaQ xs a=true):ZaQ xs b=true:=by
 simp only[ZaQ,HQ] at hx ⊢;exact fun x m=>h.sub x (hx x m)
def asks (t:Bool) (r:Rule):List Int:=bif t then Ab r.right else r.right
def one1 (t:Bool) (r:Rule) (is:List Bool):List Bool:=bif ZaQ (asks t r) is then put is r.left else is
def pass (t:Bool):List Rule→List Bool→List Bool
 | [],is=>is
 | r::rs,is=>pass t rs (one1 t r is)
theorem Ztq {t:Bool} {r:Rule} (h:0≤r.left) (is:List Bool):Sub is (one1 t r is):=by
 unfold one1;cases ZaQ (asks t r) is with
 | true=>exact Sub.put h
 | false=>exact Sub.refl _
theorem ZhQ {t:Bool}:∀ {rs:List Rule},(∀ r∈rs,0≤r.left)→∀ is,Sub is (pass t rs is)
 | [],_,is=>Sub.refl is
 | r::rs,h,is=>(Ztq (h r (by simp)) is).trans (ZhQ (fun q hq=>h q (by simp[hq])) _)
theorem Ztr {t:Bool}:∀ {rs:List Rule} {is:List Bool},(∀ r∈rs,0≤r.left)→pass t rs is=is→∀ r∈rs,one1 t r is=is
 | [],_,_,_,r,hr=>by cases hr
 | q::rs,is,h,e,r,hr=>by
  have h1:=Ztq (t:=t) (h q (by simp)) is;have h2:=ZhQ (t:=t) (rs:=rs) (fun r hr=>h r (by simp[hr])) (one1 t q is);rw[pass] at e;rw[e] at h2;have e1:=h2.anti h1;rcases List.mem_cons.1 hr with rfl|hr
  ·exact e1
  ·rw[e1] at e;exact Ztr (fun r hr=>h r (by simp[hr])) e r hr
def Holds (t:Bool) (rs:List Rule) (S:List Bool):Prop:=∀ r∈rs,ZaQ (asks t r) S=true→has S r.left=true
theorem ZmL {t:Bool} {S:List Bool}:∀ {rs:List Rule},Holds t rs S→∀ is,Sub is S→Sub (pass t rs is) S
 | [],_,_,h=>h
 | r::rs,hS,is,h=>by
  refine ZmL (rs:=rs) (fun q hq=>hS q (by simp[hq])) (one1 t r is) ?_;unfold one1;cases hc:ZaQ (asks t r) is with
  | false=>exact h
  | true=>exact ZrO h (hS r (by simp) (Zyd h hc))
def Ze6 (g:Ac):List Bool:=List.replicate g.vars.toNat false
def ZaZ (t:Bool) (g:Ac):List Bool:=full (pass t g.Aa) (Ze6 g)
theorem Zbk (g:Ac):(Ze6 g).length=g.vars.toNat:=by simp[Ze6]
theorem ZhR (g:Ac) (v:Int):has (Ze6 g) v=false:=by
 unfold has Ze6;by_cases h:v.toNat < g.vars.toNat <;> simp[Hf,JE,h]
theorem Zts {g:Ac} {S:List Bool} (h:S.length=g.vars.toNat):Sub (Ze6 g) S:=⟨by rw[Zbk,h],fun v hv=>by rw[ZhR] at hv;cases hv⟩
theorem ZcL {t:Bool} {g:Ac} (hg:g.ok):(ZaZ t g).length=g.vars.toNat:=by
 rw[ZaZ,full,←(ZjR (ZhQ hg.left0) _ _).len,Zbk]
theorem Zfy {t:Bool} {g:Ac} (hg:g.ok):Holds t g.Aa (ZaZ t g):=fun r hr h=>by
 have h1:=Ztr hg.left0 (Zn5 (ZhQ (t:=t) hg.left0) (Ze6 g)) r hr;change one1 t r (ZaZ t g)=ZaZ t g at h1;unfold one1 at h1;rw[h,Gb] at h1;have hl:=ZcL (t:=t) hg;have a1:=hg.left0 r hr;have a2:=hg.left r hr;rw[←h1,Zf5 a1 (by omega)];simp
theorem ZhS {t:Bool} {g:Ac} {S:List Bool} (hl:S.length=g.vars.toNat) (hS:Holds t g.Aa S):Sub (ZaZ t g) S :=
 ZiM (fun x hx=>ZmL hS x hx) _ _ (Zts hl)
def Zed:List Int→List Bool→List Bool
 | [],is=>is
 | v::vs,is=>Zed vs (put is v)
def ZhT (r:Rule) (is:List Bool):List Bool:=bif has is r.left then Zed (Ab r.right) is else is
def ZgZ:List Rule→List Bool→List Bool
 | [],is=>is
 | r::rs,is=>ZgZ rs (ZhT r is)
theorem ZmM:∀ {vs:List Int},(∀ v∈vs,0≤v)→∀ is,Sub is (Zed vs is)
 | [],_,is=>Sub.refl is
 | v::vs,h,is=>(Sub.put (h v (by simp))).trans (ZmM (fun u hu=>h u (by simp[hu])) _)
theorem ZmN:∀ {vs:List Int} {is:List Bool},(∀ v∈vs,0≤v∧v < is.length)→∀ u,has (Zed vs is) u=(has is u || decide (u∈vs))
 | [],is,_,u=>by simp[Zed]
 | v::vs,is,h,u=>by
  have hv:=h v (by simp);rw[Zed,ZmN (fun w hw=>by rw[Zcq];exact h w (by simp[hw])),Zf5 hv.1 hv.2,Bool.or_assoc];congr 1;simp only[Gs];by_cases e:u=v <;> simp[e]
theorem ZbW {xs:List Int}:∀ v∈Ab xs,0≤v:=fun v hv=>by
 simp only[Ab,List.mem_filter,HY] at hv;exact hv.2
theorem ZdV {xs:List Int} {v:Int} (h:v∈Ab xs):v∈xs:=(List.mem_filter.1 h).1
theorem Zp4 (r:Rule) (is:List Bool):Sub is (ZhT r is):=by
 unfold ZhT;cases has is r.left with
 | true=>exact ZmM ZbW is
 | false=>exact Sub.refl _
theorem Ze7:∀ (rs:List Rule) (is:List Bool),Sub is (ZgZ rs is)
 | [],is=>Sub.refl is
 | r::rs,is=>(Zp4 r is).trans (Ze7 rs _)
theorem Zp5:∀ {rs:List Rule} {is:List Bool},ZgZ rs is=is→∀ r∈rs,ZhT r is=is
 | [],_,_,r,hr=>by cases hr
 | q::rs,is,e,r,hr=>by
  have h1:=Zp4 q is;have h2:=Ze7 rs (ZhT q is);rw[ZgZ] at e;rw[e] at h2;have e1:=h2.anti h1;rcases List.mem_cons.1 hr with rfl|hr
  ·exact e1
  ·rw[e1] at e;exact Zp5 e r hr
def Goes (rs:List Rule) (S:List Bool):Prop:=∀ r∈rs,has S r.left=true→∀ v∈Ab r.right,has S v=true
theorem Zje {S:List Bool}:∀ {vs:List Int},(∀ v∈vs,has S v=true)→∀ is,Sub is S→Sub (Zed vs is) S
 | [],_,_,h=>h
 | v::vs,hv,is,h=>Zje (vs:=vs) (fun u hu=>hv u (by simp[hu])) (put is v) (ZrO h (hv v (by simp)))
theorem Zk5 {S:List Bool}:∀ {rs:List Rule},Goes rs S→∀ is,Sub is S→Sub (ZgZ rs is) S
 | [],_,_,h=>h
 | r::rs,hS,is,h=>by
  refine Zk5 (rs:=rs) (fun q hq=>hS q (by simp[hq])) (ZhT r is) ?_;unfold ZhT;cases hc:has is r.left with
  | false=>exact h
  | true=>exact Zje (hS r (by simp) (h.sub _ hc)) is h
def Zc0 (g:Ac):List Bool:=full (ZgZ g.Aa) (put (Ze6 g) g.start)
theorem Zfz (g:Ac):(Zc0 g).length=g.vars.toNat:=by
 rw[Zc0,full,←(ZjR (Ze7 _) _ _).len,Zcq,Zbk]
theorem Zn6 {g:Ac} (hg:g.ok):has (Zc0 g) g.start=true:=by
 refine (ZjR (Ze7 g.Aa) _ _).sub _ ?_;have:=hg.start;rw[Zf5 hg.start0 (by rw[Zbk];omega)];simp
theorem Zp6 {g:Ac} (hg:g.ok):Goes g.Aa (Zc0 g):=fun r hr h v hv=>by
 have h1:=Zp5 (Zn5 (Ze7 g.Aa) (put (Ze6 g) g.start)) r hr;change ZhT r (Zc0 g)=Zc0 g at h1;unfold ZhT at h1;rw[h,Gb] at h1;have hl:=Zfz g;rw[←h1,ZmN (fun w hw=>⟨ZbW w hw,by have:=hg.hi r hr w (ZdV hw);omega⟩)];simp[hv]
theorem Zn7 {g:Ac} {S:List Bool} (hl:S.length=g.vars.toNat) (h0:has S g.start=true) (hS:Goes g.Aa S):Sub (Zc0 g) S :=
 ZiM (fun x hx=>Zk5 hS x hx) _ _ (ZrO (Zts hl) h0)
structure Whole (st:Int→List Int) (init:List Int) (R:List Bool):Prop where
 from_:∀ w∈init,has R w=true
 goes:∀ u,has R u=true→∀ w∈st u,has R w=true
 least:∀ S:List Bool,S.length=R.length→(∀ w∈init,has S w=true)→(∀ u,has S u=true→∀ w∈st u,has S w=true)→Sub R S
section
variable {st:Int→List Int} {init:List Int} {R is:List Bool} {todo:List Int}
end
theorem Zye (v:Int):∀ (rs:List Rule) (i:Nat) (x:Int),x∈byR rs v i↔∃ k:Nat,∃ h:k < rs.length,x=((i+k:Nat):Int)∧rs[k].left=v
 | [],i,x=>by simp[byR]
 | r::rs,i,x=>by
  have ih:=Zye v rs (i+1) x;have e:x∈byR (r::rs) v i↔(r.left=v∧x=(i:Int))∨x∈byR rs v (i+1):=by
   rw[byR];split
   ·rename_i h;simp[h]
   ·rename_i h;simp[h]
  rw[e,ih];constructor
  ·rintro (⟨h1,h2⟩|⟨k,h,h1,h2⟩)
   ·exact⟨0,by simp,by simpa using h2,by simpa using h1⟩
   ·exact⟨k+1,by simpa using h,by rw[h1];congr 1;omega,by simpa using h2⟩
  ·rintro⟨k,h,h1,h2⟩
   match k with
   | 0=>exact .inl ⟨by simpa using h2,by simpa using h1⟩
   | k+1=>exact .inr ⟨k,by simpa using h,by rw[h1];congr 1;omega,by simpa using h2⟩
theorem by_mem {g:Ac} {v x:Int}:x∈by_ g v↔∃ k:Nat,∃ h:k < g.Aa.length,x=(k:Int)∧g.Aa[k].left=v:=by
 rw[by_,Zye];simp
def Zaj (g:Ac) (i:Int):List Int:=(g.Aa.getD i.toNat ⟨0,[]⟩).right
theorem Zaw {g:Ac} {k:Nat} (h:k < g.Aa.length):Zaj g k=g.Aa[k].right:=by
 simp[Zaj,Hf,h]
def Ztt (f:List Int→List Int) (g:Ac) (v:Int):List Int:=(by_ g v).flatMap fun i=>f (Zaj g i)
theorem overBy_mem {f:List Int→List Int} {g:Ac} {v w:Int}:w∈Ztt f g v↔∃ r∈g.Aa,r.left=v∧w∈f r.right:=by
 simp only[Ztt,GY];constructor
 ·rintro⟨i,hi,hw⟩;obtain⟨k,h,rfl,hl⟩:=by_mem.1 hi;rw[Zaw h] at hw;exact⟨_,He h,hl,hw⟩
 ·rintro⟨r,hr,hl,hw⟩;obtain⟨k,h,rfl⟩:=List.getElem_of_mem hr;exact⟨k,by_mem.2 ⟨k,h,rfl,hl⟩,by rw[Zaw h];exact hw⟩
def ZdN (null:List Bool) (c:Bool) (right:List Int) (k:Nat):Bool:=decide (0≤right.getD k 0) && (ZaQ (right.take k) null && (c || ZaQ (right.drop (k+1)) null))
def Zp7 (null:List Bool) (c:Bool) (right:List Int):Nat→List Int
 | 0=>[]
 | k+1=>Zp7 null c right k++(if ZdN null c right k=true then [right.getD k 0] else [])
def ZbX (null:List Bool) (c:Bool) (right:List Int):List Int:=Zp7 null c right right.length
theorem picks_mem {null:List Bool} {c:Bool} {right:List Int} {w:Int}:∀ {k:Nat},w∈Zp7 null c right k↔∃ j,j < k∧ZdN null c right j=true∧w=right.getD j 0
 | 0=>by simp[Zp7]
 | k+1=>by
  rw[Zp7,HU,picks_mem];constructor
  ·rintro (⟨j,h1,h2,h3⟩|h)
   ·exact⟨j,by omega,h2,h3⟩
   ·split at h
    ·rename_i hp;exact⟨k,by omega,hp,by simpa using h⟩
    ·cases h
  ·rintro⟨j,h1,h2,h3⟩;by_cases e:j=k
   ·subst e;right;rw[Hb h2];simp[h3]
   ·exact .inl ⟨j,by omega,h2,h3⟩
def ZiN (c:Bool) (g:Ac) (null:List Bool) (v:Int):List Int:=Ztt (ZbX null c) g v
abbrev Mat:=List (List Bool)
def rowM (M:Mat) (u:Int):List Bool:=M.getD u.toNat []
def hasM (M:Mat) (u w:Int):Bool:=decide (0≤u) && has (rowM M u) w
structure Sq (V:Nat) (M:Mat):Prop where
 len:M.length=V
 row:∀ r∈M,r.length=V
theorem Sq.at {V:Nat} {M:Mat} (h:Sq V M) {u:Int} (h0:0≤u) (h1:u < V):(rowM M u).length=V:=by
 have hl:u.toNat < M.length:=by have:=h.len;omega
 rw[rowM,Hf,Hj hl];exact h.row _ (He hl)
theorem ZCH {V:Nat} {M:Mat} (h:Sq V M) {u w:Int} (hh:hasM M u w=true):(0≤u∧u < V)∧0≤w∧w < V:=by
 simp only[hasM,Hr,HY] at hh;obtain⟨h0,h1⟩:=hh;have hu:u < V:=by
  rcases Jk u.toNat M.length with h2|h2
  ·have:=h.len;omega
  ·rw[rowM,Hf,HG h2] at h1;have:=(Ze5 h1).2;have:=(Ze5 h1).1;simp at *;omega
 have h3:=Ze5 h1;rw[h.at h0 hu] at h3;exact⟨⟨h0,hu⟩,h3⟩
def addM (u w:Int) (M:Mat):Mat:=M.set u.toNat (put (rowM M u) w)
theorem Sq.add {V:Nat} {M:Mat} (h:Sq V M) {u w:Int} (h0:0≤u) (h1:u < V):Sq V (addM u w M):=by
 refine⟨by simpa[addM] using h.len,fun r hr=>?_⟩;rcases GW hr with hr|rfl
 ·exact h.row r hr
 ·rw[Zcq];exact h.at h0 h1
theorem ZAN {V:Nat} {M:Mat} (h:Sq V M) {u w:Int} (h0:0≤u) (h1:u < V) (h2:0≤w) (h3:w < V) (a b:Int):hasM (addM u w M) a b=(hasM M a b || (decide (a=u) && decide (b=w))):=by
 unfold hasM;by_cases ha:0≤a
 ·simp only[ha,decide_true,H0];by_cases e:a=u
  ·subst e;have:rowM (addM a w M) a=put (rowM M a) w:=by
    have hl:a.toNat < M.length:=(by have:=h.len;omega);simp[rowM,addM,Hf,hl]
   rw[this,Zf5 h2 (by rw[h.at h0 h1];exact h3)];simp
  ·have:rowM (addM u w M) a=rowM M a:=by
    simp only[rowM,addM,Hf];rw[GN (by omega)]
   rw[this];simp[e]
 ·have:a≠u:=by omega
  simp[ha,this]
def Zk6 (null:List Bool) (c:Bool) (r:Rule):Nat→Mat→Mat
 | 0,M=>M
 | k+1,M=>bif ZdN null c r.right k then addM r.left (r.right.getD k 0) (Zk6 null c r k M) else Zk6 null c r k M
def matM (null:List Bool) (c:Bool):List Rule→Mat→Mat
 | [],M=>M
 | r::rs,M=>matM null c rs (Zk6 null c r r.right.length M)
theorem Zgp {null:List Bool} {c:Bool} {r:Rule} {V:Nat} {M:Mat} (h:Sq V M) (h0:0≤r.left) (h1:r.left < V) (hr:∀ w∈r.right,w < V):∀ k,k≤r.right.length→Sq V (Zk6 null c r k M)∧∀ a b,hasM (Zk6 null c r k M) a b=(hasM M a b || (decide (a=r.left) && decide (b∈Zp7 null c r.right k)))
 | 0,_=>⟨h,fun a b=>by simp[Zk6,Zp7]⟩
 | k+1,hk=>by
  obtain⟨i1,i2⟩:=Zgp h h0 h1 hr k (by omega);rw[Zk6,Zp7];cases hp:ZdN null c r.right k with
  | false=>refine⟨i1,fun a b=>?_⟩;simpa using i2 a b
  | true =>
   have hp':=hp;simp only[ZdN,Hr,HY] at hp';have hm:r.right.getD k 0 < V:=by
    rw[Hf,Hj (by omega)];exact hr _ (He _)
   refine⟨i1.add h0 h1,fun a b=>?_⟩;rw[Gb,ZAN i1 h0 h1 hp'.1 hm,i2,Hb rfl,Bool.or_assoc];congr 1;rw[←Bool.and_or_distrib_left];congr 1;rw[GS];simp
theorem Zk7 {null:List Bool} {c:Bool} {V:Nat}:∀ {rs:List Rule} {M:Mat},Sq V M→(∀ r∈rs,0≤r.left∧r.left < V∧∀ w∈r.right,w < V)→Sq V (matM null c rs M)∧∀ a b,hasM (matM null c rs M) a b=true↔hasM M a b=true∨∃ r∈rs,r.left=a∧b∈ZbX null c r.right
 | [],M,h,_=>⟨h,fun a b=>by simp[matM]⟩
 | r::rs,M,h,hr=>by
  obtain⟨a1,a2,a3⟩:=hr r (by simp);obtain⟨i1,i2⟩:=Zgp (null:=null) (c:=c) h a1 a2 a3 r.right.length (Hg _);obtain⟨j1,j2⟩:=Zk7 (null:=null) (c:=c) (rs:=rs) i1 (fun q hq=>hr q (by simp[hq]));refine⟨j1,fun a b=>?_⟩;rw[matM,j2,i2];simp only[Gi,Hr,HY,Gs,ZbX];constructor
  ·rintro ((h|⟨rfl,h⟩)|⟨q,hq,h⟩)
   ·exact .inl h
   ·exact .inr ⟨r,.inl rfl,rfl,h⟩
   ·exact .inr ⟨q,.inr hq,h⟩
  ·rintro (h|⟨q,rfl|hq,h⟩)
   ·exact .inl (.inl h)
   ·exact .inl (.inr ⟨h.1.symm,h.2⟩)
   ·exact .inr ⟨q,hq,h⟩
def orL (a b:List Bool):List Bool:=List.zipWith (· || ·) a b
theorem Zu2 {a b:List Bool} (h:a.length=b.length):(orL a b).length=a.length:=by simp[orL,h]
theorem Zyf {a b:List Bool} (h:a.length=b.length) (w:Int):has (orL a b) w=(has a w || has b w):=by
 unfold has orL;by_cases h0:0≤w
 ·simp only[h0,decide_true,H0,Hf,List.getElem?_zipWith];rcases Jk w.toNat a.length with hl|hl
  ·rw[Hj hl,Hj (by omega)];simp
  ·rw[HG hl,HG (by omega)];simp
 ·simp[h0]
theorem ZAO (a:List Bool):orL a a=a:=by
 refine GM (by simp[orL]) fun i h1 h2=>by simp[orL]
theorem ZCI {a b:List Bool} (h:a.length=b.length):setN (orL a b)=setN a ||| setN b:=by
 apply Nat.eq_of_testBit_eq;intro j;rw[Zcp,Nat.testBit_or,Zcp,Zcp,←ZbH,←ZbH,←ZbH,Zyf h]
def rowK (R:List Bool) (k:Nat) (row:List Bool):List Bool:=bif has row k then orL row R else row
def stepK (k:Nat) (M:Mat):Mat:=M.map (rowK (rowM M k) k)
def closeK:Nat→Mat→Mat
 | 0,M=>M
 | k+1,M=>stepK k (closeK k M)
theorem Sq.stepK {V k:Nat} {M:Mat} (h:Sq V M) (hk:k < V):Sq V (stepK k M):=by
 refine⟨by simpa[Proofs.YtbpmepgnjanhnaaGreat.stepK] using h.len,fun r hr=>?_⟩;obtain⟨q,hq,rfl⟩:=List.mem_map.1 hr;have h1:=h.row q hq;have h2:=h.at (u:=(k:Int)) (by omega) (by omega);unfold rowK;cases has q k with
 | true=>rw[Gb,Zu2 (by rw[h1,h2]),h1]
 | false=>exact h1
theorem ZiO {V k:Nat} {M:Mat} (h:Sq V M) (hk:k < V) (a b:Int):hasM (stepK k M) a b=(hasM M a b || (hasM M a k && hasM M k b)):=by
 unfold hasM;by_cases ha:0≤a
 ·have hk0:(0:Int)≤(k:Int):=by omega
  simp only[ha,hk0,decide_true,H0];rcases Jk a.toNat M.length with hl|hl
  ·have e:rowM (stepK k M) a=rowK (rowM M k) k (rowM M a):=by
    simp[rowM,Proofs.YtbpmepgnjanhnaaGreat.stepK,Hf,hl]
   have h1:=h.at (u:=a) ha (by have:=h.len;omega);have h2:=h.at (u:=(k:Int)) (by omega) (by omega);rw[e,rowK];cases has (rowM M a) k with
   | true=>rw[Gb,Zyf (by rw[h1,h2])];simp
   | false=>simp
  ·have e:rowM (stepK k M) a=rowM M a:=by
    simp only[rowM,Proofs.YtbpmepgnjanhnaaGreat.stepK,Hf];rw[HG (by simpa using hl),HG hl]
   have e2:rowM M a=[]:=by
    simp only[rowM,Hf];rw[HG hl];rfl
   have e3:has [] (k:Int)=false:=by simp[has]
   rw[e,e2,e3];simp
 ·simp[ha]
theorem Sq.closeK {V:Nat} {M:Mat} (h:Sq V M):∀ k,k≤V→Sq V (closeK k M)
 | 0,_=>h
 | k+1,hk=>(Sq.closeK h k (by omega)).stepK (by omega)
theorem Zg0 {V:Nat} {M:Mat} (h:Sq V M) {a b:Int} (hh:hasM M a b=true):∀ k,k≤V→hasM (closeK k M) a b=true
 | 0,_=>hh
 | k+1,hk=>by rw[closeK,ZiO (h.closeK k (by omega)) (by omega),Zg0 h hh k (by omega)];rfl
theorem Zjf {V:Nat} {M:Mat} (h:Sq V M):∀ k,k≤V→∀ (m:Nat),m < k→∀ a b,hasM (closeK k M) a m=true→hasM (closeK k M) m b=true→hasM (closeK k M) a b=true
 | 0,_,m,hm=>by omega
 | k+1,hk,m,hm=>by
  intro a b h1 h2;have ih:=Zjf h k (by omega);have hs:=ZiO (h.closeK k (by omega)) (k:=k) (by omega);simp only[closeK,hs,Gi,Hr] at h1 h2 ⊢;by_cases e:m=k
  ·subst e;have g1:hasM (Proofs.YtbpmepgnjanhnaaGreat.closeK m M) a m=true:=h1.elim id And.left;have g2:hasM (Proofs.YtbpmepgnjanhnaaGreat.closeK m M) m b=true:=h2.elim id And.right;exact .inr ⟨g1,g2⟩
  ·have hm':m < k:=by omega
   rcases h1 with h1|⟨h1,h1'⟩ <;> rcases h2 with h2|⟨h2,h2'⟩
   ·exact .inl (ih m hm' a b h1 h2)
   ·exact .inr ⟨ih m hm' a k h1 h2,h2'⟩
   ·exact .inr ⟨h1,ih m hm' k b h1' h2⟩
   ·exact .inr ⟨h1,h2'⟩
theorem Zjg {V:Nat} {M:Mat} (h:Sq V M):∀ k,k≤V→∀ (a:Int) (S:List Bool),(∀ w,hasM M a w=true→has S w=true)→(∀ u,has S u=true→∀ w,hasM M u w=true→has S w=true)→∀ w,hasM (closeK k M) a w=true→has S w=true
 | 0,_,a,S,h1,_,w,hw=>h1 w hw
 | k+1,hk,a,S,h1,h2,w,hw=>by
  have ih:=Zjg h k (by omega);rw[closeK,ZiO (h.closeK k (by omega)) (by omega),Gi,Hr] at hw;rcases hw with hw|⟨g1,g2⟩
  ·exact ih a S h1 h2 w hw
  ·exact ih k S (h2 k (ih a S h1 h2 k g1)) h2 w g2
def Zp8 (g:Ac):Mat:=List.replicate g.vars.toNat (Ze6 g)
theorem Zn8 (g:Ac):Sq g.vars.toNat (Zp8 g):=⟨by simp[Zp8],fun r hr=>by rw[(List.mem_replicate.1 hr).2,Zbk]⟩
theorem Zyg (g:Ac) (a b:Int):hasM (Zp8 g) a b=false:=by
 unfold hasM rowM Zp8;by_cases h:a.toNat < g.vars.toNat
 ·simp[Hf,JE,h,ZhR]
 ·simp[Hf,JE,h,has]
def oneM (c:Bool) (g:Ac):Mat:=matM (ZaZ false g) c g.Aa (Zp8 g)
def ledM (c:Bool) (g:Ac):Mat:=closeK g.vars.toNat (oneM c g)
theorem Zn9 {g:Ac} (hg:g.ok):∀ r∈g.Aa,0≤r.left∧r.left < (g.vars.toNat:Int)∧∀ w∈r.right,w < (g.vars.toNat:Int):=fun r hr=>by
 have:=hg.left0 r hr;have:=hg.left r hr;exact⟨by omega,by omega,fun w hw=>by have:=hg.hi r hr w hw;omega⟩
theorem ZrQ {c:Bool} {g:Ac} (hg:g.ok):Sq g.vars.toNat (oneM c g):=(Zk7 (Zn8 g) (Zn9 hg)).1
theorem ZjS {c:Bool} {g:Ac} (hg:g.ok) (u w:Int):hasM (oneM c g) u w=true↔w∈ZiN c g (ZaZ false g) u:=by
 rw[oneM,(Zk7 (Zn8 g) (Zn9 hg)).2,Zyg,ZiN,overBy_mem];simp
theorem Zg1 {c:Bool} {g:Ac} (hg:g.ok):Sq g.vars.toNat (ledM c g):=(ZrQ hg).closeK _ (Hg _)
theorem ZhU {c:Bool} {g:Ac} (hg:g.ok) {v:Int} (h0:0≤v) (h1:v < g.vars):Whole (ZiN c g (ZaZ false g)) (ZiN c g (ZaZ false g) v) (rowM (ledM c g) v):=by
 have hq:=ZrQ (c:=c) hg;have hr:∀ w,has (rowM (ledM c g) v) w=hasM (ledM c g) v w:=fun w=>by simp[hasM,h0]
 refine⟨fun w hw=>?_,fun u hu w hw=>?_,fun S hl hS1 hS2=>⟨hl.symm,fun w hw=>?_⟩⟩
 ·rw[hr];exact Zg0 hq ((ZjS hg _ _).2 hw) _ (Hg _)
 ·rw[hr] at hu ⊢;obtain⟨_,b1,b2⟩:=ZCH (Zg1 hg) hu;obtain⟨k,rfl⟩:∃ k:Nat,u=(k:Int):=⟨u.toNat,by omega⟩
  exact Zjf hq _ (Hg _) k (by omega) v w hu (Zg0 hq ((ZjS hg _ _).2 hw) _ (Hg _))
 ·rw[hr] at hw;exact Zjg hq _ (Hg _) v S (fun x hx=>hS1 x ((ZjS hg _ _).1 hx)) (fun u hu x hx=>hS2 u hu x ((ZjS hg _ _).1 hx)) w hw
mutual
def fsz:Ad→Nat
 | .mk _ _ l=>1+Aj l
def Aj:List Ad→Nat
 | []=>0
 | x::r=>fsz x+Aj r
end
theorem ZhV (x:Ad):fsz x=1+Aj x.l:=by cases x;rfl
theorem ZrR (x:Ad):1≤fsz x:=by rw[ZhV];omega
theorem Zbv:∀ (a b:List Ad),Aj (a++b)=Aj a+Aj b
 | [],b=>by simp[Aj]
 | x::a,b=>by simp only[Hv,Aj,Zbv a b];omega
theorem ZfA {x:Ad}:∀ {l:List Ad},x∈l→fsz x≤Aj l
 | y::l,h=>by
  simp only[Aj];rcases List.mem_cons.1 h with rfl|h
  ·omega
  ·have:=ZfA h;omega
theorem ZbY:∀ (l:List Ad),l.length≤Aj l
 | []=>by simp
 | x::l=>by have:=ZbY l;have:=ZrR x;simp only[Hl,Aj];omega
theorem ZhW {l:List Ad} {i:Nat} (h:i < l.length):Aj (l.take (i+1))=Aj (l.take i)+fsz l[i]:=by
 rw[HE h,Zbv];simp[Aj]
theorem Ze8 (l:List Ad) (i:Nat):Aj l=Aj (l.take i)+Aj (l.drop i):=by rw[←Zbv,Ge]
theorem Zyh {l:List Ad} {i:Nat} (h:i < l.length):Aj (l.drop i)=fsz l[i]+Aj (l.drop (i+1)):=by
 rw[Hw h,Aj]
mutual
def cpF:Ad→Nat
 | .mk o _ l=>1+(if o=1∨o=4 then cpL l else 0)
def cpL:List Ad→Nat
 | []=>0
 | x::r=>cpF x+cpL r
end
theorem Ztu (x:Ad):cpF x=1+(if x.op=1∨x.op=4 then cpL x.l else 0):=by cases x;rw[cpF];rfl
theorem Zdo:∀ (a b:List Ad),cpL (a++b)=cpL a+cpL b
 | [],b=>by simp[cpL]
 | x::a,b=>by simp only[Hv,cpL,Zdo a b];omega
theorem ZAP {l:List Ad} {i:Nat} (h:i < l.length):cpL (l.take (i+1))=cpL (l.take i)+cpF l[i]:=by
 rw[HE h,Zdo];simp[cpL]
mutual
theorem ZD2:∀ (x:Ad),cpF x≤fsz x
 | .mk o n l=>by have:=Zyi l;rw[cpF,fsz];split <;> omega
theorem Zyi:∀ (l:List Ad),cpL l≤Aj l
 | []=>Hg _
 | x::r=>by have:=ZD2 x;have:=Zyi r;simp only[cpL,Aj];omega
end
def bump (u:List Int) (n:Int):List Int:=u.set n.toNat (u.getD n.toNat 0+1)
mutual
def usF (m:Int):Ad→List Int→Bool×List Int
 | .mk o n l,u=>if o=1 then (if n < 0∨m≤n then (false,u) else usL m l u)
  else if o=2 then (if n < 0∨(u.length:Int)≤n then (false,u) else (true,bump u n))
  else if o=4 then (if n < 0∨(u.length:Int)≤n then (false,u) else usL m l (bump u n))
  else if o=3 then (true,u) else (false,u)
def usL (m:Int):List Ad→List Int→Bool×List Int
 | [],u=>(true,u)
 | x::r,u=>bif (usF m x u).1 then usL m r (usF m x u).2 else (false,(usF m x u).2)
end
theorem ZD3 (m:Int) (x:Ad) (u:List Int):usF m x u=if x.op=1 then (if x.n < 0∨m≤x.n then (false,u) else usL m x.l u)
  else if x.op=2 then (if x.n < 0∨(u.length:Int)≤x.n then (false,u) else (true,bump u x.n))
  else if x.op=4 then (if x.n < 0∨(u.length:Int)≤x.n then (false,u) else usL m x.l (bump u x.n))
  else if x.op=3 then (true,u) else (false,u):=by cases x;rw[usF];rfl
theorem ZAQ {m:Int} {l:List Ad} {i:Nat} {u:List Int} (h:i < l.length):usL m (l.drop i) u=bif (usF m l[i] u).1 then usL m (l.drop (i+1)) (usF m l[i] u).2 else (false,(usF m l[i] u).2):=by
 rw[Hw h,usL]
theorem Zdp (u:List Int) (n:Int):(bump u n).length=u.length:=by simp[bump]
def Upto (B:Nat) (u:List Int):Prop:=∀ x∈u,0≤x∧x≤B
theorem Upto.mono {B C:Nat} {u:List Int} (h:Upto B u) (hb:B≤C):Upto C u:=fun x hx=>⟨(h x hx).1,by have:=(h x hx).2;omega⟩
theorem Zp9 {u:List Int} {n:Int} {B:Nat} (h:Upto B u):Upto (B+1) (bump u n):=fun x hx=>by
 rcases GW hx with hx|rfl
 ·have:=h x hx;omega
 ·rw[Hf];by_cases hn:n.toNat < u.length
  ·rw[Hj hn];have:=h _ (He hn);simp;omega
  ·rw[HG (by omega)];simp;omega
mutual
theorem ZrS (m:Int):∀ (x:Ad) (u:List Int),(usF m x u).2.length=u.length
 | .mk o n l,u=>by
  have h1:=Zk8 m l u;have h2:=Zk8 m l (bump u n);rw[usF];rw[Zdp] at h2
  repeat' split
  all_goals first|rfl|assumption|exact Zdp u n
theorem Zk8 (m:Int):∀ (l:List Ad) (u:List Int),(usL m l u).2.length=u.length
 | [],u=>rfl
 | x::r,u=>by
  have h1:=ZrS m x u;have h2:=Zk8 m r (usF m x u).2;rw[usL];cases (usF m x u).1 with
  | true=>simpa using h2.trans h1
  | false=>simpa using h1
end
def ZbZ (old:Ac) (x:Tree):Bool:=!decide ((ZaA old x old.start).code=0) || decide (0 < (Zbm old x).length)
def ZhX (old:Ac) (l:List Ad) (right:List Int):Bool:=(usL old.Aa.length l (List.replicate (Ab right).length 0)).1 && (usL old.Aa.length l (List.replicate (Ab right).length 0)).2.all (fun x=>decide (x=1))
def Zax (old:Ac) (l:List Ad) (right:List Int):Int:=if 60 < cpL l then 6 else if ZhX old l right=true then 0 else 14
def Zee (old:Ac):List (List Ad)→List Rule→Nat→Zci
 | l::ls,r::rs,i=>if Zax old l r.right=0 then Zee old ls rs (i+1) else ⟨Zax old l r.right,i⟩
 | _,_,_=>⟨0,0⟩
def Zap (old:Ac) (s:Step):Zci :=
 if (Zac old).code=0 then
  if (Zac s.g).code=0 then
   if s.empty.length≤200 then
    if s.empty.any (ZbZ old)=true then ⟨13, -1⟩
    else if s.frags.length=s.g.Aa.length then Zee old s.frags s.g.Aa 0 else ⟨14, -1⟩
   else ⟨6, -1⟩
  else Zac s.g
 else Zac old
theorem ZrT {old:Ac} {ls:List (List Ad)} {rs:List Rule} {i:Nat} (h1:i < ls.length) (h2:i < rs.length):Zee old (ls.drop i) (rs.drop i) i=if Zax old ls[i] rs[i].right=0 then Zee old (ls.drop (i+1)) (rs.drop (i+1)) (i+1) else ⟨Zax old ls[i] rs[i].right,i⟩:=by
 rw[Hw h1,Hw h2,Zee]
theorem Zu3 {old:Ac} {ls:List (List Ad)} {rs:List Rule} {i:Nat} (h1:¬ i < ls.length):Zee old (ls.drop i) (rs.drop i) i=⟨0,0⟩:=by
 rw[HL (by omega),Zee];simp
structure Step.fit (s:Step):Prop where
 g:s.g.fit
 frags:s.frags.length≤100000000
 frag:∀ l∈s.frags,Aj l≤100000000
 tree:cnts s.empty≤100000000
theorem Step.fit.empty {s:Step} (h:s.fit):s.empty.length≤100000000:=Hq (Zco _) h.tree
theorem Step.fit.trees {s:Step} (h:s.fit):∀ x∈s.empty,cnt x≤100000000:=fun x hx=>Hq (Zbq hx) h.tree
def ZaE (k:Nat):List Ad:=(List.range k).map fun (i:Nat)=>Ad.mk 2 (i:Int) []
def ZaJ (r:Int) (k:Nat):List Ad:=[.mk 1 r (ZaE k)]
theorem Ao.fragE {h:Hp} {t u:Bool} {sz i off:Nat} {xs:List Ad} (hi:i < xs.length):Ao h (.eptr t sz (xs.map (ZaN u)) i off) (Zob u xs[i]) off []:=by
 have:=Ao.mapE (h:=h) (t:=t) (sz:=sz) (off:=off) (f:=ZaN u) hi
 rwa [Zcs] at this
theorem Ao.fragO {h:Hp} {u:Bool} {k m sz i off:Nat} {e:TypeId} {xs:List Ad} (hk:Ah h k=some (.row e sz (xs.map (ZaN u)))) (hm:(xs.map (ZaN u)).length=m) (hi:i < xs.length):Ao h (.optr k m i off) (Zob u xs[i]) off [(k,some (.row e sz (xs.map (ZaN u))))]:=by
 have:=Ao.mapO (f:=ZaN u) (off:=off) hk hm hi
 rwa [Zcs] at this
structure SP where
 vars:Int
 Aa:List Rule
 frags:List (List Ad)
 term:List Int
def SP.many (s:SP):Bool:=decide (64 < s.vars) || decide (160 < s.Aa.length)
def SP.rule (s:SP) (v:Int) (right:List Int) (l:List Ad):SP:=⟨s.vars,s.Aa++[⟨v,right⟩],s.frags++[l],s.term⟩
def SP.fresh (s:SP):SP:=⟨s.vars+1,s.Aa,s.frags,s.term⟩
def SP.lift (s:SP) (x:Int):SP:=if 0≤x then s else
 if s.term.getD (-1 - x).toNat 0 < 0 then ⟨s.vars+1,s.Aa++[⟨s.vars,[x]⟩],s.frags++[[]],s.term.set (-1 - x).toNat s.vars⟩ else s
def SP.lifted (s:SP) (x:Int):Int:=if 0≤x then x else (s.lift x).term.getD (-1 - x).toNat 0
def SP.lifts:SP→List Int→SP
 | s,[]=>s
 | s,x::r=>SP.lifts (s.lift x) r
def SP.lifteds:SP→List Int→List Int
 | _,[]=>[]
 | s,x::r=>s.lifted x::SP.lifteds (s.lift x) r
theorem SP.lifteds_length:∀ (s:SP) (l:List Int),(s.lifteds l).length=l.length
 | _,[]=>rfl
 | s,x::r=>by simp[SP.lifteds,SP.lifteds_length]
theorem SP.lifts_append:∀ (s:SP) (a b:List Int),s.lifts (a++b)=(s.lifts a).lifts b
 | _,[],_=>rfl
 | s,x::r,b=>by simp[SP.lifts,SP.lifts_append]
theorem SP.lifteds_append:∀ (s:SP) (a b:List Int),s.lifteds (a++b)=s.lifteds a++(s.lifts a).lifteds b
 | _,[],_=>rfl
 | s,x::r,b=>by simp[SP.lifts,SP.lifteds,SP.lifteds_append]
def ZeM (v:Int) (l:List Int):List Int:=(List.range (l.length - 2)).map (fun (i:Nat)=>v+(i:Int))++[l.getD (l.length - 1) 0]
def ZbQ:List Ad:=[.mk 2 0 [],.mk 2 1 []]
def Zjv (v:Int) (l rs:List Int):Nat→List Rule
 | 0=>[]
 | k+1=>Zjv v l rs k++[⟨if k=0 then v else rs.getD (k - 1) 0,[l.getD k 0,rs.getD k 0]⟩]
def ZhY (r:Int):Nat→List (List Ad)
 | 0=>[]
 | k+1=>ZhY r k++[if k=0 then [.mk 1 r ZbQ] else ZbQ]
theorem Zjh (v:Int) (l rs:List Int):∀ k,(Zjv v l rs k).length=k
 | 0=>rfl
 | k+1=>by simp[Zjv,Zjh v l rs k]
theorem Zji (r:Int):∀ k,(ZhY r k).length=k
 | 0=>rfl
 | k+1=>by simp[ZhY,Zji r k]
theorem Zjj (v:Int) {l:List Int} (h:2≤l.length):(ZeM v l).length=l.length - 1:=by simp[ZeM];omega
def SP.split (s:SP) (v r:Int) (right:List Int):SP :=
 ⟨(s.lifts right).vars+((right.length - 2:Nat):Int),(s.lifts right).Aa++Zjv v (s.lifteds right) (ZeM (s.lifts right).vars (s.lifteds right)) (right.length - 1),
  (s.lifts right).frags++ZhY r (right.length - 1),(s.lifts right).term⟩
def SP.one (s:SP) (r:Nat) (x:Rule):SP:=if x.right.length < 2 then s.rule x.left x.right (ZaJ r (Ab x.right).length) else s.split x.left r x.right
def ZbR:SP→List Rule→Nat→Except Nat SP
 | s,[],_=>.ok s
 | s,x::xs,i=>bif (s.one i x).many then .error i else ZbR (s.one i x) xs (i+1)
def Za0 (g:Ac):SP:=⟨g.vars,[],[],List.replicate g.terms.toNat (-1)⟩
def Ag:Step:=⟨⟨0,0,0,[]⟩,[],[]⟩
def Zc1 (g:Ac) (s:SP):Step:=⟨⟨s.vars,g.terms,g.start,s.Aa⟩,s.frags,[]⟩
def Zc2 (g:Ac):Step×Zci :=
 if (Zac g).code=0 then
  match ZbR (Za0 g) g.Aa 0 with
  | .ok s=>(Zc1 g s,⟨0,0⟩)
  | .error i=>(Ag,⟨6,i⟩)
 else (Ag,Zac g)
inductive All2 {α β:Type} (P:α→β→Prop):List α→List β→Prop
 | nil:All2 P [] []
 | cons {a:α} {b:β} {xs:List α} {ys:List β} (h:P a b) (r:All2 P xs ys):All2 P (a::xs) (b::ys)
theorem All2.append {α β:Type} {P:α→β→Prop} {a c:List α} {b d:List β} (h:All2 P a b) (k:All2 P c d):All2 P (a++c) (b++d):=by
 induction h with
 | nil=>exact k
 | cons h r ih=>exact .cons h ih
theorem All2.snoc {α β:Type} {P:α→β→Prop} {a:List α} {b:List β} {x:α} {y:β} (h:All2 P a b) (k:P x y):All2 P (a++[x]) (b++[y]):=h.append (.cons k .nil)
theorem All2.len {α β:Type} {P:α→β→Prop} {a:List α} {b:List β} (h:All2 P a b):a.length=b.length:=by
 induction h with
 | nil=>rfl
 | cons h r ih=>simp[ih]
abbrev ZfB (old:Ac) (ls:List (List Ad)) (rs:List Rule):Prop:=All2 (fun l r=>Zax old l r.right=0) ls rs
theorem Zqa {old:Ac} {ls:List (List Ad)} {rs:List Rule} (h:ZfB old ls rs):∀ i,Zee old ls rs i=⟨0,0⟩:=by
 induction h with
 | nil=>intro i;rw[Zee];simp
 | cons h r ih=>intro i;rw[Zee,Hb h];exact ih _
theorem Zk9 {old:Ac} {s:Step} (ho:old.ok) (hs:s.g.ok) (he:s.empty=[]) (h:ZfB old s.frags s.g.Aa):Zap old s=⟨0,0⟩:=by
 rw[Zap,Hb (by rw[ho.fault]),Hb (by rw[hs.fault]),he];simp only[HC,Hi,if_true,List.any_nil,if_false,Bool.false_eq_true];rw[Hb h.len,Zqa h]
theorem Zqb (m:Int):∀ (n i:Nat),usL m ((List.range' i n).map fun (j:Nat)=>Ad.mk 2 (j:Int) []) (List.replicate i 1++List.replicate n 0)=(true,List.replicate (i+n) 1)
 | 0,i=>by simp[usL]
 | n+1,i=>by
  rw[JF,Hm,usL];have e:usF m (.mk 2 (i:Int) []) (List.replicate i 1++List.replicate (n+1) 0)=(true,List.replicate (i+1) 1++List.replicate n 0):=by
   rw[usF,Ha (by decide),Hb rfl,Ha (by simp;omega)];congr 1;rw[bump];simp only[Hn];rw[G6,Hf,Gn (by simp),Jr _ _ (by simp)];simp[Jv]
  rw[e];simp only[Gb];rw[Zqb m n (i+1)];congr 2;omega
theorem ZjT (m:Int) (k:Nat):usL m (ZaE k) (List.replicate k 0)=(true,List.replicate k 1):=by
 have:=Zqb m k 0;rw[ZaE,List.range_eq_range'];simpa using this
theorem ZhZ:∀ (k:Nat),cpL (ZaE k)=k
 | 0=>rfl
 | k+1=>by rw[show ZaE (k+1)=ZaE k++[.mk 2 k []] by simp[ZaE,Gq],Zdo,ZhZ k];simp[cpL,cpF]
theorem Zla {old:Ac} {r:Nat} {right:List Int} (hr:r < old.Aa.length) (hk:(Ab right).length≤59):Zax old (ZaJ r (Ab right).length) right=0:=by
 have h1:cpL (ZaJ r (Ab right).length)=1+(Ab right).length:=by simp[ZaJ,cpL,cpF,ZhZ]
 have h2:usL old.Aa.length (ZaJ r (Ab right).length) (List.replicate (Ab right).length 0)=(true,List.replicate (Ab right).length 1):=by
  rw[ZaJ,usL,usF,Hb rfl,Ha (by omega),ZjT];simp[usL]
 rw[Zax,Ha (by omega),Hb];rw[ZhX,h2];simp
theorem ZAR {old:Ac} {x:Int} (hx:x < 0):Zax old [] [x]=0:=by
 rw[Zax,Ha (by simp[cpL]),Hb];rw[ZhX,ZnH hx];simp[usL]
theorem Zoa {a b:Int} (ha:0≤a) (hb:0≤b):(Ab [a,b]).length=2:=by simp[Ab,ha,hb]
theorem ZrU {old:Ac} {a b:Int} (ha:0≤a) (hb:0≤b):Zax old ZbQ [a,b]=0:=by
 rw[Zax,Ha (by simp[cpL,cpF,ZbQ]),Hb];have:=ZjT old.Aa.length 2;rw[ZhX,Zoa ha hb];rw[show ZbQ=ZaE 2 from rfl,this];decide
theorem Zu4 {old:Ac} {r:Nat} {a b:Int} (hr:r < old.Aa.length) (ha:0≤a) (hb:0≤b):Zax old [.mk 1 r ZbQ] [a,b]=0:=by
 have:=Zla (old:=old) (r:=r) (right:=[a,b]) hr (by rw[Zoa ha hb];omega)
 rwa [Zoa ha hb] at this
structure SP.fit (g:Ac) (s:SP):Prop where
 vars:g.vars≤s.vars
 left:∀ r∈s.Aa,0≤r.left∧r.left < s.vars
 sym:∀ r∈s.Aa,∀ x∈r.right, -g.terms≤x∧x < s.vars
 two:∀ r∈s.Aa,r.right.length≤2∧(r.right.length=2→∀ x∈r.right,0≤x)
 parts:ZfB g s.frags s.Aa
 tlen:(s.term.length:Int)=g.terms
 term:∀ x∈s.term,x < s.vars
theorem SP.fit.rule {g:Ac} {s:SP} (h:s.fit g) {v:Int} {right:List Int} {l:List Ad} (h1:0≤v∧v < s.vars) (h2:∀ x∈right, -g.terms≤x∧x < s.vars) (h3:right.length≤2∧(right.length=2→∀ x∈right,0≤x)) (h4:Zax g l right=0):(s.rule v right l).fit g:=by
 refine⟨h.vars,?_,?_,?_,h.parts.snoc h4,h.tlen,h.term⟩ <;>
 ·intro r hr;rcases List.mem_append.1 hr with hr|hr
  ·first|exact h.left r hr|exact h.sym r hr|exact h.two r hr
  ·rw[List.mem_singleton.1 hr];first|exact h1|exact h2|exact h3
theorem SP.fit.grow {g:Ac} {s:SP} (h:s.fit g) {n:Int} (hn:0≤n):SP.fit g ⟨s.vars+n,s.Aa,s.frags,s.term⟩ :=
 ⟨by have:=h.vars;dsimp only;omega,fun r hr=>by have:=h.left r hr;dsimp only;omega,fun r hr x hx=>by have:=h.sym r hr x hx;dsimp only;omega,h.two,h.parts,h.tlen,fun x hx=>by have:=h.term x hx;dsimp only;omega⟩
theorem SP.lift_term {s:SP} {x:Int}:(s.lift x).term.length=s.term.length:=by
 rw[SP.lift];split
 ·rfl
 ·split <;> simp
theorem SP.fit.lift {g:Ac} {s:SP} (hg:g.ok) (h:s.fit g) {x:Int} (hx : -g.terms≤x∧x < s.vars):(s.lift x).fit g∧s.vars≤(s.lift x).vars∧0≤s.lifted x∧s.lifted x < (s.lift x).vars:=by
 have hv:=h.vars;have hv1:=hg.vars1;have hv2:=hg.terms0;by_cases h0:0≤x
 ·have e:s.lift x=s:=by rw[SP.lift,Hb h0]
  rw[e];refine⟨h,G1 _,?_,?_⟩ <;> rw[SP.lifted,Hb h0]
  ·exact h0
  ·exact hx.2
 ·have hl:(-1 - x).toNat < s.term.length:=by have:=h.tlen;omega
  by_cases h1:s.term.getD (-1 - x).toNat 0 < 0
  ·have e:s.lift x=⟨s.vars+1,s.Aa++[⟨s.vars,[x]⟩],s.frags++[[]],s.term.set (-1 - x).toNat s.vars⟩:=by rw[SP.lift,Ha h0,Hb h1]
   have e2:s.lifted x=s.vars:=by
    rw[SP.lifted,Ha h0,e];simp only[Hf];rw[G8 hl];rfl
   rw[e2,e];have k:=(h.grow (n:=1) (by decide)).rule (v:=s.vars) (right:=[x]) (l:=[]) (by dsimp only;omega) (fun y hy=>by rw[List.mem_singleton.1 hy];dsimp only;omega) ⟨by simp,by simp⟩ (ZAR (by omega));refine⟨⟨k.vars,k.left,k.sym,k.two,k.parts,by have:=h.tlen;simpa using this,fun y hy=>?_⟩,by dsimp only;omega,by omega,by dsimp only;omega⟩;rcases GW hy with hy|rfl
   ·have:=h.term y hy;dsimp only;omega
   ·dsimp only;omega
  ·have e:s.lift x=s:=by rw[SP.lift,Ha h0,Ha h1]
   have e2:s.lifted x=s.term.getD (-1 - x).toNat 0:=by rw[SP.lifted,Ha h0,e]
   rw[e2,e];refine⟨h,G1 _,by omega,?_⟩;rw[Hf,Hj hl];exact h.term _ (He hl)
theorem SP.fit.lifts {g:Ac} (hg:g.ok):∀ {l:List Int} {s:SP},s.fit g→(∀ x∈l, -g.terms≤x∧x < g.vars)→(s.lifts l).fit g∧s.vars≤(s.lifts l).vars∧∀ y∈s.lifteds l,0≤y∧y < (s.lifts l).vars
 | [],s,h,_=>⟨h,G1 _,fun y hy=>by simp[SP.lifteds] at hy⟩
 | x::l,s,h,hx=>by
  have hv:=h.vars;have h0:=hx x (by simp);obtain⟨k1,k2,k3,k4⟩:=h.lift hg (x:=x) ⟨h0.1,by omega⟩;obtain⟨j1,j2,j3⟩:=SP.fit.lifts hg (l:=l) k1 (fun y hy=>hx y (by simp[hy]));refine⟨j1,by rw[SP.lifts];omega,fun y hy=>?_⟩;rw[SP.lifteds] at hy;rw[SP.lifts];rcases List.mem_cons.1 hy with rfl|hy
  ·exact⟨k3,by omega⟩
  ·exact j3 y hy
theorem Zyj {v:Int} {l:List Int} {N:Int} (hl:2≤l.length) (h0:0≤v) (hN:∀ y∈l,0≤y∧y < N) (hv:v+((l.length - 2:Nat):Int)≤N):∀ y∈ZeM v l,0≤y∧y < N:=by
 intro y hy;rw[ZeM] at hy;rcases List.mem_append.1 hy with hy|hy
 ·obtain⟨i,hi,rfl⟩:=List.mem_map.1 hy;have:=List.mem_range.1 hi;omega
 ·rw[List.mem_singleton.1 hy,Hf,Hj (by omega)];exact hN _ (He _)
theorem ZjU {l:List Int} {k:Nat} (h:k < l.length):l.getD k 0∈l:=by rw[Hf,Hj h];exact He h
theorem SP.fit.pairs {g:Ac} {s:SP} (h:s.fit g) {v:Int} {r:Nat} {l rs:List Int} (hr:r < g.Aa.length) (hv:0≤v∧v < s.vars) (h1:∀ y∈l,0≤y∧y < s.vars) (h2:∀ y∈rs,0≤y∧y < s.vars) (ht:0≤g.terms):∀ k,k≤l.length→k≤rs.length→SP.fit g ⟨s.vars,s.Aa++Zjv v l rs k,s.frags++ZhY r k,s.term⟩
 | 0,_,_=>by simpa[Zjv,ZhY] using h
 | k+1,hk,hk'=>by
  have ih:=SP.fit.pairs h hr hv h1 h2 ht k (by omega) (by omega);have a1:=h1 _ (ZjU (l:=l) (k:=k) (by omega));have a2:=h2 _ (ZjU (l:=rs) (k:=k) (by omega));have:=ih.rule (v:=if k=0 then v else rs.getD (k - 1) 0) (right:=[l.getD k 0,rs.getD k 0]) (l:=if k=0 then [.mk 1 r ZbQ] else ZbQ) (by
    split
    ·exact hv
    ·exact h2 _ (ZjU (by omega))) (fun x hx=>by
    simp only[Gs,GA,or_false] at hx;rcases hx with rfl|rfl <;> dsimp only <;> omega) ⟨by simp,fun _ x hx=>by
    simp only[Gs,GA,or_false] at hx;rcases hx with rfl|rfl <;> omega⟩ (by
    split
    ·exact Zu4 hr a1.1 a2.1
    ·exact ZrU a1.1 a2.1)
  simpa[SP.rule,Zjv,ZhY,HJ] using this
theorem SP.fit.one {g:Ac} {s:SP} (hg:g.ok) (h:s.fit g) {i:Nat} (hi:i < g.Aa.length) {x:Rule} (hx:ZaX g x=0):(s.one i x).fit g:=by
 obtain⟨h1,h2,h3,h4⟩:=Zb4 hx;have hv:=h.vars;rw[SP.one];split
 ·rename_i hl;refine h.rule ⟨h2,by omega⟩ (fun y hy=>by have:=h4 y hy;omega) ⟨by omega,by omega⟩ (Zla hi ?_);have:=Zbi x.right;omega
 ·rename_i hl;obtain⟨k1,k2,k3⟩:=SP.fit.lifts hg h h4;have hle:=SP.lifteds_length s x.right;have hk:=hg.vars1;have hr2:=Zjj (v:=(s.lifts x.right).vars) (l:=s.lifteds x.right) (by omega);have:=(k1.grow (n:=((x.right.length - 2:Nat):Int)) (by omega)).pairs (v:=x.left) (l:=s.lifteds x.right) (rs:=ZeM (s.lifts x.right).vars (s.lifteds x.right)) hi (by dsimp only;omega) (fun y hy=>by have:=k3 y hy;dsimp only;omega)
   (Zyj (by omega) (by omega) (fun y hy=>by have:=k3 y hy;dsimp only;omega) (by dsimp only;rw[hle];omega)) hg.terms0 (x.right.length - 1) (by omega) (by omega)
  exact this
theorem ZiP {g:Ac} (hg:g.ok):∀ {rs:List Rule} {s s':SP} {i:Nat},s.fit g→s.many=false→(∀ r∈rs,ZaX g r=0)→i+rs.length≤g.Aa.length→ZbR s rs i=.ok s'→s'.fit g∧s'.many=false
 | [],s,s',i,h,hm,_,_,e=>by rw[ZbR] at e;cases e;exact⟨h,hm⟩
 | x::rs,s,s',i,h,hm,hr,hi,e=>by
  rw[ZbR] at e;simp only[Hl] at hi;cases hc:(s.one i x).many with
  | true=>rw[hc] at e;cases e
  | false =>
   rw[hc] at e;exact ZiP hg (h.one hg (by omega) (hr x (by simp))) hc (fun r h=>hr r (by simp[h])) (by omega) e
theorem Zdt {g:Ac} (hg:g.ok):(Za0 g).fit g∧(Za0 g).many=false:=by
 have h1:=hg.terms0;have h2:=hg.vars;have h3:=hg.vars1;refine⟨⟨G1 _,fun r hr=>by simp[Za0] at hr,fun r hr=>by simp[Za0] at hr,fun r hr=>by simp[Za0] at hr,.nil,(by show ((List.replicate g.terms.toNat (-1:Int)).length:Int)=g.terms;rw[HM];omega),fun x hx=>?_⟩,?_⟩
 ·rw[(List.mem_replicate.1 hx).2];show (-1:Int) < g.vars;omega
 ·simp only[SP.many,Ju,G0];exact⟨by show ¬ (64 < g.vars);omega,by show ¬ 160 < 0;omega⟩
theorem Ac.ok.rule {g:Ac} (h:g.ok) {r:Rule} (hr:r∈g.Aa):ZaX g r=0:=by
 unfold ZaX;rw[Ha (by have:=h.right r hr;omega),Ha];simp only[not_or];refine⟨by have:=h.left0 r hr;omega,by have:=h.left r hr;omega,?_⟩;simp only[G9,JH];intro s hs;have:=h.lo r hr s hs;have:=h.hi r hr s hs;simp[Ze0];omega
theorem ZrV {s:SP} (h:s.many=false):s.vars≤64∧s.Aa.length≤160:=by
 simp only[SP.many,Ju,G0] at h;omega
theorem Zjk (g:Ac):((Zac g).code≠0∧Zc2 g=(Ag,Zac g))∨(∃ i,Zc2 g=(Ag,⟨6,(i:Nat)⟩)) ∨
  ∃ s,g.ok∧ZbR (Za0 g) g.Aa 0=.ok s∧Zc2 g=(Zc1 g s,⟨0,0⟩):=by
 by_cases h:(Zac g).code=0
 ·rw[Zc2,Hb h];cases hc:ZbR (Za0 g) g.Aa 0 with
  | ok s=>exact .inr (.inr ⟨s,Zbe h,rfl,rfl⟩)
  | error i=>exact .inr (.inl ⟨i,rfl⟩)
 ·rw[Zc2,Ha h];exact .inl ⟨h,rfl⟩
theorem Zlb {g:Ac} (hg:g.ok) {s:SP} (hc:ZbR (Za0 g) g.Aa 0=.ok s):(Zc1 g s).g.ok∧Zap g (Zc1 g s)=⟨0,0⟩∧∀ r∈s.Aa,r.right.length≤2∧(r.right.length=2→∀ x∈r.right,0≤x):=by
 obtain⟨h1,h2⟩:=Zdt hg;obtain⟨h3,h4⟩:=ZiP hg h1 h2 (fun r hr=>hg.rule hr) (by omega) hc;obtain⟨h5,h6⟩:=ZrV h4;have a1:=h3.vars;have a2:=hg.vars1;have a3:=hg.start;have hok:(Zc1 g s).g.ok:=⟨by show 1≤s.vars;omega,h5,hg.terms0,hg.terms,hg.start0,by show g.start < s.vars;omega,h6,fun r hr=>by have:=(h3.two r hr).1;omega,
  fun r hr=>(h3.left r hr).1,fun r hr=>(h3.left r hr).2,fun r hr x hx=>(h3.sym r hr x hx).1,fun r hr x hx=>(h3.sym r hr x hx).2⟩
 exact⟨hok,Zk9 hg hok rfl h3.parts,h3.two⟩
end Go.Proofs.YtbpmepgnjanhnaaGreat
