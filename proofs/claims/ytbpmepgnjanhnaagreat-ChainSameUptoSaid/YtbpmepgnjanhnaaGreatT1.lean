import Derived.Test.YtbpmepgnjanhnaaGreatQS5
set_option linter.unusedVariables false
set_option linter.unusedSimpArgs false
set_option linter.unusedSectionVars false
namespace Go.Proofs.YtbpmepgnjanhnaaGreat
open Go.RowKit
structure Ac.ok (g:Ac):Prop where
 vars1:1≤g.vars
 vars:g.vars≤64
 terms0:0≤g.terms
 terms:g.terms≤16
 start0:0≤g.start
 start:g.start < g.vars
 Aa:g.Aa.length≤160
 right:∀ r∈g.Aa,r.right.length≤10
 left0:∀ r∈g.Aa,0≤r.left
 left:∀ r∈g.Aa,r.left < g.vars
 lo:∀ r∈g.Aa,∀ s∈r.right, -g.terms≤s
 hi:∀ r∈g.Aa,∀ s∈r.right,s < g.vars
theorem Zb5 {g:Ac} {r:Rule} (h:ZaX g r=0):r.right.length≤10∧0≤r.left∧r.left < g.vars∧∀ s∈r.right, -g.terms≤s∧s < g.vars:=by
 unfold ZaX at h;split at h
 ·cases h
 ·split at h
  ·cases h
  ·rename_i h1 h2;simp only[not_or] at h2;refine⟨by omega,by omega,by omega,fun s hs=>?_⟩;have h3:=h2.2.2;simp only[Jb,JJ] at h3;have:=h3 s hs;simp[ZeT] at this;omega
theorem ZlJ {g:Ac}:∀ {rs:List Rule} {i:Nat},(Zey g rs i).code=0→∀ r∈rs,ZaX g r=0
 | [],_,_,r,hr=>by cases hr
 | q::rs,i,h,r,hr=>by
  rw[Zey] at h;split at h
  ·rename_i h0;rcases List.mem_cons.1 hr with rfl|hr
   ·exact h0
   ·exact ZlJ h r hr
  ·rename_i h0;exact absurd h h0
theorem ZqT {g:Ac}:∀ {rs:List Rule} {i:Nat},(∀ r∈rs,ZaX g r=0)→Zey g rs i=⟨0,0⟩
 | [],_,_=>rfl
 | q::rs,i,h=>by
  rw[Zey,Hb (h q (by simp))];exact ZqT (fun r hr=>h r (by simp[hr]))
theorem Zbd {g:Ac} (h:(Zac g).code=0):g.ok:=by
 unfold Zac at h;split at h
 ·rename_i hh;split at h
  ·cases h
  ·have hz:=ZlJ h;obtain⟨a1,a2,a3,a4,a5,a6⟩:=hh;exact⟨a1,a2,a3,a4,a5,a6,by omega,fun r hr=>(Zb5 (hz r hr)).1,fun r hr=>(Zb5 (hz r hr)).2.1,fun r hr=>(Zb5 (hz r hr)).2.2.1,
    fun r hr s hs=>((Zb5 (hz r hr)).2.2.2 s hs).1,fun r hr s hs=>((Zb5 (hz r hr)).2.2.2 s hs).2⟩
 ·cases h
theorem Ac.ok.fault {g:Ac} (h:g.ok):Zac g=⟨0,0⟩:=by
 unfold Zac;rw[Hb ⟨h.vars1,h.vars,h.terms0,h.terms,h.start0,h.start⟩,Ha (by have:=h.Aa;omega)];refine ZqT (fun r hr=>?_);unfold ZaX;rw[Ha (by have:=h.right r hr;omega),Ha];simp only[not_or];refine⟨by have:=h.left0 r hr;omega,by have:=h.left r hr;omega,?_⟩;simp only[Jb,JJ];intro s hs;have:=h.lo r hr s hs;have:=h.hi r hr s hs;simp[ZeT];omega
theorem Zfd {g:Ac} (h:(Zac g).code=0):Zac g=⟨0,0⟩:=(Zbd h).fault
theorem Ac.ok.fit {g:Ac} (h:g.ok):g.fit:=⟨by have:=h.Aa;omega,fun r hr=>by have:=h.right r hr;omega⟩
theorem ZgA (g:Ac) (x:Tree):Zbo g x=wordL g ((g.Aa[x.rule.toNat]?).getD ⟨0,[]⟩).right x.Ab:=by cases x;rw[Zbo];rfl
theorem Zbe (g:Ac) (k:List Tree):wordL g [] k=[]:=by rw[wordL.eq_def]
theorem Zbi {g:Ac} {s:Int} (h:s < 0) (ss:List Int) (k:List Tree):wordL g (s::ss) k=(-1 - s)::wordL g ss k:=by rw[wordL.eq_def];simp[h]
theorem Za2 {g:Ac} {s:Int} (h:¬ s < 0) (ss:List Int) (x:Tree) (k:List Tree):wordL g (s::ss) (x::k)=Zbo g x++wordL g ss k:=by rw[wordL.eq_def];simp[h]
theorem ZdJ {g:Ac} {s:Int} (h:¬ s < 0) (ss:List Int):wordL g (s::ss) []=wordL g ss []:=by rw[wordL.eq_def];simp[h]
theorem Zzm {g:Ac} {l:List Int} {k:List Tree} {j:Nat} (h:j < l.length) (hs:l[j] < 0):wordL g (l.drop j) k=(-1 - l[j])::wordL g (l.drop (j+1)) k:=by
 rw[Hw h,Zbi hs]
theorem Zzn {g:Ac} {l:List Int} {k:List Tree} {j q:Nat} (h:j < l.length) (hs:¬ l[j] < 0) (hq:q < k.length):wordL g (l.drop j) (k.drop q)=Zbo g k[q]++wordL g (l.drop (j+1)) (k.drop (q+1)):=by
 rw[Hw h,Hw hq,Za2 hs]
theorem Zzo {g:Ac} {l:List Int} {k:List Tree} {j:Nat} (h:¬ j < l.length):wordL g (l.drop j) k=[]:=by
 rw[HL (by omega),Zbe]
theorem Zbv {g:Ac}:∀ {k:List Tree} {vs:List Int},fitss g k vs=true→∀ {q:Nat} (h1:q < k.length) (h2:q < vs.length),fits g k[q] vs[q]=true
 | [],_,_,q,h1,_=>by simp at h1
 | _::_,[],_,q,_,h2=>by simp at h2
 | x::k,v::vs,h,q,h1,h2=>by
  simp only[fitss,Hr] at h
  match q with
  | 0=>exact h.1
  | q+1=>exact Zbv h.2 (by simpa using h1) (by simpa using h2)
theorem ZaR {g:Ac} {x:Tree} {v:Int} (h:fits g x v=true):∃ i:Nat,∃ hi:i < g.Aa.length,x.rule=(i:Int)∧g.Aa[i].left=v∧(Ab g.Aa[i].right).length=x.Ab.length∧fitss g x.Ab (Ab g.Aa[i].right)=true∧Zbo g x=wordL g g.Aa[i].right x.Ab:=by
 have h':=h;rw[Zf1] at h;by_cases h0:0≤x.rule
 ·rw[Hb h0] at h;cases hg:g.Aa[x.rule.toNat]? with
  | none=>rw[hg] at h;cases h
  | some ru =>
   rw[hg] at h;obtain⟨hi,rfl⟩:=List.getElem?_eq_some_iff.1 hg;simp only[Hr,HZ] at h;refine⟨x.rule.toNat,hi,by omega,h.1,h.2.1,h.2.2,?_⟩;rw[ZgA,hg];rfl
 ·rw[Ha h0] at h;cases h
mutual
theorem Zj2 {g:Ac} (R:Nat) (hR:∀ r∈g.Aa,r.right.length≤R):∀ (x:Tree),(Zbo g x).length≤R * cnt x
 | .mk r k=>by
  rw[Zbo];have h:=Zj3 R hR ((g.Aa[r.toNat]?).getD ⟨0,[]⟩).right k;have h2:((g.Aa[r.toNat]?).getD ⟨0,[]⟩).right.length≤R:=by
   cases hg:g.Aa[r.toNat]? with
   | none=>simp
   | some ru=>obtain⟨hi,rfl⟩:=List.getElem?_eq_some_iff.1 hg;exact hR _ (He hi)
  simp only[cnt];rw[Jj];omega
 termination_by x=>(cnt x,0)
 decreasing_by simp[cnt,Prod.lex_def]
theorem Zj3 {g:Ac} (R:Nat) (hR:∀ r∈g.Aa,r.right.length≤R):∀ (ss:List Int) (k:List Tree),(wordL g ss k).length≤ss.length+R * cnts k
 | [],k=>by simp[Zbe]
 | s::ss,k=>by
  by_cases hs:s < 0
  ·have:=Zj3 R hR ss k;rw[Zbi hs];simp only[Hl];omega
  ·match k with
   | x::k =>
    have h1:=Zj2 R hR x;have h2:=Zj3 R hR ss k;rw[Za2 hs];simp only[Hk,Hl,cnts,Jj];omega
   | [] =>
    have h2:=Zj3 R hR ss [];rw[ZdJ hs];simp only[Hl];omega
 termination_by ss k=>(cnts k,ss.length+1)
 decreasing_by all_goals (simp[cnts,Prod.lex_def];try omega)
end
def ZaB (g:Ac) (x:Tree) (v:Int):Zcf:=if (Zac g).code=0 then (if cnt x≤400 then (if fits g x v=true then ⟨0,0⟩ else ⟨13, -1⟩) else ⟨6, -1⟩) else Zac g
theorem ZqU {xs:List Int} {j:Nat} (h:j < xs.length) (hs:¬ xs[j] < 0):(Ab (xs.take j)).length < (Ab xs).length:=by
 have e:xs=xs.take j++xs.drop j:=by simp
 have e2:Ab xs=Ab (xs.take j)++Ab (xs.drop j):=(Hy Ab e).trans (by simp only[Ab,GS]);rw[e2,Hk,Hw h];have:Ab (xs[j]::xs.drop (j+1))=xs[j]::Ab (xs.drop (j+1)):=by simp only[Ab];rw[Gr (by simp;omega)]
 rw[this];simp
def Zzp (g:Ac) (x:Tree):List Int:=if (ZaB g x g.start).code=0 then Zbo g x else []
theorem ZgO {g:Ac} {x:Tree} {v:Int} (h:(ZaB g x v).code=0):g.ok∧cnt x≤400∧fits g x v=true∧ZaB g x v=⟨0,0⟩:=by
 unfold ZaB at h ⊢;split at h
 ·rename_i h0;rw[Hb h0];split at h
  ·rename_i h1;rw[Hb h1];split at h
   ·rename_i h2;rw[Hb h2];exact⟨Zbd h0,h1,h2,rfl⟩
   ·cases h
  ·cases h
 ·rename_i h0;exact absurd h h0
def setN:List Bool→Nat
 | []=>0
 | b::r=>b.toNat+2 * setN r
theorem Zzq:∀ (l:List Bool),setN l < 2 ^ l.length
 | []=>by simp[setN]
 | b::r=>by
  have:=Zzq r;have:b.toNat≤1:=Bool.toNat_le b
  simp only[setN,Hl,Nat.pow_succ];omega
theorem Zdf {l:List Bool} (h:l.length≤64):setN l < 18446744073709551616 :=
 Gm (Zzq l) (Hq (Nat.pow_le_pow_right (by decide) h) (by decide))
theorem Zct:∀ (l:List Bool) (i:Nat),(setN l).testBit i=l.getD i false
 | [],i=>by simp[setN]
 | b::r,0=>by cases b <;> simp[setN,Nat.testBit_zero] <;> omega
 | b::r,i+1=>by
  rw[Nat.testBit_succ,setN];have e:(b.toNat+2 * setN r) / 2=setN r:=by have:b.toNat≤1:=Bool.toNat_le b;omega
  rw[e,Zct r i];simp
theorem ZBI {a b:List Bool} (hl:a.length=b.length) (h:setN a=setN b):a=b:=by
 refine GP hl fun i h1 h2=>?_
 have e1:=Zct a i;have e2:=Zct b i;rw[h,e2] at e1;simpa[Hf,h1,h2] using e1.symm
theorem ZBJ {l:List Bool} {i:Nat} (h:i < l.length):setN (l.set i true)=setN l ||| (1 <<< i):=by
 apply Nat.eq_of_testBit_eq;intro j;rw[Zct,Nat.testBit_or,Zct,Nat.one_shiftLeft,Nat.testBit_two_pow];simp only[Hf,JA];by_cases e:i=j
 ·subst e;simp[h]
 ·simp[e]
theorem Zj4 (n:Nat):setN (List.replicate n false)=0:=by
 induction n with
 | zero=>rfl
 | succ n ih=>simp[G7,setN,ih]
def has (is:List Bool) (v:Int):Bool:=decide (0≤v) && is.getD v.toNat false
def put (is:List Bool) (v:Int):List Bool:=is.set v.toNat true
theorem Zcu (is:List Bool) (v:Int):(put is v).length=is.length:=by simp[put]
theorem ZbH (is:List Bool) (k:Nat):has is k=is.getD k false:=by simp[has]
theorem Zgg {is:List Bool} {v:Int} (h0:0≤v) (h1:v < is.length) (u:Int):has (put is v) u=(has is u || decide (u=v)):=by
 unfold has put;by_cases hu:0≤u
 ·simp only[hu,decide_true,H5,Hf,JA];by_cases e:u=v
  ·subst e;rw[Hb rfl,Hb (by omega)];simp
  ·rw[Ha (by omega)];simp[e]
 ·have:u≠v:=by omega
  simp[hu,this]
theorem Zfe {is:List Bool} {v:Int} (h:has is v=true):0≤v∧v < is.length:=by
 simp only[has,Hr,HZ] at h;refine⟨h.1,?_⟩;rcases Jh v.toNat is.length with h1|h1
 ·omega
 ·rw[Hf,HI h1] at h;simp at h
theorem ZDA {a b:List Bool} (hl:a.length=b.length) (h:∀ v,has a v=has b v):a=b:=by
 refine GP hl fun i h1 h2=>?_
 have:=h i;rw[ZbH,ZbH] at this;simpa[Hf,h1,h2] using this
structure Sub (a b:List Bool):Prop where
 len:a.length=b.length
 sub:∀ v,has a v=true→has b v=true
theorem Sub.refl (a:List Bool):Sub a a:=⟨rfl,fun _ h=>h⟩
theorem Sub.trans {a b c:List Bool} (h:Sub a b) (k:Sub b c):Sub a c:=⟨h.len.trans k.len,fun v hv=>k.sub v (h.sub v hv)⟩
theorem Sub.anti {a b:List Bool} (h:Sub a b) (k:Sub b a):a=b:=ZDA h.len fun v=>by
 rw[GX];exact⟨h.sub v,k.sub v⟩
theorem Sub.put {is:List Bool} {v:Int} (h0:0≤v):Sub is (put is v):=by
 refine⟨by simp[Proofs.YtbpmepgnjanhnaaGreat.put],fun u hu=>?_⟩;by_cases h1:v < is.length
 ·rw[Zgg h0 h1,hu];rfl
 ·rw[Proofs.YtbpmepgnjanhnaaGreat.put,List.set_eq_of_length_le (by omega)];exact hu
theorem ZsC {a b:List Bool} (h:Sub a b) {v:Int} (hv:has b v=true):Sub (put a v) b:=by
 obtain⟨h0,h1⟩:=Zfe hv;refine⟨by rw[Zcu];exact h.len,fun u hu=>?_⟩;rw[Zgg h0 (by have:=h.len;omega),Gj,HZ] at hu;rcases hu with hu|rfl
 ·exact h.sub u hu
 ·exact hv
def cntB:List Bool→Nat
 | []=>0
 | b::r=>b.toNat+cntB r
theorem ZsD:∀ (l:List Bool),cntB l≤l.length
 | []=>Hg _
 | b::r=>by have:=ZsD r;have:b.toNat≤1:=Bool.toNat_le b;simp only[cntB,Hl];omega
theorem Zuf:∀ {a b:List Bool},Sub a b→cntB a≤cntB b∧(cntB a=cntB b→a=b)
 | [],[],_=>⟨Hg _,fun _=>rfl⟩
 | [],y::b,h=>by have:=h.len;simp at this
 | x::a,[],h=>by have:=h.len;simp at this
 | x::a,y::b,h=>by
  have h1:Sub a b:=⟨by simpa using h.len,fun v hv=>by
   obtain⟨h0,hl⟩:=Zfe hv;obtain⟨k,rfl⟩:∃ k:Nat,v=(k:Int):=⟨v.toNat,by omega⟩
   have:=h.sub ((k+1:Nat):Int) (by rw[ZbH];rw[ZbH] at hv;simpa using hv);rw[ZbH] at this ⊢;simpa using this⟩
  have h2:x=true→y=true:=fun hx=>by
   have:=h.sub ((0:Nat):Int) (by rw[ZbH];simpa using hx);rw[ZbH] at this;simpa using this
  obtain⟨k1,k2⟩:=Zuf h1;cases x <;> cases y <;> simp_all [cntB] <;> omega
theorem Sub.grows {a b:List Bool} (h:Sub a b) (hne:a≠b):cntB a < cntB b:=by
 obtain⟨h1,h2⟩:=Zuf h;rcases Jh (cntB a) (cntB b) with h3|h3
 ·exact h3
 ·exact absurd (h2 (by omega)) hne
def iter {α:Type} (f:α→α):Nat→α→α
 | 0,x=>x
 | n+1,x=>iter f n (f x)
theorem ZoT {α:Type} {f:α→α} {x:α} (h:f x=x):∀ n,iter f n x=x
 | 0=>rfl
 | n+1=>by rw[iter,h];exact ZoT h n
theorem ZqV {α:Type} {f:α→α}:∀ (n:Nat) (x:α),iter f n (f x)=f (iter f n x)
 | 0,_=>rfl
 | n+1,x=>by rw[iter,iter,ZqV n]
theorem ZqW {f:List Bool→List Bool} (hs:∀ x,Sub x (f x)):∀ (n:Nat) (x:List Bool),x.length≤cntB x+n→f (iter f n x)=iter f n x
 | 0,x,h=>by
  rw[iter];by_cases e:x=f x
  ·exact e.symm
  ·have:=(hs x).grows e;have:=ZsD (f x);have:=(hs x).len;omega
 | n+1,x,h=>by
  rw[iter];by_cases e:x=f x
  ·rw[←e,ZoT e.symm];exact e.symm
  ·have:=(hs x).grows e;have:=(hs x).len;exact ZqW hs n (f x) (by omega)
theorem Zj5 {f:List Bool→List Bool} (hs:∀ x,Sub x (f x)):∀ (n:Nat) (x:List Bool),Sub x (iter f n x)
 | 0,x=>Sub.refl x
 | n+1,x=>(hs x).trans (Zj5 hs n (f x))
theorem Zi6 {f:List Bool→List Bool} {S:List Bool} (hf:∀ x,Sub x S→Sub (f x) S):∀ (n:Nat) (x:List Bool),Sub x S→Sub (iter f n x) S
 | 0,_,h=>h
 | n+1,x,h=>Zi6 hf n (f x) (hf x h)
def full (f:List Bool→List Bool) (x:List Bool):List Bool:=iter f x.length x
theorem ZoU {f:List Bool→List Bool} (hs:∀ x,Sub x (f x)) (x:List Bool):f (full f x)=full f x:=ZqW hs _ x (by omega)
theorem Zzr {f:List Bool→List Bool} (hs:∀ x,Sub x (f x)) (x:List Bool):full f (f x)=full f x:=by
 have h1:=ZoU hs x;unfold full at h1 ⊢;rw[←(hs x).len,ZqV,h1]
theorem ZBK {f:List Bool→List Bool} {x:List Bool} (h:f x=x):full f x=x:=ZoT h _
def ZaQ (xs:List Int) (is:List Bool):Bool:=xs.all (has is)
theorem Zzs {xs:List Int} {a b:List Bool} (h:Sub a b) (hx:ZaQ xs a=true):ZaQ xs b=true:=by
 simp only[ZaQ,HR] at hx ⊢;exact fun x m=>h.sub x (hx x m)
def asks (t:Bool) (r:Rule):List Int:=bif t then Ab r.right else r.right
def one1 (t:Bool) (r:Rule) (is:List Bool):List Bool:=bif ZaQ (asks t r) is then put is r.left else is
def pass (t:Bool):List Rule→List Bool→List Bool
 | [],is=>is
 | r::rs,is=>pass t rs (one1 t r is)
theorem Zug {t:Bool} {r:Rule} (h:0≤r.left) (is:List Bool):Sub is (one1 t r is):=by
 unfold one1;cases ZaQ (asks t r) is with
 | true=>exact Sub.put h
 | false=>exact Sub.refl _
theorem Zid {t:Bool}:∀ {rs:List Rule},(∀ r∈rs,0≤r.left)→∀ is,Sub is (pass t rs is)
 | [],_,is=>Sub.refl is
 | r::rs,h,is=>(Zug (h r (by simp)) is).trans (Zid (fun q hq=>h q (by simp[hq])) _)
theorem Zuh {t:Bool}:∀ {rs:List Rule} {is:List Bool},(∀ r∈rs,0≤r.left)→pass t rs is=is→∀ r∈rs,one1 t r is=is
 | [],_,_,_,r,hr=>by cases hr
 | q::rs,is,h,e,r,hr=>by
  have h1:=Zug (t:=t) (h q (by simp)) is;have h2:=Zid (t:=t) (rs:=rs) (fun r hr=>h r (by simp[hr])) (one1 t q is);rw[pass] at e;rw[e] at h2;have e1:=h2.anti h1;rcases List.mem_cons.1 hr with rfl|hr
  ·exact e1
  ·rw[e1] at e;exact Zuh (fun r hr=>h r (by simp[hr])) e r hr
def Holds (t:Bool) (rs:List Rule) (S:List Bool):Prop:=∀ r∈rs,ZaQ (asks t r) S=true→has S r.left=true
theorem Znc {t:Bool} {S:List Bool}:∀ {rs:List Rule},Holds t rs S→∀ is,Sub is S→Sub (pass t rs is) S
 | [],_,_,h=>h
 | r::rs,hS,is,h=>by
  refine Znc (rs:=rs) (fun q hq=>hS q (by simp[hq])) (one1 t r is) ?_;unfold one1;cases hc:ZaQ (asks t r) is with
  | false=>exact h
  | true=>exact ZsC h (hS r (by simp) (Zzs h hc))
def Zff (g:Ac):List Bool:=List.replicate g.vars.toNat false
def Za1 (t:Bool) (g:Ac):List Bool:=full (pass t g.Aa) (Zff g)
theorem Zbl (g:Ac):(Zff g).length=g.vars.toNat:=by simp[Zff]
theorem Zie (g:Ac) (v:Int):has (Zff g) v=false:=by
 unfold has Zff;by_cases h:v.toNat < g.vars.toNat <;> simp[Hf,JK,h]
theorem Zui {g:Ac} {S:List Bool} (h:S.length=g.vars.toNat):Sub (Zff g) S:=⟨by rw[Zbl,h],fun v hv=>by rw[Zie] at hv;cases hv⟩
theorem ZcR {t:Bool} {g:Ac} (hg:g.ok):(Za1 t g).length=g.vars.toNat:=by
 rw[Za1,full,←(Zj5 (Zid hg.left0) _ _).len,Zbl]
theorem ZfL {t:Bool} {g:Ac} (hg:g.ok):Holds t g.Aa (Za1 t g):=fun r hr h=>by
 have h1:=Zuh hg.left0 (ZoU (Zid (t:=t) hg.left0) (Zff g)) r hr;change one1 t r (Za1 t g)=Za1 t g at h1;unfold one1 at h1;rw[h,Gc] at h1;have hl:=ZcR (t:=t) hg;have a1:=hg.left0 r hr;have a2:=hg.left r hr;rw[←h1,Zgg a1 (by omega)];simp
theorem Zif {t:Bool} {g:Ac} {S:List Bool} (hl:S.length=g.vars.toNat) (hS:Holds t g.Aa S):Sub (Za1 t g) S :=
 Zi6 (fun x hx=>Znc hS x hx) _ _ (Zui hl)
def Zeu:List Int→List Bool→List Bool
 | [],is=>is
 | v::vs,is=>Zeu vs (put is v)
def Zig (r:Rule) (is:List Bool):List Bool:=bif has is r.left then Zeu (Ab r.right) is else is
def Zhl:List Rule→List Bool→List Bool
 | [],is=>is
 | r::rs,is=>Zhl rs (Zig r is)
theorem Znd:∀ {vs:List Int},(∀ v∈vs,0≤v)→∀ is,Sub is (Zeu vs is)
 | [],_,is=>Sub.refl is
 | v::vs,h,is=>(Sub.put (h v (by simp))).trans (Znd (fun u hu=>h u (by simp[hu])) _)
theorem Zne:∀ {vs:List Int} {is:List Bool},(∀ v∈vs,0≤v∧v < is.length)→∀ u,has (Zeu vs is) u=(has is u || decide (u∈vs))
 | [],is,_,u=>by simp[Zeu]
 | v::vs,is,h,u=>by
  have hv:=h v (by simp);rw[Zeu,Zne (fun w hw=>by rw[Zcu];exact h w (by simp[hw])),Zgg hv.1 hv.2,Bool.or_assoc];congr 1;simp only[Gq];by_cases e:u=v <;> simp[e]
theorem ZbY {xs:List Int}:∀ v∈Ab xs,0≤v:=fun v hv=>by
 simp only[Ab,List.mem_filter,HZ] at hv;exact hv.2
theorem ZdY {xs:List Int} {v:Int} (h:v∈Ab xs):v∈xs:=(List.mem_filter.1 h).1
theorem ZqX (r:Rule) (is:List Bool):Sub is (Zig r is):=by
 unfold Zig;cases has is r.left with
 | true=>exact Znd ZbY is
 | false=>exact Sub.refl _
theorem Zfg:∀ (rs:List Rule) (is:List Bool),Sub is (Zhl rs is)
 | [],is=>Sub.refl is
 | r::rs,is=>(ZqX r is).trans (Zfg rs _)
theorem ZqY:∀ {rs:List Rule} {is:List Bool},Zhl rs is=is→∀ r∈rs,Zig r is=is
 | [],_,_,r,hr=>by cases hr
 | q::rs,is,e,r,hr=>by
  have h1:=ZqX q is;have h2:=Zfg rs (Zig q is);rw[Zhl] at e;rw[e] at h2;have e1:=h2.anti h1;rcases List.mem_cons.1 hr with rfl|hr
  ·exact e1
  ·rw[e1] at e;exact ZqY e r hr
def Goes (rs:List Rule) (S:List Bool):Prop:=∀ r∈rs,has S r.left=true→∀ v∈Ab r.right,has S v=true
theorem Zjs {S:List Bool}:∀ {vs:List Int},(∀ v∈vs,has S v=true)→∀ is,Sub is S→Sub (Zeu vs is) S
 | [],_,_,h=>h
 | v::vs,hv,is,h=>Zjs (vs:=vs) (fun u hu=>hv u (by simp[hu])) (put is v) (ZsC h (hv v (by simp)))
theorem ZlK {S:List Bool}:∀ {rs:List Rule},Goes rs S→∀ is,Sub is S→Sub (Zhl rs is) S
 | [],_,_,h=>h
 | r::rs,hS,is,h=>by
  refine ZlK (rs:=rs) (fun q hq=>hS q (by simp[hq])) (Zig r is) ?_;unfold Zig;cases hc:has is r.left with
  | false=>exact h
  | true=>exact Zjs (hS r (by simp) (h.sub _ hc)) is h
def Zdg (g:Ac):List Bool:=full (Zhl g.Aa) (put (Zff g) g.start)
theorem ZfM (g:Ac):(Zdg g).length=g.vars.toNat:=by
 rw[Zdg,full,←(Zj5 (Zfg _) _ _).len,Zcu,Zbl]
theorem ZoV {g:Ac} (hg:g.ok):has (Zdg g) g.start=true:=by
 refine (Zj5 (Zfg g.Aa) _ _).sub _ ?_;have:=hg.start;rw[Zgg hg.start0 (by rw[Zbl];omega)];simp
theorem ZqZ {g:Ac} (hg:g.ok):Goes g.Aa (Zdg g):=fun r hr h v hv=>by
 have h1:=ZqY (ZoU (Zfg g.Aa) (put (Zff g) g.start)) r hr;change Zig r (Zdg g)=Zdg g at h1;unfold Zig at h1;rw[h,Gc] at h1;have hl:=ZfM g;rw[←h1,Zne (fun w hw=>⟨ZbY w hw,by have:=hg.hi r hr w (ZdY hw);omega⟩)];simp[hv]
theorem ZoW {g:Ac} {S:List Bool} (hl:S.length=g.vars.toNat) (h0:has S g.start=true) (hS:Goes g.Aa S):Sub (Zdg g) S :=
 Zi6 (fun x hx=>ZlK hS x hx) _ _ (ZsC (Zui hl) h0)
structure Whole (st:Int→List Int) (init:List Int) (R:List Bool):Prop where
 from_:∀ w∈init,has R w=true
 goes:∀ u,has R u=true→∀ w∈st u,has R w=true
 least:∀ S:List Bool,S.length=R.length→(∀ w∈init,has S w=true)→(∀ u,has S u=true→∀ w∈st u,has S w=true)→Sub R S
section
variable {st:Int→List Int} {init:List Int} {R is:List Bool} {todo:List Int}
end
theorem Zzt (v:Int):∀ (rs:List Rule) (i:Nat) (x:Int),x∈byR rs v i↔∃ k:Nat,∃ h:k < rs.length,x=((i+k:Nat):Int)∧rs[k].left=v
 | [],i,x=>by simp[byR]
 | r::rs,i,x=>by
  have ih:=Zzt v rs (i+1) x;have e:x∈byR (r::rs) v i↔(r.left=v∧x=(i:Int))∨x∈byR rs v (i+1):=by
   rw[byR];split
   ·rename_i h;simp[h]
   ·rename_i h;simp[h]
  rw[e,ih];constructor
  ·rintro (⟨h1,h2⟩|⟨k,h,h1,h2⟩)
   ·exact⟨0,by simp,by simpa using h2,by simpa using h1⟩
   ·exact⟨k+1,by simpa using h,by rw[h1];congr 1;omega,by simpa using h2⟩
  ·rintro⟨k,h,h1,h2⟩
   match k with
   | 0=>exact .inl ⟨by simpa using h2,by simpa using h1⟩
   | k+1=>exact .inr ⟨k,by simpa using h,by rw[h1];congr 1;omega,by simpa using h2⟩
theorem by_mem {g:Ac} {v x:Int}:x∈by_ g v↔∃ k:Nat,∃ h:k < g.Aa.length,x=(k:Int)∧g.Aa[k].left=v:=by
 rw[by_,Zzt];simp
def Zaj (g:Ac) (i:Int):List Int:=(g.Aa.getD i.toNat ⟨0,[]⟩).right
theorem Zax {g:Ac} {k:Nat} (h:k < g.Aa.length):Zaj g k=g.Aa[k].right:=by
 simp[Zaj,Hf,h]
def Zuj (f:List Int→List Int) (g:Ac) (v:Int):List Int:=(by_ g v).flatMap fun i=>f (Zaj g i)
theorem overBy_mem {f:List Int→List Int} {g:Ac} {v w:Int}:w∈Zuj f g v↔∃ r∈g.Aa,r.left=v∧w∈f r.right:=by
 simp only[Zuj,G0];constructor
 ·rintro⟨i,hi,hw⟩;obtain⟨k,h,rfl,hl⟩:=by_mem.1 hi;rw[Zax h] at hw;exact⟨_,He h,hl,hw⟩
 ·rintro⟨r,hr,hl,hw⟩;obtain⟨k,h,rfl⟩:=List.getElem_of_mem hr;exact⟨k,by_mem.2 ⟨k,h,rfl,hl⟩,by rw[Zax h];exact hw⟩
def ZdQ (null:List Bool) (c:Bool) (right:List Int) (k:Nat):Bool:=decide (0≤right.getD k 0) && (ZaQ (right.take k) null && (c || ZaQ (right.drop (k+1)) null))
def Zq0 (null:List Bool) (c:Bool) (right:List Int):Nat→List Int
 | 0=>[]
 | k+1=>Zq0 null c right k++(if ZdQ null c right k=true then [right.getD k 0] else [])
def ZbZ (null:List Bool) (c:Bool) (right:List Int):List Int:=Zq0 null c right right.length
theorem picks_mem {null:List Bool} {c:Bool} {right:List Int} {w:Int}:∀ {k:Nat},w∈Zq0 null c right k↔∃ j,j < k∧ZdQ null c right j=true∧w=right.getD j 0
 | 0=>by simp[Zq0]
 | k+1=>by
  rw[Zq0,HV,picks_mem];constructor
  ·rintro (⟨j,h1,h2,h3⟩|h)
   ·exact⟨j,by omega,h2,h3⟩
   ·split at h
    ·rename_i hp;exact⟨k,by omega,hp,by simpa using h⟩
    ·cases h
  ·rintro⟨j,h1,h2,h3⟩;by_cases e:j=k
   ·subst e;right;rw[Hb h2];simp[h3]
   ·exact .inl ⟨j,by omega,h2,h3⟩
def Zi7 (c:Bool) (g:Ac) (null:List Bool) (v:Int):List Int:=Zuj (ZbZ null c) g v
abbrev Mat:=List (List Bool)
def rowM (M:Mat) (u:Int):List Bool:=M.getD u.toNat []
def hasM (M:Mat) (u w:Int):Bool:=decide (0≤u) && has (rowM M u) w
structure Sq (V:Nat) (M:Mat):Prop where
 len:M.length=V
 row:∀ r∈M,r.length=V
theorem Sq.at {V:Nat} {M:Mat} (h:Sq V M) {u:Int} (h0:0≤u) (h1:u < V):(rowM M u).length=V:=by
 have hl:u.toNat < M.length:=by have:=h.len;omega
 rw[rowM,Hf,Hj hl];exact h.row _ (He hl)
theorem ZDB {V:Nat} {M:Mat} (h:Sq V M) {u w:Int} (hh:hasM M u w=true):(0≤u∧u < V)∧0≤w∧w < V:=by
 simp only[hasM,Hr,HZ] at hh;obtain⟨h0,h1⟩:=hh;have hu:u < V:=by
  rcases Jh u.toNat M.length with h2|h2
  ·have:=h.len;omega
  ·rw[rowM,Hf,HI h2] at h1;have:=(Zfe h1).2;have:=(Zfe h1).1;simp at *;omega
 have h3:=Zfe h1;rw[h.at h0 hu] at h3;exact⟨⟨h0,hu⟩,h3⟩
def addM (u w:Int) (M:Mat):Mat:=M.set u.toNat (put (rowM M u) w)
theorem Sq.add {V:Nat} {M:Mat} (h:Sq V M) {u w:Int} (h0:0≤u) (h1:u < V):Sq V (addM u w M):=by
 refine⟨by simpa[addM] using h.len,fun r hr=>?_⟩;rcases GU hr with hr|rfl
 ·exact h.row r hr
 ·rw[Zcu];exact h.at h0 h1
theorem ZBL {V:Nat} {M:Mat} (h:Sq V M) {u w:Int} (h0:0≤u) (h1:u < V) (h2:0≤w) (h3:w < V) (a b:Int):hasM (addM u w M) a b=(hasM M a b || (decide (a=u) && decide (b=w))):=by
 unfold hasM;by_cases ha:0≤a
 ·simp only[ha,decide_true,H5];by_cases e:a=u
  ·subst e;have:rowM (addM a w M) a=put (rowM M a) w:=by
    have hl:a.toNat < M.length:=(by have:=h.len;omega);simp[rowM,addM,Hf,hl]
   rw[this,Zgg h2 (by rw[h.at h0 h1];exact h3)];simp
  ·have:rowM (addM u w M) a=rowM M a:=by
    simp only[rowM,addM,Hf];rw[GO (by omega)]
   rw[this];simp[e]
 ·have:a≠u:=by omega
  simp[ha,this]
def ZlL (null:List Bool) (c:Bool) (r:Rule):Nat→Mat→Mat
 | 0,M=>M
 | k+1,M=>bif ZdQ null c r.right k then addM r.left (r.right.getD k 0) (ZlL null c r k M) else ZlL null c r k M
def matM (null:List Bool) (c:Bool):List Rule→Mat→Mat
 | [],M=>M
 | r::rs,M=>matM null c rs (ZlL null c r r.right.length M)
theorem ZgB {null:List Bool} {c:Bool} {r:Rule} {V:Nat} {M:Mat} (h:Sq V M) (h0:0≤r.left) (h1:r.left < V) (hr:∀ w∈r.right,w < V):∀ k,k≤r.right.length→Sq V (ZlL null c r k M)∧∀ a b,hasM (ZlL null c r k M) a b=(hasM M a b || (decide (a=r.left) && decide (b∈Zq0 null c r.right k)))
 | 0,_=>⟨h,fun a b=>by simp[ZlL,Zq0]⟩
 | k+1,hk=>by
  obtain⟨i1,i2⟩:=ZgB h h0 h1 hr k (by omega);rw[ZlL,Zq0];cases hp:ZdQ null c r.right k with
  | false=>refine⟨i1,fun a b=>?_⟩;simpa using i2 a b
  | true =>
   have hp':=hp;simp only[ZdQ,Hr,HZ] at hp';have hm:r.right.getD k 0 < V:=by
    rw[Hf,Hj (by omega)];exact hr _ (He _)
   refine⟨i1.add h0 h1,fun a b=>?_⟩;rw[Gc,ZBL i1 h0 h1 hp'.1 hm,i2,Hb rfl,Bool.or_assoc];congr 1;rw[←Bool.and_or_distrib_left];congr 1;rw[GX];simp
theorem ZlM {null:List Bool} {c:Bool} {V:Nat}:∀ {rs:List Rule} {M:Mat},Sq V M→(∀ r∈rs,0≤r.left∧r.left < V∧∀ w∈r.right,w < V)→Sq V (matM null c rs M)∧∀ a b,hasM (matM null c rs M) a b=true↔hasM M a b=true∨∃ r∈rs,r.left=a∧b∈ZbZ null c r.right
 | [],M,h,_=>⟨h,fun a b=>by simp[matM]⟩
 | r::rs,M,h,hr=>by
  obtain⟨a1,a2,a3⟩:=hr r (by simp);obtain⟨i1,i2⟩:=ZgB (null:=null) (c:=c) h a1 a2 a3 r.right.length (Hg _);obtain⟨j1,j2⟩:=ZlM (null:=null) (c:=c) (rs:=rs) i1 (fun q hq=>hr q (by simp[hq]));refine⟨j1,fun a b=>?_⟩;rw[matM,j2,i2];simp only[Gj,Hr,HZ,Gq,ZbZ];constructor
  ·rintro ((h|⟨rfl,h⟩)|⟨q,hq,h⟩)
   ·exact .inl h
   ·exact .inr ⟨r,.inl rfl,rfl,h⟩
   ·exact .inr ⟨q,.inr hq,h⟩
  ·rintro (h|⟨q,rfl|hq,h⟩)
   ·exact .inl (.inl h)
   ·exact .inl (.inr ⟨h.1.symm,h.2⟩)
   ·exact .inr ⟨q,hq,h⟩
def orL (a b:List Bool):List Bool:=List.zipWith (· || ·) a b
theorem ZvR {a b:List Bool} (h:a.length=b.length):(orL a b).length=a.length:=by simp[orL,h]
theorem Zzu {a b:List Bool} (h:a.length=b.length) (w:Int):has (orL a b) w=(has a w || has b w):=by
 unfold has orL;by_cases h0:0≤w
 ·simp only[h0,decide_true,H5,Hf,List.getElem?_zipWith];rcases Jh w.toNat a.length with hl|hl
  ·rw[Hj hl,Hj (by omega)];simp
  ·rw[HI hl,HI (by omega)];simp
 ·simp[h0]
theorem ZBM (a:List Bool):orL a a=a:=by
 refine GP (by simp[orL]) fun i h1 h2=>by simp[orL]
theorem ZDC {a b:List Bool} (h:a.length=b.length):setN (orL a b)=setN a ||| setN b:=by
 apply Nat.eq_of_testBit_eq;intro j;rw[Zct,Nat.testBit_or,Zct,Zct,←ZbH,←ZbH,←ZbH,Zzu h]
def rowK (R:List Bool) (k:Nat) (row:List Bool):List Bool:=bif has row k then orL row R else row
def stepK (k:Nat) (M:Mat):Mat:=M.map (rowK (rowM M k) k)
def closeK:Nat→Mat→Mat
 | 0,M=>M
 | k+1,M=>stepK k (closeK k M)
theorem Sq.stepK {V k:Nat} {M:Mat} (h:Sq V M) (hk:k < V):Sq V (stepK k M):=by
 refine⟨by simpa[Proofs.YtbpmepgnjanhnaaGreat.stepK] using h.len,fun r hr=>?_⟩;obtain⟨q,hq,rfl⟩:=List.mem_map.1 hr;have h1:=h.row q hq;have h2:=h.at (u:=(k:Int)) (by omega) (by omega);unfold rowK;cases has q k with
 | true=>rw[Gc,ZvR (by rw[h1,h2]),h1]
 | false=>exact h1
theorem Zi8 {V k:Nat} {M:Mat} (h:Sq V M) (hk:k < V) (a b:Int):hasM (stepK k M) a b=(hasM M a b || (hasM M a k && hasM M k b)):=by
 unfold hasM;by_cases ha:0≤a
 ·have hk0:(0:Int)≤(k:Int):=by omega
  simp only[ha,hk0,decide_true,H5];rcases Jh a.toNat M.length with hl|hl
  ·have e:rowM (stepK k M) a=rowK (rowM M k) k (rowM M a):=by
    simp[rowM,Proofs.YtbpmepgnjanhnaaGreat.stepK,Hf,hl]
   have h1:=h.at (u:=a) ha (by have:=h.len;omega);have h2:=h.at (u:=(k:Int)) (by omega) (by omega);rw[e,rowK];cases has (rowM M a) k with
   | true=>rw[Gc,Zzu (by rw[h1,h2])];simp
   | false=>simp
  ·have e:rowM (stepK k M) a=rowM M a:=by
    simp only[rowM,Proofs.YtbpmepgnjanhnaaGreat.stepK,Hf];rw[HI (by simpa using hl),HI hl]
   have e2:rowM M a=[]:=by
    simp only[rowM,Hf];rw[HI hl];rfl
   have e3:has [] (k:Int)=false:=by simp[has]
   rw[e,e2,e3];simp
 ·simp[ha]
theorem Sq.closeK {V:Nat} {M:Mat} (h:Sq V M):∀ k,k≤V→Sq V (closeK k M)
 | 0,_=>h
 | k+1,hk=>(Sq.closeK h k (by omega)).stepK (by omega)
theorem Zhm {V:Nat} {M:Mat} (h:Sq V M) {a b:Int} (hh:hasM M a b=true):∀ k,k≤V→hasM (closeK k M) a b=true
 | 0,_=>hh
 | k+1,hk=>by rw[closeK,Zi8 (h.closeK k (by omega)) (by omega),Zhm h hh k (by omega)];rfl
theorem Zjt {V:Nat} {M:Mat} (h:Sq V M):∀ k,k≤V→∀ (m:Nat),m < k→∀ a b,hasM (closeK k M) a m=true→hasM (closeK k M) m b=true→hasM (closeK k M) a b=true
 | 0,_,m,hm=>by omega
 | k+1,hk,m,hm=>by
  intro a b h1 h2;have ih:=Zjt h k (by omega);have hs:=Zi8 (h.closeK k (by omega)) (k:=k) (by omega);simp only[closeK,hs,Gj,Hr] at h1 h2 ⊢;by_cases e:m=k
  ·subst e;have g1:hasM (Proofs.YtbpmepgnjanhnaaGreat.closeK m M) a m=true:=h1.elim id And.left;have g2:hasM (Proofs.YtbpmepgnjanhnaaGreat.closeK m M) m b=true:=h2.elim id And.right;exact .inr ⟨g1,g2⟩
  ·have hm':m < k:=by omega
   rcases h1 with h1|⟨h1,h1'⟩ <;> rcases h2 with h2|⟨h2,h2'⟩
   ·exact .inl (ih m hm' a b h1 h2)
   ·exact .inr ⟨ih m hm' a k h1 h2,h2'⟩
   ·exact .inr ⟨h1,ih m hm' k b h1' h2⟩
   ·exact .inr ⟨h1,h2'⟩
theorem Zju {V:Nat} {M:Mat} (h:Sq V M):∀ k,k≤V→∀ (a:Int) (S:List Bool),(∀ w,hasM M a w=true→has S w=true)→(∀ u,has S u=true→∀ w,hasM M u w=true→has S w=true)→∀ w,hasM (closeK k M) a w=true→has S w=true
 | 0,_,a,S,h1,_,w,hw=>h1 w hw
 | k+1,hk,a,S,h1,h2,w,hw=>by
  have ih:=Zju h k (by omega);rw[closeK,Zi8 (h.closeK k (by omega)) (by omega),Gj,Hr] at hw;rcases hw with hw|⟨g1,g2⟩
  ·exact ih a S h1 h2 w hw
  ·exact ih k S (h2 k (ih a S h1 h2 k g1)) h2 w g2
def Zq1 (g:Ac):Mat:=List.replicate g.vars.toNat (Zff g)
theorem ZoX (g:Ac):Sq g.vars.toNat (Zq1 g):=⟨by simp[Zq1],fun r hr=>by rw[(List.mem_replicate.1 hr).2,Zbl]⟩
theorem Zzv (g:Ac) (a b:Int):hasM (Zq1 g) a b=false:=by
 unfold hasM rowM Zq1;by_cases h:a.toNat < g.vars.toNat
 ·simp[Hf,JK,h,Zie]
 ·simp[Hf,JK,h,has]
def oneM (c:Bool) (g:Ac):Mat:=matM (Za1 false g) c g.Aa (Zq1 g)
def ledM (c:Bool) (g:Ac):Mat:=closeK g.vars.toNat (oneM c g)
theorem ZoY {g:Ac} (hg:g.ok):∀ r∈g.Aa,0≤r.left∧r.left < (g.vars.toNat:Int)∧∀ w∈r.right,w < (g.vars.toNat:Int):=fun r hr=>by
 have:=hg.left0 r hr;have:=hg.left r hr;exact⟨by omega,by omega,fun w hw=>by have:=hg.hi r hr w hw;omega⟩
theorem ZsE {c:Bool} {g:Ac} (hg:g.ok):Sq g.vars.toNat (oneM c g):=(ZlM (ZoX g) (ZoY hg)).1
theorem Zj6 {c:Bool} {g:Ac} (hg:g.ok) (u w:Int):hasM (oneM c g) u w=true↔w∈Zi7 c g (Za1 false g) u:=by
 rw[oneM,(ZlM (ZoX g) (ZoY hg)).2,Zzv,Zi7,overBy_mem];simp
theorem Zhn {c:Bool} {g:Ac} (hg:g.ok):Sq g.vars.toNat (ledM c g):=(ZsE hg).closeK _ (Hg _)
theorem Zih {c:Bool} {g:Ac} (hg:g.ok) {v:Int} (h0:0≤v) (h1:v < g.vars):Whole (Zi7 c g (Za1 false g)) (Zi7 c g (Za1 false g) v) (rowM (ledM c g) v):=by
 have hq:=ZsE (c:=c) hg;have hr:∀ w,has (rowM (ledM c g) v) w=hasM (ledM c g) v w:=fun w=>by simp[hasM,h0]
 refine⟨fun w hw=>?_,fun u hu w hw=>?_,fun S hl hS1 hS2=>⟨hl.symm,fun w hw=>?_⟩⟩
 ·rw[hr];exact Zhm hq ((Zj6 hg _ _).2 hw) _ (Hg _)
 ·rw[hr] at hu ⊢;obtain⟨_,b1,b2⟩:=ZDB (Zhn hg) hu;obtain⟨k,rfl⟩:∃ k:Nat,u=(k:Int):=⟨u.toNat,by omega⟩
  exact Zjt hq _ (Hg _) k (by omega) v w hu (Zhm hq ((Zj6 hg _ _).2 hw) _ (Hg _))
 ·rw[hr] at hw;exact Zju hq _ (Hg _) v S (fun x hx=>hS1 x ((Zj6 hg _ _).1 hx)) (fun u hu x hx=>hS2 u hu x ((Zj6 hg _ _).1 hx)) w hw
end Go.Proofs.YtbpmepgnjanhnaaGreat
