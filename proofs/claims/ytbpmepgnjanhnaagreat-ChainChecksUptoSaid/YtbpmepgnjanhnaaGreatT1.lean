import Derived.Test.YtbpmepgnjanhnaaGreatQGramC
set_option linter.unusedVariables false
set_option linter.unusedSimpArgs false
set_option linter.unusedSectionVars false
namespace Go.Proofs.YtbpmepgnjanhnaaGreat
open Go.RowKit
structure Gram.ok (g:Gram):Prop where
 vars1:1≤g.vars
 vars:g.vars≤64
 terms0:0≤g.terms
 terms:g.terms≤16
 start0:0≤g.start
 start:g.start < g.vars
 rules:g.rules.length≤160
 right:∀ r∈g.rules,r.right.length≤10
 left0:∀ r∈g.rules,0≤r.left
 left:∀ r∈g.rules,r.left < g.vars
 lo:∀ r∈g.rules,∀ s∈r.right, -g.terms≤s
 hi:∀ r∈g.rules,∀ s∈r.right,s < g.vars
theorem Zbo {g:Gram} {r:Rule} (h:Zau g r=0):r.right.length≤10∧0≤r.left∧r.left < g.vars∧∀ s∈r.right, -g.terms≤s∧s < g.vars:=by
 unfold Zau at h
 split at h
 ·cases h
 ·split at h
  ·cases h
  ·rename_i h1 h2
   simp only[not_or] at h2
   refine⟨by omega,by omega,by omega,fun s hs=>?_⟩
   have h3:=h2.2.2
   simp only[Bool.not_eq_true,List.any_eq_false] at h3
   have:=h3 s hs
   simp[Zb0] at this
   omega
theorem Zij {g:Gram}:∀ {rs:List Rule} {i:Nat},(ZcF g rs i).code=0→∀ r∈rs,Zau g r=0
 | [],_,_,r,hr=>by cases hr
 | q::rs,i,h,r,hr=>by
  rw[ZcF] at h
  split at h
  ·rename_i h0
   rcases List.mem_cons.1 hr with rfl|hr
   ·exact h0
   ·exact Zij h r hr
  ·rename_i h0;exact absurd h h0
theorem Zl5 {g:Gram}:∀ {rs:List Rule} {i:Nat},(∀ r∈rs,Zau g r=0)→ZcF g rs i=⟨0,0⟩
 | [],_,_=>rfl
 | q::rs,i,h=>by
  rw[ZcF,if_pos (h q (by simp))]
  exact Zl5 (fun r hr=>h r (by simp[hr]))
theorem Zbr {g:Gram} (h:(Zah g).code=0):g.ok:=by
 unfold Zah at h
 split at h
 ·rename_i hh
  split at h
  ·cases h
  ·have hz:=Zij h
   obtain⟨a1,a2,a3,a4,a5,a6⟩:=hh
   exact⟨a1,a2,a3,a4,a5,a6,by omega,fun r hr=>(Zbo (hz r hr)).1,fun r hr=>(Zbo (hz r hr)).2.1,fun r hr=>(Zbo (hz r hr)).2.2.1,
    fun r hr s hs=>((Zbo (hz r hr)).2.2.2 s hs).1,fun r hr s hs=>((Zbo (hz r hr)).2.2.2 s hs).2⟩
 ·cases h
theorem Gram.ok.fault {g:Gram} (h:g.ok):Zah g=⟨0,0⟩:=by
 unfold Zah
 rw[if_pos ⟨h.vars1,h.vars,h.terms0,h.terms,h.start0,h.start⟩,if_neg (by have:=h.rules;omega)]
 refine Zl5 (fun r hr=>?_)
 unfold Zau
 rw[if_neg (by have:=h.right r hr;omega),if_neg]
 simp only[not_or]
 refine⟨by have:=h.left0 r hr;omega,by have:=h.left r hr;omega,?_⟩
 simp only[Bool.not_eq_true,List.any_eq_false]
 intro s hs
 have:=h.lo r hr s hs
 have:=h.hi r hr s hs
 simp[Zb0];omega
theorem ZjA {g:Gram} (h:(Zah g).code=0):Zah g=⟨0,0⟩:=(Zbr h).fault
theorem Gram.ok.fit {g:Gram} (h:g.ok):g.fit:=⟨by have:=h.rules;omega,fun r hr=>by have:=h.right r hr;omega⟩
theorem ZoK (g:Gram) (x:Tree):ZbT g x=wordL g ((g.rules[x.rule.toNat]?).getD ⟨0,[]⟩).right x.kids:=by cases x;rw[ZbT];rfl
theorem Zik (g:Gram) (k:List Tree):wordL g [] k=[]:=by rw[wordL.eq_def]
theorem Zil {g:Gram} {s:Int} (h:s < 0) (ss:List Int) (k:List Tree):wordL g (s::ss) k=(-1 - s)::wordL g ss k:=by rw[wordL.eq_def];simp[h]
theorem Zim {g:Gram} {s:Int} (h:¬ s < 0) (ss:List Int) (x:Tree) (k:List Tree):wordL g (s::ss) (x::k)=ZbT g x++wordL g ss k:=by rw[wordL.eq_def];simp[h]
theorem Zsd {g:Gram} {s:Int} (h:¬ s < 0) (ss:List Int):wordL g (s::ss) []=wordL g ss []:=by rw[wordL.eq_def];simp[h]
theorem Zko {g:Gram} {l:List Int} {k:List Tree} {j:Nat} (h:j < l.length) (hs:l[j] < 0):wordL g (l.drop j) k=(-1 - l[j])::wordL g (l.drop (j+1)) k:=by
 rw[List.drop_eq_getElem_cons h,Zil hs]
theorem Zkp {g:Gram} {l:List Int} {k:List Tree} {j q:Nat} (h:j < l.length) (hs:¬ l[j] < 0) (hq:q < k.length):wordL g (l.drop j) (k.drop q)=ZbT g k[q]++wordL g (l.drop (j+1)) (k.drop (q+1)):=by
 rw[List.drop_eq_getElem_cons h,List.drop_eq_getElem_cons hq,Zim hs]
theorem Zl6 {g:Gram} {l:List Int} {k:List Tree} {j:Nat} (h:¬ j < l.length):wordL g (l.drop j) k=[]:=by
 rw[List.drop_of_length_le (by omega),Zik]
theorem ZfL {g:Gram}:∀ {k:List Tree} {vs:List Int},fitss g k vs=true→∀ {q:Nat} (h1:q < k.length) (h2:q < vs.length),fits g k[q] vs[q]=true
 | [],_,_,q,h1,_=>by simp at h1
 | _::_,[],_,q,_,h2=>by simp at h2
 | x::k,v::vs,h,q,h1,h2=>by
  simp only[fitss,Bool.and_eq_true] at h
  match q with
  | 0=>exact h.1
  | q+1=>exact ZfL h.2 (by simpa using h1) (by simpa using h2)
theorem Zey {g:Gram} {x:Tree} {v:Int} (h:fits g x v=true):∃ i:Nat,∃ hi:i < g.rules.length,x.rule=(i:Int)∧g.rules[i].left=v∧(kids g.rules[i].right).length=x.kids.length∧fitss g x.kids (kids g.rules[i].right)=true∧ZbT g x=wordL g g.rules[i].right x.kids:=by
 have h':=h
 rw[Zj2] at h
 by_cases h0:0≤x.rule
 ·rw[if_pos h0] at h
  cases hg:g.rules[x.rule.toNat]? with
  | none=>rw[hg] at h;cases h
  | some ru =>
   rw[hg] at h
   obtain⟨hi,rfl⟩:=List.getElem?_eq_some_iff.1 hg
   simp only[Bool.and_eq_true,decide_eq_true_eq] at h
   refine⟨x.rule.toNat,hi,by omega,h.1,h.2.1,h.2.2,?_⟩
   rw[ZoK,hg];rfl
 ·rw[if_neg h0] at h;cases h
mutual
theorem Zez {g:Gram} (R:Nat) (hR:∀ r∈g.rules,r.right.length≤R):∀ (x:Tree),(ZbT g x).length≤R * cnt x
 | .mk r k=>by
  rw[ZbT]
  have h:=Zg5 R hR ((g.rules[r.toNat]?).getD ⟨0,[]⟩).right k
  have h2:((g.rules[r.toNat]?).getD ⟨0,[]⟩).right.length≤R:=by
   cases hg:g.rules[r.toNat]? with
   | none=>simp
   | some ru=>obtain⟨hi,rfl⟩:=List.getElem?_eq_some_iff.1 hg;exact hR _ (List.getElem_mem hi)
  simp only[cnt]
  rw[Nat.mul_add];omega
 termination_by x=>(cnt x,0)
 decreasing_by simp[cnt,Prod.lex_def]
theorem Zg5 {g:Gram} (R:Nat) (hR:∀ r∈g.rules,r.right.length≤R):∀ (ss:List Int) (k:List Tree),(wordL g ss k).length≤ss.length+R * cnts k
 | [],k=>by simp[Zik]
 | s::ss,k=>by
  by_cases hs:s < 0
  ·have:=Zg5 R hR ss k
   rw[Zil hs]
   simp only[List.length_cons];omega
  ·match k with
   | x::k =>
    have h1:=Zez R hR x
    have h2:=Zg5 R hR ss k
    rw[Zim hs]
    simp only[List.length_append,List.length_cons,cnts,Nat.mul_add];omega
   | [] =>
    have h2:=Zg5 R hR ss []
    rw[Zsd hs]
    simp only[List.length_cons];omega
 termination_by ss k=>(cnts k,ss.length+1)
 decreasing_by all_goals (simp[cnts,Prod.lex_def];try omega)
end
def Zaw (g:Gram) (x:Tree) (v:Int):Zb5:=if (Zah g).code=0 then (if cnt x≤400 then (if fits g x v=true then ⟨0,0⟩ else ⟨13, -1⟩) else ⟨6, -1⟩) else Zah g
theorem ZgE {xs:List Int} {j:Nat} (h:j < xs.length) (hs:¬ xs[j] < 0):(kids (xs.take j)).length < (kids xs).length:=by
 have e:xs=xs.take j++xs.drop j:=by simp
 have e2:kids xs=kids (xs.take j)++kids (xs.drop j):=(congrArg kids e).trans (by simp only[kids,List.filter_append])
 rw[e2,List.length_append,List.drop_eq_getElem_cons h]
 have:kids (xs[j]::xs.drop (j+1))=xs[j]::kids (xs.drop (j+1)):=by simp only[kids];rw[List.filter_cons_of_pos (by simp;omega)]
 rw[this];simp
def Zse (g:Gram) (x:Tree):List Int:=if (Zaw g x g.start).code=0 then ZbT g x else []
theorem ZcC {g:Gram} {x:Tree} {v:Int} (h:(Zaw g x v).code=0):g.ok∧cnt x≤400∧fits g x v=true∧Zaw g x v=⟨0,0⟩:=by
 unfold Zaw at h ⊢
 split at h
 ·rename_i h0
  rw[if_pos h0]
  split at h
  ·rename_i h1
   rw[if_pos h1]
   split at h
   ·rename_i h2;rw[if_pos h2];exact⟨Zbr h0,h1,h2,rfl⟩
   ·cases h
  ·cases h
 ·rename_i h0;exact absurd h h0
end Go.Proofs.YtbpmepgnjanhnaaGreat
namespace Go.Proofs.YtbpmepgnjanhnaaGreat
open Go.RowKit
def setN:List Bool→Nat
 | []=>0
 | b::r=>b.toNat+2 * setN r
theorem Zsf:∀ (l:List Bool),setN l < 2 ^ l.length
 | []=>by simp[setN]
 | b::r=>by
  have:=Zsf r
  have:b.toNat≤1:=Bool.toNat_le b
  simp only[setN,List.length_cons,Nat.pow_succ];omega
theorem Zdb {l:List Bool} (h:l.length≤64):setN l < 18446744073709551616 :=
 Nat.lt_of_lt_of_le (Zsf l) (Nat.le_trans (Nat.pow_le_pow_right (by decide) h) (by decide))
theorem Zcn:∀ (l:List Bool) (i:Nat),(setN l).testBit i=l.getD i false
 | [],i=>by simp[setN]
 | b::r,0=>by cases b <;> simp[setN,Nat.testBit_zero] <;> omega
 | b::r,i+1=>by
  rw[Nat.testBit_succ,setN]
  have e:(b.toNat+2 * setN r) / 2=setN r:=by have:b.toNat≤1:=Bool.toNat_le b;omega
  rw[e,Zcn r i];simp
theorem ZtQ {a b:List Bool} (hl:a.length=b.length) (h:setN a=setN b):a=b:=by
 refine List.ext_getElem hl fun i h1 h2=>?_
 have e1:=Zcn a i
 have e2:=Zcn b i
 rw[h,e2] at e1
 simpa[List.getD_eq_getElem?_getD,h1,h2] using e1.symm
theorem ZtR {l:List Bool} {i:Nat} (h:i < l.length):setN (l.set i true)=setN l ||| (1 <<< i):=by
 apply Nat.eq_of_testBit_eq
 intro j
 rw[Zcn,Nat.testBit_or,Zcn,Nat.one_shiftLeft,Nat.testBit_two_pow]
 simp only[List.getD_eq_getElem?_getD,List.getElem?_set]
 by_cases e:i=j
 ·subst e;simp[h]
 ·simp[e]
theorem ZoL (n:Nat):setN (List.replicate n false)=0:=by
 induction n with
 | zero=>rfl
 | succ n ih=>simp[List.replicate_succ,setN,ih]
def has (is:List Bool) (v:Int):Bool:=decide (0≤v) && is.getD v.toNat false
def put (is:List Bool) (v:Int):List Bool:=is.set v.toNat true
theorem ZdD (is:List Bool) (v:Int):(put is v).length=is.length:=by simp[put]
theorem Zbl (is:List Bool) (k:Nat):has is k=is.getD k false:=by simp[has]
theorem Zgj {is:List Bool} {v:Int} (h0:0≤v) (h1:v < is.length) (u:Int):has (put is v) u=(has is u || decide (u=v)):=by
 unfold has put
 by_cases hu:0≤u
 ·simp only[hu,decide_true,Bool.true_and,List.getD_eq_getElem?_getD,List.getElem?_set]
  by_cases e:u=v
  ·subst e
   rw[if_pos rfl,if_pos (by omega)];simp
  ·rw[if_neg (by omega)];simp[e]
 ·have:u≠v:=by omega
  simp[hu,this]
theorem ZeM {is:List Bool} {v:Int} (h:has is v=true):0≤v∧v < is.length:=by
 simp only[has,Bool.and_eq_true,decide_eq_true_eq] at h
 refine⟨h.1,?_⟩
 rcases Nat.lt_or_ge v.toNat is.length with h1|h1
 ·omega
 ·rw[List.getD_eq_getElem?_getD,List.getElem?_eq_none h1] at h;simp at h
theorem Zvq {a b:List Bool} (hl:a.length=b.length) (h:∀ v,has a v=has b v):a=b:=by
 refine List.ext_getElem hl fun i h1 h2=>?_
 have:=h i
 rw[Zbl,Zbl] at this
 simpa[List.getD_eq_getElem?_getD,h1,h2] using this
structure Sub (a b:List Bool):Prop where
 len:a.length=b.length
 sub:∀ v,has a v=true→has b v=true
theorem Sub.refl (a:List Bool):Sub a a:=⟨rfl,fun _ h=>h⟩
theorem Sub.trans {a b c:List Bool} (h:Sub a b) (k:Sub b c):Sub a c:=⟨h.len.trans k.len,fun v hv=>k.sub v (h.sub v hv)⟩
theorem Sub.anti {a b:List Bool} (h:Sub a b) (k:Sub b a):a=b:=Zvq h.len fun v=>by
 rw[Bool.eq_iff_iff];exact⟨h.sub v,k.sub v⟩
theorem Sub.put {is:List Bool} {v:Int} (h0:0≤v):Sub is (put is v):=by
 refine⟨by simp[Proofs.YtbpmepgnjanhnaaGreat.put],fun u hu=>?_⟩
 by_cases h1:v < is.length
 ·rw[Zgj h0 h1,hu];rfl
 ·rw[Proofs.YtbpmepgnjanhnaaGreat.put,List.set_eq_of_length_le (by omega)];exact hu
theorem Zvr {a b:List Bool} (h:Sub a b) {v:Int} (hv:has b v=true):Sub (put a v) b:=by
 obtain⟨h0,h1⟩:=ZeM hv
 refine⟨by rw[ZdD];exact h.len,fun u hu=>?_⟩
 rw[Zgj h0 (by have:=h.len;omega),Bool.or_eq_true,decide_eq_true_eq] at hu
 rcases hu with hu|rfl
 ·exact h.sub u hu
 ·exact hv
def cntB:List Bool→Nat
 | []=>0
 | b::r=>b.toNat+cntB r
theorem Zkq:∀ (l:List Bool),cntB l≤l.length
 | []=>Nat.le_refl _
 | b::r=>by have:=Zkq r;have:b.toNat≤1:=Bool.toNat_le b;simp only[cntB,List.length_cons];omega
theorem ZoM:∀ {a b:List Bool},Sub a b→cntB a≤cntB b∧(cntB a=cntB b→a=b)
 | [],[],_=>⟨Nat.le_refl _,fun _=>rfl⟩
 | [],y::b,h=>by have:=h.len;simp at this
 | x::a,[],h=>by have:=h.len;simp at this
 | x::a,y::b,h=>by
  have h1:Sub a b:=⟨by simpa using h.len,fun v hv=>by
   obtain⟨h0,hl⟩:=ZeM hv
   obtain⟨k,rfl⟩:∃ k:Nat,v=(k:Int):=⟨v.toNat,by omega⟩
   have:=h.sub ((k+1:Nat):Int) (by rw[Zbl];rw[Zbl] at hv;simpa using hv)
   rw[Zbl] at this ⊢;simpa using this⟩
  have h2:x=true→y=true:=fun hx=>by
   have:=h.sub ((0:Nat):Int) (by rw[Zbl];simpa using hx)
   rw[Zbl] at this;simpa using this
  obtain⟨k1,k2⟩:=ZoM h1
  cases x <;> cases y <;> simp_all [cntB] <;> omega
theorem Sub.grows {a b:List Bool} (h:Sub a b) (hne:a≠b):cntB a < cntB b:=by
 obtain⟨h1,h2⟩:=ZoM h
 rcases Nat.lt_or_ge (cntB a) (cntB b) with h3|h3
 ·exact h3
 ·exact absurd (h2 (by omega)) hne
def iter {α:Type} (f:α→α):Nat→α→α
 | 0,x=>x
 | n+1,x=>iter f n (f x)
theorem Zkr {α:Type} {f:α→α} {x:α} (h:f x=x):∀ n,iter f n x=x
 | 0=>rfl
 | n+1=>by rw[iter,h];exact Zkr h n
theorem Zl7 {α:Type} {f:α→α}:∀ (n:Nat) (x:α),iter f n (f x)=f (iter f n x)
 | 0,_=>rfl
 | n+1,x=>by rw[iter,iter,Zl7 n]
theorem Zl8 {f:List Bool→List Bool} (hs:∀ x,Sub x (f x)):∀ (n:Nat) (x:List Bool),x.length≤cntB x+n→f (iter f n x)=iter f n x
 | 0,x,h=>by
  rw[iter]
  by_cases e:x=f x
  ·exact e.symm
  ·have:=(hs x).grows e
   have:=Zkq (f x)
   have:=(hs x).len
   omega
 | n+1,x,h=>by
  rw[iter]
  by_cases e:x=f x
  ·rw[←e,Zkr e.symm];exact e.symm
  ·have:=(hs x).grows e
   have:=(hs x).len
   exact Zl8 hs n (f x) (by omega)
theorem ZoN {f:List Bool→List Bool} (hs:∀ x,Sub x (f x)):∀ (n:Nat) (x:List Bool),Sub x (iter f n x)
 | 0,x=>Sub.refl x
 | n+1,x=>(hs x).trans (ZoN hs n (f x))
def full (f:List Bool→List Bool) (x:List Bool):List Bool:=iter f x.length x
theorem ZoO {f:List Bool→List Bool} (hs:∀ x,Sub x (f x)) (x:List Bool):f (full f x)=full f x:=Zl8 hs _ x (by omega)
theorem Zsg {f:List Bool→List Bool} (hs:∀ x,Sub x (f x)) (x:List Bool):full f (f x)=full f x:=by
 have h1:=ZoO hs x
 unfold full at h1 ⊢
 rw[←(hs x).len,Zl7,h1]
theorem ZtS {f:List Bool→List Bool} {x:List Bool} (h:f x=x):full f x=x:=Zkr h _
def Zbn (xs:List Int) (is:List Bool):Bool:=xs.all (has is)
def asks (t:Bool) (r:Rule):List Int:=bif t then kids r.right else r.right
def one1 (t:Bool) (r:Rule) (is:List Bool):List Bool:=bif Zbn (asks t r) is then put is r.left else is
def pass (t:Bool):List Rule→List Bool→List Bool
 | [],is=>is
 | r::rs,is=>pass t rs (one1 t r is)
theorem ZoP {t:Bool} {r:Rule} (h:0≤r.left) (is:List Bool):Sub is (one1 t r is):=by
 unfold one1
 cases Zbn (asks t r) is with
 | true=>exact Sub.put h
 | false=>exact Sub.refl _
theorem ZfM {t:Bool}:∀ {rs:List Rule},(∀ r∈rs,0≤r.left)→∀ is,Sub is (pass t rs is)
 | [],_,is=>Sub.refl is
 | r::rs,h,is=>(ZoP (h r (by simp)) is).trans (ZfM (fun q hq=>h q (by simp[hq])) _)
theorem ZoQ {t:Bool}:∀ {rs:List Rule} {is:List Bool},(∀ r∈rs,0≤r.left)→pass t rs is=is→∀ r∈rs,one1 t r is=is
 | [],_,_,_,r,hr=>by cases hr
 | q::rs,is,h,e,r,hr=>by
  have h1:=ZoP (t:=t) (h q (by simp)) is
  have h2:=ZfM (t:=t) (rs:=rs) (fun r hr=>h r (by simp[hr])) (one1 t q is)
  rw[pass] at e
  rw[e] at h2
  have e1:=h2.anti h1
  rcases List.mem_cons.1 hr with rfl|hr
  ·exact e1
  ·rw[e1] at e
   exact ZoQ (fun r hr=>h r (by simp[hr])) e r hr
def Holds (t:Bool) (rs:List Rule) (S:List Bool):Prop:=∀ r∈rs,Zbn (asks t r) S=true→has S r.left=true
def Zin (g:Gram):List Bool:=List.replicate g.vars.toNat false
def ZaJ (t:Bool) (g:Gram):List Bool:=full (pass t g.rules) (Zin g)
theorem Zdc (g:Gram):(Zin g).length=g.vars.toNat:=by simp[Zin]
theorem ZtT (g:Gram) (v:Int):has (Zin g) v=false:=by
 unfold has Zin
 by_cases h:v.toNat < g.vars.toNat <;> simp[List.getD_eq_getElem?_getD,List.getElem?_replicate,h]
theorem ZbZ {t:Bool} {g:Gram} (hg:g.ok):(ZaJ t g).length=g.vars.toNat:=by
 rw[ZaJ,full,←(ZoN (ZfM hg.left0) _ _).len,Zdc]
theorem Zks {t:Bool} {g:Gram} (hg:g.ok):Holds t g.rules (ZaJ t g):=fun r hr h=>by
 have h1:=ZoQ hg.left0 (ZoO (ZfM (t:=t) hg.left0) (Zin g)) r hr
 change one1 t r (ZaJ t g)=ZaJ t g at h1
 unfold one1 at h1
 rw[h,cond_true] at h1
 have hl:=ZbZ (t:=t) hg
 have a1:=hg.left0 r hr
 have a2:=hg.left r hr
 rw[←h1,Zgj a1 (by omega)];simp
theorem ZnI {xs:List Int}:∀ v∈kids xs,0≤v:=fun v hv=>by
 simp only[kids,List.mem_filter,decide_eq_true_eq] at hv;exact hv.2
theorem ZtU {xs:List Int} {v:Int} (h:v∈kids xs):v∈xs:=(List.mem_filter.1 h).1
end Go.Proofs.YtbpmepgnjanhnaaGreat
namespace Go.Proofs.YtbpmepgnjanhnaaGreat
open Go.RowKit
structure Bfs (st:Int→List Int) (init:List Int) (R:List Bool) (todo:List Int) (is:List Bool):Prop where
 sub:Sub is R
 open_:∀ v∈todo,has R v=true
 goes:∀ u,has is u=true→∀ w∈st u,has is w=true∨w∈todo
 from_:∀ w∈init,has is w=true∨w∈todo
structure Whole (st:Int→List Int) (init:List Int) (R:List Bool):Prop where
 from_:∀ w∈init,has R w=true
 goes:∀ u,has R u=true→∀ w∈st u,has R w=true
 least:∀ S:List Bool,S.length=R.length→(∀ w∈init,has S w=true)→(∀ u,has S u=true→∀ w∈st u,has S w=true)→Sub R S
section
variable {st:Int→List Int} {init:List Int} {R is:List Bool} {todo:List Int}
theorem Bfs.start (h:Whole st init R):Bfs st init R init (List.replicate R.length false):=by
 have hn:∀ v,has (List.replicate R.length false) v=false:=fun v=>by
  unfold has
  by_cases h:v.toNat < R.length <;> simp[List.getD_eq_getElem?_getD,List.getElem?_replicate,h]
 exact⟨⟨by simp,(fun v hv=>by rw[hn] at hv;cases hv)⟩,h.from_,(fun u hu=>by rw[hn] at hu;cases hu),fun w hw=>Or.inr hw⟩
theorem Bfs.skip {v:Int} (h:Bfs st init R (v::todo) is) (hv:has is v=true):Bfs st init R todo is:=by
 refine⟨h.sub,fun u hu=>h.open_ u (by simp[hu]),fun u hu w hw=>?_,fun w hw=>?_⟩
 ·rcases h.goes u hu w hw with h1|h1
  ·exact .inl h1
  ·rcases List.mem_cons.1 h1 with rfl|h1
   ·exact .inl hv
   ·exact .inr h1
 ·rcases h.from_ w hw with h1|h1
  ·exact .inl h1
  ·rcases List.mem_cons.1 h1 with rfl|h1
   ·exact .inl hv
   ·exact .inr h1
theorem Bfs.mark {v:Int} (hW:Whole st init R) (h:Bfs st init R (v::todo) is):Bfs st init R (todo++st v) (put is v):=by
 have hv:=h.open_ v (by simp)
 obtain⟨h0,h1⟩:=ZeM hv
 have hl:=h.sub.len
 have hp:=Zgj (is:=is) h0 (by omega)
 refine⟨Zvr h.sub hv,fun u hu=>?_,fun u hu w hw=>?_,fun w hw=>?_⟩
 ·rcases List.mem_append.1 hu with hu|hu
  ·exact h.open_ u (by simp[hu])
  ·exact hW.goes v hv u hu
 ·rw[hp,Bool.or_eq_true,decide_eq_true_eq] at hu
  rw[hp,Bool.or_eq_true,decide_eq_true_eq]
  rcases hu with hu|rfl
  ·rcases h.goes u hu w hw with h1|h1
   ·exact .inl (.inl h1)
   ·rcases List.mem_cons.1 h1 with rfl|h1
    ·exact .inl (.inr rfl)
    ·exact .inr (by simp[h1])
  ·exact .inr (by simp[hw])
 ·rw[hp,Bool.or_eq_true,decide_eq_true_eq]
  rcases h.from_ w hw with h1|h1
  ·exact .inl (.inl h1)
  ·rcases List.mem_cons.1 h1 with rfl|h1
   ·exact .inl (.inr rfl)
   ·exact .inr (by simp[h1])
theorem Bfs.done (hW:Whole st init R) (h:Bfs st init R [] is):is=R :=
 h.sub.anti (hW.least is h.sub.len (fun w hw=>(h.from_ w hw).resolve_right (by simp)) (fun u hu w hw=>(h.goes u hu w hw).resolve_right (by simp)))
def bfsM (V K:Nat) (todo:List Int) (is:List Bool):Nat:=(V - cntB is) * (K+1)+todo.length
theorem Zl9 {V K:Nat} {v:Int}:bfsM V K todo is < bfsM V K (v::todo) is:=by simp[bfsM]
theorem Zsh {V K:Nat} {v:Int} (h:Bfs st init R (v::todo) is) (hn:has is v=false) (hV:is.length=V) (hK:(st v).length≤K):bfsM V K (todo++st v) (put is v) < bfsM V K (v::todo) is:=by
 obtain⟨h0,h1⟩:=ZeM (h.open_ v (by simp))
 have hl:=h.sub.len
 have hp:=Zgj (is:=is) h0 (by omega) v
 have hs:=(Sub.put (is:=is) h0).grows (fun e=>by rw[←e,hn] at hp;simp at hp)
 have hc:=Zkq (put is v)
 rw[ZdD] at hc
 obtain⟨d,hd⟩:∃ d,V - cntB is=(V - cntB (put is v))+(d+1):=⟨V - cntB is - (V - cntB (put is v)) - 1,by omega⟩
 simp only[bfsM,List.length_append,List.length_cons]
 rw[hd,Nat.add_mul,Nat.add_mul d 1]
 have:0≤d * (K+1):=Nat.zero_le _
 omega
end
theorem Zsi (v:Int):∀ (rs:List Rule) (i:Nat) (x:Int),x∈byR rs v i↔∃ k:Nat,∃ h:k < rs.length,x=((i+k:Nat):Int)∧rs[k].left=v
 | [],i,x=>by simp[byR]
 | r::rs,i,x=>by
  have ih:=Zsi v rs (i+1) x
  have e:x∈byR (r::rs) v i↔(r.left=v∧x=(i:Int))∨x∈byR rs v (i+1):=by
   rw[byR];split
   ·rename_i h;simp[h]
   ·rename_i h;simp[h]
  rw[e,ih]
  constructor
  ·rintro (⟨h1,h2⟩|⟨k,h,h1,h2⟩)
   ·exact⟨0,by simp,by simpa using h2,by simpa using h1⟩
   ·exact⟨k+1,by simpa using h,by rw[h1];congr 1;omega,by simpa using h2⟩
  ·rintro⟨k,h,h1,h2⟩
   match k with
   | 0=>exact .inl ⟨by simpa using h2,by simpa using h1⟩
   | k+1=>exact .inr ⟨k,by simpa using h,by rw[h1];congr 1;omega,by simpa using h2⟩
theorem by_mem {g:Gram} {v x:Int}:x∈by_ g v↔∃ k:Nat,∃ h:k < g.rules.length,x=(k:Int)∧g.rules[k].left=v:=by
 rw[by_,Zsi];simp
def ZaW (g:Gram) (i:Int):List Int:=(g.rules.getD i.toNat ⟨0,[]⟩).right
theorem ZaX {g:Gram} {k:Nat} (h:k < g.rules.length):ZaW g k=g.rules[k].right:=by
 simp[ZaW,List.getD_eq_getElem?_getD,h]
def Zio (f:List Int→List Int) (g:Gram) (v:Int):List Int:=(by_ g v).flatMap fun i=>f (ZaW g i)
theorem overBy_mem {f:List Int→List Int} {g:Gram} {v w:Int}:w∈Zio f g v↔∃ r∈g.rules,r.left=v∧w∈f r.right:=by
 simp only[Zio,List.mem_flatMap]
 constructor
 ·rintro⟨i,hi,hw⟩
  obtain⟨k,h,rfl,hl⟩:=by_mem.1 hi
  rw[ZaX h] at hw
  exact⟨_,List.getElem_mem h,hl,hw⟩
 ·rintro⟨r,hr,hl,hw⟩
  obtain⟨k,h,rfl⟩:=List.getElem_of_mem hr
  exact⟨k,by_mem.2 ⟨k,h,rfl,hl⟩,by rw[ZaX h];exact hw⟩
theorem ZjB {f:Int→List Int} {B:Nat}:∀ {l:List Int},(∀ x∈l,(f x).length≤B)→(l.flatMap f).length≤l.length * B
 | [],_=>by simp
 | x::l,h=>by
  have:=h x (by simp)
  have:=ZjB (f:=f) (B:=B) (l:=l) (fun y hy=>h y (by simp[hy]))
  simp only[List.flatMap_cons,List.length_append,List.length_cons,Nat.add_mul];omega
theorem Zma {f:List Int→List Int} {g:Gram} (hg:g.ok) (hf:∀ xs:List Int,(f xs).length≤xs.length) (v:Int):(Zio f g v).length≤1600:=by
 have h1:(Zio f g v).length≤(by_ g v).length * 10:=ZjB fun x hx=>by
  obtain⟨k,h,rfl,_⟩:=by_mem.1 hx
  rw[ZaX h]
  have:=hf g.rules[k].right
  have:=hg.right _ (List.getElem_mem h)
  omega
 have h2:=Zfl v g.rules 0
 have h3:=hg.rules
 have:(by_ g v).length * 10≤160 * 10:=Nat.mul_le_mul_right _ (by unfold by_;omega)
 omega
def ZdE (null:List Bool) (c:Bool) (right:List Int) (k:Nat):Bool:=decide (0≤right.getD k 0) && (Zbn (right.take k) null && (c || Zbn (right.drop (k+1)) null))
def ZeD (null:List Bool) (c:Bool) (right:List Int):Nat→List Int
 | 0=>[]
 | k+1=>ZeD null c right k++(if ZdE null c right k=true then [right.getD k 0] else [])
def ZdU (null:List Bool) (c:Bool) (right:List Int):List Int:=ZeD null c right right.length
theorem Zkt (null:List Bool) (c:Bool) (right:List Int):∀ k,(ZeD null c right k).length≤k
 | 0=>Nat.le_refl _
 | k+1=>by
  have:=Zkt null c right k
  rw[ZeD,List.length_append];split <;> simp <;> omega
theorem picks_mem {null:List Bool} {c:Bool} {right:List Int} {w:Int}:∀ {k:Nat},w∈ZeD null c right k↔∃ j,j < k∧ZdE null c right j=true∧w=right.getD j 0
 | 0=>by simp[ZeD]
 | k+1=>by
  rw[ZeD,List.mem_append,picks_mem]
  constructor
  ·rintro (⟨j,h1,h2,h3⟩|h)
   ·exact⟨j,by omega,h2,h3⟩
   ·split at h
    ·rename_i hp;exact⟨k,by omega,hp,by simpa using h⟩
    ·cases h
  ·rintro⟨j,h1,h2,h3⟩
   by_cases e:j=k
   ·subst e;right;rw[if_pos h2];simp[h3]
   ·exact .inl ⟨j,by omega,h2,h3⟩
def ZbK (c:Bool) (g:Gram) (null:List Bool) (v:Int):List Int:=Zio (ZdU null c) g v
abbrev Mat:=List (List Bool)
def rowM (M:Mat) (u:Int):List Bool:=M.getD u.toNat []
def hasM (M:Mat) (u w:Int):Bool:=decide (0≤u) && has (rowM M u) w
structure Sq (V:Nat) (M:Mat):Prop where
 len:M.length=V
 row:∀ r∈M,r.length=V
theorem Sq.at {V:Nat} {M:Mat} (h:Sq V M) {u:Int} (h0:0≤u) (h1:u < V):(rowM M u).length=V:=by
 have hl:u.toNat < M.length:=by have:=h.len;omega
 rw[rowM,List.getD_eq_getElem?_getD,List.getElem?_eq_getElem hl]
 exact h.row _ (List.getElem_mem hl)
theorem Zvs {V:Nat} {M:Mat} (h:Sq V M) {u w:Int} (hh:hasM M u w=true):(0≤u∧u < V)∧0≤w∧w < V:=by
 simp only[hasM,Bool.and_eq_true,decide_eq_true_eq] at hh
 obtain⟨h0,h1⟩:=hh
 have hu:u < V:=by
  rcases Nat.lt_or_ge u.toNat M.length with h2|h2
  ·have:=h.len;omega
  ·rw[rowM,List.getD_eq_getElem?_getD,List.getElem?_eq_none h2] at h1
   have:=(ZeM h1).2;have:=(ZeM h1).1;simp at *;omega
 have h3:=ZeM h1
 rw[h.at h0 hu] at h3
 exact⟨⟨h0,hu⟩,h3⟩
def addM (u w:Int) (M:Mat):Mat:=M.set u.toNat (put (rowM M u) w)
theorem Sq.add {V:Nat} {M:Mat} (h:Sq V M) {u w:Int} (h0:0≤u) (h1:u < V):Sq V (addM u w M):=by
 refine⟨by simpa[addM] using h.len,fun r hr=>?_⟩
 rcases List.mem_or_eq_of_mem_set hr with hr|rfl
 ·exact h.row r hr
 ·rw[ZdD];exact h.at h0 h1
theorem ZtV {V:Nat} {M:Mat} (h:Sq V M) {u w:Int} (h0:0≤u) (h1:u < V) (h2:0≤w) (h3:w < V) (a b:Int):hasM (addM u w M) a b=(hasM M a b || (decide (a=u) && decide (b=w))):=by
 unfold hasM
 by_cases ha:0≤a
 ·simp only[ha,decide_true,Bool.true_and]
  by_cases e:a=u
  ·subst e
   have:rowM (addM a w M) a=put (rowM M a) w:=by
    have hl:a.toNat < M.length:=by have:=h.len;omega
    simp[rowM,addM,List.getD_eq_getElem?_getD,hl]
   rw[this,Zgj h2 (by rw[h.at h0 h1];exact h3)];simp
  ·have:rowM (addM u w M) a=rowM M a:=by
    simp only[rowM,addM,List.getD_eq_getElem?_getD]
    rw[List.getElem?_set_ne (by omega)]
   rw[this];simp[e]
 ·have:a≠u:=by omega
  simp[ha,this]
def Zip (null:List Bool) (c:Bool) (r:Rule):Nat→Mat→Mat
 | 0,M=>M
 | k+1,M=>bif ZdE null c r.right k then addM r.left (r.right.getD k 0) (Zip null c r k M) else Zip null c r k M
def matM (null:List Bool) (c:Bool):List Rule→Mat→Mat
 | [],M=>M
 | r::rs,M=>matM null c rs (Zip null c r r.right.length M)
theorem ZeA {null:List Bool} {c:Bool} {r:Rule} {V:Nat} {M:Mat} (h:Sq V M) (h0:0≤r.left) (h1:r.left < V) (hr:∀ w∈r.right,w < V):∀ k,k≤r.right.length→Sq V (Zip null c r k M)∧∀ a b,hasM (Zip null c r k M) a b=(hasM M a b || (decide (a=r.left) && decide (b∈ZeD null c r.right k)))
 | 0,_=>⟨h,fun a b=>by simp[Zip,ZeD]⟩
 | k+1,hk=>by
  obtain⟨i1,i2⟩:=ZeA h h0 h1 hr k (by omega)
  rw[Zip,ZeD]
  cases hp:ZdE null c r.right k with
  | false=>refine⟨i1,fun a b=>?_⟩;simpa using i2 a b
  | true =>
   have hp':=hp
   simp only[ZdE,Bool.and_eq_true,decide_eq_true_eq] at hp'
   have hm:r.right.getD k 0 < V:=by
    rw[List.getD_eq_getElem?_getD,List.getElem?_eq_getElem (by omega)]
    exact hr _ (List.getElem_mem _)
   refine⟨i1.add h0 h1,fun a b=>?_⟩
   rw[cond_true,ZtV i1 h0 h1 hp'.1 hm,i2,if_pos rfl,Bool.or_assoc]
   congr 1
   rw[←Bool.and_or_distrib_left]
   congr 1
   rw[Bool.eq_iff_iff];simp
theorem Ziq {null:List Bool} {c:Bool} {V:Nat}:∀ {rs:List Rule} {M:Mat},Sq V M→(∀ r∈rs,0≤r.left∧r.left < V∧∀ w∈r.right,w < V)→Sq V (matM null c rs M)∧∀ a b,hasM (matM null c rs M) a b=true↔hasM M a b=true∨∃ r∈rs,r.left=a∧b∈ZdU null c r.right
 | [],M,h,_=>⟨h,fun a b=>by simp[matM]⟩
 | r::rs,M,h,hr=>by
  obtain⟨a1,a2,a3⟩:=hr r (by simp)
  obtain⟨i1,i2⟩:=ZeA (null:=null) (c:=c) h a1 a2 a3 r.right.length (Nat.le_refl _)
  obtain⟨j1,j2⟩:=Ziq (null:=null) (c:=c) (rs:=rs) i1 (fun q hq=>hr q (by simp[hq]))
  refine⟨j1,fun a b=>?_⟩
  rw[matM,j2,i2]
  simp only[Bool.or_eq_true,Bool.and_eq_true,decide_eq_true_eq,List.mem_cons,ZdU]
  constructor
  ·rintro ((h|⟨rfl,h⟩)|⟨q,hq,h⟩)
   ·exact .inl h
   ·exact .inr ⟨r,.inl rfl,rfl,h⟩
   ·exact .inr ⟨q,.inr hq,h⟩
  ·rintro (h|⟨q,rfl|hq,h⟩)
   ·exact .inl (.inl h)
   ·exact .inl (.inr ⟨h.1.symm,h.2⟩)
   ·exact .inr ⟨q,hq,h⟩
def orL (a b:List Bool):List Bool:=List.zipWith (· || ·) a b
theorem ZpP {a b:List Bool} (h:a.length=b.length):(orL a b).length=a.length:=by simp[orL,h]
theorem Zsj {a b:List Bool} (h:a.length=b.length) (w:Int):has (orL a b) w=(has a w || has b w):=by
 unfold has orL
 by_cases h0:0≤w
 ·simp only[h0,decide_true,Bool.true_and,List.getD_eq_getElem?_getD,List.getElem?_zipWith]
  rcases Nat.lt_or_ge w.toNat a.length with hl|hl
  ·rw[List.getElem?_eq_getElem hl,List.getElem?_eq_getElem (by omega)];simp
  ·rw[List.getElem?_eq_none hl,List.getElem?_eq_none (by omega)];simp
 ·simp[h0]
theorem ZtW (a:List Bool):orL a a=a:=by
 refine List.ext_getElem (by simp[orL]) fun i h1 h2=>by simp[orL]
theorem Zvt {a b:List Bool} (h:a.length=b.length):setN (orL a b)=setN a ||| setN b:=by
 apply Nat.eq_of_testBit_eq
 intro j
 rw[Zcn,Nat.testBit_or,Zcn,Zcn,←Zbl,←Zbl,←Zbl,Zsj h]
def rowK (R:List Bool) (k:Nat) (row:List Bool):List Bool:=bif has row k then orL row R else row
def stepK (k:Nat) (M:Mat):Mat:=M.map (rowK (rowM M k) k)
def closeK:Nat→Mat→Mat
 | 0,M=>M
 | k+1,M=>stepK k (closeK k M)
theorem Sq.stepK {V k:Nat} {M:Mat} (h:Sq V M) (hk:k < V):Sq V (stepK k M):=by
 refine⟨by simpa[Proofs.YtbpmepgnjanhnaaGreat.stepK] using h.len,fun r hr=>?_⟩
 obtain⟨q,hq,rfl⟩:=List.mem_map.1 hr
 have h1:=h.row q hq
 have h2:=h.at (u:=(k:Int)) (by omega) (by omega)
 unfold rowK
 cases has q k with
 | true=>rw[cond_true,ZpP (by rw[h1,h2]),h1]
 | false=>exact h1
theorem Zgk {V k:Nat} {M:Mat} (h:Sq V M) (hk:k < V) (a b:Int):hasM (stepK k M) a b=(hasM M a b || (hasM M a k && hasM M k b)):=by
 unfold hasM
 by_cases ha:0≤a
 ·have hk0:(0:Int)≤(k:Int):=by omega
  simp only[ha,hk0,decide_true,Bool.true_and]
  rcases Nat.lt_or_ge a.toNat M.length with hl|hl
  ·have e:rowM (stepK k M) a=rowK (rowM M k) k (rowM M a):=by
    simp[rowM,Proofs.YtbpmepgnjanhnaaGreat.stepK,List.getD_eq_getElem?_getD,hl]
   have h1:=h.at (u:=a) ha (by have:=h.len;omega)
   have h2:=h.at (u:=(k:Int)) (by omega) (by omega)
   rw[e,rowK]
   cases has (rowM M a) k with
   | true=>rw[cond_true,Zsj (by rw[h1,h2])];simp
   | false=>simp
  ·have e:rowM (stepK k M) a=rowM M a:=by
    simp only[rowM,Proofs.YtbpmepgnjanhnaaGreat.stepK,List.getD_eq_getElem?_getD]
    rw[List.getElem?_eq_none (by simpa using hl),List.getElem?_eq_none hl]
   have e2:rowM M a=[]:=by
    simp only[rowM,List.getD_eq_getElem?_getD]
    rw[List.getElem?_eq_none hl];rfl
   have e3:has [] (k:Int)=false:=by simp[has]
   rw[e,e2,e3];simp
 ·simp[ha]
theorem Sq.closeK {V:Nat} {M:Mat} (h:Sq V M):∀ k,k≤V→Sq V (closeK k M)
 | 0,_=>h
 | k+1,hk=>(Sq.closeK h k (by omega)).stepK (by omega)
theorem Zfg {V:Nat} {M:Mat} (h:Sq V M) {a b:Int} (hh:hasM M a b=true):∀ k,k≤V→hasM (closeK k M) a b=true
 | 0,_=>hh
 | k+1,hk=>by rw[closeK,Zgk (h.closeK k (by omega)) (by omega),Zfg h hh k (by omega)];rfl
theorem ZgF {V:Nat} {M:Mat} (h:Sq V M):∀ k,k≤V→∀ (m:Nat),m < k→∀ a b,hasM (closeK k M) a m=true→hasM (closeK k M) m b=true→hasM (closeK k M) a b=true
 | 0,_,m,hm=>by omega
 | k+1,hk,m,hm=>by
  intro a b h1 h2
  have ih:=ZgF h k (by omega)
  have hs:=Zgk (h.closeK k (by omega)) (k:=k) (by omega)
  simp only[closeK,hs,Bool.or_eq_true,Bool.and_eq_true] at h1 h2 ⊢
  by_cases e:m=k
  ·subst e
   have g1:hasM (Proofs.YtbpmepgnjanhnaaGreat.closeK m M) a m=true:=h1.elim id And.left
   have g2:hasM (Proofs.YtbpmepgnjanhnaaGreat.closeK m M) m b=true:=h2.elim id And.right
   exact .inr ⟨g1,g2⟩
  ·have hm':m < k:=by omega
   rcases h1 with h1|⟨h1,h1'⟩ <;> rcases h2 with h2|⟨h2,h2'⟩
   ·exact .inl (ih m hm' a b h1 h2)
   ·exact .inr ⟨ih m hm' a k h1 h2,h2'⟩
   ·exact .inr ⟨h1,ih m hm' k b h1' h2⟩
   ·exact .inr ⟨h1,h2'⟩
theorem ZgG {V:Nat} {M:Mat} (h:Sq V M):∀ k,k≤V→∀ (a:Int) (S:List Bool),(∀ w,hasM M a w=true→has S w=true)→(∀ u,has S u=true→∀ w,hasM M u w=true→has S w=true)→∀ w,hasM (closeK k M) a w=true→has S w=true
 | 0,_,a,S,h1,_,w,hw=>h1 w hw
 | k+1,hk,a,S,h1,h2,w,hw=>by
  have ih:=ZgG h k (by omega)
  rw[closeK,Zgk (h.closeK k (by omega)) (by omega),Bool.or_eq_true,Bool.and_eq_true] at hw
  rcases hw with hw|⟨g1,g2⟩
  ·exact ih a S h1 h2 w hw
  ·exact ih k S (h2 k (ih a S h1 h2 k g1)) h2 w g2
def Zmb (g:Gram):Mat:=List.replicate g.vars.toNat (Zin g)
theorem Zku (g:Gram):Sq g.vars.toNat (Zmb g):=⟨by simp[Zmb],fun r hr=>by rw[(List.mem_replicate.1 hr).2,Zdc]⟩
theorem Zsk (g:Gram) (a b:Int):hasM (Zmb g) a b=false:=by
 unfold hasM rowM Zmb
 by_cases h:a.toNat < g.vars.toNat
 ·simp[List.getD_eq_getElem?_getD,List.getElem?_replicate,h,ZtT]
 ·simp[List.getD_eq_getElem?_getD,List.getElem?_replicate,h,has]
def oneM (c:Bool) (g:Gram):Mat:=matM (ZaJ false g) c g.rules (Zmb g)
def ledM (c:Bool) (g:Gram):Mat:=closeK g.vars.toNat (oneM c g)
theorem Zkv {g:Gram} (hg:g.ok):∀ r∈g.rules,0≤r.left∧r.left < (g.vars.toNat:Int)∧∀ w∈r.right,w < (g.vars.toNat:Int):=fun r hr=>by
 have:=hg.left0 r hr
 have:=hg.left r hr
 exact⟨by omega,by omega,fun w hw=>by have:=hg.hi r hr w hw;omega⟩
theorem ZnJ {c:Bool} {g:Gram} (hg:g.ok):Sq g.vars.toNat (oneM c g):=(Ziq (Zku g) (Zkv hg)).1
theorem Zg6 {c:Bool} {g:Gram} (hg:g.ok) (u w:Int):hasM (oneM c g) u w=true↔w∈ZbK c g (ZaJ false g) u:=by
 rw[oneM,(Ziq (Zku g) (Zkv hg)).2,Zsk,ZbK,overBy_mem]
 simp
theorem Zel {c:Bool} {g:Gram} (hg:g.ok):Sq g.vars.toNat (ledM c g):=(ZnJ hg).closeK _ (Nat.le_refl _)
theorem ZfN {c:Bool} {g:Gram} (hg:g.ok) {v:Int} (h0:0≤v) (h1:v < g.vars):Whole (ZbK c g (ZaJ false g)) (ZbK c g (ZaJ false g) v) (rowM (ledM c g) v):=by
 have hq:=ZnJ (c:=c) hg
 have hr:∀ w,has (rowM (ledM c g) v) w=hasM (ledM c g) v w:=fun w=>by simp[hasM,h0]
 refine⟨fun w hw=>?_,fun u hu w hw=>?_,fun S hl hS1 hS2=>⟨hl.symm,fun w hw=>?_⟩⟩
 ·rw[hr];exact Zfg hq ((Zg6 hg _ _).2 hw) _ (Nat.le_refl _)
 ·rw[hr] at hu ⊢
  obtain⟨_,b1,b2⟩:=Zvs (Zel hg) hu
  obtain⟨k,rfl⟩:∃ k:Nat,u=(k:Int):=⟨u.toNat,by omega⟩
  exact ZgF hq _ (Nat.le_refl _) k (by omega) v w hu (Zfg hq ((Zg6 hg _ _).2 hw) _ (Nat.le_refl _))
 ·rw[hr] at hw
  exact ZgG hq _ (Nat.le_refl _) v S (fun x hx=>hS1 x ((Zg6 hg _ _).1 hx)) (fun u hu x hx=>hS2 u hu x ((Zg6 hg _ _).1 hx)) w hw
end Go.Proofs.YtbpmepgnjanhnaaGreat
