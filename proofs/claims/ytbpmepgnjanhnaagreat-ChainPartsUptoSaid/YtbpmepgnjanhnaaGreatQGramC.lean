import Derived.Test.YtbpmepgnjanhnaaGreatG1
import Derived.Test.YtbpmepgnjanhnaaGreatS5
set_option linter.unusedVariables false
set_option linter.unusedSimpArgs false
set_option linter.unusedSectionVars false
namespace Go.Proofs.YtbpmepgnjanhnaaGreat
open Go.RowKit
set_option maxRecDepth 100000
abbrev nilT:D:=.raw (.slice none 0 0)
theorem ZwY {r q:Rule} (h1:r.left=q.left) (h2:r.right=q.right):r=q:=by cases r;cases q;simp_all
theorem ZwZ {a b:Gram} (h1:a.vars=b.vars) (h2:a.terms=b.terms) (h3:a.start=b.start) (h4:a.rules=b.rules):a=b:=by cases a;cases b;simp_all
set_option maxHeartbeats 4000000 in
theorem Zl3 {t u:Bool} {a b:Gram} (ha:a.fit) (hb:b.fit):ACalls Tryz.prog 13 [.d (Za6 t a),.d (Za6 u b)] [] (B (decide (a=b))) []:=by
 refine ACalls.intro (n:=70) Tryz.func13 rfl rfl (by simp) (by rfl) ?_
 simp only[Zal]
 have hla:=ha.rules
 have hlb:=hb.rules
 by_cases h1:a.vars=b.vars
 rotate_left
 ·rw[decide_eq_false (fun e=>h1 (by rw[e]))]
  refine VA ?_
  exact fin
 by_cases h2:a.terms=b.terms
 rotate_left
 ·rw[decide_eq_false (fun e=>h2 (by rw[e]))]
  refine VA ?_
  exact fin
 by_cases h3:a.start=b.start
 rotate_left
 ·rw[decide_eq_false (fun e=>h3 (by rw[e]))]
  refine VA ?_
  exact fin
 by_cases h4:(a.rules.length:Int)=b.rules.length
 rotate_left
 ·rw[decide_eq_false (fun e=>h4 (by rw[e]))]
  refine VA ?_
  exact fin
 refine VA ?_
 refine Zak (X:=Nat) (fun k=>k≤a.rules.length∧∀ j,j < k→∀ (hx:j < a.rules.length) (hy:j < b.rules.length),a.rules[j]=b.rules[j]) (fun k=>[(5,I k),(3,.ptr 3 0),(2,.ptr 2 0)]) (fun _=>[(2,Zay t a),(3,Zay u b)]) (fun k=>a.rules.length - k) 0
  ⟨Nat.zero_le _,by omega⟩ ?_
 rintro k ⟨hk,hp⟩
 by_cases hlt:k < a.rules.length
 ·have hlt':k < b.rules.length:=by omega
  have hra:=ha.right _ (List.getElem_mem hlt)
  have hrb:=hb.right _ (List.getElem_mem hlt')
  by_cases h5:a.rules[k].left=b.rules[k].left
  ·refine VA ?_
   refine Zab [] (hA:=ZlC) (hr:=?_)
   by_cases h6:a.rules[k].right=b.rules[k].right
   ·rw[decide_eq_true h6]
    refine VA ?_
    exact Zae (k+1) (a:=⟨by omega,ZhL hp (fun _ _=>ZwY h5 h6)⟩)
   ·have e:decide (a=b)=false:=decide_eq_false (fun e=>h6 (by subst e;rfl))
    rw[decide_eq_false h6,e]
    refine VA ?_
    exact fin
  ·have e:decide (a=b)=false:=decide_eq_false (fun e=>h5 (by subst e;rfl))
   rw[e]
   refine VA ?_
   exact fin
 ·rw[decide_eq_true (ZwZ h1 h2 h3 (List.ext_getElem (by omega) (fun j g1 g2=>hp j (by omega) g1 g2)))]
  refine VA ?_
  exact fin
theorem ZbX {t:Bool} {xs:List Int} (hl:xs.length≤100000000:=by exact Vm) :
  ACalls Tryz.prog 52 [.d (ints t xs)] [] (.own 5 xs.length) [(5,.row 3 1 (xs.map iD))]:=by
 refine ACalls.intro (n:=8) Tryz.func52 rfl rfl (by simp) (by rfl) ?_
 simp only[Zal]
 refine ZdS ?_
 refine Zlq ?_
 refine Zv8 (hr:=?_)
 refine Zb7 ?_
 refine Zby ?_
 refine ZdS ?_
 refine ZdS ?_
 refine Zuh ?_ ?_ ZxK
 ·intro hx
  have hx':xs=[]:=by simpa using hx
  subst hx'
  repeat (first|refine wkr ?_|refine Zaa (hr:=?_))
  refine Zbi 2 5 3 1 rfl rfl rfl ?_
  refine VA ?_
  exact fin
 ·refine VA ?_
  exact finx
theorem Tree.eta (x:Tree):x=.mk x.rule x.kids:=by cases x;rfl
theorem Tree.lt {x y:Tree} (h:y∈x.kids):SizeOf.sizeOf y < SizeOf.sizeOf x:=by
 cases x with
 | mk r k =>
  simp only[Tree.kids] at h
  have:=List.sizeOf_lt_of_mem h
  simp;omega
theorem Tree.ind {P:Tree→Prop} (h:∀ x,(∀ y∈x.kids,P y)→P x):∀ x,P x:=by
 have key:∀ (n:Nat) (x:Tree),SizeOf.sizeOf x < n→P x:=by
  intro n
  induction n with
  | zero=>intro x hx;omega
  | succ n ih=>exact fun x hx=>h x (fun y hy=>ih y (by have:=Tree.lt hy;omega))
 exact fun x=>key _ x (Nat.lt_succ_self _)
mutual
def cnt:Tree→Nat
 | .mk _ k=>1+cnts k
def cnts:List Tree→Nat
 | []=>0
 | x::r=>cnt x+cnts r
end
theorem Ze4 (x:Tree):cnt x=1+cnts x.kids:=by cases x;rfl
theorem Zw0 (x:Tree):1≤cnt x:=by rw[Ze4];omega
theorem ZbG:∀ (a b:List Tree),cnts (a++b)=cnts a+cnts b
 | [],b=>by simp[cnts]
 | x::a,b=>by simp only[List.cons_append,cnts,ZbG a b];omega
theorem ZcY {x:Tree}:∀ {l:List Tree},x∈l→cnt x≤cnts l
 | y::l,h=>by
  simp only[cnts]
  rcases List.mem_cons.1 h with rfl|h
  ·omega
  ·have:=ZcY h;omega
theorem ZbC:∀ (l:List Tree),l.length≤cnts l
 | []=>by simp
 | x::l=>by have:=ZbC l;have:=Zw0 x;simp only[List.length_cons,cnts];omega
theorem Zl4 {l:List Tree} {i:Nat} (h:i < l.length):cnts (l.drop i)=cnt l[i]+cnts (l.drop (i+1)):=by
 rw[List.drop_eq_getElem_cons h,cnts]
theorem Zh0 {l:List Tree} {i:Nat} (h:i < l.length):cnts (l.take (i+1))=cnts (l.take i)+cnt l[i]:=by
 rw[List.take_succ_eq_append_getElem h,ZbG];simp[cnts]
def ZeY (l:Int) (n:Nat):Int:=if (n:Int)≤l then l - n else -1
mutual
def fits (g:Gram):Tree→Int→Bool
 | .mk r k,v=>match (if 0≤r then g.rules[r.toNat]? else none) with
  | none=>false
  | some ru=>decide (ru.left=v) && (decide ((kids ru.right).length=k.length) && fitss g k (kids ru.right))
def fitss (g:Gram):List Tree→List Int→Bool
 | x::k,v::vs=>fits g x v && fitss g k vs
 | _,_=>true
end
theorem Zgz (g:Gram) (x:Tree) (v:Int):fits g x v=match (if 0≤x.rule then g.rules[x.rule.toNat]? else none) with
  | none=>false
  | some ru=>decide (ru.left=v) && (decide ((kids ru.right).length=x.kids.length) && fitss g x.kids (kids ru.right)):=by cases x;rw[fits];rfl
theorem ZqH {g:Gram} {k:List Tree} {vs:List Int} {i:Nat} (h1:i < k.length) (h2:i < vs.length):fitss g (k.drop i) (vs.drop i)=(fits g k[i] vs[i] && fitss g (k.drop (i+1)) (vs.drop (i+1))):=by
 rw[List.drop_eq_getElem_cons h1,List.drop_eq_getElem_cons h2,fitss]
theorem Zsz {g:Gram} {k:List Tree} {vs:List Int} {i:Nat} (h1:¬ i < k.length):fitss g (k.drop i) (vs.drop i)=true:=by
 rw[List.drop_of_length_le (by omega)];simp[fitss]
mutual
def ZcZ (g:Gram):Tree→List Int
 | .mk r k=>wordL g ((g.rules[r.toNat]?).getD ⟨0,[]⟩).right k
 termination_by x=>(cnt x,0)
 decreasing_by simp[cnt,Prod.lex_def]
def wordL (g:Gram):List Int→List Tree→List Int
 | [],_=>[]
 | s::ss,k=>if s < 0 then (-1 - s)::wordL g ss k else match k with
  | x::k=>ZcZ g x++wordL g ss k
  | []=>wordL g ss []
 termination_by ss k=>(cnts k,ss.length+1)
 decreasing_by all_goals (simp[cnts,Prod.lex_def];try omega)
end
mutual
def ordT:Tree→Tree→Int
 | .mk r k,.mk s l=>if r < s then -1 else if s < r then 1 else ordL k l
def ordL:List Tree→List Tree→Int
 | [],[]=>0
 | [],_::_ => -1
 | _::_,[]=>1
 | a::k,b::l=>if ordT a b=0 then ordL k l else ordT a b
end
theorem ZsA (a b:Tree):ordT a b=if a.rule < b.rule then -1 else if b.rule < a.rule then 1 else ordL a.kids b.kids:=by cases a;cases b;rw[ordT];rfl
theorem Zl5 {k l:List Tree} {i:Nat} (h1:i < k.length) (h2:i < l.length):ordL (k.drop i) (l.drop i)=if ordT k[i] l[i]=0 then ordL (k.drop (i+1)) (l.drop (i+1)) else ordT k[i] l[i]:=by
 rw[List.drop_eq_getElem_cons h1,List.drop_eq_getElem_cons h2,ordL]
theorem ZsB {k l:List Tree} {i:Nat} (h1:¬ i < k.length) (h2:i < l.length):ordL (k.drop i) (l.drop i) = -1:=by
 rw[List.drop_of_length_le (by omega),List.drop_eq_getElem_cons h2,ordL]
theorem ZsC {k l:List Tree} {i:Nat} (h1:i < k.length) (h2:¬ i < l.length):ordL (k.drop i) (l.drop i)=1:=by
 rw[List.drop_eq_getElem_cons h1,List.drop_of_length_le (show l.length≤i by omega),ordL]
theorem Zpl {k l:List Tree} {i:Nat} (h1:¬ i < k.length) (h2:¬ i < l.length):ordL (k.drop i) (l.drop i)=0:=by
 rw[List.drop_of_length_le (by omega),List.drop_of_length_le (by omega),ordL]
mutual
theorem Zc0:∀ (a b:Tree),ordT b a = -ordT a b
 | .mk r k,.mk s l=>by
  have:=Zpm k l
  rw[ordT,ordT]
  by_cases h1:r < s
  ·have h2:¬ s < r:=by omega
   simp[h1,h2]
  ·by_cases h2:s < r
   ·simp[h1,h2]
   ·simp[h1,h2,this]
theorem Zpm:∀ (a b:List Tree),ordL b a = -ordL a b
 | [],[]=>by simp[ordL]
 | [],_::_=>by simp[ordL]
 | _::_,[]=>by simp[ordL]
 | a::k,b::l=>by
  have h1:=Zc0 a b
  have h2:=Zpm k l
  rw[ordL,ordL,h1,h2]
  by_cases h:ordT a b=0
  ·rw[if_pos h,if_pos (by omega)]
  ·rw[if_neg h,if_neg (by omega)]
end
mutual
theorem Zh1:∀ (a:Tree),ordT a a=0
 | .mk r k=>by rw[ordT,if_neg (by omega),if_neg (by omega)];exact Zl6 k
theorem Zl6:∀ (a:List Tree),ordL a a=0
 | []=>by simp[ordL]
 | a::k=>by rw[ordL,Zh1 a,if_pos rfl];exact Zl6 k
end
mutual
theorem ZdL:∀ (a b:Tree),ordT a b=0→a=b
 | .mk r k,.mk s l,h=>by
  rw[ordT] at h
  by_cases h1:r < s
  ·rw[if_pos h1] at h;cases h
  ·by_cases h2:s < r
   ·rw[if_neg h1,if_pos h2] at h;cases h
   ·rw[if_neg h1,if_neg h2] at h
    obtain rfl:r=s:=by omega
    rw[Zl7 k l h]
theorem Zl7:∀ (a b:List Tree),ordL a b=0→a=b
 | [],[],_=>rfl
 | [],_::_,h=>by simp[ordL] at h
 | _::_,[],h=>by simp[ordL] at h
 | a::k,b::l,h=>by
  rw[ordL] at h
  by_cases h1:ordT a b=0
  ·rw[if_pos h1] at h;rw[ZdL a b h1,Zl7 k l h]
  ·rw[if_neg h1] at h;exact absurd h h1
end
mutual
theorem ZeJ:∀ (a b c:Tree),ordT a b≤0→ordT b c≤0→ordT a c≤0
 | .mk r k,.mk s l,.mk q m,h1,h2=>by
  rw[ordT] at h1 h2 ⊢
  by_cases a1:r < s
  ·by_cases b1:s < q
   ·rw[if_pos (by omega)];decide
   ·by_cases b2:q < s
    ·rw[if_neg b1,if_pos b2] at h2;omega
    ·rw[if_pos (by omega)];decide
  ·by_cases a2:s < r
   ·rw[if_neg a1,if_pos a2] at h1;omega
   ·rw[if_neg a1,if_neg a2] at h1
    by_cases b1:s < q
    ·rw[if_pos (by omega)];decide
    ·by_cases b2:q < s
     ·rw[if_neg b1,if_pos b2] at h2;omega
     ·rw[if_neg b1,if_neg b2] at h2
      rw[if_neg (by omega),if_neg (by omega)]
      exact ZjE k l m h1 h2
theorem ZjE:∀ (a b c:List Tree),ordL a b≤0→ordL b c≤0→ordL a c≤0
 | [],_,[],_,_=>by simp[ordL]
 | [],_,_::_,_,_=>by simp[ordL]
 | _::_,[],_,h1,_=>by simp[ordL] at h1
 | _::_,_::_,[],_,h2=>by simp[ordL] at h2
 | a::k,b::l,c::m,h1,h2=>by
  rw[ordL] at h1 h2 ⊢
  by_cases a0:ordT a b=0
  ·obtain rfl:=ZdL a b a0
   rw[if_pos a0] at h1
   by_cases b0:ordT a c=0
   ·rw[if_pos b0] at h2 ⊢;exact ZjE k l m h1 h2
   ·rw[if_neg b0] at h2 ⊢;exact h2
  ·rw[if_neg a0] at h1
   by_cases b0:ordT b c=0
   ·obtain rfl:=ZdL b c b0
    rw[if_neg a0];exact h1
   ·rw[if_neg b0] at h2
    have h3:=ZeJ a b c h1 h2
    by_cases c0:ordT a c=0
    ·exfalso
     obtain rfl:=ZdL a c c0
     have:=Zc0 a b
     omega
    ·rw[if_neg c0];exact h3
end
theorem IsElt.treeE {h:Hp} {t u:Bool} {sz i off:Nat} {xs:List Tree} (hi:i < xs.length):IsElt h (.eptr t sz (xs.map (ZaY u)) i off) (Zbf u xs[i]) off []:=by
 have:=IsElt.mapE (h:=h) (t:=t) (sz:=sz) (off:=off) (f:=ZaY u) hi
 rwa [ZcM] at this
theorem IsElt.treeO {h:Hp} {u:Bool} {k m sz i off:Nat} {e:TypeId} {xs:List Tree} (hk:hget h k=some (.row e sz (xs.map (ZaY u)))) (hm:(xs.map (ZaY u)).length=m) (hi:i < xs.length):IsElt h (.optr k m i off) (Zbf u xs[i]) off [(k,some (.row e sz (xs.map (ZaY u))))]:=by
 have:=IsElt.mapO (f:=ZaY u) (off:=off) hk hm hi
 rwa [ZcM] at this
structure Gram.ok (g:Gram):Prop where
 vars1:1≤g.vars
 vars:g.vars≤64
 terms0:0≤g.terms
 terms:g.terms≤16
 start0:0≤g.start
 start:g.start < g.vars
 rules:g.rules.length≤160
 right:∀ r∈g.rules,r.right.length≤10
 left0:∀ r∈g.rules,0≤r.left
 left:∀ r∈g.rules,r.left < g.vars
 lo:∀ r∈g.rules,∀ s∈r.right, -g.terms≤s
 hi:∀ r∈g.rules,∀ s∈r.right,s < g.vars
theorem Zbz {g:Gram} {r:Rule} (h:ZaP g r=0):r.right.length≤10∧0≤r.left∧r.left < g.vars∧∀ s∈r.right, -g.terms≤s∧s < g.vars:=by
 unfold ZaP at h
 split at h
 ·cases h
 ·split at h
  ·cases h
  ·rename_i h1 h2
   simp only[not_or] at h2
   refine⟨by omega,by omega,by omega,fun s hs=>?_⟩
   have h3:=h2.2.2
   simp only[Bool.not_eq_true,List.any_eq_false] at h3
   have:=h3 s hs
   simp[ZdG] at this
   omega
theorem Zh2 {g:Gram}:∀ {rs:List Rule} {i:Nat},(Zdr g rs i).code=0→∀ r∈rs,ZaP g r=0
 | [],_,_,r,hr=>by cases hr
 | q::rs,i,h,r,hr=>by
  rw[Zdr] at h
  split at h
  ·rename_i h0
   rcases List.mem_cons.1 hr with rfl|hr
   ·exact h0
   ·exact Zh2 h r hr
  ·rename_i h0;exact absurd h h0
theorem Zl8 {g:Gram}:∀ {rs:List Rule} {i:Nat},(∀ r∈rs,ZaP g r=0)→Zdr g rs i=⟨0,0⟩
 | [],_,_=>rfl
 | q::rs,i,h=>by
  rw[Zdr,if_pos (h q (by simp))]
  exact Zl8 (fun r hr=>h r (by simp[hr]))
theorem Za1 {g:Gram} (h:(Zac g).code=0):g.ok:=by
 unfold Zac at h
 split at h
 ·rename_i hh
  split at h
  ·cases h
  ·have hz:=Zh2 h
   obtain⟨a1,a2,a3,a4,a5,a6⟩:=hh
   exact⟨a1,a2,a3,a4,a5,a6,by omega,fun r hr=>(Zbz (hz r hr)).1,fun r hr=>(Zbz (hz r hr)).2.1,fun r hr=>(Zbz (hz r hr)).2.2.1,
    fun r hr s hs=>((Zbz (hz r hr)).2.2.2 s hs).1,fun r hr s hs=>((Zbz (hz r hr)).2.2.2 s hs).2⟩
 ·cases h
theorem Gram.ok.fault {g:Gram} (h:g.ok):Zac g=⟨0,0⟩:=by
 unfold Zac
 rw[if_pos ⟨h.vars1,h.vars,h.terms0,h.terms,h.start0,h.start⟩,if_neg (by have:=h.rules;omega)]
 refine Zl8 (fun r hr=>?_)
 unfold ZaP
 rw[if_neg (by have:=h.right r hr;omega),if_neg]
 simp only[not_or]
 refine⟨by have:=h.left0 r hr;omega,by have:=h.left r hr;omega,?_⟩
 simp only[Bool.not_eq_true,List.any_eq_false]
 intro s hs
 have:=h.lo r hr s hs
 have:=h.hi r hr s hs
 simp[ZdG];omega
theorem ZdM {g:Gram} (h:(Zac g).code=0):Zac g=⟨0,0⟩:=(Za1 h).fault
theorem Gram.ok.fit {g:Gram} (h:g.ok):g.fit:=⟨by have:=h.rules;omega,fun r hr=>by have:=h.right r hr;omega⟩
theorem Zpn (g:Gram) (x:Tree):ZcZ g x=wordL g ((g.rules[x.rule.toNat]?).getD ⟨0,[]⟩).right x.kids:=by cases x;rw[ZcZ];rfl
theorem Zh3 (g:Gram) (k:List Tree):wordL g [] k=[]:=by rw[wordL.eq_def]
theorem Zh4 {g:Gram} {s:Int} (h:s < 0) (ss:List Int) (k:List Tree):wordL g (s::ss) k=(-1 - s)::wordL g ss k:=by rw[wordL.eq_def];simp[h]
theorem Zh5 {g:Gram} {s:Int} (h:¬ s < 0) (ss:List Int) (x:Tree) (k:List Tree):wordL g (s::ss) (x::k)=ZcZ g x++wordL g ss k:=by rw[wordL.eq_def];simp[h]
theorem ZsD {g:Gram} {s:Int} (h:¬ s < 0) (ss:List Int):wordL g (s::ss) []=wordL g ss []:=by rw[wordL.eq_def];simp[h]
theorem ZsE {g:Gram} {l:List Int} {k:List Tree} {j:Nat} (h:j < l.length) (hs:l[j] < 0):wordL g (l.drop j) k=(-1 - l[j])::wordL g (l.drop (j+1)) k:=by
 rw[List.drop_eq_getElem_cons h,Zh4 hs]
theorem ZsF {g:Gram} {l:List Int} {k:List Tree} {j q:Nat} (h:j < l.length) (hs:¬ l[j] < 0) (hq:q < k.length):wordL g (l.drop j) (k.drop q)=ZcZ g k[q]++wordL g (l.drop (j+1)) (k.drop (q+1)):=by
 rw[List.drop_eq_getElem_cons h,List.drop_eq_getElem_cons hq,Zh5 hs]
theorem ZsG {g:Gram} {l:List Int} {k:List Tree} {j:Nat} (h:¬ j < l.length):wordL g (l.drop j) k=[]:=by
 rw[List.drop_of_length_le (by omega),Zh3]
theorem ZkB {g:Gram}:∀ {k:List Tree} {vs:List Int},fitss g k vs=true→∀ {q:Nat} (h1:q < k.length) (h2:q < vs.length),fits g k[q] vs[q]=true
 | [],_,_,q,h1,_=>by simp at h1
 | _::_,[],_,q,_,h2=>by simp at h2
 | x::k,v::vs,h,q,h1,h2=>by
  simp only[fitss,Bool.and_eq_true] at h
  match q with
  | 0=>exact h.1
  | q+1=>exact ZkB h.2 (by simpa using h1) (by simpa using h2)
theorem ZeK {g:Gram} {x:Tree} {v:Int} (h:fits g x v=true):∃ i:Nat,∃ hi:i < g.rules.length,x.rule=(i:Int)∧g.rules[i].left=v∧(kids g.rules[i].right).length=x.kids.length∧fitss g x.kids (kids g.rules[i].right)=true∧ZcZ g x=wordL g g.rules[i].right x.kids:=by
 have h':=h
 rw[Zgz] at h
 by_cases h0:0≤x.rule
 ·rw[if_pos h0] at h
  cases hg:g.rules[x.rule.toNat]? with
  | none=>rw[hg] at h;cases h
  | some ru =>
   rw[hg] at h
   obtain⟨hi,rfl⟩:=List.getElem?_eq_some_iff.1 hg
   simp only[Bool.and_eq_true,decide_eq_true_eq] at h
   refine⟨x.rule.toNat,hi,by omega,h.1,h.2.1,h.2.2,?_⟩
   rw[Zpn,hg];rfl
 ·rw[if_neg h0] at h;cases h
mutual
theorem Zhs {g:Gram} (R:Nat) (hR:∀ r∈g.rules,r.right.length≤R):∀ (x:Tree),(ZcZ g x).length≤R * cnt x
 | .mk r k=>by
  rw[ZcZ]
  have h:=Zht R hR ((g.rules[r.toNat]?).getD ⟨0,[]⟩).right k
  have h2:((g.rules[r.toNat]?).getD ⟨0,[]⟩).right.length≤R:=by
   cases hg:g.rules[r.toNat]? with
   | none=>simp
   | some ru=>obtain⟨hi,rfl⟩:=List.getElem?_eq_some_iff.1 hg;exact hR _ (List.getElem_mem hi)
  simp only[cnt]
  rw[Nat.mul_add];omega
 termination_by x=>(cnt x,0)
 decreasing_by simp[cnt,Prod.lex_def]
theorem Zht {g:Gram} (R:Nat) (hR:∀ r∈g.rules,r.right.length≤R):∀ (ss:List Int) (k:List Tree),(wordL g ss k).length≤ss.length+R * cnts k
 | [],k=>by simp[Zh3]
 | s::ss,k=>by
  by_cases hs:s < 0
  ·have:=Zht R hR ss k
   rw[Zh4 hs]
   simp only[List.length_cons];omega
  ·match k with
   | x::k =>
    have h1:=Zhs R hR x
    have h2:=Zht R hR ss k
    rw[Zh5 hs]
    simp only[List.length_append,List.length_cons,cnts,Nat.mul_add];omega
   | [] =>
    have h2:=Zht R hR ss []
    rw[ZsD hs]
    simp only[List.length_cons];omega
 termination_by ss k=>(cnts k,ss.length+1)
 decreasing_by all_goals (simp[cnts,Prod.lex_def];try omega)
end
def ZaN (g:Gram) (x:Tree) (v:Int):Fault:=if (Zac g).code=0 then (if cnt x≤400 then (if fits g x v=true then ⟨0,0⟩ else ⟨13, -1⟩) else ⟨6, -1⟩) else Zac g
theorem Zl9 {xs:List Int} {j:Nat} (h:j < xs.length) (hs:¬ xs[j] < 0):(kids (xs.take j)).length < (kids xs).length:=by
 have e:xs=xs.take j++xs.drop j:=by simp
 have e2:kids xs=kids (xs.take j)++kids (xs.drop j):=(congrArg kids e).trans (by simp only[kids,List.filter_append])
 rw[e2,List.length_append,List.drop_eq_getElem_cons h]
 have:kids (xs[j]::xs.drop (j+1))=xs[j]::kids (xs.drop (j+1)):=by simp only[kids];rw[List.filter_cons_of_pos (by simp;omega)]
 rw[this];simp
def ZsH (g:Gram) (x:Tree):List Int:=if (ZaN g x g.start).code=0 then ZcZ g x else []
theorem Ze5 {g:Gram} {x:Tree} {v:Int} (h:(ZaN g x v).code=0):g.ok∧cnt x≤400∧fits g x v=true∧ZaN g x v=⟨0,0⟩:=by
 unfold ZaN at h ⊢
 split at h
 ·rename_i h0
  rw[if_pos h0]
  split at h
  ·rename_i h1
   rw[if_pos h1]
   split at h
   ·rename_i h2;rw[if_pos h2];exact⟨Za1 h0,h1,h2,rfl⟩
   ·cases h
  ·cases h
 ·rename_i h0;exact absurd h h0
def setN:List Bool→Nat
 | []=>0
 | b::r=>b.toNat+2 * setN r
theorem ZsI:∀ (l:List Bool),setN l < 2 ^ l.length
 | []=>by simp[setN]
 | b::r=>by
  have:=ZsI r
  have:b.toNat≤1:=Bool.toNat_le b
  simp only[setN,List.length_cons,Nat.pow_succ];omega
theorem Zcq {l:List Bool} (h:l.length≤64):setN l < 18446744073709551616 :=
 Nat.lt_of_lt_of_le (ZsI l) (Nat.le_trans (Nat.pow_le_pow_right (by decide) h) (by decide))
theorem ZbM:∀ (l:List Bool) (i:Nat),(setN l).testBit i=l.getD i false
 | [],i=>by simp[setN]
 | b::r,0=>by cases b <;> simp[setN,Nat.testBit_zero] <;> omega
 | b::r,i+1=>by
  rw[Nat.testBit_succ,setN]
  have e:(b.toNat+2 * setN r) / 2=setN r:=by have:b.toNat≤1:=Bool.toNat_le b;omega
  rw[e,ZbM r i];simp
theorem Zvf {a b:List Bool} (hl:a.length=b.length) (h:setN a=setN b):a=b:=by
 refine List.ext_getElem hl fun i h1 h2=>?_
 have e1:=ZbM a i
 have e2:=ZbM b i
 rw[h,e2] at e1
 simpa[List.getD_eq_getElem?_getD,h1,h2] using e1.symm
theorem Zvg {l:List Bool} {i:Nat} (h:i < l.length):setN (l.set i true)=setN l ||| (1 <<< i):=by
 apply Nat.eq_of_testBit_eq
 intro j
 rw[ZbM,Nat.testBit_or,ZbM,Nat.one_shiftLeft,Nat.testBit_two_pow]
 simp only[List.getD_eq_getElem?_getD,List.getElem?_set]
 by_cases e:i=j
 ·subst e;simp[h]
 ·simp[e]
theorem Zhu (n:Nat):setN (List.replicate n false)=0:=by
 induction n with
 | zero=>rfl
 | succ n ih=>simp[List.replicate_succ,setN,ih]
def has (is:List Bool) (v:Int):Bool:=decide (0≤v) && is.getD v.toNat false
def put (is:List Bool) (v:Int):List Bool:=is.set v.toNat true
theorem ZbN (is:List Bool) (v:Int):(put is v).length=is.length:=by simp[put]
theorem Zbl (is:List Bool) (k:Nat):has is k=is.getD k false:=by simp[has]
theorem Zew {is:List Bool} {v:Int} (h0:0≤v) (h1:v < is.length) (u:Int):has (put is v) u=(has is u || decide (u=v)):=by
 unfold has put
 by_cases hu:0≤u
 ·simp only[hu,decide_true,Bool.true_and,List.getD_eq_getElem?_getD,List.getElem?_set]
  by_cases e:u=v
  ·subst e
   rw[if_pos rfl,if_pos (by omega)];simp
  ·rw[if_neg (by omega)];simp[e]
 ·have:u≠v:=by omega
  simp[hu,this]
theorem Ze6 {is:List Bool} {v:Int} (h:has is v=true):0≤v∧v < is.length:=by
 simp only[has,Bool.and_eq_true,decide_eq_true_eq] at h
 refine⟨h.1,?_⟩
 rcases Nat.lt_or_ge v.toNat is.length with h1|h1
 ·omega
 ·rw[List.getD_eq_getElem?_getD,List.getElem?_eq_none h1] at h;simp at h
theorem Zw1 {a b:List Bool} (hl:a.length=b.length) (h:∀ v,has a v=has b v):a=b:=by
 refine List.ext_getElem hl fun i h1 h2=>?_
 have:=h i
 rw[Zbl,Zbl] at this
 simpa[List.getD_eq_getElem?_getD,h1,h2] using this
structure Sub (a b:List Bool):Prop where
 len:a.length=b.length
 sub:∀ v,has a v=true→has b v=true
theorem Sub.refl (a:List Bool):Sub a a:=⟨rfl,fun _ h=>h⟩
theorem Sub.trans {a b c:List Bool} (h:Sub a b) (k:Sub b c):Sub a c:=⟨h.len.trans k.len,fun v hv=>k.sub v (h.sub v hv)⟩
theorem Sub.anti {a b:List Bool} (h:Sub a b) (k:Sub b a):a=b:=Zw1 h.len fun v=>by
 rw[Bool.eq_iff_iff];exact⟨h.sub v,k.sub v⟩
theorem Sub.put {is:List Bool} {v:Int} (h0:0≤v):Sub is (put is v):=by
 refine⟨by simp[Proofs.YtbpmepgnjanhnaaGreat.put],fun u hu=>?_⟩
 by_cases h1:v < is.length
 ·rw[Zew h0 h1,hu];rfl
 ·rw[Proofs.YtbpmepgnjanhnaaGreat.put,List.set_eq_of_length_le (by omega)];exact hu
theorem ZsJ {a b:List Bool} (h:Sub a b) {v:Int} (hv:has b v=true):Sub (put a v) b:=by
 obtain⟨h0,h1⟩:=Ze6 hv
 refine⟨by rw[ZbN];exact h.len,fun u hu=>?_⟩
 rw[Zew h0 (by have:=h.len;omega),Bool.or_eq_true,decide_eq_true_eq] at hu
 rcases hu with hu|rfl
 ·exact h.sub u hu
 ·exact hv
def cntB:List Bool→Nat
 | []=>0
 | b::r=>b.toNat+cntB r
theorem ZnR:∀ (l:List Bool),cntB l≤l.length
 | []=>Nat.le_refl _
 | b::r=>by have:=ZnR r;have:b.toNat≤1:=Bool.toNat_le b;simp only[cntB,List.length_cons];omega
theorem Zpo:∀ {a b:List Bool},Sub a b→cntB a≤cntB b∧(cntB a=cntB b→a=b)
 | [],[],_=>⟨Nat.le_refl _,fun _=>rfl⟩
 | [],y::b,h=>by have:=h.len;simp at this
 | x::a,[],h=>by have:=h.len;simp at this
 | x::a,y::b,h=>by
  have h1:Sub a b:=⟨by simpa using h.len,fun v hv=>by
   obtain⟨h0,hl⟩:=Ze6 hv
   obtain⟨k,rfl⟩:∃ k:Nat,v=(k:Int):=⟨v.toNat,by omega⟩
   have:=h.sub ((k+1:Nat):Int) (by rw[Zbl];rw[Zbl] at hv;simpa using hv)
   rw[Zbl] at this ⊢;simpa using this⟩
  have h2:x=true→y=true:=fun hx=>by
   have:=h.sub ((0:Nat):Int) (by rw[Zbl];simpa using hx)
   rw[Zbl] at this;simpa using this
  obtain⟨k1,k2⟩:=Zpo h1
  cases x <;> cases y <;> simp_all [cntB] <;> omega
theorem Sub.grows {a b:List Bool} (h:Sub a b) (hne:a≠b):cntB a < cntB b:=by
 obtain⟨h1,h2⟩:=Zpo h
 rcases Nat.lt_or_ge (cntB a) (cntB b) with h3|h3
 ·exact h3
 ·exact absurd (h2 (by omega)) hne
def iter {α:Type} (f:α→α):Nat→α→α
 | 0,x=>x
 | n+1,x=>iter f n (f x)
theorem ZkC {α:Type} {f:α→α} {x:α} (h:f x=x):∀ n,iter f n x=x
 | 0=>rfl
 | n+1=>by rw[iter,h];exact ZkC h n
theorem Zma {α:Type} {f:α→α}:∀ (n:Nat) (x:α),iter f n (f x)=f (iter f n x)
 | 0,_=>rfl
 | n+1,x=>by rw[iter,iter,Zma n]
theorem Zmb {f:List Bool→List Bool} (hs:∀ x,Sub x (f x)):∀ (n:Nat) (x:List Bool),x.length≤cntB x+n→f (iter f n x)=iter f n x
 | 0,x,h=>by
  rw[iter]
  by_cases e:x=f x
  ·exact e.symm
  ·have:=(hs x).grows e
   have:=ZnR (f x)
   have:=(hs x).len
   omega
 | n+1,x,h=>by
  rw[iter]
  by_cases e:x=f x
  ·rw[←e,ZkC e.symm];exact e.symm
  ·have:=(hs x).grows e
   have:=(hs x).len
   exact Zmb hs n (f x) (by omega)
theorem Zhv {f:List Bool→List Bool} (hs:∀ x,Sub x (f x)):∀ (n:Nat) (x:List Bool),Sub x (iter f n x)
 | 0,x=>Sub.refl x
 | n+1,x=>(hs x).trans (Zhv hs n (f x))
theorem ZjF {f:List Bool→List Bool} {S:List Bool} (hf:∀ x,Sub x S→Sub (f x) S):∀ (n:Nat) (x:List Bool),Sub x S→Sub (iter f n x) S
 | 0,_,h=>h
 | n+1,x,h=>ZjF hf n (f x) (hf x h)
def full (f:List Bool→List Bool) (x:List Bool):List Bool:=iter f x.length x
theorem ZkD {f:List Bool→List Bool} (hs:∀ x,Sub x (f x)) (x:List Bool):f (full f x)=full f x:=Zmb hs _ x (by omega)
theorem ZsK {f:List Bool→List Bool} (hs:∀ x,Sub x (f x)) (x:List Bool):full f (f x)=full f x:=by
 have h1:=ZkD hs x
 unfold full at h1 ⊢
 rw[←(hs x).len,Zma,h1]
theorem Zvh {f:List Bool→List Bool} {x:List Bool} (h:f x=x):full f x=x:=ZkC h _
def Zcn (xs:List Int) (is:List Bool):Bool:=xs.all (has is)
def asks (t:Bool) (r:Rule):List Int:=bif t then kids r.right else r.right
def one1 (t:Bool) (r:Rule) (is:List Bool):List Bool:=bif Zcn (asks t r) is then put is r.left else is
def pass (t:Bool):List Rule→List Bool→List Bool
 | [],is=>is
 | r::rs,is=>pass t rs (one1 t r is)
theorem Zpp {t:Bool} {r:Rule} (h:0≤r.left) (is:List Bool):Sub is (one1 t r is):=by
 unfold one1
 cases Zcn (asks t r) is with
 | true=>exact Sub.put h
 | false=>exact Sub.refl _
theorem ZfM {t:Bool}:∀ {rs:List Rule},(∀ r∈rs,0≤r.left)→∀ is,Sub is (pass t rs is)
 | [],_,is=>Sub.refl is
 | r::rs,h,is=>(Zpp (h r (by simp)) is).trans (ZfM (fun q hq=>h q (by simp[hq])) _)
theorem Zpq {t:Bool}:∀ {rs:List Rule} {is:List Bool},(∀ r∈rs,0≤r.left)→pass t rs is=is→∀ r∈rs,one1 t r is=is
 | [],_,_,_,r,hr=>by cases hr
 | q::rs,is,h,e,r,hr=>by
  have h1:=Zpp (t:=t) (h q (by simp)) is
  have h2:=ZfM (t:=t) (rs:=rs) (fun r hr=>h r (by simp[hr])) (one1 t q is)
  rw[pass] at e
  rw[e] at h2
  have e1:=h2.anti h1
  rcases List.mem_cons.1 hr with rfl|hr
  ·exact e1
  ·rw[e1] at e
   exact Zpq (fun r hr=>h r (by simp[hr])) e r hr
def Holds (t:Bool) (rs:List Rule) (S:List Bool):Prop:=∀ r∈rs,Zcn (asks t r) S=true→has S r.left=true
def Zd0 (g:Gram):List Bool:=List.replicate g.vars.toNat false
def ZaT (t:Bool) (g:Gram):List Bool:=full (pass t g.rules) (Zd0 g)
theorem Zbb (g:Gram):(Zd0 g).length=g.vars.toNat:=by simp[Zd0]
theorem ZkE (g:Gram) (v:Int):has (Zd0 g) v=false:=by
 unfold has Zd0
 by_cases h:v.toNat < g.vars.toNat <;> simp[List.getD_eq_getElem?_getD,List.getElem?_replicate,h]
theorem Zvi {g:Gram} {S:List Bool} (h:S.length=g.vars.toNat):Sub (Zd0 g) S:=⟨by rw[Zbb,h],fun v hv=>by rw[ZkE] at hv;cases hv⟩
theorem Zcd {t:Bool} {g:Gram} (hg:g.ok):(ZaT t g).length=g.vars.toNat:=by
 rw[ZaT,full,←(Zhv (ZfM hg.left0) _ _).len,Zbb]
theorem ZkF {t:Bool} {g:Gram} (hg:g.ok):Holds t g.rules (ZaT t g):=fun r hr h=>by
 have h1:=Zpq hg.left0 (ZkD (ZfM (t:=t) hg.left0) (Zd0 g)) r hr
 change one1 t r (ZaT t g)=ZaT t g at h1
 unfold one1 at h1
 rw[h,cond_true] at h1
 have hl:=Zcd (t:=t) hg
 have a1:=hg.left0 r hr
 have a2:=hg.left r hr
 rw[←h1,Zew a1 (by omega)];simp
def Zc9:List Int→List Bool→List Bool
 | [],is=>is
 | v::vs,is=>Zc9 vs (put is v)
def ZfN (r:Rule) (is:List Bool):List Bool:=bif has is r.left then Zc9 (kids r.right) is else is
def Zfg:List Rule→List Bool→List Bool
 | [],is=>is
 | r::rs,is=>Zfg rs (ZfN r is)
theorem ZjG:∀ {vs:List Int},(∀ v∈vs,0≤v)→∀ is,Sub is (Zc9 vs is)
 | [],_,is=>Sub.refl is
 | v::vs,h,is=>(Sub.put (h v (by simp))).trans (ZjG (fun u hu=>h u (by simp[hu])) _)
theorem ZjH:∀ {vs:List Int} {is:List Bool},(∀ v∈vs,0≤v∧v < is.length)→∀ u,has (Zc9 vs is) u=(has is u || decide (u∈vs))
 | [],is,_,u=>by simp[Zc9]
 | v::vs,is,h,u=>by
  have hv:=h v (by simp)
  rw[Zc9,ZjH (fun w hw=>by rw[ZbN];exact h w (by simp[hw])),Zew hv.1 hv.2,Bool.or_assoc]
  congr 1
  simp only[List.mem_cons]
  by_cases e:u=v <;> simp[e]
theorem Zd1 {xs:List Int}:∀ v∈kids xs,0≤v:=fun v hv=>by
 simp only[kids,List.mem_filter,decide_eq_true_eq] at hv;exact hv.2
theorem ZkG {xs:List Int} {v:Int} (h:v∈kids xs):v∈xs:=(List.mem_filter.1 h).1
theorem Zmc (r:Rule) (is:List Bool):Sub is (ZfN r is):=by
 unfold ZfN
 cases has is r.left with
 | true=>exact ZjG Zd1 is
 | false=>exact Sub.refl _
theorem ZdN:∀ (rs:List Rule) (is:List Bool),Sub is (Zfg rs is)
 | [],is=>Sub.refl is
 | r::rs,is=>(Zmc r is).trans (ZdN rs _)
theorem Zmd:∀ {rs:List Rule} {is:List Bool},Zfg rs is=is→∀ r∈rs,ZfN r is=is
 | [],_,_,r,hr=>by cases hr
 | q::rs,is,e,r,hr=>by
  have h1:=Zmc q is
  have h2:=ZdN rs (ZfN q is)
  rw[Zfg] at e
  rw[e] at h2
  have e1:=h2.anti h1
  rcases List.mem_cons.1 hr with rfl|hr
  ·exact e1
  ·rw[e1] at e;exact Zmd e r hr
def Goes (rs:List Rule) (S:List Bool):Prop:=∀ r∈rs,has S r.left=true→∀ v∈kids r.right,has S v=true
theorem Zg0 {S:List Bool}:∀ {vs:List Int},(∀ v∈vs,has S v=true)→∀ is,Sub is S→Sub (Zc9 vs is) S
 | [],_,_,h=>h
 | v::vs,hv,is,h=>Zg0 (vs:=vs) (fun u hu=>hv u (by simp[hu])) (put is v) (ZsJ h (hv v (by simp)))
theorem Zh6 {S:List Bool}:∀ {rs:List Rule},Goes rs S→∀ is,Sub is S→Sub (Zfg rs is) S
 | [],_,_,h=>h
 | r::rs,hS,is,h=>by
  refine Zh6 (rs:=rs) (fun q hq=>hS q (by simp[hq])) (ZfN r is) ?_
  unfold ZfN
  cases hc:has is r.left with
  | false=>exact h
  | true=>exact Zg0 (hS r (by simp) (h.sub _ hc)) is h
def Zcr (g:Gram):List Bool:=full (Zfg g.rules) (put (Zd0 g) g.start)
theorem Zd2 (g:Gram):(Zcr g).length=g.vars.toNat:=by
 rw[Zcr,full,←(Zhv (ZdN _) _ _).len,ZbN,Zbb]
theorem ZkH {g:Gram} (hg:g.ok):has (Zcr g) g.start=true:=by
 refine (Zhv (ZdN g.rules) _ _).sub _ ?_
 have:=hg.start
 rw[Zew hg.start0 (by rw[Zbb];omega)];simp
theorem Zme {g:Gram} (hg:g.ok):Goes g.rules (Zcr g):=fun r hr h v hv=>by
 have h1:=Zmd (ZkD (ZdN g.rules) (put (Zd0 g) g.start)) r hr
 change ZfN r (Zcr g)=Zcr g at h1
 unfold ZfN at h1
 rw[h,cond_true] at h1
 have hl:=Zd2 g
 rw[←h1,ZjH (fun w hw=>⟨Zd1 w hw,by have:=hg.hi r hr w (ZkG hw);omega⟩)]
 simp[hv]
theorem ZkI {g:Gram} {S:List Bool} (hl:S.length=g.vars.toNat) (h0:has S g.start=true) (hS:Goes g.rules S):Sub (Zcr g) S :=
 ZjF (fun x hx=>Zh6 hS x hx) _ _ (ZsJ (Zvi hl) h0)
structure Whole (st:Int→List Int) (init:List Int) (R:List Bool):Prop where
 from_:∀ w∈init,has R w=true
 goes:∀ u,has R u=true→∀ w∈st u,has R w=true
 least:∀ S:List Bool,S.length=R.length→(∀ w∈init,has S w=true)→(∀ u,has S u=true→∀ w∈st u,has S w=true)→Sub R S
section
variable {st:Int→List Int} {init:List Int} {R is:List Bool} {todo:List Int}
end
theorem ZsL (v:Int):∀ (rs:List Rule) (i:Nat) (x:Int),x∈byR rs v i↔∃ k:Nat,∃ h:k < rs.length,x=((i+k:Nat):Int)∧rs[k].left=v
 | [],i,x=>by simp[byR]
 | r::rs,i,x=>by
  have ih:=ZsL v rs (i+1) x
  have e:x∈byR (r::rs) v i↔(r.left=v∧x=(i:Int))∨x∈byR rs v (i+1):=by
   rw[byR];split
   ·rename_i h;simp[h]
   ·rename_i h;simp[h]
  rw[e,ih]
  constructor
  ·rintro (⟨h1,h2⟩|⟨k,h,h1,h2⟩)
   ·exact⟨0,by simp,by simpa using h2,by simpa using h1⟩
   ·exact⟨k+1,by simpa using h,by rw[h1];congr 1;omega,by simpa using h2⟩
  ·rintro⟨k,h,h1,h2⟩
   match k with
   | 0=>exact .inl ⟨by simpa using h2,by simpa using h1⟩
   | k+1=>exact .inr ⟨k,by simpa using h,by rw[h1];congr 1;omega,by simpa using h2⟩
theorem by_mem {g:Gram} {v x:Int}:x∈by_ g v↔∃ k:Nat,∃ h:k < g.rules.length,x=(k:Int)∧g.rules[k].left=v:=by
 rw[by_,ZsL];simp
def Zam (g:Gram) (i:Int):List Int:=(g.rules.getD i.toNat ⟨0,[]⟩).right
theorem ZaW {g:Gram} {k:Nat} (h:k < g.rules.length):Zam g k=g.rules[k].right:=by
 simp[Zam,List.getD_eq_getElem?_getD,h]
def Zpr (f:List Int→List Int) (g:Gram) (v:Int):List Int:=(by_ g v).flatMap fun i=>f (Zam g i)
theorem overBy_mem {f:List Int→List Int} {g:Gram} {v w:Int}:w∈Zpr f g v↔∃ r∈g.rules,r.left=v∧w∈f r.right:=by
 simp only[Zpr,List.mem_flatMap]
 constructor
 ·rintro⟨i,hi,hw⟩
  obtain⟨k,h,rfl,hl⟩:=by_mem.1 hi
  rw[ZaW h] at hw
  exact⟨_,List.getElem_mem h,hl,hw⟩
 ·rintro⟨r,hr,hl,hw⟩
  obtain⟨k,h,rfl⟩:=List.getElem_of_mem hr
  exact⟨k,by_mem.2 ⟨k,h,rfl,hl⟩,by rw[ZaW h];exact hw⟩
def Ze7 (null:List Bool) (c:Bool) (right:List Int) (k:Nat):Bool:=decide (0≤right.getD k 0) && (Zcn (right.take k) null && (c || Zcn (right.drop (k+1)) null))
def Zmf (null:List Bool) (c:Bool) (right:List Int):Nat→List Int
 | 0=>[]
 | k+1=>Zmf null c right k++(if Ze7 null c right k=true then [right.getD k 0] else [])
def Zhw (null:List Bool) (c:Bool) (right:List Int):List Int:=Zmf null c right right.length
theorem picks_mem {null:List Bool} {c:Bool} {right:List Int} {w:Int}:∀ {k:Nat},w∈Zmf null c right k↔∃ j,j < k∧Ze7 null c right j=true∧w=right.getD j 0
 | 0=>by simp[Zmf]
 | k+1=>by
  rw[Zmf,List.mem_append,picks_mem]
  constructor
  ·rintro (⟨j,h1,h2,h3⟩|h)
   ·exact⟨j,by omega,h2,h3⟩
   ·split at h
    ·rename_i hp;exact⟨k,by omega,hp,by simpa using h⟩
    ·cases h
  ·rintro⟨j,h1,h2,h3⟩
   by_cases e:j=k
   ·subst e;right;rw[if_pos h2];simp[h3]
   ·exact .inl ⟨j,by omega,h2,h3⟩
def ZgA (c:Bool) (g:Gram) (null:List Bool) (v:Int):List Int:=Zpr (Zhw null c) g v
abbrev Mat:=List (List Bool)
def rowM (M:Mat) (u:Int):List Bool:=M.getD u.toNat []
def hasM (M:Mat) (u w:Int):Bool:=decide (0≤u) && has (rowM M u) w
structure Sq (V:Nat) (M:Mat):Prop where
 len:M.length=V
 row:∀ r∈M,r.length=V
theorem Sq.at {V:Nat} {M:Mat} (h:Sq V M) {u:Int} (h0:0≤u) (h1:u < V):(rowM M u).length=V:=by
 have hl:u.toNat < M.length:=by have:=h.len;omega
 rw[rowM,List.getD_eq_getElem?_getD,List.getElem?_eq_getElem hl]
 exact h.row _ (List.getElem_mem hl)
theorem Zw2 {V:Nat} {M:Mat} (h:Sq V M) {u w:Int} (hh:hasM M u w=true):(0≤u∧u < V)∧0≤w∧w < V:=by
 simp only[hasM,Bool.and_eq_true,decide_eq_true_eq] at hh
 obtain⟨h0,h1⟩:=hh
 have hu:u < V:=by
  rcases Nat.lt_or_ge u.toNat M.length with h2|h2
  ·have:=h.len;omega
  ·rw[rowM,List.getD_eq_getElem?_getD,List.getElem?_eq_none h2] at h1
   have:=(Ze6 h1).2;have:=(Ze6 h1).1;simp at *;omega
 have h3:=Ze6 h1
 rw[h.at h0 hu] at h3
 exact⟨⟨h0,hu⟩,h3⟩
def addM (u w:Int) (M:Mat):Mat:=M.set u.toNat (put (rowM M u) w)
theorem Sq.add {V:Nat} {M:Mat} (h:Sq V M) {u w:Int} (h0:0≤u) (h1:u < V):Sq V (addM u w M):=by
 refine⟨by simpa[addM] using h.len,fun r hr=>?_⟩
 rcases List.mem_or_eq_of_mem_set hr with hr|rfl
 ·exact h.row r hr
 ·rw[ZbN];exact h.at h0 h1
theorem Zvj {V:Nat} {M:Mat} (h:Sq V M) {u w:Int} (h0:0≤u) (h1:u < V) (h2:0≤w) (h3:w < V) (a b:Int):hasM (addM u w M) a b=(hasM M a b || (decide (a=u) && decide (b=w))):=by
 unfold hasM
 by_cases ha:0≤a
 ·simp only[ha,decide_true,Bool.true_and]
  by_cases e:a=u
  ·subst e
   have:rowM (addM a w M) a=put (rowM M a) w:=by
    have hl:a.toNat < M.length:=by have:=h.len;omega
    simp[rowM,addM,List.getD_eq_getElem?_getD,hl]
   rw[this,Zew h2 (by rw[h.at h0 h1];exact h3)];simp
  ·have:rowM (addM u w M) a=rowM M a:=by
    simp only[rowM,addM,List.getD_eq_getElem?_getD]
    rw[List.getElem?_set_ne (by omega)]
   rw[this];simp[e]
 ·have:a≠u:=by omega
  simp[ha,this]
def Zh7 (null:List Bool) (c:Bool) (r:Rule):Nat→Mat→Mat
 | 0,M=>M
 | k+1,M=>bif Ze7 null c r.right k then addM r.left (r.right.getD k 0) (Zh7 null c r k M) else Zh7 null c r k M
def matM (null:List Bool) (c:Bool):List Rule→Mat→Mat
 | [],M=>M
 | r::rs,M=>matM null c rs (Zh7 null c r r.right.length M)
theorem ZeL {null:List Bool} {c:Bool} {r:Rule} {V:Nat} {M:Mat} (h:Sq V M) (h0:0≤r.left) (h1:r.left < V) (hr:∀ w∈r.right,w < V):∀ k,k≤r.right.length→Sq V (Zh7 null c r k M)∧∀ a b,hasM (Zh7 null c r k M) a b=(hasM M a b || (decide (a=r.left) && decide (b∈Zmf null c r.right k)))
 | 0,_=>⟨h,fun a b=>by simp[Zh7,Zmf]⟩
 | k+1,hk=>by
  obtain⟨i1,i2⟩:=ZeL h h0 h1 hr k (by omega)
  rw[Zh7,Zmf]
  cases hp:Ze7 null c r.right k with
  | false=>refine⟨i1,fun a b=>?_⟩;simpa using i2 a b
  | true =>
   have hp':=hp
   simp only[Ze7,Bool.and_eq_true,decide_eq_true_eq] at hp'
   have hm:r.right.getD k 0 < V:=by
    rw[List.getD_eq_getElem?_getD,List.getElem?_eq_getElem (by omega)]
    exact hr _ (List.getElem_mem _)
   refine⟨i1.add h0 h1,fun a b=>?_⟩
   rw[cond_true,Zvj i1 h0 h1 hp'.1 hm,i2,if_pos rfl,Bool.or_assoc]
   congr 1
   rw[←Bool.and_or_distrib_left]
   congr 1
   rw[Bool.eq_iff_iff];simp
theorem Zh8 {null:List Bool} {c:Bool} {V:Nat}:∀ {rs:List Rule} {M:Mat},Sq V M→(∀ r∈rs,0≤r.left∧r.left < V∧∀ w∈r.right,w < V)→Sq V (matM null c rs M)∧∀ a b,hasM (matM null c rs M) a b=true↔hasM M a b=true∨∃ r∈rs,r.left=a∧b∈Zhw null c r.right
 | [],M,h,_=>⟨h,fun a b=>by simp[matM]⟩
 | r::rs,M,h,hr=>by
  obtain⟨a1,a2,a3⟩:=hr r (by simp)
  obtain⟨i1,i2⟩:=ZeL (null:=null) (c:=c) h a1 a2 a3 r.right.length (Nat.le_refl _)
  obtain⟨j1,j2⟩:=Zh8 (null:=null) (c:=c) (rs:=rs) i1 (fun q hq=>hr q (by simp[hq]))
  refine⟨j1,fun a b=>?_⟩
  rw[matM,j2,i2]
  simp only[Bool.or_eq_true,Bool.and_eq_true,decide_eq_true_eq,List.mem_cons,Zhw]
  constructor
  ·rintro ((h|⟨rfl,h⟩)|⟨q,hq,h⟩)
   ·exact .inl h
   ·exact .inr ⟨r,.inl rfl,rfl,h⟩
   ·exact .inr ⟨q,.inr hq,h⟩
  ·rintro (h|⟨q,rfl|hq,h⟩)
   ·exact .inl (.inl h)
   ·exact .inl (.inr ⟨h.1.symm,h.2⟩)
   ·exact .inr ⟨q,hq,h⟩
def orL (a b:List Bool):List Bool:=List.zipWith (· || ·) a b
theorem ZqI {a b:List Bool} (h:a.length=b.length):(orL a b).length=a.length:=by simp[orL,h]
theorem ZsM {a b:List Bool} (h:a.length=b.length) (w:Int):has (orL a b) w=(has a w || has b w):=by
 unfold has orL
 by_cases h0:0≤w
 ·simp only[h0,decide_true,Bool.true_and,List.getD_eq_getElem?_getD,List.getElem?_zipWith]
  rcases Nat.lt_or_ge w.toNat a.length with hl|hl
  ·rw[List.getElem?_eq_getElem hl,List.getElem?_eq_getElem (by omega)];simp
  ·rw[List.getElem?_eq_none hl,List.getElem?_eq_none (by omega)];simp
 ·simp[h0]
theorem Zvk (a:List Bool):orL a a=a:=by
 refine List.ext_getElem (by simp[orL]) fun i h1 h2=>by simp[orL]
theorem Zw3 {a b:List Bool} (h:a.length=b.length):setN (orL a b)=setN a ||| setN b:=by
 apply Nat.eq_of_testBit_eq
 intro j
 rw[ZbM,Nat.testBit_or,ZbM,ZbM,←Zbl,←Zbl,←Zbl,ZsM h]
def rowK (R:List Bool) (k:Nat) (row:List Bool):List Bool:=bif has row k then orL row R else row
def stepK (k:Nat) (M:Mat):Mat:=M.map (rowK (rowM M k) k)
def closeK:Nat→Mat→Mat
 | 0,M=>M
 | k+1,M=>stepK k (closeK k M)
theorem Sq.stepK {V k:Nat} {M:Mat} (h:Sq V M) (hk:k < V):Sq V (stepK k M):=by
 refine⟨by simpa[Proofs.YtbpmepgnjanhnaaGreat.stepK] using h.len,fun r hr=>?_⟩
 obtain⟨q,hq,rfl⟩:=List.mem_map.1 hr
 have h1:=h.row q hq
 have h2:=h.at (u:=(k:Int)) (by omega) (by omega)
 unfold rowK
 cases has q k with
 | true=>rw[cond_true,ZqI (by rw[h1,h2]),h1]
 | false=>exact h1
theorem ZgB {V k:Nat} {M:Mat} (h:Sq V M) (hk:k < V) (a b:Int):hasM (stepK k M) a b=(hasM M a b || (hasM M a k && hasM M k b)):=by
 unfold hasM
 by_cases ha:0≤a
 ·have hk0:(0:Int)≤(k:Int):=by omega
  simp only[ha,hk0,decide_true,Bool.true_and]
  rcases Nat.lt_or_ge a.toNat M.length with hl|hl
  ·have e:rowM (stepK k M) a=rowK (rowM M k) k (rowM M a):=by
    simp[rowM,Proofs.YtbpmepgnjanhnaaGreat.stepK,List.getD_eq_getElem?_getD,hl]
   have h1:=h.at (u:=a) ha (by have:=h.len;omega)
   have h2:=h.at (u:=(k:Int)) (by omega) (by omega)
   rw[e,rowK]
   cases has (rowM M a) k with
   | true=>rw[cond_true,ZsM (by rw[h1,h2])];simp
   | false=>simp
  ·have e:rowM (stepK k M) a=rowM M a:=by
    simp only[rowM,Proofs.YtbpmepgnjanhnaaGreat.stepK,List.getD_eq_getElem?_getD]
    rw[List.getElem?_eq_none (by simpa using hl),List.getElem?_eq_none hl]
   have e2:rowM M a=[]:=by
    simp only[rowM,List.getD_eq_getElem?_getD]
    rw[List.getElem?_eq_none hl];rfl
   have e3:has [] (k:Int)=false:=by simp[has]
   rw[e,e2,e3];simp
 ·simp[ha]
theorem Sq.closeK {V:Nat} {M:Mat} (h:Sq V M):∀ k,k≤V→Sq V (closeK k M)
 | 0,_=>h
 | k+1,hk=>(Sq.closeK h k (by omega)).stepK (by omega)
theorem Zfh {V:Nat} {M:Mat} (h:Sq V M) {a b:Int} (hh:hasM M a b=true):∀ k,k≤V→hasM (closeK k M) a b=true
 | 0,_=>hh
 | k+1,hk=>by rw[closeK,ZgB (h.closeK k (by omega)) (by omega),Zfh h hh k (by omega)];rfl
theorem Zg1 {V:Nat} {M:Mat} (h:Sq V M):∀ k,k≤V→∀ (m:Nat),m < k→∀ a b,hasM (closeK k M) a m=true→hasM (closeK k M) m b=true→hasM (closeK k M) a b=true
 | 0,_,m,hm=>by omega
 | k+1,hk,m,hm=>by
  intro a b h1 h2
  have ih:=Zg1 h k (by omega)
  have hs:=ZgB (h.closeK k (by omega)) (k:=k) (by omega)
  simp only[closeK,hs,Bool.or_eq_true,Bool.and_eq_true] at h1 h2 ⊢
  by_cases e:m=k
  ·subst e
   have g1:hasM (Proofs.YtbpmepgnjanhnaaGreat.closeK m M) a m=true:=h1.elim id And.left
   have g2:hasM (Proofs.YtbpmepgnjanhnaaGreat.closeK m M) m b=true:=h2.elim id And.right
   exact .inr ⟨g1,g2⟩
  ·have hm':m < k:=by omega
   rcases h1 with h1|⟨h1,h1'⟩ <;> rcases h2 with h2|⟨h2,h2'⟩
   ·exact .inl (ih m hm' a b h1 h2)
   ·exact .inr ⟨ih m hm' a k h1 h2,h2'⟩
   ·exact .inr ⟨h1,ih m hm' k b h1' h2⟩
   ·exact .inr ⟨h1,h2'⟩
theorem Zg2 {V:Nat} {M:Mat} (h:Sq V M):∀ k,k≤V→∀ (a:Int) (S:List Bool),(∀ w,hasM M a w=true→has S w=true)→(∀ u,has S u=true→∀ w,hasM M u w=true→has S w=true)→∀ w,hasM (closeK k M) a w=true→has S w=true
 | 0,_,a,S,h1,_,w,hw=>h1 w hw
 | k+1,hk,a,S,h1,h2,w,hw=>by
  have ih:=Zg2 h k (by omega)
  rw[closeK,ZgB (h.closeK k (by omega)) (by omega),Bool.or_eq_true,Bool.and_eq_true] at hw
  rcases hw with hw|⟨g1,g2⟩
  ·exact ih a S h1 h2 w hw
  ·exact ih k S (h2 k (ih a S h1 h2 k g1)) h2 w g2
def Zmg (g:Gram):Mat:=List.replicate g.vars.toNat (Zd0 g)
theorem ZkJ (g:Gram):Sq g.vars.toNat (Zmg g):=⟨by simp[Zmg],fun r hr=>by rw[(List.mem_replicate.1 hr).2,Zbb]⟩
theorem ZsN (g:Gram) (a b:Int):hasM (Zmg g) a b=false:=by
 unfold hasM rowM Zmg
 by_cases h:a.toNat < g.vars.toNat
 ·simp[List.getD_eq_getElem?_getD,List.getElem?_replicate,h,ZkE]
 ·simp[List.getD_eq_getElem?_getD,List.getElem?_replicate,h,has]
def oneM (c:Bool) (g:Gram):Mat:=matM (ZaT false g) c g.rules (Zmg g)
def ledM (c:Bool) (g:Gram):Mat:=closeK g.vars.toNat (oneM c g)
theorem ZkK {g:Gram} (hg:g.ok):∀ r∈g.rules,0≤r.left∧r.left < (g.vars.toNat:Int)∧∀ w∈r.right,w < (g.vars.toNat:Int):=fun r hr=>by
 have:=hg.left0 r hr
 have:=hg.left r hr
 exact⟨by omega,by omega,fun w hw=>by have:=hg.hi r hr w hw;omega⟩
theorem ZnS {c:Bool} {g:Gram} (hg:g.ok):Sq g.vars.toNat (oneM c g):=(Zh8 (ZkJ g) (ZkK hg)).1
theorem Zhx {c:Bool} {g:Gram} (hg:g.ok) (u w:Int):hasM (oneM c g) u w=true↔w∈ZgA c g (ZaT false g) u:=by
 rw[oneM,(Zh8 (ZkJ g) (ZkK hg)).2,ZsN,ZgA,overBy_mem]
 simp
theorem ZgC {c:Bool} {g:Gram} (hg:g.ok):Sq g.vars.toNat (ledM c g):=(ZnS hg).closeK _ (Nat.le_refl _)
theorem Zh9 {c:Bool} {g:Gram} (hg:g.ok) {v:Int} (h0:0≤v) (h1:v < g.vars):Whole (ZgA c g (ZaT false g)) (ZgA c g (ZaT false g) v) (rowM (ledM c g) v):=by
 have hq:=ZnS (c:=c) hg
 have hr:∀ w,has (rowM (ledM c g) v) w=hasM (ledM c g) v w:=fun w=>by simp[hasM,h0]
 refine⟨fun w hw=>?_,fun u hu w hw=>?_,fun S hl hS1 hS2=>⟨hl.symm,fun w hw=>?_⟩⟩
 ·rw[hr];exact Zfh hq ((Zhx hg _ _).2 hw) _ (Nat.le_refl _)
 ·rw[hr] at hu ⊢
  obtain⟨_,b1,b2⟩:=Zw2 (ZgC hg) hu
  obtain⟨k,rfl⟩:∃ k:Nat,u=(k:Int):=⟨u.toNat,by omega⟩
  exact Zg1 hq _ (Nat.le_refl _) k (by omega) v w hu (Zfh hq ((Zhx hg _ _).2 hw) _ (Nat.le_refl _))
 ·rw[hr] at hw
  exact Zg2 hq _ (Nat.le_refl _) v S (fun x hx=>hS1 x ((Zhx hg _ _).1 hx)) (fun u hu x hx=>hS2 u hu x ((Zhx hg _ _).1 hx)) w hw
end Go.Proofs.YtbpmepgnjanhnaaGreat
