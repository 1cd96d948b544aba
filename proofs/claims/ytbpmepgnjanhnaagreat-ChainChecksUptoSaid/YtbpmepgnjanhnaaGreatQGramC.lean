import Derived.Test.YtbpmepgnjanhnaaGreatG1
import Derived.Test.YtbpmepgnjanhnaaGreatS5
set_option linter.unusedVariables false
set_option linter.unusedSimpArgs false
set_option linter.unusedSectionVars false
namespace Go.Proofs.YtbpmepgnjanhnaaGreat
open Go.RowKit
set_option maxRecDepth 100000
abbrev nilT:D:=.raw (.slice none 0 0)
theorem ZuG {r q:Rule} (h1:r.left=q.left) (h2:r.right=q.right):r=q:=by cases r;cases q;simp_all
theorem ZuH {a b:Gram} (h1:a.vars=b.vars) (h2:a.terms=b.terms) (h3:a.start=b.start) (h4:a.rules=b.rules):a=b:=by cases a;cases b;simp_all
set_option maxHeartbeats 4000000 in
theorem Zli {t u:Bool} {a b:Gram} (ha:a.fit) (hb:b.fit):ACalls Tryz.prog 13 [.d (ZaH t a),.d (ZaH u b)] [] (B (decide (a=b))) []:=by
 refine ACalls.intro (n:=70) Tryz.func13 rfl rfl (by simp) (by rfl) ?_
 simp only[Zak]
 have hla:=ha.rules
 have hlb:=hb.rules
 by_cases h1:a.vars=b.vars
 rotate_left
 ·rw[decide_eq_false (fun e=>h1 (by rw[e]))]
  repeat (first|refine wk ?_|refine Zaa (hr:=?_))
  exact fin
 by_cases h2:a.terms=b.terms
 rotate_left
 ·rw[decide_eq_false (fun e=>h2 (by rw[e]))]
  repeat (first|refine wk ?_|refine Zaa (hr:=?_))
  exact fin
 by_cases h3:a.start=b.start
 rotate_left
 ·rw[decide_eq_false (fun e=>h3 (by rw[e]))]
  repeat (first|refine wk ?_|refine Zaa (hr:=?_))
  exact fin
 by_cases h4:(a.rules.length:Int)=b.rules.length
 rotate_left
 ·rw[decide_eq_false (fun e=>h4 (by rw[e]))]
  repeat (first|refine wk ?_|refine Zaa (hr:=?_))
  exact fin
 repeat (first|refine wk ?_|refine Zaa (hr:=?_))
 refine Zai (X:=Nat) (fun k=>k≤a.rules.length∧∀ j,j < k→∀ (hx:j < a.rules.length) (hy:j < b.rules.length),a.rules[j]=b.rules[j]) (fun k=>[(5,I k),(3,.ptr 3 0),(2,.ptr 2 0)]) (fun _=>[(2,Zar t a),(3,Zar u b)]) (fun k=>a.rules.length - k) 0
  ⟨Nat.zero_le _,by omega⟩ ?_
 rintro k ⟨hk,hp⟩
 by_cases hlt:k < a.rules.length
 ·have hlt':k < b.rules.length:=by omega
  have hra:=ha.right _ (List.getElem_mem hlt)
  have hrb:=hb.right _ (List.getElem_mem hlt')
  by_cases h5:a.rules[k].left=b.rules[k].left
  ·repeat (first|refine wk ?_|refine Zaa (hr:=?_))
   refine Zab [] (hA:=Zgl) (hr:=?_)
   by_cases h6:a.rules[k].right=b.rules[k].right
   ·rw[decide_eq_true h6]
    repeat (first|refine wk ?_|refine Zaa (hr:=?_))
    exact Zad (k+1) (a:=⟨by omega,Zdo hp (fun _ _=>ZuG h5 h6)⟩)
   ·have e:decide (a=b)=false:=decide_eq_false (fun e=>h6 (by subst e;rfl))
    rw[decide_eq_false h6,e]
    repeat (first|refine wk ?_|refine Zaa (hr:=?_))
    exact fin
  ·have e:decide (a=b)=false:=decide_eq_false (fun e=>h5 (by subst e;rfl))
   rw[e]
   repeat (first|refine wk ?_|refine Zaa (hr:=?_))
   exact fin
 ·rw[decide_eq_true (ZuH h1 h2 h3 (List.ext_getElem (by omega) (fun j g1 g2=>hp j (by omega) g1 g2)))]
  repeat (first|refine wk ?_|refine Zaa (hr:=?_))
  exact fin
theorem Zdt {t:Bool} {xs:List Int} (hl:xs.length≤100000000:=by ((try simp only[List.length_map,List.length_append,List.length_cons,List.length_nil,List.length_replicate,List.length_set,List.length_take,List.length_drop]);first|omega|assumption)) :
  ACalls Tryz.prog 52 [.d (ints t xs)] [] (.own 5 xs.length) [(5,.row 3 1 (xs.map iD))]:=by
 refine ACalls.intro (n:=8) Tryz.func52 rfl rfl (by simp) (by rfl) ?_
 simp only[Zak]
 refine Zdy ?_
 refine Zkn ?_
 refine ZcB (hr:=?_)
 refine Zcc ?_
 refine Zbm ?_
 refine Zdy ?_
 refine Zdy ?_
 refine Zr2 ?_ ?_ Zvl
 ·intro hx
  have hx':xs=[]:=by simpa using hx
  subst hx'
  repeat (first|refine wkr ?_|refine Zaa (hr:=?_))
  refine ZaU 2 5 3 1 rfl rfl rfl ?_
  repeat (first|refine wk ?_|refine Zaa (hr:=?_))
  exact fin
 ·repeat (first|refine wk ?_|refine Zaa (hr:=?_))
  exact finx
theorem ZmS {t:Bool} {g:Gram} (hg:g.fit):ACalls Tryz.prog 10 [.d (ZaH t g)] [] (.agg [.d (iD g.vars),.d (iD g.terms),.d (iD g.start),.own 900 g.rules.length]) [(900,.row 68 2 (g.rules.map (Zbu false)))]:=by
 refine ACalls.intro (n:=41) Tryz.func10 rfl rfl (by simp) (by rfl) ?_
 simp only[Zak]
 have hl:=hg.rules
 repeat (first|refine wk ?_|refine Zaa (hr:=?_))
 refine Za9 3 3 900 68 2 rfl rfl rfl rfl ?_
 refine Zai (X:=Nat) (fun k=>k≤g.rules.length) (fun k=>[(4,I k),(3,.ptr 3 0),(2,.ptr 2 0),(1,.ptr 1 0)]) (fun k=>[(1,Zar t g),(2,.box 24 [.d (iD 0),.d (iD 0),.d (iD 0),.d nilT]),(3,.box 24 [.d (iD g.vars),.d (iD g.terms),.d (iD g.start),.own 900 (g.rules.take k).length]),(900,.row 68 2 ((g.rules.take k).map (Zbu false)))]) (fun k=>g.rules.length - k) 0 (Nat.zero_le _) ?_
 intro k hk
 by_cases hlt:k < g.rules.length
 ·have hrk:=hg.right _ (List.getElem_mem hlt)
  have e:(g.rules.take (k+1)).map (Zbu false)=(g.rules.take k).map (Zbu false)++[Zbu false g.rules[k]]:=by
   rw[List.take_succ_eq_append_getElem hlt,List.map_append];rfl
  repeat (first|refine wk ?_|refine Zaa (hr:=?_))
  exact Zad (k+1)
 ·rw[show g.rules.take k=g.rules from List.take_of_length_le (by omega)]
  repeat (first|refine wk ?_|refine Zaa (hr:=?_))
  exact fin
end Go.Proofs.YtbpmepgnjanhnaaGreat
namespace Go.Proofs.YtbpmepgnjanhnaaGreat
open Go.RowKit
theorem Tree.lt {x y:Tree} (h:y∈x.kids):SizeOf.sizeOf y < SizeOf.sizeOf x:=by
 cases x with
 | mk r k =>
  simp only[Tree.kids] at h
  have:=List.sizeOf_lt_of_mem h
  simp;omega
theorem Tree.ind {P:Tree→Prop} (h:∀ x,(∀ y∈x.kids,P y)→P x):∀ x,P x:=by
 have key:∀ (n:Nat) (x:Tree),SizeOf.sizeOf x < n→P x:=by
  intro n
  induction n with
  | zero=>intro x hx;omega
  | succ n ih=>exact fun x hx=>h x (fun y hy=>ih y (by have:=Tree.lt hy;omega))
 exact fun x=>key _ x (Nat.lt_succ_self _)
mutual
def cnt:Tree→Nat
 | .mk _ k=>1+cnts k
def cnts:List Tree→Nat
 | []=>0
 | x::r=>cnt x+cnts r
end
theorem ZdX (x:Tree):cnt x=1+cnts x.kids:=by cases x;rfl
theorem ZuI (x:Tree):1≤cnt x:=by rw[ZdX];omega
theorem Zbd:∀ (a b:List Tree),cnts (a++b)=cnts a+cnts b
 | [],b=>by simp[cnts]
 | x::a,b=>by simp only[List.cons_append,cnts,Zbd a b];omega
theorem Zca {x:Tree}:∀ {l:List Tree},x∈l→cnt x≤cnts l
 | y::l,h=>by
  simp only[cnts]
  rcases List.mem_cons.1 h with rfl|h
  ·omega
  ·have:=Zca h;omega
theorem ZaR:∀ (l:List Tree),l.length≤cnts l
 | []=>by simp
 | x::l=>by have:=ZaR l;have:=ZuI x;simp only[List.length_cons,cnts];omega
theorem ZhG {l:List Tree} {i:Nat} (h:i < l.length):cnts (l.drop i)=cnt l[i]+cnts (l.drop (i+1)):=by
 rw[List.drop_eq_getElem_cons h,cnts]
theorem Zfu {l:List Tree} {i:Nat} (h:i < l.length):cnts (l.take (i+1))=cnts (l.take i)+cnt l[i]:=by
 rw[List.take_succ_eq_append_getElem h,Zbd];simp[cnts]
def capN (m n:Nat):Nat:=if n≤m then n else m+1
def ZeH (x:Tree):Bool:=decide (3000 < cnt x)
def ZeB (l:Int) (n:Nat):Int:=if (n:Int)≤l then l - n else -1
mutual
def fits (g:Gram):Tree→Int→Bool
 | .mk r k,v=>match (if 0≤r then g.rules[r.toNat]? else none) with
  | none=>false
  | some ru=>decide (ru.left=v) && (decide ((kids ru.right).length=k.length) && fitss g k (kids ru.right))
def fitss (g:Gram):List Tree→List Int→Bool
 | x::k,v::vs=>fits g x v && fitss g k vs
 | _,_=>true
end
theorem Zj2 (g:Gram) (x:Tree) (v:Int):fits g x v=match (if 0≤x.rule then g.rules[x.rule.toNat]? else none) with
  | none=>false
  | some ru=>decide (ru.left=v) && (decide ((kids ru.right).length=x.kids.length) && fitss g x.kids (kids ru.right)):=by cases x;rw[fits];rfl
theorem Zi6 {g:Gram} {k:List Tree} {vs:List Int} {i:Nat} (h1:i < k.length) (h2:i < vs.length):fitss g (k.drop i) (vs.drop i)=(fits g k[i] vs[i] && fitss g (k.drop (i+1)) (vs.drop (i+1))):=by
 rw[List.drop_eq_getElem_cons h1,List.drop_eq_getElem_cons h2,fitss]
theorem Zlj {g:Gram} {k:List Tree} {vs:List Int} {i:Nat} (h1:¬ i < k.length):fitss g (k.drop i) (vs.drop i)=true:=by
 rw[List.drop_of_length_le (by omega)];simp[fitss]
mutual
def ZbT (g:Gram):Tree→List Int
 | .mk r k=>wordL g ((g.rules[r.toNat]?).getD ⟨0,[]⟩).right k
 termination_by x=>(cnt x,0)
 decreasing_by simp[cnt,Prod.lex_def]
def wordL (g:Gram):List Int→List Tree→List Int
 | [],_=>[]
 | s::ss,k=>if s < 0 then (-1 - s)::wordL g ss k else match k with
  | x::k=>ZbT g x++wordL g ss k
  | []=>wordL g ss []
 termination_by ss k=>(cnts k,ss.length+1)
 decreasing_by all_goals (simp[cnts,Prod.lex_def];try omega)
end
mutual
def ordT:Tree→Tree→Int
 | .mk r k,.mk s l=>if r < s then -1 else if s < r then 1 else ordL k l
def ordL:List Tree→List Tree→Int
 | [],[]=>0
 | [],_::_ => -1
 | _::_,[]=>1
 | a::k,b::l=>if ordT a b=0 then ordL k l else ordT a b
end
theorem Zq6 (a b:Tree):ordT a b=if a.rule < b.rule then -1 else if b.rule < a.rule then 1 else ordL a.kids b.kids:=by cases a;cases b;rw[ordT];rfl
theorem Zlk {k l:List Tree} {i:Nat} (h1:i < k.length) (h2:i < l.length):ordL (k.drop i) (l.drop i)=if ordT k[i] l[i]=0 then ordL (k.drop (i+1)) (l.drop (i+1)) else ordT k[i] l[i]:=by
 rw[List.drop_eq_getElem_cons h1,List.drop_eq_getElem_cons h2,ordL]
theorem Zq7 {k l:List Tree} {i:Nat} (h1:¬ i < k.length) (h2:i < l.length):ordL (k.drop i) (l.drop i) = -1:=by
 rw[List.drop_of_length_le (by omega),List.drop_eq_getElem_cons h2,ordL]
theorem Zq8 {k l:List Tree} {i:Nat} (h1:i < k.length) (h2:¬ i < l.length):ordL (k.drop i) (l.drop i)=1:=by
 rw[List.drop_eq_getElem_cons h1,List.drop_of_length_le (show l.length≤i by omega),ordL]
theorem Zol {k l:List Tree} {i:Nat} (h1:¬ i < k.length) (h2:¬ i < l.length):ordL (k.drop i) (l.drop i)=0:=by
 rw[List.drop_of_length_le (by omega),List.drop_of_length_le (by omega),ordL]
mutual
theorem ZcO:∀ (a b:Tree),ordT b a = -ordT a b
 | .mk r k,.mk s l=>by
  have:=Zom k l
  rw[ordT,ordT]
  by_cases h1:r < s
  ·have h2:¬ s < r:=by omega
   simp[h1,h2]
  ·by_cases h2:s < r
   ·simp[h1,h2]
   ·simp[h1,h2,this]
theorem Zom:∀ (a b:List Tree),ordL b a = -ordL a b
 | [],[]=>by simp[ordL]
 | [],_::_=>by simp[ordL]
 | _::_,[]=>by simp[ordL]
 | a::k,b::l=>by
  have h1:=ZcO a b
  have h2:=Zom k l
  rw[ordL,ordL,h1,h2]
  by_cases h:ordT a b=0
  ·rw[if_pos h,if_pos (by omega)]
  ·rw[if_neg h,if_neg (by omega)]
end
mutual
theorem Zfv:∀ (a:Tree),ordT a a=0
 | .mk r k=>by rw[ordT,if_neg (by omega),if_neg (by omega)];exact Zll k
theorem Zll:∀ (a:List Tree),ordL a a=0
 | []=>by simp[ordL]
 | a::k=>by rw[ordL,Zfv a,if_pos rfl];exact Zll k
end
mutual
theorem Zdu:∀ (a b:Tree),ordT a b=0→a=b
 | .mk r k,.mk s l,h=>by
  rw[ordT] at h
  by_cases h1:r < s
  ·rw[if_pos h1] at h;cases h
  ·by_cases h2:s < r
   ·rw[if_neg h1,if_pos h2] at h;cases h
   ·rw[if_neg h1,if_neg h2] at h
    obtain rfl:r=s:=by omega
    rw[Zlm k l h]
theorem Zlm:∀ (a b:List Tree),ordL a b=0→a=b
 | [],[],_=>rfl
 | [],_::_,h=>by simp[ordL] at h
 | _::_,[],h=>by simp[ordL] at h
 | a::k,b::l,h=>by
  rw[ordL] at h
  by_cases h1:ordT a b=0
  ·rw[if_pos h1] at h;rw[Zdu a b h1,Zlm k l h]
  ·rw[if_neg h1] at h;exact absurd h h1
end
mutual
theorem Zep:∀ (a b c:Tree),ordT a b≤0→ordT b c≤0→ordT a c≤0
 | .mk r k,.mk s l,.mk q m,h1,h2=>by
  rw[ordT] at h1 h2 ⊢
  by_cases a1:r < s
  ·by_cases b1:s < q
   ·rw[if_pos (by omega)];decide
   ·by_cases b2:q < s
    ·rw[if_neg b1,if_pos b2] at h2;omega
    ·rw[if_pos (by omega)];decide
  ·by_cases a2:s < r
   ·rw[if_neg a1,if_pos a2] at h1;omega
   ·rw[if_neg a1,if_neg a2] at h1
    by_cases b1:s < q
    ·rw[if_pos (by omega)];decide
    ·by_cases b2:q < s
     ·rw[if_neg b1,if_pos b2] at h2;omega
     ·rw[if_neg b1,if_neg b2] at h2
      rw[if_neg (by omega),if_neg (by omega)]
      exact Zi7 k l m h1 h2
theorem Zi7:∀ (a b c:List Tree),ordL a b≤0→ordL b c≤0→ordL a c≤0
 | [],_,[],_,_=>by simp[ordL]
 | [],_,_::_,_,_=>by simp[ordL]
 | _::_,[],_,h1,_=>by simp[ordL] at h1
 | _::_,_::_,[],_,h2=>by simp[ordL] at h2
 | a::k,b::l,c::m,h1,h2=>by
  rw[ordL] at h1 h2 ⊢
  by_cases a0:ordT a b=0
  ·obtain rfl:=Zdu a b a0
   rw[if_pos a0] at h1
   by_cases b0:ordT a c=0
   ·rw[if_pos b0] at h2 ⊢;exact Zi7 k l m h1 h2
   ·rw[if_neg b0] at h2 ⊢;exact h2
  ·rw[if_neg a0] at h1
   by_cases b0:ordT b c=0
   ·obtain rfl:=Zdu b c b0
    rw[if_neg a0];exact h1
   ·rw[if_neg b0] at h2
    have h3:=Zep a b c h1 h2
    by_cases c0:ordT a c=0
    ·exfalso
     obtain rfl:=Zdu a c c0
     have:=ZcO a b
     omega
    ·rw[if_neg c0];exact h3
end
theorem IsElt.treeE {h:Hp} {t u:Bool} {sz i off:Nat} {xs:List Tree} (hi:i < xs.length):IsElt h (.eptr t sz (xs.map (Zat u)) i off) (ZaE u xs[i]) off []:=by
 have:=IsElt.mapE (h:=h) (t:=t) (sz:=sz) (off:=off) (f:=Zat u) hi
 rwa [Za4] at this
theorem IsElt.treeO {h:Hp} {u:Bool} {k m sz i off:Nat} {e:TypeId} {xs:List Tree} (hk:hget h k=some (.row e sz (xs.map (Zat u)))) (hm:(xs.map (Zat u)).length=m) (hi:i < xs.length):IsElt h (.optr k m i off) (ZaE u xs[i]) off [(k,some (.row e sz (xs.map (Zat u))))]:=by
 have:=IsElt.mapO (f:=Zat u) (off:=off) hk hm hi
 rwa [Za4] at this
end Go.Proofs.YtbpmepgnjanhnaaGreat
