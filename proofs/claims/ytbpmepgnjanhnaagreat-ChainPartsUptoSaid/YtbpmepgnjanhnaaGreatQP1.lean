import Derived.Test.YtbpmepgnjanhnaaGreatQGramC
set_option linter.unusedVariables false
set_option linter.unusedSimpArgs false
set_option linter.unusedSectionVars false
namespace Go.Proofs.YtbpmepgnjanhnaaGreat
open Go.RowKit
mutual
def fsz:Frag→Nat
 | .mk _ _ l=>1+fszs l
def fszs:List Frag→Nat
 | []=>0
 | x::r=>fsz x+fszs r
end
theorem Ze8 (x:Frag):fsz x=1+fszs x.l:=by cases x;rfl
theorem ZnT (x:Frag):1≤fsz x:=by rw[Ze8];omega
theorem Zbc:∀ (a b:List Frag),fszs (a++b)=fszs a+fszs b
 | [],b=>by simp[fszs]
 | x::a,b=>by simp only[List.cons_append,fszs,Zbc a b];omega
theorem Zdt {x:Frag}:∀ {l:List Frag},x∈l→fsz x≤fszs l
 | y::l,h=>by
  simp only[fszs]
  rcases List.mem_cons.1 h with rfl|h
  ·omega
  ·have:=Zdt h;omega
theorem Zbs:∀ (l:List Frag),l.length≤fszs l
 | []=>by simp
 | x::l=>by have:=Zbs l;have:=ZnT x;simp only[List.length_cons,fszs];omega
theorem ZfO {l:List Frag} {i:Nat} (h:i < l.length):fszs (l.take (i+1))=fszs (l.take i)+fsz l[i]:=by
 rw[List.take_succ_eq_append_getElem h,Zbc];simp[fszs]
theorem ZdO (l:List Frag) (i:Nat):fszs l=fszs (l.take i)+fszs (l.drop i):=by rw[←Zbc,List.take_append_drop]
theorem ZsO {l:List Frag} {i:Nat} (h:i < l.length):fszs (l.drop i)=fsz l[i]+fszs (l.drop (i+1)):=by
 rw[List.drop_eq_getElem_cons h,fszs]
mutual
def cpF:Frag→Nat
 | .mk o _ l=>1+(if o=1∨o=4 then cpL l else 0)
def cpL:List Frag→Nat
 | []=>0
 | x::r=>cpF x+cpL r
end
theorem Zps (x:Frag):cpF x=1+(if x.op=1∨x.op=4 then cpL x.l else 0):=by cases x;rw[cpF];rfl
theorem ZcG:∀ (a b:List Frag),cpL (a++b)=cpL a+cpL b
 | [],b=>by simp[cpL]
 | x::a,b=>by simp only[List.cons_append,cpL,ZcG a b];omega
theorem Zvl {l:List Frag} {i:Nat} (h:i < l.length):cpL (l.take (i+1))=cpL (l.take i)+cpF l[i]:=by
 rw[List.take_succ_eq_append_getElem h,ZcG];simp[cpL]
mutual
theorem Zyf:∀ (x:Frag),cpF x≤fsz x
 | .mk o n l=>by have:=ZsP l;rw[cpF,fsz];split <;> omega
theorem ZsP:∀ (l:List Frag),cpL l≤fszs l
 | []=>Nat.le_refl _
 | x::r=>by have:=Zyf x;have:=ZsP r;simp only[cpL,fszs];omega
end
def bump (u:List Int) (n:Int):List Int:=u.set n.toNat (u.getD n.toNat 0+1)
mutual
def usF (m:Int):Frag→List Int→Bool×List Int
 | .mk o n l,u=>if o=1 then (if n < 0∨m≤n then (false,u) else usL m l u)
  else if o=2 then (if n < 0∨(u.length:Int)≤n then (false,u) else (true,bump u n))
  else if o=4 then (if n < 0∨(u.length:Int)≤n then (false,u) else usL m l (bump u n))
  else if o=3 then (true,u) else (false,u)
def usL (m:Int):List Frag→List Int→Bool×List Int
 | [],u=>(true,u)
 | x::r,u=>bif (usF m x u).1 then usL m r (usF m x u).2 else (false,(usF m x u).2)
end
theorem Zyg (m:Int) (x:Frag) (u:List Int):usF m x u=if x.op=1 then (if x.n < 0∨m≤x.n then (false,u) else usL m x.l u)
  else if x.op=2 then (if x.n < 0∨(u.length:Int)≤x.n then (false,u) else (true,bump u x.n))
  else if x.op=4 then (if x.n < 0∨(u.length:Int)≤x.n then (false,u) else usL m x.l (bump u x.n))
  else if x.op=3 then (true,u) else (false,u):=by cases x;rw[usF];rfl
theorem Zvm {m:Int} {l:List Frag} {i:Nat} {u:List Int} (h:i < l.length):usL m (l.drop i) u=bif (usF m l[i] u).1 then usL m (l.drop (i+1)) (usF m l[i] u).2 else (false,(usF m l[i] u).2):=by
 rw[List.drop_eq_getElem_cons h,usL]
theorem ZcH (u:List Int) (n:Int):(bump u n).length=u.length:=by simp[bump]
def Upto (B:Nat) (u:List Int):Prop:=∀ x∈u,0≤x∧x≤B
theorem Upto.mono {B C:Nat} {u:List Int} (h:Upto B u) (hb:B≤C):Upto C u:=fun x hx=>⟨(h x hx).1,by have:=(h x hx).2;omega⟩
theorem Zmh {u:List Int} {n:Int} {B:Nat} (h:Upto B u):Upto (B+1) (bump u n):=fun x hx=>by
 rcases List.mem_or_eq_of_mem_set hx with hx|rfl
 ·have:=h x hx;omega
 ·rw[List.getD_eq_getElem?_getD]
  by_cases hn:n.toNat < u.length
  ·rw[List.getElem?_eq_getElem hn]
   have:=h _ (List.getElem_mem hn)
   simp;omega
  ·rw[List.getElem?_eq_none (by omega)];simp;omega
mutual
theorem ZnU (m:Int):∀ (x:Frag) (u:List Int),(usF m x u).2.length=u.length
 | .mk o n l,u=>by
  have h1:=ZkL m l u
  have h2:=ZkL m l (bump u n)
  rw[usF]
  rw[ZcH] at h2
  repeat' split
  all_goals first|rfl|assumption|exact ZcH u n
theorem ZkL (m:Int):∀ (l:List Frag) (u:List Int),(usL m l u).2.length=u.length
 | [],u=>rfl
 | x::r,u=>by
  have h1:=ZnU m x u
  have h2:=ZkL m r (usF m x u).2
  rw[usL]
  cases (usF m x u).1 with
  | true=>simpa using h2.trans h1
  | false=>simpa using h1
end
def ZbD (old:Gram) (x:Tree):Bool:=!decide ((ZaN old x old.start).code=0) || decide (0 < (ZcZ old x).length)
def Zia (old:Gram) (l:List Frag) (right:List Int):Bool:=(usL old.rules.length l (List.replicate (kids right).length 0)).1 && (usL old.rules.length l (List.replicate (kids right).length 0)).2.all (fun x=>decide (x=1))
def Zax (old:Gram) (l:List Frag) (right:List Int):Int:=if 60 < cpL l then 6 else if Zia old l right=true then 0 else 14
def Zda (old:Gram):List (List Frag)→List Rule→Nat→Fault
 | l::ls,r::rs,i=>if Zax old l r.right=0 then Zda old ls rs (i+1) else ⟨Zax old l r.right,i⟩
 | _,_,_=>⟨0,0⟩
def Zar (old:Gram) (s:Step):Fault :=
 if (Zac old).code=0 then
  if (Zac s.g).code=0 then
   if s.empty.length≤200 then
    if s.empty.any (ZbD old)=true then ⟨13, -1⟩
    else if s.frags.length=s.g.rules.length then Zda old s.frags s.g.rules 0 else ⟨14, -1⟩
   else ⟨6, -1⟩
  else Zac s.g
 else Zac old
theorem ZnV {old:Gram} {ls:List (List Frag)} {rs:List Rule} {i:Nat} (h1:i < ls.length) (h2:i < rs.length):Zda old (ls.drop i) (rs.drop i) i=if Zax old ls[i] rs[i].right=0 then Zda old (ls.drop (i+1)) (rs.drop (i+1)) (i+1) else ⟨Zax old ls[i] rs[i].right,i⟩:=by
 rw[List.drop_eq_getElem_cons h1,List.drop_eq_getElem_cons h2,Zda]
theorem ZqJ {old:Gram} {ls:List (List Frag)} {rs:List Rule} {i:Nat} (h1:¬ i < ls.length):Zda old (ls.drop i) (rs.drop i) i=⟨0,0⟩:=by
 rw[List.drop_of_length_le (by omega),Zda];simp
structure Step.fit (s:Step):Prop where
 g:s.g.fit
 frags:s.frags.length≤100000000
 frag:∀ l∈s.frags,fszs l≤100000000
 tree:cnts s.empty≤100000000
theorem Step.fit.empty {s:Step} (h:s.fit):s.empty.length≤100000000:=Nat.le_trans (ZbC _) h.tree
theorem Step.fit.trees {s:Step} (h:s.fit):∀ x∈s.empty,cnt x≤100000000:=fun x hx=>Nat.le_trans (ZcY hx) h.tree
def ZaH (k:Nat):List Frag:=(List.range k).map fun (i:Nat)=>Frag.mk 2 (i:Int) []
def ZaQ (r:Int) (k:Nat):List Frag:=[.mk 1 r (ZaH k)]
theorem IsElt.fragE {h:Hp} {t u:Bool} {sz i off:Nat} {xs:List Frag} (hi:i < xs.length):IsElt h (.eptr t sz (xs.map (ZaG u)) i off) (Zk4 u xs[i]) off []:=by
 have:=IsElt.mapE (h:=h) (t:=t) (sz:=sz) (off:=off) (f:=ZaG u) hi
 rwa [ZbQ] at this
theorem IsElt.fragO {h:Hp} {u:Bool} {k m sz i off:Nat} {e:TypeId} {xs:List Frag} (hk:hget h k=some (.row e sz (xs.map (ZaG u)))) (hm:(xs.map (ZaG u)).length=m) (hi:i < xs.length):IsElt h (.optr k m i off) (Zk4 u xs[i]) off [(k,some (.row e sz (xs.map (ZaG u))))]:=by
 have:=IsElt.mapO (f:=ZaG u) (off:=off) hk hm hi
 rwa [ZbQ] at this
structure SP where
 vars:Int
 rules:List Rule
 frags:List (List Frag)
 term:List Int
def SP.many (s:SP):Bool:=decide (64 < s.vars) || decide (160 < s.rules.length)
def SP.rule (s:SP) (v:Int) (right:List Int) (l:List Frag):SP:=⟨s.vars,s.rules++[⟨v,right⟩],s.frags++[l],s.term⟩
def SP.fresh (s:SP):SP:=⟨s.vars+1,s.rules,s.frags,s.term⟩
def SP.lift (s:SP) (x:Int):SP:=if 0≤x then s else
 if s.term.getD (-1 - x).toNat 0 < 0 then ⟨s.vars+1,s.rules++[⟨s.vars,[x]⟩],s.frags++[[]],s.term.set (-1 - x).toNat s.vars⟩ else s
def SP.lifted (s:SP) (x:Int):Int:=if 0≤x then x else (s.lift x).term.getD (-1 - x).toNat 0
def SP.lifts:SP→List Int→SP
 | s,[]=>s
 | s,x::r=>SP.lifts (s.lift x) r
def SP.lifteds:SP→List Int→List Int
 | _,[]=>[]
 | s,x::r=>s.lifted x::SP.lifteds (s.lift x) r
theorem SP.lifteds_length:∀ (s:SP) (l:List Int),(s.lifteds l).length=l.length
 | _,[]=>rfl
 | s,x::r=>by simp[SP.lifteds,SP.lifteds_length]
theorem SP.lifts_append:∀ (s:SP) (a b:List Int),s.lifts (a++b)=(s.lifts a).lifts b
 | _,[],_=>rfl
 | s,x::r,b=>by simp[SP.lifts,SP.lifts_append]
theorem SP.lifteds_append:∀ (s:SP) (a b:List Int),s.lifteds (a++b)=s.lifteds a++(s.lifts a).lifteds b
 | _,[],_=>rfl
 | s,x::r,b=>by simp[SP.lifts,SP.lifteds,SP.lifteds_append]
def Zhm (v:Int) (l:List Int):List Int:=(List.range (l.length - 2)).map (fun (i:Nat)=>v+(i:Int))++[l.getD (l.length - 1) 0]
def ZbY:List Frag:=[.mk 2 0 [],.mk 2 1 []]
def Zi9 (v:Int) (l rs:List Int):Nat→List Rule
 | 0=>[]
 | k+1=>Zi9 v l rs k++[⟨if k=0 then v else rs.getD (k - 1) 0,[l.getD k 0,rs.getD k 0]⟩]
def Zhn (r:Int):Nat→List (List Frag)
 | 0=>[]
 | k+1=>Zhn r k++[if k=0 then [.mk 1 r ZbY] else ZbY]
theorem Zg3 (v:Int) (l rs:List Int):∀ k,(Zi9 v l rs k).length=k
 | 0=>rfl
 | k+1=>by simp[Zi9,Zg3 v l rs k]
theorem Zg4 (r:Int):∀ k,(Zhn r k).length=k
 | 0=>rfl
 | k+1=>by simp[Zhn,Zg4 r k]
theorem Zg5 (v:Int) {l:List Int} (h:2≤l.length):(Zhm v l).length=l.length - 1:=by simp[Zhm];omega
def SP.split (s:SP) (v r:Int) (right:List Int):SP :=
 ⟨(s.lifts right).vars+((right.length - 2:Nat):Int),(s.lifts right).rules++Zi9 v (s.lifteds right) (Zhm (s.lifts right).vars (s.lifteds right)) (right.length - 1),
  (s.lifts right).frags++Zhn r (right.length - 1),(s.lifts right).term⟩
def SP.one (s:SP) (r:Nat) (x:Rule):SP:=if x.right.length < 2 then s.rule x.left x.right (ZaQ r (kids x.right).length) else s.split x.left r x.right
def ZbU:SP→List Rule→Nat→Except Nat SP
 | s,[],_=>.ok s
 | s,x::xs,i=>bif (s.one i x).many then .error i else ZbU (s.one i x) xs (i+1)
def Za9 (g:Gram):SP:=⟨g.vars,[],[],List.replicate g.terms.toNat (-1)⟩
def zeroStep:Step:=⟨⟨0,0,0,[]⟩,[],[]⟩
def ZeM (g:Gram) (s:SP):Step:=⟨⟨s.vars,g.terms,g.start,s.rules⟩,s.frags,[]⟩
def ZbZ (g:Gram):Step×Fault :=
 if (Zac g).code=0 then
  match ZbU (Za9 g) g.rules 0 with
  | .ok s=>(ZeM g s,⟨0,0⟩)
  | .error i=>(zeroStep,⟨6,i⟩)
 else (zeroStep,Zac g)
inductive All2 {α β:Type} (P:α→β→Prop):List α→List β→Prop
 | nil:All2 P [] []
 | cons {a:α} {b:β} {xs:List α} {ys:List β} (h:P a b) (r:All2 P xs ys):All2 P (a::xs) (b::ys)
theorem All2.append {α β:Type} {P:α→β→Prop} {a c:List α} {b d:List β} (h:All2 P a b) (k:All2 P c d):All2 P (a++c) (b++d):=by
 induction h with
 | nil=>exact k
 | cons h r ih=>exact .cons h ih
theorem All2.snoc {α β:Type} {P:α→β→Prop} {a:List α} {b:List β} {x:α} {y:β} (h:All2 P a b) (k:P x y):All2 P (a++[x]) (b++[y]):=h.append (.cons k .nil)
theorem All2.len {α β:Type} {P:α→β→Prop} {a:List α} {b:List β} (h:All2 P a b):a.length=b.length:=by
 induction h with
 | nil=>rfl
 | cons h r ih=>simp[ih]
abbrev Zd3 (old:Gram) (ls:List (List Frag)) (rs:List Rule):Prop:=All2 (fun l r=>Zax old l r.right=0) ls rs
theorem Zmi {old:Gram} {ls:List (List Frag)} {rs:List Rule} (h:Zd3 old ls rs):∀ i,Zda old ls rs i=⟨0,0⟩:=by
 induction h with
 | nil=>intro i;rw[Zda];simp
 | cons h r ih=>intro i;rw[Zda,if_pos h];exact ih _
theorem Zib {old:Gram} {s:Step} (ho:old.ok) (hs:s.g.ok) (he:s.empty=[]) (h:Zd3 old s.frags s.g.rules):Zar old s=⟨0,0⟩:=by
 rw[Zar,if_pos (by rw[ho.fault]),if_pos (by rw[hs.fault]),he]
 simp only[List.length_nil,Nat.zero_le,if_true,List.any_nil,if_false,Bool.false_eq_true]
 rw[if_pos h.len,Zmi h]
theorem Zmj (m:Int):∀ (n i:Nat),usL m ((List.range' i n).map fun (j:Nat)=>Frag.mk 2 (j:Int) []) (List.replicate i 1++List.replicate n 0)=(true,List.replicate (i+n) 1)
 | 0,i=>by simp[usL]
 | n+1,i=>by
  rw[List.range'_succ,List.map_cons,usL]
  have e:usF m (.mk 2 (i:Int) []) (List.replicate i 1++List.replicate (n+1) 0)=(true,List.replicate (i+1) 1++List.replicate n 0):=by
   rw[usF,if_neg (by decide),if_pos rfl,if_neg (by simp;omega)]
   congr 1
   rw[bump]
   simp only[Int.toNat_natCast]
   rw[List.replicate_succ,List.getD_eq_getElem?_getD,List.getElem?_append_right (by simp),List.set_append_right _ _ (by simp)]
   simp[List.replicate_succ']
  rw[e]
  simp only[cond_true]
  rw[Zmj m n (i+1)]
  congr 2
  omega
theorem Zhy (m:Int) (k:Nat):usL m (ZaH k) (List.replicate k 0)=(true,List.replicate k 1):=by
 have:=Zmj m k 0
 rw[ZaH,List.range_eq_range']
 simpa using this
theorem ZfP:∀ (k:Nat),cpL (ZaH k)=k
 | 0=>rfl
 | k+1=>by rw[show ZaH (k+1)=ZaH k++[.mk 2 k []] by simp[ZaH,List.range_succ],ZcG,ZfP k];simp[cpL,cpF]
theorem Zic {old:Gram} {r:Nat} {right:List Int} (hr:r < old.rules.length) (hk:(kids right).length≤59):Zax old (ZaQ r (kids right).length) right=0:=by
 have h1:cpL (ZaQ r (kids right).length)=1+(kids right).length:=by simp[ZaQ,cpL,cpF,ZfP]
 have h2:usL old.rules.length (ZaQ r (kids right).length) (List.replicate (kids right).length 0)=(true,List.replicate (kids right).length 1):=by
  rw[ZaQ,usL,usF,if_pos rfl,if_neg (by omega),Zhy];simp[usL]
 rw[Zax,if_neg (by omega),if_pos]
 rw[Zia,h2];simp
theorem Zvn {old:Gram} {x:Int} (hx:x < 0):Zax old [] [x]=0:=by
 rw[Zax,if_neg (by simp[cpL]),if_pos]
 rw[Zia,Zkn hx];simp[usL]
theorem ZkM {a b:Int} (ha:0≤a) (hb:0≤b):(kids [a,b]).length=2:=by simp[kids,ha,hb]
theorem ZnW {old:Gram} {a b:Int} (ha:0≤a) (hb:0≤b):Zax old ZbY [a,b]=0:=by
 rw[Zax,if_neg (by simp[cpL,cpF,ZbY]),if_pos]
 have:=Zhy old.rules.length 2
 rw[Zia,ZkM ha hb]
 rw[show ZbY=ZaH 2 from rfl,this];decide
theorem ZqK {old:Gram} {r:Nat} {a b:Int} (hr:r < old.rules.length) (ha:0≤a) (hb:0≤b):Zax old [.mk 1 r ZbY] [a,b]=0:=by
 have:=Zic (old:=old) (r:=r) (right:=[a,b]) hr (by rw[ZkM ha hb];omega)
 rwa [ZkM ha hb] at this
structure SP.fit (g:Gram) (s:SP):Prop where
 vars:g.vars≤s.vars
 left:∀ r∈s.rules,0≤r.left∧r.left < s.vars
 sym:∀ r∈s.rules,∀ x∈r.right, -g.terms≤x∧x < s.vars
 two:∀ r∈s.rules,r.right.length≤2∧(r.right.length=2→∀ x∈r.right,0≤x)
 parts:Zd3 g s.frags s.rules
 tlen:(s.term.length:Int)=g.terms
 term:∀ x∈s.term,x < s.vars
theorem SP.fit.rule {g:Gram} {s:SP} (h:s.fit g) {v:Int} {right:List Int} {l:List Frag} (h1:0≤v∧v < s.vars) (h2:∀ x∈right, -g.terms≤x∧x < s.vars) (h3:right.length≤2∧(right.length=2→∀ x∈right,0≤x)) (h4:Zax g l right=0):(s.rule v right l).fit g:=by
 refine⟨h.vars,?_,?_,?_,h.parts.snoc h4,h.tlen,h.term⟩ <;>
 ·intro r hr
  rcases List.mem_append.1 hr with hr|hr
  ·first|exact h.left r hr|exact h.sym r hr|exact h.two r hr
  ·rw[List.mem_singleton.1 hr];first|exact h1|exact h2|exact h3
theorem SP.fit.grow {g:Gram} {s:SP} (h:s.fit g) {n:Int} (hn:0≤n):SP.fit g ⟨s.vars+n,s.rules,s.frags,s.term⟩ :=
 ⟨by have:=h.vars;dsimp only;omega,fun r hr=>by have:=h.left r hr;dsimp only;omega,fun r hr x hx=>by have:=h.sym r hr x hx;dsimp only;omega,h.two,h.parts,h.tlen,fun x hx=>by have:=h.term x hx;dsimp only;omega⟩
theorem SP.lift_term {s:SP} {x:Int}:(s.lift x).term.length=s.term.length:=by
 rw[SP.lift];split
 ·rfl
 ·split <;> simp
theorem SP.fit.lift {g:Gram} {s:SP} (hg:g.ok) (h:s.fit g) {x:Int} (hx : -g.terms≤x∧x < s.vars):(s.lift x).fit g∧s.vars≤(s.lift x).vars∧0≤s.lifted x∧s.lifted x < (s.lift x).vars:=by
 have hv:=h.vars
 have hv1:=hg.vars1
 have hv2:=hg.terms0
 by_cases h0:0≤x
 ·have e:s.lift x=s:=by rw[SP.lift,if_pos h0]
  rw[e]
  refine⟨h,Int.le_refl _,?_,?_⟩ <;> rw[SP.lifted,if_pos h0]
  ·exact h0
  ·exact hx.2
 ·have hl:(-1 - x).toNat < s.term.length:=by have:=h.tlen;omega
  by_cases h1:s.term.getD (-1 - x).toNat 0 < 0
  ·have e:s.lift x=⟨s.vars+1,s.rules++[⟨s.vars,[x]⟩],s.frags++[[]],s.term.set (-1 - x).toNat s.vars⟩:=by rw[SP.lift,if_neg h0,if_pos h1]
   have e2:s.lifted x=s.vars:=by
    rw[SP.lifted,if_neg h0,e]
    simp only[List.getD_eq_getElem?_getD]
    rw[List.getElem?_set_self hl];rfl
   rw[e2,e]
   have k:=(h.grow (n:=1) (by decide)).rule (v:=s.vars) (right:=[x]) (l:=[]) (by dsimp only;omega) (fun y hy=>by rw[List.mem_singleton.1 hy];dsimp only;omega) ⟨by simp,by simp⟩ (Zvn (by omega))
   refine⟨⟨k.vars,k.left,k.sym,k.two,k.parts,by have:=h.tlen;simpa using this,fun y hy=>?_⟩,by dsimp only;omega,by omega,by dsimp only;omega⟩
   rcases List.mem_or_eq_of_mem_set hy with hy|rfl
   ·have:=h.term y hy;dsimp only;omega
   ·dsimp only;omega
  ·have e:s.lift x=s:=by rw[SP.lift,if_neg h0,if_neg h1]
   have e2:s.lifted x=s.term.getD (-1 - x).toNat 0:=by rw[SP.lifted,if_neg h0,e]
   rw[e2,e]
   refine⟨h,Int.le_refl _,by omega,?_⟩
   rw[List.getD_eq_getElem?_getD,List.getElem?_eq_getElem hl]
   exact h.term _ (List.getElem_mem hl)
theorem SP.fit.lifts {g:Gram} (hg:g.ok):∀ {l:List Int} {s:SP},s.fit g→(∀ x∈l, -g.terms≤x∧x < g.vars)→(s.lifts l).fit g∧s.vars≤(s.lifts l).vars∧∀ y∈s.lifteds l,0≤y∧y < (s.lifts l).vars
 | [],s,h,_=>⟨h,Int.le_refl _,fun y hy=>by simp[SP.lifteds] at hy⟩
 | x::l,s,h,hx=>by
  have hv:=h.vars
  have h0:=hx x (by simp)
  obtain⟨k1,k2,k3,k4⟩:=h.lift hg (x:=x) ⟨h0.1,by omega⟩
  obtain⟨j1,j2,j3⟩:=SP.fit.lifts hg (l:=l) k1 (fun y hy=>hx y (by simp[hy]))
  refine⟨j1,by rw[SP.lifts];omega,fun y hy=>?_⟩
  rw[SP.lifteds] at hy
  rw[SP.lifts]
  rcases List.mem_cons.1 hy with rfl|hy
  ·exact⟨k3,by omega⟩
  ·exact j3 y hy
theorem ZsQ {v:Int} {l:List Int} {N:Int} (hl:2≤l.length) (h0:0≤v) (hN:∀ y∈l,0≤y∧y < N) (hv:v+((l.length - 2:Nat):Int)≤N):∀ y∈Zhm v l,0≤y∧y < N:=by
 intro y hy
 rw[Zhm] at hy
 rcases List.mem_append.1 hy with hy|hy
 ·obtain⟨i,hi,rfl⟩:=List.mem_map.1 hy
  have:=List.mem_range.1 hi
  omega
 ·rw[List.mem_singleton.1 hy,List.getD_eq_getElem?_getD,List.getElem?_eq_getElem (by omega)]
  exact hN _ (List.getElem_mem _)
theorem ZkN {l:List Int} {k:Nat} (h:k < l.length):l.getD k 0∈l:=by rw[List.getD_eq_getElem?_getD,List.getElem?_eq_getElem h];exact List.getElem_mem h
theorem SP.fit.pairs {g:Gram} {s:SP} (h:s.fit g) {v:Int} {r:Nat} {l rs:List Int} (hr:r < g.rules.length) (hv:0≤v∧v < s.vars) (h1:∀ y∈l,0≤y∧y < s.vars) (h2:∀ y∈rs,0≤y∧y < s.vars) (ht:0≤g.terms):∀ k,k≤l.length→k≤rs.length→SP.fit g ⟨s.vars,s.rules++Zi9 v l rs k,s.frags++Zhn r k,s.term⟩
 | 0,_,_=>by simpa[Zi9,Zhn] using h
 | k+1,hk,hk'=>by
  have ih:=SP.fit.pairs h hr hv h1 h2 ht k (by omega) (by omega)
  have a1:=h1 _ (ZkN (l:=l) (k:=k) (by omega))
  have a2:=h2 _ (ZkN (l:=rs) (k:=k) (by omega))
  have:=ih.rule (v:=if k=0 then v else rs.getD (k - 1) 0) (right:=[l.getD k 0,rs.getD k 0]) (l:=if k=0 then [.mk 1 r ZbY] else ZbY) (by
    split
    ·exact hv
    ·exact h2 _ (ZkN (by omega))) (fun x hx=>by
    simp only[List.mem_cons,List.not_mem_nil,or_false] at hx
    rcases hx with rfl|rfl <;> dsimp only <;> omega) ⟨by simp,fun _ x hx=>by
    simp only[List.mem_cons,List.not_mem_nil,or_false] at hx
    rcases hx with rfl|rfl <;> omega⟩ (by
    split
    ·exact ZqK hr a1.1 a2.1
    ·exact ZnW a1.1 a2.1)
  simpa[SP.rule,Zi9,Zhn,List.append_assoc] using this
theorem SP.fit.one {g:Gram} {s:SP} (hg:g.ok) (h:s.fit g) {i:Nat} (hi:i < g.rules.length) {x:Rule} (hx:ZaP g x=0):(s.one i x).fit g:=by
 obtain⟨h1,h2,h3,h4⟩:=Zbz hx
 have hv:=h.vars
 rw[SP.one]
 split
 ·rename_i hl
  refine h.rule ⟨h2,by omega⟩ (fun y hy=>by have:=h4 y hy;omega) ⟨by omega,by omega⟩ (Zic hi ?_)
  have:=Za3 x.right
  omega
 ·rename_i hl
  obtain⟨k1,k2,k3⟩:=SP.fit.lifts hg h h4
  have hle:=SP.lifteds_length s x.right
  have hk:=hg.vars1
  have hr2:=Zg5 (v:=(s.lifts x.right).vars) (l:=s.lifteds x.right) (by omega)
  have:=(k1.grow (n:=((x.right.length - 2:Nat):Int)) (by omega)).pairs (v:=x.left) (l:=s.lifteds x.right) (rs:=Zhm (s.lifts x.right).vars (s.lifteds x.right)) hi (by dsimp only;omega) (fun y hy=>by have:=k3 y hy;dsimp only;omega)
   (ZsQ (by omega) (by omega) (fun y hy=>by have:=k3 y hy;dsimp only;omega) (by dsimp only;rw[hle];omega)) hg.terms0 (x.right.length - 1) (by omega) (by omega)
  exact this
theorem ZgD {g:Gram} (hg:g.ok):∀ {rs:List Rule} {s s':SP} {i:Nat},s.fit g→s.many=false→(∀ r∈rs,ZaP g r=0)→i+rs.length≤g.rules.length→ZbU s rs i=.ok s'→s'.fit g∧s'.many=false
 | [],s,s',i,h,hm,_,_,e=>by rw[ZbU] at e;cases e;exact⟨h,hm⟩
 | x::rs,s,s',i,h,hm,hr,hi,e=>by
  rw[ZbU] at e
  simp only[List.length_cons] at hi
  cases hc:(s.one i x).many with
  | true=>rw[hc] at e;cases e
  | false =>
   rw[hc] at e
   exact ZgD hg (h.one hg (by omega) (hr x (by simp))) hc (fun r h=>hr r (by simp[h])) (by omega) e
theorem Zdy {g:Gram} (hg:g.ok):(Za9 g).fit g∧(Za9 g).many=false:=by
 have h1:=hg.terms0
 have h2:=hg.vars
 have h3:=hg.vars1
 refine⟨⟨Int.le_refl _,fun r hr=>by simp[Za9] at hr,fun r hr=>by simp[Za9] at hr,fun r hr=>by simp[Za9] at hr,.nil,(by show ((List.replicate g.terms.toNat (-1:Int)).length:Int)=g.terms;rw[List.length_replicate];omega),fun x hx=>?_⟩,?_⟩
 ·rw[(List.mem_replicate.1 hx).2];show (-1:Int) < g.vars;omega
 ·simp only[SP.many,Bool.or_eq_false_iff,decide_eq_false_iff_not]
  exact⟨by show ¬ (64 < g.vars);omega,by show ¬ 160 < 0;omega⟩
theorem Gram.ok.rule {g:Gram} (h:g.ok) {r:Rule} (hr:r∈g.rules):ZaP g r=0:=by
 unfold ZaP
 rw[if_neg (by have:=h.right r hr;omega),if_neg]
 simp only[not_or]
 refine⟨by have:=h.left0 r hr;omega,by have:=h.left r hr;omega,?_⟩
 simp only[Bool.not_eq_true,List.any_eq_false]
 intro s hs
 have:=h.lo r hr s hs
 have:=h.hi r hr s hs
 simp[ZdG];omega
theorem ZnX {s:SP} (h:s.many=false):s.vars≤64∧s.rules.length≤160:=by
 simp only[SP.many,Bool.or_eq_false_iff,decide_eq_false_iff_not] at h;omega
theorem Zg6 (g:Gram):((Zac g).code≠0∧ZbZ g=(zeroStep,Zac g))∨(∃ i,ZbZ g=(zeroStep,⟨6,(i:Nat)⟩)) ∨
  ∃ s,g.ok∧ZbU (Za9 g) g.rules 0=.ok s∧ZbZ g=(ZeM g s,⟨0,0⟩):=by
 by_cases h:(Zac g).code=0
 ·rw[ZbZ,if_pos h]
  cases hc:ZbU (Za9 g) g.rules 0 with
  | ok s=>exact .inr (.inr ⟨s,Za1 h,rfl,rfl⟩)
  | error i=>exact .inr (.inl ⟨i,rfl⟩)
 ·rw[ZbZ,if_neg h];exact .inl ⟨h,rfl⟩
theorem Zid {g:Gram} (hg:g.ok) {s:SP} (hc:ZbU (Za9 g) g.rules 0=.ok s):(ZeM g s).g.ok∧Zar g (ZeM g s)=⟨0,0⟩∧∀ r∈s.rules,r.right.length≤2∧(r.right.length=2→∀ x∈r.right,0≤x):=by
 obtain⟨h1,h2⟩:=Zdy hg
 obtain⟨h3,h4⟩:=ZgD hg h1 h2 (fun r hr=>hg.rule hr) (by omega) hc
 obtain⟨h5,h6⟩:=ZnX h4
 have a1:=h3.vars
 have a2:=hg.vars1
 have a3:=hg.start
 have hok:(ZeM g s).g.ok:=⟨by show 1≤s.vars;omega,h5,hg.terms0,hg.terms,hg.start0,by show g.start < s.vars;omega,h6,fun r hr=>by have:=(h3.two r hr).1;omega,
  fun r hr=>(h3.left r hr).1,fun r hr=>(h3.left r hr).2,fun r hr x hx=>(h3.sym r hr x hx).1,fun r hr x hx=>(h3.sym r hr x hx).2⟩
 exact⟨hok,Zib hg hok rfl h3.parts,h3.two⟩
structure CS where
 p:Nat
 bad:Bool
 u:List Int
def CS.use (s:CS) (n:Int):CS:=if (s.bad || (decide (n < 0) || decide ((s.u.length:Int)≤n)))=true then ⟨s.p,true,s.u⟩ else ⟨s.p,false,bump s.u n⟩
mutual
def clF (m:Int):Frag→CS→CS
 | .mk o n l,s=>if o=1 then clL m l ⟨s.p,s.bad || (decide (n < 0) || decide (m≤n)),s.u⟩
  else if o=2 then s.use n
  else if o=4 then clL m l (s.use n)
  else if o=3 then s else ⟨s.p,true,s.u⟩
def clL (m:Int):List Frag→CS→CS
 | [],s=>s
 | x::r,s=>if 60 < s.p+1 then ⟨s.p+1,s.bad,s.u⟩ else clL m r (clF m x ⟨s.p+1,s.bad,s.u⟩)
end
theorem Zyh (m:Int) (x:Frag) (s:CS):clF m x s=if x.op=1 then clL m x.l ⟨s.p,s.bad || (decide (x.n < 0) || decide (m≤x.n)),s.u⟩
  else if x.op=2 then s.use x.n
  else if x.op=4 then clL m x.l (s.use x.n)
  else if x.op=3 then s else ⟨s.p,true,s.u⟩:=by cases x;rw[clF];rfl
theorem Zvo {m:Int} {l:List Frag} {i:Nat} {s:CS} (h:i < l.length):clL m (l.drop i) s=if 60 < s.p+1 then ⟨s.p+1,s.bad,s.u⟩ else clL m (l.drop (i+1)) (clF m l[i] ⟨s.p+1,s.bad,s.u⟩):=by
 rw[List.drop_eq_getElem_cons h,clL]
theorem Zw4 {m:Int} {l:List Frag} {i:Nat} {s:CS} (h:¬ i < l.length):clL m (l.drop i) s=s:=by
 rw[List.drop_of_length_le (by omega),clL]
theorem CS.use_p (s:CS) (n:Int):(s.use n).p=s.p:=by unfold CS.use;split <;> rfl
theorem CS.use_len (s:CS) (n:Int):(s.use n).u.length=s.u.length:=by unfold CS.use;split <;> simp[bump]
theorem CS.use_upto {s:CS} {n:Int} {B:Nat} (h:Upto B s.u):Upto (B+1) (s.use n).u:=by
 unfold CS.use;split
 ·exact h.mono (by omega)
 ·exact Zmh h
mutual
theorem Zw5 (m:Int):∀ (x:Frag) (s:CS),(clF m x s).u.length=s.u.length
 | .mk o n l,s=>by
  have h1:=Zex m l ⟨s.p,s.bad || (decide (n < 0) || decide (m≤n)),s.u⟩
  have h2:=Zex m l (s.use n)
  rw[CS.use_len] at h2
  rw[clF]
  repeat' split
  all_goals first|exact h1|exact h2|exact s.use_len n|rfl
theorem Zex (m:Int):∀ (l:List Frag) (s:CS),(clL m l s).u.length=s.u.length
 | [],s=>rfl
 | x::r,s=>by
  have h1:=Zw5 m x ⟨s.p+1,s.bad,s.u⟩
  have h2:=Zex m r (clF m x ⟨s.p+1,s.bad,s.u⟩)
  rw[clL];split
  ·rfl
  ·exact h2.trans h1
end
mutual
theorem ZyT (m:Int):∀ (x:Frag) (s:CS),s.p≤(clF m x s).p∧(clF m x s).p+1≤s.p+fsz x
 | .mk o n l,s=>by
  have h1:=ZkO m l ⟨s.p,s.bad || (decide (n < 0) || decide (m≤n)),s.u⟩
  have h2:=ZkO m l (s.use n)
  rw[CS.use_p] at h2
  have h3:=s.use_p n
  rw[clF,fsz]
  repeat' split
  all_goals first|(dsimp only at h1 ⊢;omega)
theorem ZkO (m:Int):∀ (l:List Frag) (s:CS),s.p≤(clL m l s).p∧(clL m l s).p≤s.p+fszs l
 | [],s=>by simp[clL]
 | x::r,s=>by
  have h1:=ZyT m x ⟨s.p+1,s.bad,s.u⟩
  have h2:=ZkO m r (clF m x ⟨s.p+1,s.bad,s.u⟩)
  have h3:=ZnT x
  rw[clL,fszs]
  split
  ·dsimp only;omega
  ·dsimp only at h1;omega
end
mutual
theorem Zvp (m:Int):∀ (x:Frag) (s:CS) (B:Nat),Upto B s.u→Upto (B+fsz x) (clF m x s).u
 | .mk o n l,s,B,h=>by
  have h1:=Zdu m l ⟨s.p,s.bad || (decide (n < 0) || decide (m≤n)),s.u⟩ B h
  have h2:=Zdu m l (s.use n) (B+1) (CS.use_upto h)
  have h3:=CS.use_upto (n:=n) h
  rw[clF,fsz]
  repeat' split
  all_goals first|exact h1.mono (by omega)|exact h2.mono (by omega)|exact h3.mono (by omega)|exact h.mono (by omega)
theorem Zdu (m:Int):∀ (l:List Frag) (s:CS) (B:Nat),Upto B s.u→Upto (B+fszs l) (clL m l s).u
 | [],s,B,h=>h
 | x::r,s,B,h=>by
  have h1:=Zvp m x ⟨s.p+1,s.bad,s.u⟩ B h
  have h2:=Zdu m r (clF m x ⟨s.p+1,s.bad,s.u⟩) (B+fsz x) h1
  rw[clL,fszs]
  split
  ·exact h.mono (by omega)
  ·exact h2.mono (by omega)
end
structure Tells (s s':CS) (n:Nat) (r:Bool×List Int):Prop where
 p:s'.p=s.p+n
 bad:s.bad=true→s'.bad=true
 ok:s.bad=false→r.1=true→s'.bad=false∧s'.u=r.2
 no:s.bad=false→r.1=false→s'.bad=true
theorem Zmk (s:CS) (n:Int):Tells s (s.use n) 0 (if n < 0∨(s.u.length:Int)≤n then (false,s.u) else (true,bump s.u n)):=by
 unfold CS.use
 by_cases h:n < 0∨(s.u.length:Int)≤n
 ·have h':(decide (n < 0) || decide ((s.u.length:Int)≤n))=true:=by simpa using h
  rw[if_pos h,if_pos (by rw[h'];simp)]
  exact⟨rfl,fun _=>rfl,fun _ h=>by simp at h,fun _ _=>rfl⟩
 ·have h':(decide (n < 0) || decide ((s.u.length:Int)≤n))=false:=by simpa using h
  rw[if_neg h]
  cases hb:s.bad with
  | true =>
   rw[h',if_pos (by simp)]
   exact⟨rfl,fun _=>rfl,fun h=>(by rw[hb] at h;cases h),fun h=>(by rw[hb] at h;cases h)⟩
  | false =>
   rw[h',if_neg (by simp)]
   exact⟨rfl,fun h=>(by rw[hb] at h;cases h),fun _ _=>⟨rfl,rfl⟩,fun _ h=>(by cases h)⟩
theorem Tells.then {s s1 s2:CS} {n1 n2:Nat} {r1 r2:Bool×List Int} (h1:Tells s s1 n1 r1) (h2:s1.bad=false→s1.u=r1.2→Tells s1 s2 n2 r2) (h3:s1.bad=true→s2.p=s1.p+n2∧s2.bad=true) :
  Tells s s2 (n1+n2) (bif r1.1 then r2 else (false,r1.2)):=by
 refine⟨?_,fun hb=>(h3 (h1.bad hb)).2,fun hb hr=>?_,fun hb hr=>?_⟩
 ·cases hb1:s1.bad with
  | true=>have:=(h3 hb1).1;have:=h1.p;omega
  | false =>
   have e:s1.u=r1.2:=by
    cases hs:s.bad with
    | true=>have:=h1.bad hs;rw[hb1] at this;cases this
    | false =>
     cases hr:r1.1 with
     | true=>exact (h1.ok hs hr).2
     | false=>have:=h1.no hs hr;rw[hb1] at this;cases this
   have:=(h2 hb1 e).p;have:=h1.p;omega
 ·cases hr1:r1.1 with
  | true =>
   rw[hr1] at hr
   obtain⟨e1,e2⟩:=h1.ok hb hr1
   exact (h2 e1 e2).ok e1 hr
  | false=>rw[hr1] at hr;cases hr
 ·cases hr1:r1.1 with
  | true =>
   rw[hr1] at hr
   obtain⟨e1,e2⟩:=h1.ok hb hr1
   exact (h2 e1 e2).no e1 hr
  | false=>exact (h3 (h1.no hb hr1)).2
mutual
theorem Zml (m:Int):∀ (x:Frag) (s:CS),s.p+cpF x≤61→Tells s (clF m x s) (cpF x - 1) (usF m x s.u)
 | .mk o n l,s,h=>by
  rw[cpF] at h ⊢
  rw[clF,usF]
  by_cases h1:o=1
  ·rw[if_pos h1,if_pos h1]
   rw[if_pos (Or.inl h1)] at h ⊢
   have k:=ZfQ m l ⟨s.p,s.bad || (decide (n < 0) || decide (m≤n)),s.u⟩ (by dsimp only;omega)
   have e:1+cpL l - 1=cpL l:=by omega
   rw[e]
   by_cases hn:n < 0∨m≤n
   ·have hd:(decide (n < 0) || decide (m≤n))=true:=by simpa using hn
    rw[hd,Bool.or_true] at k ⊢
    rw[if_pos hn]
    exact⟨k.p,fun _=>k.bad rfl,fun _ h=>(by cases h),fun _ _=>k.bad rfl⟩
   ·have hd:(decide (n < 0) || decide (m≤n))=false:=by simpa using hn
    rw[hd,Bool.or_false] at k ⊢
    rw[if_neg hn]
    exact⟨k.p,k.bad,k.ok,k.no⟩
  ·rw[if_neg h1,if_neg h1]
   by_cases h2:o=2
   ·rw[if_pos h2,if_pos h2,if_neg (show ¬ (o=1∨o=4) by omega)]
    exact Zmk s n
   ·rw[if_neg h2,if_neg h2]
    by_cases h4:o=4
    ·rw[if_pos h4,if_pos h4]
     rw[if_pos (Or.inr h4)] at h ⊢
     have k:=ZfQ m l (s.use n) (by rw[CS.use_p];omega)
     have e:1+cpL l - 1=0+cpL l:=by omega
     rw[e]
     have u:=Zmk s n
     have t:=u.then (r2:=usL m l (bump s.u n)) (s2:=clL m l (s.use n)) (n2:=cpL l) (fun hb hu=>?_) (fun hb=>⟨k.p,k.bad hb⟩)
     ·by_cases hn:n < 0∨(s.u.length:Int)≤n
      ·rw[if_pos hn] at t ⊢;exact t
      ·rw[if_neg hn] at t ⊢;exact t
     ·by_cases hn:n < 0∨(s.u.length:Int)≤n
      ·exfalso
       have hd:(decide (n < 0) || decide ((s.u.length:Int)≤n))=true:=by simpa using hn
       unfold CS.use at hb
       rw[hd,Bool.or_true,if_pos rfl] at hb
       cases hb
      ·rw[if_neg hn] at hu
       rw[hu] at k;exact k
    ·rw[if_neg h4,if_neg h4,if_neg (show ¬ (o=1∨o=4) by omega)]
     by_cases h3:o=3
     ·rw[if_pos h3,if_pos h3];exact⟨rfl,fun h=>h,fun h _=>⟨h,rfl⟩,fun _ h=>(by cases h)⟩
     ·rw[if_neg h3,if_neg h3];exact⟨rfl,fun _=>rfl,fun _ h=>(by cases h),fun _ _=>rfl⟩
theorem ZfQ (m:Int):∀ (l:List Frag) (s:CS),s.p+cpL l≤60→Tells s (clL m l s) (cpL l) (usL m l s.u)
 | [],s,_=>⟨rfl,fun h=>h,fun h _=>⟨h,rfl⟩,fun _ h=>(by cases h)⟩
 | x::r,s,h=>by
  rw[cpL] at h
  have hx:1≤cpF x:=by rw[Zps];omega
  rw[clL,if_neg (by omega),usL]
  have k1:=Zml m x ⟨s.p+1,s.bad,s.u⟩ (by dsimp only;omega)
  have kp:=k1.p
  dsimp only at kp
  have k2:=ZfQ m r (clF m x ⟨s.p+1,s.bad,s.u⟩) (by omega)
  have t:=k1.then (r2:=usL m r (usF m x s.u).2) (fun hb hu=>by rw[hu] at k2;exact k2) (fun hb=>⟨k2.p,k2.bad hb⟩)
  refine⟨?_,t.bad,t.ok,t.no⟩
  have:=t.p
  dsimp only at this
  rw[cpL];omega
end
mutual
theorem Zvq (m:Int):∀ (x:Frag) (s:CS),s.p≤60→61 < s.p+cpF x→60 < (clF m x s).p
 | .mk o n l,s,h0,h=>by
  rw[cpF] at h
  rw[clF]
  by_cases h1:o=1
  ·rw[if_pos h1]
   rw[if_pos (Or.inl h1)] at h
   exact Zhz m l _ h0 (by dsimp only;omega)
  ·rw[if_neg h1]
   by_cases h2:o=2
   ·exfalso;rw[if_neg (by omega)] at h;omega
   ·rw[if_neg h2]
    by_cases h4:o=4
    ·rw[if_pos h4]
     rw[if_pos (Or.inr h4)] at h
     exact Zhz m l _ (by rw[CS.use_p];exact h0) (by rw[CS.use_p];omega)
    ·exfalso;rw[if_neg (by omega)] at h;omega
theorem Zhz (m:Int):∀ (l:List Frag) (s:CS),s.p≤60→60 < s.p+cpL l→60 < (clL m l s).p
 | [],s,h0,h=>by simp only[cpL] at h;omega
 | x::r,s,h0,h=>by
  rw[cpL] at h
  rw[clL]
  split
  ·assumption
  ·rename_i h60
   by_cases hx:61 < s.p+1+cpF x
   ·have:=Zvq m x ⟨s.p+1,s.bad,s.u⟩ (by dsimp only;omega) hx
    have k:=(ZkO m r (clF m x ⟨s.p+1,s.bad,s.u⟩)).1
    omega
   ·have k1:=(Zml m x ⟨s.p+1,s.bad,s.u⟩ (by dsimp only;omega)).p
    dsimp only at k1
    have hx1:1≤cpF x:=by rw[Zps];omega
    exact Zhz m r _ (by omega) (by omega)
end
theorem Zw6 (old:Gram) (l:List Frag) (right:List Int) (s:CS) (hs:s=clL old.rules.length l ⟨0,false,List.replicate (kids right).length 0⟩) :
  Zax old l right=if 60 < s.p then 6 else if (s.bad || s.u.any (fun n=>!decide (n=1)))=true then 14 else 0:=by
 rw[Zax]
 by_cases h:60 < cpL l
 ·have:=Zhz old.rules.length l ⟨0,false,List.replicate (kids right).length 0⟩ (Nat.zero_le _) (by dsimp only;omega)
  rw[if_pos h,hs,if_pos this]
 ·have k:=ZfQ old.rules.length l ⟨0,false,List.replicate (kids right).length 0⟩ (by dsimp only;omega)
  rw[←hs] at k
  have kp:=k.p
  dsimp only at kp
  rw[if_neg h,if_neg (show ¬ 60 < s.p by omega)]
  unfold Zia
  cases hr:(usL old.rules.length l (List.replicate (kids right).length 0)).1 with
  | true =>
   obtain⟨e1,e2⟩:=k.ok rfl hr
   rw[e1,e2,Bool.true_and,Bool.false_or]
   generalize (usL old.rules.length l (List.replicate (kids right).length 0)).2=u
   have e:(u.any fun n=>!decide (n=1))=!(u.all fun n=>decide (n=1)):=by
    rw[List.all_eq_not_any_not];simp
   rw[e]
   cases u.all (fun n=>decide (n=1)) <;> rfl
  | false=>rw[k.no rfl hr];rfl
mutual
def ZqL (w:List Tree):Tree→List Tree
 | .mk r ks=>if r = -1 then w else [.mk r (ZbO w ks)]
def ZbO (w:List Tree):List Tree→List Tree
 | []=>[]
 | x::r=>ZqL w x++ZbO w r
end
theorem Zvr (w:List Tree) (x:Tree):ZqL w x=if x.rule = -1 then w else [.mk x.rule (ZbO w x.kids)]:=by cases x;rw[ZqL];rfl
theorem Zg7 (w:List Tree):∀ (a b:List Tree),ZbO w (a++b)=ZbO w a++ZbO w b
 | [],b=>rfl
 | x::a,b=>by simp[ZbO,Zg7 w a b]
theorem ZqM {w l:List Tree} {i:Nat} (h:i < l.length):ZbO w (l.take (i+1))=ZbO w (l.take i)++ZqL w l[i]:=by
 rw[List.take_succ_eq_append_getElem h,Zg7];simp[ZbO]
mutual
theorem ZsR (w:List Tree):∀ (x:Tree),cnts (ZqL w x)≤cnt x * (1+cnts w)
 | .mk r ks=>by
  have h:=ZfR w ks
  rw[ZqL,cnt]
  split
  ·rw[Nat.add_mul];omega
  ·simp only[cnts,cnt]
   rw[Nat.add_mul];omega
theorem ZfR (w:List Tree):∀ (l:List Tree),cnts (ZbO w l)≤cnts l * (1+cnts w)
 | []=>by simp[ZbO,cnts]
 | x::r=>by
  have h1:=ZsR w x
  have h2:=ZfR w r
  rw[ZbO,ZbG,cnts,Nat.add_mul];omega
end
def Zer (l:List Tree):Option (List Tree):=if cnts l≤400 then some l else none
mutual
def mkF (kids:List (List Tree)):Frag→Option (List Tree)
 | .mk o n l=>if o=1 then ((mkA kids l).bind Zer).map (fun a=>[.mk n a])
  else if o=2 then some (kids.getD n.toNat [])
  else if o=3 then some [.mk (-1) []]
  else if o=4 then ((mkA kids l).bind Zer).bind (fun a=>Zer (ZbO a (kids.getD n.toNat [])))
  else some []
def mkA (kids:List (List Tree)):List Frag→Option (List Tree)
 | []=>some []
 | x::r=>(mkF kids x).bind fun a=>(mkA kids r).map (a++·)
end
def mkL (kids:List (List Tree)) (l:List Frag):Option (List Tree):=(mkA kids l).bind Zer
theorem Zwt (kids:List (List Tree)) (x:Frag):mkF kids x=if x.op=1 then (mkL kids x.l).map (fun a=>[.mk x.n a])
  else if x.op=2 then some (kids.getD x.n.toNat [])
  else if x.op=3 then some [.mk (-1) []]
  else if x.op=4 then (mkL kids x.l).bind (fun a=>Zer (ZbO a (kids.getD x.n.toNat [])))
  else some []:=by cases x;rw[mkF];rfl
theorem ZjI {l a:List Tree} (h:Zer l=some a):a=l∧cnts l≤400:=by
 unfold Zer at h;split at h
 ·cases h;exact⟨rfl,by assumption⟩
 ·cases h
theorem ZkP {kids:List (List Tree)} {l:List Frag} {a:List Tree} (h:mkL kids l=some a):mkA kids l=some a∧cnts a≤400:=by
 unfold mkL at h
 cases hc:mkA kids l with
 | none=>rw[hc] at h;cases h
 | some b=>rw[hc] at h;obtain⟨rfl,h2⟩:=ZjI h;exact⟨rfl,h2⟩
theorem ZsS {kids:List (List Tree)} (hk:∀ k∈kids,cnts k≤400) (n:Nat):cnts (kids.getD n [])≤400:=by
 rw[List.getD_eq_getElem?_getD]
 by_cases h:n < kids.length
 ·rw[List.getElem?_eq_getElem h];exact hk _ (List.getElem_mem h)
 ·rw[List.getElem?_eq_none (by omega)];simp[cnts]
theorem Zw7 {kids:List (List Tree)} (hk:∀ k∈kids,cnts k≤400) {x:Frag} {a:List Tree} (h:mkF kids x=some a):cnts a≤401:=by
 rw[Zwt] at h
 split at h
 ·cases hc:mkL kids x.l with
  | none=>rw[hc] at h;cases h
  | some b =>
   rw[hc] at h;cases h
   have:=(ZkP hc).2
   simp only[cnts,cnt];omega
 ·split at h
  ·cases h;have:=ZsS hk x.n.toNat;omega
  ·split at h
   ·cases h;simp[cnts,cnt]
   ·split at h
    ·cases hc:mkL kids x.l with
     | none=>rw[hc] at h;cases h
     | some b=>rw[hc] at h;obtain⟨rfl,h2⟩:=ZjI h;omega
    ·cases h;simp[cnts]
theorem ZkQ {kids:List (List Tree)} (hk:∀ k∈kids,cnts k≤400):∀ {l:List Frag} {a:List Tree},mkA kids l=some a→cnts a≤401 * l.length
 | [],a,h=>by rw[mkA] at h;cases h;simp[cnts]
 | x::r,a,h=>by
  rw[mkA] at h
  cases hc:mkF kids x with
  | none=>rw[hc] at h;cases h
  | some b =>
   cases hd:mkA kids r with
   | none=>rw[hc,hd] at h;cases h
   | some c =>
    rw[hc,hd] at h
    cases h
    have h1:=Zw7 hk hc
    have h2:=ZkQ hk hd
    rw[ZbG,List.length_cons,Nat.mul_add];omega
theorem ZkR (kids:List (List Tree)):∀ (l:List Frag) (x:Frag),mkA kids (l++[x])=(mkA kids l).bind fun a=>(mkF kids x).map (a++·)
 | [],x=>by
  simp only[List.nil_append,mkA]
  cases mkF kids x <;> simp
 | y::l,x=>by
  simp only[List.cons_append,mkA,ZkR kids l x]
  cases mkF kids y with
  | none=>rfl
  | some a =>
   cases mkA kids l with
   | none=>rfl
   | some b =>
    cases mkF kids x with
    | none=>rfl
    | some c=>simp
theorem Zvs {kids:List (List Tree)} {l:List Frag} {i:Nat} (h:i < l.length):mkA kids (l.take (i+1))=(mkA kids (l.take i)).bind fun a=>(mkF kids l[i]).map (a++·):=by
 rw[List.take_succ_eq_append_getElem h,ZkR]
theorem Zvt {kids:List (List Tree)} {l:List Frag} {i:Nat} (h:mkA kids (l.take i)=none):mkA kids l=none:=by
 rw[←List.take_append_drop i l]
 generalize l.drop i=r
 induction r generalizing i l with
 | nil=>simpa using h
 | cons x r ih =>
  have h2:mkA kids (l.take i++[x])=none:=by rw[ZkR,h];rfl
  have:=ih (l:=l.take i++[x]) (i:=(l.take i++[x]).length) (by rw[List.take_length];exact h2)
  rw[List.take_length] at this
  simpa using this
mutual
def valT (s:Step):Tree→Option (List Tree)
 | .mk r ks=>(valL s ks).bind fun kids=>mkL kids (s.frags.getD r.toNat [])
def valL (s:Step):List Tree→Option (List (List Tree))
 | []=>some []
 | x::l=>(valT s x).bind fun a=>(valL s l).map (a::·)
end
theorem ZsT (s:Step) (x:Tree):valT s x=(valL s x.kids).bind fun kids=>mkL kids (s.frags.getD x.rule.toNat []):=by cases x;rw[valT];rfl
theorem Zpt {s:Step} {x:Tree} {a:List Tree} (h:valT s x=some a):cnts a≤400:=by
 rw[ZsT] at h
 cases hc:valL s x.kids with
 | none=>rw[hc] at h;cases h
 | some ks=>rw[hc] at h;exact (ZkP h).2
theorem Zpu {s:Step}:∀ {l:List Tree} {ks:List (List Tree)},valL s l=some ks→ks.length=l.length∧∀ k∈ks,cnts k≤400
 | [],ks,h=>by rw[valL] at h;cases h;simp
 | x::l,ks,h=>by
  rw[valL] at h
  cases hc:valT s x with
  | none=>rw[hc] at h;cases h
  | some a =>
   cases hd:valL s l with
   | none=>rw[hc,hd] at h;cases h
   | some b =>
    rw[hc,hd] at h
    cases h
    obtain⟨h1,h2⟩:=Zpu hd
    refine⟨by simp[h1],fun k hk=>?_⟩
    rcases List.mem_cons.1 hk with rfl|hk
    ·exact Zpt hc
    ·exact h2 k hk
theorem Zmm (s:Step):∀ (l:List Tree) (x:Tree),valL s (l++[x])=(valL s l).bind fun a=>(valT s x).map (fun b=>a++[b])
 | [],x=>by
  simp only[List.nil_append,valL]
  cases valT s x <;> simp
 | y::l,x=>by
  simp only[List.cons_append,valL,Zmm s l x]
  cases valT s y with
  | none=>rfl
  | some a =>
   cases valL s l with
   | none=>rfl
   | some b =>
    cases valT s x with
    | none=>rfl
    | some c=>simp
theorem ZsU {s:Step} {l:List Tree} {i:Nat} (h:i < l.length):valL s (l.take (i+1))=(valL s (l.take i)).bind fun a=>(valT s l[i]).map (fun b=>a++[b]):=by
 rw[List.take_succ_eq_append_getElem h,Zmm]
def Zb6:Tree:=.mk 0 []
def Zce (old:Gram) (s:Step) (x:Tree):Tree×Fault :=
 if (Zar old s).code=0 then
  if (ZaN s.g x s.g.start).code=0 then
   match valT s x with
   | none=>(Zb6,⟨6, -1⟩)
   | some [y]=>if (ZaN old y old.start).code=0 then (y,⟨0,0⟩) else (Zb6,⟨18, -1⟩)
   | some _=>(Zb6,⟨18, -1⟩)
  else (Zb6,ZaN s.g x s.g.start)
 else (Zb6,Zar old s)
end Go.Proofs.YtbpmepgnjanhnaaGreat
