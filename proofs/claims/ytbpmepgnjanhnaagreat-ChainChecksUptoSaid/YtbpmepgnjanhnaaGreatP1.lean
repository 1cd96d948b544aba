import Derived.Test.YtbpmepgnjanhnaaGreatQGramC
import Derived.Test.YtbpmepgnjanhnaaGreatT1
set_option linter.unusedVariables false
set_option linter.unusedSimpArgs false
set_option linter.unusedSectionVars false
namespace Go.Proofs.YtbpmepgnjanhnaaGreat
open Go.RowKit
mutual
def fsz:Frag→Nat
 | .mk _ _ l=>1+fszs l
def fszs:List Frag→Nat
 | []=>0
 | x::r=>fsz x+fszs r
end
theorem ZdV (x:Frag):fsz x=1+fszs x.l:=by cases x;rfl
theorem Zmn (x:Frag):1≤fsz x:=by rw[ZdV];omega
theorem ZbP:∀ (a b:List Frag),fszs (a++b)=fszs a+fszs b
 | [],b=>by simp[fszs]
 | x::a,b=>by simp only[List.cons_append,fszs,ZbP a b];omega
theorem Zb8 {x:Frag}:∀ {l:List Frag},x∈l→fsz x≤fszs l
 | y::l,h=>by
  simp only[fszs]
  rcases List.mem_cons.1 h with rfl|h
  ·omega
  ·have:=Zb8 h;omega
theorem Zbg:∀ (l:List Frag),l.length≤fszs l
 | []=>by simp
 | x::l=>by have:=Zbg l;have:=Zmn x;simp only[List.length_cons,fszs];omega
theorem Zfm {l:List Frag} {i:Nat} (h:i < l.length):fszs (l.take (i+1))=fszs (l.take i)+fsz l[i]:=by
 rw[List.take_succ_eq_append_getElem h,ZbP];simp[fszs]
theorem Zdp (l:List Frag) (i:Nat):fszs l=fszs (l.take i)+fszs (l.drop i):=by rw[←ZbP,List.take_append_drop]
theorem ZkE {l:List Frag} {i:Nat} (h:i < l.length):fszs (l.drop i)=fsz l[i]+fszs (l.drop (i+1)):=by
 rw[List.drop_eq_getElem_cons h,fszs]
mutual
def cpF:Frag→Nat
 | .mk o _ l=>1+(if o=1∨o=4 then cpL l else 0)
def cpL:List Frag→Nat
 | []=>0
 | x::r=>cpF x+cpL r
end
theorem ZiJ (x:Frag):cpF x=1+(if x.op=1∨x.op=4 then cpL x.l else 0):=by cases x;rw[cpF];rfl
theorem ZcT:∀ (a b:List Frag),cpL (a++b)=cpL a+cpL b
 | [],b=>by simp[cpL]
 | x::a,b=>by simp only[List.cons_append,cpL,ZcT a b];omega
theorem ZjH {l:List Frag} {i:Nat} (h:i < l.length):cpL (l.take (i+1))=cpL (l.take i)+cpF l[i]:=by
 rw[List.take_succ_eq_append_getElem h,ZcT];simp[cpL]
mutual
theorem Zvv:∀ (x:Frag),cpF x≤fsz x
 | .mk o n l=>by have:=ZkF l;rw[cpF,fsz];split <;> omega
theorem ZkF:∀ (l:List Frag),cpL l≤fszs l
 | []=>Nat.le_refl _
 | x::r=>by have:=Zvv x;have:=ZkF r;simp only[cpL,fszs];omega
end
def bump (u:List Int) (n:Int):List Int:=u.set n.toNat (u.getD n.toNat 0+1)
mutual
def usF (m:Int):Frag→List Int→Bool×List Int
 | .mk o n l,u=>if o=1 then (if n < 0∨m≤n then (false,u) else usL m l u)
  else if o=2 then (if n < 0∨(u.length:Int)≤n then (false,u) else (true,bump u n))
  else if o=4 then (if n < 0∨(u.length:Int)≤n then (false,u) else usL m l (bump u n))
  else if o=3 then (true,u) else (false,u)
def usL (m:Int):List Frag→List Int→Bool×List Int
 | [],u=>(true,u)
 | x::r,u=>bif (usF m x u).1 then usL m r (usF m x u).2 else (false,(usF m x u).2)
end
theorem Zp8 (m:Int) (x:Frag) (u:List Int):usF m x u=if x.op=1 then (if x.n < 0∨m≤x.n then (false,u) else usL m x.l u)
  else if x.op=2 then (if x.n < 0∨(u.length:Int)≤x.n then (false,u) else (true,bump u x.n))
  else if x.op=4 then (if x.n < 0∨(u.length:Int)≤x.n then (false,u) else usL m x.l (bump u x.n))
  else if x.op=3 then (true,u) else (false,u):=by cases x;rw[usF];rfl
theorem ZnR {m:Int} {l:List Frag} {i:Nat} {u:List Int} (h:i < l.length):usL m (l.drop i) u=bif (usF m l[i] u).1 then usL m (l.drop (i+1)) (usF m l[i] u).2 else (false,(usF m l[i] u).2):=by
 rw[List.drop_eq_getElem_cons h,usL]
theorem Zum {m:Int} {l:List Frag} {i:Nat} {u:List Int} (h:¬ i < l.length):usL m (l.drop i) u=(true,u):=by
 rw[List.drop_of_length_le (by omega),usL]
theorem ZbQ (u:List Int) (n:Int):(bump u n).length=u.length:=by simp[bump]
def Upto (B:Nat) (u:List Int):Prop:=∀ x∈u,0≤x∧x≤B
theorem Upto.mono {B C:Nat} {u:List Int} (h:Upto B u) (hb:B≤C):Upto C u:=fun x hx=>⟨(h x hx).1,by have:=(h x hx).2;omega⟩
theorem Zd4 {u:List Int} {n:Int} {B:Nat} (h:Upto B u):Upto (B+1) (bump u n):=fun x hx=>by
 rcases List.mem_or_eq_of_mem_set hx with hx|rfl
 ·have:=h x hx;omega
 ·rw[List.getD_eq_getElem?_getD]
  by_cases hn:n.toNat < u.length
  ·rw[List.getElem?_eq_getElem hn]
   have:=h _ (List.getElem_mem hn)
   simp;omega
  ·rw[List.getElem?_eq_none (by omega)];simp;omega
mutual
theorem Zmo (m:Int):∀ (x:Frag) (u:List Int),(usF m x u).2.length=u.length
 | .mk o n l,u=>by
  have h1:=ZfU m l u
  have h2:=ZfU m l (bump u n)
  rw[usF]
  rw[ZbQ] at h2
  repeat' split
  all_goals first|rfl|assumption|exact ZbQ u n
theorem ZfU (m:Int):∀ (l:List Frag) (u:List Int),(usL m l u).2.length=u.length
 | [],u=>rfl
 | x::r,u=>by
  have h1:=Zmo m x u
  have h2:=ZfU m r (usF m x u).2
  rw[usL]
  cases (usF m x u).1 with
  | true=>simpa using h2.trans h1
  | false=>simpa using h1
end
mutual
theorem ZsH (m:Int):∀ (x:Frag) (u:List Int) (B:Nat),Upto B u→Upto (B+fsz x) (usF m x u).2
 | .mk o n l,u,B,h=>by
  have h1:=Zfn m l u B h
  have h2:=Zfn m l (bump u n) (B+1) (Zd4 h)
  have h3:=Zd4 (n:=n) h
  rw[usF,fsz]
  repeat' split
  all_goals first|exact h.mono (by omega)|exact h1.mono (by omega)|exact h2.mono (by omega)|exact h3.mono (by omega)
theorem Zfn (m:Int):∀ (l:List Frag) (u:List Int) (B:Nat),Upto B u→Upto (B+fszs l) (usL m l u).2
 | [],u,B,h=>h
 | x::r,u,B,h=>by
  have h1:=ZsH m x u B h
  have h2:=Zfn m r (usF m x u).2 (B+fsz x) h1
  rw[usL,fszs]
  cases (usF m x u).1 with
  | true=>simpa using h2.mono (by omega)
  | false=>simpa using h1.mono (by omega)
end
def Zbe (old:Gram) (x:Tree):Bool:=!decide ((Zaw old x old.start).code=0) || decide (0 < (ZbT old x).length)
def Zir (old:Gram) (l:List Frag) (right:List Int):Bool:=(usL old.rules.length l (List.replicate (kids right).length 0)).1 && (usL old.rules.length l (List.replicate (kids right).length 0)).2.all (fun x=>decide (x=1))
def ZaK (old:Gram) (l:List Frag) (right:List Int):Int:=if 60 < cpL l then 6 else if Zir old l right=true then 0 else 14
def Zcp (old:Gram):List (List Frag)→List Rule→Nat→Zb5
 | l::ls,r::rs,i=>if ZaK old l r.right=0 then Zcp old ls rs (i+1) else ⟨ZaK old l r.right,i⟩
 | _,_,_=>⟨0,0⟩
def Zas (old:Gram) (s:Step):Zb5 :=
 if (Zah old).code=0 then
  if (Zah s.g).code=0 then
   if s.empty.length≤200 then
    if s.empty.any (Zbe old)=true then ⟨13, -1⟩
    else if s.frags.length=s.g.rules.length then Zcp old s.frags s.g.rules 0 else ⟨14, -1⟩
   else ⟨6, -1⟩
  else Zah s.g
 else Zah old
theorem Zhj {old:Gram} {ls:List (List Frag)} {rs:List Rule} {i:Nat} (h1:i < ls.length) (h2:i < rs.length):Zcp old (ls.drop i) (rs.drop i) i=if ZaK old ls[i] rs[i].right=0 then Zcp old (ls.drop (i+1)) (rs.drop (i+1)) (i+1) else ⟨ZaK old ls[i] rs[i].right,i⟩:=by
 rw[List.drop_eq_getElem_cons h1,List.drop_eq_getElem_cons h2,Zcp]
theorem ZiK {old:Gram} {ls:List (List Frag)} {rs:List Rule} {i:Nat} (h1:¬ i < ls.length):Zcp old (ls.drop i) (rs.drop i) i=⟨0,0⟩:=by
 rw[List.drop_of_length_le (by omega),Zcp];simp
structure Step.fit (s:Step):Prop where
 g:s.g.fit
 frags:s.frags.length≤100000000
 frag:∀ l∈s.frags,fszs l≤100000000
 tree:cnts s.empty≤100000000
theorem Step.fit.empty {s:Step} (h:s.fit):s.empty.length≤100000000:=Nat.le_trans (ZaR _) h.tree
theorem Step.fit.trees {s:Step} (h:s.fit):∀ x∈s.empty,cnt x≤100000000:=fun x hx=>Nat.le_trans (Zca hx) h.tree
def ZbD (k:Nat):List Frag:=(List.range k).map fun (i:Nat)=>Frag.mk 2 (i:Int) []
def Zdd (r:Int) (k:Nat):List Frag:=[.mk 1 r (ZbD k)]
theorem IsElt.fragE {h:Hp} {t u:Bool} {sz i off:Nat} {xs:List Frag} (hi:i < xs.length):IsElt h (.eptr t sz (xs.map (ZaV u)) i off) (Zru u xs[i]) off []:=by
 have:=IsElt.mapE (h:=h) (t:=t) (sz:=sz) (off:=off) (f:=ZaV u) hi
 rwa [ZbG] at this
theorem IsElt.fragO {h:Hp} {u:Bool} {k m sz i off:Nat} {e:TypeId} {xs:List Frag} (hk:hget h k=some (.row e sz (xs.map (ZaV u)))) (hm:(xs.map (ZaV u)).length=m) (hi:i < xs.length):IsElt h (.optr k m i off) (Zru u xs[i]) off [(k,some (.row e sz (xs.map (ZaV u))))]:=by
 have:=IsElt.mapO (f:=ZaV u) (off:=off) hk hm hi
 rwa [ZbG] at this
end Go.Proofs.YtbpmepgnjanhnaaGreat
namespace Go.Proofs.YtbpmepgnjanhnaaGreat
open Go.RowKit
structure SP where
 vars:Int
 rules:List Rule
 frags:List (List Frag)
 term:List Int
def SP.many (s:SP):Bool:=decide (64 < s.vars) || decide (160 < s.rules.length)
def SP.rule (s:SP) (v:Int) (right:List Int) (l:List Frag):SP:=⟨s.vars,s.rules++[⟨v,right⟩],s.frags++[l],s.term⟩
def SP.fresh (s:SP):SP:=⟨s.vars+1,s.rules,s.frags,s.term⟩
def SP.lift (s:SP) (x:Int):SP:=if 0≤x then s else
 if s.term.getD (-1 - x).toNat 0 < 0 then ⟨s.vars+1,s.rules++[⟨s.vars,[x]⟩],s.frags++[[]],s.term.set (-1 - x).toNat s.vars⟩ else s
def SP.lifted (s:SP) (x:Int):Int:=if 0≤x then x else (s.lift x).term.getD (-1 - x).toNat 0
def SP.lifts:SP→List Int→SP
 | s,[]=>s
 | s,x::r=>SP.lifts (s.lift x) r
def SP.lifteds:SP→List Int→List Int
 | _,[]=>[]
 | s,x::r=>s.lifted x::SP.lifteds (s.lift x) r
theorem SP.lifteds_length:∀ (s:SP) (l:List Int),(s.lifteds l).length=l.length
 | _,[]=>rfl
 | s,x::r=>by simp[SP.lifteds,SP.lifteds_length]
theorem SP.lifts_append:∀ (s:SP) (a b:List Int),s.lifts (a++b)=(s.lifts a).lifts b
 | _,[],_=>rfl
 | s,x::r,b=>by simp[SP.lifts,SP.lifts_append]
theorem SP.lifteds_append:∀ (s:SP) (a b:List Int),s.lifteds (a++b)=s.lifteds a++(s.lifts a).lifteds b
 | _,[],_=>rfl
 | s,x::r,b=>by simp[SP.lifts,SP.lifteds,SP.lifteds_append]
def ZgJ (v:Int) (l:List Int):List Int:=(List.range (l.length - 2)).map (fun (i:Nat)=>v+(i:Int))++[l.getD (l.length - 1) 0]
def ZbL:List Frag:=[.mk 2 0 [],.mk 2 1 []]
def Zis (v:Int) (l rs:List Int):Nat→List Rule
 | 0=>[]
 | k+1=>Zis v l rs k++[⟨if k=0 then v else rs.getD (k - 1) 0,[l.getD k 0,rs.getD k 0]⟩]
def ZgK (r:Int):Nat→List (List Frag)
 | 0=>[]
 | k+1=>ZgK r k++[if k=0 then [.mk 1 r ZbL] else ZbL]
theorem Zgm (v:Int) (l rs:List Int):∀ k,(Zis v l rs k).length=k
 | 0=>rfl
 | k+1=>by simp[Zis,Zgm v l rs k]
theorem Zgn (r:Int):∀ k,(ZgK r k).length=k
 | 0=>rfl
 | k+1=>by simp[ZgK,Zgn r k]
theorem Zgo (v:Int) {l:List Int} (h:2≤l.length):(ZgJ v l).length=l.length - 1:=by simp[ZgJ];omega
def SP.split (s:SP) (v r:Int) (right:List Int):SP :=
 ⟨(s.lifts right).vars+((right.length - 2:Nat):Int),(s.lifts right).rules++Zis v (s.lifteds right) (ZgJ (s.lifts right).vars (s.lifteds right)) (right.length - 1),
  (s.lifts right).frags++ZgK r (right.length - 1),(s.lifts right).term⟩
def SP.one (s:SP) (r:Nat) (x:Rule):SP:=if x.right.length < 2 then s.rule x.left x.right (Zdd r (kids x.right).length) else s.split x.left r x.right
def ZbJ:SP→List Rule→Nat→Except Nat SP
 | s,[],_=>.ok s
 | s,x::xs,i=>bif (s.one i x).many then .error i else ZbJ (s.one i x) xs (i+1)
def Za0 (g:Gram):SP:=⟨g.vars,[],[],List.replicate g.terms.toNat (-1)⟩
def zeroStep:Step:=⟨⟨0,0,0,[]⟩,[],[]⟩
def Zen (g:Gram) (s:SP):Step:=⟨⟨s.vars,g.terms,g.start,s.rules⟩,s.frags,[]⟩
def Zcq (g:Gram):Step×Zb5 :=
 if (Zah g).code=0 then
  match ZbJ (Za0 g) g.rules 0 with
  | .ok s=>(Zen g s,⟨0,0⟩)
  | .error i=>(zeroStep,⟨6,i⟩)
 else (zeroStep,Zah g)
inductive All2 {α β:Type} (P:α→β→Prop):List α→List β→Prop
 | nil:All2 P [] []
 | cons {a:α} {b:β} {xs:List α} {ys:List β} (h:P a b) (r:All2 P xs ys):All2 P (a::xs) (b::ys)
theorem All2.append {α β:Type} {P:α→β→Prop} {a c:List α} {b d:List β} (h:All2 P a b) (k:All2 P c d):All2 P (a++c) (b++d):=by
 induction h with
 | nil=>exact k
 | cons h r ih=>exact .cons h ih
theorem All2.snoc {α β:Type} {P:α→β→Prop} {a:List α} {b:List β} {x:α} {y:β} (h:All2 P a b) (k:P x y):All2 P (a++[x]) (b++[y]):=h.append (.cons k .nil)
theorem All2.len {α β:Type} {P:α→β→Prop} {a:List α} {b:List β} (h:All2 P a b):a.length=b.length:=by
 induction h with
 | nil=>rfl
 | cons h r ih=>simp[ih]
abbrev Zmp (old:Gram) (ls:List (List Frag)) (rs:List Rule):Prop:=All2 (fun l r=>ZaK old l r.right=0) ls rs
theorem Zp9 {old:Gram} {ls:List (List Frag)} {rs:List Rule} (h:Zmp old ls rs):∀ i,Zcp old ls rs i=⟨0,0⟩:=by
 induction h with
 | nil=>intro i;rw[Zcp];simp
 | cons h r ih=>intro i;rw[Zcp,if_pos h];exact ih _
theorem Zun {old:Gram} {s:Step} (ho:old.ok) (hs:s.g.ok) (he:s.empty=[]) (h:Zmp old s.frags s.g.rules):Zas old s=⟨0,0⟩:=by
 rw[Zas,if_pos (by rw[ho.fault]),if_pos (by rw[hs.fault]),he]
 simp only[List.length_nil,Nat.zero_le,if_true,List.any_nil,if_false,Bool.false_eq_true]
 rw[if_pos h.len,Zp9 h]
theorem ZkG (m:Int):∀ (n i:Nat),usL m ((List.range' i n).map fun (j:Nat)=>Frag.mk 2 (j:Int) []) (List.replicate i 1++List.replicate n 0)=(true,List.replicate (i+n) 1)
 | 0,i=>by simp[usL]
 | n+1,i=>by
  rw[List.range'_succ,List.map_cons,usL]
  have e:usF m (.mk 2 (i:Int) []) (List.replicate i 1++List.replicate (n+1) 0)=(true,List.replicate (i+1) 1++List.replicate n 0):=by
   rw[usF,if_neg (by decide),if_pos rfl,if_neg (by simp;omega)]
   congr 1
   rw[bump]
   simp only[Int.toNat_natCast]
   rw[List.replicate_succ,List.getD_eq_getElem?_getD,List.getElem?_append_right (by simp),List.set_append_right _ _ (by simp)]
   simp[List.replicate_succ']
  rw[e]
  simp only[cond_true]
  rw[ZkG m n (i+1)]
  congr 2
  omega
theorem ZnS (m:Int) (k:Nat):usL m (ZbD k) (List.replicate k 0)=(true,List.replicate k 1):=by
 have:=ZkG m k 0
 rw[ZbD,List.range_eq_range']
 simpa using this
theorem ZkH:∀ (k:Nat),cpL (ZbD k)=k
 | 0=>rfl
 | k+1=>by rw[show ZbD (k+1)=ZbD k++[.mk 2 k []] by simp[ZbD,List.range_succ],ZcT,ZkH k];simp[cpL,cpF]
theorem ZkI {old:Gram} {r:Nat} {right:List Int} (hr:r < old.rules.length) (hk:(kids right).length≤59):ZaK old (Zdd r (kids right).length) right=0:=by
 have h1:cpL (Zdd r (kids right).length)=1+(kids right).length:=by simp[Zdd,cpL,cpF,ZkH]
 have h2:usL old.rules.length (Zdd r (kids right).length) (List.replicate (kids right).length 0)=(true,List.replicate (kids right).length 1):=by
  rw[Zdd,usL,usF,if_pos rfl,if_neg (by omega),ZnS];simp[usL]
 rw[ZaK,if_neg (by omega),if_pos]
 rw[Zir,h2];simp
theorem ZsI {old:Gram} {x:Int} (hx:x < 0):ZaK old [] [x]=0:=by
 rw[ZaK,if_neg (by simp[cpL]),if_pos]
 rw[Zir,Zfk hx];simp[usL]
theorem ZjI {a b:Int} (ha:0≤a) (hb:0≤b):(kids [a,b]).length=2:=by simp[kids,ha,hb]
theorem Zmq {old:Gram} {a b:Int} (ha:0≤a) (hb:0≤b):ZaK old ZbL [a,b]=0:=by
 rw[ZaK,if_neg (by simp[cpL,cpF,ZbL]),if_pos]
 have:=ZnS old.rules.length 2
 rw[Zir,ZjI ha hb]
 rw[show ZbL=ZbD 2 from rfl,this];decide
theorem Zo4 {old:Gram} {r:Nat} {a b:Int} (hr:r < old.rules.length) (ha:0≤a) (hb:0≤b):ZaK old [.mk 1 r ZbL] [a,b]=0:=by
 have:=ZkI (old:=old) (r:=r) (right:=[a,b]) hr (by rw[ZjI ha hb];omega)
 rwa [ZjI ha hb] at this
structure SP.fit (g:Gram) (s:SP):Prop where
 vars:g.vars≤s.vars
 left:∀ r∈s.rules,0≤r.left∧r.left < s.vars
 sym:∀ r∈s.rules,∀ x∈r.right, -g.terms≤x∧x < s.vars
 two:∀ r∈s.rules,r.right.length≤2∧(r.right.length=2→∀ x∈r.right,0≤x)
 parts:Zmp g s.frags s.rules
 tlen:(s.term.length:Int)=g.terms
 term:∀ x∈s.term,x < s.vars
theorem SP.fit.rule {g:Gram} {s:SP} (h:s.fit g) {v:Int} {right:List Int} {l:List Frag} (h1:0≤v∧v < s.vars) (h2:∀ x∈right, -g.terms≤x∧x < s.vars) (h3:right.length≤2∧(right.length=2→∀ x∈right,0≤x)) (h4:ZaK g l right=0):(s.rule v right l).fit g:=by
 refine⟨h.vars,?_,?_,?_,h.parts.snoc h4,h.tlen,h.term⟩ <;>
 ·intro r hr
  rcases List.mem_append.1 hr with hr|hr
  ·first|exact h.left r hr|exact h.sym r hr|exact h.two r hr
  ·rw[List.mem_singleton.1 hr];first|exact h1|exact h2|exact h3
theorem SP.fit.grow {g:Gram} {s:SP} (h:s.fit g) {n:Int} (hn:0≤n):SP.fit g ⟨s.vars+n,s.rules,s.frags,s.term⟩ :=
 ⟨by have:=h.vars;dsimp only;omega,fun r hr=>by have:=h.left r hr;dsimp only;omega,fun r hr x hx=>by have:=h.sym r hr x hx;dsimp only;omega,h.two,h.parts,h.tlen,fun x hx=>by have:=h.term x hx;dsimp only;omega⟩
theorem SP.lift_term {s:SP} {x:Int}:(s.lift x).term.length=s.term.length:=by
 rw[SP.lift];split
 ·rfl
 ·split <;> simp
theorem SP.fit.lift {g:Gram} {s:SP} (hg:g.ok) (h:s.fit g) {x:Int} (hx : -g.terms≤x∧x < s.vars):(s.lift x).fit g∧s.vars≤(s.lift x).vars∧0≤s.lifted x∧s.lifted x < (s.lift x).vars:=by
 have hv:=h.vars
 have hv1:=hg.vars1
 have hv2:=hg.terms0
 by_cases h0:0≤x
 ·have e:s.lift x=s:=by rw[SP.lift,if_pos h0]
  rw[e]
  refine⟨h,Int.le_refl _,?_,?_⟩ <;> rw[SP.lifted,if_pos h0]
  ·exact h0
  ·exact hx.2
 ·have hl:(-1 - x).toNat < s.term.length:=by have:=h.tlen;omega
  by_cases h1:s.term.getD (-1 - x).toNat 0 < 0
  ·have e:s.lift x=⟨s.vars+1,s.rules++[⟨s.vars,[x]⟩],s.frags++[[]],s.term.set (-1 - x).toNat s.vars⟩:=by rw[SP.lift,if_neg h0,if_pos h1]
   have e2:s.lifted x=s.vars:=by
    rw[SP.lifted,if_neg h0,e]
    simp only[List.getD_eq_getElem?_getD]
    rw[List.getElem?_set_self hl];rfl
   rw[e2,e]
   have k:=(h.grow (n:=1) (by decide)).rule (v:=s.vars) (right:=[x]) (l:=[]) (by dsimp only;omega) (fun y hy=>by rw[List.mem_singleton.1 hy];dsimp only;omega) ⟨by simp,by simp⟩ (ZsI (by omega))
   refine⟨⟨k.vars,k.left,k.sym,k.two,k.parts,by have:=h.tlen;simpa using this,fun y hy=>?_⟩,by dsimp only;omega,by omega,by dsimp only;omega⟩
   rcases List.mem_or_eq_of_mem_set hy with hy|rfl
   ·have:=h.term y hy;dsimp only;omega
   ·dsimp only;omega
  ·have e:s.lift x=s:=by rw[SP.lift,if_neg h0,if_neg h1]
   have e2:s.lifted x=s.term.getD (-1 - x).toNat 0:=by rw[SP.lifted,if_neg h0,e]
   rw[e2,e]
   refine⟨h,Int.le_refl _,by omega,?_⟩
   rw[List.getD_eq_getElem?_getD,List.getElem?_eq_getElem hl]
   exact h.term _ (List.getElem_mem hl)
theorem SP.fit.lifts {g:Gram} (hg:g.ok):∀ {l:List Int} {s:SP},s.fit g→(∀ x∈l, -g.terms≤x∧x < g.vars)→(s.lifts l).fit g∧s.vars≤(s.lifts l).vars∧∀ y∈s.lifteds l,0≤y∧y < (s.lifts l).vars
 | [],s,h,_=>⟨h,Int.le_refl _,fun y hy=>by simp[SP.lifteds] at hy⟩
 | x::l,s,h,hx=>by
  have hv:=h.vars
  have h0:=hx x (by simp)
  obtain⟨k1,k2,k3,k4⟩:=h.lift hg (x:=x) ⟨h0.1,by omega⟩
  obtain⟨j1,j2,j3⟩:=SP.fit.lifts hg (l:=l) k1 (fun y hy=>hx y (by simp[hy]))
  refine⟨j1,by rw[SP.lifts];omega,fun y hy=>?_⟩
  rw[SP.lifteds] at hy
  rw[SP.lifts]
  rcases List.mem_cons.1 hy with rfl|hy
  ·exact⟨k3,by omega⟩
  ·exact j3 y hy
theorem Zqa {v:Int} {l:List Int} {N:Int} (hl:2≤l.length) (h0:0≤v) (hN:∀ y∈l,0≤y∧y < N) (hv:v+((l.length - 2:Nat):Int)≤N):∀ y∈ZgJ v l,0≤y∧y < N:=by
 intro y hy
 rw[ZgJ] at hy
 rcases List.mem_append.1 hy with hy|hy
 ·obtain⟨i,hi,rfl⟩:=List.mem_map.1 hy
  have:=List.mem_range.1 hi
  omega
 ·rw[List.mem_singleton.1 hy,List.getD_eq_getElem?_getD,List.getElem?_eq_getElem (by omega)]
  exact hN _ (List.getElem_mem _)
theorem ZjJ {l:List Int} {k:Nat} (h:k < l.length):l.getD k 0∈l:=by rw[List.getD_eq_getElem?_getD,List.getElem?_eq_getElem h];exact List.getElem_mem h
theorem SP.fit.pairs {g:Gram} {s:SP} (h:s.fit g) {v:Int} {r:Nat} {l rs:List Int} (hr:r < g.rules.length) (hv:0≤v∧v < s.vars) (h1:∀ y∈l,0≤y∧y < s.vars) (h2:∀ y∈rs,0≤y∧y < s.vars) (ht:0≤g.terms):∀ k,k≤l.length→k≤rs.length→SP.fit g ⟨s.vars,s.rules++Zis v l rs k,s.frags++ZgK r k,s.term⟩
 | 0,_,_=>by simpa[Zis,ZgK] using h
 | k+1,hk,hk'=>by
  have ih:=SP.fit.pairs h hr hv h1 h2 ht k (by omega) (by omega)
  have a1:=h1 _ (ZjJ (l:=l) (k:=k) (by omega))
  have a2:=h2 _ (ZjJ (l:=rs) (k:=k) (by omega))
  have:=ih.rule (v:=if k=0 then v else rs.getD (k - 1) 0) (right:=[l.getD k 0,rs.getD k 0]) (l:=if k=0 then [.mk 1 r ZbL] else ZbL) (by
    split
    ·exact hv
    ·exact h2 _ (ZjJ (by omega))) (fun x hx=>by
    simp only[List.mem_cons,List.not_mem_nil,or_false] at hx
    rcases hx with rfl|rfl <;> dsimp only <;> omega) ⟨by simp,fun _ x hx=>by
    simp only[List.mem_cons,List.not_mem_nil,or_false] at hx
    rcases hx with rfl|rfl <;> omega⟩ (by
    split
    ·exact Zo4 hr a1.1 a2.1
    ·exact Zmq a1.1 a2.1)
  simpa[SP.rule,Zis,ZgK,List.append_assoc] using this
theorem SP.fit.one {g:Gram} {s:SP} (hg:g.ok) (h:s.fit g) {i:Nat} (hi:i < g.rules.length) {x:Rule} (hx:Zau g x=0):(s.one i x).fit g:=by
 obtain⟨h1,h2,h3,h4⟩:=Zbo hx
 have hv:=h.vars
 rw[SP.one]
 split
 ·rename_i hl
  refine h.rule ⟨h2,by omega⟩ (fun y hy=>by have:=h4 y hy;omega) ⟨by omega,by omega⟩ (ZkI hi ?_)
  have:=Zb6 x.right
  omega
 ·rename_i hl
  obtain⟨k1,k2,k3⟩:=SP.fit.lifts hg h h4
  have hle:=SP.lifteds_length s x.right
  have hk:=hg.vars1
  have hr2:=Zgo (v:=(s.lifts x.right).vars) (l:=s.lifteds x.right) (by omega)
  have:=(k1.grow (n:=((x.right.length - 2:Nat):Int)) (by omega)).pairs (v:=x.left) (l:=s.lifteds x.right) (rs:=ZgJ (s.lifts x.right).vars (s.lifteds x.right)) hi (by dsimp only;omega) (fun y hy=>by have:=k3 y hy;dsimp only;omega)
   (Zqa (by omega) (by omega) (fun y hy=>by have:=k3 y hy;dsimp only;omega) (by dsimp only;rw[hle];omega)) hg.terms0 (x.right.length - 1) (by omega) (by omega)
  exact this
theorem ZfV {g:Gram} (hg:g.ok):∀ {rs:List Rule} {s s':SP} {i:Nat},s.fit g→s.many=false→(∀ r∈rs,Zau g r=0)→i+rs.length≤g.rules.length→ZbJ s rs i=.ok s'→s'.fit g∧s'.many=false
 | [],s,s',i,h,hm,_,_,e=>by rw[ZbJ] at e;cases e;exact⟨h,hm⟩
 | x::rs,s,s',i,h,hm,hr,hi,e=>by
  rw[ZbJ] at e
  simp only[List.length_cons] at hi
  cases hc:(s.one i x).many with
  | true=>rw[hc] at e;cases e
  | false =>
   rw[hc] at e
   exact ZfV hg (h.one hg (by omega) (hr x (by simp))) hc (fun r h=>hr r (by simp[h])) (by omega) e
theorem Zdh {g:Gram} (hg:g.ok):(Za0 g).fit g∧(Za0 g).many=false:=by
 have h1:=hg.terms0
 have h2:=hg.vars
 have h3:=hg.vars1
 refine⟨⟨Int.le_refl _,fun r hr=>by simp[Za0] at hr,fun r hr=>by simp[Za0] at hr,fun r hr=>by simp[Za0] at hr,.nil,(by show ((List.replicate g.terms.toNat (-1:Int)).length:Int)=g.terms;rw[List.length_replicate];omega),fun x hx=>?_⟩,?_⟩
 ·rw[(List.mem_replicate.1 hx).2];show (-1:Int) < g.vars;omega
 ·simp only[SP.many,Bool.or_eq_false_iff,decide_eq_false_iff_not]
  exact⟨by show ¬ (64 < g.vars);omega,by show ¬ 160 < 0;omega⟩
theorem Gram.ok.rule {g:Gram} (h:g.ok) {r:Rule} (hr:r∈g.rules):Zau g r=0:=by
 unfold Zau
 rw[if_neg (by have:=h.right r hr;omega),if_neg]
 simp only[not_or]
 refine⟨by have:=h.left0 r hr;omega,by have:=h.left r hr;omega,?_⟩
 simp only[Bool.not_eq_true,List.any_eq_false]
 intro s hs
 have:=h.lo r hr s hs
 have:=h.hi r hr s hs
 simp[Zb0];omega
theorem Zmr {s:SP} (h:s.many=false):s.vars≤64∧s.rules.length≤160:=by
 simp only[SP.many,Bool.or_eq_false_iff,decide_eq_false_iff_not] at h;omega
theorem ZkJ (g:Gram):((Zah g).code≠0∧Zcq g=(zeroStep,Zah g))∨(∃ i,Zcq g=(zeroStep,⟨6,(i:Nat)⟩)) ∨
  ∃ s,g.ok∧ZbJ (Za0 g) g.rules 0=.ok s∧Zcq g=(Zen g s,⟨0,0⟩):=by
 by_cases h:(Zah g).code=0
 ·rw[Zcq,if_pos h]
  cases hc:ZbJ (Za0 g) g.rules 0 with
  | ok s=>exact .inr (.inr ⟨s,Zbr h,rfl,rfl⟩)
  | error i=>exact .inr (.inl ⟨i,rfl⟩)
 ·rw[Zcq,if_neg h];exact .inl ⟨h,rfl⟩
theorem Zms {g:Gram} (hg:g.ok) {s:SP} (hc:ZbJ (Za0 g) g.rules 0=.ok s):(Zen g s).g.ok∧Zas g (Zen g s)=⟨0,0⟩∧∀ r∈s.rules,r.right.length≤2∧(r.right.length=2→∀ x∈r.right,0≤x):=by
 obtain⟨h1,h2⟩:=Zdh hg
 obtain⟨h3,h4⟩:=ZfV hg h1 h2 (fun r hr=>hg.rule hr) (by omega) hc
 obtain⟨h5,h6⟩:=Zmr h4
 have a1:=h3.vars
 have a2:=hg.vars1
 have a3:=hg.start
 have hok:(Zen g s).g.ok:=⟨by show 1≤s.vars;omega,h5,hg.terms0,hg.terms,hg.start0,by show g.start < s.vars;omega,h6,fun r hr=>by have:=(h3.two r hr).1;omega,
  fun r hr=>(h3.left r hr).1,fun r hr=>(h3.left r hr).2,fun r hr x hx=>(h3.sym r hr x hx).1,fun r hr x hx=>(h3.sym r hr x hx).2⟩
 exact⟨hok,Zun hg hok rfl h3.parts,h3.two⟩
end Go.Proofs.YtbpmepgnjanhnaaGreat
