import Derived.Test.YtbpmepgnjanhnaaGreatT1
set_option linter.unusedVariables false
set_option linter.unusedSimpArgs false
set_option linter.unusedSectionVars false
namespace Go.Proofs.YtbpmepgnjanhnaaGreat
open Go.RowKit
mutual
def fsz:Ad→Nat
 | .mk _ _ l=>1+Aj l
def Aj:List Ad→Nat
 | []=>0
 | x::r=>fsz x+Aj r
end
theorem Zhw (x:Ad):fsz x=1+Aj x.l:=by cases x;rfl
theorem Zre (x:Ad):1≤fsz x:=by rw[Zhw];omega
theorem Zbw:∀ (a b:List Ad),Aj (a++b)=Aj a+Aj b
 | [],b=>by simp[Aj]
 | x::a,b=>by simp only[Hv,Aj,Zbw a b];omega
theorem Zfj {x:Ad}:∀ {l:List Ad},x∈l→fsz x≤Aj l
 | y::l,h=>by
  simp only[Aj];rcases List.mem_cons.1 h with rfl|h
  ·omega
  ·have:=Zfj h;omega
theorem ZbW:∀ (l:List Ad),l.length≤Aj l
 | []=>by simp
 | x::l=>by have:=ZbW l;have:=Zre x;simp only[Hl,Aj];omega
theorem Zhx {l:List Ad} {i:Nat} (h:i < l.length):Aj (l.take (i+1))=Aj (l.take i)+fsz l[i]:=by
 rw[HD h,Zbw];simp[Aj]
theorem ZeU (l:List Ad) (i:Nat):Aj l=Aj (l.take i)+Aj (l.drop i):=by rw[←Zbw,Gh]
theorem Zwk {l:List Ad} {i:Nat} (h:i < l.length):Aj (l.drop i)=fsz l[i]+Aj (l.drop (i+1)):=by
 rw[Hw h,Aj]
mutual
def cpF:Ad→Nat
 | .mk o _ l=>1+(if o=1∨o=4 then cpL l else 0)
def cpL:List Ad→Nat
 | []=>0
 | x::r=>cpF x+cpL r
end
theorem ZsN (x:Ad):cpF x=1+(if x.op=1∨x.op=4 then cpL x.l else 0):=by cases x;rw[cpF];rfl
theorem Zdl:∀ (a b:List Ad),cpL (a++b)=cpL a+cpL b
 | [],b=>by simp[cpL]
 | x::a,b=>by simp only[Hv,cpL,Zdl a b];omega
theorem ZzP {l:List Ad} {i:Nat} (h:i < l.length):cpL (l.take (i+1))=cpL (l.take i)+cpF l[i]:=by
 rw[HD h,Zdl];simp[cpL]
mutual
theorem ZDI:∀ (x:Ad),cpF x≤fsz x
 | .mk o n l=>by have:=Zwl l;rw[cpF,fsz];split <;> omega
theorem Zwl:∀ (l:List Ad),cpL l≤Aj l
 | []=>Hg _
 | x::r=>by have:=ZDI x;have:=Zwl r;simp only[cpL,Aj];omega
end
def bump (u:List Int) (n:Int):List Int:=u.set n.toNat (u.getD n.toNat 0+1)
mutual
def usF (m:Int):Ad→List Int→Bool×List Int
 | .mk o n l,u=>if o=1 then (if n < 0∨m≤n then (false,u) else usL m l u)
  else if o=2 then (if n < 0∨(u.length:Int)≤n then (false,u) else (true,bump u n))
  else if o=4 then (if n < 0∨(u.length:Int)≤n then (false,u) else usL m l (bump u n))
  else if o=3 then (true,u) else (false,u)
def usL (m:Int):List Ad→List Int→Bool×List Int
 | [],u=>(true,u)
 | x::r,u=>bif (usF m x u).1 then usL m r (usF m x u).2 else (false,(usF m x u).2)
end
theorem ZDJ (m:Int) (x:Ad) (u:List Int):usF m x u=if x.op=1 then (if x.n < 0∨m≤x.n then (false,u) else usL m x.l u)
  else if x.op=2 then (if x.n < 0∨(u.length:Int)≤x.n then (false,u) else (true,bump u x.n))
  else if x.op=4 then (if x.n < 0∨(u.length:Int)≤x.n then (false,u) else usL m x.l (bump u x.n))
  else if x.op=3 then (true,u) else (false,u):=by cases x;rw[usF];rfl
theorem ZzQ {m:Int} {l:List Ad} {i:Nat} {u:List Int} (h:i < l.length):usL m (l.drop i) u=bif (usF m l[i] u).1 then usL m (l.drop (i+1)) (usF m l[i] u).2 else (false,(usF m l[i] u).2):=by
 rw[Hw h,usL]
theorem Zdm (u:List Int) (n:Int):(bump u n).length=u.length:=by simp[bump]
def Upto (B:Nat) (u:List Int):Prop:=∀ x∈u,0≤x∧x≤B
theorem Upto.mono {B C:Nat} {u:List Int} (h:Upto B u) (hb:B≤C):Upto C u:=fun x hx=>⟨(h x hx).1,by have:=(h x hx).2;omega⟩
theorem Zpf {u:List Int} {n:Int} {B:Nat} (h:Upto B u):Upto (B+1) (bump u n):=fun x hx=>by
 rcases GU hx with hx|rfl
 ·have:=h x hx;omega
 ·rw[Hf];by_cases hn:n.toNat < u.length
  ·rw[Hj hn];have:=h _ (He hn);simp;omega
  ·rw[HI (by omega)];simp;omega
mutual
theorem Zrf (m:Int):∀ (x:Ad) (u:List Int),(usF m x u).2.length=u.length
 | .mk o n l,u=>by
  have h1:=Zkh m l u;have h2:=Zkh m l (bump u n);rw[usF];rw[Zdm] at h2
  repeat' split
  all_goals first|rfl|assumption|exact Zdm u n
theorem Zkh (m:Int):∀ (l:List Ad) (u:List Int),(usL m l u).2.length=u.length
 | [],u=>rfl
 | x::r,u=>by
  have h1:=Zrf m x u;have h2:=Zkh m r (usF m x u).2;rw[usL];cases (usF m x u).1 with
  | true=>simpa using h2.trans h1
  | false=>simpa using h1
end
def ZbX (old:Ac) (x:Tree):Bool:=!decide ((ZaB old x old.start).code=0) || decide (0 < (Zbo old x).length)
def Zhy (old:Ac) (l:List Ad) (right:List Int):Bool:=(usL old.Aa.length l (List.replicate (Ab right).length 0)).1 && (usL old.Aa.length l (List.replicate (Ab right).length 0)).2.all (fun x=>decide (x=1))
def Zay (old:Ac) (l:List Ad) (right:List Int):Int:=if 60 < cpL l then 6 else if Zhy old l right=true then 0 else 14
def Zd7 (old:Ac):List (List Ad)→List Rule→Nat→Zcf
 | l::ls,r::rs,i=>if Zay old l r.right=0 then Zd7 old ls rs (i+1) else ⟨Zay old l r.right,i⟩
 | _,_,_=>⟨0,0⟩
def Zam (old:Ac) (s:Step):Zcf :=
 if (Zac old).code=0 then
  if (Zac s.g).code=0 then
   if s.empty.length≤200 then
    if s.empty.any (ZbX old)=true then ⟨13, -1⟩
    else if s.frags.length=s.g.Aa.length then Zd7 old s.frags s.g.Aa 0 else ⟨14, -1⟩
   else ⟨6, -1⟩
  else Zac s.g
 else Zac old
theorem Zrg {old:Ac} {ls:List (List Ad)} {rs:List Rule} {i:Nat} (h1:i < ls.length) (h2:i < rs.length):Zd7 old (ls.drop i) (rs.drop i) i=if Zay old ls[i] rs[i].right=0 then Zd7 old (ls.drop (i+1)) (rs.drop (i+1)) (i+1) else ⟨Zay old ls[i] rs[i].right,i⟩:=by
 rw[Hw h1,Hw h2,Zd7]
theorem ZuD {old:Ac} {ls:List (List Ad)} {rs:List Rule} {i:Nat} (h1:¬ i < ls.length):Zd7 old (ls.drop i) (rs.drop i) i=⟨0,0⟩:=by
 rw[HL (by omega),Zd7];simp
structure Step.fit (s:Step):Prop where
 g:s.g.fit
 frags:s.frags.length≤100000000
 frag:∀ l∈s.frags,Aj l≤100000000
 tree:cnts s.empty≤100000000
theorem Step.fit.empty {s:Step} (h:s.fit):s.empty.length≤100000000:=Hq (Zcb _) h.tree
theorem Step.fit.trees {s:Step} (h:s.fit):∀ x∈s.empty,cnt x≤100000000:=fun x hx=>Hq (Zbn hx) h.tree
def ZaF (k:Nat):List Ad:=(List.range k).map fun (i:Nat)=>Ad.mk 2 (i:Int) []
def ZaJ (r:Int) (k:Nat):List Ad:=[.mk 1 r (ZaF k)]
theorem Ao.fragE {h:Hp} {t u:Bool} {sz i off:Nat} {xs:List Ad} (hi:i < xs.length):Ao h (.eptr t sz (xs.map (ZaN u)) i off) (Zof u xs[i]) off []:=by
 have:=Ao.mapE (h:=h) (t:=t) (sz:=sz) (off:=off) (f:=ZaN u) hi
 rwa [Zcr] at this
theorem Ao.fragO {h:Hp} {u:Bool} {k m sz i off:Nat} {e:TypeId} {xs:List Ad} (hk:Ah h k=some (.row e sz (xs.map (ZaN u)))) (hm:(xs.map (ZaN u)).length=m) (hi:i < xs.length):Ao h (.optr k m i off) (Zof u xs[i]) off [(k,some (.row e sz (xs.map (ZaN u))))]:=by
 have:=Ao.mapO (f:=ZaN u) (off:=off) hk hm hi
 rwa [Zcr] at this
structure SP where
 vars:Int
 Aa:List Rule
 frags:List (List Ad)
 term:List Int
def SP.many (s:SP):Bool:=decide (64 < s.vars) || decide (160 < s.Aa.length)
def SP.rule (s:SP) (v:Int) (right:List Int) (l:List Ad):SP:=⟨s.vars,s.Aa++[⟨v,right⟩],s.frags++[l],s.term⟩
def SP.fresh (s:SP):SP:=⟨s.vars+1,s.Aa,s.frags,s.term⟩
def SP.lift (s:SP) (x:Int):SP:=if 0≤x then s else
 if s.term.getD (-1 - x).toNat 0 < 0 then ⟨s.vars+1,s.Aa++[⟨s.vars,[x]⟩],s.frags++[[]],s.term.set (-1 - x).toNat s.vars⟩ else s
def SP.lifted (s:SP) (x:Int):Int:=if 0≤x then x else (s.lift x).term.getD (-1 - x).toNat 0
def SP.lifts:SP→List Int→SP
 | s,[]=>s
 | s,x::r=>SP.lifts (s.lift x) r
def SP.lifteds:SP→List Int→List Int
 | _,[]=>[]
 | s,x::r=>s.lifted x::SP.lifteds (s.lift x) r
theorem SP.lifteds_length:∀ (s:SP) (l:List Int),(s.lifteds l).length=l.length
 | _,[]=>rfl
 | s,x::r=>by simp[SP.lifteds,SP.lifteds_length]
theorem SP.lifts_append:∀ (s:SP) (a b:List Int),s.lifts (a++b)=(s.lifts a).lifts b
 | _,[],_=>rfl
 | s,x::r,b=>by simp[SP.lifts,SP.lifts_append]
theorem SP.lifteds_append:∀ (s:SP) (a b:List Int),s.lifteds (a++b)=s.lifteds a++(s.lifts a).lifteds b
 | _,[],_=>rfl
 | s,x::r,b=>by simp[SP.lifts,SP.lifteds,SP.lifteds_append]
def ZeK (v:Int) (l:List Int):List Int:=(List.range (l.length - 2)).map (fun (i:Nat)=>v+(i:Int))++[l.getD (l.length - 1) 0]
def ZbP:List Ad:=[.mk 2 0 [],.mk 2 1 []]
def Zjw (v:Int) (l rs:List Int):Nat→List Rule
 | 0=>[]
 | k+1=>Zjw v l rs k++[⟨if k=0 then v else rs.getD (k - 1) 0,[l.getD k 0,rs.getD k 0]⟩]
def Zhz (r:Int):Nat→List (List Ad)
 | 0=>[]
 | k+1=>Zhz r k++[if k=0 then [.mk 1 r ZbP] else ZbP]
theorem Zja (v:Int) (l rs:List Int):∀ k,(Zjw v l rs k).length=k
 | 0=>rfl
 | k+1=>by simp[Zjw,Zja v l rs k]
theorem Zjb (r:Int):∀ k,(Zhz r k).length=k
 | 0=>rfl
 | k+1=>by simp[Zhz,Zjb r k]
theorem Zjc (v:Int) {l:List Int} (h:2≤l.length):(ZeK v l).length=l.length - 1:=by simp[ZeK];omega
def SP.split (s:SP) (v r:Int) (right:List Int):SP :=
 ⟨(s.lifts right).vars+((right.length - 2:Nat):Int),(s.lifts right).Aa++Zjw v (s.lifteds right) (ZeK (s.lifts right).vars (s.lifteds right)) (right.length - 1),
  (s.lifts right).frags++Zhz r (right.length - 1),(s.lifts right).term⟩
def SP.one (s:SP) (r:Nat) (x:Rule):SP:=if x.right.length < 2 then s.rule x.left x.right (ZaJ r (Ab x.right).length) else s.split x.left r x.right
def ZbQ:SP→List Rule→Nat→Except Nat SP
 | s,[],_=>.ok s
 | s,x::xs,i=>bif (s.one i x).many then .error i else ZbQ (s.one i x) xs (i+1)
def Za0 (g:Ac):SP:=⟨g.vars,[],[],List.replicate g.terms.toNat (-1)⟩
def Ag:Step:=⟨⟨0,0,0,[]⟩,[],[]⟩
def ZcZ (g:Ac) (s:SP):Step:=⟨⟨s.vars,g.terms,g.start,s.Aa⟩,s.frags,[]⟩
def Zcz (g:Ac):Step×Zcf :=
 if (Zac g).code=0 then
  match ZbQ (Za0 g) g.Aa 0 with
  | .ok s=>(ZcZ g s,⟨0,0⟩)
  | .error i=>(Ag,⟨6,i⟩)
 else (Ag,Zac g)
inductive All2 {α β:Type} (P:α→β→Prop):List α→List β→Prop
 | nil:All2 P [] []
 | cons {a:α} {b:β} {xs:List α} {ys:List β} (h:P a b) (r:All2 P xs ys):All2 P (a::xs) (b::ys)
theorem All2.append {α β:Type} {P:α→β→Prop} {a c:List α} {b d:List β} (h:All2 P a b) (k:All2 P c d):All2 P (a++c) (b++d):=by
 induction h with
 | nil=>exact k
 | cons h r ih=>exact .cons h ih
theorem All2.snoc {α β:Type} {P:α→β→Prop} {a:List α} {b:List β} {x:α} {y:β} (h:All2 P a b) (k:P x y):All2 P (a++[x]) (b++[y]):=h.append (.cons k .nil)
theorem All2.len {α β:Type} {P:α→β→Prop} {a:List α} {b:List β} (h:All2 P a b):a.length=b.length:=by
 induction h with
 | nil=>rfl
 | cons h r ih=>simp[ih]
abbrev Zfk (old:Ac) (ls:List (List Ad)) (rs:List Rule):Prop:=All2 (fun l r=>Zay old l r.right=0) ls rs
theorem Zpg {old:Ac} {ls:List (List Ad)} {rs:List Rule} (h:Zfk old ls rs):∀ i,Zd7 old ls rs i=⟨0,0⟩:=by
 induction h with
 | nil=>intro i;rw[Zd7];simp
 | cons h r ih=>intro i;rw[Zd7,Hb h];exact ih _
theorem Zki {old:Ac} {s:Step} (ho:old.ok) (hs:s.g.ok) (he:s.empty=[]) (h:Zfk old s.frags s.g.Aa):Zam old s=⟨0,0⟩:=by
 rw[Zam,Hb (by rw[ho.fault]),Hb (by rw[hs.fault]),he];simp only[HB,Hh,if_true,List.any_nil,if_false,Bool.false_eq_true];rw[Hb h.len,Zpg h]
theorem Zph (m:Int):∀ (n i:Nat),usL m ((List.range' i n).map fun (j:Nat)=>Ad.mk 2 (j:Int) []) (List.replicate i 1++List.replicate n 0)=(true,List.replicate (i+n) 1)
 | 0,i=>by simp[usL]
 | n+1,i=>by
  rw[JE,Hm,usL];have e:usF m (.mk 2 (i:Int) []) (List.replicate i 1++List.replicate (n+1) 0)=(true,List.replicate (i+1) 1++List.replicate n 0):=by
   rw[usF,Ha (by decide),Hb rfl,Ha (by simp;omega)];congr 1;rw[bump];simp only[Hn];rw[G7,Hf,Gp (by simp),Jg _ _ (by simp)];simp[Jr]
  rw[e];simp only[Gc];rw[Zph m n (i+1)];congr 2;omega
theorem Zjz (m:Int) (k:Nat):usL m (ZaF k) (List.replicate k 0)=(true,List.replicate k 1):=by
 have:=Zph m k 0;rw[ZaF,List.range_eq_range'];simpa using this
theorem ZhA:∀ (k:Nat),cpL (ZaF k)=k
 | 0=>rfl
 | k+1=>by rw[show ZaF (k+1)=ZaF k++[.mk 2 k []] by simp[ZaF,Gn],Zdl,ZhA k];simp[cpL,cpF]
theorem Zkj {old:Ac} {r:Nat} {right:List Int} (hr:r < old.Aa.length) (hk:(Ab right).length≤59):Zay old (ZaJ r (Ab right).length) right=0:=by
 have h1:cpL (ZaJ r (Ab right).length)=1+(Ab right).length:=by simp[ZaJ,cpL,cpF,ZhA]
 have h2:usL old.Aa.length (ZaJ r (Ab right).length) (List.replicate (Ab right).length 0)=(true,List.replicate (Ab right).length 1):=by
  rw[ZaJ,usL,usF,Hb rfl,Ha (by omega),Zjz];simp[usL]
 rw[Zay,Ha (by omega),Hb];rw[Zhy,h2];simp
theorem ZzR {old:Ac} {x:Int} (hx:x < 0):Zay old [] [x]=0:=by
 rw[Zay,Ha (by simp[cpL]),Hb];rw[Zhy,Zns hx];simp[usL]
theorem Znw {a b:Int} (ha:0≤a) (hb:0≤b):(Ab [a,b]).length=2:=by simp[Ab,ha,hb]
theorem Zrh {old:Ac} {a b:Int} (ha:0≤a) (hb:0≤b):Zay old ZbP [a,b]=0:=by
 rw[Zay,Ha (by simp[cpL,cpF,ZbP]),Hb];have:=Zjz old.Aa.length 2;rw[Zhy,Znw ha hb];rw[show ZbP=ZaF 2 from rfl,this];decide
theorem ZuE {old:Ac} {r:Nat} {a b:Int} (hr:r < old.Aa.length) (ha:0≤a) (hb:0≤b):Zay old [.mk 1 r ZbP] [a,b]=0:=by
 have:=Zkj (old:=old) (r:=r) (right:=[a,b]) hr (by rw[Znw ha hb];omega)
 rwa [Znw ha hb] at this
structure SP.fit (g:Ac) (s:SP):Prop where
 vars:g.vars≤s.vars
 left:∀ r∈s.Aa,0≤r.left∧r.left < s.vars
 sym:∀ r∈s.Aa,∀ x∈r.right, -g.terms≤x∧x < s.vars
 two:∀ r∈s.Aa,r.right.length≤2∧(r.right.length=2→∀ x∈r.right,0≤x)
 parts:Zfk g s.frags s.Aa
 tlen:(s.term.length:Int)=g.terms
 term:∀ x∈s.term,x < s.vars
theorem SP.fit.rule {g:Ac} {s:SP} (h:s.fit g) {v:Int} {right:List Int} {l:List Ad} (h1:0≤v∧v < s.vars) (h2:∀ x∈right, -g.terms≤x∧x < s.vars) (h3:right.length≤2∧(right.length=2→∀ x∈right,0≤x)) (h4:Zay g l right=0):(s.rule v right l).fit g:=by
 refine⟨h.vars,?_,?_,?_,h.parts.snoc h4,h.tlen,h.term⟩ <;>
 ·intro r hr;rcases List.mem_append.1 hr with hr|hr
  ·first|exact h.left r hr|exact h.sym r hr|exact h.two r hr
  ·rw[List.mem_singleton.1 hr];first|exact h1|exact h2|exact h3
theorem SP.fit.grow {g:Ac} {s:SP} (h:s.fit g) {n:Int} (hn:0≤n):SP.fit g ⟨s.vars+n,s.Aa,s.frags,s.term⟩ :=
 ⟨by have:=h.vars;dsimp only;omega,fun r hr=>by have:=h.left r hr;dsimp only;omega,fun r hr x hx=>by have:=h.sym r hr x hx;dsimp only;omega,h.two,h.parts,h.tlen,fun x hx=>by have:=h.term x hx;dsimp only;omega⟩
theorem SP.lift_term {s:SP} {x:Int}:(s.lift x).term.length=s.term.length:=by
 rw[SP.lift];split
 ·rfl
 ·split <;> simp
theorem SP.fit.lift {g:Ac} {s:SP} (hg:g.ok) (h:s.fit g) {x:Int} (hx : -g.terms≤x∧x < s.vars):(s.lift x).fit g∧s.vars≤(s.lift x).vars∧0≤s.lifted x∧s.lifted x < (s.lift x).vars:=by
 have hv:=h.vars;have hv1:=hg.vars1;have hv2:=hg.terms0;by_cases h0:0≤x
 ·have e:s.lift x=s:=by rw[SP.lift,Hb h0]
  rw[e];refine⟨h,Ja _,?_,?_⟩ <;> rw[SP.lifted,Hb h0]
  ·exact h0
  ·exact hx.2
 ·have hl:(-1 - x).toNat < s.term.length:=by have:=h.tlen;omega
  by_cases h1:s.term.getD (-1 - x).toNat 0 < 0
  ·have e:s.lift x=⟨s.vars+1,s.Aa++[⟨s.vars,[x]⟩],s.frags++[[]],s.term.set (-1 - x).toNat s.vars⟩:=by rw[SP.lift,Ha h0,Hb h1]
   have e2:s.lifted x=s.vars:=by
    rw[SP.lifted,Ha h0,e];simp only[Hf];rw[G8 hl];rfl
   rw[e2,e];have k:=(h.grow (n:=1) (by decide)).rule (v:=s.vars) (right:=[x]) (l:=[]) (by dsimp only;omega) (fun y hy=>by rw[List.mem_singleton.1 hy];dsimp only;omega) ⟨by simp,by simp⟩ (ZzR (by omega));refine⟨⟨k.vars,k.left,k.sym,k.two,k.parts,by have:=h.tlen;simpa using this,fun y hy=>?_⟩,by dsimp only;omega,by omega,by dsimp only;omega⟩;rcases GU hy with hy|rfl
   ·have:=h.term y hy;dsimp only;omega
   ·dsimp only;omega
  ·have e:s.lift x=s:=by rw[SP.lift,Ha h0,Ha h1]
   have e2:s.lifted x=s.term.getD (-1 - x).toNat 0:=by rw[SP.lifted,Ha h0,e]
   rw[e2,e];refine⟨h,Ja _,by omega,?_⟩;rw[Hf,Hj hl];exact h.term _ (He hl)
theorem SP.fit.lifts {g:Ac} (hg:g.ok):∀ {l:List Int} {s:SP},s.fit g→(∀ x∈l, -g.terms≤x∧x < g.vars)→(s.lifts l).fit g∧s.vars≤(s.lifts l).vars∧∀ y∈s.lifteds l,0≤y∧y < (s.lifts l).vars
 | [],s,h,_=>⟨h,Ja _,fun y hy=>by simp[SP.lifteds] at hy⟩
 | x::l,s,h,hx=>by
  have hv:=h.vars;have h0:=hx x (by simp);obtain⟨k1,k2,k3,k4⟩:=h.lift hg (x:=x) ⟨h0.1,by omega⟩;obtain⟨j1,j2,j3⟩:=SP.fit.lifts hg (l:=l) k1 (fun y hy=>hx y (by simp[hy]));refine⟨j1,by rw[SP.lifts];omega,fun y hy=>?_⟩;rw[SP.lifteds] at hy;rw[SP.lifts];rcases List.mem_cons.1 hy with rfl|hy
  ·exact⟨k3,by omega⟩
  ·exact j3 y hy
theorem Zwm {v:Int} {l:List Int} {N:Int} (hl:2≤l.length) (h0:0≤v) (hN:∀ y∈l,0≤y∧y < N) (hv:v+((l.length - 2:Nat):Int)≤N):∀ y∈ZeK v l,0≤y∧y < N:=by
 intro y hy;rw[ZeK] at hy;rcases List.mem_append.1 hy with hy|hy
 ·obtain⟨i,hi,rfl⟩:=List.mem_map.1 hy;have:=List.mem_range.1 hi;omega
 ·rw[List.mem_singleton.1 hy,Hf,Hj (by omega)];exact hN _ (He _)
theorem ZjA {l:List Int} {k:Nat} (h:k < l.length):l.getD k 0∈l:=by rw[Hf,Hj h];exact He h
theorem SP.fit.pairs {g:Ac} {s:SP} (h:s.fit g) {v:Int} {r:Nat} {l rs:List Int} (hr:r < g.Aa.length) (hv:0≤v∧v < s.vars) (h1:∀ y∈l,0≤y∧y < s.vars) (h2:∀ y∈rs,0≤y∧y < s.vars) (ht:0≤g.terms):∀ k,k≤l.length→k≤rs.length→SP.fit g ⟨s.vars,s.Aa++Zjw v l rs k,s.frags++Zhz r k,s.term⟩
 | 0,_,_=>by simpa[Zjw,Zhz] using h
 | k+1,hk,hk'=>by
  have ih:=SP.fit.pairs h hr hv h1 h2 ht k (by omega) (by omega);have a1:=h1 _ (ZjA (l:=l) (k:=k) (by omega));have a2:=h2 _ (ZjA (l:=rs) (k:=k) (by omega));have:=ih.rule (v:=if k=0 then v else rs.getD (k - 1) 0) (right:=[l.getD k 0,rs.getD k 0]) (l:=if k=0 then [.mk 1 r ZbP] else ZbP) (by
    split
    ·exact hv
    ·exact h2 _ (ZjA (by omega))) (fun x hx=>by
    simp only[Gq,GB,or_false] at hx;rcases hx with rfl|rfl <;> dsimp only <;> omega) ⟨by simp,fun _ x hx=>by
    simp only[Gq,GB,or_false] at hx;rcases hx with rfl|rfl <;> omega⟩ (by
    split
    ·exact ZuE hr a1.1 a2.1
    ·exact Zrh a1.1 a2.1)
  simpa[SP.rule,Zjw,Zhz,HH] using this
theorem SP.fit.one {g:Ac} {s:SP} (hg:g.ok) (h:s.fit g) {i:Nat} (hi:i < g.Aa.length) {x:Rule} (hx:ZaX g x=0):(s.one i x).fit g:=by
 obtain⟨h1,h2,h3,h4⟩:=Zb5 hx;have hv:=h.vars;rw[SP.one];split
 ·rename_i hl;refine h.rule ⟨h2,by omega⟩ (fun y hy=>by have:=h4 y hy;omega) ⟨by omega,by omega⟩ (Zkj hi ?_);have:=Zbj x.right;omega
 ·rename_i hl;obtain⟨k1,k2,k3⟩:=SP.fit.lifts hg h h4;have hle:=SP.lifteds_length s x.right;have hk:=hg.vars1;have hr2:=Zjc (v:=(s.lifts x.right).vars) (l:=s.lifteds x.right) (by omega);have:=(k1.grow (n:=((x.right.length - 2:Nat):Int)) (by omega)).pairs (v:=x.left) (l:=s.lifteds x.right) (rs:=ZeK (s.lifts x.right).vars (s.lifteds x.right)) hi (by dsimp only;omega) (fun y hy=>by have:=k3 y hy;dsimp only;omega)
   (Zwm (by omega) (by omega) (fun y hy=>by have:=k3 y hy;dsimp only;omega) (by dsimp only;rw[hle];omega)) hg.terms0 (x.right.length - 1) (by omega) (by omega)
  exact this
theorem Zir {g:Ac} (hg:g.ok):∀ {rs:List Rule} {s s':SP} {i:Nat},s.fit g→s.many=false→(∀ r∈rs,ZaX g r=0)→i+rs.length≤g.Aa.length→ZbQ s rs i=.ok s'→s'.fit g∧s'.many=false
 | [],s,s',i,h,hm,_,_,e=>by rw[ZbQ] at e;cases e;exact⟨h,hm⟩
 | x::rs,s,s',i,h,hm,hr,hi,e=>by
  rw[ZbQ] at e;simp only[Hl] at hi;cases hc:(s.one i x).many with
  | true=>rw[hc] at e;cases e
  | false =>
   rw[hc] at e;exact Zir hg (h.one hg (by omega) (hr x (by simp))) hc (fun r h=>hr r (by simp[h])) (by omega) e
theorem Zdv {g:Ac} (hg:g.ok):(Za0 g).fit g∧(Za0 g).many=false:=by
 have h1:=hg.terms0;have h2:=hg.vars;have h3:=hg.vars1;refine⟨⟨Ja _,fun r hr=>by simp[Za0] at hr,fun r hr=>by simp[Za0] at hr,fun r hr=>by simp[Za0] at hr,.nil,(by show ((List.replicate g.terms.toNat (-1:Int)).length:Int)=g.terms;rw[HM];omega),fun x hx=>?_⟩,?_⟩
 ·rw[(List.mem_replicate.1 hx).2];show (-1:Int) < g.vars;omega
 ·simp only[SP.many,Ju,G4];exact⟨by show ¬ (64 < g.vars);omega,by show ¬ 160 < 0;omega⟩
theorem Ac.ok.rule {g:Ac} (h:g.ok) {r:Rule} (hr:r∈g.Aa):ZaX g r=0:=by
 unfold ZaX;rw[Ha (by have:=h.right r hr;omega),Ha];simp only[not_or];refine⟨by have:=h.left0 r hr;omega,by have:=h.left r hr;omega,?_⟩;simp only[Jb,JJ];intro s hs;have:=h.lo r hr s hs;have:=h.hi r hr s hs;simp[ZeT];omega
theorem Zri {s:SP} (h:s.many=false):s.vars≤64∧s.Aa.length≤160:=by
 simp only[SP.many,Ju,G4] at h;omega
theorem ZfV (g:Ac):((Zac g).code≠0∧Zcz g=(Ag,Zac g))∨(∃ i,Zcz g=(Ag,⟨6,(i:Nat)⟩)) ∨
  ∃ s,g.ok∧ZbQ (Za0 g) g.Aa 0=.ok s∧Zcz g=(ZcZ g s,⟨0,0⟩):=by
 by_cases h:(Zac g).code=0
 ·rw[Zcz,Hb h];cases hc:ZbQ (Za0 g) g.Aa 0 with
  | ok s=>exact .inr (.inr ⟨s,Zbd h,rfl,rfl⟩)
  | error i=>exact .inr (.inl ⟨i,rfl⟩)
 ·rw[Zcz,Ha h];exact .inl ⟨h,rfl⟩
theorem ZgQ {g:Ac} (hg:g.ok) {s:SP} (hc:ZbQ (Za0 g) g.Aa 0=.ok s):(ZcZ g s).g.ok∧Zam g (ZcZ g s)=⟨0,0⟩∧∀ r∈s.Aa,r.right.length≤2∧(r.right.length=2→∀ x∈r.right,0≤x):=by
 obtain⟨h1,h2⟩:=Zdv hg;obtain⟨h3,h4⟩:=Zir hg h1 h2 (fun r hr=>hg.rule hr) (by omega) hc;obtain⟨h5,h6⟩:=Zri h4;have a1:=h3.vars;have a2:=hg.vars1;have a3:=hg.start;have hok:(ZcZ g s).g.ok:=⟨by show 1≤s.vars;omega,h5,hg.terms0,hg.terms,hg.start0,by show g.start < s.vars;omega,h6,fun r hr=>by have:=(h3.two r hr).1;omega,
  fun r hr=>(h3.left r hr).1,fun r hr=>(h3.left r hr).2,fun r hr x hx=>(h3.sym r hr x hx).1,fun r hr x hx=>(h3.sym r hr x hx).2⟩
 exact⟨hok,Zki hg hok rfl h3.parts,h3.two⟩
end Go.Proofs.YtbpmepgnjanhnaaGreat
