import Derived.Test.YtbpmepgnjanhnaaGreatFactorQ
import Derived.Test.YtbpmepgnjanhnaaGreatQP1
set_option linter.unusedVariables false
set_option linter.unusedSimpArgs false
set_option linter.unusedSectionVars false
namespace Go.Proofs.YtbpmepgnjanhnaaGreat
open Go.RowKit
def Zeo (g:Gram) (r:Int):Rule:=g.rules.getD r.toNat ⟨0,[]⟩
def Zdx (g:Gram) (v:Nat):List Work:=(by_ g v).map fun r=>⟨(Zeo g r).right,ZaQ r (kids (Zeo g r).right).length⟩
def Za0 (g:Gram):List (List Work):=(List.range g.vars.toNat).map (Zdx g)
theorem Zwm {v x:Int}:∀ {rs:List Rule} {i:Nat},x∈byR rs v i→∃ j,∃ h:j < rs.length,x=((i+j:Nat):Int)∧rs[j].left=v
 | [],i,h=>by simp[byR] at h
 | r::rs,i,h=>by
  rw[byR] at h
  have next:x∈byR rs v (i+1)→∃ j,∃ h:j < (r::rs).length,x=((i+j:Nat):Int)∧(r::rs)[j].left=v:=fun h=>by
   obtain⟨j,h1,h2,h3⟩:=Zwm h
   exact⟨j+1,by simp;omega,by rw[h2];congr 1;omega,by simpa using h3⟩
  split at h
  ·rename_i e
   rcases List.mem_cons.1 h with rfl|h
   ·exact⟨0,by simp,by simp,e⟩
   ·exact next h
  ·exact next h
theorem Zo5 {g:Gram} {v:Nat} {r:Int} (h:r∈by_ g v):∃ j,∃ hj:j < g.rules.length,r=(j:Int)∧g.rules[j].left=(v:Int)∧Zeo g r=g.rules[j]:=by
 obtain⟨j,h1,h2,h3⟩:=Zwm h
 rw[Nat.zero_add] at h2
 refine⟨j,h1,h2,h3,?_⟩
 rw[Zeo,h2]
 simp only[Int.toNat_natCast]
 rw[List.getD_eq_getElem?_getD,List.getElem?_eq_getElem h1];rfl
theorem Zbv (g:Gram):(Za0 g).length=g.vars.toNat:=by simp[Za0]
theorem ZeH {g:Gram} {v:Nat} (h:v < g.vars.toNat):(Za0 g).getD v []=Zdx g v:=by
 rw[List.getD_eq_getElem?_getD,Za0,List.getElem?_map,List.getElem?_range h];rfl
theorem Zjv {g:Gram} {v:Nat} (h:¬ v < g.vars.toNat):(Za0 g).getD v []=[]:=by
 rw[List.getD_eq_getElem?_getD,List.getElem?_eq_none (by rw[Zbv];omega)];rfl
theorem ZlR {g:Gram} (hg:g.ok):FInv g (Za0 g) 0:=by
 have h1:=hg.vars1
 have h2:=hg.vars
 have hplain:∀ v,v < g.vars.toNat→∀ w∈Zdx g v,Znv g (ZhH g v) w∧∀ s∈w.right, -g.terms≤s∧s < ((Za0 g).length:Int):=by
  intro v hv w hw
  obtain⟨r,hr,rfl⟩:=List.mem_map.1 hw
  obtain⟨j,hj,rfl,_,e⟩:=Zo5 hr
  have hgap:ZhH g v=false:=decide_eq_false (by omega)
  rw[hgap]
  dsimp only
  rw[e,Zbv]
  have hmem:=List.getElem_mem hj
  exact⟨⟨j,hj,rfl,hg.right _ hmem⟩,fun s hs=>⟨hg.lo _ hmem s hs,by have:=hg.hi _ hmem s hs;omega⟩⟩
 refine⟨by rw[Zbv];omega,by rw[Zbv];omega,?_,?_,fun u hu=>by omega⟩
 ·intro l hl w hw
  obtain⟨v,hv,rfl⟩:=List.mem_map.1 hl
  obtain⟨p,q⟩:=hplain v (List.mem_range.1 hv) w hw
  exact WOk.plain q p
 ·intro u _
  by_cases hu:u < g.vars.toNat
  ·rw[ZeH hu]
   refine List.Pairwise.imp_of_mem (R:=fun _ _=>True) (fun ha hb _=>.inl ⟨(hplain u hu _ ha).1,(hplain u hu _ hb).1⟩) ?_
   exact List.pairwise_of_forall (fun _ _=>trivial)
  ·rw[Zjv hu];exact List.Pairwise.nil
def finL (v:Nat):List Work→List Rule→List (List Frag)→Option (List Rule×List (List Frag))
 | [],R,F=>some (R,F)
 | w::r,R,F=>if R.length=160∨10 < w.right.length then none else finL v r (R++[⟨(v:Int),w.right⟩]) (F++[w.l])
def finW:List (List Work)→Nat→List Rule→List (List Frag)→Except Nat (List Rule×List (List Frag))
 | [],_,R,F=>.ok (R,F)
 | l::r,v,R,F=>match finL v l R F with
  | none=>.error v
  | some x=>finW r (v+1) x.1 x.2
def Zbq:List (List Work)→Nat→List Rule
 | [],_=>[]
 | l::r,v=>l.map (fun w=>(⟨(v:Int),w.right⟩:Rule))++Zbq r (v+1)
def Zbr:List (List Work)→List (List Frag)
 | []=>[]
 | l::r=>l.map (·.l)++Zbr r
theorem ZlS {v:Nat}:∀ {l:List Work} {R:List Rule} {F:List (List Frag)} {x:List Rule×List (List Frag)},finL v l R F=some x→R.length≤160 →
  x.1=R++l.map (fun w=>(⟨(v:Int),w.right⟩:Rule))∧x.2=F++l.map (·.l)∧x.1.length≤160∧∀ w∈l,w.right.length≤10
 | [],R,F,x,h,hR=>by
  rw[finL] at h;cases h
  exact⟨by simp,by simp,hR,by simp⟩
 | w::r,R,F,x,h,hR=>by
  rw[finL] at h
  split at h
  ·cases h
  ·rename_i hn
   obtain⟨h1,h2,h3,h4⟩:=ZlS h (by simp;omega)
   refine⟨by rw[h1];simp,by rw[h2];simp,h3,fun y hy=>?_⟩
   rcases List.mem_cons.1 hy with rfl|hy
   ·omega
   ·exact h4 y hy
theorem Zks:∀ {all:List (List Work)} {v:Nat} {R:List Rule} {F:List (List Frag)} {x:List Rule×List (List Frag)},finW all v R F=.ok x→R.length≤160 →
  x.1=R++Zbq all v∧x.2=F++Zbr all∧x.1.length≤160∧∀ l∈all,∀ w∈l,w.right.length≤10
 | [],v,R,F,x,h,hR=>by
  rw[finW] at h;cases h
  exact⟨by simp[Zbq],by simp[Zbr],hR,by simp⟩
 | l::r,v,R,F,x,h,hR=>by
  rw[finW] at h
  cases hc:finL v l R F with
  | none=>rw[hc] at h;cases h
  | some y =>
   rw[hc] at h
   obtain⟨h1,h2,h3,h4⟩:=ZlS hc hR
   obtain⟨k1,k2,k3,k4⟩:=Zks h h3
   refine⟨by rw[k1,h1,Zbq];simp,by rw[k2,h2,Zbr];simp,k3,fun y hy=>?_⟩
   rcases List.mem_cons.1 hy with rfl|hy
   ·exact h4
   ·exact k4 y hy
def Zc8 (g:Gram) (r:Except Nat (List (List Work))):Step×Fault:=match r with
 | .error v=>(zeroStep,⟨6,(v:Nat)⟩)
 | .ok z=>match finW z 0 [] [] with
  | .error v=>(zeroStep,⟨6,(v:Nat)⟩)
  | .ok x=>(⟨⟨(z.length:Nat),g.terms,g.start,x.1⟩,x.2,[]⟩,⟨0,0⟩)
def Zca (g:Gram) (r:Except Nat (List (List Work))):Step×Fault:=if (Zac g).code=0 then Zc8 g r else (zeroStep,Zac g)
theorem Zff:∀ {all:List (List Work)} {v:Nat} {r:Rule},r∈Zbq all v→(v:Int)≤r.left∧r.left < ((v+all.length:Nat):Int)∧∃ w∈all.getD (r.left.toNat - v) [],r.right=w.right
 | [],v,r,h=>by simp[Zbq] at h
 | l::a,v,r,h=>by
  rw[Zbq] at h
  rcases List.mem_append.1 h with h|h
  ·obtain⟨w,hw,rfl⟩:=List.mem_map.1 h
   dsimp only
   refine⟨Int.le_refl _,by simp;omega,w,?_,rfl⟩
   simpa using hw
  ·obtain⟨h1,h2,w,h3,h4⟩:=Zff h
   refine⟨by omega,by simp only[List.length_cons];omega,w,?_,h4⟩
   rw[show r.left.toNat - v=(r.left.toNat - (v+1))+1 by omega]
   simpa using h3
section
variable {g:Gram} {z:List (List Work)} {x:List Rule×List (List Frag)}
def outG (g:Gram) (z:List (List Work)) (x:List Rule×List (List Frag)):Gram:=⟨(z.length:Nat),g.terms,g.start,x.1⟩
theorem Zkt:∀ {all:List (List Work)} {v:Nat},(∀ l∈all,∀ w∈l,Zax g w.l w.right=0)→Zd3 g (Zbr all) (Zbq all v)
 | [],v,_=>.nil
 | l::a,v,h=>by
  rw[Zbr,Zbq]
  refine All2.append ?_ (Zkt (fun y hy=>h y (by simp[hy])))
  have hl:=h l (by simp)
  clear h
  induction l with
  | nil=>exact .nil
  | cons w r ih=>exact .cons (hl w (by simp)) (ih (fun y hy=>hl y (by simp[hy])))
theorem Zwn (hg:g.ok) (h:FInv g z z.length) (hx:finW z 0 [] []=.ok x):(outG g z x).ok:=by
 obtain⟨h1,h2,h3,h4⟩:=Zks hx (by simp)
 rw[List.nil_append] at h1 h2
 have a1:=h.len
 have a2:=h.vars
 have a3:=hg.vars1
 have a4:=hg.start
 have hm:∀ r∈x.1,0≤r.left∧r.left < (z.length:Int)∧r.right.length≤10∧∀ s∈r.right, -g.terms≤s∧s < (z.length:Int):=fun r hr=>by
  rw[h1] at hr
  obtain⟨b1,b2,w,b3,b4⟩:=Zff hr
  have hl:=Zlv b3
  rw[b4]
  refine⟨by omega,by omega,h4 _ hl w b3,(h.ok _ hl w b3).sym⟩
 exact⟨by show (1:Int)≤(z.length:Int);omega,by show (z.length:Int)≤64;omega,hg.terms0,hg.terms,hg.start0,by show g.start < (z.length:Int);omega,h3,fun r hr=>(hm r hr).2.2.1,fun r hr=>(hm r hr).1,fun r hr=>(hm r hr).2.1,fun r hr s hs=>((hm r hr).2.2.2 s hs).1,fun r hr s hs=>((hm r hr).2.2.2 s hs).2⟩
theorem ZuY (hg:g.ok) (h:FInv g z z.length) (hx:finW z 0 [] []=.ok x):Zar g ⟨outG g z x,x.2,[]⟩=⟨0,0⟩:=by
 obtain⟨h1,h2,h3,h4⟩:=Zks hx (by simp)
 rw[List.nil_append] at h1 h2
 refine Zib hg (Zwn hg h hx) rfl ?_
 show Zd3 g x.2 x.1
 rw[h1,h2]
 exact Zkt (fun l hl w hw=>(h.ok l hl w hw).part)
theorem ZuZ (h:FInv g z z.length) (hx:finW z 0 [] []=.ok x):x.2.length≤160∧∀ l∈x.2,fszs l≤100:=by
 obtain⟨h1,h2,h3,h4⟩:=Zks hx (by simp)
 rw[List.nil_append] at h1 h2
 have hl:∀ (all:List (List Work)) (v:Nat),(Zbr all).length=(Zbq all v).length:=by
  intro all
  induction all with
  | nil=>intro v;rfl
  | cons l a ih=>intro v;simp[Zbr,Zbq,ih (v+1)]
 refine⟨by rw[h2,hl z 0,←h1];exact h3,fun f hf=>?_⟩
 rw[h2] at hf
 have:∀ (all:List (List Work)),f∈Zbr all→∃ l∈all,∃ w∈l,f=w.l:=by
  intro all
  induction all with
  | nil=>intro h;simp[Zbr] at h
  | cons l a ih =>
   intro h
   rcases List.mem_append.1 h with h|h
   ·obtain⟨w,hw,rfl⟩:=List.mem_map.1 h
    exact⟨l,by simp,w,hw,rfl⟩
   ·obtain⟨l',h1,w,h2,h3⟩:=ih h
    exact⟨l',by simp[h1],w,h2,h3⟩
 obtain⟨l,hl,w,hw,rfl⟩:=this z hf
 exact (h.ok l hl w hw).slim
end
def mvN (o n over by_:Int):Int:=if (o=2∨o=4)∧over < n then n+by_ else n
mutual
def movF (over by_:Int):Frag→Frag
 | .mk o n l=>.mk o (mvN o n over by_) (movL over by_ l)
def movL (over by_:Int):List Frag→List Frag
 | []=>[]
 | x::r=>movF over by_ x::movL over by_ r
end
mutual
def gpF (w:List Frag):Frag→List Frag
 | .mk o n l=>if o=3 then w else [.mk o n (gpL w l)]
def gpL (w:List Frag):List Frag→List Frag
 | []=>[]
 | x::r=>gpF w x++gpL w r
end
mutual
def ptF (k:Int) (inn:List Frag) (by_:Int):Frag→List Frag
 | .mk o n l=>if o=2∧n=k then inn else if o=4∧n=k then gpL (ptL k inn by_ l) inn else [.mk o (mvN o n k by_) (ptL k inn by_ l)]
def ptL (k:Int) (inn:List Frag) (by_:Int):List Frag→List Frag
 | []=>[]
 | x::r=>ptF k inn by_ x++ptL k inn by_ r
end
def Zgq (l:List Frag) (k:Int) (inn:List Frag) (n:Int):List Frag:=ptL k (movL (-1) k inn) (n - 1) l
theorem ZwK (o b:Int) (x:Frag):movF o b x=.mk x.op (mvN x.op x.n o b) (movL o b x.l):=by cases x;rw[movF];rfl
theorem ZxX (w:List Frag) (x:Frag):gpF w x=if x.op=3 then w else [.mk x.op x.n (gpL w x.l)]:=by cases x;rw[gpF];rfl
theorem ZxY (k:Int) (inn:List Frag) (b:Int) (x:Frag):ptF k inn b x=if x.op=2∧x.n=k then inn else if x.op=4∧x.n=k then gpL (ptL k inn b x.l) inn else [.mk x.op (mvN x.op x.n k b) (ptL k inn b x.l)]:=by cases x;rw[ptF];rfl
theorem ZhS (o b:Int):∀ (x y:List Frag),movL o b (x++y)=movL o b x++movL o b y
 | [],y=>rfl
 | a::x,y=>by simp only[List.cons_append,movL,ZhS o b x y]
theorem Zjw (w:List Frag):∀ (x y:List Frag),gpL w (x++y)=gpL w x++gpL w y
 | [],y=>rfl
 | a::x,y=>by simp only[List.cons_append,gpL,Zjw w x y,List.append_assoc]
theorem Zgr (k:Int) (inn:List Frag) (b:Int):∀ (x y:List Frag),ptL k inn b (x++y)=ptL k inn b x++ptL k inn b y
 | [],y=>rfl
 | a::x,y=>by simp only[List.cons_append,ptL,Zgr k inn b x y,List.append_assoc]
theorem Zsa {o b:Int} {l:List Frag} {i:Nat} (h:i < l.length):movL o b (l.take (i+1))=movL o b (l.take i)++[movF o b l[i]]:=by
 rw[List.take_succ_eq_append_getElem h,ZhS];simp[movL]
theorem Zu0 {w:List Frag} {l:List Frag} {i:Nat} (h:i < l.length):gpL w (l.take (i+1))=gpL w (l.take i)++gpF w l[i]:=by
 rw[List.take_succ_eq_append_getElem h,Zjw];simp[gpL]
theorem Zu1 {k:Int} {inn:List Frag} {b:Int} {l:List Frag} {i:Nat} (h:i < l.length):ptL k inn b (l.take (i+1))=ptL k inn b (l.take i)++ptF k inn b l[i]:=by
 rw[List.take_succ_eq_append_getElem h,Zgr];simp[ptL]
theorem Zo6 (o b:Int):∀ l:List Frag,(movL o b l).length=l.length
 | []=>rfl
 | x::l=>by simp[movL,Zo6 o b l]
mutual
theorem Zsb (o b:Int):∀ x:Frag,fsz (movF o b x)=fsz x
 | .mk _ _ l=>by rw[movF,fsz,fsz,ZhT o b l]
theorem ZhT (o b:Int):∀ l:List Frag,fszs (movL o b l)=fszs l
 | []=>rfl
 | x::l=>by rw[movL,fszs,fszs,Zsb o b x,ZhT o b l]
end
mutual
theorem Zsc (o:Int):∀ x:Frag,movF o 0 x=x
 | .mk a n l=>by
  rw[movF,Zco o l,mvN]
  split <;> simp
theorem Zco (o:Int):∀ l:List Frag,movL o 0 l=l
 | []=>rfl
 | x::l=>by rw[movL,Zsc o x,Zco o l]
end
mutual
theorem Zu2 (w:List Frag):∀ x:Frag,fszs (gpF w x)≤fsz x * (1+fszs w)
 | .mk o n l=>by
  have h:=Zku w l
  rw[gpF,fsz,Nat.add_mul]
  split
  ·omega
  ·simp only[fszs,fsz];omega
theorem Zku (w:List Frag):∀ l:List Frag,fszs (gpL w l)≤fszs l * (1+fszs w)
 | []=>by simp[gpL,fszs]
 | x::l=>by
  have h1:=Zu2 w x
  have h2:=Zku w l
  rw[gpL,Zbc,fszs,Nat.add_mul];omega
end
mutual
def NbF (B:Int):Frag→Prop
 | .mk _ n l=>(-B≤n∧n≤B)∧NbL B l
def NbL (B:Int):List Frag→Prop
 | []=>True
 | x::r=>NbF B x∧NbL B r
end
theorem Zwo {B:Int} {x:Frag} (h:NbF B x):(-B≤x.n∧x.n≤B)∧NbL B x.l:=by cases x;exact h
theorem ZnN {B:Int} {x:Frag}:∀ {l:List Frag},NbL B l→x∈l→NbF B x
 | y::l,h,hm=>by
  rcases List.mem_cons.1 hm with rfl|hm
  ·exact h.1
  ·exact ZnN h.2 hm
mutual
def PtF (k:Int) (inn:List Frag) (b:Int):Frag→Prop
 | .mk o n l=>PtL k inn b l∧(o=4∧n=k→fszs inn * (1+fszs (ptL k inn b l))≤100000000)
def PtL (k:Int) (inn:List Frag) (b:Int):List Frag→Prop
 | []=>True
 | x::r=>PtF k inn b x∧PtL k inn b r∧fszs (ptL k inn b (x::r))≤100000000
end
theorem ZxZ {k:Int} {inn:List Frag} {b:Int} {x:Frag} (h:PtF k inn b x):PtL k inn b x.l∧(x.op=4∧x.n=k→fszs inn * (1+fszs (ptL k inn b x.l))≤100000000):=by
 cases x;rw[PtF] at h;exact h
theorem Zsd {k:Int} {inn:List Frag} {b:Int} {x:Frag}:∀ {l:List Frag},PtL k inn b l→x∈l→PtF k inn b x
 | y::l,h,hm=>by
  rw[PtL] at h
  rcases List.mem_cons.1 hm with rfl|hm
  ·exact h.1
  ·exact Zsd h.2.1 hm
theorem Zo7 {k:Int} {inn:List Frag} {b:Int}:∀ {l:List Frag},PtL k inn b l→fszs (ptL k inn b l)≤100000000
 | [],_=>by simp[ptL,fszs]
 | x::l,h=>by rw[PtL] at h;exact h.2.2
def hdI (l:List Int):Int:=l.headD 0
def mixW (x y:Work):Work:=⟨y.right++x.right.tail,Zgq x.l 0 y.l (kids y.right).length⟩
def Zcp (x:Work):List Work→List Work→Option (List Work)
 | [],out=>some out
 | y::ys,out=>if 10 < (mixW x y).right.length∨160 < (out++[mixW x y]).length then none else Zcp x ys (out++[mixW x y])
def Zcl (A:List Work) (u:Int):List Work→List Work→Option (List Work)
 | [],out=>if 160 < out.length then none else some out
 | x::xs,out=>if hdI x.right≠u then Zcl A u xs (out++[x]) else
   match Zcp x A out with
   | none=>none
   | some out'=>Zcl A u xs out'
def ZdK (all:List (List Work)):Nat→Nat→List Work→Option (List Work)
 | _,0,l=>some l
 | u,n+1,l=>match Zcl (all.getD u []) u l [] with
  | none=>none
  | some l'=>ZdK all (u+1) n l'
def gapF:Frag:=.mk 3 0 []
def Zcb (v:Int) (x:Work):List Work:=[x,⟨x.right++[v],[.mk 4 (kids x.right).length x.l]⟩]
def ownW (v:Int) (l:List Work):List Work:=(l.filter fun x=>decide (hdI x.right=v)).map fun x=>⟨x.right.tail,Zgq x.l 0 [gapF] 0⟩
def Zds (v:Int) (l:List Work):List Work:=l.filter fun x=>!decide (hdI x.right=v)
def Zbk (all:List (List Work)) (l:List Work) (v:Nat):List (List Work) :=
 if (ownW v l).length=0 then all.set v l
 else (all++[(ownW v l).flatMap (Zcb all.length)]).set v ((Zds v l).flatMap (Zcb all.length))
def Zhl (all:List (List Work)):Bool:=all.all (fun l=>l.all fun x=>decide (x.right.length≤10) && decide (fszs x.l≤60)) && decide ((all.map List.length).sum≤160) && decide (all.length≤64)
def Zcc:Nat→Nat→List (List Work)→Except Nat (List (List Work))
 | _,0,all=>.ok all
 | v,n+1,all=>match ZdK all 0 v (all.getD v []) with
  | none=>.error v
  | some l=>if Zhl (Zbk all l v)=true then Zcc (v+1) n (Zbk all l v) else .error v
mutual
def kdF:Frag→List Int
 | .mk o n l=>if o=1 then kdL l else if o=2 then [n] else if o=4 then n::kdL l else []
def kdL:List Frag→List Int
 | []=>[]
 | x::r=>kdF x++kdL r
end
mutual
def wfF (m:Int):Frag→Prop
 | .mk o n l=>(o=1∧0≤n∧n < m∧wfL m l)∨(o=2∧l=[])∨(o=3∧n=0∧l=[])∨(o=4∧wfL m l)
def wfL (m:Int):List Frag→Prop
 | []=>True
 | x::r=>wfF m x∧wfL m r
end
mutual
def nzF:Frag→Prop
 | .mk o n l=>¬ (o=4∧n=0)∧nzL l
def nzL:List Frag→Prop
 | []=>True
 | x::r=>nzF x∧nzL r
end
theorem Zjx:∀ a b:List Frag,kdL (a++b)=kdL a++kdL b
 | [],b=>rfl
 | x::a,b=>by rw[List.cons_append,kdL,kdL,Zjx a b,List.append_assoc]
theorem Zjy {m:Int}:∀ {a b:List Frag},wfL m (a++b)↔wfL m a∧wfL m b
 | [],b=>by simp[wfL]
 | x::a,b=>by rw[List.cons_append,wfL,wfL,Zjy,and_assoc]
theorem Zjz:∀ {a b:List Frag},nzL (a++b)↔nzL a∧nzL b
 | [],b=>by simp[nzL]
 | x::a,b=>by rw[List.cons_append,nzL,nzL,Zjz,and_assoc]
theorem Zse (k:Nat):kdL (ZaH k)=(List.range k).map fun (i:Nat)=>(i:Int):=by
 unfold ZaH
 have:∀ l:List Nat,kdL (l.map fun (i:Nat)=>Frag.mk 2 (i:Int) [])=l.map fun (i:Nat)=>(i:Int):=by
  intro l
  induction l with
  | nil=>rfl
  | cons i l ih=>rw[List.map_cons,kdL,ih,kdF];rfl
 exact this _
theorem Zsf (m:Int) (k:Nat):wfL m (ZaH k):=by
 unfold ZaH
 have:∀ l:List Nat,wfL m (l.map fun (i:Nat)=>Frag.mk 2 (i:Int) []):=by
  intro l
  induction l with
  | nil=>trivial
  | cons i l ih=>exact⟨.inr (.inl ⟨rfl,rfl⟩),ih⟩
 exact this _
theorem Zsg (k:Nat):nzL (ZaH k):=by
 unfold ZaH
 have:∀ l:List Nat,nzL (l.map fun (i:Nat)=>Frag.mk 2 (i:Int) []):=by
  intro l
  induction l with
  | nil=>trivial
  | cons i l ih=>exact⟨⟨fun h=>absurd h.1 (by decide),trivial⟩,ih⟩
 exact this _
def putN (b:Int) (inn:List Int) (n:Int):List Int:=if n=0 then inn else [mvN 2 n 0 b]
theorem Zo8 {o n b:Int} (ho:o=2∨o=4):mvN o n 0 b=if 0 < n then n+b else n:=by
 unfold mvN
 by_cases h:0 < n
 ·rw[if_pos ⟨ho,h⟩,if_pos h]
 ·rw[if_neg (fun q=>h q.2),if_neg h]
theorem Zsh (n:Int) (l:List Frag):kdF (.mk 2 n l)=[n]:=by rw[kdF,if_neg (by decide),if_pos rfl]
mutual
theorem Zx0 {m b:Int} {inn:List Frag}:∀ x:Frag,wfF m x→nzF x→kdL (ptF 0 inn b x)=(kdF x).flatMap (putN b (kdL inn))
 | .mk o n l,h,hz=>by
  rw[wfF] at h
  rw[nzF] at hz
  rw[ptF]
  rcases h with ⟨rfl,_,_,hl⟩|⟨rfl,rfl⟩|⟨rfl,_,rfl⟩|⟨rfl,hl⟩
  ·rw[if_neg (fun q=>absurd q.1 (by decide)),if_neg (fun q=>absurd q.1 (by decide)),kdL,kdF,if_pos rfl,kdL,List.append_nil,ZhU l hl hz.2,kdF,if_pos rfl]
  ·rw[Zsh,List.flatMap_cons,List.flatMap_nil,List.append_nil]
   unfold putN
   by_cases h0:n=0
   ·rw[if_pos ⟨rfl,h0⟩,if_pos h0]
   ·rw[if_neg (fun q=>h0 q.2),if_neg (fun q=>absurd q.1 (by decide)),if_neg h0,kdL,kdF,if_neg (by decide),if_pos rfl]
    rfl
  ·rw[if_neg (fun q=>absurd q.1 (by decide)),if_neg (fun q=>absurd q.1 (by decide)),kdL,kdF,kdF,if_neg (by decide),if_neg (by decide),if_neg (by decide)]
   rfl
  ·have h0:¬ n=0:=fun q=>hz.1 ⟨rfl,q⟩
   rw[if_neg (fun q=>absurd q.1 (by decide)),if_neg (fun q=>h0 q.2),kdL,kdF,if_neg (by decide),if_neg (by decide),if_pos rfl,kdL,List.append_nil,ZhU l hl hz.2,kdF,if_neg (by decide),if_neg (by decide),if_pos rfl,List.flatMap_cons]
   unfold putN
   rw[if_neg h0,Zo8 (.inr rfl),Zo8 (.inl rfl)]
   rfl
theorem ZhU {m b:Int} {inn:List Frag}:∀ l:List Frag,wfL m l→nzL l→kdL (ptL 0 inn b l)=(kdL l).flatMap (putN b (kdL inn))
 | [],_,_=>rfl
 | x::r,h,hz=>by
  rw[ptL,Zjx,Zx0 x h.1 hz.1,ZhU r h.2 hz.2,kdL,List.flatMap_append]
end
mutual
theorem Zx1 {m b:Int} {inn:List Frag} (hi:wfL m inn):∀ x:Frag,wfF m x→nzF x→wfL m (ptF 0 inn b x)
 | .mk o n l,h,hz=>by
  rw[wfF] at h
  rw[nzF] at hz
  rw[ptF]
  rcases h with ⟨rfl,h1,h2,hl⟩|⟨rfl,rfl⟩|⟨rfl,h1,rfl⟩|⟨rfl,hl⟩
  ·rw[if_neg (fun q=>absurd q.1 (by decide)),if_neg (fun q=>absurd q.1 (by decide))]
   refine⟨.inl ⟨rfl,?_,?_,ZhV hi l hl hz.2⟩,trivial⟩
   ·unfold mvN;rw[if_neg (fun q=>by rcases q.1 with q|q <;> exact absurd q (by decide))];exact h1
   ·unfold mvN;rw[if_neg (fun q=>by rcases q.1 with q|q <;> exact absurd q (by decide))];exact h2
  ·by_cases h0:n=0
   ·rw[if_pos ⟨rfl,h0⟩];exact hi
   ·rw[if_neg (fun q=>h0 q.2),if_neg (fun q=>absurd q.1 (by decide))]
    exact⟨.inr (.inl ⟨rfl,rfl⟩),trivial⟩
  ·rw[if_neg (fun q=>absurd q.1 (by decide)),if_neg (fun q=>absurd q.1 (by decide))]
   refine⟨.inr (.inr (.inl ⟨rfl,?_,rfl⟩)),trivial⟩
   unfold mvN;rw[if_neg (fun q=>by rcases q.1 with q|q <;> exact absurd q (by decide))];exact h1
  ·have h0:¬ n=0:=fun q=>hz.1 ⟨rfl,q⟩
   rw[if_neg (fun q=>absurd q.1 (by decide)),if_neg (fun q=>h0 q.2)]
   exact⟨.inr (.inr (.inr ⟨rfl,ZhV hi l hl hz.2⟩)),trivial⟩
theorem ZhV {m b:Int} {inn:List Frag} (hi:wfL m inn):∀ l:List Frag,wfL m l→nzL l→wfL m (ptL 0 inn b l)
 | [],_,_=>trivial
 | x::r,h,hz=>by
  rw[ptL,Zjy]
  exact⟨Zx1 hi x h.1 hz.1,ZhV hi r h.2 hz.2⟩
end
mutual
theorem Zx2 {m b:Int} {inn:List Frag} (hi:nzL inn) (hb:0≤b):∀ x:Frag,wfF m x→nzF x→(∀ n∈kdF x,0≤n)→nzL (ptF 0 inn b x)
 | .mk o n l,h,hz,hk=>by
  rw[wfF] at h
  rw[nzF] at hz
  rw[ptF]
  rcases h with ⟨rfl,h1,h2,hl⟩|⟨rfl,rfl⟩|⟨rfl,h1,rfl⟩|⟨rfl,hl⟩
  ·rw[if_neg (fun q=>absurd q.1 (by decide)),if_neg (fun q=>absurd q.1 (by decide))]
   rw[kdF,if_pos rfl] at hk
   exact⟨⟨fun q=>absurd q.1 (by decide),Zkv hi hb l hl hz.2 hk⟩,trivial⟩
  ·by_cases h0:n=0
   ·rw[if_pos ⟨rfl,h0⟩];exact hi
   ·rw[if_neg (fun q=>h0 q.2),if_neg (fun q=>absurd q.1 (by decide))]
    exact⟨⟨fun q=>absurd q.1 (by decide),trivial⟩,trivial⟩
  ·rw[if_neg (fun q=>absurd q.1 (by decide)),if_neg (fun q=>absurd q.1 (by decide))]
   exact⟨⟨fun q=>absurd q.1 (by decide),trivial⟩,trivial⟩
  ·have h0:¬ n=0:=fun q=>hz.1 ⟨rfl,q⟩
   rw[kdF,if_neg (by decide),if_neg (by decide),if_pos rfl] at hk
   have hn:=hk n (by simp)
   rw[if_neg (fun q=>absurd q.1 (by decide)),if_neg (fun q=>h0 q.2)]
   refine⟨⟨fun q=>?_,Zkv hi hb l hl hz.2 fun x hx=>hk x (by simp[hx])⟩,trivial⟩
   have:=q.2
   rw[Zo8 (.inr rfl),if_pos (by omega)] at this
   omega
theorem Zkv {m b:Int} {inn:List Frag} (hi:nzL inn) (hb:0≤b):∀ l:List Frag,wfL m l→nzL l→(∀ n∈kdL l,0≤n)→nzL (ptL 0 inn b l)
 | [],_,_,_=>trivial
 | x::r,h,hz,hk=>by
  rw[ptL,Zjz]
  rw[kdL] at hk
  exact⟨Zx2 hi hb x h.1 hz.1 fun n hn=>hk n (by simp[hn]),Zkv hi hb r h.2 hz.2 fun n hn=>hk n (by simp[hn])⟩
end
mutual
theorem Zx3 {m b:Int} {inn:List Frag}:∀ x:Frag,wfF m x→nzF x→fszs (ptF 0 inn b x)≤fsz x+(kdF x).count 0 * fszs inn
 | .mk o n l,h,hz=>by
  rw[wfF] at h
  rw[nzF] at hz
  rw[ptF]
  rcases h with ⟨rfl,h1,h2,hl⟩|⟨rfl,rfl⟩|⟨rfl,h1,rfl⟩|⟨rfl,hl⟩
  ·rw[if_neg (fun q=>absurd q.1 (by decide)),if_neg (fun q=>absurd q.1 (by decide)),kdF,if_pos rfl]
   have:=Zgs (m:=m) (b:=b) (inn:=inn) l hl hz.2
   simp only[fszs,fsz];omega
  ·rw[Zsh]
   by_cases h0:n=0
   ·rw[if_pos ⟨rfl,h0⟩,h0];simp
   ·rw[if_neg (fun q=>h0 q.2),if_neg (fun q=>absurd q.1 (by decide))]
    simp[fszs,fsz,ptL]
  ·rw[if_neg (fun q=>absurd q.1 (by decide)),if_neg (fun q=>absurd q.1 (by decide))]
   simp[fszs,fsz,ptL]
  ·have h0:¬ n=0:=fun q=>hz.1 ⟨rfl,q⟩
   rw[if_neg (fun q=>absurd q.1 (by decide)),if_neg (fun q=>h0 q.2),kdF,if_neg (by decide),if_neg (by decide),if_pos rfl,List.count_cons_of_ne h0]
   have:=Zgs (m:=m) (b:=b) (inn:=inn) l hl hz.2
   simp only[fszs,fsz];omega
theorem Zgs {m b:Int} {inn:List Frag}:∀ l:List Frag,wfL m l→nzL l→fszs (ptL 0 inn b l)≤fszs l+(kdL l).count 0 * fszs inn
 | [],_,_=>by simp[ptL,fszs]
 | x::r,h,hz=>by
  have h1:=Zx3 (b:=b) (inn:=inn) x h.1 hz.1
  have h2:=Zgs (b:=b) (inn:=inn) r h.2 hz.2
  rw[ptL,Zbc,kdL,List.count_append,Nat.add_mul,fszs];omega
end
theorem Zsi (l:List Int):l.count 0≤l.length:=List.count_le_length
mutual
theorem ZwL:∀ x:Frag,(kdF x).length≤fsz x
 | .mk o n l=>by
  have:=ZnO l
  rw[kdF,fsz]
  split
  ·omega
  ·split
   ·rw[List.length_singleton];omega
   ·split
    ·simp only[List.length_cons];omega
    ·simp
theorem ZnO:∀ l:List Frag,(kdL l).length≤fszs l
 | []=>Nat.le_refl _
 | x::r=>by
  have h1:=ZwL x
  have h2:=ZnO r
  rw[kdL,List.length_append,fszs];omega
end
theorem ZlT {m b:Int} {inn:List Frag}:∀ l:List Frag,wfL m l→nzL l→fszs l+fszs l * fszs inn≤100000000→PtL 0 inn b l:=by
 have key:∀ (N:Nat) (l:List Frag),fszs l < N→wfL m l→nzL l→fszs l+fszs l * fszs inn≤100000000→PtL 0 inn b l:=by
  intro N
  induction N with
  | zero=>intro l h;omega
  | succ N ih =>
   intro l hN h hz hs
   cases l with
   | nil=>trivial
   | cons x r =>
    have hx:=ZnT x
    rw[fszs] at hN
    have hsx:fszs x.l+fszs x.l * fszs inn≤100000000:=by
     have h1:fszs x.l≤fszs (x::r):=by rw[fszs,Ze8];omega
     have h2:fszs x.l * fszs inn≤fszs (x::r) * fszs inn:=Nat.mul_le_mul_right _ h1
     omega
    have hsr:fszs r+fszs r * fszs inn≤100000000:=by
     have h1:fszs r≤fszs (x::r):=by rw[fszs];omega
     have h2:fszs r * fszs inn≤fszs (x::r) * fszs inn:=Nat.mul_le_mul_right _ h1
     omega
    rw[PtL]
    refine⟨?_,ih r (by omega) h.2 hz.2 hsr,?_⟩
    ·cases x with
     | mk o n l =>
      have hz1:=hz.1
      have hw:=h.1
      rw[nzF] at hz1
      rw[wfF] at hw
      rw[PtF]
      refine⟨?_,fun q=>absurd q hz1.1⟩
      rcases hw with ⟨_,_,_,hl⟩|⟨_,rfl⟩|⟨_,_,rfl⟩|⟨_,hl⟩
      ·exact ih l (by rw[fsz] at hN;omega) hl hz1.2 hsx
      ·trivial
      ·trivial
      ·exact ih l (by rw[fsz] at hN;omega) hl hz1.2 hsx
    ·have h1:=Zgs (m:=m) (b:=b) (inn:=inn) (x::r) h hz
     have h2:=Nat.mul_le_mul_right (fszs inn) (Nat.le_trans (Zsi (kdL (x::r))) (ZnO (x::r)))
     omega
 exact fun l=>key _ l (Nat.lt_succ_self _)
mutual
theorem ZyO {m B:Int} (hB:0≤B) (hm:m≤B):∀ x:Frag,wfF m x→(∀ n∈kdF x, -B≤n∧n≤B)→NbF B x
 | .mk o n l,h,hk=>by
  rw[wfF] at h
  rcases h with ⟨rfl,h1,h2,hl⟩|⟨rfl,rfl⟩|⟨rfl,h1,rfl⟩|⟨rfl,hl⟩
  ·rw[kdF,if_pos rfl] at hk
   exact⟨by omega,Zo9 hB hm l hl hk⟩
  ·rw[kdF,if_neg (by decide),if_pos rfl] at hk
   exact⟨hk n (by simp),trivial⟩
  ·exact⟨by omega,trivial⟩
  ·rw[kdF,if_neg (by decide),if_neg (by decide),if_pos rfl] at hk
   exact⟨hk n (by simp),Zo9 hB hm l hl fun x hx=>hk x (by simp[hx])⟩
theorem Zo9 {m B:Int} (hB:0≤B) (hm:m≤B):∀ l:List Frag,wfL m l→(∀ n∈kdL l, -B≤n∧n≤B)→NbL B l
 | [],_,_=>trivial
 | x::r,h,hk=>by
  rw[kdL] at hk
  exact⟨ZyO hB hm x h.1 fun n hn=>hk n (by simp[hn]),Zo9 hB hm r h.2 fun n hn=>hk n (by simp[hn])⟩
end
def upTo (k:Nat):List Int:=(List.range k).map fun (i:Nat)=>(i:Int)
theorem upTo_mem {k:Nat} {n:Int}:n∈upTo k↔0≤n∧n < k:=by
 unfold upTo
 simp only[List.mem_map,List.mem_range]
 constructor
 ·rintro⟨i,hi,rfl⟩;omega
 ·rintro⟨h1,h2⟩;exact⟨n.toNat,by omega,by omega⟩
theorem ZlU (k:Nat):upTo (k+1)=0::(upTo k).map (·+1):=by
 unfold upTo
 rw[List.range_succ_eq_map,List.map_cons,List.map_map,List.map_map]
 rfl
theorem Zu3 (a c:Nat):upTo (a+c)=upTo a++(upTo c).map (·+(a:Int)):=by
 unfold upTo
 rw[List.range_add,List.map_append,List.map_map,List.map_map]
 congr 1
 refine List.map_congr_left fun i _=>?_
 simp only[Function.comp];omega
theorem ZlV (k:Nat):upTo (k+1)=upTo k++[(k:Int)]:=by
 unfold upTo;rw[List.range_succ,List.map_append];rfl
theorem Zpa {l inn:List Int} {k ki:Nat} (hl:l.Perm (upTo (k+1))) (hi:inn.Perm (upTo ki)):(l.flatMap (putN ((ki:Int) - 1) inn)).Perm (upTo (ki+k)):=by
 have h1:(l.flatMap (putN ((ki:Int) - 1) inn)).Perm ((upTo (k+1)).flatMap (putN ((ki:Int) - 1) inn)):=hl.flatMap_right _
 refine h1.trans ?_
 rw[ZlU,List.flatMap_cons,Zu3]
 have e0:putN ((ki:Int) - 1) inn 0=inn:=by unfold putN;rw[if_pos rfl]
 rw[e0]
 refine hi.append ?_
 have e1:((upTo k).map (·+1)).flatMap (putN ((ki:Int) - 1) inn)=(upTo k).map (·+(ki:Int)):=by
  rw[List.flatMap_map]
  have:∀ n∈upTo k,putN ((ki:Int) - 1) inn (n+1)=[n+(ki:Int)]:=fun n hn=>by
   have:=(upTo_mem.1 hn).1
   unfold putN
   rw[if_neg (by omega),Zo8 (.inl rfl),if_pos (by omega)]
   congr 1;omega
  generalize upTo k=u at *
  induction u with
  | nil=>rfl
  | cons a u ih=>rw[List.flatMap_cons,this a (by simp),ih fun n hn=>this n (by simp[hn])];rfl
 rw[e1]
theorem ZjA (k:Nat) (l:List Int) (h:l.Perm (upTo k)):l.count 0≤1:=by
 rw[h.count_eq]
 cases k with
 | zero=>simp[upTo]
 | succ k =>
  rw[ZlU,List.count_cons_self]
  have:((upTo k).map (·+1)).count 0=0:=by
   rw[List.count_eq_zero]
   intro hm
   obtain⟨n,hn,e⟩:=List.mem_map.1 hm
   have:=(upTo_mem.1 hn).1
   omega
  omega
end Go.Proofs.YtbpmepgnjanhnaaGreat
