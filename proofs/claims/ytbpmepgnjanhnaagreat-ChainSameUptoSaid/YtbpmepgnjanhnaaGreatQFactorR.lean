import Derived.Test.YtbpmepgnjanhnaaGreatFactorQ
set_option linter.unusedVariables false
set_option linter.unusedSimpArgs false
set_option linter.unusedSectionVars false
namespace Go.Proofs.YtbpmepgnjanhnaaGreat
open Go.RowKit
def ZdN (g:Ac) (r:Int):Rule:=g.Aa.getD r.toNat ⟨0,[]⟩
def Zcx (g:Ac) (v:Nat):List Ae:=(by_ g v).map fun r=>⟨(ZdN g r).right,ZaJ r (Ab (ZdN g r).right).length⟩
def Za5 (g:Ac):List (List Ae):=(List.range g.vars.toNat).map (Zcx g)
theorem ZBV {v x:Int}:∀ {rs:List Rule} {i:Nat},x∈byR rs v i→∃ j,∃ h:j < rs.length,x=((i+j:Nat):Int)∧rs[j].left=v
 | [],i,h=>by simp[byR] at h
 | r::rs,i,h=>by
  rw[byR] at h;have next:x∈byR rs v (i+1)→∃ j,∃ h:j < (r::rs).length,x=((i+j:Nat):Int)∧(r::rs)[j].left=v:=fun h=>by
   obtain⟨j,h1,h2,h3⟩:=ZBV h;exact⟨j+1,by simp;omega,by rw[h2];congr 1;omega,by simpa using h3⟩
  split at h
  ·rename_i e;rcases List.mem_cons.1 h with rfl|h
   ·exact⟨0,by simp,by simp,e⟩
   ·exact next h
  ·exact next h
theorem ZkA {g:Ac} {v:Nat} {r:Int} (h:r∈by_ g v):∃ j,∃ hj:j < g.Aa.length,r=(j:Int)∧g.Aa[j].left=(v:Int)∧ZdN g r=g.Aa[j]:=by
 obtain⟨j,h1,h2,h3⟩:=ZBV h;rw[HE] at h2;refine⟨j,h1,h2,h3,?_⟩;rw[ZdN,h2];simp only[Hn];rw[Hf,Hj h1];rfl
theorem Zbm (g:Ac):(Za5 g).length=g.vars.toNat:=by simp[Za5]
theorem Zb4 {g:Ac} {v:Nat} (h:v < g.vars.toNat):(Za5 g).getD v []=Zcx g v:=by
 rw[Hf,Za5,Gg,JM h];rfl
theorem Zd1 {g:Ac} {v:Nat} (h:¬ v < g.vars.toNat):(Za5 g).getD v []=[]:=by
 rw[Hf,HI (by rw[Zbm];omega)];rfl
theorem ZkB {g:Ac} (hg:g.ok):FInv g (Za5 g) 0:=by
 have h1:=hg.vars1;have h2:=hg.vars;have hplain:∀ v,v < g.vars.toNat→∀ w∈Zcx g v,Zq8 g (Zbx g v) w∧∀ s∈w.right, -g.terms≤s∧s < ((Za5 g).length:Int):=by
  intro v hv w hw;obtain⟨r,hr,rfl⟩:=List.mem_map.1 hw;obtain⟨j,hj,rfl,_,e⟩:=ZkA hr;have hgap:Zbx g v=false:=HC (by omega);rw[hgap];dsimp only;rw[e,Zbm];have hmem:=He hj;exact⟨⟨j,hj,rfl,hg.right _ hmem⟩,fun s hs=>⟨hg.lo _ hmem s hs,by have:=hg.hi _ hmem s hs;omega⟩⟩
 refine⟨by rw[Zbm];omega,by rw[Zbm];omega,?_,?_,fun u hu=>by omega⟩
 ·intro l hl w hw;obtain⟨v,hv,rfl⟩:=List.mem_map.1 hl;obtain⟨p,q⟩:=hplain v (List.mem_range.1 hv) w hw;exact WOk.plain q p
 ·intro u _;by_cases hu:u < g.vars.toNat
  ·rw[Zb4 hu];refine GA (R:=fun _ _=>True) (fun ha hb _=>.inl ⟨(hplain u hu _ ha).1,(hplain u hu _ hb).1⟩) ?_;exact List.pairwise_of_forall (fun _ _=>trivial)
  ·rw[Zd1 hu];exact H7
def finL (v:Nat):List Ae→List Rule→List (List Ad)→Option (List Rule×List (List Ad))
 | [],R,F=>some (R,F)
 | w::r,R,F=>if R.length=160∨10 < w.right.length then none else finL v r (R++[⟨(v:Int),w.right⟩]) (F++[w.l])
def finW:List (List Ae)→Nat→List Rule→List (List Ad)→Except Nat (List Rule×List (List Ad))
 | [],_,R,F=>.ok (R,F)
 | l::r,v,R,F=>match finL v l R F with
  | none=>.error v
  | some x=>finW r (v+1) x.1 x.2
def Zbh:List (List Ae)→Nat→List Rule
 | [],_=>[]
 | l::r,v=>l.map (fun w=>(⟨(v:Int),w.right⟩:Rule))++Zbh r (v+1)
def ZaU:List (List Ae)→List (List Ad)
 | []=>[]
 | l::r=>l.map (·.l)++ZaU r
theorem ZpC {v:Nat}:∀ {l:List Ae} {R:List Rule} {F:List (List Ad)} {x:List Rule×List (List Ad)},finL v l R F=some x→R.length≤160 →
  x.1=R++l.map (fun w=>(⟨(v:Int),w.right⟩:Rule))∧x.2=F++l.map (·.l)∧x.1.length≤160∧∀ w∈l,w.right.length≤10
 | [],R,F,x,h,hR=>by
  rw[finL] at h;cases h;exact⟨by simp,by simp,hR,by simp⟩
 | w::r,R,F,x,h,hR=>by
  rw[finL] at h;split at h
  ·cases h
  ·rename_i hn;obtain⟨h1,h2,h3,h4⟩:=ZpC h (by simp;omega);refine⟨by rw[h1];simp,by rw[h2];simp,h3,fun y hy=>?_⟩;rcases List.mem_cons.1 hy with rfl|hy
   ·omega
   ·exact h4 y hy
theorem ZkC:∀ {all:List (List Ae)} {v:Nat} {R:List Rule} {F:List (List Ad)} {x:List Rule×List (List Ad)},finW all v R F=.ok x→R.length≤160 →
  x.1=R++Zbh all v∧x.2=F++ZaU all∧x.1.length≤160∧∀ l∈all,∀ w∈l,w.right.length≤10
 | [],v,R,F,x,h,hR=>by
  rw[finW] at h;cases h;exact⟨by simp[Zbh],by simp[ZaU],hR,by simp⟩
 | l::r,v,R,F,x,h,hR=>by
  rw[finW] at h;cases hc:finL v l R F with
  | none=>rw[hc] at h;cases h
  | some y =>
   rw[hc] at h;obtain⟨h1,h2,h3,h4⟩:=ZpC hc hR;obtain⟨k1,k2,k3,k4⟩:=ZkC h h3;refine⟨by rw[k1,h1,Zbh];simp,by rw[k2,h2,ZaU];simp,k3,fun y hy=>?_⟩;rcases List.mem_cons.1 hy with rfl|hy
   ·exact h4
   ·exact k4 y hy
def ZbR (g:Ac) (r:Except Nat (List (List Ae))):Step×Zcf:=match r with
 | .error v=>(Ag,⟨6,(v:Nat)⟩)
 | .ok z=>match finW z 0 [] [] with
  | .error v=>(Ag,⟨6,(v:Nat)⟩)
  | .ok x=>(⟨⟨(z.length:Nat),g.terms,g.start,x.1⟩,x.2,[]⟩,⟨0,0⟩)
def ZbM (g:Ac) (r:Except Nat (List (List Ae))):Step×Zcf:=if (Zac g).code=0 then ZbR g r else (Ag,Zac g)
theorem Zfr:∀ {all:List (List Ae)} {v:Nat} {r:Rule},r∈Zbh all v→(v:Int)≤r.left∧r.left < ((v+all.length:Nat):Int)∧∃ w∈all.getD (r.left.toNat - v) [],r.right=w.right
 | [],v,r,h=>by simp[Zbh] at h
 | l::a,v,r,h=>by
  rw[Zbh] at h;rcases List.mem_append.1 h with h|h
  ·obtain⟨w,hw,rfl⟩:=List.mem_map.1 h;dsimp only;refine⟨Ja _,by simp;omega,w,?_,rfl⟩;simpa using hw
  ·obtain⟨h1,h2,w,h3,h4⟩:=Zfr h;refine⟨by omega,by simp only[Hl];omega,w,?_,h4⟩;rw[show r.left.toNat - v=(r.left.toNat - (v+1))+1 by omega];simpa using h3
section
variable {g:Ac} {z:List (List Ae)} {x:List Rule×List (List Ad)}
def outG (g:Ac) (z:List (List Ae)) (x:List Rule×List (List Ad)):Ac:=⟨(z.length:Nat),g.terms,g.start,x.1⟩
theorem ZnL:∀ {all:List (List Ae)} {v:Nat},(∀ l∈all,∀ w∈l,Zay g w.l w.right=0)→Zfk g (ZaU all) (Zbh all v)
 | [],v,_=>.nil
 | l::a,v,h=>by
  rw[ZaU,Zbh];refine All2.append ?_ (ZnL (fun y hy=>h y (by simp[hy])));have hl:=h l (by simp);clear h
  induction l with
  | nil=>exact .nil
  | cons w r ih=>exact .cons (hl w (by simp)) (ih (fun y hy=>hl y (by simp[hy])))
theorem ZBW (hg:g.ok) (h:FInv g z z.length) (hx:finW z 0 [] []=.ok x):(outG g z x).ok:=by
 obtain⟨h1,h2,h3,h4⟩:=ZkC hx (by simp);rw[H3] at h1 h2;have a1:=h.len;have a2:=h.vars;have a3:=hg.vars1;have a4:=hg.start;have hm:∀ r∈x.1,0≤r.left∧r.left < (z.length:Int)∧r.right.length≤10∧∀ s∈r.right, -g.terms≤s∧s < (z.length:Int):=fun r hr=>by
  rw[h1] at hr;obtain⟨b1,b2,w,b3,b4⟩:=Zfr hr;have hl:=Zo2 b3;rw[b4];refine⟨by omega,by omega,h4 _ hl w b3,(h.ok _ hl w b3).sym⟩
 exact⟨by show (1:Int)≤(z.length:Int);omega,by show (z.length:Int)≤64;omega,hg.terms0,hg.terms,hg.start0,by show g.start < (z.length:Int);omega,h3,fun r hr=>(hm r hr).2.2.1,fun r hr=>(hm r hr).1,fun r hr=>(hm r hr).2.1,fun r hr s hs=>((hm r hr).2.2.2 s hs).1,fun r hr s hs=>((hm r hr).2.2.2 s hs).2⟩
theorem Zs6 (hg:g.ok) (h:FInv g z z.length) (hx:finW z 0 [] []=.ok x):Zam g ⟨outG g z x,x.2,[]⟩=⟨0,0⟩:=by
 obtain⟨h1,h2,h3,h4⟩:=ZkC hx (by simp);rw[H3] at h1 h2;refine Zki hg (ZBW hg h hx) rfl ?_;show Zfk g x.2 x.1;rw[h1,h2];exact ZnL (fun l hl w hw=>(h.ok l hl w hw).part)
theorem ZAj (h:FInv g z z.length) (hx:finW z 0 [] []=.ok x):x.2.length≤160∧∀ l∈x.2,Aj l≤100:=by
 obtain⟨h1,h2,h3,h4⟩:=ZkC hx (by simp);rw[H3] at h1 h2;have hl:∀ (all:List (List Ae)) (v:Nat),(ZaU all).length=(Zbh all v).length:=by
  intro all
  induction all with
  | nil=>intro v;rfl
  | cons l a ih=>intro v;simp[ZaU,Zbh,ih (v+1)]
 refine⟨by rw[h2,hl z 0,←h1];exact h3,fun f hf=>?_⟩;rw[h2] at hf;have:∀ (all:List (List Ae)),f∈ZaU all→∃ l∈all,∃ w∈l,f=w.l:=by
  intro all
  induction all with
  | nil=>intro h;simp[ZaU] at h
  | cons l a ih =>
   intro h;rcases List.mem_append.1 h with h|h
   ·obtain⟨w,hw,rfl⟩:=List.mem_map.1 h;exact⟨l,by simp,w,hw,rfl⟩
   ·obtain⟨l',h1,w,h2,h3⟩:=ih h;exact⟨l',by simp[h1],w,h2,h3⟩
 obtain⟨l,hl,w,hw,rfl⟩:=this z hf;exact (h.ok l hl w hw).slim
end
def mvN (o n over by_:Int):Int:=if (o=2∨o=4)∧over < n then n+by_ else n
mutual
def movF (over by_:Int):Ad→Ad
 | .mk o n l=>.mk o (mvN o n over by_) (movL over by_ l)
def movL (over by_:Int):List Ad→List Ad
 | []=>[]
 | x::r=>movF over by_ x::movL over by_ r
end
mutual
def gpF (w:List Ad):Ad→List Ad
 | .mk o n l=>if o=3 then w else [.mk o n (gpL w l)]
def gpL (w:List Ad):List Ad→List Ad
 | []=>[]
 | x::r=>gpF w x++gpL w r
end
mutual
def ptF (k:Int) (inn:List Ad) (by_:Int):Ad→List Ad
 | .mk o n l=>if o=2∧n=k then inn else if o=4∧n=k then gpL (ptL k inn by_ l) inn else [.mk o (mvN o n k by_) (ptL k inn by_ l)]
def ptL (k:Int) (inn:List Ad) (by_:Int):List Ad→List Ad
 | []=>[]
 | x::r=>ptF k inn by_ x++ptL k inn by_ r
end
def ZeL (l:List Ad) (k:Int) (inn:List Ad) (n:Int):List Ad:=ptL k (movL (-1) k inn) (n - 1) l
theorem ZCz (o b:Int) (x:Ad):movF o b x=.mk x.op (mvN x.op x.n o b) (movL o b x.l):=by cases x;rw[movF];rfl
theorem ZD0 (w:List Ad) (x:Ad):gpF w x=if x.op=3 then w else [.mk x.op x.n (gpL w x.l)]:=by cases x;rw[gpF];rfl
theorem ZD1 (k:Int) (inn:List Ad) (b:Int) (x:Ad):ptF k inn b x=if x.op=2∧x.n=k then inn else if x.op=4∧x.n=k then gpL (ptL k inn b x.l) inn else [.mk x.op (mvN x.op x.n k b) (ptL k inn b x.l)]:=by cases x;rw[ptF];rfl
theorem ZkD (o b:Int):∀ (x y:List Ad),movL o b (x++y)=movL o b x++movL o b y
 | [],y=>rfl
 | a::x,y=>by simp only[Hv,movL,ZkD o b x y]
theorem Zmq (w:List Ad):∀ (x y:List Ad),gpL w (x++y)=gpL w x++gpL w y
 | [],y=>rfl
 | a::x,y=>by simp only[Hv,gpL,Zmq w x y,HH]
theorem ZiI (k:Int) (inn:List Ad) (b:Int):∀ (x y:List Ad),ptL k inn b (x++y)=ptL k inn b x++ptL k inn b y
 | [],y=>rfl
 | a::x,y=>by simp only[Hv,ptL,ZiI k inn b x y,HH]
theorem Zxj {o b:Int} {l:List Ad} {i:Nat} (h:i < l.length):movL o b (l.take (i+1))=movL o b (l.take i)++[movF o b l[i]]:=by
 rw[HD h,ZkD];simp[movL]
theorem ZAk {w:List Ad} {l:List Ad} {i:Nat} (h:i < l.length):gpL w (l.take (i+1))=gpL w (l.take i)++gpF w l[i]:=by
 rw[HD h,Zmq];simp[gpL]
theorem ZAl {k:Int} {inn:List Ad} {b:Int} {l:List Ad} {i:Nat} (h:i < l.length):ptL k inn b (l.take (i+1))=ptL k inn b (l.take i)++ptF k inn b l[i]:=by
 rw[HD h,ZiI];simp[ptL]
theorem Zs7 (o b:Int):∀ l:List Ad,(movL o b l).length=l.length
 | []=>rfl
 | x::l=>by simp[movL,Zs7 o b l]
mutual
theorem Zxk (o b:Int):∀ x:Ad,fsz (movF o b x)=fsz x
 | .mk _ _ l=>by rw[movF,fsz,fsz,ZkE o b l]
theorem ZkE (o b:Int):∀ l:List Ad,Aj (movL o b l)=Aj l
 | []=>rfl
 | x::l=>by rw[movL,Aj,Aj,Zxk o b x,ZkE o b l]
end
mutual
theorem Zxl (o:Int):∀ x:Ad,movF o 0 x=x
 | .mk a n l=>by
  rw[movF,ZbS o l,mvN];split <;> simp
theorem ZbS (o:Int):∀ l:List Ad,movL o 0 l=l
 | []=>rfl
 | x::l=>by rw[movL,Zxl o x,ZbS o l]
end
mutual
theorem ZAm (w:List Ad):∀ x:Ad,Aj (gpF w x)≤fsz x * (1+Aj w)
 | .mk o n l=>by
  have h:=ZnM w l;rw[gpF,fsz,Gb];split
  ·omega
  ·simp only[Aj,fsz];omega
theorem ZnM (w:List Ad):∀ l:List Ad,Aj (gpL w l)≤Aj l * (1+Aj w)
 | []=>by simp[gpL,Aj]
 | x::l=>by
  have h1:=ZAm w x;have h2:=ZnM w l;rw[gpL,Zbw,Aj,Gb];omega
end
mutual
def NbF (B:Int):Ad→Prop
 | .mk _ n l=>(-B≤n∧n≤B)∧NbL B l
def NbL (B:Int):List Ad→Prop
 | []=>True
 | x::r=>NbF B x∧NbL B r
end
theorem ZBX {B:Int} {x:Ad} (h:NbF B x):(-B≤x.n∧x.n≤B)∧NbL B x.l:=by cases x;exact h
theorem ZrF {B:Int} {x:Ad}:∀ {l:List Ad},NbL B l→x∈l→NbF B x
 | y::l,h,hm=>by
  rcases List.mem_cons.1 hm with rfl|hm
  ·exact h.1
  ·exact ZrF h.2 hm
mutual
def PtF (k:Int) (inn:List Ad) (b:Int):Ad→Prop
 | .mk o n l=>PtL k inn b l∧(o=4∧n=k→Aj inn * (1+Aj (ptL k inn b l))≤100000000)
def PtL (k:Int) (inn:List Ad) (b:Int):List Ad→Prop
 | []=>True
 | x::r=>PtF k inn b x∧PtL k inn b r∧Aj (ptL k inn b (x::r))≤100000000
end
theorem ZD2 {k:Int} {inn:List Ad} {b:Int} {x:Ad} (h:PtF k inn b x):PtL k inn b x.l∧(x.op=4∧x.n=k→Aj inn * (1+Aj (ptL k inn b x.l))≤100000000):=by
 cases x;rw[PtF] at h;exact h
theorem Zxm {k:Int} {inn:List Ad} {b:Int} {x:Ad}:∀ {l:List Ad},PtL k inn b l→x∈l→PtF k inn b x
 | y::l,h,hm=>by
  rw[PtL] at h;rcases List.mem_cons.1 hm with rfl|hm
  ·exact h.1
  ·exact Zxm h.2.1 hm
theorem Zs8 {k:Int} {inn:List Ad} {b:Int}:∀ {l:List Ad},PtL k inn b l→Aj (ptL k inn b l)≤100000000
 | [],_=>by simp[ptL,Aj]
 | x::l,h=>by rw[PtL] at h;exact h.2.2
def hdI (l:List Int):Int:=l.headD 0
def mixW (x y:Ae):Ae:=⟨y.right++x.right.tail,ZeL x.l 0 y.l (Ab y.right).length⟩
def ZbE (x:Ae):List Ae→List Ae→Option (List Ae)
 | [],out=>some out
 | y::ys,out=>if 10 < (mixW x y).right.length∨160 < (out++[mixW x y]).length then none else ZbE x ys (out++[mixW x y])
def ZbJ (A:List Ae) (u:Int):List Ae→List Ae→Option (List Ae)
 | [],out=>if 160 < out.length then none else some out
 | x::xs,out=>if hdI x.right≠u then ZbJ A u xs (out++[x]) else
   match ZbE x A out with
   | none=>none
   | some out'=>ZbJ A u xs out'
def Zca (all:List (List Ae)):Nat→Nat→List Ae→Option (List Ae)
 | _,0,l=>some l
 | u,n+1,l=>match ZbJ (all.getD u []) u l [] with
  | none=>none
  | some l'=>Zca all (u+1) n l'
def gapF:Ad:=.mk 3 0 []
def ZbU (v:Int) (x:Ae):List Ae:=[x,⟨x.right++[v],[.mk 4 (Ab x.right).length x.l]⟩]
def ownW (v:Int) (l:List Ae):List Ae:=(l.filter fun x=>decide (hdI x.right=v)).map fun x=>⟨x.right.tail,ZeL x.l 0 [gapF] 0⟩
def Zcv (v:Int) (l:List Ae):List Ae:=l.filter fun x=>!decide (hdI x.right=v)
def Zbf (all:List (List Ae)) (l:List Ae) (v:Nat):List (List Ae) :=
 if (ownW v l).length=0 then all.set v l
 else (all++[(ownW v l).flatMap (ZbU all.length)]).set v ((Zcv v l).flatMap (ZbU all.length))
def Zjx (all:List (List Ae)):Bool:=all.all (fun l=>l.all fun x=>decide (x.right.length≤10) && decide (Aj x.l≤60)) && decide ((all.map List.length).sum≤160) && decide (all.length≤64)
def ZbF:Nat→Nat→List (List Ae)→Except Nat (List (List Ae))
 | _,0,all=>.ok all
 | v,n+1,all=>match Zca all 0 v (all.getD v []) with
  | none=>.error v
  | some l=>if Zjx (Zbf all l v)=true then ZbF (v+1) n (Zbf all l v) else .error v
mutual
def kdF:Ad→List Int
 | .mk o n l=>if o=1 then kdL l else if o=2 then [n] else if o=4 then n::kdL l else []
def kdL:List Ad→List Int
 | []=>[]
 | x::r=>kdF x++kdL r
end
mutual
def wfF (m:Int):Ad→Prop
 | .mk o n l=>(o=1∧0≤n∧n < m∧wfL m l)∨(o=2∧l=[])∨(o=3∧n=0∧l=[])∨(o=4∧wfL m l)
def wfL (m:Int):List Ad→Prop
 | []=>True
 | x::r=>wfF m x∧wfL m r
end
mutual
def nzF:Ad→Prop
 | .mk o n l=>¬ (o=4∧n=0)∧nzL l
def nzL:List Ad→Prop
 | []=>True
 | x::r=>nzF x∧nzL r
end
theorem Zmr:∀ a b:List Ad,kdL (a++b)=kdL a++kdL b
 | [],b=>rfl
 | x::a,b=>by rw[Hv,kdL,kdL,Zmr a b,HH]
theorem Zms {m:Int}:∀ {a b:List Ad},wfL m (a++b)↔wfL m a∧wfL m b
 | [],b=>by simp[wfL]
 | x::a,b=>by rw[Hv,wfL,wfL,Zms,and_assoc]
theorem Zmt:∀ {a b:List Ad},nzL (a++b)↔nzL a∧nzL b
 | [],b=>by simp[nzL]
 | x::a,b=>by rw[Hv,nzL,nzL,Zmt,and_assoc]
theorem Zxn (k:Nat):kdL (ZaF k)=(List.range k).map fun (i:Nat)=>(i:Int):=by
 unfold ZaF;have:∀ l:List Nat,kdL (l.map fun (i:Nat)=>Ad.mk 2 (i:Int) [])=l.map fun (i:Nat)=>(i:Int):=by
  intro l
  induction l with
  | nil=>rfl
  | cons i l ih=>rw[Hm,kdL,ih,kdF];rfl
 exact this _
theorem Zxo (m:Int) (k:Nat):wfL m (ZaF k):=by
 unfold ZaF;have:∀ l:List Nat,wfL m (l.map fun (i:Nat)=>Ad.mk 2 (i:Int) []):=by
  intro l
  induction l with
  | nil=>trivial
  | cons i l ih=>exact⟨.inr (.inl ⟨rfl,rfl⟩),ih⟩
 exact this _
theorem Zxp (k:Nat):nzL (ZaF k):=by
 unfold ZaF;have:∀ l:List Nat,nzL (l.map fun (i:Nat)=>Ad.mk 2 (i:Int) []):=by
  intro l
  induction l with
  | nil=>trivial
  | cons i l ih=>exact⟨⟨fun h=>absurd h.1 (by decide),trivial⟩,ih⟩
 exact this _
def putN (b:Int) (inn:List Int) (n:Int):List Int:=if n=0 then inn else [mvN 2 n 0 b]
theorem ZkF {o n b:Int} (ho:o=2∨o=4):mvN o n 0 b=if 0 < n then n+b else n:=by
 unfold mvN;by_cases h:0 < n
 ·rw[Hb ⟨ho,h⟩,Hb h]
 ·rw[Ha (fun q=>h q.2),Ha h]
theorem ZkG (n:Int) (l:List Ad):kdF (.mk 2 n l)=[n]:=by rw[kdF,Ha (by decide),Hb rfl]
mutual
theorem ZD3 {m b:Int} {inn:List Ad}:∀ x:Ad,wfF m x→nzF x→kdL (ptF 0 inn b x)=(kdF x).flatMap (putN b (kdL inn))
 | .mk o n l,h,hz=>by
  rw[wfF] at h;rw[nzF] at hz;rw[ptF];rcases h with ⟨rfl,_,_,hl⟩|⟨rfl,rfl⟩|⟨rfl,_,rfl⟩|⟨rfl,hl⟩
  ·rw[Ha (fun q=>absurd q.1 (by decide)),Ha (fun q=>absurd q.1 (by decide)),kdL,kdF,Hb rfl,kdL,Ht,ZkH l hl hz.2,kdF,Hb rfl]
  ·rw[ZkG,HP,List.flatMap_nil,Ht];unfold putN;by_cases h0:n=0
   ·rw[Hb ⟨rfl,h0⟩,Hb h0]
   ·rw[Ha (fun q=>h0 q.2),Ha (fun q=>absurd q.1 (by decide)),Ha h0,kdL,kdF,Ha (by decide),Hb rfl];rfl
  ·rw[Ha (fun q=>absurd q.1 (by decide)),Ha (fun q=>absurd q.1 (by decide)),kdL,kdF,kdF,Ha (by decide),Ha (by decide),Ha (by decide)];rfl
  ·have h0:¬ n=0:=fun q=>hz.1 ⟨rfl,q⟩
   rw[Ha (fun q=>absurd q.1 (by decide)),Ha (fun q=>h0 q.2),kdL,kdF,Ha (by decide),Ha (by decide),Hb rfl,kdL,Ht,ZkH l hl hz.2,kdF,Ha (by decide),Ha (by decide),Hb rfl,HP];unfold putN;rw[Ha h0,ZkF (.inr rfl),ZkF (.inl rfl)];rfl
theorem ZkH {m b:Int} {inn:List Ad}:∀ l:List Ad,wfL m l→nzL l→kdL (ptL 0 inn b l)=(kdL l).flatMap (putN b (kdL inn))
 | [],_,_=>rfl
 | x::r,h,hz=>by
  rw[ptL,Zmr,ZD3 x h.1 hz.1,ZkH r h.2 hz.2,kdL,JL]
end
mutual
theorem ZD4 {m b:Int} {inn:List Ad} (hi:wfL m inn):∀ x:Ad,wfF m x→nzF x→wfL m (ptF 0 inn b x)
 | .mk o n l,h,hz=>by
  rw[wfF] at h;rw[nzF] at hz;rw[ptF];rcases h with ⟨rfl,h1,h2,hl⟩|⟨rfl,rfl⟩|⟨rfl,h1,rfl⟩|⟨rfl,hl⟩
  ·rw[Ha (fun q=>absurd q.1 (by decide)),Ha (fun q=>absurd q.1 (by decide))];refine⟨.inl ⟨rfl,?_,?_,ZkI hi l hl hz.2⟩,trivial⟩
   ·unfold mvN;rw[Ha (fun q=>by rcases q.1 with q|q <;> exact absurd q (by decide))];exact h1
   ·unfold mvN;rw[Ha (fun q=>by rcases q.1 with q|q <;> exact absurd q (by decide))];exact h2
  ·by_cases h0:n=0
   ·rw[Hb ⟨rfl,h0⟩];exact hi
   ·rw[Ha (fun q=>h0 q.2),Ha (fun q=>absurd q.1 (by decide))];exact⟨.inr (.inl ⟨rfl,rfl⟩),trivial⟩
  ·rw[Ha (fun q=>absurd q.1 (by decide)),Ha (fun q=>absurd q.1 (by decide))];refine⟨.inr (.inr (.inl ⟨rfl,?_,rfl⟩)),trivial⟩;unfold mvN;rw[Ha (fun q=>by rcases q.1 with q|q <;> exact absurd q (by decide))];exact h1
  ·have h0:¬ n=0:=fun q=>hz.1 ⟨rfl,q⟩
   rw[Ha (fun q=>absurd q.1 (by decide)),Ha (fun q=>h0 q.2)];exact⟨.inr (.inr (.inr ⟨rfl,ZkI hi l hl hz.2⟩)),trivial⟩
theorem ZkI {m b:Int} {inn:List Ad} (hi:wfL m inn):∀ l:List Ad,wfL m l→nzL l→wfL m (ptL 0 inn b l)
 | [],_,_=>trivial
 | x::r,h,hz=>by
  rw[ptL,Zms];exact⟨ZD4 hi x h.1 hz.1,ZkI hi r h.2 hz.2⟩
end
mutual
theorem ZD5 {m b:Int} {inn:List Ad} (hi:nzL inn) (hb:0≤b):∀ x:Ad,wfF m x→nzF x→(∀ n∈kdF x,0≤n)→nzL (ptF 0 inn b x)
 | .mk o n l,h,hz,hk=>by
  rw[wfF] at h;rw[nzF] at hz;rw[ptF];rcases h with ⟨rfl,h1,h2,hl⟩|⟨rfl,rfl⟩|⟨rfl,h1,rfl⟩|⟨rfl,hl⟩
  ·rw[Ha (fun q=>absurd q.1 (by decide)),Ha (fun q=>absurd q.1 (by decide))];rw[kdF,Hb rfl] at hk;exact⟨⟨fun q=>absurd q.1 (by decide),ZnN hi hb l hl hz.2 hk⟩,trivial⟩
  ·by_cases h0:n=0
   ·rw[Hb ⟨rfl,h0⟩];exact hi
   ·rw[Ha (fun q=>h0 q.2),Ha (fun q=>absurd q.1 (by decide))];exact⟨⟨fun q=>absurd q.1 (by decide),trivial⟩,trivial⟩
  ·rw[Ha (fun q=>absurd q.1 (by decide)),Ha (fun q=>absurd q.1 (by decide))];exact⟨⟨fun q=>absurd q.1 (by decide),trivial⟩,trivial⟩
  ·have h0:¬ n=0:=fun q=>hz.1 ⟨rfl,q⟩
   rw[kdF,Ha (by decide),Ha (by decide),Hb rfl] at hk;have hn:=hk n (by simp);rw[Ha (fun q=>absurd q.1 (by decide)),Ha (fun q=>h0 q.2)];refine⟨⟨fun q=>?_,ZnN hi hb l hl hz.2 fun x hx=>hk x (by simp[hx])⟩,trivial⟩;have:=q.2;rw[ZkF (.inr rfl),Hb (by omega)] at this;omega
theorem ZnN {m b:Int} {inn:List Ad} (hi:nzL inn) (hb:0≤b):∀ l:List Ad,wfL m l→nzL l→(∀ n∈kdL l,0≤n)→nzL (ptL 0 inn b l)
 | [],_,_,_=>trivial
 | x::r,h,hz,hk=>by
  rw[ptL,Zmt];rw[kdL] at hk;exact⟨ZD5 hi hb x h.1 hz.1 fun n hn=>hk n (by simp[hn]),ZnN hi hb r h.2 hz.2 fun n hn=>hk n (by simp[hn])⟩
end
mutual
theorem ZD6 {m b:Int} {inn:List Ad}:∀ x:Ad,wfF m x→nzF x→Aj (ptF 0 inn b x)≤fsz x+(kdF x).count 0 * Aj inn
 | .mk o n l,h,hz=>by
  rw[wfF] at h;rw[nzF] at hz;rw[ptF];rcases h with ⟨rfl,h1,h2,hl⟩|⟨rfl,rfl⟩|⟨rfl,h1,rfl⟩|⟨rfl,hl⟩
  ·rw[Ha (fun q=>absurd q.1 (by decide)),Ha (fun q=>absurd q.1 (by decide)),kdF,Hb rfl];have:=ZiJ (m:=m) (b:=b) (inn:=inn) l hl hz.2;simp only[Aj,fsz];omega
  ·rw[ZkG];by_cases h0:n=0
   ·rw[Hb ⟨rfl,h0⟩,h0];simp
   ·rw[Ha (fun q=>h0 q.2),Ha (fun q=>absurd q.1 (by decide))];simp[Aj,fsz,ptL]
  ·rw[Ha (fun q=>absurd q.1 (by decide)),Ha (fun q=>absurd q.1 (by decide))];simp[Aj,fsz,ptL]
  ·have h0:¬ n=0:=fun q=>hz.1 ⟨rfl,q⟩
   rw[Ha (fun q=>absurd q.1 (by decide)),Ha (fun q=>h0 q.2),kdF,Ha (by decide),Ha (by decide),Hb rfl,List.count_cons_of_ne h0];have:=ZiJ (m:=m) (b:=b) (inn:=inn) l hl hz.2;simp only[Aj,fsz];omega
theorem ZiJ {m b:Int} {inn:List Ad}:∀ l:List Ad,wfL m l→nzL l→Aj (ptL 0 inn b l)≤Aj l+(kdL l).count 0 * Aj inn
 | [],_,_=>by simp[ptL,Aj]
 | x::r,h,hz=>by
  have h1:=ZD6 (b:=b) (inn:=inn) x h.1 hz.1;have h2:=ZiJ (b:=b) (inn:=inn) r h.2 hz.2;rw[ptL,Zbw,kdL,List.count_append,Gb,Aj];omega
end
theorem Zxq (l:List Int):l.count 0≤l.length:=List.count_le_length
mutual
theorem ZCA:∀ x:Ad,(kdF x).length≤fsz x
 | .mk o n l=>by
  have:=ZrG l;rw[kdF,fsz];split
  ·omega
  ·split
   ·rw[HS];omega
   ·split
    ·simp only[Hl];omega
    ·simp
theorem ZrG:∀ l:List Ad,(kdL l).length≤Aj l
 | []=>Hg _
 | x::r=>by
  have h1:=ZCA x;have h2:=ZrG r;rw[kdL,Hk,Aj];omega
end
theorem ZpD {m b:Int} {inn:List Ad}:∀ l:List Ad,wfL m l→nzL l→Aj l+Aj l * Aj inn≤100000000→PtL 0 inn b l:=by
 have key:∀ (N:Nat) (l:List Ad),Aj l < N→wfL m l→nzL l→Aj l+Aj l * Aj inn≤100000000→PtL 0 inn b l:=by
  intro N
  induction N with
  | zero=>intro l h;omega
  | succ N ih =>
   intro l hN h hz hs;cases l with
   | nil=>trivial
   | cons x r =>
    have hx:=Zre x;rw[Aj] at hN;have hsx:Aj x.l+Aj x.l * Aj inn≤100000000:=by
     have h1:Aj x.l≤Aj (x::r):=(by rw[Aj,Zhw];omega);have h2:Aj x.l * Aj inn≤Aj (x::r) * Aj inn:=Gi _ h1;omega
    have hsr:Aj r+Aj r * Aj inn≤100000000:=by
     have h1:Aj r≤Aj (x::r):=(by rw[Aj];omega);have h2:Aj r * Aj inn≤Aj (x::r) * Aj inn:=Gi _ h1;omega
    rw[PtL];refine⟨?_,ih r (by omega) h.2 hz.2 hsr,?_⟩
    ·cases x with
     | mk o n l =>
      have hz1:=hz.1;have hw:=h.1;rw[nzF] at hz1;rw[wfF] at hw;rw[PtF];refine⟨?_,fun q=>absurd q hz1.1⟩;rcases hw with ⟨_,_,_,hl⟩|⟨_,rfl⟩|⟨_,_,rfl⟩|⟨_,hl⟩
      ·exact ih l (by rw[fsz] at hN;omega) hl hz1.2 hsx
      ·trivial
      ·trivial
      ·exact ih l (by rw[fsz] at hN;omega) hl hz1.2 hsx
    ·have h1:=ZiJ (m:=m) (b:=b) (inn:=inn) (x::r) h hz;have h2:=Gi (Aj inn) (Hq (Zxq (kdL (x::r))) (ZrG (x::r)));omega
 exact fun l=>key _ l (Gk _)
mutual
theorem ZEU {m B:Int} (hB:0≤B) (hm:m≤B):∀ x:Ad,wfF m x→(∀ n∈kdF x, -B≤n∧n≤B)→NbF B x
 | .mk o n l,h,hk=>by
  rw[wfF] at h;rcases h with ⟨rfl,h1,h2,hl⟩|⟨rfl,rfl⟩|⟨rfl,h1,rfl⟩|⟨rfl,hl⟩
  ·rw[kdF,Hb rfl] at hk;exact⟨by omega,Zs9 hB hm l hl hk⟩
  ·rw[kdF,Ha (by decide),Hb rfl] at hk;exact⟨hk n (by simp),trivial⟩
  ·exact⟨by omega,trivial⟩
  ·rw[kdF,Ha (by decide),Ha (by decide),Hb rfl] at hk;exact⟨hk n (by simp),Zs9 hB hm l hl fun x hx=>hk x (by simp[hx])⟩
theorem Zs9 {m B:Int} (hB:0≤B) (hm:m≤B):∀ l:List Ad,wfL m l→(∀ n∈kdL l, -B≤n∧n≤B)→NbL B l
 | [],_,_=>trivial
 | x::r,h,hk=>by
  rw[kdL] at hk;exact⟨ZEU hB hm x h.1 fun n hn=>hk n (by simp[hn]),Zs9 hB hm r h.2 fun n hn=>hk n (by simp[hn])⟩
end
def upTo (k:Nat):List Int:=(List.range k).map fun (i:Nat)=>(i:Int)
theorem upTo_mem {k:Nat} {n:Int}:n∈upTo k↔0≤n∧n < k:=by
 unfold upTo;simp only[Gv,Jc];constructor
 ·rintro⟨i,hi,rfl⟩;omega
 ·rintro⟨h1,h2⟩;exact⟨n.toNat,by omega,by omega⟩
theorem ZpE (k:Nat):upTo (k+1)=0::(upTo k).map (·+1):=by
 unfold upTo;rw[List.range_succ_eq_map,Hm,H8,H8];rfl
theorem ZAn (a c:Nat):upTo (a+c)=upTo a++(upTo c).map (·+(a:Int)):=by
 unfold upTo;rw[List.range_add,Ho,H8,H8];congr 1;refine GL fun i _=>?_
 simp only[Function.comp];omega
theorem ZpF (k:Nat):upTo (k+1)=upTo k++[(k:Int)]:=by
 unfold upTo;rw[Gn,Ho];rfl
theorem Zta {l inn:List Int} {k ki:Nat} (hl:l.Perm (upTo (k+1))) (hi:inn.Perm (upTo ki)):(l.flatMap (putN ((ki:Int) - 1) inn)).Perm (upTo (ki+k)):=by
 have h1:(l.flatMap (putN ((ki:Int) - 1) inn)).Perm ((upTo (k+1)).flatMap (putN ((ki:Int) - 1) inn)):=hl.flatMap_right _;refine h1.trans ?_;rw[ZpE,HP,ZAn];have e0:putN ((ki:Int) - 1) inn 0=inn:=by unfold putN;rw[Hb rfl]
 rw[e0];refine hi.append ?_;have e1:((upTo k).map (·+1)).flatMap (putN ((ki:Int) - 1) inn)=(upTo k).map (·+(ki:Int)):=by
  rw[List.flatMap_map];have:∀ n∈upTo k,putN ((ki:Int) - 1) inn (n+1)=[n+(ki:Int)]:=fun n hn=>by
   have:=(upTo_mem.1 hn).1;unfold putN;rw[Ha (by omega),ZkF (.inl rfl),Hb (by omega)];congr 1;omega
  generalize upTo k=u at *
  induction u with
  | nil=>rfl
  | cons a u ih=>rw[HP,this a (by simp),ih fun n hn=>this n (by simp[hn])];rfl
 rw[e1]
theorem Zmu (k:Nat) (l:List Int) (h:l.Perm (upTo k)):l.count 0≤1:=by
 rw[h.count_eq];cases k with
 | zero=>simp[upTo]
 | succ k =>
  rw[ZpE,List.count_cons_self];have:((upTo k).map (·+1)).count 0=0:=by
   rw[List.count_eq_zero];intro hm;obtain⟨n,hn,e⟩:=List.mem_map.1 hm;have:=(upTo_mem.1 hn).1;omega
  omega
end Go.Proofs.YtbpmepgnjanhnaaGreat
