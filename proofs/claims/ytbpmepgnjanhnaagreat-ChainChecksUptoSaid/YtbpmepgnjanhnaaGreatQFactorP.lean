import Derived.Test.YtbpmepgnjanhnaaGreatP1
set_option linter.unusedVariables false
set_option linter.unusedSimpArgs false
set_option linter.unusedSectionVars false
namespace Go.Proofs.YtbpmepgnjanhnaaGreat
open Go.RowKit
structure Work where
 right:List Int
 l:List Frag
instance:Inhabited Work:=⟨⟨[],[]⟩⟩
end Go.Proofs.YtbpmepgnjanhnaaGreat
namespace Go.Proofs.YtbpmepgnjanhnaaGreat
open Go.RowKit
theorem Zhq:∀ (k:Nat),fszs (ZbD k)=k
 | 0=>rfl
 | k+1=>by rw[show ZbD (k+1)=ZbD k++[.mk 2 k []] by simp[ZbD,List.range_succ],ZbP,Zhq k];simp[fszs,fsz]
section
variable {g:Gram} {all:List (List Work)} {v:Nat}
end
end Go.Proofs.YtbpmepgnjanhnaaGreat
namespace Go.Proofs.YtbpmepgnjanhnaaGreat
open Go.RowKit
def Zgp (g:Gram) (r:Int):Rule:=g.rules.getD r.toNat ⟨0,[]⟩
def ZfX (g:Gram) (v:Nat):List Work:=(by_ g v).map fun r=>⟨(Zgp g r).right,Zdd r (kids (Zgp g r).right).length⟩
def ZbI (g:Gram):List (List Work):=(List.range g.vars.toNat).map (ZfX g)
theorem Zt1 {v x:Int}:∀ {rs:List Rule} {i:Nat},x∈byR rs v i→∃ j,∃ h:j < rs.length,x=((i+j:Nat):Int)∧rs[j].left=v
 | [],i,h=>by simp[byR] at h
 | r::rs,i,h=>by
  rw[byR] at h
  have next:x∈byR rs v (i+1)→∃ j,∃ h:j < (r::rs).length,x=((i+j:Nat):Int)∧(r::rs)[j].left=v:=fun h=>by
   obtain⟨j,h1,h2,h3⟩:=Zt1 h
   exact⟨j+1,by simp;omega,by rw[h2];congr 1;omega,by simpa using h3⟩
  split at h
  ·rename_i e
   rcases List.mem_cons.1 h with rfl|h
   ·exact⟨0,by simp,by simp,e⟩
   ·exact next h
  ·exact next h
theorem Zt2 {g:Gram} {v:Nat} {r:Int} (h:r∈by_ g v):∃ j,∃ hj:j < g.rules.length,r=(j:Int)∧g.rules[j].left=(v:Int)∧Zgp g r=g.rules[j]:=by
 obtain⟨j,h1,h2,h3⟩:=Zt1 h
 rw[Nat.zero_add] at h2
 refine⟨j,h1,h2,h3,?_⟩
 rw[Zgp,h2]
 simp only[Int.toNat_natCast]
 rw[List.getD_eq_getElem?_getD,List.getElem?_eq_getElem h1];rfl
theorem ZdH (g:Gram):(ZbI g).length=g.vars.toNat:=by simp[ZbI]
theorem ZiU {g:Gram} {v:Nat} (h:v < g.vars.toNat):(ZbI g).getD v []=ZfX g v:=by
 rw[List.getD_eq_getElem?_getD,ZbI,List.getElem?_map,List.getElem?_range h];rfl
theorem Zpo {g:Gram} {v:Nat} (h:¬ v < g.vars.toNat):(ZbI g).getD v []=[]:=by
 rw[List.getD_eq_getElem?_getD,List.getElem?_eq_none (by rw[ZdH];omega)];rfl
def Zb1:List (List Work)→Nat→List Rule
 | [],_=>[]
 | l::r,v=>l.map (fun w=>(⟨(v:Int),w.right⟩:Rule))++Zb1 r (v+1)
def Zcr:List (List Work)→List (List Frag)
 | []=>[]
 | l::r=>l.map (·.l)++Zcr r
theorem Zhr:∀ {all:List (List Work)} {v:Nat} {r:Rule},r∈Zb1 all v→(v:Int)≤r.left∧r.left < ((v+all.length:Nat):Int)∧∃ w∈all.getD (r.left.toNat - v) [],r.right=w.right
 | [],v,r,h=>by simp[Zb1] at h
 | l::a,v,r,h=>by
  rw[Zb1] at h
  rcases List.mem_append.1 h with h|h
  ·obtain⟨w,hw,rfl⟩:=List.mem_map.1 h
   dsimp only
   refine⟨Int.le_refl _,by simp;omega,w,?_,rfl⟩
   simpa using hw
  ·obtain⟨h1,h2,w,h3,h4⟩:=Zhr h
   refine⟨by omega,by simp only[List.length_cons];omega,w,?_,h4⟩
   rw[show r.left.toNat - v=(r.left.toNat - (v+1))+1 by omega]
   simpa using h3
section
variable {g:Gram} {z:List (List Work)} {x:List Rule×List (List Frag)}
end
end Go.Proofs.YtbpmepgnjanhnaaGreat
namespace Go.Proofs.YtbpmepgnjanhnaaGreat
open Go.RowKit
def mvN (o n over by_:Int):Int:=if (o=2∨o=4)∧over < n then n+by_ else n
mutual
def movF (over by_:Int):Frag→Frag
 | .mk o n l=>.mk o (mvN o n over by_) (movL over by_ l)
def movL (over by_:Int):List Frag→List Frag
 | []=>[]
 | x::r=>movF over by_ x::movL over by_ r
end
mutual
def gpF (w:List Frag):Frag→List Frag
 | .mk o n l=>if o=3 then w else [.mk o n (gpL w l)]
def gpL (w:List Frag):List Frag→List Frag
 | []=>[]
 | x::r=>gpF w x++gpL w r
end
mutual
def ptF (k:Int) (inn:List Frag) (by_:Int):Frag→List Frag
 | .mk o n l=>if o=2∧n=k then inn else if o=4∧n=k then gpL (ptL k inn by_ l) inn else [.mk o (mvN o n k by_) (ptL k inn by_ l)]
def ptL (k:Int) (inn:List Frag) (by_:Int):List Frag→List Frag
 | []=>[]
 | x::r=>ptF k inn by_ x++ptL k inn by_ r
end
def Zhs (l:List Frag) (k:Int) (inn:List Frag) (n:Int):List Frag:=ptL k (movL (-1) k inn) (n - 1) l
theorem Zuw (o b:Int) (x:Frag):movF o b x=.mk x.op (mvN x.op x.n o b) (movL o b x.l):=by cases x;rw[movF];rfl
theorem ZvA (w:List Frag) (x:Frag):gpF w x=if x.op=3 then w else [.mk x.op x.n (gpL w x.l)]:=by cases x;rw[gpF];rfl
theorem ZvB (k:Int) (inn:List Frag) (b:Int) (x:Frag):ptF k inn b x=if x.op=2∧x.n=k then inn else if x.op=4∧x.n=k then gpL (ptL k inn b x.l) inn else [.mk x.op (mvN x.op x.n k b) (ptL k inn b x.l)]:=by cases x;rw[ptF];rfl
theorem Zht (o b:Int):∀ (x y:List Frag),movL o b (x++y)=movL o b x++movL o b y
 | [],y=>rfl
 | a::x,y=>by simp only[List.cons_append,movL,Zht o b x y]
theorem ZiV (w:List Frag):∀ (x y:List Frag),gpL w (x++y)=gpL w x++gpL w y
 | [],y=>rfl
 | a::x,y=>by simp only[List.cons_append,gpL,ZiV w x y,List.append_assoc]
theorem ZfY (k:Int) (inn:List Frag) (b:Int):∀ (x y:List Frag),ptL k inn b (x++y)=ptL k inn b x++ptL k inn b y
 | [],y=>rfl
 | a::x,y=>by simp only[List.cons_append,ptL,ZfY k inn b x y,List.append_assoc]
theorem ZqG {o b:Int} {l:List Frag} {i:Nat} (h:i < l.length):movL o b (l.take (i+1))=movL o b (l.take i)++[movF o b l[i]]:=by
 rw[List.take_succ_eq_append_getElem h,Zht];simp[movL]
theorem Zs3 {w:List Frag} {l:List Frag} {i:Nat} (h:i < l.length):gpL w (l.take (i+1))=gpL w (l.take i)++gpF w l[i]:=by
 rw[List.take_succ_eq_append_getElem h,ZiV];simp[gpL]
theorem Zs4 {k:Int} {inn:List Frag} {b:Int} {l:List Frag} {i:Nat} (h:i < l.length):ptL k inn b (l.take (i+1))=ptL k inn b (l.take i)++ptF k inn b l[i]:=by
 rw[List.take_succ_eq_append_getElem h,ZfY];simp[ptL]
theorem Zn7 (o b:Int):∀ l:List Frag,(movL o b l).length=l.length
 | []=>rfl
 | x::l=>by simp[movL,Zn7 o b l]
mutual
theorem ZqH (o b:Int):∀ x:Frag,fsz (movF o b x)=fsz x
 | .mk _ _ l=>by rw[movF,fsz,fsz,Zhu o b l]
theorem Zhu (o b:Int):∀ l:List Frag,fszs (movL o b l)=fszs l
 | []=>rfl
 | x::l=>by rw[movL,fszs,fszs,ZqH o b x,Zhu o b l]
end
mutual
theorem ZqI (o:Int):∀ x:Frag,movF o 0 x=x
 | .mk a n l=>by
  rw[movF,ZcX o l,mvN]
  split <;> simp
theorem ZcX (o:Int):∀ l:List Frag,movL o 0 l=l
 | []=>rfl
 | x::l=>by rw[movL,ZqI o x,ZcX o l]
end
mutual
theorem Zs5 (w:List Frag):∀ x:Frag,fszs (gpF w x)≤fsz x * (1+fszs w)
 | .mk o n l=>by
  have h:=ZjR w l
  rw[gpF,fsz,Nat.add_mul]
  split
  ·omega
  ·simp only[fszs,fsz];omega
theorem ZjR (w:List Frag):∀ l:List Frag,fszs (gpL w l)≤fszs l * (1+fszs w)
 | []=>by simp[gpL,fszs]
 | x::l=>by
  have h1:=Zs5 w x
  have h2:=ZjR w l
  rw[gpL,ZbP,fszs,Nat.add_mul];omega
end
mutual
def NbF (B:Int):Frag→Prop
 | .mk _ n l=>(-B≤n∧n≤B)∧NbL B l
def NbL (B:Int):List Frag→Prop
 | []=>True
 | x::r=>NbF B x∧NbL B r
end
theorem Zt3 {B:Int} {x:Frag} (h:NbF B x):(-B≤x.n∧x.n≤B)∧NbL B x.l:=by cases x;exact h
theorem ZmG {B:Int} {x:Frag}:∀ {l:List Frag},NbL B l→x∈l→NbF B x
 | y::l,h,hm=>by
  rcases List.mem_cons.1 hm with rfl|hm
  ·exact h.1
  ·exact ZmG h.2 hm
mutual
def PtF (k:Int) (inn:List Frag) (b:Int):Frag→Prop
 | .mk o n l=>PtL k inn b l∧(o=4∧n=k→fszs inn * (1+fszs (ptL k inn b l))≤100000000)
def PtL (k:Int) (inn:List Frag) (b:Int):List Frag→Prop
 | []=>True
 | x::r=>PtF k inn b x∧PtL k inn b r∧fszs (ptL k inn b (x::r))≤100000000
end
theorem ZvC {k:Int} {inn:List Frag} {b:Int} {x:Frag} (h:PtF k inn b x):PtL k inn b x.l∧(x.op=4∧x.n=k→fszs inn * (1+fszs (ptL k inn b x.l))≤100000000):=by
 cases x;rw[PtF] at h;exact h
theorem ZqJ {k:Int} {inn:List Frag} {b:Int} {x:Frag}:∀ {l:List Frag},PtL k inn b l→x∈l→PtF k inn b x
 | y::l,h,hm=>by
  rw[PtL] at h
  rcases List.mem_cons.1 hm with rfl|hm
  ·exact h.1
  ·exact ZqJ h.2.1 hm
theorem Zn8 {k:Int} {inn:List Frag} {b:Int}:∀ {l:List Frag},PtL k inn b l→fszs (ptL k inn b l)≤100000000
 | [],_=>by simp[ptL,fszs]
 | x::l,h=>by rw[PtL] at h;exact h.2.2
end Go.Proofs.YtbpmepgnjanhnaaGreat
namespace Go.Proofs.YtbpmepgnjanhnaaGreat
open Go.RowKit
def hdI (l:List Int):Int:=l.headD 0
def mixW (x y:Work):Work:=⟨y.right++x.right.tail,Zhs x.l 0 y.l (kids y.right).length⟩
def Zb9 (x:Work):List Work→List Work→Option (List Work)
 | [],out=>some out
 | y::ys,out=>if 10 < (mixW x y).right.length∨160 < (out++[mixW x y]).length then none else Zb9 x ys (out++[mixW x y])
def Zb2 (A:List Work) (u:Int):List Work→List Work→Option (List Work)
 | [],out=>if 160 < out.length then none else some out
 | x::xs,out=>if hdI x.right≠u then Zb2 A u xs (out++[x]) else
   match Zb9 x A out with
   | none=>none
   | some out'=>Zb2 A u xs out'
def Zds (all:List (List Work)):Nat→Nat→List Work→Option (List Work)
 | _,0,l=>some l
 | u,n+1,l=>match Zb2 (all.getD u []) u l [] with
  | none=>none
  | some l'=>Zds all (u+1) n l'
def gapF:Frag:=.mk 3 0 []
def ZbR (v:Int) (x:Work):List Work:=[x,⟨x.right++[v],[.mk 4 (kids x.right).length x.l]⟩]
def ownW (v:Int) (l:List Work):List Work:=(l.filter fun x=>decide (hdI x.right=v)).map fun x=>⟨x.right.tail,Zhs x.l 0 [gapF] 0⟩
def Zde (v:Int) (l:List Work):List Work:=l.filter fun x=>!decide (hdI x.right=v)
def Za8 (all:List (List Work)) (l:List Work) (v:Nat):List (List Work) :=
 if (ownW v l).length=0 then all.set v l
 else (all++[(ownW v l).flatMap (ZbR all.length)]).set v ((Zde v l).flatMap (ZbR all.length))
def ZgL (all:List (List Work)):Bool:=all.all (fun l=>l.all fun x=>decide (x.right.length≤10) && decide (fszs x.l≤60)) && decide ((all.map List.length).sum≤160) && decide (all.length≤64)
def ZbS:Nat→Nat→List (List Work)→Except Nat (List (List Work))
 | _,0,all=>.ok all
 | v,n+1,all=>match Zds all 0 v (all.getD v []) with
  | none=>.error v
  | some l=>if ZgL (Za8 all l v)=true then ZbS (v+1) n (Za8 all l v) else .error v
end Go.Proofs.YtbpmepgnjanhnaaGreat
namespace Go.Proofs.YtbpmepgnjanhnaaGreat
open Go.RowKit
mutual
def kdF:Frag→List Int
 | .mk o n l=>if o=1 then kdL l else if o=2 then [n] else if o=4 then n::kdL l else []
def kdL:List Frag→List Int
 | []=>[]
 | x::r=>kdF x++kdL r
end
mutual
def wfF (m:Int):Frag→Prop
 | .mk o n l=>(o=1∧0≤n∧n < m∧wfL m l)∨(o=2∧l=[])∨(o=3∧n=0∧l=[])∨(o=4∧wfL m l)
def wfL (m:Int):List Frag→Prop
 | []=>True
 | x::r=>wfF m x∧wfL m r
end
mutual
def nzF:Frag→Prop
 | .mk o n l=>¬ (o=4∧n=0)∧nzL l
def nzL:List Frag→Prop
 | []=>True
 | x::r=>nzF x∧nzL r
end
theorem ZiW:∀ a b:List Frag,kdL (a++b)=kdL a++kdL b
 | [],b=>rfl
 | x::a,b=>by rw[List.cons_append,kdL,kdL,ZiW a b,List.append_assoc]
theorem ZiX {m:Int}:∀ {a b:List Frag},wfL m (a++b)↔wfL m a∧wfL m b
 | [],b=>by simp[wfL]
 | x::a,b=>by rw[List.cons_append,wfL,wfL,ZiX,and_assoc]
theorem ZiY:∀ {a b:List Frag},nzL (a++b)↔nzL a∧nzL b
 | [],b=>by simp[nzL]
 | x::a,b=>by rw[List.cons_append,nzL,nzL,ZiY,and_assoc]
theorem ZqK (k:Nat):kdL (ZbD k)=(List.range k).map fun (i:Nat)=>(i:Int):=by
 unfold ZbD
 have:∀ l:List Nat,kdL (l.map fun (i:Nat)=>Frag.mk 2 (i:Int) [])=l.map fun (i:Nat)=>(i:Int):=by
  intro l
  induction l with
  | nil=>rfl
  | cons i l ih=>rw[List.map_cons,kdL,ih,kdF];rfl
 exact this _
theorem ZqL (m:Int) (k:Nat):wfL m (ZbD k):=by
 unfold ZbD
 have:∀ l:List Nat,wfL m (l.map fun (i:Nat)=>Frag.mk 2 (i:Int) []):=by
  intro l
  induction l with
  | nil=>trivial
  | cons i l ih=>exact⟨.inr (.inl ⟨rfl,rfl⟩),ih⟩
 exact this _
theorem ZqM (k:Nat):nzL (ZbD k):=by
 unfold ZbD
 have:∀ l:List Nat,nzL (l.map fun (i:Nat)=>Frag.mk 2 (i:Int) []):=by
  intro l
  induction l with
  | nil=>trivial
  | cons i l ih=>exact⟨⟨fun h=>absurd h.1 (by decide),trivial⟩,ih⟩
 exact this _
def putN (b:Int) (inn:List Int) (n:Int):List Int:=if n=0 then inn else [mvN 2 n 0 b]
theorem Zn9 {o n b:Int} (ho:o=2∨o=4):mvN o n 0 b=if 0 < n then n+b else n:=by
 unfold mvN
 by_cases h:0 < n
 ·rw[if_pos ⟨ho,h⟩,if_pos h]
 ·rw[if_neg (fun q=>h q.2),if_neg h]
theorem Zt4 (n:Int) (l:List Frag):kdF (.mk 2 n l)=[n]:=by rw[kdF,if_neg (by decide),if_pos rfl]
mutual
theorem ZvD {m b:Int} {inn:List Frag}:∀ x:Frag,wfF m x→nzF x→kdL (ptF 0 inn b x)=(kdF x).flatMap (putN b (kdL inn))
 | .mk o n l,h,hz=>by
  rw[wfF] at h
  rw[nzF] at hz
  rw[ptF]
  rcases h with ⟨rfl,_,_,hl⟩|⟨rfl,rfl⟩|⟨rfl,_,rfl⟩|⟨rfl,hl⟩
  ·rw[if_neg (fun q=>absurd q.1 (by decide)),if_neg (fun q=>absurd q.1 (by decide)),kdL,kdF,if_pos rfl,kdL,List.append_nil,Zhv l hl hz.2,kdF,if_pos rfl]
  ·rw[Zt4,List.flatMap_cons,List.flatMap_nil,List.append_nil]
   unfold putN
   by_cases h0:n=0
   ·rw[if_pos ⟨rfl,h0⟩,if_pos h0]
   ·rw[if_neg (fun q=>h0 q.2),if_neg (fun q=>absurd q.1 (by decide)),if_neg h0,kdL,kdF,if_neg (by decide),if_pos rfl]
    rfl
  ·rw[if_neg (fun q=>absurd q.1 (by decide)),if_neg (fun q=>absurd q.1 (by decide)),kdL,kdF,kdF,if_neg (by decide),if_neg (by decide),if_neg (by decide)]
   rfl
  ·have h0:¬ n=0:=fun q=>hz.1 ⟨rfl,q⟩
   rw[if_neg (fun q=>absurd q.1 (by decide)),if_neg (fun q=>h0 q.2),kdL,kdF,if_neg (by decide),if_neg (by decide),if_pos rfl,kdL,List.append_nil,Zhv l hl hz.2,kdF,if_neg (by decide),if_neg (by decide),if_pos rfl,List.flatMap_cons]
   unfold putN
   rw[if_neg h0,Zn9 (.inr rfl),Zn9 (.inl rfl)]
   rfl
theorem Zhv {m b:Int} {inn:List Frag}:∀ l:List Frag,wfL m l→nzL l→kdL (ptL 0 inn b l)=(kdL l).flatMap (putN b (kdL inn))
 | [],_,_=>rfl
 | x::r,h,hz=>by
  rw[ptL,ZiW,ZvD x h.1 hz.1,Zhv r h.2 hz.2,kdL,List.flatMap_append]
end
mutual
theorem ZvE {m b:Int} {inn:List Frag} (hi:wfL m inn):∀ x:Frag,wfF m x→nzF x→wfL m (ptF 0 inn b x)
 | .mk o n l,h,hz=>by
  rw[wfF] at h
  rw[nzF] at hz
  rw[ptF]
  rcases h with ⟨rfl,h1,h2,hl⟩|⟨rfl,rfl⟩|⟨rfl,h1,rfl⟩|⟨rfl,hl⟩
  ·rw[if_neg (fun q=>absurd q.1 (by decide)),if_neg (fun q=>absurd q.1 (by decide))]
   refine⟨.inl ⟨rfl,?_,?_,Zhw hi l hl hz.2⟩,trivial⟩
   ·unfold mvN;rw[if_neg (fun q=>by rcases q.1 with q|q <;> exact absurd q (by decide))];exact h1
   ·unfold mvN;rw[if_neg (fun q=>by rcases q.1 with q|q <;> exact absurd q (by decide))];exact h2
  ·by_cases h0:n=0
   ·rw[if_pos ⟨rfl,h0⟩];exact hi
   ·rw[if_neg (fun q=>h0 q.2),if_neg (fun q=>absurd q.1 (by decide))]
    exact⟨.inr (.inl ⟨rfl,rfl⟩),trivial⟩
  ·rw[if_neg (fun q=>absurd q.1 (by decide)),if_neg (fun q=>absurd q.1 (by decide))]
   refine⟨.inr (.inr (.inl ⟨rfl,?_,rfl⟩)),trivial⟩
   unfold mvN;rw[if_neg (fun q=>by rcases q.1 with q|q <;> exact absurd q (by decide))];exact h1
  ·have h0:¬ n=0:=fun q=>hz.1 ⟨rfl,q⟩
   rw[if_neg (fun q=>absurd q.1 (by decide)),if_neg (fun q=>h0 q.2)]
   exact⟨.inr (.inr (.inr ⟨rfl,Zhw hi l hl hz.2⟩)),trivial⟩
theorem Zhw {m b:Int} {inn:List Frag} (hi:wfL m inn):∀ l:List Frag,wfL m l→nzL l→wfL m (ptL 0 inn b l)
 | [],_,_=>trivial
 | x::r,h,hz=>by
  rw[ptL,ZiX]
  exact⟨ZvE hi x h.1 hz.1,Zhw hi r h.2 hz.2⟩
end
mutual
theorem ZvF {m b:Int} {inn:List Frag} (hi:nzL inn) (hb:0≤b):∀ x:Frag,wfF m x→nzF x→(∀ n∈kdF x,0≤n)→nzL (ptF 0 inn b x)
 | .mk o n l,h,hz,hk=>by
  rw[wfF] at h
  rw[nzF] at hz
  rw[ptF]
  rcases h with ⟨rfl,h1,h2,hl⟩|⟨rfl,rfl⟩|⟨rfl,h1,rfl⟩|⟨rfl,hl⟩
  ·rw[if_neg (fun q=>absurd q.1 (by decide)),if_neg (fun q=>absurd q.1 (by decide))]
   rw[kdF,if_pos rfl] at hk
   exact⟨⟨fun q=>absurd q.1 (by decide),ZjS hi hb l hl hz.2 hk⟩,trivial⟩
  ·by_cases h0:n=0
   ·rw[if_pos ⟨rfl,h0⟩];exact hi
   ·rw[if_neg (fun q=>h0 q.2),if_neg (fun q=>absurd q.1 (by decide))]
    exact⟨⟨fun q=>absurd q.1 (by decide),trivial⟩,trivial⟩
  ·rw[if_neg (fun q=>absurd q.1 (by decide)),if_neg (fun q=>absurd q.1 (by decide))]
   exact⟨⟨fun q=>absurd q.1 (by decide),trivial⟩,trivial⟩
  ·have h0:¬ n=0:=fun q=>hz.1 ⟨rfl,q⟩
   rw[kdF,if_neg (by decide),if_neg (by decide),if_pos rfl] at hk
   have hn:=hk n (by simp)
   rw[if_neg (fun q=>absurd q.1 (by decide)),if_neg (fun q=>h0 q.2)]
   refine⟨⟨fun q=>?_,ZjS hi hb l hl hz.2 fun x hx=>hk x (by simp[hx])⟩,trivial⟩
   have:=q.2
   rw[Zn9 (.inr rfl),if_pos (by omega)] at this
   omega
theorem ZjS {m b:Int} {inn:List Frag} (hi:nzL inn) (hb:0≤b):∀ l:List Frag,wfL m l→nzL l→(∀ n∈kdL l,0≤n)→nzL (ptL 0 inn b l)
 | [],_,_,_=>trivial
 | x::r,h,hz,hk=>by
  rw[ptL,ZiY]
  rw[kdL] at hk
  exact⟨ZvF hi hb x h.1 hz.1 fun n hn=>hk n (by simp[hn]),ZjS hi hb r h.2 hz.2 fun n hn=>hk n (by simp[hn])⟩
end
mutual
theorem ZvG {m b:Int} {inn:List Frag}:∀ x:Frag,wfF m x→nzF x→fszs (ptF 0 inn b x)≤fsz x+(kdF x).count 0 * fszs inn
 | .mk o n l,h,hz=>by
  rw[wfF] at h
  rw[nzF] at hz
  rw[ptF]
  rcases h with ⟨rfl,h1,h2,hl⟩|⟨rfl,rfl⟩|⟨rfl,h1,rfl⟩|⟨rfl,hl⟩
  ·rw[if_neg (fun q=>absurd q.1 (by decide)),if_neg (fun q=>absurd q.1 (by decide)),kdF,if_pos rfl]
   have:=ZfZ (m:=m) (b:=b) (inn:=inn) l hl hz.2
   simp only[fszs,fsz];omega
  ·rw[Zt4]
   by_cases h0:n=0
   ·rw[if_pos ⟨rfl,h0⟩,h0];simp
   ·rw[if_neg (fun q=>h0 q.2),if_neg (fun q=>absurd q.1 (by decide))]
    simp[fszs,fsz,ptL]
  ·rw[if_neg (fun q=>absurd q.1 (by decide)),if_neg (fun q=>absurd q.1 (by decide))]
   simp[fszs,fsz,ptL]
  ·have h0:¬ n=0:=fun q=>hz.1 ⟨rfl,q⟩
   rw[if_neg (fun q=>absurd q.1 (by decide)),if_neg (fun q=>h0 q.2),kdF,if_neg (by decide),if_neg (by decide),if_pos rfl,List.count_cons_of_ne h0]
   have:=ZfZ (m:=m) (b:=b) (inn:=inn) l hl hz.2
   simp only[fszs,fsz];omega
theorem ZfZ {m b:Int} {inn:List Frag}:∀ l:List Frag,wfL m l→nzL l→fszs (ptL 0 inn b l)≤fszs l+(kdL l).count 0 * fszs inn
 | [],_,_=>by simp[ptL,fszs]
 | x::r,h,hz=>by
  have h1:=ZvG (b:=b) (inn:=inn) x h.1 hz.1
  have h2:=ZfZ (b:=b) (inn:=inn) r h.2 hz.2
  rw[ptL,ZbP,kdL,List.count_append,Nat.add_mul,fszs];omega
end
theorem ZqN (l:List Int):l.count 0≤l.length:=List.count_le_length
mutual
theorem Zux:∀ x:Frag,(kdF x).length≤fsz x
 | .mk o n l=>by
  have:=ZmH l
  rw[kdF,fsz]
  split
  ·omega
  ·split
   ·rw[List.length_singleton];omega
   ·split
    ·simp only[List.length_cons];omega
    ·simp
theorem ZmH:∀ l:List Frag,(kdL l).length≤fszs l
 | []=>Nat.le_refl _
 | x::r=>by
  have h1:=Zux x
  have h2:=ZmH r
  rw[kdL,List.length_append,fszs];omega
end
theorem Zk3 {m b:Int} {inn:List Frag}:∀ l:List Frag,wfL m l→nzL l→fszs l+fszs l * fszs inn≤100000000→PtL 0 inn b l:=by
 have key:∀ (N:Nat) (l:List Frag),fszs l < N→wfL m l→nzL l→fszs l+fszs l * fszs inn≤100000000→PtL 0 inn b l:=by
  intro N
  induction N with
  | zero=>intro l h;omega
  | succ N ih =>
   intro l hN h hz hs
   cases l with
   | nil=>trivial
   | cons x r =>
    have hx:=Zmn x
    rw[fszs] at hN
    have hsx:fszs x.l+fszs x.l * fszs inn≤100000000:=by
     have h1:fszs x.l≤fszs (x::r):=by rw[fszs,ZdV];omega
     have h2:fszs x.l * fszs inn≤fszs (x::r) * fszs inn:=Nat.mul_le_mul_right _ h1
     omega
    have hsr:fszs r+fszs r * fszs inn≤100000000:=by
     have h1:fszs r≤fszs (x::r):=by rw[fszs];omega
     have h2:fszs r * fszs inn≤fszs (x::r) * fszs inn:=Nat.mul_le_mul_right _ h1
     omega
    rw[PtL]
    refine⟨?_,ih r (by omega) h.2 hz.2 hsr,?_⟩
    ·cases x with
     | mk o n l =>
      have hz1:=hz.1
      have hw:=h.1
      rw[nzF] at hz1
      rw[wfF] at hw
      rw[PtF]
      refine⟨?_,fun q=>absurd q hz1.1⟩
      rcases hw with ⟨_,_,_,hl⟩|⟨_,rfl⟩|⟨_,_,rfl⟩|⟨_,hl⟩
      ·exact ih l (by rw[fsz] at hN;omega) hl hz1.2 hsx
      ·trivial
      ·trivial
      ·exact ih l (by rw[fsz] at hN;omega) hl hz1.2 hsx
    ·have h1:=ZfZ (m:=m) (b:=b) (inn:=inn) (x::r) h hz
     have h2:=Nat.mul_le_mul_right (fszs inn) (Nat.le_trans (ZqN (kdL (x::r))) (ZmH (x::r)))
     omega
 exact fun l=>key _ l (Nat.lt_succ_self _)
mutual
theorem Zwm {m B:Int} (hB:0≤B) (hm:m≤B):∀ x:Frag,wfF m x→(∀ n∈kdF x, -B≤n∧n≤B)→NbF B x
 | .mk o n l,h,hk=>by
  rw[wfF] at h
  rcases h with ⟨rfl,h1,h2,hl⟩|⟨rfl,rfl⟩|⟨rfl,h1,rfl⟩|⟨rfl,hl⟩
  ·rw[kdF,if_pos rfl] at hk
   exact⟨by omega,Zoa hB hm l hl hk⟩
  ·rw[kdF,if_neg (by decide),if_pos rfl] at hk
   exact⟨hk n (by simp),trivial⟩
  ·exact⟨by omega,trivial⟩
  ·rw[kdF,if_neg (by decide),if_neg (by decide),if_pos rfl] at hk
   exact⟨hk n (by simp),Zoa hB hm l hl fun x hx=>hk x (by simp[hx])⟩
theorem Zoa {m B:Int} (hB:0≤B) (hm:m≤B):∀ l:List Frag,wfL m l→(∀ n∈kdL l, -B≤n∧n≤B)→NbL B l
 | [],_,_=>trivial
 | x::r,h,hk=>by
  rw[kdL] at hk
  exact⟨Zwm hB hm x h.1 fun n hn=>hk n (by simp[hn]),Zoa hB hm r h.2 fun n hn=>hk n (by simp[hn])⟩
end
def upTo (k:Nat):List Int:=(List.range k).map fun (i:Nat)=>(i:Int)
theorem upTo_mem {k:Nat} {n:Int}:n∈upTo k↔0≤n∧n < k:=by
 unfold upTo
 simp only[List.mem_map,List.mem_range]
 constructor
 ·rintro⟨i,hi,rfl⟩;omega
 ·rintro⟨h1,h2⟩;exact⟨n.toNat,by omega,by omega⟩
theorem Zk4 (k:Nat):upTo (k+1)=0::(upTo k).map (·+1):=by
 unfold upTo
 rw[List.range_succ_eq_map,List.map_cons,List.map_map,List.map_map]
 rfl
theorem Zs6 (a c:Nat):upTo (a+c)=upTo a++(upTo c).map (·+(a:Int)):=by
 unfold upTo
 rw[List.range_add,List.map_append,List.map_map,List.map_map]
 congr 1
 refine List.map_congr_left fun i _=>?_
 simp only[Function.comp];omega
theorem ZqO (k:Nat):upTo (k+1)=upTo k++[(k:Int)]:=by
 unfold upTo;rw[List.range_succ,List.map_append];rfl
theorem Zob {l inn:List Int} {k ki:Nat} (hl:l.Perm (upTo (k+1))) (hi:inn.Perm (upTo ki)):(l.flatMap (putN ((ki:Int) - 1) inn)).Perm (upTo (ki+k)):=by
 have h1:(l.flatMap (putN ((ki:Int) - 1) inn)).Perm ((upTo (k+1)).flatMap (putN ((ki:Int) - 1) inn)):=hl.flatMap_right _
 refine h1.trans ?_
 rw[Zk4,List.flatMap_cons,Zs6]
 have e0:putN ((ki:Int) - 1) inn 0=inn:=by unfold putN;rw[if_pos rfl]
 rw[e0]
 refine hi.append ?_
 have e1:((upTo k).map (·+1)).flatMap (putN ((ki:Int) - 1) inn)=(upTo k).map (·+(ki:Int)):=by
  rw[List.flatMap_map]
  have:∀ n∈upTo k,putN ((ki:Int) - 1) inn (n+1)=[n+(ki:Int)]:=fun n hn=>by
   have:=(upTo_mem.1 hn).1
   unfold putN
   rw[if_neg (by omega),Zn9 (.inl rfl),if_pos (by omega)]
   congr 1;omega
  generalize upTo k=u at *
  induction u with
  | nil=>rfl
  | cons a u ih=>rw[List.flatMap_cons,this a (by simp),ih fun n hn=>this n (by simp[hn])];rfl
 rw[e1]
theorem ZiZ (k:Nat) (l:List Int) (h:l.Perm (upTo k)):l.count 0≤1:=by
 rw[h.count_eq]
 cases k with
 | zero=>simp[upTo]
 | succ k =>
  rw[Zk4,List.count_cons_self]
  have:((upTo k).map (·+1)).count 0=0:=by
   rw[List.count_eq_zero]
   intro hm
   obtain⟨n,hn,e⟩:=List.mem_map.1 hm
   have:=(upTo_mem.1 hn).1
   omega
  omega
end Go.Proofs.YtbpmepgnjanhnaaGreat
