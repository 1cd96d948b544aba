import Derived.Test.YtbpmepgnjanhnaaGreatQBkP
set_option linter.unusedVariables false
set_option linter.unusedSimpArgs false
set_option linter.unusedSectionVars false
namespace Go.Proofs.YtbpmepgnjanhnaaGreat
open Go.RowKit
section
variable {g:Ac}
def RowOf (g:Ac) (ss:List Int) (l:List Tree):Prop:=l.length=(Ab ss).length∧fitss g l (Ab ss)=true
theorem Zes (a b:List Int):Ab (a++b)=Ab a++Ab b:=by simp only[Ab,GS]
theorem ZeH:∀ {l:List Tree} {vs:List Int} {m:List Tree} {us:List Int},l.length=vs.length→(fitss g (l++m) (vs++us)=(fitss g l vs && fitss g m us))
 | [],[],m,us,_=>by simp[fitss]
 | [],_::_,_,_,h=>by simp at h
 | _::_,[],_,_,h=>by simp at h
 | x::l,v::vs,m,us,h=>by
  rw[Hv,Hv,fitss,fitss,ZeH (by simpa using h),Bool.and_assoc]
theorem RowOf.append {a b:List Int} {l m:List Tree} (h1:RowOf g a l) (h2:RowOf g b m):RowOf g (a++b) (l++m):=by
 refine⟨by rw[Zes,Hk,Hk,h1.1,h2.1],?_⟩;rw[Zes,ZeH h1.1,h1.2,h2.2];rfl
theorem RowOf.split {a b:List Int} {l:List Tree} (h:RowOf g (a++b) l):∃ l1 l2,l=l1++l2∧RowOf g a l1∧RowOf g b l2:=by
 obtain⟨h1,h2⟩:=h;rw[Zes] at h1 h2;rw[Hk] at h1;have e:l=l.take (Ab a).length++l.drop (Ab a).length:=(Gh _ _).symm;have hl:(l.take (Ab a).length).length=(Ab a).length:=by rw[Hs];omega
 rw[e,ZeH hl,Hr] at h2;exact⟨_,_,e,⟨hl,h2.1⟩,⟨by rw[HG];omega,h2.2⟩⟩
theorem ZeI:∀ {a b:List Int} {l m:List Tree},l.length=(Ab a).length→wordL g (a++b) (l++m)=wordL g a l++wordL g b m
 | [],b,l,m,h=>by
  obtain rfl:l=[]:=HX h;rw[Zbe];rfl
 | s::a,b,l,m,h=>by
  by_cases hs:s < 0
  ·rw[Zc2 hs] at h;rw[Hv,Zbi hs,Zbi hs,ZeI h];rfl
  ·rw[ZbG hs] at h;cases l with
   | nil=>simp at h
   | cons x l =>
    rw[Hv,Hv,Za2 hs,Za2 hs,ZeI (by simpa using h),HH]
theorem Zfc {v:Int} (h:¬ v < 0) {l:List Tree}:RowOf g [v] l↔∃ x,l=[x]∧fits g x v=true:=by
 unfold RowOf;rw[ZbG h];constructor
 ·rintro⟨h1,h2⟩
  match l,h1,h2 with
  | [x],_,h2=>exact⟨x,rfl,by rw[fitss,Hr] at h2;exact h2.1⟩
  | [],h1,_=>simp[Ab] at h1
  | _::_::_,h1,_=>simp[Ab] at h1
 ·rintro⟨x,rfl,hx⟩;exact⟨by simp[Ab],by rw[fitss,hx,fitss.eq_def];simp[Ab]⟩
theorem Zgz {s:Int} (h:s < 0) {l:List Tree}:RowOf g [s] l↔l=[]:=by
 unfold RowOf;rw[Zc2 h];constructor
 ·rintro⟨h1,_⟩;exact HX h1
 ·rintro rfl;exact⟨rfl,by rw[fitss.eq_def]⟩
theorem ZdX {ls:List (List Tree)} {l:List Tree} (h:l∈ls):cnts l≤cnts ls.flatten:=by
 induction ls with
 | nil=>cases h
 | cons a ls ih =>
  rw[GE,ZaK];rcases List.mem_cons.1 h with rfl|h
  ·omega
  ·have:=ih h;omega
end
section
variable {g:Ac} (σ:Int→List Int)
def catS (ys:List Int):List Int:=ys.flatMap σ
def rowD (g:Ac) (σ:Int→List Int) (u:Int) (l:List Tree):Prop:=RowOf g (σ u) l
def rowW (g:Ac) (σ:Int→List Int) (u:Int) (l:List Tree):List Int:=wordL g (σ u) l
theorem ZoP (hσ:∀ s,s < 0→σ s=[s]):∀ {ys:List Int} {ls:List (List Tree)},DL (rowD g σ) ls (Ab ys)→RowOf g (catS σ ys) ls.flatten∧wordL g (catS σ ys) ls.flatten=catW (rowW g σ) ys ls
 | [],ls,h=>by
  obtain rfl:ls=[]:=HX (ZcS h);exact⟨⟨rfl,by rw[show Ab (catS σ [])=[] from rfl];rfl⟩,by rw[Zgl];exact Zbe _ _⟩
 | s::ys,ls,h=>by
  have e:catS σ (s::ys)=σ s++catS σ ys:=by unfold catS;rw[HP]
  by_cases hs:s < 0
  ·rw[Zc2 hs] at h;obtain⟨h1,h2⟩:=ZoP hσ h;rw[e,hσ s hs,Zfl hs];have:=RowOf.append (g:=g) (a:=[s]) (l:=[]) ((Zgz hs).2 rfl) h1;refine⟨this,?_⟩;rw[Js,Zbi hs,h2]
  ·rw[ZbG hs] at h;cases ls with
   | nil=>exact (h.elim)
   | cons l ls =>
    obtain⟨h0,h⟩:=h;obtain⟨h1,h2⟩:=ZoP hσ h;rw[e,Zez hs,GE];have h0':RowOf g (σ s) l:=h0;refine⟨h0'.append h1,?_⟩;rw[ZeI h0'.1,h2];rfl
theorem ZoQ (hσ:∀ s,s < 0→σ s=[s]):∀ {ys:List Int} {l:List Tree},RowOf g (catS σ ys) l→∃ ls,DL (rowD g σ) ls (Ab ys)∧l=ls.flatten
 | [],l,h=>by
  obtain rfl:l=[]:=HX h.1;exact⟨[],trivial,rfl⟩
 | s::ys,l,h=>by
  have e:catS σ (s::ys)=σ s++catS σ ys:=by unfold catS;rw[HP]
  rw[e] at h;obtain⟨l1,l2,rfl,k1,k2⟩:=h.split;obtain⟨ls,d1,rfl⟩:=ZoQ hσ k2;by_cases hs:s < 0
  ·rw[hσ s hs,Zgz hs] at k1;subst k1;exact⟨ls,by rw[Zc2 hs];exact d1,rfl⟩
  ·exact⟨l1::ls,by rw[ZbG hs];exact⟨k1,d1⟩,rfl⟩
theorem ZoR:∀ {us:List Int} {ls ls':List (List Tree)},DL (rowD g σ) ls us→DL (rowD g σ) ls' us→ls.flatten=ls'.flatten→ls=ls'
 | [],ls,ls',h,h',_=>by
  obtain rfl:ls=[]:=HX (ZcS h);obtain rfl:ls'=[]:=HX (ZcS h');rfl
 | u::us,ls,ls',h,h',e=>by
  match ls,ls',h,h' with
  | l::ls,l'::ls',h,h' =>
   have a1:RowOf g (σ u) l:=h.1;have a2:RowOf g (σ u) l':=h'.1;rw[GE,GE] at e;obtain⟨e1,e2⟩:=List.append_inj e (by rw[a1.1,a2.1]);rw[e1,ZoR h.2 h'.2 e2]
  | [],_,h,_=>exact h.elim
  | _::_,[],_,h'=>exact h'.elim
def TagOk (g:Ac) (σ:Int→List Int) (t:Int) (q:Rule) (F:List Ad):Prop :=
 (t < 0∧∃ (r:Nat) (hr:r < g.Aa.length),t = -1 - (r:Int)∧q.left=g.Aa[r].left∧catS σ q.right=g.Aa[r].right∧F=ZaJ (r:Int) (Ab q.right).length) ∨
 (g.vars≤t∧q.left=t∧catS σ q.right=σ t∧F=ZaF (Ab q.right).length∧∀ y∈Ab q.right,(σ y).length < (σ t).length)
structure Rowed (g h:Ac) (F:List (List Ad)) (σ:Int→List Int) (T:List Int):Prop where
 neg:∀ s,s < 0→σ s=[s]
 old:∀ v,0≤v→v < g.vars→σ v=[v]
 len:T.length=h.Aa.length
 nodup:T.Nodup
 all:∀ r:Nat,r < g.Aa.length→(-1 - (r:Int))∈T
 new:∀ u,g.vars≤u→u < h.vars→u∈T
 ok:∀ (j:Nat) (hj:j < h.Aa.length) (hT:j < T.length),TagOk g σ T[j] h.Aa[j] (F.getD j [])
 pos:∀ u,0≤u→u < h.vars→1≤(σ u).length∧(σ u).length≤10
variable {σ} {h:Ac} {F:List (List Ad)} {T:List Int}
theorem Rowed.leads (hg:g.ok) (hh:h.ok) (R:Rowed g h F σ T):ZfS h F (rowD g σ) (rowW g σ) (fun u l=>100 * cnts l+(σ u).length) where
 sound j hj ls hd:=by
  have hT:j < T.length:=by rw[R.len];exact hj
  obtain⟨k1,k2⟩:=ZoP σ R.neg hd;have hl:=ZcS hd;rcases R.ok j hj hT with ⟨_,r,hr,_,e2,e3,e4⟩|⟨h0,e2,e3,e4,_⟩
  ·rw[e4,←hl,ZhC,←k2,e3];rw[e3] at k1;have h0:=hg.left0 _ (He hr);have h1:=hg.left _ (He hr);obtain⟨f1,f2⟩:=ZfW hr rfl k1.1 k1.2;unfold rowD rowW;rw[e2,R.old _ h0 h1];refine⟨(Zfc (by omega)).2 ⟨_,rfl,f1⟩,?_⟩;rw[Za2 (by omega),Zbe,Ht,f2]
  ·rw[e4,←hl,Zd9,←k2];unfold rowD rowW;rw[e2,←e3];exact⟨k1,rfl⟩
 inj j j' hj hj' ls ls' hl hd hd' he:=by
  have hT:j < T.length:=by rw[R.len];exact hj
  have hT':j' < T.length:=by rw[R.len];exact hj'
  have same:T[j]=T[j']→j=j':=fun q=>(JF R.nodup).1 q
  have l1:=ZcS hd;have l2:=ZcS hd';rcases R.ok j hj hT with ⟨_,r,hr,e1,e2,e3,e4⟩|⟨h0,e2,e3,e4,_⟩
  ·rcases R.ok j' hj' hT' with ⟨_,r',hr',e1',e2',e3',e4'⟩|⟨h0',e2',e3',e4',_⟩
   ·rw[e4,e4',←l1,←l2,ZhC,ZhC] at he;obtain⟨q1,q2⟩:=Tree.mk.inj (HY he).1;have q3:=same (by rw[e1,e1',q1]);subst q3;exact⟨rfl,ZoR σ hd hd' q2⟩
   ·have:=hg.left _ (He hr);omega
  ·rcases R.ok j' hj' hT' with ⟨_,r',hr',e1',e2',e3',e4'⟩|⟨h0',e2',e3',e4',_⟩
   ·have:=hg.left _ (He hr');omega
   ·have q3:=same (by rw[←e2,←e2',hl]);subst q3;rw[e4] at he;have a1:=Zd9 ls;have a2:=Zd9 ls';rw[l1] at a1;rw[l2] at a2;rw[a1,a2] at he;exact⟨rfl,ZoR σ hd hd' he⟩
 surj u l h0 h1 hd:=by
  have hd:RowOf g (σ u) l:=hd;by_cases hu:u < g.vars
  ·rw[R.old u h0 hu] at hd;obtain⟨x,rfl,hx⟩:=(Zfc (by omega)).1 hd;obtain⟨r,hr,e1,e2,e3,e4,_⟩:=ZaR hx;obtain⟨j,hT,ej⟩:=List.mem_iff_getElem.1 (R.all r hr);have hj:j < h.Aa.length:=by rw[←R.len];exact hT
   rcases R.ok j hj hT with ⟨_,r',hr',f1,f2,f3,f4⟩|⟨h0',_⟩
   ·obtain rfl:r=r':=(by omega);have hrow:RowOf g (catS σ h.Aa[j].right) x.Ab:=(by rw[f3];exact⟨e3.symm,e4⟩);obtain⟨ls,d1,d2⟩:=ZoQ σ R.neg hrow;have hlen:=ZcS d1;refine⟨j,hj,ls,by rw[f2,e2],d1,?_,fun i i1 i2=>?_⟩
    ·rw[f4,←hlen,ZhC,←d2,←e1,←Tree.eta]
    ·have a1:=ZdX (He i1);rw[←d2] at a1;have a2:=Zwr d1 i i1 i2;have hki:=He i2;have a3:=R.pos (Ab h.Aa[j].right)[i] (ZbY _ hki) (hh.hi _ (He hj) _ (ZdY hki));simp only[cnts];rw[ZcB x,R.old u h0 hu];simp only[Hl,HB];omega
   ·omega
  ·obtain⟨j,hT,ej⟩:=List.mem_iff_getElem.1 (R.new u (by omega) h1);have hj:j < h.Aa.length:=by rw[←R.len];exact hT
   rcases R.ok j hj hT with ⟨h0',_⟩|⟨_,f2,f3,f4,f5⟩
   ·omega
   ·rw[ej] at f2 f3 f5;rw[←f3] at hd;obtain⟨ls,d1,d2⟩:=ZoQ σ R.neg hd;have hlen:=ZcS d1;refine⟨j,hj,ls,f2,d1,?_,fun i i1 i2=>?_⟩
    ·rw[f4,←hlen,Zd9,d2]
    ·have a1:=ZdX (He i1);rw[←d2] at a1;have a3:=f5 _ (He i2);omega
theorem Rowed.starts (hg:g.ok) (R:Rowed g h F σ T) (hs:h.start=g.start) (w:List Int):ZdM g h (rowD g σ) (rowW g σ) w where
 one l hl:=by
  have hl:RowOf g (σ h.start) l:=hl;rw[hs,R.old _ hg.start0 hg.start,Zfc (by have:=hg.start0;omega)] at hl;obtain⟨x,rfl,hx⟩:=hl;refine⟨x,rfl,hx,?_⟩;unfold rowW;rw[hs,R.old _ hg.start0 hg.start,Za2 (by have:=hg.start0;omega),Zbe,Ht]
 all x hx _:=by
  show RowOf g (σ h.start) [x];rw[hs,R.old _ hg.start0 hg.start];exact (Zfc (by have:=hg.start0;omega)).2 ⟨x,rfl,hx⟩
theorem Rowed.pl (R:Rowed g h F σ T) (hF:F.length=h.Aa.length):∀ l∈F,plL l=true:=fun l hl=>by
 obtain⟨j,hj,rfl⟩:=List.mem_iff_getElem.1 hl;have hj':j < h.Aa.length:=by omega
 have:=R.ok j hj' (by rw[R.len];exact hj');rw[Hf,Hj hj,HW] at this;rcases this with ⟨_,r,hr,_,_,_,e4⟩|⟨_,_,_,e4,_⟩
 ·rw[e4];exact ZnB _ _
 ·rw[e4];exact Zpj _
theorem picks_iff {null:List Bool} {l:List Int} {u:Int}:u∈ZbZ null false l↔∃ pre post,l=pre++u::post∧0≤u∧ZaQ pre null=true∧ZaQ post null=true:=by
 constructor
 ·intro hu;obtain⟨k,hk,e3,e4⟩:=picks_mem.1 hu;unfold ZdQ at e3;simp only[Hr,GD,HZ] at e3;obtain⟨g0,g1,g2⟩:=e3;rw[←e4] at g0;refine⟨l.take k,l.drop (k+1),?_,g0,g1,g2⟩;have:l.getD k 0=l[k]:=by rw[Hf,Hj hk];rfl
  rw[e4,this,List.getElem_cons_drop,Gh]
 ·rintro⟨pre,post,e2,h0,h1,h2⟩;refine picks_mem.2 ⟨pre.length,by rw[e2];simp,?_,by rw[e2];simp⟩;have q1:l.getD pre.length 0=u:=by rw[e2];simp
  have q2:l.take pre.length=pre:=by rw[e2];simp
  have q3:l.drop (pre.length+1)=post:=by rw[e2];simp
  unfold ZdQ;rw[q1,q2,q3,h1,h2];simp[h0]
def maxN:List Nat→Nat
 | []=>0
 | x::l=>max x (maxN l)
theorem Zub {l:List Nat} {x:Nat} (h:x∈l):x≤maxN l:=by
 induction l with
 | nil=>cases h
 | cons y l ih =>
  rw[maxN];rcases List.mem_cons.1 h with rfl|h
  ·omega
  ·have:=ih h;omega
theorem Zzk {l:List Nat} {B:Nat} (h:∀ x∈l,x≤B):maxN l≤B:=by
 induction l with
 | nil=>exact Hh _
 | cons y l ih =>
  rw[maxN];have:=h y (by simp);have:=ih (fun x hx=>h x (by simp[hx]));omega
def mxR (g:Ac) (l:List Int):Nat:=maxN ((ZbZ (nulB g) false l).map fun v=>rnk g v+1)
theorem ZoS {l:List Int} {v:Int} (h:v∈ZbZ (nulB g) false l):rnk g v+1≤mxR g l:=Zub (List.mem_map.2 ⟨v,h,rfl⟩)
theorem Zuc {l:List Int} {B:Nat} (h:∀ v∈ZbZ (nulB g) false l,rnk g v+1≤B):mxR g l≤B:=Zzk fun x hx=>by
 obtain⟨v,hv,rfl⟩:=List.mem_map.1 hx;exact h v hv
theorem inAll_both {a b:List Int} {S:List Bool}:ZaQ (a++b) S=true↔ZaQ a S=true∧ZaQ b S=true:=by
 unfold ZaQ;rw[List.all_append,Hr]
theorem Rowed.null (hg:g.ok) (hh:h.ok) (R:Rowed g h F σ T):∀ y,has (nulB h) y=true→ZaQ (σ y) (nulB g)=true:=by
 refine ZhB hh _ fun q hq hin=>?_
 obtain⟨j,hj,rfl⟩:=List.mem_iff_getElem.1 hq;have hT:j < T.length:=by rw[R.len];exact hj
 have hcat:ZaQ (catS σ h.Aa[j].right) (nulB g)=true:=by
  unfold ZaQ catS;rw[List.all_flatMap,HR];exact fun s hs=>(hin s hs).2
 rcases R.ok j hj hT with ⟨_,r,hr,e1,e2,e3,e4⟩|⟨h0,e2,e3,e4,_⟩
 ·rw[e3] at hcat;rw[e2,R.old _ (hg.left0 _ (He hr)) (hg.left _ (He hr))];have:=ZeW hg (He hr) (fun s hs=>by
   simp only[ZaQ,HR] at hcat;exact hcat s hs)
  simp[ZaQ,this]
 ·rw[e2,←e3];exact hcat
theorem Rowed.nulls (hg:g.ok) (hh:h.ok) (R:Rowed g h F σ T) {l:List Int} (hl:ZaQ l (nulB h)=true):ZaQ (catS σ l) (nulB g)=true:=by
 unfold ZaQ catS at *;rw[List.all_flatMap,HR];rw[HR] at hl;exact fun s hs=>R.null hg hh s (hl s hs)
theorem Rowed.cyc (hg:g.ok) (hh:h.ok) (hc:cycL g=[]) (R:Rowed g h F σ T):cycL h=[]:=by
 refine ZiK hh (fun u=>if u < g.vars then 20 * rnk g u+19 else 20 * mxR g (σ u)+(σ u).length) fun u u' h0 h1 hu=>?_
 obtain⟨q,hq,e1,pre,post,e2,u0,e3,e4⟩:=stepA_iff.1 hu;obtain⟨j,hj,rfl⟩:=List.mem_iff_getElem.1 hq;have hT:j < T.length:=by rw[R.len];exact hj
 have n1:=R.nulls hg hh e3;have n2:=R.nulls hg hh e4;have hu1:=hh.hi _ hq u' (by rw[e2];simp);obtain⟨p1,p2⟩:=R.pos u' u0 hu1;have hcat:catS σ h.Aa[j].right=catS σ pre++(σ u'++catS σ post):=by rw[e2];unfold catS;rw[JL,HP]
 have hsub:∀ z,z∈ZbZ (nulB g) false (σ u')→z∈ZbZ (nulB g) false (catS σ h.Aa[j].right):=fun z hz=>by
  obtain⟨a,b,d1,d2,d3,d4⟩:=picks_iff.1 hz;refine picks_iff.2 ⟨catS σ pre++a,b++catS σ post,by rw[hcat,d1];simp,d2,inAll_both.2 ⟨n1,d3⟩,inAll_both.2 ⟨d4,n2⟩⟩
 have hself:u' < g.vars→u'∈ZbZ (nulB g) false (catS σ h.Aa[j].right):=fun hlt=>hsub u' (by
  rw[R.old _ u0 hlt];exact picks_iff.2 ⟨[],[],rfl,u0,rfl,rfl⟩)
 rcases R.ok j hj hT with ⟨_,r,hr,f1,f2,f3,f4⟩|⟨g0,f2,f3,f4,f5⟩
 ·have hlt:=hg.left _ (He hr);rw[←f2,e1] at hlt;have hst:∀ z,z∈ZbZ (nulB g) false (catS σ h.Aa[j].right)→z∈ZiL g u:=fun z hz=>by
   rw[f3] at hz;exact overBy_mem.2 ⟨_,He hr,by rw[←f2,e1],hz⟩
  rw[Hb hlt];split
  ·rename_i hlt';have:=ZdO hg hc h0 hlt (hst _ (hself hlt'));omega
  ·have:mxR g (σ u')≤rnk g u:=Zuc fun z hz=>ZdO hg hc h0 hlt (hst _ (hsub z hz))
   omega
 ·have hn:¬ T[j] < g.vars:=by omega
  rw[←e1,f2,Ha hn];rw[f3] at hself hsub;split
  ·rename_i hlt';have:=ZoS (hself hlt');have:=f5 u' (by rw[e2];simp[Ab,u0]);omega
  ·have:mxR g (σ u')≤mxR g (σ T[j]):=Zuc fun z hz=>ZoS (hsub z hz)
   have:=f5 u' (by rw[e2];simp[Ab,u0]);omega
theorem Rowed.same {s:Step} {T:List Int} {σ:Int→List Int} (R:Rowed g s.g s.frags σ T) (hs:(Zam g s).code=0) (ht:s.g.terms=g.terms) (h0:s.g.start=g.start) (w:List Int):ZgH g s w false:=by
 obtain⟨hg,hh,hok⟩:=Zb3 hs;exact Zis hs ht (fun hc=>R.cyc hg hh hc) (R.leads hg hh) (R.starts hg h0 w) (ZjB hs (R.pl hok.1) (R.leads hg hh) (R.starts hg h0 w))
end
abbrev SEnt:=Int×Rule×List Ad
structure SInv (g:Ac) (s:SP) (n:Nat) (σ:Int→List Int) (L:List SEnt):Prop where
 fit:s.fit g
 neg:∀ x,x < 0→σ x=[x]
 old:∀ v,0≤v→v < g.vars→σ v=[v]
 Aa:s.Aa=L.map fun e=>e.2.1
 frags:s.frags=L.map fun e=>e.2.2
 nodup:(L.map fun e=>e.1).Nodup
 low:∀ e∈L,e.1 < s.vars∧(e.1 < 0→∃ r:Nat,r < n∧e.1 = -1 - (r:Int))
 all:∀ r:Nat,r < n→∃ e∈L,e.1 = -1 - (r:Int)
 new:∀ u,g.vars≤u→u < s.vars→∃ e∈L,e.1=u
 ok:∀ e∈L,TagOk g σ e.1 e.2.1 e.2.2
 term:∀ a:Nat,a < s.term.length→0≤s.term.getD a 0→s.term.getD a 0 < s.vars∧σ (s.term.getD a 0)=[-1 - (a:Int)]
 pos:∀ u,g.vars≤u→u < s.vars→1≤(σ u).length∧(σ u).length≤10
theorem ZvO {σ σ':Int→List Int} {l:List Int} (h:∀ y∈l,σ' y=σ y):catS σ' l=catS σ l:=by
 unfold catS
 induction l with
 | nil=>rfl
 | cons y l ih=>rw[HP,HP,h y (by simp),ih fun z hz=>h z (by simp[hz])]
theorem TagOk.congr {g:Ac} {σ σ':Int→List Int} {t:Int} {q:Rule} {F:List Ad} {V:Int} (h:∀ y,y < V→σ' y=σ y) (ht:t < V) (hq:∀ y∈q.right,y < V) (hk:TagOk g σ t q F):TagOk g σ' t q F:=by
 have e:=ZvO (σ:=σ) (σ':=σ') (l:=q.right) fun y hy=>h y (hq y hy)
 rcases hk with ⟨h0,r,hr,e1,e2,e3,e4⟩|⟨h0,e2,e3,e4,e5⟩
 ·exact .inl ⟨h0,r,hr,e1,e2,by rw[e,e3],e4⟩
 ·refine .inr ⟨h0,e2,by rw[e,e3,h t ht],e4,fun y hy=>?_⟩;rw[h t ht,h y (hq y (ZdY hy))];exact e5 y hy
theorem SInv.sym {g:Ac} {s:SP} {n:Nat} {σ:Int→List Int} {L:List SEnt} (h:SInv g s n σ L):∀ e∈L,∀ y∈e.2.1.right,y < s.vars:=fun e he y hy =>
 (h.fit.sym e.2.1 (by rw[h.Aa];exact List.mem_map.2 ⟨e,he,rfl⟩) y hy).2
theorem SInv.lift {g:Ac} (hg:g.ok) {s:SP} {n:Nat} {σ:Int→List Int} {L:List SEnt} (h:SInv g s n σ L) {x:Int} (hx : -g.terms≤x∧x < g.vars):∃ σ' L',SInv g (s.lift x) n σ' L'∧(∀ y,y < s.vars→σ' y=σ y)∧σ' (s.lifted x)=[x]:=by
 have hv:=h.fit.vars;have hv1:=hg.vars1;have ht0:=hg.terms0;obtain⟨hf,_,_,_⟩:=h.fit.lift hg (x:=x) ⟨hx.1,by omega⟩;by_cases h0:0≤x
 ·have e:s.lift x=s:=by rw[SP.lift,Hb h0]
  have e2:s.lifted x=x:=by rw[SP.lifted,Hb h0]
  rw[e,e2];exact⟨σ,L,h,fun _ _=>rfl,h.old x h0 hx.2⟩
 ·have hl:(-1 - x).toNat < s.term.length:=by have:=h.fit.tlen;omega
  have hxx : -1 - (((-1 - x).toNat:Nat):Int)=x:=by omega
  by_cases h1:s.term.getD (-1 - x).toNat 0 < 0
  ·have e:s.lift x=⟨s.vars+1,s.Aa++[⟨s.vars,[x]⟩],s.frags++[[]],s.term.set (-1 - x).toNat s.vars⟩:=by rw[SP.lift,Ha h0,Hb h1]
   have e2:s.lifted x=s.vars:=by
    rw[SP.lifted,Ha h0,e];simp only[Hf];rw[G8 hl];rfl
   rw[e2];rw[e] at hf ⊢
   let σ':Int→List Int:=fun y=>if y=s.vars then [x] else σ y
   have hσ:∀ y,y < s.vars→σ' y=σ y:=fun y hy=>Ha (by omega)
   have hσ1:σ' s.vars=[x]:=Hb rfl;refine⟨σ',L++[(s.vars,⟨s.vars,[x]⟩,[])],?_,hσ,hσ1⟩;exact {
    fit:=hf
    neg:=fun y hy=>by rw[hσ y (by omega)];exact h.neg y hy
    old:=fun v v0 v1=>by rw[hσ v (by omega)];exact h.old v v0 v1
    Aa:=by rw[Ho,←h.Aa];rfl
    frags:=by rw[Ho,←h.frags];rfl
    nodup:=by
     rw[Ho];refine List.nodup_append.2 ⟨h.nodup,by simp,fun a ha b hb=>?_⟩;obtain⟨q,hq,rfl⟩:=List.mem_map.1 ha;have:=(h.low q hq).1;simp only[Hm,HF,Gw] at hb;rw[hb];omega
    low:=fun q hq=>by
     rcases List.mem_append.1 hq with hq|hq
     ·have:=h.low q hq;exact⟨by have:=this.1;dsimp only;omega,this.2⟩
     ·rw[List.mem_singleton.1 hq];exact⟨by dsimp only;omega,fun q=>by dsimp only at q;omega⟩
    all:=fun r hr=>by
     obtain⟨q,hq,e⟩:=h.all r hr;exact⟨q,by simp[hq],e⟩
    new:=fun u u0 u1=>by
     dsimp only at u1;by_cases q:u < s.vars
     ·obtain⟨q,hq,e⟩:=h.new u u0 q;exact⟨q,by simp[hq],e⟩
     ·exact⟨(s.vars,⟨s.vars,[x]⟩,[]),by simp,by dsimp only;omega⟩
    ok:=fun q hq=>by
     rcases List.mem_append.1 hq with hq|hq
     ·exact (h.ok q hq).congr hσ (h.low q hq).1 (h.sym q hq)
     ·rw[List.mem_singleton.1 hq];refine .inr ⟨by dsimp only;omega,rfl,?_,?_,?_⟩
      ·dsimp only;unfold catS;rw[hσ1,HP,List.flatMap_nil,hσ x (by omega),h.neg x (by omega)];rfl
      ·dsimp only;rw[Zc2 (by omega)];rfl
      ·intro y hy;dsimp only at hy;rw[Zc2 (by omega)] at hy;cases hy
    term:=fun a ha hz=>by
     dsimp only at ha hz ⊢;rw[HJ] at ha;by_cases q:a=(-1 - x).toNat
     ·subst q;rw[Hf,G8 hl,HW,hσ1,hxx];exact⟨by omega,rfl⟩
     ·have e3:(s.term.set (-1 - x).toNat s.vars).getD a 0=s.term.getD a 0:=by
       rw[Hf,GO (fun w=>q w.symm),←Hf]
      rw[e3] at hz ⊢;obtain⟨k1,k2⟩:=h.term a ha hz;exact⟨by omega,by rw[hσ _ k1,k2]⟩
    pos:=fun u u0 u1=>by
     dsimp only at u1;by_cases q:u < s.vars
     ·rw[hσ u q];exact h.pos u u0 q
     ·have:u=s.vars:=(by omega);rw[this,hσ1];exact⟨by simp,by simp⟩ }
  ·have e:s.lift x=s:=by rw[SP.lift,Ha h0,Ha h1]
   have e2:s.lifted x=s.term.getD (-1 - x).toNat 0:=by rw[SP.lifted,Ha h0,e]
   rw[e,e2];exact⟨σ,L,h,fun _ _=>rfl,by rw[(h.term _ hl (by omega)).2,hxx]⟩
theorem SInv.lifts {g:Ac} (hg:g.ok):∀ {l:List Int} {s:SP} {n:Nat} {σ:Int→List Int} {L:List SEnt},SInv g s n σ L→(∀ x∈l, -g.terms≤x∧x < g.vars)→∃ σ' L',SInv g (s.lifts l) n σ' L'∧(∀ y,y < s.vars→σ' y=σ y)∧∀ (k:Nat),k < l.length→σ' ((s.lifteds l).getD k 0)=[l.getD k 0]
 | [],s,n,σ,L,h,_=>⟨σ,L,h,fun _ _=>rfl,fun k hk=>by simp at hk⟩
 | x::l,s,n,σ,L,h,hx=>by
  have hv:=h.fit.vars;have h0:=hx x (by simp);obtain⟨σ1,L1,k1,k2,k3⟩:=h.lift hg h0;obtain⟨_,q2,q3,q4⟩:=h.fit.lift hg (x:=x) ⟨h0.1,by omega⟩;obtain⟨σ2,L2,j1,j2,j3⟩:=SInv.lifts hg (l:=l) k1 (fun y hy=>hx y (by simp[hy]));refine⟨σ2,L2,j1,fun y hy=>by rw[j2 y (by omega),k2 y hy],fun k hk=>?_⟩;cases k with
  | zero =>
   simp only[SP.lifteds,GI];rw[j2 _ q4,k3]
  | succ k =>
   simp only[SP.lifteds,Jt];exact j3 k (by simpa using hk)
theorem ZqQ (v:Int) (l rs:List Int):∀ k,Zjw v l rs k=(List.range k).map fun i=>⟨if i=0 then v else rs.getD (i - 1) 0,[l.getD i 0,rs.getD i 0]⟩
 | 0=>rfl
 | k+1=>by rw[Zjw,ZqQ v l rs k,Gn,Ho];rfl
theorem ZqR (r:Int):∀ k,Zhz r k=(List.range k).map fun i=>if i=0 then [.mk 1 r ZbP] else ZbP
 | 0=>rfl
 | k+1=>by rw[Zhz,ZqR r k,Gn,Ho];rfl
theorem Zud {V:Int} {l:List Int} (hl:2≤l.length) {k:Nat} (hk:k < l.length - 1):(ZeK V l).getD k 0=if k < l.length - 2 then V+(k:Int) else l.getD (l.length - 1) 0:=by
 unfold ZeK;rw[Hf];by_cases q:k < l.length - 2
 ·rw[Hb q,GH (by simpa using q),Gg,JM q];rfl
 ·rw[Ha q,Gp (by simp;omega)];simp only[Hi,List.length_range];rw[show k - (l.length - 2)=0 by omega];rfl
theorem ZqS {l:List Int} {k:Nat} (h:k < l.length):l.drop k=l.getD k 0::l.drop (k+1):=by
 rw[Hw h,Hf,Hj h];rfl
theorem ZDz {a b:Int} (ha:0≤a) (hb:0≤b):Ab [a,b]=[a,b]:=by rw[ZbG (by omega),ZbG (by omega)];rfl
theorem SInv.split {g:Ac} (hg:g.ok) {s:SP} {n:Nat} {σ:Int→List Int} {L:List SEnt} (h:SInv g s n σ L) (hn:n < g.Aa.length) (h2:2≤g.Aa[n].right.length) (hfit:(s.split g.Aa[n].left n g.Aa[n].right).fit g):∃ σ' L',SInv g (s.split g.Aa[n].left n g.Aa[n].right) (n+1) σ' L':=by
 have hmem:=He hn;have hle:=hg.left _ hmem;have hle0:=hg.left0 _ hmem;have h10:=hg.right _ hmem;have hsy:∀ x∈g.Aa[n].right, -g.terms≤x∧x < g.vars:=fun x hx=>⟨hg.lo _ hmem x hx,hg.hi _ hmem x hx⟩
 obtain⟨σ1,L1,k1,k2,k3⟩:=h.lifts hg hsy;obtain⟨_,_,q3⟩:=SP.fit.lifts hg h.fit hsy;have hll:=SP.lifteds_length s g.Aa[n].right;unfold SP.split at hfit ⊢;generalize hR:g.Aa[n].right=R at *;generalize s.lifts R=s1 at *;generalize s.lifteds R=l at *;have hv:=k1.fit.vars;have hv1:=hg.vars1
 let σ2:Int→List Int:=fun y=>if s1.vars≤y∧y < s1.vars+((R.length - 2:Nat):Int) then R.drop ((y - s1.vars).toNat+1) else σ1 y
 have hσ:∀ y,y < s1.vars→σ2 y=σ1 y:=fun y hy=>Ha (by omega)
 have hσn:∀ k:Nat,k < R.length - 2→σ2 (s1.vars+(k:Int))=R.drop (k+1):=fun k hk=>by
  have:σ2 (s1.vars+(k:Int))=R.drop ((s1.vars+(k:Int) - s1.vars).toNat+1):=Hb (by omega)
  rw[this,show (s1.vars+(k:Int) - s1.vars).toNat=k by omega]
 have hlk:∀ k:Nat,k < R.length→0≤l.getD k 0∧l.getD k 0 < s1.vars:=fun k hk=>q3 _ (ZjA (by omega))
 have hσl:∀ k:Nat,k < R.length→σ2 (l.getD k 0)=[R.getD k 0]:=fun k hk=>by rw[hσ _ (hlk k hk).2,k3 k hk]
 have hrk:∀ k:Nat,k < R.length - 1→0≤(ZeK s1.vars l).getD k 0∧σ2 ((ZeK s1.vars l).getD k 0)=R.drop (k+1):=fun k hk=>by
  rw[Zud (by omega) (by omega),hll];by_cases q:k < R.length - 2
  ·rw[Hb q];exact⟨by omega,hσn k q⟩
  ·rw[Ha q];refine⟨(hlk _ (by omega)).1,?_⟩;rw[hσl _ (by omega),show k+1=R.length - 1 by omega,ZqS (by omega),show R.length - 1+1=R.length by omega,GM]
 let tg:Nat→Int:=fun i=>if i=0 then -1 - (n:Int) else s1.vars+((i - 1:Nat):Int)
 let L2:List SEnt:=(List.range (R.length - 1)).map fun i=>(tg i,⟨if i=0 then g.Aa[n].left else (ZeK s1.vars l).getD (i - 1) 0,[l.getD i 0,(ZeK s1.vars l).getD i 0]⟩,if i=0 then [.mk 1 (n:Int) ZbP] else ZbP)
 have hL2:∀ e∈L2,∃ i,i < R.length - 1∧e=(tg i,⟨if i=0 then g.Aa[n].left else (ZeK s1.vars l).getD (i - 1) 0,[l.getD i 0,(ZeK s1.vars l).getD i 0]⟩,if i=0 then [.mk 1 (n:Int) ZbP] else ZbP):=fun e he=>by
  obtain⟨i,hi,rfl⟩:=List.mem_map.1 he;exact⟨i,List.mem_range.1 hi,rfl⟩
 have htg:∀ i,i < R.length - 1→(tg i < 0∧i=0∧tg i = -1 - (n:Int))∨(s1.vars≤tg i∧tg i < s1.vars+((R.length - 2:Nat):Int)∧0 < i∧tg i=s1.vars+((i - 1:Nat):Int)):=fun i hi=>by
  by_cases q:i=0
  ·have:tg i = -1 - (n:Int):=Hb q
   exact .inl ⟨by omega,q,this⟩
  ·have:tg i=s1.vars+((i - 1:Nat):Int):=Ha q
   exact .inr ⟨by omega,by omega,by omega,this⟩
 refine⟨σ2,L1++L2,?_⟩;exact {
  fit:=hfit
  neg:=fun y hy=>by rw[hσ y (by omega)];exact k1.neg y hy
  old:=fun v v0 v1=>by rw[hσ v (by omega)];exact k1.old v v0 v1
  Aa:=by
   dsimp only;rw[Ho,←k1.Aa,ZqQ,H8];rfl
  frags:=by
   dsimp only;rw[Ho,←k1.frags,ZqR,H8];rfl
  nodup:=by
   rw[Ho];refine List.nodup_append.2 ⟨k1.nodup,?_,fun a ha b hb=>?_⟩
   ·rw[H8];unfold List.Nodup;rw[Ge];refine (JR).imp_of_mem fun {a b} ha hb hab=>?_
    have ha:=List.mem_range.1 ha;have hb:=List.mem_range.1 hb;show tg a≠tg b;rcases htg a ha with ⟨a1,a2,a3⟩|⟨a1,a2,a3,a4⟩ <;> rcases htg b hb with ⟨b1,b2,b3⟩|⟨b1,b2,b3,b4⟩ <;> omega
   ·obtain⟨e,he,rfl⟩:=List.mem_map.1 ha;obtain⟨e',he',rfl⟩:=List.mem_map.1 hb;obtain⟨i,hi,rfl⟩:=hL2 e' he';obtain⟨c1,c2⟩:=k1.low e he;dsimp only;rcases htg i hi with ⟨b1,b2,b3⟩|⟨b1,b2,b3,b4⟩
    ·intro q;obtain⟨r,hr,e⟩:=c2 (by omega);omega
    ·omega
  low:=fun e he=>by
   dsimp only;rcases List.mem_append.1 he with he|he
   ·obtain⟨c1,c2⟩:=k1.low e he;refine⟨by omega,fun q=>?_⟩;obtain⟨r,hr,e⟩:=c2 q;exact⟨r,by omega,e⟩
   ·obtain⟨i,hi,rfl⟩:=hL2 e he;dsimp only;rcases htg i hi with ⟨b1,b2,b3⟩|⟨b1,b2,b3,b4⟩
    ·exact⟨by omega,fun _=>⟨n,by omega,b3⟩⟩
    ·exact⟨b2,fun q=>by omega⟩
  all:=fun r hr=>by
   by_cases q:r < n
   ·obtain⟨e,he,e1⟩:=k1.all r q;exact⟨e,by simp[he],e1⟩
   ·obtain rfl:r=n:=(by omega);exact⟨_,List.mem_append_right _ (List.mem_map.2 ⟨0,List.mem_range.2 (by omega),rfl⟩),(Hb rfl:tg 0=_)⟩
  new:=fun u u0 u1=>by
   dsimp only at u1;by_cases q:u < s1.vars
   ·obtain⟨e,he,e1⟩:=k1.new u u0 q;exact⟨e,by simp[he],e1⟩
   ·refine⟨_,List.mem_append_right _ (List.mem_map.2 ⟨(u - s1.vars).toNat+1,List.mem_range.2 (by omega),rfl⟩),?_⟩;show tg ((u - s1.vars).toNat+1)=u;rcases htg ((u - s1.vars).toNat+1) (by omega) with ⟨b1,b2,b3⟩|⟨b1,b2,b3,b4⟩
    ·omega
    ·rw[b4];omega
  ok:=fun e he=>by
   rcases List.mem_append.1 he with he|he
   ·exact (k1.ok e he).congr hσ (k1.low e he).1 (k1.sym e he)
   ·obtain⟨i,hi,rfl⟩:=hL2 e he;have c1:=hσl i (by omega);obtain⟨c2,c3⟩:=hrk i hi;have c4:=(hlk i (by omega)).1;have hcat:catS σ2 [l.getD i 0,(ZeK s1.vars l).getD i 0]=R.drop i:=by
     unfold catS;rw[HP,HP,List.flatMap_nil,c1,c3,Ht,Js,←ZqS (by omega)]
    dsimp only;rcases htg i hi with ⟨b1,b2,b3⟩|⟨b1,b2,b3,b4⟩
    ·subst b2;refine .inl ⟨b1,n,hn,b3,rfl,?_,?_⟩
     ·dsimp only;rw[hcat,hR];rfl
     ·dsimp only;rw[Hb rfl,ZDz c4 c2];rfl
    ·have d1:σ2 (tg i)=R.drop i:=(by rw[b4,hσn _ (by omega),show i - 1+1=i by omega]);refine .inr ⟨by omega,?_,?_,?_,?_⟩
     ·dsimp only;rw[Ha (by omega),Zud (by omega) (by omega),hll,Hb (by omega),b4]
     ·dsimp only;rw[hcat,d1]
     ·dsimp only;rw[Ha (by omega),ZDz c4 c2];rfl
     ·intro y hy;dsimp only at hy;rw[ZDz c4 c2] at hy;rw[d1,HG];simp only[Gq,GB,or_false] at hy;rcases hy with rfl|rfl
      ·rw[c1];simp only[Hl,HB];omega
      ·rw[c3,HG];omega
  term:=fun a ha hz=>by
   dsimp only at ha hz ⊢;obtain⟨c1,c2⟩:=k1.term a ha hz;exact⟨by omega,by rw[hσ _ c1,c2]⟩
  pos:=fun u u0 u1=>by
   dsimp only at u1;by_cases q:u < s1.vars
   ·rw[hσ u q];exact k1.pos u u0 q
   ·have e:u=s1.vars+(((u - s1.vars).toNat:Nat):Int):=(by omega);rw[e,hσn _ (by omega),HG];omega }
theorem SInv.one {g:Ac} (hg:g.ok) {s:SP} {n:Nat} {σ:Int→List Int} {L:List SEnt} (h:SInv g s n σ L) (hn:n < g.Aa.length):∃ σ' L',SInv g (s.one n g.Aa[n]) (n+1) σ' L':=by
 have hmem:=He hn;have hfit:=h.fit.one hg hn (hg.rule hmem);rw[SP.one] at hfit ⊢;split at hfit
 ·rename_i hl;rw[Hb hl];have hv:=h.fit.vars;have hv1:=hg.vars1;have hcat:catS σ g.Aa[n].right=g.Aa[n].right:=by
   have:∀ l:List Int,(∀ x∈l,x < g.vars)→catS σ l=l:=by
    intro l
    induction l with
    | nil=>intro _;rfl
    | cons x l ih =>
     intro hx;have ih:=ih fun y hy=>hx y (by simp[hy])
     unfold catS at ih ⊢;rw[HP,ih];by_cases q:x < 0
     ·rw[h.neg x q];rfl
     ·rw[h.old x (by omega) (hx x (by simp))];rfl
   exact this _ (hg.hi _ hmem)
  refine⟨σ,L++[(-1 - (n:Int),⟨g.Aa[n].left,g.Aa[n].right⟩,ZaJ n (Ab g.Aa[n].right).length)],?_⟩;exact {
   fit:=hfit
   neg:=h.neg
   old:=h.old
   Aa:=by rw[Ho,←h.Aa];rfl
   frags:=by rw[Ho,←h.frags];rfl
   nodup:=by
    rw[Ho];refine List.nodup_append.2 ⟨h.nodup,by simp,fun a ha b hb=>?_⟩;obtain⟨e,he,rfl⟩:=List.mem_map.1 ha;obtain⟨c1,c2⟩:=h.low e he;simp only[Hm,HF,Gw] at hb;rw[hb];intro q;obtain⟨r,hr,e⟩:=c2 (by omega);omega
   low:=fun e he=>by
    rcases List.mem_append.1 he with he|he
    ·obtain⟨c1,c2⟩:=h.low e he;refine⟨c1,fun q=>?_⟩;obtain⟨r,hr,e⟩:=c2 q;exact⟨r,by omega,e⟩
    ·rw[List.mem_singleton.1 he];exact⟨by show -1 - (n:Int) < s.vars;omega,fun _=>⟨n,by omega,rfl⟩⟩
   all:=fun r hr=>by
    by_cases q:r < n
    ·obtain⟨e,he,e1⟩:=h.all r q;exact⟨e,by simp[he],e1⟩
    ·obtain rfl:r=n:=(by omega);exact⟨_,List.mem_append_right _ (List.mem_singleton.2 rfl),rfl⟩
   new:=fun u u0 u1=>by
    obtain⟨e,he,e1⟩:=h.new u u0 u1;exact⟨e,by simp[he],e1⟩
   ok:=fun e he=>by
    rcases List.mem_append.1 he with he|he
    ·exact h.ok e he
    ·rw[List.mem_singleton.1 he];exact .inl ⟨by dsimp only;omega,n,hn,rfl,rfl,hcat,rfl⟩
   term:=h.term
   pos:=h.pos }
 ·rename_i hl;rw[Ha hl];exact h.split hg hn (by omega) hfit
theorem ZlI {g:Ac} (hg:g.ok):∀ {k:Nat} {s s':SP} {n:Nat} {σ:Int→List Int} {L:List SEnt},SInv g s n σ L→n+k=g.Aa.length→ZbQ s (g.Aa.drop n) n=.ok s'→∃ σ' L',SInv g s' g.Aa.length σ' L'
 | 0,s,s',n,σ,L,h,hk,e=>by
  rw[HL (by omega),ZbQ] at e;cases e;obtain rfl:n=g.Aa.length:=by omega
  exact⟨σ,L,h⟩
 | k+1,s,s',n,σ,L,h,hk,e=>by
  have hn:n < g.Aa.length:=by omega
  rw[Hw hn,ZbQ] at e;cases hc:(s.one n g.Aa[n]).many with
  | true=>rw[hc] at e;cases e
  | false =>
   rw[hc] at e;obtain⟨σ1,L1,h1⟩:=h.one hg hn;exact ZlI (k:=k) hg h1 (by omega) e
theorem ZvP {g:Ac} (hg:g.ok) {s:SP} (hc:ZbQ (Za0 g) g.Aa 0=.ok s) (w:List Int):ZgH g (ZcZ g s) w false:=by
 obtain⟨hh,hs,_⟩:=ZgQ hg hc;have h0:SInv g (Za0 g) 0 (fun x=>[x]) []:={
  fit:=(Zdv hg).1
  neg:=fun _ _=>rfl
  old:=fun _ _ _=>rfl
  Aa:=rfl
  frags:=rfl
  nodup:=H7
  low:=fun e he=>by cases he
  all:=fun r hr=>by omega
  new:=fun u u0 u1=>by have:(Za0 g).vars=g.vars:=rfl;omega
  ok:=fun e he=>by cases he
  term:=fun a ha hz=>by
   have e:(Za0 g).term=List.replicate g.terms.toNat (-1):=rfl;rw[e,HM] at ha;rw[e,Hf,JK,Hb ha] at hz;simp at hz
  pos:=fun u u0 u1=>by have:(Za0 g).vars=g.vars:=rfl;omega }
 obtain⟨σ,L,h⟩:=ZlI hg (k:=g.Aa.length) h0 (by omega) (by rw[Gl];exact hc);have hv:=h.fit.vars;have R:Rowed g (ZcZ g s).g (ZcZ g s).frags σ (L.map fun e=>e.1):={
  neg:=h.neg
  old:=h.old
  len:=by
   show _=s.Aa.length;rw[h.Aa,Hi,Hi]
  nodup:=h.nodup
  all:=fun r hr=>by
   obtain⟨e,he,e1⟩:=h.all r hr;exact List.mem_map.2 ⟨e,he,e1⟩
  new:=fun u u0 u1=>by
   obtain⟨e,he,e1⟩:=h.new u u0 u1;exact List.mem_map.2 ⟨e,he,e1⟩
  ok:=fun j hj hT=>by
   have hL:j < L.length:=by rw[Hi] at hT;exact hT
   have e1:(ZcZ g s).g.Aa=L.map fun e=>e.2.1:=h.Aa
   have e2:(ZcZ g s).frags=L.map fun e=>e.2.2:=h.frags
   have:=h.ok _ (He hL);simp only[e1,e2,Gu,Hf,Gg,Hj hL,H9,HW];exact this
  pos:=fun u u0 u1=>by
   by_cases q:u < g.vars
   ·rw[h.old u u0 q];exact⟨by simp,by simp⟩
   ·exact h.pos u (by omega) u1 }
 exact R.same (by rw[hs]) rfl rfl w
end Go.Proofs.YtbpmepgnjanhnaaGreat
