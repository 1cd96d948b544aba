import Derived.Test.YtbpmepgnjanhnaaGreatSpR
set_option linter.unusedVariables false
set_option linter.unusedSimpArgs false
set_option linter.unusedSectionVars false
namespace Go.Proofs.YtbpmepgnjanhnaaGreat
open Go.RowKit
def gapT (b:Bool):List Tree:=bif b then [.mk (-1) []] else []
theorem Znn (ls:List (List Tree)) (b:Bool):muL ls (gapL b)=gapT b:=by cases b <;> rfl
theorem Zkc (t:List (List Tree)):∀ ls:List (List Tree),(List.range ls.length).flatMap (fun i=>(ls++t).getD i [])=ls.flatten
 | []=>rfl
 | l::ls=>by
  rw[Hl,List.range_succ_eq_map,HP,List.flatMap_map,GE,←Zkc t ls];simp only[Hv,GI,Jt]
theorem Zl9 (ls t:List (List Tree)):muL (ls++t) (ZaF ls.length)=ls.flatten:=by
 rw[ZnA,ZaF,List.flatMap_map,←Zkc t ls];refine Hy (fun f=>List.flatMap f (List.range ls.length)) (funext fun i=>?_);rw[Zwn];show (if (2:Int)=1 then _ else if (2:Int)=2 then (ls++t).getD (((i:Nat):Int).toNat) [] else _)=_;rw[Ha (by decide),Hb rfl,Hn]
theorem ZeS (r:Int) (ls:List (List Tree)) (b:Bool):muL ls (Zb9 r ls.length b)=[.mk r (gapT b++ls.flatten)]:=by
 unfold Zb9;have:=Zd9 ls;rw[muL,muF,Hb rfl,Zd0,Znn,this,muL];rfl
theorem Zgj (ls:List (List Tree)) (l:List Tree) (b:Bool):muL (ls++[l]) (ZcX ls.length b)=ZaY (gapT b++ls.flatten) l:=by
 unfold ZcX;rw[muL,muF,Ha (by decide),Ha (by decide),Ha (by decide),Hb rfl,Zd0,Znn,Zl9,muL,Hn,Hf,Gp (Hg _),Ga,Ht];rfl
theorem Zo7 {g:Ac} (w:List Tree):∀ (x:Tree) (v:Int),fits g x v=true→Zfs w x=[x]:=by
 refine Tree.ind fun x ih v hf=>?_
 obtain⟨r,hr,e1,e2,e3,e4,_⟩:=ZaR hf;have key:∀ (l:List Tree) (vs:List Int),(∀ y∈l,∀ v,fits g y v=true→Zfs w y=[y])→l.length=vs.length→fitss g l vs=true→ZaY w l=l:=by
  intro l
  induction l with
  | nil=>intro _ _ _ _;rfl
  | cons y l ihl =>
   intro vs h1 h2 h3;cases vs with
   | nil=>simp at h2
   | cons v vs =>
    rw[fitss,Hr] at h3;rw[ZaY,h1 y (by simp) v h3.1,ihl vs (fun z hz=>h1 z (by simp[hz])) (by simpa using h2) h3.2];rfl
 rw[ZjH,Ha (by omega),key x.Ab _ ih e3.symm e4,←Tree.eta]
theorem ZzF {g:Ac} (w:List Tree):∀ {ss:List Int} {l:List Tree},RowOf g ss l→ZaY w l=l:=fun {ss l} h=>by
 have key:∀ (l:List Tree) (vs:List Int),l.length=vs.length→fitss g l vs=true→ZaY w l=l:=by
  intro l
  induction l with
  | nil=>intro _ _ _;rfl
  | cons y l ihl =>
   intro vs h2 h3;cases vs with
   | nil=>simp at h2
   | cons v vs =>
    rw[fitss,Hr] at h3;rw[ZaY,Zo7 w y v h3.1,ihl vs (by simpa using h2) h3.2];rfl
 exact key l _ h.1 h.2
theorem Zgk {g:Ac} {r:Nat} {w rest:List Tree} {ss:List Int} (h:RowOf g ss rest):ZaY w [.mk (r:Int) (gapT true++rest)]=[.mk (r:Int) (w++rest)]:=by
 rw[ZaY,ZaY,Ht,Zfs,Ha (by omega)];show [Tree.mk (r:Int) (ZaY w (.mk (-1) []::rest))]=_;rw[ZaY,Zfs,Hb rfl,ZzF w h]
theorem Zrb {D:Int→List Tree→Prop}:∀ {us:List Int} {N:Int} {ls:List (List Tree)},DL D ls (us++[N])→∃ ls1 l,ls=ls1++[l]∧DL D ls1 us∧D N l
 | [],N,ls,h=>by
  match ls,h with
  | [l],h=>exact⟨[],l,rfl,trivial,h.1⟩
  | [],h=>exact h.elim
  | _::_::_,h=>exact h.2.elim
 | u::us,N,ls,h=>by
  match ls,h with
  | l::ls,h =>
   obtain⟨ls1,l2,rfl,k1,k2⟩:=Zrb h.2;exact⟨l::ls1,l2,rfl,⟨h.1,k1⟩,k2⟩
  | [],h=>exact h.elim
theorem Zv5 {D:Int→List Tree→Prop}:∀ {us:List Int} {N:Int} {ls:List (List Tree)} {l:List Tree},DL D ls us→D N l→DL D (ls++[l]) (us++[N])
 | [],N,[],l,_,h=>⟨h,trivial⟩
 | u::us,N,l1::ls,l,h1,h=>⟨h1.1,Zv5 h1.2 h⟩
 | [],_,_::_,_,h,_=>h.elim
 | _::_,_,[],_,h,_=>h.elim
theorem Zkd {W:Int→List Tree→List Int} {N:Int} (hN:¬ N < 0) (l:List Tree):∀ {p:List Int} {ls:List (List Tree)},ls.length=(Ab p).length→catW W (p++[N]) (ls++[l])=catW W p ls++W N l
 | [],ls,h=>by
  obtain rfl:ls=[]:=HX h;show catW W [N] [l]=_;rw[Zez hN,Zgl,Ht];rfl
 | s::p,ls,h=>by
  by_cases hs:s < 0
  ·rw[Zc2 hs] at h;rw[Hv,Zfl hs,Zfl hs,Zkd hN l h];rfl
  ·rw[ZbG hs] at h;cases ls with
   | nil=>simp at h
   | cons l1 ls =>
    rw[Hv,Hv,Zez hs,Zez hs,Zkd hN l (by simpa using h),HH]
inductive Up (par:Nat→Nat) (V:Nat):Nat→Nat→Prop
 | refl (v:Nat):Up par V v v
 | step {v u:Nat} (h:V≤u) (k:Up par V v (par u)):Up par V v u
section
variable {par:Nat→Nat} {V H:Nat} (hp:∀ u,V≤u→u < H→par u < u)
include hp
theorem Up.le {v u:Nat} (h:Up par V v u) (hu:u < H):v≤u:=by
 induction h with
 | refl=>exact Hg _
 | step h k ih=>have:=hp _ h hu;have:=ih (by omega);omega
theorem Up.child {v u:Nat} (h:Up par V v u) (hu:u < H) (hne:v≠u):∃ N,V≤N∧N < H∧par N=v∧Up par V N u:=by
 induction h with
 | refl=>exact absurd rfl hne
 | @step w h k ih =>
  have:=hp _ h hu;by_cases e:v=par w
  ·exact⟨w,h,hu,e.symm,.refl _⟩
  ·obtain⟨N,h1,h2,h3,h4⟩:=ih (by omega) e;exact⟨N,h1,h2,h3,.step h h4⟩
theorem Up.lin {v v' u:Nat} (h:Up par V v u) (h':Up par V v' u) (hu:u < H):Up par V v v'∨Up par V v' v:=by
 induction h with
 | refl=>exact .inr h'
 | @step w h k ih =>
  have:=hp _ h hu;cases h' with
  | refl=>exact .inl (.step h k)
  | step _ k'=>exact ih k' (by omega)
theorem Up.alone {N N' v u:Nat} (h:Up par V N u) (h':Up par V N' u) (hu:u < H) (hN:V≤N) (hN':V≤N') (hl:N < H) (hl':N' < H) (e:par N=v) (e':par N'=v):N=N':=by
 have key:∀ {A B:Nat},V≤B→A < H→B < H→V≤A→par A=v→par B=v→Up par V A B→A=B:=by
  intro A B hB hA hBH hVA eA eB hAB;cases hAB with
  | refl=>rfl
  | step _ k =>
   have h1:=Up.le hp k (by have:=hp B hB hBH;omega);have h2:=hp A hVA hA;omega
 rcases Up.lin hp h h' hu with k|k
 ·exact key hN' hl hl' hN e e' k
 ·exact (key hN hl' hl hN' e' e k).symm
end
def ZEL (g h:Ac) (γ:Nat→List Int) (par loc:Nat→Nat) (t:Int) (q:Rule) (F:List Ad):Prop :=
 (∃ (r:Nat) (hr:r < g.Aa.length),t = -1 - (r:Int)∧q.left=(loc r:Int)∧g.Aa[r].right=γ (loc r)++q.right∧F=Zb9 r (Ab q.right).length (Zbx g (loc r))) ∨
 (∃ (N:Nat) (p:List Int),t=(N:Int)∧g.vars≤(N:Int)∧(N:Int) < h.vars∧q.left=(par N:Int)∧q.right=p++[(N:Int)]∧γ N=γ (par N)++p∧(∀ s∈p,s < g.vars)∧F=ZcX (Ab p).length (Zbx g (par N)))
structure Facd (g h:Ac) (F:List (List Ad)) (γ:Nat→List Int) (par loc b:Nat→Nat) (T:List Int):Prop where
 vars:g.vars≤h.vars
 len:T.length=h.Aa.length
 nodup:T.Nodup
 all:∀ r:Nat,r < g.Aa.length→(-1 - (r:Int))∈T
 locv:∀ r:Nat,r < g.Aa.length→(loc r:Int) < h.vars
 new:∀ N:Nat,g.vars≤(N:Int)→(N:Int) < h.vars→(N:Int)∈T
 up:∀ N:Nat,g.vars.toNat≤N→N < h.vars.toNat→par N < N
 ok:∀ (j:Nat) (hj:j < h.Aa.length) (hT:j < T.length),ZEL g h γ par loc T[j] h.Aa[j] (F.getD j [])
 old:∀ v:Nat,(v:Int) < g.vars→γ v=[]∧b v=v
 base:∀ N:Nat,g.vars≤(N:Int)→(N:Int) < h.vars→b N=b (par N)
 left:∀ (r:Nat) (hr:r < g.Aa.length),g.Aa[r].left=(b (loc r):Int)
 pre:∀ N:Nat,g.vars≤(N:Int)→(N:Int) < h.vars→∃ p,γ N=γ (par N)++p
section
variable {g h:Ac} {F:List (List Ad)} {γ:Nat→List Int} {par loc b:Nat→Nat} {T:List Int}
abbrev rulF (g:Ac) (r:Nat):Rule:=g.Aa.getD r ⟨0,[]⟩
theorem ZcY {r:Nat} (hr:r < g.Aa.length):rulF g r=g.Aa[r]:=by
 unfold rulF;rw[Hf,Hj hr];rfl
def facD (g:Ac) (γ:Nat→List Int) (par loc:Nat→Nat) (v:Int) (l:List Tree):Prop:=0≤v∧∃ (r:Nat) (rest:List Tree),r < g.Aa.length∧Up par g.vars.toNat v.toNat (loc r)∧RowOf g ((rulF g r).right.drop (γ v.toNat).length) rest∧l=[.mk (r:Int) (gapT (Zbx g v.toNat)++rest)]
def facW (g:Ac) (γ:Nat→List Int) (v:Int) (l:List Tree):List Int:=match l with
 | [x]=>wordL g ((rulF g x.rule.toNat).right.drop (γ v.toNat).length) (x.Ab.drop (gapT (Zbx g v.toNat)).length)
 | _=>[]
theorem Zrc {v:Int} {r:Nat} {rest:List Tree}:facW g γ v [.mk (r:Int) (gapT (Zbx g v.toNat)++rest)]=wordL g ((rulF g r).right.drop (γ v.toNat).length) rest:=by
 show wordL g ((rulF g (((r:Nat):Int)).toNat).right.drop _) (List.drop _ (gapT _++rest))=_;rw[Hn,GV]
theorem Facd.root (R:Facd g h F γ par loc b T):∀ u:Nat,(u:Int) < h.vars→Up par g.vars.toNat (b u) u∧(b u:Int) < h.vars:=by
 intro u
 induction u using Nat.strongRecOn with
 | _ u ih =>
 intro hu;by_cases hv:(u:Int) < g.vars
 ·rw[(R.old u hv).2];exact⟨.refl _,hu⟩
 ·have h1:=R.up u (by omega) (by omega);obtain⟨k1,k2⟩:=ih (par u) h1 (by omega);rw[R.base u (by omega) hu];exact⟨.step (by omega) k1,k2⟩
theorem Facd.bases (R:Facd g h F γ par loc b T) {v u:Nat} (k:Up par g.vars.toNat v u) (hu:(u:Int) < h.vars):b u=b v:=by
 induction k with
 | refl=>rfl
 | @step w hV k ih =>
  have h1:=R.up w hV (by omega);rw[R.base w (by omega) hu,ih (by omega)]
theorem Facd.pref (R:Facd g h F γ par loc b T) {v u:Nat} (k:Up par g.vars.toNat v u) (hu:(u:Int) < h.vars):∃ p,γ u=γ v++p:=by
 induction k with
 | refl=>exact⟨[],by simp⟩
 | @step w hV k ih =>
  have h1:=R.up w hV (by omega);obtain⟨p,hp⟩:=R.pre w (by omega) hu;obtain⟨q,hq⟩:=ih (by omega);exact⟨q++p,by rw[hp,hq,HH]⟩
theorem Facd.leaf (R:Facd g h F γ par loc b T) {r:Nat} (hr:r < g.Aa.length):∃ (j:Nat) (hj:j < h.Aa.length) (hT:j < T.length),T[j] = -1 - (r:Int)∧h.Aa[j].left=(loc r:Int)∧g.Aa[r].right=γ (loc r)++h.Aa[j].right∧F.getD j []=Zb9 r (Ab h.Aa[j].right).length (Zbx g (loc r)):=by
 obtain⟨j,hT,e⟩:=List.mem_iff_getElem.1 (R.all r hr);have hj:j < h.Aa.length:=by rw[←R.len];exact hT
 refine⟨j,hj,hT,e,?_⟩;rcases R.ok j hj hT with ⟨r',hr',e1,e2,e3,e4⟩|⟨N,p,e1,_⟩
 ·obtain rfl:r=r':=by omega
  exact⟨e2,e3,e4⟩
 ·omega
theorem Facd.node (R:Facd g h F γ par loc b T) {N:Nat} (h0:g.vars≤(N:Int)) (h1:(N:Int) < h.vars):∃ (j:Nat) (hj:j < h.Aa.length) (hT:j < T.length) (p:List Int),T[j]=(N:Int)∧h.Aa[j].left=(par N:Int)∧h.Aa[j].right=p++[(N:Int)]∧γ N=γ (par N)++p∧(∀ s∈p,s < g.vars)∧F.getD j []=ZcX (Ab p).length (Zbx g (par N)):=by
 obtain⟨j,hT,e⟩:=List.mem_iff_getElem.1 (R.new N h0 h1);have hj:j < h.Aa.length:=by rw[←R.len];exact hT
 rcases R.ok j hj hT with ⟨r',hr',e1,_⟩|⟨N',p,e1,_,_,e2,e3,e4,e5,e6⟩
 ·omega
 ·obtain rfl:N=N':=by omega
  exact⟨j,hj,hT,p,e,e2,e3,e4,e5,e6⟩
theorem Zke {v:Nat} (hv:(v:Int) < g.vars):gapT (Zbx g v)=[]:=by
 unfold Zbx;rw[HC (by omega)];rfl
theorem Zno {v:Nat} (h0:0≤g.vars) (hv:g.vars≤(v:Int)):Zbx g v=true:=by
 unfold Zbx;exact Hu (by omega)
variable (R:Facd g h F γ par loc b T) (hg:g.ok)
include R hg
theorem Facd.oldD {v:Int} (h0:0≤v) (h1:v < g.vars) {l:List Tree}:facD g γ par loc v l↔∃ x,l=[x]∧fits g x v=true:=by
 obtain⟨n,rfl⟩:∃ n:Nat,v=(n:Int):=⟨v.toNat,by omega⟩
 obtain⟨o1,o2⟩:=R.old n h1;have hv:=R.vars;unfold facD;rw[Hn,Zke h1,o1];constructor
 ·rintro⟨_,r,rest,hr,hu,hrow,rfl⟩;rw[ZcY hr] at hrow;refine⟨_,rfl,(ZfW hr ?_ hrow.1 hrow.2).1⟩;rw[R.left r hr,R.bases hu (R.locv r hr),o2]
 ·rintro⟨x,rfl,hx⟩;obtain⟨r,hr,e1,e2,e3,e4,_⟩:=ZaR hx;refine⟨by omega,r,x.Ab,hr,?_,?_,?_⟩
  ·have:=(R.root (loc r) (R.locv r hr)).1;have hb:b (loc r)=n:=by have:=R.left r hr;omega
   rw[hb] at this;exact this
  ·rw[ZcY hr];exact⟨e3.symm,e4⟩
  ·rw[←e1,H3,←Tree.eta]
theorem Facd.oldW {v:Int} (h0:0≤v) (h1:v < g.vars) {x:Tree} (hx:fits g x v=true):facW g γ v [x]=Zbo g x:=by
 obtain⟨n,rfl⟩:∃ n:Nat,v=(n:Int):=⟨v.toNat,by omega⟩
 obtain⟨o1,o2⟩:=R.old n h1;obtain⟨r,hr,e1,e2,e3,e4,e5⟩:=ZaR hx;show wordL g ((rulF g x.rule.toNat).right.drop (γ ((n:Int).toNat)).length) (x.Ab.drop (gapT (Zbx g ((n:Int).toNat))).length)=_;rw[Hn,o1,Zke h1,e1,Hn,ZcY hr,e5];rfl
theorem Facd.cat:∀ {ys:List Int} {ls:List (List Tree)},(∀ s∈ys,s < g.vars)→DL (facD g γ par loc) ls (Ab ys)→RowOf g ys ls.flatten∧wordL g ys ls.flatten=catW (facW g γ) ys ls
 | [],ls,_,hd=>by
  obtain rfl:ls=[]:=HX (ZcS hd);exact⟨⟨rfl,by rw[fitss.eq_def];rfl⟩,by rw[Zgl];exact Zbe _ _⟩
 | s::ys,ls,hy,hd=>by
  have hy':∀ s∈ys,s < g.vars:=fun x hx=>hy x (by simp[hx])
  by_cases hs:s < 0
  ·rw[Zc2 hs] at hd;obtain⟨h1,h2⟩:=Facd.cat hy' hd;rw[Zfl hs,Zbi hs,h2];refine⟨?_,rfl⟩;have:=RowOf.append (g:=g) (a:=[s]) (l:=[]) ((Zgz hs).2 rfl) h1;exact this
  ·rw[ZbG hs] at hd;cases ls with
   | nil=>exact hd.elim
   | cons l ls =>
    obtain⟨h0,hd⟩:=hd;obtain⟨x,rfl,hx⟩:=(R.oldD hg (by omega) (hy s (by simp))).1 h0;obtain⟨h1,h2⟩:=Facd.cat hy' hd;rw[Zez hs,GE,R.oldW hg (by omega) (hy s (by simp)) hx,←h2];refine⟨RowOf.append (g:=g) (a:=[s]) ((Zfc hs).2 ⟨x,rfl,hx⟩) h1,?_⟩;rw[Js,Za2 hs]
theorem Facd.uncat:∀ {ys:List Int} {l:List Tree},(∀ s∈ys,s < g.vars)→RowOf g ys l→∃ ls,DL (facD g γ par loc) ls (Ab ys)∧l=ls.flatten
 | [],l,_,hr=>by
  obtain rfl:l=[]:=HX hr.1;exact⟨[],trivial,rfl⟩
 | s::ys,l,hy,hr=>by
  have hy':∀ s∈ys,s < g.vars:=fun x hx=>hy x (by simp[hx])
  obtain⟨l1,l2,rfl,k1,k2⟩:=RowOf.split (a:=[s]) (b:=ys) hr;obtain⟨ls,d1,rfl⟩:=Facd.uncat hy' k2;by_cases hs:s < 0
  ·rw[Zgz hs] at k1;subst k1;exact⟨ls,by rw[Zc2 hs];exact d1,rfl⟩
  ·exact⟨l1::ls,by rw[ZbG hs];exact⟨(R.oldD hg (by omega) (hy s (by simp))).2 ((Zfc hs).1 k1),d1⟩,rfl⟩
omit R hg in
theorem Znp:∀ {us:List Int} {ls ls':List (List Tree)},DL (facD g γ par loc) ls us→DL (facD g γ par loc) ls' us→ls.flatten=ls'.flatten→ls=ls'
 | [],ls,ls',hd,hd',_=>by
  obtain rfl:ls=[]:=HX (ZcS hd);obtain rfl:ls'=[]:=HX (ZcS hd');rfl
 | u::us,ls,ls',hd,hd',e=>by
  match ls,ls',hd,hd' with
  | l::ls,l'::ls',hd,hd' =>
   obtain⟨_,r,rest,_,_,_,e1⟩:=hd.1;obtain⟨_,r',rest',_,_,_,e2⟩:=hd'.1;rw[GE,GE] at e;obtain⟨q1,q2⟩:=List.append_inj e (by rw[e1,e2];rfl);rw[q1,Znp hd.2 hd'.2 q2]
  | [],_,hd,_=>exact hd.elim
  | _::_,[],_,hd'=>exact hd'.elim
theorem Facd.sym {r:Nat} (hr:r < g.Aa.length) {a c:List Int} (e:g.Aa[r].right=a++c):∀ s∈c,s < g.vars:=fun s hs=>hg.hi _ (He hr) s (by rw[e];simp[hs])
theorem Facd.drops {v:Nat} {r:Nat} (hr:r < g.Aa.length) (hu:Up par g.vars.toNat v (loc r)):∃ c,g.Aa[r].right=γ v++c∧(rulF g r).right.drop (γ v).length=c:=by
 obtain⟨j,hj,hT,_,_,e2,_⟩:=R.leaf hr;obtain⟨p,hp⟩:=R.pref hu (R.locv r hr);refine⟨p++h.Aa[j].right,by rw[e2,hp,HH],?_⟩;rw[ZcY hr,e2,hp,HH,GV]
def Zuw (g h:Ac) (v:Int) (l:List Tree):Nat:=100 * (cnts l - (gapT (Zbx g v.toNat)).length)+(h.vars - v).toNat
omit R hg in
theorem Zex (bb:Bool) (rest:List Tree):cnts (gapT bb++rest)=(gapT bb).length+cnts rest:=by
 rw[ZaK];cases bb <;> simp[gapT,cnts,cnt]
theorem Facd.leads (hh:h.ok):ZfS h F (facD g γ par loc) (facW g γ) (Zuw g h) where
 sound j hj ls hd:=by
  have hT:j < T.length:=by rw[R.len];exact hj
  rcases R.ok j hj hT with ⟨r,hr,e1,e2,e3,e4⟩|⟨N,p,e1,n0,n1,e2,e3,e4,e5,e6⟩
  ·obtain⟨k1,k2⟩:=R.cat hg (R.sym hg hr e3) hd;have hl:=ZcS hd;rw[e4,←hl,ZeS,e2];have hdr:(rulF g r).right.drop (γ (loc r)).length=h.Aa[j].right:=by rw[ZcY hr,e3,GV]
   refine⟨⟨by omega,r,ls.flatten,hr,.refl _,by rw[Hn,hdr];exact k1,by rw[Hn]⟩,?_⟩;have:=Zrc (g:=g) (γ:=γ) (v:=(loc r:Int)) (r:=r) (rest:=ls.flatten);rw[Hn] at this;rw[this,hdr,k2]
  ·have hN:¬ (N:Int) < 0:=by omega
   have hk:Ab h.Aa[j].right=Ab p++[(N:Int)]:=by rw[e3,Zes,ZbG hN];rfl
   rw[hk] at hd;obtain⟨ls1,l,rfl,d1,d2⟩:=Zrb hd;obtain⟨_,r,rest,hr,hu,hrow,rfl⟩:=d2;rw[Hn] at hu hrow ⊢;obtain⟨k1,k2⟩:=R.cat hg e5 d1;have hl:=ZcS d1;have hup:Up par g.vars.toNat (par N) (loc r):=by
    have:∀ {u},Up par g.vars.toNat N u→Up par g.vars.toNat (par N) u:=by
     intro u hu
     induction hu with
     | refl=>exact .step (by omega) (.refl _)
     | step hV k ih=>exact .step hV ih
    exact this hu
   obtain⟨c,hc1,hc2⟩:=R.drops hg hr hu;rw[hc2] at hrow;have hdr:(rulF g r).right.drop (γ (par N)).length=p++c:=by rw[ZcY hr,hc1,e4,HH,GV]
   have hgap:=Zno (g:=g) (v:=N) (by have:=hg.vars1;omega) n0;rw[e6,←hl,hgap,Zgj,Zgk hrow,e2,HH];refine⟨⟨by omega,r,ls1.flatten++rest,hr,hup,by rw[Hn,hdr];exact k1.append hrow,by rw[Hn]⟩,?_⟩;have q1:=Zrc (g:=g) (γ:=γ) (v:=(par N:Int)) (r:=r) (rest:=ls1.flatten++rest);have q2:=Zrc (g:=g) (γ:=γ) (v:=(N:Int)) (r:=r) (rest:=rest);rw[Hn] at q1 q2;rw[hgap,hc2] at q2;rw[q1,hdr,e3,Zkd hN _ hl,←k2,q2,ZeI k1.1]
 inj j j' hj hj' ls ls' hl hd hd' he:=by
  have hT:j < T.length:=by rw[R.len];exact hj
  have hT':j' < T.length:=by rw[R.len];exact hj'
  have same:T[j]=T[j']→j=j':=fun q=>(JF R.nodup).1 q
  have hpH:∀ u,g.vars.toNat≤u→u < h.vars.toNat→par u < u:=R.up
  have shape:∀ (j:Nat) (hj:j < h.Aa.length) (hT:j < T.length) (ls:List (List Tree)),DL (facD g γ par loc) ls (Ab h.Aa[j].right)→∀ (N:Nat) (p:List Int),T[j]=(N:Int)→g.vars≤(N:Int)→(N:Int) < h.vars→h.Aa[j].right=p++[(N:Int)]→F.getD j []=ZcX (Ab p).length (Zbx g (par N)) →
    ∃ ls1 r rest,ls=ls1++[[.mk (r:Int) (gapT true++rest)]]∧DL (facD g γ par loc) ls1 (Ab p)∧Up par g.vars.toNat N (loc r)∧r < g.Aa.length∧muL ls (F.getD j [])=[.mk (r:Int) (gapT (Zbx g (par N))++ls1.flatten++rest)]:=by
   intro j hj hT ls hd N p e1 n0 n1 e3 e6;have hN:¬ (N:Int) < 0:=by omega
   have hk:Ab h.Aa[j].right=Ab p++[(N:Int)]:=by rw[e3,Zes,ZbG hN];rfl
   rw[hk] at hd;obtain⟨ls1,l,rfl,d1,d2⟩:=Zrb hd;obtain⟨_,r,rest,hr,hu,hrow,rfl⟩:=d2;rw[Hn] at hu hrow;have hgap:=Zno (g:=g) (v:=N) (by have:=hg.vars1;omega) n0;have hl:=ZcS d1;refine⟨ls1,r,rest,by rw[Hn,hgap],d1,hu,hr,?_⟩;rw[Hn,e6,←hl,hgap,Zgj,Zgk hrow]
  have leafs:∀ (j:Nat) (hj:j < h.Aa.length) (ls:List (List Tree)) (r:Nat),DL (facD g γ par loc) ls (Ab h.Aa[j].right)→F.getD j []=Zb9 r (Ab h.Aa[j].right).length (Zbx g (loc r))→muL ls (F.getD j [])=[.mk (r:Int) (gapT (Zbx g (loc r))++ls.flatten)]:=by
   intro j hj ls r hd e4;rw[e4,←ZcS hd,ZeS]
  rcases R.ok j hj hT with ⟨r,hr,e1,e2,e3,e4⟩|⟨N,p,e1,n0,n1,e2,e3,e4,e5,e6⟩
  ·rcases R.ok j' hj' hT' with ⟨r',hr',e1',e2',e3',e4'⟩|⟨N',p',e1',n0',n1',e2',e3',e4',e5',e6'⟩
   ·rw[leafs j hj ls r hd e4,leafs j' hj' ls' r' hd' e4'] at he;obtain⟨q1,q2⟩:=Tree.mk.inj (HY he).1;obtain rfl:r=r':=(by omega);have q3:=same (by rw[e1,e1']);subst q3;exact⟨rfl,Znp hd hd' (List.append_cancel_left q2)⟩
   ·obtain⟨ls1,r2,rest,rfl,d1,d2,d3,d4⟩:=shape j' hj' hT' ls' hd' N' p' e1' n0' n1' e3' e6';rw[leafs j hj ls r hd e4,d4] at he;obtain⟨q1,_⟩:=Tree.mk.inj (HY he).1;obtain rfl:r=r2:=(by omega);have a1:=d2.le hpH (by have:=R.locv r hr;omega);have a2:=R.up N' (by omega) (by omega);have:(loc r:Int)=(par N':Int):=(by rw[←e2,←e2',hl]);omega
  ·obtain⟨ls1,r1,rest1,rfl,d1,d2,d3,d4⟩:=shape j hj hT ls hd N p e1 n0 n1 e3 e6;rcases R.ok j' hj' hT' with ⟨r',hr',e1',e2',e3',e4'⟩|⟨N',p',e1',n0',n1',e2',e3',e4',e5',e6'⟩
   ·rw[leafs j' hj' ls' r' hd' e4',d4] at he;obtain⟨q1,_⟩:=Tree.mk.inj (HY he).1;obtain rfl:r1=r':=(by omega);have a1:=d2.le hpH (by have:=R.locv r1 d3;omega);have a2:=R.up N (by omega) (by omega);have:(loc r1:Int)=(par N:Int):=(by rw[←e2,←e2',hl]);omega
   ·obtain⟨ls2,r2,rest2,rfl,c1,c2,c3,c4⟩:=shape j' hj' hT' ls' hd' N' p' e1' n0' n1' e3' e6';rw[d4,c4] at he;obtain⟨q1,q2⟩:=Tree.mk.inj (HY he).1;obtain rfl:r1=r2:=(by omega);have hpar:(par N:Int)=(par N':Int):=(by rw[←e2,←e2',hl]);have hNN:=Up.alone hpH d2 c2 (by have:=R.locv r1 d3;omega) (by omega) (by omega) (by omega) (by omega) (v:=par N) rfl (by omega);subst hNN;have q3:=same (by rw[e1,e1']);subst q3;rw[e3] at e3';obtain rfl:p=p':=(JG e3' rfl).1;rw[HH,HH] at q2;have q4:=List.append_cancel_left q2;obtain⟨k1,_⟩:=R.cat hg e5 d1;obtain⟨k2,_⟩:=R.cat hg e5 c1;obtain⟨w1,w2⟩:=List.append_inj q4 (by rw[k1.1,k2.1]);exact⟨rfl,by rw[Znp d1 c1 w1,w2]⟩
 surj v l h0 h1 hd:=by
  obtain⟨n,rfl⟩:∃ n:Nat,v=(n:Int):=⟨v.toNat,by omega⟩
  obtain⟨_,r,rest,hr,hu,hrow,rfl⟩:=hd;rw[Hn] at hu hrow ⊢;have hloc:=R.locv r hr;have hpH:∀ u,g.vars.toNat≤u→u < h.vars.toNat→par u < u:=R.up
  have hvars:=hh.vars;have hsmall:∀ (u:Int) (y:Tree),0≤u→u < g.vars→Zuw g h u [y]≤100 * cnt y+64:=fun u y u0 u1=>by
   unfold Zuw;obtain⟨m,rfl⟩:∃ m:Nat,u=(m:Int):=⟨u.toNat,by omega⟩
   rw[Hn,Zke u1];simp only[cnts,HB];omega
  have htop:Zuw g h (n:Int) [.mk (r:Int) (gapT (Zbx g n)++rest)]=100 * (1+cnts rest)+(h.vars - (n:Int)).toNat:=by
   unfold Zuw;rw[Hn];simp only[cnts,cnt,Zex];omega
  by_cases hl:n=loc r
  ·subst hl;obtain⟨j,hj,hT,e0,e1,e2,e3⟩:=R.leaf hr;have hdr:(rulF g r).right.drop (γ (loc r)).length=h.Aa[j].right:=by rw[ZcY hr,e2,GV]
   rw[hdr] at hrow;obtain⟨ls,d1,rfl⟩:=R.uncat hg (R.sym hg hr e2) hrow;have hlen:=ZcS d1;refine⟨j,hj,ls,e1,d1,by rw[e3,←hlen,ZeS],fun i i1 i2=>?_⟩;have a1:=ZdX (He i1);have hk:=He i2;have b0:=ZbY _ hk;have b1:=R.sym hg hr e2 _ (ZdY hk);obtain⟨x,ex,_⟩:=(R.oldD hg b0 b1).1 (Zwr d1 i i1 i2);rw[htop];rw[ex] at a1 ⊢;have:=hsmall _ x b0 b1;simp only[cnts] at a1;omega
  ·obtain⟨N,n0,n1,n2,n3⟩:=Up.child hpH hu (by omega) hl;subst n2;obtain⟨j,hj,hT,p,e0,e1,e2,e3,e4,e5⟩:=R.node (N:=N) (by have:=hg.vars1;omega) (by omega);obtain⟨c,hc1,hc2⟩:=R.drops hg hr n3;have hdr:(rulF g r).right.drop (γ (par N)).length=p++c:=by rw[ZcY hr,hc1,e3,HH,GV]
   rw[hdr] at hrow;obtain⟨l1,l2,rfl,k1,k2⟩:=hrow.split;obtain⟨ls,d1,rfl⟩:=R.uncat hg e4 k1;have hlen:=ZcS d1;have hN:¬ (N:Int) < 0:=by omega
   have hgap:=Zno (g:=g) (v:=N) (by have:=hg.vars1;omega) (by have:=hg.vars1;omega);have hk:Ab h.Aa[j].right=Ab p++[(N:Int)]:=by rw[e2,Zes,ZbG hN];rfl
   have hDN:facD g γ par loc (N:Int) [.mk (r:Int) (gapT true++l2)]:=⟨by omega,r,l2,hr,by rw[Hn];exact n3,by rw[Hn,hc2];exact k2,by rw[Hn,hgap]⟩
   refine⟨j,hj,ls++[[.mk (r:Int) (gapT true++l2)]],e1,by rw[hk];exact Zv5 d1 hDN,?_,fun i i1 i2=>?_⟩
   ·rw[e5,←hlen,Zgj,Zgk k2,HH]
   ·rw[htop];have hpN:=R.up N (by omega) (by omega);by_cases hi:i < ls.length
    ·have a1:=ZdX (He hi);have hi2:i < (Ab p).length:=(by omega);have eu:(Ab h.Aa[j].right)[i]=(Ab p)[i]:=(by simp only[hk,Jp hi2]);have el:(ls++[[Tree.mk (r:Int) (gapT true++l2)]])[i]=ls[i]:=Jp hi;have hkm:=He hi2;have b0:=ZbY _ hkm;have b1:=e4 _ (ZdY hkm);obtain⟨x,ex,_⟩:=(R.oldD hg b0 b1).1 (Zwr d1 i hi hi2);rw[eu,el,ZaK];rw[ex] at a1 ⊢;have:=hsmall _ x b0 b1;simp only[cnts] at a1;omega
    ·have hi3:i=ls.length:=(by rw[Hk] at i1;simp only[HS] at i1;omega);subst hi3;have eu:(Ab h.Aa[j].right)[ls.length]=(N:Int):=by
      simp only[hk];rw[JC (by omega)];simp
     have el:(ls++[[Tree.mk (r:Int) (gapT true++l2)]])[ls.length]=[Tree.mk (r:Int) (gapT true++l2)]:=by
      rw[JC (Hg _)];simp
     rw[eu,el,ZaK];unfold Zuw;rw[Hn,hgap];simp only[cnts,cnt,Zex];have:(gapT true).length=1:=rfl
     omega
theorem Facd.starts (hs:h.start=g.start) (w:List Int):ZdM g h (facD g γ par loc) (facW g γ) w where
 one l hl:=by
  rw[hs] at hl ⊢;obtain⟨x,rfl,hx⟩:=(R.oldD hg hg.start0 hg.start).1 hl;exact⟨x,rfl,hx,R.oldW hg hg.start0 hg.start hx⟩
 all x hx _:=by
  rw[hs];exact (R.oldD hg hg.start0 hg.start).2 ⟨x,rfl,hx⟩
end
theorem Zip (ls:List (List Tree)):∀ l:List Ad,(∀ x∈l,x.op=2∨x.op=3)→mkA ls l=some (muL ls l)
 | [],_=>rfl
 | x::l,h=>by
  have hx:mkF ls x=some (muF ls x):=by
   rw[Zxx,Zwn];rcases h x (by simp) with e|e
   ·rw[e];rfl
   ·rw[e];rfl
  rw[mkA,hx,Zip ls l fun y hy=>h y (by simp[hy]),muL];rfl
theorem Zo8 (k:Nat) (b:Bool):∀ x∈gapL b++ZaF k,x.op=2∨x.op=3:=fun x hx=>by
 rcases List.mem_append.1 hx with hx|hx
 ·cases b with
  | false=>cases hx
  | true=>rw[List.mem_singleton.1 (show x∈[Ad.mk 3 0 []] from hx)];exact .inr rfl
 ·unfold ZaF at hx;obtain⟨i,_,rfl⟩:=List.mem_map.1 hx;exact .inl rfl
theorem Zhr {l:List Tree} (h:cnts l≤400):ZbV l=some l:=by unfold ZbV;rw[Hb h]
theorem Zv6 {ls:List (List Tree)} {r:Int} {b:Bool} (h:1+((gapT b).length+cnts ls.flatten)≤400):mkL ls (Zb9 r ls.length b)=some (muL ls (Zb9 r ls.length b)):=by
 have h1:=Zip ls _ (Zo8 ls.length b);have h2:muL ls (gapL b++ZaF ls.length)=gapT b++ls.flatten:=by rw[Zd0,Znn,Zd9]
 rw[ZeS];unfold mkL Zb9;rw[mkA,mkF,Hb rfl,h1,h2,mkA];show ((((ZbV (gapT b++ls.flatten)).map _).bind _).bind ZbV)=_;rw[Zhr (by rw[Zex];omega)];show ZbV [Tree.mk r (gapT b++ls.flatten)]=_;exact Zhr (by simp only[cnts,cnt,Zex];omega)
theorem ZzG {ls:List (List Tree)} {l:List Tree} {b:Bool} (h:(gapT b).length+cnts ls.flatten≤400) (h2:cnts (ZaY (gapT b++ls.flatten) l)≤400):mkL (ls++[l]) (ZcX ls.length b)=some (muL (ls++[l]) (ZcX ls.length b)):=by
 have h1:=Zip (ls++[l]) _ (Zo8 ls.length b);have h3:muL (ls++[l]) (gapL b++ZaF ls.length)=gapT b++ls.flatten:=by rw[Zd0,Znn,Zl9]
 have h4:(ls++[l]).getD (((ls.length:Nat):Int).toNat) []=l:=by rw[Hn,Hf,Gp (Hg _),Ga];rfl
 rw[Zgj];unfold mkL ZcX;rw[mkA,mkF,Ha (by decide),Ha (by decide),Ha (by decide),Hb rfl,h1,h3,h4,mkA];show ((((ZbV (gapT b++ls.flatten)).bind _).bind _).bind ZbV)=_;rw[Zhr (by rw[Zex];omega)];show (((ZbV (ZaY (gapT b++ls.flatten) l)).bind _).bind ZbV)=_;rw[Zhr h2];show ZbV (ZaY (gapT b++ls.flatten) l++[])=_;rw[Ht];exact Zhr h2
theorem Zkf {s:Step}:∀ {l:List Tree},(∀ x∈l,cnts (vaT s x)≤cnt x)→cnts (vaL s l).flatten≤cnts l
 | [],_=>Hg _
 | x::l,h=>by
  have:=h x (by simp);have:=Zkf (l:=l) fun y hy=>h y (by simp[hy])
  rw[vaL,GE,ZaK,cnts];omega
theorem Zma (s:Step):∀ (a b:List Tree),vaL s (a++b)=vaL s a++vaL s b
 | [],b=>rfl
 | x::a,b=>by rw[Hv,vaL,vaL,Zma s a b];rfl
section
variable {g:Ac} {s:Step} {γ:Nat→List Int} {par loc b:Nat→Nat} {T:List Int}
variable (R:Facd g s.g s.frags γ par loc b T) (hg:g.ok) (hh:s.g.ok)
include R hg hh
theorem Facd.size:∀ (n:Nat) (t:Tree) (v:Int),cnt t≤n→fits s.g t v=true→cnts (vaT s t)≤cnt t+(gapT (Zbx g v.toNat)).length∧(cnt t+(gapT (Zbx g v.toNat)).length≤400→okT s t)
 | 0,t,_,hn,_=>by have:=Zf0 t;omega
 | n+1,t,v,hn,hf=>by
  obtain⟨j,hj,e1,e2,e3,e4,_⟩:=ZaR hf;have hL:=R.leads hg hh;have hd:DL (facD g γ par loc) (vaL s t.Ab) (Ab s.g.Aa[j].right):=ZzS (ks:=t.Ab) (fun x u _ hfx=>(ZcT hL _ x u (Hg _) hfx).1) _ _ (fun _ q=>q) e3.symm e4;have hT:j < T.length:=by rw[R.len];exact hj
  have hcnt:=ZcB t;have ih:∀ (x:Tree) (u:Int),x∈t.Ab→fits s.g x u=true→cnts (vaT s x)≤cnt x+(gapT (Zbx g u.toNat)).length∧(cnt x+(gapT (Zbx g u.toNat)).length≤400→okT s x):=fun x u hx hfx =>
   Facd.size n x u (by have:=Zbn hx;omega) hfx
  have ihold:∀ (x:Tree) (u:Int),x∈t.Ab→fits s.g x u=true→0≤u→u < g.vars→cnts (vaT s x)≤cnt x∧(cnt x≤400→okT s x):=fun x u hx hfx u0 u1=>by
   obtain⟨m,rfl⟩:∃ m:Nat,u=(m:Int):=⟨u.toNat,by omega⟩
   have:=ih x _ hx hfx;rw[Hn,Zke u1] at this;simpa using this
  rw[Zkk,Zwo,e1,Hn];rcases R.ok j hj hT with ⟨r,hr,f1,f2,f3,f4⟩|⟨N,p,f1,n0,n1,f2,f3,f4,f5,f6⟩
  ·have hsym:=R.sym hg hr f3;have hkid:∀ x∈t.Ab,cnts (vaT s x)≤cnt x∧(cnt x≤400→okT s x):=fun x hx=>by
    obtain⟨i,hi,rfl⟩:=List.mem_iff_getElem.1 hx;have hk:=He (l:=Ab s.g.Aa[j].right) (n:=i) (by omega);exact ihold _ _ hx (Zbv e4 hi (by omega)) (ZbY _ hk) (hsym _ (ZdY hk))
   have h1:=Zkf (s:=s) fun x hx=>(hkid x hx).1
   have hl:=ZcS hd;have hv:v.toNat=loc r:=by omega
   rw[hv,f4,←hl,ZeS];refine⟨by simp only[cnts,cnt,Zex];omega,fun hc=>⟨(Zkl s _).2 fun x hx=>(hkid x hx).2 (by have:=Zbn hx;omega),?_⟩⟩;have:=Zv6 (ls:=vaL s t.Ab) (r:=(r:Int)) (b:=Zbx g (loc r)) (by omega);rw[ZeS] at this;exact this
  ·have hN:¬ (N:Int) < 0:=by omega
   have hk:Ab s.g.Aa[j].right=Ab p++[(N:Int)]:=by rw[f3,Zes,ZbG hN];rfl
   rw[hk] at e3 e4 hd;rw[Hk,HS] at e3;obtain⟨ks,tN,hks⟩:∃ ks tN,t.Ab=ks++[tN]:=by
    rcases List.eq_nil_or_concat t.Ab with q|⟨a,c,q⟩
    ·rw[q] at e3;simp at e3
    ·exact⟨a,c,by rw[q,List.concat_eq_append]⟩
   have hkl:ks.length=(Ab p).length:=by rw[hks,Hk,HS] at e3;omega
   rw[hks] at e4 hd hcnt ih ihold ⊢;rw[ZeH hkl,Hr] at e4;obtain⟨e4a,e4b⟩:=e4;rw[fitss,Hr] at e4b;have hkid:∀ x∈ks,cnts (vaT s x)≤cnt x∧(cnt x≤400→okT s x):=fun x hx=>by
    obtain⟨i,hi,rfl⟩:=List.mem_iff_getElem.1 hx;have hkm:=He (l:=Ab p) (n:=i) (by omega);exact ihold _ _ (by simp[hx]) (Zbv e4a hi (by omega)) (ZbY _ hkm) (f5 _ (ZdY hkm))
   have h1:=Zkf (s:=s) fun x hx=>(hkid x hx).1
   obtain⟨i1,i2⟩:=ih tN N (by simp) e4b.1;have hgap:=Zno (g:=g) (v:=N) (by have:=hg.vars1;omega) n0;rw[Hn,hgap] at i1 i2;obtain⟨dN,_⟩:=ZcT hL _ tN (N:Int) (Hg _) e4b.1;obtain⟨_,r,rest,hr,hu,hrow,ev⟩:=dN;rw[Hn,hgap] at ev;rw[Hn] at hrow;rw[ev] at i1;simp only[cnts,cnt,Zex,show (gapT true).length=1 from rfl] at i1;rw[ZaK] at hcnt;simp only[cnts] at hcnt;have hll:(vaL s ks).length=(Ab p).length:=by rw[Zd8,hkl]
   have hval:vaL s (ks++[tN])=vaL s ks++[[.mk (r:Int) (gapT true++rest)]]:=by
    rw[Zma];show _++[vaT s tN]=_;rw[ev]
   have hv:v.toNat=par N:=by omega
   rw[hval,hv,f6,←hll,Zgj,Zgk hrow];have htot:cnts [Tree.mk (r:Int) (gapT (Zbx g (par N))++(vaL s ks).flatten++rest)]=1+((gapT (Zbx g (par N))).length+cnts (vaL s ks).flatten+cnts rest):=by
    simp only[cnts,cnt];rw[ZaK,Zex];omega
   refine⟨by rw[htot];omega,fun hc=>⟨(Zkl s _).2 fun x hx=>?_,?_⟩⟩
   ·rcases List.mem_append.1 hx with hx|hx
    ·exact (hkid x hx).2 (by have:=Zbn hx;omega)
    ·rw[List.mem_singleton.1 hx];exact i2 (by rw[show (gapT true).length=1 from rfl];omega)
   ·have:=ZzG (ls:=vaL s ks) (l:=[.mk (r:Int) (gapT true++rest)]) (b:=Zbx g (par N)) (by omega) (by rw[Zgk hrow,htot];omega);rw[Zgj,Zgk hrow] at this;exact this
theorem Facd.okay (hs:s.g.start=g.start) {w:List Int} (t:Tree) (ht:IsW s.g w t) (hc:cnt t≤400):okT s t:=by
 obtain⟨_,h2⟩:=R.size hg hh _ t _ (Hg _) ht.1;refine h2 ?_;rw[hs,show g.start.toNat=stN g from rfl,Zke (by rw[hg.stN];exact hg.start)];simpa using hc
end
section
variable {g h:Ac} {F:List (List Ad)} {γ:Nat→List Int} {par loc b:Nat→Nat} {T:List Int}
variable (R:Facd g h F γ par loc b T) (hg:g.ok) (hh:h.ok)
omit hg hh R in
theorem ZsI {N u:Nat} (hN:g.vars.toNat≤N) (k:Up par g.vars.toNat N u):Up par g.vars.toNat (par N) u:=by
 induction k with
 | refl=>exact .step hN (.refl _)
 | step hV k ih=>exact .step hV ih
include R hg
theorem Facd.oldNull {v:Int} (h0:0≤v) (h1:v < g.vars) {r:Nat} (hr:r < g.Aa.length) (hu:Up par g.vars.toNat v.toNat (loc r)):g.Aa[r].left=v∧(rulF g r).right.drop (γ v.toNat).length=g.Aa[r].right:=by
 obtain⟨n,rfl⟩:∃ n:Nat,v=(n:Int):=⟨v.toNat,by omega⟩
 rw[Hn] at hu ⊢;obtain⟨o1,o2⟩:=R.old n h1;rw[o1,ZcY hr];refine⟨?_,rfl⟩;rw[R.left r hr,R.bases hu (R.locv r hr),o2]
include hh
theorem Facd.null:∀ v,has (nulB h) v=true→∃ r,r < g.Aa.length∧Up par g.vars.toNat v.toNat (loc r)∧ZaQ ((rulF g r).right.drop (γ v.toNat).length) (nulB g)=true:=by
 have hold:∀ s:Int,0≤s→s < g.vars→(∃ r,r < g.Aa.length∧Up par g.vars.toNat s.toNat (loc r)∧ZaQ ((rulF g r).right.drop (γ s.toNat).length) (nulB g)=true)→has (nulB g) s=true:=fun s s0 s1 ⟨r,hr,hu,hi⟩=>by
  obtain⟨e1,e2⟩:=R.oldNull hg s0 s1 hr hu;rw[e2] at hi;simp only[ZaQ,HR] at hi;rw[←e1];exact ZeW hg (He hr) hi
 refine ZhB hh _ fun q hq hin=>?_
 obtain⟨j,hj,rfl⟩:=List.mem_iff_getElem.1 hq;have hT:j < T.length:=by rw[R.len];exact hj
 rcases R.ok j hj hT with ⟨r,hr,f1,f2,f3,f4⟩|⟨N,p,f1,n0,n1,f2,f3,f4,f5,f6⟩
 ·have hsym:=R.sym hg hr f3;rw[f2,Hn];refine⟨r,hr,.refl _,?_⟩;rw[ZcY hr,f3,GV];simp only[ZaQ,HR];exact fun s hs=>hold s (hin s hs).1 (hsym s hs) (hin s hs).2
 ·obtain⟨_,r,hr,hu,hi⟩:=hin (N:Int) (by rw[f3];simp);rw[Hn] at hu hi;obtain⟨c,hc1,hc2⟩:=R.drops hg hr hu;rw[hc2] at hi;rw[f2,Hn];refine⟨r,hr,ZsI (by omega) hu,?_⟩;rw[ZcY hr,hc1,f4,HH,GV];refine inAll_both.2 ⟨?_,hi⟩;simp only[ZaQ,HR];exact fun s hs=>hold s (hin s (by rw[f3];simp[hs])).1 (f5 s hs) (hin s (by rw[f3];simp[hs])).2
theorem Facd.oldNulls {l:List Int} (hl:∀ s∈l,s < g.vars) (hi:ZaQ l (nulB h)=true):ZaQ l (nulB g)=true:=by
 simp only[ZaQ,HR] at hi ⊢;intro s hs;have h1:=hi s hs;have h0:=(Zfe h1).1;obtain⟨r,hr,hu,hn⟩:=R.null hg hh s h1;obtain⟨e1,e2⟩:=R.oldNull hg h0 (hl s hs) hr hu;rw[e2] at hn;simp only[ZaQ,HR] at hn;rw[←e1];exact ZeW hg (He hr) hn
theorem Facd.cyc (hc:cycL g=[]):cycL h=[]:=by
 classical
 let M:Int→Nat:=fun u=>maxN ((List.range g.Aa.length).map fun r=>if Up par g.vars.toNat u.toNat (loc r) then mxR g ((rulF g r).right.drop (γ u.toNat).length) else 0)
 have hM:∀ (u:Int) (r:Nat),r < g.Aa.length→Up par g.vars.toNat u.toNat (loc r)→mxR g ((rulF g r).right.drop (γ u.toNat).length)≤M u:=fun u r hr hu=>by
  refine Zub (List.mem_map.2 ⟨r,List.mem_range.2 hr,?_⟩);rw[Hb hu]
 have hMle:∀ (u:Int) (B:Nat),(∀ r,r < g.Aa.length→Up par g.vars.toNat u.toNat (loc r)→mxR g ((rulF g r).right.drop (γ u.toNat).length)≤B)→M u≤B:=fun u B hB=>by
  refine Zzk fun x hx=>?_
  obtain⟨r,hr,rfl⟩:=List.mem_map.1 hx;split
  ·rename_i hu;exact hB r (List.mem_range.1 hr) hu
  ·exact Hh _
 let rk:Int→Nat:=fun u=>if u < g.vars then 100 * rnk g u+99 else 100 * M u+(64 - u).toNat
 have rkO:∀ u,u < g.vars→rk u=100 * rnk g u+99:=fun u hu=>Hb hu
 have rkN:∀ u,¬ u < g.vars→rk u=100 * M u+(64 - u).toNat:=fun u hu=>Ha hu
 have hv64:=hh.vars;have key:∀ (u y:Int) (r:Nat),0≤u→r < g.Aa.length→Up par g.vars.toNat u.toNat (loc r)→y < g.vars→y∈ZbZ (nulB g) false ((rulF g r).right.drop (γ u.toNat).length)→rk y < rk u:=fun u y r u0 hr hu hy hp=>by
  rw[rkO y hy];by_cases q:u < g.vars
  ·rw[rkO u q];obtain⟨e1,e2⟩:=R.oldNull hg u0 q hr hu;rw[e2] at hp;have:=ZdO hg hc u0 q (overBy_mem.2 ⟨_,He hr,e1,hp⟩);omega
  ·rw[rkN u q];have h1:=ZoS hp;have h2:=hM u r hr hu;omega
 refine ZiK hh rk fun u u' h0 h1 hu=>?_
 obtain⟨q,hq,e1,pre,post,e2,u0,e3,e4⟩:=stepA_iff.1 hu;obtain⟨j,hj,rfl⟩:=List.mem_iff_getElem.1 hq;have hT:j < T.length:=by rw[R.len];exact hj
 rcases R.ok j hj hT with ⟨r,hr,f1,f2,f3,f4⟩|⟨N,p,f1,n0,n1,f2,f3,f4,f5,f6⟩
 ·have hsym:=R.sym hg hr f3;rw[e2] at hsym;have hul:u.toNat=loc r:=by omega
  refine key u u' r h0 hr (by rw[hul];exact .refl _) (hsym u' (by simp)) ?_;rw[hul,ZcY hr,f3,GV,e2];exact picks_iff.2 ⟨pre,post,rfl,u0,R.oldNulls hg hh (fun s hs=>hsym s (by simp[hs])) e3,R.oldNulls hg hh (fun s hs=>hsym s (by simp[hs])) e4⟩
 ·have hul:u.toNat=par N:=by omega
  have hpN:=R.up N (by have:=hg.vars1;omega) (by omega);have hdr:∀ r,r < g.Aa.length→Up par g.vars.toNat N (loc r)→∃ c,(rulF g r).right.drop (γ N).length=c∧(rulF g r).right.drop (γ (par N)).length=p++c:=fun r hr hk=>by
   obtain⟨c,hc1,hc2⟩:=R.drops hg hr hk;exact⟨c,hc2,by rw[ZcY hr,hc1,f4,HH,GV]⟩
  rw[f3] at e2;rcases List.eq_nil_or_concat post with rfl|⟨post',x,rfl⟩
  ·obtain⟨rfl,e5⟩:=JG e2 rfl;obtain rfl:(N:Int)=u':=(HY e5).1;have hp:=R.oldNulls hg hh f5 e3;rw[rkN (N:Int) (by omega)];have hst:∀ r,r < g.Aa.length→Up par g.vars.toNat N (loc r)→∀ z,z∈ZbZ (nulB g) false ((rulF g r).right.drop (γ N).length)→z∈ZbZ (nulB g) false ((rulF g r).right.drop (γ (par N)).length):=fun r hr hk z hz=>by
    obtain⟨c,c1,c2⟩:=hdr r hr hk;rw[c1] at hz;rw[c2];obtain⟨a1,a2,d1,d2,d3,d4⟩:=picks_iff.1 hz;exact picks_iff.2 ⟨p++a1,a2,by rw[d1,HH],d2,inAll_both.2 ⟨hp,d3⟩,d4⟩
   by_cases q:u < g.vars
   ·rw[rkO u q];have:M (N:Int)≤rnk g u:=hMle _ _ fun r hr hk=>by
     rw[Hn] at hk ⊢;have hk2:=ZsI (g:=g) (by have:=hg.vars1;omega) hk;rw[←hul] at hk2;obtain⟨e6,e7⟩:=R.oldNull hg h0 q hr hk2;refine Zuc fun z hz=>?_
     have:=hst r hr hk z hz;rw[←hul,e7] at this;exact ZdO hg hc h0 q (overBy_mem.2 ⟨_,He hr,e6,this⟩)
    omega
   ·rw[rkN u q];have:M (N:Int)≤M u:=hMle _ _ fun r hr hk=>by
     rw[Hn] at hk ⊢;have hk2:=ZsI (g:=g) (by have:=hg.vars1;omega) hk;rw[←hul] at hk2;refine Hq (Zuc fun z hz=>?_) (hM u r hr hk2);refine ZoS ?_;rw[hul];exact hst r hr hk z hz
    omega
  ·rw[List.concat_eq_append] at e2 e4;have e5:p++[(N:Int)]=(pre++u'::post')++[x]:=by rw[e2];simp
   obtain⟨e6,e7⟩:=JG e5 rfl;obtain rfl:(N:Int)=x:=(HY e7).1;obtain⟨e8,e9⟩:=inAll_both.1 e4;have hNn:has (nulB h) (N:Int)=true:=by simpa[ZaQ] using e9
   obtain⟨r,hr,hk,hi⟩:=R.null hg hh _ hNn;rw[Hn] at hk hi;obtain⟨c,c1,c2⟩:=hdr r hr hk;rw[c1] at hi;have hk2:=ZsI (g:=g) (by have:=hg.vars1;omega) hk;rw[←hul] at hk2;refine key u u' r h0 hr hk2 (f5 u' (by rw[e6];simp)) ?_;rw[hul,c2,e6];exact picks_iff.2 ⟨pre,post'++c,by simp,u0,R.oldNulls hg hh (fun s hs=>f5 s (by rw[e6];simp[hs])) e3,inAll_both.2 ⟨R.oldNulls hg hh (fun s hs=>f5 s (by rw[e6];simp[hs])) e8,hi⟩⟩
end
theorem Facd.same {g:Ac} {s:Step} {γ:Nat→List Int} {par loc b:Nat→Nat} {T:List Int} (R:Facd g s.g s.frags γ par loc b T) (hs:(Zam g s).code=0) (ht:s.g.terms=g.terms) (h0:s.g.start=g.start) (w:List Int):ZgH g s w false:=by
 obtain⟨hg,hh,_⟩:=Zb3 hs;exact Zis hs ht (fun hc=>R.cyc hg hh hc) (R.leads hg hh) (R.starts hg h0 w) (fun t ht hc _=>R.okay hg hh h0 t ht hc)
end Go.Proofs.YtbpmepgnjanhnaaGreat
