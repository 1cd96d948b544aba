import Derived.Test.YtbpmepgnjanhnaaGreatQTurnX
import Derived.Test.YtbpmepgnjanhnaaGreatQShortS
import Derived.Test.YtbpmepgnjanhnaaGreatFactorS
set_option linter.unusedVariables false
set_option linter.unusedSimpArgs false
set_option linter.unusedSectionVars false
namespace Go.Proofs.YtbpmepgnjanhnaaGreat
open Go.RowKit
section
variable {g:Ac} {z:List (List Ae)} {E:Int→Tree→Prop}
abbrev ZdH (g:Ac) (z:List (List Ae)):Ac:=⟨(z.length:Nat),g.terms,g.start,Zbh z 0⟩
theorem Zqm {r:Nat} (hr:r < (ZdH g z).Aa.length):∃ e,∃ he:r < (entW z 0).length,(entW z 0)[r]=e∧e.2∈z.getD e.1 []∧e.1 < z.length∧(ZdH g z).Aa[r]=⟨(e.1:Int),e.2.right⟩∧(ZaU z).getD r []=e.2.l:=by
 obtain⟨h1,h2⟩:=ZiZ z 0;have hr:r < (Zbh z 0).length:=hr;have he:r < (entW z 0).length:=by rw[h1,Hi] at hr;exact hr
 obtain⟨k1,k2⟩:=ZyQ (He he);refine⟨_,he,rfl,k1,k2,?_,?_⟩
 ·show (Zbh z 0)[r]=_;simp only[h1,Gu]
 ·rw[h2,Hf,Gg,Hj he];rfl
theorem TSt.one (T:TSt g z E) {u:Nat} (hu:u < z.length) {w:Ae} (hw:w∈z.getD u []) {xs:List Tree} (hx:EL E xs (Ab w.right)):∃ y,muL (sing xs) w.l=[y]∧E (u:Int) y∧gwT g y=gwK g w.right xs∧∀ k∈xs,c0T k < c0T y:=by
 by_cases h:u < g.vars.toNat
 ·have V:=T.old u h;obtain⟨y,h1,_,h3,h4⟩:=(V.ws w hw).one xs (Zqq hx);exact⟨y,h1,(T.base _ _ (by omega)).2 ((V.ws w hw).fit xs y hx h1),h3,h4⟩
 ·exact (T.new u (by omega) hu).one w hw xs hx
theorem TSt.inj (T:TSt g z E) {u:Nat} (hu:u < z.length) {w:Ae} (hw:w∈z.getD u []) {xs xs':List Tree} (hx:EL E xs (Ab w.right)) (hx':EL E xs' (Ab w.right)) (he:muL (sing xs) w.l=muL (sing xs') w.l):xs=xs':=by
 by_cases h:u < g.vars.toNat
 ·exact ((T.old u h).ws w hw).inj xs xs' (Zqq hx) (Zqq hx') he
 ·exact (T.new u (by omega) hu).inj w hw xs xs' hx hx' he
def DisE (E:Int→Tree→Prop) (w w':Ae):Prop:=∀ xs xs',EL E xs (Ab w.right)→EL E xs' (Ab w'.right)→muL (sing xs) w.l≠muL (sing xs') w'.l
theorem TSt.dis (T:TSt g z E) (u:Nat):(z.getD u []).Pairwise (DisE E):=by
 by_cases hu:u < z.length
 ·by_cases h:u < g.vars.toNat
  ·exact List.Pairwise.imp (fun {a b} hd xs xs' q q'=>hd xs xs' (Zqq q) (Zqq q')) (T.old u h).dis
  ·exact (T.new u (by omega) hu).dis
 ·rw[Hf,HI (by omega)];exact H7
theorem TSt.surj (T:TSt g z E) {u:Nat} (hu:u < z.length) {y:Tree} (hy:E (u:Int) y):∃ w∈z.getD u [],∃ xs,EL E xs (Ab w.right)∧muL (sing xs) w.l=[y]:=by
 by_cases h:u < g.vars.toNat
 ·exact (T.old u h).surj y ((T.base _ _ (by omega)).1 hy)
 ·exact (T.new u (by omega) hu).surj y hy
theorem TSt.leads (T:TSt g z E):ZfS (ZdH g z) (ZaU z) (oneD E) (gW g) (fun _ l=>c0L l) where
 sound r hr ls hd:=by
  obtain⟨⟨u,w⟩,he,e0,e1,e2,e3,e4⟩:=Zqm (g:=g) hr;dsimp only at e1 e2 e3 e4;rw[e3] at hd ⊢;dsimp only at hd ⊢;rw[e4];obtain⟨xs,rfl,hx⟩:=Zkn hd;obtain⟨y,h1,h2,h3,_⟩:=T.one e2 e1 hx;rw[h1,Zow];refine⟨⟨y,rfl,h2⟩,?_⟩;rw[←h3];simp
 inj r r' hr hr' ls ls' hl hd hd' he:=by
  obtain⟨⟨u,w⟩,hu,e0,e1,e2,e3,e4⟩:=Zqm (g:=g) hr;obtain⟨⟨u',w'⟩,hu',f0,f1,f2,f3,f4⟩:=Zqm (g:=g) hr';dsimp only at e1 e2 e3 e4 f1 f2 f3 f4;rw[e3] at hd hl;rw[f3] at hd' hl;dsimp only at hd hd' hl;rw[e4,f4] at he;obtain⟨xs,rfl,hx⟩:=Zkn hd;obtain⟨xs',rfl,hx'⟩:=Zkn hd';obtain rfl:u=u':=by omega
  have hpw:=List.pairwise_iff_getElem.1 (ZyP (R:=fun _=>DisE E) z 0 fun u=>T.dis u);have hrr:r=r':=by
   rcases G9 r r' with q|q|q
   ·have:=hpw r r' hu hu' q;rw[e0,f0] at this;exact absurd he (this rfl _ _ hx hx')
   ·exact q
   ·have:=hpw r' r hu' hu q;rw[e0,f0] at this;exact absurd he.symm (this rfl _ _ hx' hx)
  subst hrr;rw[e0] at f0;obtain⟨_,rfl⟩:=Je f0;exact⟨rfl,by rw[T.inj e2 e1 hx hx' he]⟩
 surj v l h0 h1 hd:=by
  obtain⟨y,rfl,hy⟩:=hd;obtain⟨u,rfl⟩:∃ u:Nat,v=(u:Int):=⟨v.toNat,by omega⟩
  have hu:u < z.length:=by
   have:(u:Int) < ((z.length:Nat):Int):=h1
   omega
  obtain⟨w,hw,xs,hx,hv⟩:=T.surj hu hy;obtain⟨r,hr,e⟩:=List.mem_iff_getElem.1 (entW_mem.2 ⟨u,w,hw,rfl⟩:((0+u,w):Nat×Ae)∈entW z 0);have hrl:r < (ZdH g z).Aa.length:=by
   show r < (Zbh z 0).length;rw[(ZiZ z 0).1,Hi];exact hr
  obtain⟨⟨u',w'⟩,_,e0,e1,e2,e3,e4⟩:=Zqm (g:=g) hrl;rw[e,HE] at e0;obtain⟨rfl,rfl⟩:=Je e0;dsimp only at e3 e4;refine⟨r,hrl,sing xs,by rw[e3],by rw[e3];exact ZBR hx,by rw[e4,hv],fun i h1 h2=>?_⟩;obtain⟨y',k1,_,_,k4⟩:=T.one hu hw hx;obtain rfl:y=y':=by rw[hv] at k1;simpa using k1
  rw[ZeA] at h1;have:=k4 _ (He h1);simp only[sing,Gu,c0L];omega
end
mutual
def gfT:Tree→Bool
 | .mk r ks=>if r = -1 then decide (ks.length=0) else gfL ks
def gfL:List Tree→Bool
 | []=>true
 | x::l=>gfT x && gfL l
end
theorem ZiU:∀ a b:List Tree,gfL (a++b)=(gfL a && gfL b)
 | [],b=>by simp[gfL]
 | x::a,b=>by rw[Hv,gfL,gfL,ZiU a b,Bool.and_assoc]
mutual
theorem ZC3 {w:List Tree} (hw:gfL w=true):∀ x:Tree,gfT x=true→gfL (Zfs w x)=true
 | .mk r ks,h=>by
  rw[gfT] at h;rw[Zfs];by_cases hr:r = -1
  ·rw[Hb hr];exact hw
  ·rw[Ha hr] at h ⊢;rw[gfL,gfT,Ha hr,Zoq hw ks h];rfl
theorem Zoq {w:List Tree} (hw:gfL w=true):∀ l:List Tree,gfL l=true→gfL (ZaY w l)=true
 | [],_=>rfl
 | x::l,h=>by
  rw[gfL,Hr] at h;rw[ZaY,ZiU,ZC3 hw x h.1,Zoq hw l h.2];rfl
end
mutual
theorem ZEm {m:Int} {ks:List (List Tree)} (hk:∀ l∈ks,gfL l=true):∀ x:Ad,wfF m x→gfL (muF ks x)=true
 | .mk o n l,h=>by
  have hg:∀ n:Nat,gfL (ks.getD n [])=true:=fun n=>by
   rw[Hf];by_cases q:n < ks.length
   ·rw[Hj q];exact hk _ (He q)
   ·rw[HI (by omega)];rfl
  rw[wfF] at h;rcases h with ⟨rfl,h1,_,hl⟩|⟨rfl,rfl⟩|⟨rfl,_,rfl⟩|⟨rfl,hl⟩
  ·rw[Zqo,gfL,gfT,Ha (by omega),ZtK hk l hl];rfl
  ·rw[Zot];exact hg _
  ·rw[Zqp];rfl
  ·rw[Zou];exact Zoq (ZtK hk l hl) _ (hg _)
theorem ZtK {m:Int} {ks:List (List Tree)} (hk:∀ l∈ks,gfL l=true):∀ l:List Ad,wfL m l→gfL (muL ks l)=true
 | [],_=>rfl
 | x::r,h=>by rw[muL,ZiU,ZEm hk x h.1,ZtK hk r h.2];rfl
end
theorem ZBh {l:List Tree} (h:l≠[]):1≤cnts l:=by
 cases l with
 | nil=>exact absurd rfl h
 | cons x l=>have:=Zf0 x;rw[cnts];omega
mutual
theorem ZEn {w:List Tree}:∀ x:Tree,hgT x=true→cnts w≤cnts (Zfs w x)
 | .mk r ks,h=>by
  rw[hgT,Gj,HZ] at h;rw[Zfs];by_cases hr:r = -1
  ·rw[Hb hr];exact Hg _
  ·rw[Ha hr];have:=Zor (w:=w) ks (h.resolve_left hr);simp only[cnts,cnt];omega
theorem Zor {w:List Tree}:∀ l:List Tree,hgL l=true→cnts w≤cnts (ZaY w l)
 | [],h=>by rw[hgL] at h;cases h
 | x::l,h=>by
  rw[hgL,Gj] at h;rw[ZaY,ZaK];rcases h with h|h
  ·have:=ZEn (w:=w) x h;omega
  ·have:=Zor (w:=w) l h;omega
end
mutual
theorem ZEo {w:List Tree} (hw:w≠[]):∀ x:Tree,gfT x=true→cnt x≤cnts (Zfs w x)
 | .mk r ks,h=>by
  rw[gfT] at h;rw[Zfs];by_cases hr:r = -1
  ·rw[Hb hr] at h ⊢;have h1:=ZBh hw;obtain rfl:ks=[]:=HX (H0 h);simp only[cnt,cnts];omega
  ·rw[Ha hr] at h ⊢;have:=Zr3 hw ks h;simp only[cnts,cnt];omega
theorem Zr3 {w:List Tree} (hw:w≠[]):∀ l:List Tree,gfL l=true→cnts l≤cnts (ZaY w l)
 | [],_=>by simp[cnts]
 | x::l,h=>by
  rw[gfL,Hr] at h;have h1:=ZEo hw x h.1;have h2:=Zr3 hw l h.2;rw[ZaY,ZaK,cnts];omega
end
theorem ZC4 {w:List Tree} (hw:w≠[]):∀ {l:List Tree},l≠[]→ZaY w l≠[]
 | [],h=>absurd rfl h
 | x::l,_=>by
  rw[ZaY];intro q;have:=(List.append_eq_nil_iff.1 q).1;rw[ZjH] at this;split at this
  ·exact hw this
  ·cases this
section
variable {m:Int} {p:Int→Prop} {ks:List (List Tree)}
mutual
theorem ZEp:∀ x:Ad,wfF m x→tyF p x→(∀ n∈kdF x,ks.getD n.toNat []≠[])→muF ks x≠[]
 | .mk o n l,h,ht,hk=>by
  rw[wfF] at h;rw[tyF] at ht;rcases h with ⟨rfl,_,_,hl⟩|⟨rfl,rfl⟩|⟨rfl,_,rfl⟩|⟨rfl,hl⟩
  ·rw[Zqo];simp
  ·rw[Zot];exact hk n (by rw[ZkG];simp)
  ·rw[Zqp];simp
  ·rw[Zvz] at hk;rw[Zou];exact ZC4 (ZB2 l hl ht.2 (fun q hq=>hk q (by simp[hq])) (ht.1 rfl).2) (hk n (by simp))
theorem ZB2:∀ l:List Ad,wfL m l→tyL p l→(∀ n∈kdL l,ks.getD n.toNat []≠[])→l≠[]→muL ks l≠[]
 | [],_,_,_,h=>absurd rfl h
 | x::r,h,ht,hk,_=>by
  rw[kdL] at hk;rw[muL];intro q;exact ZEp x h.1 ht.1 (fun n hn=>hk n (by simp[hn])) (List.append_eq_nil_iff.1 q).1
end
mutual
theorem ZBi (hp:∀ n,p n→hgL (ks.getD n.toNat [])=true):∀ x:Ad,wfF m x→tyF p x→cnts (muF ks x)≤400→mkF ks x=some (muF ks x)
 | .mk o n l,h,ht,hc=>by
  rw[wfF] at h;rw[tyF] at ht;rcases h with ⟨rfl,_,_,hl⟩|⟨rfl,rfl⟩|⟨rfl,_,rfl⟩|⟨rfl,hl⟩
  ·rw[Zqo] at hc ⊢;simp only[cnts,cnt] at hc;rw[mkF,Hb rfl,ZjQ hp l hl ht.2 (by omega)];show ((ZbV (muL ks l)).map _)=_;unfold ZbV;rw[Hb (by omega)];rfl
  ·rw[Zot,mkF,Ha (by decide),Hb rfl]
  ·rw[Zqp,mkF,Ha (by decide),Ha (by decide),Hb rfl]
  ·rw[Zou] at hc ⊢;have h1:=Zor (w:=muL ks l) _ (hp n (ht.1 rfl).1);rw[mkF,Ha (by decide),Ha (by decide),Ha (by decide),Hb rfl,ZjQ hp l hl ht.2 (by omega)];show ((ZbV (muL ks l)).bind _)=_;unfold ZbV;rw[Hb (by omega)];show (if _ then _ else _)=_;rw[Hb hc]
theorem ZjQ (hp:∀ n,p n→hgL (ks.getD n.toNat [])=true):∀ l:List Ad,wfL m l→tyL p l→cnts (muL ks l)≤400→mkA ks l=some (muL ks l)
 | [],_,_,_=>rfl
 | x::r,h,ht,hc=>by
  rw[muL,ZaK] at hc;rw[mkA,ZBi hp x h.1 ht.1 (by omega),ZjQ hp r h.2 ht.2 (by omega),muL];rfl
end
mutual
theorem ZBj (hg:∀ n:Nat,gfL (ks.getD n [])=true):∀ x:Ad,wfF m x→tyF p x→(∀ n∈kdF x,ks.getD n.toNat []≠[])→(∀ n,p n→hgL (ks.getD n.toNat [])=true)→∀ n∈kdF x,cnts (ks.getD n.toNat [])≤cnts (muF ks x)
 | .mk o n l,h,ht,hk,hp=>by
  intro q hq;rw[wfF] at h;rw[tyF] at ht;rcases h with ⟨rfl,_,_,hl⟩|⟨rfl,rfl⟩|⟨rfl,_,rfl⟩|⟨rfl,hl⟩
  ·rw[ZyC] at hk hq;have:=ZjR hg l hl ht.2 hk hp q hq;rw[Zqo];simp only[cnts,cnt];omega
  ·rw[ZkG] at hq;rw[List.mem_singleton.1 hq,Zot];exact Hg _
  ·rw[kdF,Ha (by decide),Ha (by decide),Ha (by decide)] at hq;cases hq
  ·rw[Zvz] at hk hq;have hk':∀ n∈kdL l,ks.getD n.toNat []≠[]:=fun q hq=>hk q (by simp[hq])
   rw[Zou];rcases List.mem_cons.1 hq with rfl|hq
   ·exact Zr3 (ZB2 l hl ht.2 hk' (ht.1 rfl).2) _ (hg _)
   ·have h1:=ZjR hg l hl ht.2 hk' hp q hq;have h2:=Zor (w:=muL ks l) _ (hp n (ht.1 rfl).1);omega
theorem ZjR (hg:∀ n:Nat,gfL (ks.getD n [])=true):∀ l:List Ad,wfL m l→tyL p l→(∀ n∈kdL l,ks.getD n.toNat []≠[])→(∀ n,p n→hgL (ks.getD n.toNat [])=true)→∀ n∈kdL l,cnts (ks.getD n.toNat [])≤cnts (muL ks l)
 | [],_,_,_,_=>fun q hq=>by rw[kdL] at hq;cases hq
 | x::r,h,ht,hk,hp=>by
  intro q hq;rw[kdL] at hk hq;rw[muL,ZaK];rcases List.mem_append.1 hq with hq|hq
  ·have:=ZBj hg x h.1 ht.1 (fun n hn=>hk n (by simp[hn])) hp q hq;omega
  ·have:=ZjR hg r h.2 ht.2 (fun n hn=>hk n (by simp[hn])) hp q hq;omega
end
end
section
variable {g:Ac} {z:List (List Ae)} {E:Int→Tree→Prop}
theorem Zos (T:TSt g z E) (hI:TInv g z) (hz:∀ u,∀ w∈z.getD u [],ZOk g w):∀ (n:Nat) (t:Tree) (v:Int),cnt t≤n→fits (ZdH g z) t v=true→gfL (vaT ⟨ZdH g z,ZaU z,[]⟩ t)=true∧(cnts (vaT ⟨ZdH g z,ZaU z,[]⟩ t)≤400→okT ⟨ZdH g z,ZaU z,[]⟩ t)
 | 0,t,_,hn,_=>by have:=Zf0 t;omega
 | n+1,t,v,hn,hf=>by
  obtain⟨r,hr,e1,e2,e3,e4,_⟩:=ZaR hf;obtain⟨⟨u,w⟩,he,e0,f1,f2,f3,f4⟩:=Zqm (g:=g) hr;dsimp only at f1 f2 f3 f4;have hto:=hI.ok u w f1;have hzo:=hz u w f1;rw[f3] at e2 e3 e4;dsimp only at e2 e3 e4;have hsub:∀ x∈t.Ab,cnt x≤n:=fun x hx=>by
   have:=Zbn hx;rw[ZcB] at hn;omega
  have hL:ZfS (ZdH g z) (⟨ZdH g z,ZaU z,[]⟩:Step).frags (oneD E) (gW g) (fun _ l=>c0L l):=T.leads;have hrow:∀ (i:Nat) (h1:i < t.Ab.length) (h2:i < (Ab w.right).length),oneD E (Ab w.right)[i] (vaT ⟨ZdH g z,ZaU z,[]⟩ t.Ab[i]):=fun i h1 h2 =>
   (ZcT hL _ _ _ (Hg _) (Zbv e4 h1 h2)).1
  have hgk:∀ l∈vaL ⟨ZdH g z,ZaU z,[]⟩ t.Ab,gfL l=true:=fun l hl=>by
   obtain⟨i,hi,rfl⟩:=List.mem_iff_getElem.1 hl;rw[Zd8] at hi;rw[Zfm _ _ i hi];exact (Zos T hI hz n _ _ (hsub _ (He hi)) (Zbv e4 hi (by omega))).1
  have hgn:∀ i:Nat,gfL ((vaL ⟨ZdH g z,ZaU z,[]⟩ t.Ab).getD i [])=true:=fun i=>by
   rw[Hf];by_cases q:i < (vaL ⟨ZdH g z,ZaU z,[]⟩ t.Ab).length
   ·rw[Hj q];exact hgk _ (He q)
   ·rw[HI (by omega)];rfl
  have hat:∀ i:Nat,i < t.Ab.length→∃ s y,(Ab w.right)[i]? = some s∧E s y∧(vaL ⟨ZdH g z,ZaU z,[]⟩ t.Ab).getD i []=[y]:=fun i hi=>by
   obtain⟨y,h1,h2⟩:=hrow i hi (by omega);refine⟨_,y,Hj (by omega),h2,?_⟩;rw[Hf,Hj (by rw[Zd8];exact hi),HW,Zfm _ _ i hi,h1]
  have hkd:∀ q∈kdL w.l,0≤q∧q.toNat < t.Ab.length:=fun q hq=>by
   have:=upTo_mem.1 (hto.kd.mem_iff.1 hq);omega
  have hne:∀ q∈kdL w.l,(vaL ⟨ZdH g z,ZaU z,[]⟩ t.Ab).getD q.toNat []≠[]:=fun q hq=>by
   obtain⟨s,y,_,_,h3⟩:=hat _ (hkd q hq).2;rw[h3];simp
  have hp:∀ q,Zr6 g w.right q→hgL ((vaL ⟨ZdH g z,ZaU z,[]⟩ t.Ab).getD q.toNat [])=true:=fun q ⟨s,h1,h2⟩=>by
   have hlt:q.toNat < (Ab w.right).length:=HN fun hn=>by
    rw[HI (by omega)] at h1;cases h1
   obtain⟨s',y,k1,k2,k3⟩:=hat q.toNat (by omega);rw[h1] at k1;cases k1;have hmem:s∈w.right:=(List.mem_filter.1 (Jo h1)).1;have h0:0≤s:=H0 (List.mem_filter.1 (Jo h1)).2;have hs:=(hto.sym s hmem).2;obtain⟨N,rfl⟩:∃ N:Nat,s=(N:Int):=⟨s.toNat,by omega⟩
   have:=(T.gap N (by omega) (by omega) y k2).1;rw[k3,hgL,this];rfl
  have hfr:(⟨ZdH g z,ZaU z,[]⟩:Step).frags.getD t.rule.toNat []=w.l:=by
   rw[e1,Hn];exact f4
  refine⟨?_,fun hc=>?_⟩
  ·rw[Zkk,hfr];exact ZtK hgk w.l hto.wf
  ·rw[Zkk,hfr] at hc;rw[Zwo,hfr];refine⟨(Zkl _ _).2 fun x hx=>?_,?_⟩
   ·obtain⟨k,hk,rfl⟩:=List.mem_iff_getElem.1 hx;refine (Zos T hI hz n _ _ (hsub _ hx) (Zbv e4 hk (by omega))).2 ?_;have hmem:(k:Int)∈kdL w.l:=hto.kd.mem_iff.2 (upTo_mem.2 (by omega));have:=ZjR hgn w.l hto.wf hzo.ty hne hp _ hmem;rw[Hn,Hf,Hj (by rw[Zd8];exact hk),HW,Zfm _ _ k hk] at this;omega
   ·unfold mkL;rw[ZjQ hp w.l hto.wf hzo.ty hc];show ZbV _=_;unfold ZbV;rw[Hb hc]
end
theorem Zyx {g:Ac} (hg:g.ok) (he:∀ r∈g.Aa,r.right≠[]) (hc:cycL g=[]) {z:List (List Ae)} (hz:ZbF 0 g.vars.toNat (Za5 g)=.ok z):cycL (ZdH g z)=[]:=by
 have hH:=ZmV hg g.vars.toNat 0 (by omega) (ZgC hg he) (ZBm hg he hc) hz;have hgk:(ZdH g z).ok:=Zj9 hg he hz;have hv0:=hg.vars1;have hrow:∀ r∈Zbh z 0,0≤r.left∧∃ w∈z.getD r.left.toNat [],r.right=w.right:=fun r hr=>by
  obtain⟨b1,b2,w,b3,b4⟩:=Zfr hr;exact⟨by omega,w,by simpa using b3,b4⟩
 have hne:∀ r∈(ZdH g z).Aa,r.right≠[]:=fun r hr=>by
  obtain⟨a,w,hw,e⟩:=hrow r hr;rw[e];by_cases q:r.left.toNat < g.vars.toNat
  ·exact (hH.old _ q w hw).ne
  ·exact (hH.new _ (by omega) w hw).1
 refine ZiK hgk (fun s=>if s < g.vars then (g.vars - s).toNat else (s+g.vars).toNat) fun v u h0 h1 hu=>?_
 obtain⟨r,hr,rfl,pre,post,e1,hu0,e2,e3⟩:=stepA_iff.1 hu;have hnn:∀ s,has (nulB (ZdH g z)) s=false:=ZC7 hgk hne
 have hpre:pre=[]:=by
  cases pre with
  | nil=>rfl
  | cons a pre =>
   rw[ZaQ,GG,hnn] at e2;cases e2
 rw[hpre,H3] at e1;obtain⟨a,w,hw,e⟩:=hrow r hr;have hhd:hdI w.right=u:=by rw[←e,e1];rfl
 by_cases q:r.left.toNat < g.vars.toNat
 ·have h:=hH.old _ q w hw;rw[Hb q] at h;have k1:=h.from_;have k2:=h.old;rw[hhd] at k1 k2;rw[Hb k2,Hb (by omega)];omega
 ·have h:=(hH.new _ (by omega) w hw).2;rw[hhd] at h;rw[Ha (show ¬ r.left < g.vars by omega)];split <;> omega
theorem Zvv {g:Ac} (h:(ZfO g).2.code=0) (w:List Int):ZgH g (ZfO g).1 w false:=by
 have hs:=Znj h;rcases Zhp g with ⟨h1,_⟩|⟨z,hg,he,hc,hz,e⟩
 ·exact absurd h h1
 rw[e] at hs ⊢;obtain⟨⟨E,T⟩,hzo⟩:=ZyO hg g.vars.toNat 0 (by omega) (ZgC hg he) ZBs ZyN hz;have hI:=(Zj8 hg he hz).1;have hL:ZfS (ZdH g z) (ZaU z) (oneD E) (gW g) (fun _ l=>c0L l):=T.leads;have hst:ZdM g (ZdH g z) (oneD E) (gW g) w:=⟨fun l hl=>by
   obtain⟨x,rfl,hx⟩:=hl;have hf:=(T.base _ _ hg.start).1 hx;exact⟨x,rfl,hf,by rw[←ZDb x _ hf];simp⟩,fun x hx _=>⟨x,rfl,(T.base _ _ hg.start).2 hx⟩⟩
 refine Zis (s:=⟨ZdH g z,ZaU z,[]⟩) (by rw[hs]) rfl (fun _=>Zyx hg he hc hz) hL hst fun t ht _ hb=>?_
 refine (Zos T hI hzo _ t _ (Hg _) ht.1).2 ?_;rw[(ZdR (s:=⟨ZdH g z,ZaU z,[]⟩) hL hst ht).1];simp only[cnts];omega
theorem Zqn {k:Int} {g:Ac} (h:(pasS k g).2.code=0) (w:List Int):ZgH g (pasS k g).1 w (decide (k=2∧w=[]))∧(k≠2→(pasS k g).1.empty=[]):=by
 unfold pasS at h ⊢;by_cases e1:k=1
 ·rw[Hb e1] at h ⊢;rw[HC (by omega)];have h0:(Zf6 g).1.empty=[]:=by unfold Zf6;split <;> rfl
  refine⟨?_,fun _=>h0⟩;unfold Zf6 at h ⊢;by_cases h1:(Zac g).code=0
  ·rw[Hb h1];exact ZwC (Zbd h1) w
  ·rw[Ha h1] at h;exact absurd h h1
 rw[Ha e1] at h ⊢;by_cases e2:k=2
 ·rw[Hb e2] at h ⊢;refine⟨?_,fun q=>absurd e2 q⟩;rw[show decide (k=2∧w=[])=decide (w=[]) from decide_eq_decide.2 ⟨fun q=>q.2,fun q=>⟨e2,q⟩⟩];exact Zve h w
 rw[Ha e2] at h ⊢;rw[HC (fun q=>e2 q.1)];by_cases e3:k=3
 ·rw[Hb e3] at h ⊢;refine⟨ZrS h w,fun _=>?_⟩;unfold Zb1;split
  ·split
   ·rfl
   ·split <;> rfl
  ·rfl
 rw[Ha e3] at h ⊢;by_cases e4:k=4
 ·rw[Hb e4] at h ⊢;rcases ZfV g with ⟨h1,e⟩|⟨i,e⟩|⟨s,hg,hc,e⟩
  ·rw[e] at h;exact absurd h h1
  ·rw[e] at h;cases h
  ·rw[e];exact⟨ZvP hg hc w,fun _=>rfl⟩
 rw[Ha e4] at h ⊢;by_cases e5:k=5
 ·rw[Hb e5] at h ⊢;refine⟨Zo6 (Zk1 g).1 (Zk1 g).2 h w,fun _=>?_⟩;unfold ZbM ZbR;split
  ·split
   ·rfl
   ·split <;> rfl
  ·rfl
 rw[Ha e5] at h ⊢;by_cases e6:k=6
 ·rw[Hb e6] at h ⊢;refine⟨Zvv h w,fun _=>?_⟩;unfold ZfO;split
  ·split
   ·rfl
   ·split
    ·rfl
    ·split <;> rfl
  ·rfl
 rw[Ha e6] at h;cases h
theorem ZtL {P:Int→Ac→Step×Zcf} {g:Ac}:∀ (ks:List Int) (i:Nat) (out:List Step),(mkC P g ks i out).1.length≤out.length+ks.length
 | [],_,_=>Hg _
 | k::ks,i,out=>by
  by_cases hc:(P k (Za7 g out)).2.code=0
  ·rw[Zn5 hc];have:=ZtL (P:=P) (g:=g) ks (i+1) (out++[(P k (Za7 g out)).1]);rw[Hk,HS] at this;rw[Hl];omega
  ·rw[Zn6 hc];exact Hh _
theorem Zvw {P:Int→Ac→Step×Zcf} {g:Ac} {ks:List Int} (hz:(Zc0 P g ks).2.code=0):Zc0 P g ks=mkC P g ks 0 []∧(Zac g).code=0∧ks.length≤8:=by
 by_cases h0:(Zac g).code=0
 ·by_cases h8:ks.length≤8
  ·exact⟨ZAO h0 h8,h0,h8⟩
  ·unfold Zc0 at hz;rw[Ha (fun q=>q h0),Hb (by omega)] at hz;exact absurd hz (by decide)
 ·unfold Zc0 at hz;rw[Hb h0] at hz;exact absurd hz h0
structure Wh (g:Ac) (w:List Int) (l:List Tree):Prop where
 nodup:l.Nodup
 mem:∀ x∈l,IsW g w x∧cnt x≤400
 len:l.length=cntF g w
theorem ZtM {old:Ac} {s:Step} {w:List Int} (hB:Zrj old s w):∀ (l out:List Tree),(∀ x∈l,IsW s.g w x∧cnt x≤400)→(ledA old s l out=.ok (out++l.map (Zdn s))∧∀ x∈l,cnt (Zdn s x)≤400)∨ledA old s l out=.error 6
 | [],out,_=>.inl ⟨by rw[ledA,HF,Ht],fun x hx=>by cases hx⟩
 | x::l,out,h=>by
  obtain⟨hx1,hx2⟩:=h x (by simp);rw[ledA];rcases hB.two x hx1 hx2 with ⟨e,hc⟩|e
  ·rw[e,Ha (fun q=>q rfl)];rcases ZtM hB l (out++[Zdn s x]) (fun y hy=>h y (by simp[hy])) with ⟨e2,h2⟩|e2
   ·refine .inl ⟨by rw[e2];simp,fun y hy=>?_⟩;rcases List.mem_cons.1 hy with rfl|hy
    ·exact hc
    ·exact h2 y hy
   ·exact .inr e2
  ·rw[Hb (by rw[e];decide),e];exact .inr rfl
theorem ZBk {k:Int} {g:Ac} {w:List Int} {l:List Tree} (hc:(pasS k g).2.code=0) (hch:(chF g w).code=0) (hl:Wh (pasS k g).1.g w l) :
  (∃ out,ledA g (pasS k g).1 l []=.ok out∧Wh g w (out++if w.length=0 then (pasS k g).1.empty else []))∨ledA g (pasS k g).1 l []=.error 6:=by
 obtain⟨hS,he⟩:=Zqn hc w;obtain⟨_,k2,k3⟩:=hS hch;by_cases h:k=2∧w=[]
 ·obtain⟨q1,q2,q3,q4⟩:=k2 (Hu h);have h0:l=[]:=HX (by rw[hl.len,q1]);subst h0;refine .inl ⟨[],by rw[ledA],?_⟩;rw[Hb (by rw[h.2];rfl),H3];exact⟨q3,q4,q2.symm⟩
 ·obtain⟨q1,hB,_⟩:=k3 (HC h);have hE:(if w.length=0 then (pasS k g).1.empty else [])=[]:=by
   by_cases hw:w=[]
   ·rw[Hb (by rw[hw];rfl)];exact he fun e=>h ⟨e,hw⟩
   ·rw[Ha fun q=>hw (HX q)]
  rw[hE];rcases ZtM hB l [] hl.mem with ⟨e,hx⟩|e
  ·refine .inl ⟨_,e,?_⟩;rw[H3,Ht];refine⟨?_,fun x hx'=>?_,by rw[Hi,hl.len,q1]⟩
   ·unfold List.Nodup;rw[Ge];exact GA (fun ha hb hne q=>hne (hB.inj _ _ (hl.mem _ ha).1 (hl.mem _ hb).1 q)) hl.nodup
   ·obtain⟨y,hy,rfl⟩:=List.mem_map.1 hx';exact⟨hB.is y (hl.mem y hy).1,hx y hy⟩
  ·exact .inr e
def Made (g:Ac) (ss:List Step):Prop:=∀ i,∀ h:i < ss.length,∃ k,(pasS k (Za7 g (ss.take i))).2.code=0∧ss[i]=(pasS k (Za7 g (ss.take i))).1
theorem Made.snoc {g:Ac} {out:List Step} {k:Int} (h:Made g out) (hc:(pasS k (Za7 g out)).2.code=0):Made g (out++[(pasS k (Za7 g out)).1]):=fun i hi=>by
 by_cases hlt:i < out.length
 ·obtain⟨k',h1,h2⟩:=h i hlt;refine⟨k',?_⟩;rw[List.take_append_of_le_length (by omega),Jp hlt];exact⟨h1,h2⟩
 ·rw[Hk,HS] at hi;obtain rfl:i=out.length:=by omega
  refine⟨k,?_⟩;rw[List.take_left,JC (Hg _)];simp only[Ga,Jv];exact⟨hc,trivial⟩
theorem ZtN {g:Ac}:∀ (ks:List Int) (i:Nat) (out:List Step),Made g out→(mkC pasS g ks i out).2.code=0→Made g (mkC pasS g ks i out).1
 | [],_,_,h,_=>h
 | k::ks,i,out,h,hz=>by
  by_cases hc:(pasS k (Za7 g out)).2.code=0
  ·rw[Zn5 hc] at hz ⊢;exact ZtN ks _ _ (h.snoc hc) hz
  ·rw[Zn6 hc] at hz;exact absurd hz hc
theorem Zvx {g:Ac} {ks:List Int} (hz:(Zc0 pasS g ks).2.code=0):Made g (Zc0 pasS g ks).1∧(Zac g).code=0∧(Zc0 pasS g ks).1.length≤8:=by
 obtain⟨e,h0,h8⟩:=Zvw hz;rw[e] at hz ⊢;refine⟨ZtN ks 0 [] (fun i h=>absurd h (Nat.not_lt_zero _)) hz,h0,?_⟩;have:=ZtL (P:=pasS) (g:=g) ks 0 [];rw[HB,HE] at this;omega
theorem Zr4 {g:Ac} {ss:List Step} {w:List Int} (h:Made g ss) (hc:(chF g w).code=0):∀ i,i≤ss.length→(chF (Za7 g (ss.take i)) w).code=0
 | 0,_=>by rw[GW];exact hc
 | i+1,hi=>by
  obtain⟨k,h1,h2⟩:=h i (by omega);rw[ZiE g (by omega:i < ss.length),h2];exact ((Zqn h1 w).1 (Zr4 h hc i (by omega))).1
theorem ZtO:∀ (g:Ac) (ss:List Step) (i:Nat),(∀ (k:Nat) (h:k < ss.length),(Zam (Za7 g (ss.take k)) ss[k]).code=0)→(chnL g ss i).code=0
 | _,[],_,_=>rfl
 | g,s::r,i,h=>by
  have h0:(Zam g s).code=0:=h 0 (by simp);rw[chnL,Ha (fun q=>q h0)];refine ZtO s.g r (i+1) fun k hk=>?_
  have:=h (k+1) (by simpa using hk);rw[GT,Za7,GQ] at this;exact this
theorem Zyy {g:Ac} {ss:List Step} (h:Made g ss) (h0:(Zac g).code=0) (h8:ss.length≤8):(chnF g ss).code=0:=by
 unfold chnF;rw[Ha (fun q=>q h0),Ha (by omega)];refine ZtO g ss 0 fun k hk=>?_
 obtain⟨kk,h1,h2⟩:=h k hk;rw[h2,ZxY h1]
theorem ZB3 {g:Ac} {ss:List Step} {w:List Int} (h:Made g ss) (hc:(chF g w).code=0):∀ (k:Nat) (l:List Tree),k≤ss.length→Wh (Za7 g (ss.take k)) w l →
  ((trN g ss w k l).2.code=0∧∃ l0,Wh g w l0∧(trN g ss w k l).1=Zcg l0)∨(trN g ss w k l).2.code=6
 | 0,l,_,hl=>by
  rw[GW] at hl;exact .inl ⟨rfl,l,hl,rfl⟩
 | k+1,l,hk,hl=>by
  have hlt:k < ss.length:=by omega
  obtain⟨kk,h1,h2⟩:=h k hlt;rw[ZiE g hlt,h2] at hl;rw[trN,Zpv hlt,h2];rcases ZBk h1 (Zr4 h hc k (by omega)) hl with ⟨out,e,hw⟩|e
  ·rw[e];exact ZB3 h hc k _ (by omega) hw
  ·rw[e];exact .inr rfl
theorem Zr5 {g:Ac} {w:List Int} (hc:(chF g w).code=0):(Zaw g w).2.code=0∨(Zaw g w).2.code=6:=by
 unfold Zaw;split
 ·split
  ·exact .inr rfl
  ·by_cases hz:(ZdE g w (cntF g w) 0 []).2.code=0
   ·exact .inl hz
   ·rw[ZlB _ _ _ hz];exact .inr rfl
 ·rename_i ho;unfold opF at ho ⊢;rw[Hb hc] at ho ⊢;split
  ·exact .inr rfl
  ·exact .inl rfl
theorem ZC5 {g:Ac} {w:List Int} {l m:List Tree} (hl:Wh g w l) (hm:ListOk g w m):Zcg l=Zcg m:=by
 classical
 exact
 Zna (Zsi hl.nodup (fun x hx=>hm.all (hl.mem x hx).1) (by rw[hm.len,hl.len];exact Hg _))
theorem ZBl {g:Ac} {ks w:List Int} (hz:(Zc0 pasS g ks).2.code=0) (he:(Zaw g w).2.code=0) :
  ((ZfP g (Zc0 pasS g ks).1 w).2.code=0∧(ZfP g (Zc0 pasS g ks).1 w).1=Zcg (Zaw g w).1)∨(ZfP g (Zc0 pasS g ks).1 w).2.code=6:=by
 obtain⟨hM,h0,h8⟩:=Zvx hz;have hl:=Zbg he;have hc:(chF g w).code=0:=by rw[hl.ch.fault]
 generalize (Zc0 pasS g ks).1=ss at *;have hch:=Zr4 hM hc ss.length (Hg _);rw[HO] at hch;unfold ZfP;rw[Ha (fun q=>q (Zyy hM h0 h8))];rcases Zr5 hch with h|h
 ·rw[Ha (fun q=>q h)];have hh:=Zbg h;have hw:Wh (Za7 g (ss.take ss.length)) w (Zaw (Za7 g ss) w).1:=by
   rw[HO];exact⟨hh.nodup,fun x hx=>hh.mem hx,hh.len⟩
  rcases ZB3 hM hc _ _ (Hg _) hw with ⟨h1,l0,h2,h3⟩|h1
  ·exact .inl ⟨h1,by rw[h3,ZC5 h2 hl]⟩
  ·exact .inr h1
 ·rw[Hb (by rw[h];decide)];exact .inr h
end Go.Proofs.YtbpmepgnjanhnaaGreat
