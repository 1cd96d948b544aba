import Derived.Test.YtbpmepgnjanhnaaGreatQFoG
set_option linter.unusedVariables false
set_option linter.unusedSimpArgs false
set_option linter.unusedSectionVars false
namespace Go.Proofs.YtbpmepgnjanhnaaGreat
open Go.RowKit
mutual
def muF (Ab:List (List Tree)):Ad→List Tree
 | .mk o n l=>if o=1 then [.mk n (muL Ab l)] else if o=2 then Ab.getD n.toNat [] else if o=3 then [.mk (-1) []] else if o=4 then ZaY (muL Ab l) (Ab.getD n.toNat []) else []
def muL (Ab:List (List Tree)):List Ad→List Tree
 | []=>[]
 | x::r=>muF Ab x++muL Ab r
end
mutual
def vaT (s:Step):Tree→List Tree
 | .mk r ks=>muL (vaL s ks) (s.frags.getD r.toNat [])
def vaL (s:Step):List Tree→List (List Tree)
 | []=>[]
 | x::l=>vaT s x::vaL s l
end
theorem Zwn (Ab:List (List Tree)) (x:Ad):muF Ab x=if x.op=1 then [.mk x.n (muL Ab x.l)] else if x.op=2 then Ab.getD x.n.toNat [] else if x.op=3 then [.mk (-1) []] else if x.op=4 then ZaY (muL Ab x.l) (Ab.getD x.n.toNat []) else []:=by cases x;rw[muF];rfl
theorem Zkk (s:Step) (x:Tree):vaT s x=muL (vaL s x.Ab) (s.frags.getD x.rule.toNat []):=by cases x;rw[vaT];rfl
theorem Zd8 (s:Step):∀ l:List Tree,(vaL s l).length=l.length
 | []=>rfl
 | x::l=>by rw[vaL,Hl,Hl,Zd8 s l]
theorem Zd0 (Ab:List (List Tree)):∀ a b:List Ad,muL Ab (a++b)=muL Ab a++muL Ab b
 | [],b=>rfl
 | x::a,b=>by rw[Hv,muL,muL,Zd0 Ab a b,HH]
theorem ZeV {g:Ac}:∀ {k:List Tree} {vs:List Int},k.length=vs.length→(∀ (q:Nat) (h1:q < k.length) (h2:q < vs.length),fits g k[q] vs[q]=true)→fitss g k vs=true
 | [],_,_,_=>by rw[fitss.eq_def]
 | _::_,[],h,_=>by simp at h
 | x::k,v::vs,h,H=>by
  rw[fitss,Hr];exact⟨H 0 (by simp) (by simp),ZeV (by simpa using h) fun q h1 h2=>H (q+1) (by simpa using h1) (by simpa using h2)⟩
theorem ZfW {g:Ac} {r:Nat} (hr:r < g.Aa.length) {v:Int} {xs:List Tree} (hl:g.Aa[r].left=v) (hk:xs.length=(Ab g.Aa[r].right).length) (hf:fitss g xs (Ab g.Aa[r].right)=true):fits g (.mk (r:Int) xs) v=true∧Zbo g (.mk (r:Int) xs)=wordL g g.Aa[r].right xs:=by
 refine⟨?_,?_⟩
 ·rw[Zf1];show (match (if 0≤(r:Int) then g.Aa[((r:Nat):Int).toNat]? else none) with|none=>_|some ru=>_)=true;rw[Hb (by omega),Hn,Hj hr];simp only[hl,hk,Tree.Ab,hf,decide_true,H5]
 ·rw[ZgA];show wordL g ((g.Aa[((r:Nat):Int).toNat]?).getD ⟨0,[]⟩).right xs=_;rw[Hn,Hj hr];rfl
mutual
def okT (s:Step):Tree→Prop
 | .mk r ks=>okL s ks∧mkL (vaL s ks) (s.frags.getD r.toNat [])=some (muL (vaL s ks) (s.frags.getD r.toNat []))
def okL (s:Step):List Tree→Prop
 | []=>True
 | x::l=>okT s x∧okL s l
end
theorem Zwo (s:Step) (x:Tree):okT s x↔okL s x.Ab∧mkL (vaL s x.Ab) (s.frags.getD x.rule.toNat [])=some (muL (vaL s x.Ab) (s.frags.getD x.rule.toNat [])):=by cases x;rw[okT];exact Iff.rfl
theorem Zkl (s:Step):∀ l:List Tree,okL s l↔∀ x∈l,okT s x
 | []=>by simp[okL]
 | x::l=>by rw[okL,Zkl s l];simp
mutual
theorem Zwp {s:Step}:∀ x:Tree,okT s x→valT s x=some (vaT s x)
 | .mk r ks,h=>by
  rw[okT] at h;rw[valT,Zwq ks h.1,vaT];exact h.2
theorem Zwq {s:Step}:∀ l:List Tree,okL s l→valL s l=some (vaL s l)
 | [],_=>rfl
 | x::l,h=>by
  rw[okL] at h;rw[valL,Zwp x h.1,Zwq l h.2,vaL];rfl
end
section
variable (D:Int→List Tree→Prop) (W:Int→List Tree→List Int)
def DL:List (List Tree)→List Int→Prop
 | [],[]=>True
 | l::ls,v::vs=>D v l∧DL ls vs
 | _,_=>False
def catW:List Int→List (List Tree)→List Int
 | [],_=>[]
 | s::r,ls=>if s < 0 then (-1 - s)::catW r ls else match ls with
  | l::ls=>W s l++catW r ls
  | []=>catW r []
theorem Zgl {W:Int→List Tree→List Int} (ls:List (List Tree)):catW W [] ls=[]:=by rw[catW.eq_def]
theorem Zfl {W:Int→List Tree→List Int} {s:Int} (h:s < 0) (r:List Int) (ls:List (List Tree)):catW W (s::r) ls=(-1 - s)::catW W r ls:=by rw[catW.eq_def];simp[h]
theorem Zez {W:Int→List Tree→List Int} {s:Int} (h:¬ s < 0) (r:List Int) (l:List Tree) (ls:List (List Tree)):catW W (s::r) (l::ls)=W s l++catW W r ls:=by rw[catW.eq_def];simp[h]
theorem Znx {W:Int→List Tree→List Int} {s:Int} (h:¬ s < 0) (r:List Int):catW W (s::r) []=catW W r []:=by rw[catW.eq_def];simp[h]
theorem ZcS {D:Int→List Tree→Prop}:∀ {ls:List (List Tree)} {vs:List Int},DL D ls vs→ls.length=vs.length
 | [],[],_=>rfl
 | l::ls,v::vs,h=>by rw[Hl,Hl,ZcS h.2]
 | [],_::_,h=>nomatch h
 | _::_,[],h=>nomatch h
theorem Zwr {D:Int→List Tree→Prop}:∀ {ls:List (List Tree)} {vs:List Int},DL D ls vs→∀ (i:Nat) (h1:i < ls.length) (h2:i < vs.length),D vs[i] ls[i]
 | [],[],_,i,h1,_=>by simp at h1
 | l::ls,v::vs,h,0,_,_=>h.1
 | l::ls,v::vs,h,i+1,h1,h2=>Zwr h.2 i (by simpa using h1) (by simpa using h2)
 | [],_::_,h,_,_,_=>nomatch h
 | _::_,[],h,_,_,_=>nomatch h
theorem ZCg {D:Int→List Tree→Prop}:∀ {ls:List (List Tree)} {vs:List Int},ls.length=vs.length→(∀ (i:Nat) (h1:i < ls.length) (h2:i < vs.length),D vs[i] ls[i])→DL D ls vs
 | [],[],_,_=>trivial
 | l::ls,v::vs,h,H=>⟨H 0 (by simp) (by simp),ZCg (by simpa using h) fun i h1 h2=>H (i+1) (by simpa using h1) (by simpa using h2)⟩
 | [],_::_,h,_=>by simp at h
 | _::_,[],h,_=>by simp at h
end
structure ZfS (h:Ac) (F:List (List Ad)) (D:Int→List Tree→Prop) (W:Int→List Tree→List Int) (μ:Int→List Tree→Nat):Prop where
 sound:∀ (r:Nat) (hr:r < h.Aa.length) (ls:List (List Tree)),DL D ls (Ab h.Aa[r].right)→D h.Aa[r].left (muL ls (F.getD r []))∧W h.Aa[r].left (muL ls (F.getD r []))=catW W h.Aa[r].right ls
 inj:∀ (r r':Nat) (hr:r < h.Aa.length) (hr':r' < h.Aa.length) (ls ls':List (List Tree)),h.Aa[r].left=h.Aa[r'].left→DL D ls (Ab h.Aa[r].right)→DL D ls' (Ab h.Aa[r'].right)→muL ls (F.getD r [])=muL ls' (F.getD r' [])→r=r'∧ls=ls'
 surj:∀ (v:Int) (l:List Tree),0≤v→v < h.vars→D v l→∃ (r:Nat) (hr:r < h.Aa.length) (ls:List (List Tree)),h.Aa[r].left=v∧DL D ls (Ab h.Aa[r].right)∧l=muL ls (F.getD r [])∧∀ (i:Nat) (h1:i < ls.length) (h2:i < (Ab h.Aa[r].right).length),μ (Ab h.Aa[r].right)[i] ls[i] < μ v l
section
variable {h:Ac} {s:Step} {D:Int→List Tree→Prop} {W:Int→List Tree→List Int} {μ:Int→List Tree→Nat}
theorem Zfm (s:Step):∀ (l:List Tree) (i:Nat) (h1:i < l.length) (h2:i < (vaL s l).length),(vaL s l)[i]=vaT s l[i]
 | x::l,0,_,_=>rfl
 | x::l,i+1,h1,h2=>by
  simp only[vaL,GQ];exact Zfm s l i (by simpa using h1) _
theorem Zny (g:Ac) (s:Step):∀ (r:List Int) (ks:List Tree),(∀ (i:Nat) (h1:i < ks.length) (h2:i < (Ab r).length),W (Ab r)[i] (vaT s ks[i])=Zbo g ks[i])→catW W r (vaL s ks)=wordL g r ks
 | [],ks,_=>by rw[Zgl,Zbe]
 | x::r,ks,H=>by
  by_cases hx:x < 0
  ·rw[Zfl hx,Zbi hx,Zny g s r ks (by rw[Zc2 hx] at H;exact H)]
  ·rw[ZbG hx] at H;cases ks with
   | nil=>rw[vaL,ZdJ hx,Znx hx];exact Zny g s r [] (fun i h1 _=>by simp at h1)
   | cons t ks =>
    rw[vaL,Za2 hx,Zez hx];have h0:=H 0 (by simp) (by simp);simp only[Jv] at h0;rw[h0,Zny g s r ks (fun i h1 h2=>by
     have:=H (i+1) (by simpa using h1) (by simpa using h2);simpa only [GQ] using this)]
theorem ZzS {ks:List Tree} (hf:∀ (t:Tree) (v:Int),t∈ks→fits h t v=true→D v (vaT s t)):∀ (l:List Tree) (vs:List Int),(∀ t∈l,t∈ks)→l.length=vs.length→fitss h l vs=true→DL D (vaL s l) vs:=fun l vs hs hl hfs=>by
 refine ZCg (by rw[Zd8,hl]) fun i h1 h2=>?_
 rw[Zd8] at h1;rw[Zfm s l i h1];exact hf _ _ (hs _ (He h1)) (Zbv hfs h1 h2)
theorem ZcT (hL:ZfS h s.frags D W μ):∀ (n:Nat) (t:Tree) (v:Int),cnt t≤n→fits h t v=true→D v (vaT s t)∧W v (vaT s t)=Zbo h t
 | 0,t,_,hn,_=>by have:=Zf0 t;omega
 | n+1,t,v,hn,hf=>by
  obtain⟨r,hr,e1,e2,e3,e4,e5⟩:=ZaR hf;have ih:∀ (x:Tree) (u:Int),x∈t.Ab→fits h x u=true→D u (vaT s x)∧W u (vaT s x)=Zbo h x:=fun x u hx hfx =>
   ZcT hL n x u (by have:=Zbn hx;rw[ZcB] at hn;omega) hfx
  have hd:DL D (vaL s t.Ab) (Ab h.Aa[r].right):=ZzS (ks:=t.Ab) (fun x u hx hfx=>(ih x u hx hfx).1) _ _ (fun _ q=>q) e3.symm e4;obtain⟨k1,k2⟩:=hL.sound r hr _ hd;rw[Zkk,e1,Hn,←e2];refine⟨k1,?_⟩;rw[k2,e5];exact Zny h s _ _ fun i h1 h2=>(ih _ _ (He h1) (Zbv e4 h1 h2)).2
theorem ZsO (hL:ZfS h s.frags D W μ):∀ (n:Nat) (t t':Tree) (v:Int),cnt t≤n→fits h t v=true→fits h t' v=true→vaT s t=vaT s t'→t=t'
 | 0,t,_,_,hn,_,_,_=>by have:=Zf0 t;omega
 | n+1,t,t',v,hn,hf,hf',he=>by
  obtain⟨r,hr,e1,e2,e3,e4,_⟩:=ZaR hf;obtain⟨r',hr',e1',e2',e3',e4',_⟩:=ZaR hf';have hd:DL D (vaL s t.Ab) (Ab h.Aa[r].right):=ZzS (ks:=t.Ab) (fun x u hx hfx=>(ZcT hL _ x u (Hg _) hfx).1) _ _ (fun _ q=>q) e3.symm e4;have hd':DL D (vaL s t'.Ab) (Ab h.Aa[r'].right):=ZzS (ks:=t'.Ab) (fun x u hx hfx=>(ZcT hL _ x u (Hg _) hfx).1) _ _ (fun _ q=>q) e3'.symm e4';rw[Zkk,Zkk,e1,e1',Hn,Hn] at he;obtain⟨q1,q2⟩:=hL.inj r r' hr hr' _ _ (by rw[e2,e2']) hd hd' he;subst q1;have hk:t.Ab=t'.Ab:=by
   have hl:t.Ab.length=t'.Ab.length:=by omega
   refine GP hl fun i h1 h2=>?_
   refine ZsO hL n _ _ ((Ab h.Aa[r].right)[i]'(by omega)) (by have:=Zbn (He h1);rw[ZcB] at hn;omega) (Zbv e4 h1 (by omega)) (Zbv e4' h2 (by omega)) ?_;have a1:=Zfm s t.Ab i h1 (by rw[Zd8];exact h1);have a2:=Zfm s t'.Ab i h2 (by rw[Zd8];exact h2);rw[←a1,←a2];simp only[q2]
  rw[Tree.eta t,Tree.eta t',e1,e1',hk]
theorem Zpi (hh:h.ok) (hL:ZfS h s.frags D W μ):∀ (n:Nat) (v:Int) (l:List Tree),0≤v→v < h.vars→μ v l < n→D v l→∃ t,fits h t v=true∧vaT s t=l
 | 0,_,_,_,_,hn,_=>by omega
 | n+1,v,l,h0,h1,hn,hd=>by
  obtain⟨r,hr,ls,e1,e2,e3,e4⟩:=hL.surj v l h0 h1 hd;have hlen:=ZcS e2;have hex:∀ i,∀ hi:i < ls.length,∃ t,fits h t ((Ab h.Aa[r].right)[i]'(by omega))=true∧vaT s t=ls[i]:=fun i hi=>by
   have hk:=He (l:=Ab h.Aa[r].right) (n:=i) (by omega);obtain⟨q1,q2⟩:=List.mem_filter.1 hk;have q2:=H0 q2;exact Zpi hh hL n _ _ (by omega) (hh.hi _ (He hr) _ q1) (by have:=e4 i hi (by omega);omega) (Zwr e2 i hi (by omega))
  let ks:List Tree:=(List.range ls.length).attach.map fun i=>(hex i.1 (List.mem_range.1 i.2)).choose
  have hkl:ks.length=ls.length:=by simp[ks]
  have hks:∀ i (hi:i < ks.length),fits h ks[i] ((Ab h.Aa[r].right)[i]'(by omega))=true∧vaT s ks[i]=ls[i]'(by omega):=fun i hi=>by
   have:=(hex i (by omega)).choose_spec;have e:ks[i]=(hex i (by omega)).choose:=by simp[ks]
   rw[e];exact this
  have hv:vaL s ks=ls:=GP (by rw[Zd8,hkl]) fun i q1 q2=>by
   rw[Zfm s ks i (by omega)];exact (hks i (by omega)).2
  refine⟨.mk (r:Int) ks,?_,?_⟩
  ·exact (ZfW hr e1 (by omega) (ZeV (by omega) fun i q1 q2=>(hks i q1).1)).1
  ·rw[vaT,hv,Hn,e3]
end
mutual
def plF:Ad→Bool
 | .mk o _ l=>if o=1 then plL l else decide (o=2)
def plL:List Ad→Bool
 | []=>true
 | x::r=>plF x && plL r
end
mutual
theorem ZDK {Ab:List (List Tree)}:∀ x:Ad,plF x=true→cnts (muF Ab x)≤400→mkF Ab x=some (muF Ab x)
 | .mk o n l,h,hc=>by
  rw[plF] at h;rw[muF] at hc ⊢;rw[mkF];by_cases h1:o=1
  ·rw[Hb h1] at h hc ⊢;rw[Hb h1];simp only[cnts,cnt] at hc;rw[Zws l h (by omega)];show ((ZbV (muL Ab l)).map _)=_;unfold ZbV;rw[Hb (by omega)];rfl
  ·rw[Ha h1] at h;have h2:o=2:=H0 h;rw[Ha h1,Ha h1,Hb h2,Hb h2]
theorem Zws {Ab:List (List Tree)}:∀ l:List Ad,plL l=true→cnts (muL Ab l)≤400→mkA Ab l=some (muL Ab l)
 | [],_,_=>rfl
 | x::r,h,hc=>by
  rw[plL,Hr] at h;rw[muL,ZaK] at hc;rw[mkA,ZDK x h.1 (by omega),Zws r h.2 (by omega),muL];rfl
end
theorem ZDL {Ab:List (List Tree)} {l:List Ad} (h:plL l=true) (hc:cnts (muL Ab l)≤400):mkL Ab l=some (muL Ab l):=by
 unfold mkL;rw[Zws l h hc];show ZbV _=_;unfold ZbV;rw[Hb hc]
theorem ZCh {u:List Int} {n:Int} {k:Nat} (h:(bump u n).getD k 0≠u.getD k 0):k=n.toNat:=HN fun q=>h (by
 unfold bump;rw[Hf,GO (fun e=>q e.symm),←Hf])
mutual
theorem ZzT {m:Int} {Ab:List (List Tree)} {k:Nat}:∀ (x:Ad) (u:List Int),plF x=true→(usF m x u).1=true→(usF m x u).2.getD k 0≠u.getD k 0→cnts (Ab.getD k [])≤cnts (muF Ab x)
 | .mk o n l,u,hp,h1,h2=>by
  rw[plF] at hp;rw[usF] at h1 h2;rw[muF];by_cases ho:o=1
  ·rw[Hb ho] at hp h1 h2 ⊢;by_cases hn:n < 0∨m≤n
   ·rw[Hb hn] at h1;cases h1
   ·rw[Ha hn] at h1 h2;have:=Znz (Ab:=Ab) l u hp h1 h2;simp only[cnts,cnt];omega
  ·rw[Ha ho] at hp h1 h2 ⊢;have h3:o=2:=H0 hp;rw[Hb h3] at h1 h2 ⊢;by_cases hn:n < 0∨(u.length:Int)≤n
   ·rw[Hb hn] at h1;cases h1
   ·rw[Ha hn] at h2;rw[ZCh h2];exact Hg _
theorem Znz {m:Int} {Ab:List (List Tree)} {k:Nat}:∀ (l:List Ad) (u:List Int),plL l=true→(usL m l u).1=true→(usL m l u).2.getD k 0≠u.getD k 0→cnts (Ab.getD k [])≤cnts (muL Ab l)
 | [],u,_,_,h2=>absurd rfl h2
 | x::r,u,hp,h1,h2=>by
  rw[plL,Hr] at hp;rw[usL] at h1 h2;rw[muL,ZaK];cases hc:(usF m x u).1 with
  | false=>rw[hc] at h1;cases h1
  | true =>
   rw[hc] at h1 h2;simp only[Gc] at h1 h2;by_cases q:(usF m x u).2.getD k 0=u.getD k 0
   ·have:=Znz (Ab:=Ab) r (usF m x u).2 hp.2 h1 (by rw[q];exact h2);omega
   ·have:=ZzT (Ab:=Ab) x u hp.1 hc q;omega
end
theorem Zwt {old:Ac} {s:Step} (h:(Zam old s).code=0) {r:Nat} (hr:r < s.g.Aa.length):Zhy old (s.frags.getD r []) s.g.Aa[r].right=true:=by
 rw[Zam] at h;by_cases h0:(Zac old).code=0
 ·rw[Hb h0] at h;by_cases h1:(Zac s.g).code=0
  ·rw[Hb h1] at h;by_cases h2:s.empty.length≤200
   ·rw[Hb h2] at h;by_cases h3:s.empty.any (ZbX old)=true
    ·rw[Hb h3] at h;cases h
    ·rw[Ha h3] at h;by_cases h4:s.frags.length=s.g.Aa.length
     ·rw[Hb h4] at h;have:=ZgP h r (by omega) hr;rw[Hf,Hj (by omega),HW];rw[Zay] at this;split at this
      ·cases this
      ·split at this
       ·assumption
       ·cases this
     ·rw[Ha h4] at h;cases h
   ·rw[Ha h2] at h;cases h
  ·rw[Ha h1] at h;exact absurd h h1
 ·rw[Ha h0] at h;exact absurd h h0
theorem ZCi {old:Ac} {l:List Ad} {right:List Int} (h:Zhy old l right=true) (hp:plL l=true) (ks:List (List Tree)) {k:Nat} (hk:k < (Ab right).length):cnts (ks.getD k [])≤cnts (muL ks l):=by
 unfold Zhy at h;rw[Hr] at h;refine Znz l _ hp h.1 ?_;have hlen:=Zkh old.Aa.length l (List.replicate (Ab right).length 0);rw[HM] at hlen;have h2:=h.2;simp only[HR,HZ] at h2;have h3:=h2 _ (He (l:=(usL (old.Aa.length:Int) l (List.replicate (Ab right).length 0)).2) (n:=k) (by omega));rw[Hf,Hj (by omega),HW,h3,Hf,JK];rw[Hb hk];decide
theorem ZBQ {old:Ac} {s:Step} (hs:(Zam old s).code=0) (hp:∀ l∈s.frags,plL l=true):∀ (n:Nat) (t:Tree) (v:Int),cnt t≤n→fits s.g t v=true→cnts (vaT s t)≤400→okT s t
 | 0,t,_,hn,_,_=>by have:=Zf0 t;omega
 | n+1,t,v,hn,hf,hc=>by
  obtain⟨r,hr,e1,e2,e3,e4,_⟩:=ZaR hf;have hu:=Zwt hs hr;have hpl:plL (s.frags.getD r [])=true:=by
   rw[Hf];by_cases q:r < s.frags.length
   ·rw[Hj q];exact hp _ (He q)
   ·rw[HI (by omega)];rfl
  rw[Zkk] at hc;rw[Zwo];rw[e1,Hn] at hc ⊢;refine⟨(Zkl s _).2 fun x hx=>?_,ZDL hpl hc⟩;obtain⟨k,hk,rfl⟩:=List.mem_iff_getElem.1 hx;have h1:=ZCi hu hpl (vaL s t.Ab) (k:=k) (by omega);rw[Hf,Hj (by rw[Zd8];exact hk),HW,Zfm s t.Ab k hk] at h1;refine ZBQ hs hp n _ _ ?_ (Zbv e4 hk (by omega)) (by omega);have:=Zbn hx;rw[ZcB] at hn;omega
structure ZdM (g h:Ac) (D:Int→List Tree→Prop) (W:Int→List Tree→List Int) (w:List Int):Prop where
 one:∀ l,D h.start l→∃ x,l=[x]∧fits g x g.start=true∧W h.start l=Zbo g x
 all:∀ x,fits g x g.start=true→Zbo g x=w→D h.start [x]
def Zdn (s:Step) (t:Tree):Tree:=(vaT s t).headD t
section
variable {g:Ac} {s:Step} {w:List Int} {D:Int→List Tree→Prop} {W:Int→List Tree→List Int} {μ:Int→List Tree→Nat}
theorem ZdR (hL:ZfS s.g s.frags D W μ) (hS:ZdM g s.g D W w) {t:Tree} (ht:IsW s.g w t):vaT s t=[Zdn s t]∧IsW g w (Zdn s t):=by
 obtain⟨h1,h2⟩:=ZcT hL _ t _ (Hg _) ht.1;obtain⟨x,e1,e2,e3⟩:=hS.one _ h1;unfold Zdn;rw[e1];refine⟨rfl,e2,?_⟩;rw[←ht.2,←h2,e3];rfl
theorem Zkm (hL:ZfS s.g s.frags D W μ) (hS:ZdM g s.g D W w) {t t':Tree} (ht:IsW s.g w t) (ht':IsW s.g w t') (h:Zdn s t=Zdn s t'):t=t' :=
 ZsO hL _ t t' _ (Hg _) ht.1 ht'.1 (by rw[(ZdR hL hS ht).1,(ZdR hL hS ht').1,h])
theorem ZuF (hh:s.g.ok) (hL:ZfS s.g s.frags D W μ) (hS:ZdM g s.g D W w) {x:Tree} (hx:IsW g w x):∃ t,IsW s.g w t∧Zdn s t=x:=by
 obtain⟨t,h1,h2⟩:=Zpi hh hL _ _ _ hh.start0 hh.start (Gk _) (hS.all x hx.1 hx.2);obtain⟨_,k2⟩:=ZcT hL _ t _ (Hg _) h1;have hd:=hS.all x hx.1 hx.2;obtain⟨y,e1,e2,e3⟩:=hS.one _ hd;have e:x=y:=by simpa using e1
 refine⟨t,⟨h1,?_⟩,by unfold Zdn;rw[h2];rfl⟩;rw[←k2,h2,e3,←e,hx.2]
theorem ZsP (hg:g.ok) (hh:s.g.ok) (hL:ZfS s.g s.frags D W μ) (hS:ZdM g s.g D W w):cntF s.g w=cntF g w :=
 Zze hg hh (Zdn s) (fun x hx=>(ZdR hL hS hx).2) (fun x y hx hy e=>Zkm hL hS hx hy e) (fun y hy=>ZuF hh hL hS hy)
theorem Zwu (hs:(Zam g s).code=0) (hL:ZfS s.g s.frags D W μ) (hS:ZdM g s.g D W w) {l:List Tree} (hl:ListOk g w l) (hok:∀ t,IsW s.g w t→cnt t≤400→cnt (Zdn s t)≤400→okT s t) {t:Tree} (ht:IsW s.g w t) (hc:cnt t≤400):Zb8 g s t=(Zdn s t,⟨0,0⟩):=by
 obtain⟨hg,hh,_⟩:=Zb3 hs;obtain⟨h1,h2⟩:=ZdR hL hS ht;have h3:=(hl.mem (hl.all h2)).2;have h4:ZaB s.g t s.g.start=⟨0,0⟩:=by unfold ZaB;rw[hh.fault,Hb rfl,Hb hc,Hb ht.1]
 have h5:ZaB g (Zdn s t) g.start=⟨0,0⟩:=by unfold ZaB;rw[hg.fault,Hb rfl,Hb h3,Hb h2.1]
 unfold Zb8;rw[Hb hs,h4,Hb rfl,Zwp t (hok t ht hc h3),h1];dsimp only;rw[h5,Hb rfl]
theorem ZuG (hg:g.ok) (hh:s.g.ok) (hL:ZfS s.g s.frags D W μ) (hS:ZdM g s.g D W w) {l m:List Tree} (hl:ListOk g w l) (hm:ListOk s.g w m):Zcg (m.map (Zdn s))=Zcg l :=
 ZvM hl hm (Zdn s) (fun x hx=>(ZdR hL hS hx).2) (fun x y hx hy e=>Zkm hL hS hx hy e) (ZsP hg hh hL hS)
end
mutual
theorem ZDM {Ab:List (List Tree)}:∀ (x:Ad) (a:List Tree),mkF Ab x=some a→a=muF Ab x
 | .mk o n l,a,h=>by
  rw[mkF] at h;rw[muF];by_cases h1:o=1
  ·rw[Hb h1] at h ⊢;cases hc:mkA Ab l with
   | none=>rw[hc] at h;cases h
   | some b =>
    have hb:=ZsQ l b hc;rw[hc,Jl] at h;cases hd:ZbV b with
    | none=>rw[hd] at h;cases h
    | some c =>
     obtain⟨rfl,_⟩:=Ze2 hd;rw[hd,H9] at h;rw[←hb];exact (GF h).symm
  rw[Ha h1] at h ⊢;by_cases h2:o=2
  ·rw[Hb h2] at h ⊢;exact (GF h).symm
  rw[Ha h2] at h ⊢;by_cases h3:o=3
  ·rw[Hb h3] at h ⊢;exact (GF h).symm
  rw[Ha h3] at h ⊢;by_cases h4:o=4
  ·rw[Hb h4] at h ⊢;cases hc:mkA Ab l with
   | none=>rw[hc] at h;cases h
   | some b =>
    have hb:=ZsQ l b hc;rw[hc,Jl] at h;cases hd:ZbV b with
    | none=>rw[hd] at h;cases h
    | some c =>
     obtain⟨rfl,_⟩:=Ze2 hd;rw[hd,Jl] at h;rw[←hb];exact (Ze2 h).1
  ·rw[Ha h4] at h ⊢;exact (GF h).symm
theorem ZsQ {Ab:List (List Tree)}:∀ (l:List Ad) (a:List Tree),mkA Ab l=some a→a=muL Ab l
 | [],a,h=>by rw[mkA] at h;rw[muL];exact (GF h).symm
 | x::r,a,h=>by
  rw[mkA] at h;rw[muL];cases hc:mkF Ab x with
  | none=>rw[hc] at h;cases h
  | some b =>
   cases hd:mkA Ab r with
   | none=>rw[hc,hd] at h;cases h
   | some c =>
    rw[hc,hd,Jl,H9] at h;rw[←ZDM x b hc,←ZsQ r c hd];exact (GF h).symm
end
mutual
theorem Zwv {s:Step}:∀ (x:Tree) (a:List Tree),valT s x=some a→a=vaT s x
 | .mk r ks,a,h=>by
  rw[valT] at h;rw[vaT];cases hc:valL s ks with
  | none=>rw[hc] at h;cases h
  | some b =>
   rw[hc,Jl] at h;rw[←Zww ks b hc];exact ZsQ _ _ (ZjI h).1
theorem Zww {s:Step}:∀ (l:List Tree) (a:List (List Tree)),valL s l=some a→a=vaL s l
 | [],a,h=>by rw[valL] at h;rw[vaL];exact (GF h).symm
 | x::l,a,h=>by
  rw[valL] at h;rw[vaL];cases hc:valT s x with
  | none=>rw[hc] at h;cases h
  | some b =>
   cases hd:valL s l with
   | none=>rw[hc,hd] at h;cases h
   | some c =>
    rw[hc,hd,Jl,H9] at h;rw[←Zwv x b hc,←Zww l c hd];exact (GF h).symm
end
structure Zrj (g:Ac) (s:Step) (w:List Int):Prop where
 is:∀ t,IsW s.g w t→IsW g w (Zdn s t)
 inj:∀ t t',IsW s.g w t→IsW s.g w t'→Zdn s t=Zdn s t'→t=t'
 two:∀ t,IsW s.g w t→cnt t≤400→Zb8 g s t=(Zdn s t,⟨0,0⟩)∧cnt (Zdn s t)≤400∨(Zb8 g s t).2.code=6
theorem ZzU {g:Ac} {s:Step} {w:List Int} {D:Int→List Tree→Prop} {W:Int→List Tree→List Int} {μ:Int→List Tree→Nat} (hs:(Zam g s).code=0) (hL:ZfS s.g s.frags D W μ) (hS:ZdM g s.g D W w):Zrj g s w where
 is t ht:=(ZdR hL hS ht).2
 inj t t' ht ht' e:=Zkm hL hS ht ht' e
 two t ht hc:=by
  obtain⟨hg,hh,_⟩:=Zb3 hs;obtain⟨h1,h2⟩:=ZdR hL hS ht;have h4:ZaB s.g t s.g.start=⟨0,0⟩:=by unfold ZaB;rw[hh.fault,Hb rfl,Hb hc,Hb ht.1]
  unfold Zb8;rw[Hb hs,h4,Hb rfl];cases hv:valT s t with
  | none=>exact .inr rfl
  | some a =>
   have h3:=ZnU hv;have e:=Zwv t a hv;rw[h1] at e;subst e;have h3:cnt (Zdn s t)≤400:=by simpa[cnts] using h3
   have h5:ZaB g (Zdn s t) g.start=⟨0,0⟩:=by unfold ZaB;rw[hg.fault,Hb rfl,Hb h3,Hb h2.1]
   dsimp only;rw[h5,Hb rfl];exact .inl ⟨rfl,h3⟩
def ZgH (g:Ac) (s:Step) (w:List Int) (but:Bool):Prop:=(chF g w).code=0→(chF s.g w).code=0 ∧
 (but=true→cntF s.g w=0∧cntF g w=s.empty.length∧s.empty.Nodup∧∀ x∈s.empty,IsW g w x∧cnt x≤400) ∧
 (but=false→cntF g w=cntF s.g w∧Zrj g s w∧((Zaw g w).2.code=0→(Zaw s.g w).2.code=0→(∀ t∈(Zaw s.g w).1,Zb8 g s t=(Zdn s t,⟨0,0⟩))∧Zcg ((Zaw s.g w).1.map (Zdn s))=Zcg (Zaw g w).1))
theorem Zwx {g h:Ac} {w:List Int} (hc:ChOk g w) (hh:h.ok) (ht:h.terms=g.terms) (hcy:cycL h=[]):ChOk h w:=⟨hh,hcy,hc.len,fun x hx=>by rw[ht];exact hc.syms x hx⟩
theorem Zwy {t:Int}:∀ {w:List Int} {i:Nat},(∀ x∈w,0≤x∧x < t)→wBad t w i=none
 | [],_,_=>rfl
 | y::r,i,h=>by
  rw[wBad,Ha (by have:=h y (by simp);omega)];exact Zwy fun x hx=>h x (by simp[hx])
theorem ChOk.fault {g:Ac} {w:List Int} (h:ChOk g w):chF g w=⟨0,0⟩:=by
 unfold chF;rw[h.ok.fault,Hb rfl,Ha (by have:=h.len;omega),Zwy h.syms];simp[h.cyc]
theorem Zis {g:Ac} {s:Step} {w:List Int} {D:Int→List Tree→Prop} {W:Int→List Tree→List Int} {μ:Int→List Tree→Nat} (hs:(Zam g s).code=0) (ht:s.g.terms=g.terms) (hcy:cycL g=[]→cycL s.g=[]) (hL:ZfS s.g s.frags D W μ) (hS:ZdM g s.g D W w)
  (hok:∀ t,IsW s.g w t→cnt t≤400→cnt (Zdn s t)≤400→okT s t):ZgH g s w false:=fun hc=>by
 obtain⟨hg,hh,_⟩:=Zb3 hs;obtain⟨hC,_⟩:=ZsS hc;refine⟨by rw[(Zwx hC hh ht (hcy hC.cyc)).fault],fun h=>(by cases h),fun _=>⟨(ZsP hg hh hL hS).symm,ZzU hs hL hS,fun h1 h2=>?_⟩⟩;have hl:=Zbg h1;have hm:=Zbg h2;refine⟨fun t ht=>?_,ZuG hg hh hL hS hl hm⟩;obtain⟨q1,q2⟩:=hm.mem ht;exact Zwu hs hL hS hl hok q1 q2
theorem ZjB {g:Ac} {s:Step} {w:List Int} {D:Int→List Tree→Prop} {W:Int→List Tree→List Int} {μ:Int→List Tree→Nat} (hs:(Zam g s).code=0) (hp:∀ l∈s.frags,plL l=true) (hL:ZfS s.g s.frags D W μ) (hS:ZdM g s.g D W w) (t:Tree) (ht:IsW s.g w t) (_:cnt t≤400) (hb:cnt (Zdn s t)≤400):okT s t :=
 ZBQ hs hp _ t _ (Hg _) ht.1 (by rw[(ZdR hL hS ht).1];simp only[cnts];omega)
theorem ZhB {h:Ac} (hh:h.ok) (P:Int→Prop) (hP:∀ q∈h.Aa,(∀ s∈q.right,0≤s∧P s)→P q.left):∀ v,has (nulB h) v=true→P v:=by
 classical
 intro v hv;have hs:=Zif (t:=false) (g:=h) (S:=lowB h.vars.toNat fun u=>decide (P u)) (by simp[lowB]) (fun q hq hin=>by
  simp only[asks,cond_false,ZaQ,HR] at hin;refine lowB_has.2 ⟨hh.left0 q hq,by have:=hh.left q hq;have:=hh.left0 q hq;omega,Hu (hP q hq fun s hs=>?_)⟩;obtain⟨a,b,c⟩:=lowB_has.1 (hin s hs);exact⟨a,H0 c⟩)
 exact H0 (lowB_has.1 (hs.sub v hv)).2.2
theorem ZeW {g:Ac} (hg:g.ok) {q:Rule} (hq:q∈g.Aa) (h:∀ s∈q.right,has (nulB g) s=true):has (nulB g) q.left=true :=
 ZfL (t:=false) hg q hq (by simpa[asks,ZaQ] using h)
theorem stepA_iff {h:Ac} {v u:Int}:u∈ZiL h v↔∃ q∈h.Aa,q.left=v∧∃ pre post,q.right=pre++u::post∧0≤u∧ZaQ pre (nulB h)=true∧ZaQ post (nulB h)=true:=by
 constructor
 ·intro hu;obtain⟨q,hq,e1,e2⟩:=overBy_mem.1 hu;obtain⟨k,hk,e3,e4⟩:=picks_mem.1 e2;unfold ZdQ at e3;simp only[Hr,GD,HZ] at e3;obtain⟨g0,g1,g2⟩:=e3;rw[←e4] at g0;refine⟨q,hq,e1,q.right.take k,q.right.drop (k+1),?_,g0,g1,g2⟩;have:q.right.getD k 0=q.right[k]:=by rw[Hf,Hj hk];rfl
  rw[e4,this,List.getElem_cons_drop,Gh]
 ·rintro⟨q,hq,e1,pre,post,e2,h0,h1,h2⟩;refine overBy_mem.2 ⟨q,hq,e1,picks_mem.2 ⟨pre.length,by rw[e2];simp,?_,by rw[e2];simp⟩⟩;have q1:q.right.getD pre.length 0=u:=by rw[e2];simp
  have q2:q.right.take pre.length=pre:=by rw[e2];simp
  have q3:q.right.drop (pre.length+1)=post:=by rw[e2];simp
  unfold ZdQ;rw[q1,q2,q3,h1,h2];simp[h0]
theorem ZzV {g h:Ac} (hg:g.ok) (hh:h.ok) (hc:cycL g=[]) (φ:Int→Int) (hφ:∀ v,0≤v→v < h.vars→0≤φ v∧φ v < g.vars) (H:∀ v u,0≤v→v < h.vars→u∈ZiL h v→φ u∈ZiL g (φ v)):cycL h=[] :=
 ZiK hh (fun v=>rnk g (φ v)) fun v u h0 h1 hu=>ZdO hg hc (hφ v h0 h1).1 (hφ v h0 h1).2 (H v u h0 h1 hu)
def sing (xs:List Tree):List (List Tree):=xs.map fun x=>[x]
theorem ZeA (xs:List Tree):(sing xs).length=xs.length:=by simp[sing]
def EL (E:Int→Tree→Prop) (xs:List Tree) (us:List Int):Prop:=xs.length=us.length∧∀ (i:Nat) (h1:i < xs.length) (h2:i < us.length),E us[i] xs[i]
def oneD (E:Int→Tree→Prop) (v:Int) (l:List Tree):Prop:=∃ x,l=[x]∧E v x
def sgW (g:Ac) (_:Int) (l:List Tree):List Int:=l.flatMap (Zbo g)
theorem Zkn {E:Int→Tree→Prop}:∀ {ls:List (List Tree)} {us:List Int},DL (oneD E) ls us→∃ xs,ls=sing xs∧EL E xs us
 | [],[],_=>⟨[],rfl,rfl,fun i h1 _=>by simp at h1⟩
 | l::ls,v::vs,h=>by
  obtain⟨⟨x,rfl,hx⟩,h2⟩:=h;obtain⟨xs,rfl,k1,k2⟩:=Zkn h2;refine⟨x::xs,rfl,by simp[k1],fun i h1 h2=>?_⟩;cases i with
  | zero=>exact hx
  | succ i=>exact k2 i (by simpa using h1) (by simpa using h2)
 | [],_::_,h=>nomatch h
 | _::_,[],h=>nomatch h
theorem ZBR {E:Int→Tree→Prop} {xs:List Tree} {us:List Int} (h:EL E xs us):DL (oneD E) (sing xs) us :=
 ZCg (by rw[ZeA,h.1]) fun i h1 h2=>⟨xs[i]'(by rw[ZeA] at h1;exact h1),by simp[sing],h.2 i _ h2⟩
theorem ZjC (g:Ac):∀ (ss:List Int) (xs:List Tree),catW (sgW g) ss (sing xs)=wordL g ss xs
 | [],xs=>by rw[Zgl,Zbe]
 | s::ss,xs=>by
  by_cases hs:s < 0
  ·rw[Zfl hs,Zbi hs,ZjC g ss xs]
  ·cases xs with
   | nil=>rw[ZdJ hs,←ZjC g ss []];exact Znx hs ss
   | cons x xs =>
    rw[Za2 hs,←ZjC g ss xs];show catW (sgW g) (s::ss) ([x]::sing xs)=_;rw[Zez hs];simp[sgW]
structure LeadsT (g h:Ac) (F:List (List Ad)) (E:Int→Tree→Prop):Prop where
 sound:∀ (r:Nat) (hr:r < h.Aa.length) (xs:List Tree),EL E xs (Ab h.Aa[r].right)→∃ x,muL (sing xs) (F.getD r [])=[x]∧E h.Aa[r].left x∧Zbo g x=wordL g h.Aa[r].right xs
 inj:∀ (r r':Nat) (hr:r < h.Aa.length) (hr':r' < h.Aa.length) (xs xs':List Tree),h.Aa[r].left=h.Aa[r'].left→EL E xs (Ab h.Aa[r].right)→EL E xs' (Ab h.Aa[r'].right)→muL (sing xs) (F.getD r [])=muL (sing xs') (F.getD r' [])→r=r'∧xs=xs'
 surj:∀ (v:Int) (x:Tree),0≤v→v < h.vars→E v x→∃ (r:Nat) (hr:r < h.Aa.length) (xs:List Tree),h.Aa[r].left=v∧EL E xs (Ab h.Aa[r].right)∧muL (sing xs) (F.getD r [])=[x]∧∀ y∈xs,cnt y < cnt x
theorem LeadsT.leads {g h:Ac} {F:List (List Ad)} {E:Int→Tree→Prop} (H:LeadsT g h F E):ZfS h F (oneD E) (sgW g) (fun _ l=>cnts l) where
 sound r hr ls hd:=by
  obtain⟨xs,rfl,hx⟩:=Zkn hd;obtain⟨x,e1,e2,e3⟩:=H.sound r hr xs hx;rw[e1,ZjC];exact⟨⟨x,rfl,e2⟩,by rw[←e3];simp[sgW]⟩
 inj r r' hr hr' ls ls' hl hd hd' he:=by
  obtain⟨xs,rfl,hx⟩:=Zkn hd;obtain⟨xs',rfl,hx'⟩:=Zkn hd';obtain⟨h1,h2⟩:=H.inj r r' hr hr' xs xs' hl hx hx' he;exact⟨h1,by rw[h2]⟩
 surj v l h0 h1 hd:=by
  obtain⟨x,rfl,hx⟩:=hd;obtain⟨r,hr,xs,e1,e2,e3,e4⟩:=H.surj v x h0 h1 hx;refine⟨r,hr,sing xs,e1,ZBR e2,e3.symm,fun i h1 h2=>?_⟩;rw[ZeA] at h1;have:=e4 _ (He h1);simp only[sing,Gu,cnts];omega
theorem Zit {g h:Ac} {E:Int→Tree→Prop} {w:List Int} (h1:∀ x,E h.start x→fits g x g.start=true) (h2:∀ x,fits g x g.start=true→Zbo g x=w→E h.start x):ZdM g h (oneD E) (sgW g) w where
 one l hl:=by
  obtain⟨x,rfl,hx⟩:=hl;exact⟨x,rfl,h1 x hx,by simp[sgW]⟩
 all x hx hw:=⟨x,rfl,h2 x hx hw⟩
theorem ZnA (ks:List (List Tree)):∀ l:List Ad,muL ks l=l.flatMap (muF ks)
 | []=>rfl
 | x::l=>by rw[muL,ZnA ks l,HP]
theorem Zme:∀ ls:List (List Tree),(List.range ls.length).flatMap (fun i=>ls.getD i [])=ls.flatten
 | []=>rfl
 | l::ls=>by
  rw[Hl,List.range_succ_eq_map,HP,List.flatMap_map,GE,←Zme ls];simp only[GI,Jt]
theorem Zd9 (ls:List (List Tree)):muL ls (ZaF ls.length)=ls.flatten:=by
 rw[ZnA,ZaF,List.flatMap_map,←Zme ls];refine Hy (fun f=>List.flatMap f (List.range ls.length)) (funext fun i=>?_);rw[Zwn];show (if (2:Int)=1 then _ else if (2:Int)=2 then ls.getD (((i:Nat):Int).toNat) [] else _)=_;rw[Ha (by decide),Hb rfl,Hn]
theorem ZhC (r:Int) (ls:List (List Tree)):muL ls (ZaJ r ls.length)=[.mk r ls.flatten]:=by
 unfold ZaJ;rw[muL,muF,Hb rfl,Zd9,muL];rfl
theorem Zwz (xs:List Tree):(sing xs).flatten=xs:=by
 unfold sing
 induction xs with
 | nil=>rfl
 | cons x xs ih=>rw[Hm,GE,ih];rfl
theorem Zby (r:Int) {xs:List Tree} {n:Nat} (h:xs.length=n):muL (sing xs) (ZaJ r n)=[.mk r xs]:=by
 rw[←h,←ZeA xs,ZhC,Zwz]
theorem Zpj (k:Nat):plL (ZaF k)=true:=by
 unfold ZaF;have:∀ l:List Nat,plL (l.map fun (i:Nat)=>Ad.mk 2 (i:Int) [])=true:=by
  intro l
  induction l with
  | nil=>rfl
  | cons i l ih=>rw[Hm,plL,ih,plF];rfl
 exact this _
theorem ZnB (r:Int) (k:Nat):plL (ZaJ r k)=true:=by
 unfold ZaJ;rw[plL,plF,Hb rfl,Zpj];rfl
theorem Zko {g:Ac} (hg:g.ok):∀ (x:Tree) (v:Int),fits g x v=true→has (Zck g) v=true:=by
 refine Tree.ind fun x ih v hf=>?_
 obtain⟨r,hr,e1,e2,e3,e4,_⟩:=ZaR hf;have:=ZfL (t:=true) hg g.Aa[r] (He hr) (by
  simp only[asks,Gc,ZaQ,HR];intro u hu;obtain⟨q,hq,rfl⟩:=List.mem_iff_getElem.1 hu;exact ih _ (He (n:=q) (by omega)) _ (Zbv e4 (by omega) hq))
 rw[e2] at this;exact this
theorem ZsR {K:List Bool} {v v':Int} (h:has K v=true) (h':has K v'=true) (e:rk K v=rk K v'):v=v':=by
 obtain⟨r,hr⟩:=ZjP h;obtain⟨r',hr'⟩:=ZjP h';have h1:(Zba K)[(rk K v).toNat]? = some v:=by
  rw[hr,rk,Hn,Gp (Hg _),Ga];rfl
 have h2:(Zba K)[(rk K v').toNat]? = some v':=by
  rw[hr',rk,Hn,Gp (Hg _),Ga];rfl
 rw[e,h2] at h1;exact (GF h1).symm
theorem ZeX (K:List Bool):∀ xs:List Int,Ab (xs.map (ZaO K))=(Ab xs).map (rk K)
 | []=>rfl
 | x::xs=>by
  rw[Hm];by_cases h:x < 0
  ·rw[Zc2 h,Zc2 (by rw[ZaO,Ha (by omega)];exact h),ZeX K xs]
  ·have h2:ZaO K x=rk K x:=by rw[ZaO,Hb (by omega)]
   rw[h2,ZbG h,ZbG (by unfold rk;omega),ZeX K xs,Hm]
theorem Zgm (g:Ac) (K:List Bool):∀ (ss:List Int) (xs:List Tree),wordL g (ss.map (ZaO K)) xs=wordL g ss xs
 | [],xs=>rfl
 | s::ss,xs=>by
  rw[Hm];by_cases h:s < 0
  ·have h2:ZaO K s=s:=by rw[ZaO,Ha (by omega)]
   rw[h2,Zbi h,Zbi h,Zgm g K ss xs]
  ·have h2:ZaO K s=rk K s:=by rw[ZaO,Hb (by omega)]
   have h3:¬ rk K s < 0:=by unfold rk;omega
   rw[h2];cases xs with
   | nil=>rw[ZdJ h3,ZdJ h,Zgm g K ss []]
   | cons x xs=>rw[Za2 h3,Za2 h,Zgm g K ss xs]
abbrev rulG (g:Ac) (r:Nat):Rule:=g.Aa.getD r ⟨0,[]⟩
theorem ZgR {g:Ac} {r:Nat} (hr:r < g.Aa.length):rulG g r=g.Aa[r]:=by
 unfold rulG;rw[Hf,Hj hr];rfl
def stI (g:Ac) (i n:Nat):List Nat:=(List.range' i n).filter fun r=>stay g (rulG g r)
theorem tI:∀ (g:Ac) (n i:Nat),i+n=g.Aa.length→Zbt g (g.Aa.drop i) i=(stI g i n).map (fun (r:Nat)=>ZaJ r (Ab (rulG g r).right).length)∧ZbO g (g.Aa.drop i)=(stI g i n).map (fun r=>ZlT (Zav g) (rulG g r))
 | g,0,i,h=>by
  rw[HL (by omega)];exact⟨rfl,rfl⟩
 | g,n+1,i,h=>by
  obtain⟨h1,h2⟩:=tI g n (i+1) (by omega);have hi:i < g.Aa.length:=by omega
  rw[Hw hi,Zbt];unfold ZbO at h2 ⊢;unfold stI at h1 h2 ⊢;rw[JE];by_cases hs:stay g g.Aa[i]=true
  ·rw[Hb hs,Gr hs,Gr (by rw[ZgR hi];exact hs),Hm,Hm,Hm,h1,h2,ZgR hi];exact⟨rfl,rfl⟩
  ·rw[Ha hs,GJ hs,GJ (by rw[ZgR hi];exact hs),h1,h2];exact⟨rfl,rfl⟩
section
variable {g:Ac}
abbrev trI (g:Ac):List Nat:=stI g 0 g.Aa.length
theorem trI_mem {r:Nat}:r∈trI g↔r < g.Aa.length∧stay g (rulG g r)=true:=by
 unfold trI stI;rw[List.mem_filter,List.mem_range'_1];simp
theorem ZwA:(trI g).Nodup:=List.Pairwise.filter _ List.nodup_range'
theorem Ziu {j:Nat} (hj:j < (ZaZ g).g.Aa.length):∃ (r:Nat) (hr:r < g.Aa.length) (hI:j < (trI g).length),(trI g)[j]=r∧stay g g.Aa[r]=true∧(ZaZ g).g.Aa[j]=ZlT (Zav g) g.Aa[r]∧(ZaZ g).frags.getD j []=ZaJ r (Ab g.Aa[r].right).length:=by
 obtain⟨h1,h2⟩:=tI g g.Aa.length 0 (by omega);rw[Gl] at h1 h2;have e1:(ZaZ g).g.Aa=(trI g).map fun r=>ZlT (Zav g) (rulG g r):=h2
 have e2:(ZaZ g).frags=(trI g).map fun (r:Nat)=>ZaJ r (Ab (rulG g r).right).length:=h1
 have hI:j < (trI g).length:=by rw[e1,Hi] at hj;exact hj
 obtain⟨hr,hs⟩:=trI_mem.1 (He hI);rw[ZgR hr] at hs;refine⟨_,hr,hI,rfl,hs,?_,?_⟩
 ·simp only[e1,Gu,ZgR hr]
 ·rw[e2,Hf,Gg,Hj hI];simp only[H9,HW,ZgR hr]
theorem ZCj {r:Nat} (hr:r < g.Aa.length) (hs:stay g g.Aa[r]=true):∃ (j:Nat) (_:j < (ZaZ g).g.Aa.length) (hI:j < (trI g).length),(trI g)[j]=r:=by
 obtain⟨j,hj,e⟩:=List.mem_iff_getElem.1 (trI_mem.2 ⟨hr,by rw[ZgR hr];exact hs⟩);refine⟨j,?_,hj,e⟩;obtain⟨_,h2⟩:=tI g g.Aa.length 0 (by omega);rw[Gl] at h2;have e1:(ZaZ g).g.Aa=(trI g).map fun r=>ZlT (Zav g) (rulG g r):=h2
 rw[e1,Hi];exact hj
def ZCk (g:Ac) (u:Int) (x:Tree):Prop:=has (Zck g) g.start=true∧∃ v,has (Zav g) v=true∧rk (Zav g) v=u∧fits g x v=true
theorem ZnC (hg:g.ok) {r:Nat} (hr:r < g.Aa.length) (hs:stay g g.Aa[r]=true) {xs:List Tree} (h:EL (ZCk g) xs (Ab (g.Aa[r].right.map (ZaO (Zav g))))):xs.length=(Ab g.Aa[r].right).length∧fitss g xs (Ab g.Aa[r].right)=true:=by
 obtain⟨h1,h2⟩:=h;rw[ZeX,Hi] at h1;refine⟨h1,ZeV h1 fun q q1 q2=>?_⟩;have h3:=h2 q q1 (by rw[ZeX,Hi];exact q2);simp only[ZeX,Gu] at h3;obtain⟨_,v,k1,k2,k3⟩:=h3;have:=ZsR k1 (ZdF hg (He hr) hs _ (He q2)) k2;rw[←this];exact k3
theorem Zmf (hg:g.ok):LeadsT g (ZaZ g).g (ZaZ g).frags (ZCk g) where
 sound j hj xs h:=by
  obtain⟨r,hr,hI,e1,e2,e3,e4⟩:=Ziu hj;rw[e3] at h ⊢;rw[e4];obtain⟨k1,k2⟩:=ZnC hg hr e2 h;obtain⟨k3,k4⟩:=ZfW hr rfl k1 k2;have e2':=e2;simp only[stay,Hr] at e2';refine⟨_,Zby _ k1,⟨e2'.1,g.Aa[r].left,e2'.2.2,rfl,k3⟩,?_⟩;rw[k4];exact (Zgm g _ _ _).symm
 inj j j' hj hj' xs xs' hl h h' he:=by
  obtain⟨r,hr,hI,e1,e2,e3,e4⟩:=Ziu hj;obtain⟨r',hr',hI',e1',e2',e3',e4'⟩:=Ziu hj';rw[e3] at h;rw[e3'] at h';rw[e4,e4',Zby _ (ZnC hg hr e2 h).1,Zby _ (ZnC hg hr' e2' h').1] at he;obtain⟨q1,q2⟩:=Tree.mk.inj (HY he).1;refine⟨?_,q2⟩;have:r=r':=by omega
  exact (JF ZwA).1 (by rw[e1,e1',this])
 surj u x h0 h1 hx:=by
  obtain⟨hs,v,k1,k2,k3⟩:=hx;obtain⟨r,hr,e1,e2,e3,e4,_⟩:=ZaR k3;have hgd:=Zko hg x v k3;have hst:stay g g.Aa[r]=true:=by
   simp only[stay,rOk,Hr,ZaQ,HR];refine⟨hs,⟨by rw[e2];exact hgd,fun y hy=>?_⟩,by rw[e2];exact k1⟩;obtain⟨q,hq,rfl⟩:=List.mem_iff_getElem.1 hy;exact Zko hg _ _ (Zbv e4 (by omega:q < x.Ab.length) hq)
  obtain⟨j,hj,hI,ej⟩:=ZCj hr hst;obtain⟨r',hr',hI',f1,f2,f3,f4⟩:=Ziu hj;obtain rfl:r=r':=by rw[←ej,f1]
  refine⟨j,hj,x.Ab,?_,?_,?_,fun y hy=>?_⟩
  ·rw[f3];show rk (Zav g) g.Aa[r].left=u;rw[e2,k2]
  ·rw[f3];show EL _ _ (Ab (g.Aa[r].right.map (ZaO (Zav g))));rw[ZeX];refine⟨by rw[Hi,e3],fun i h1 h2=>?_⟩;simp only[Gu];exact⟨hs,_,ZdF hg (He hr) hst _ (He (by omega)),rfl,Zbv e4 h1 (by omega)⟩
  ·rw[f4,Zby _ e3.symm,←e1,←Tree.eta]
  ·have:=Zbn hy;rw[ZcB x];omega
theorem Zkp (hg:g.ok) (w:List Int):ZdM g (ZaZ g).g (oneD (ZCk g)) (sgW g) w :=
 Zit (fun x hx=>by
  obtain⟨_,v,k1,k2,k3⟩:=hx;have:=ZsR k1 (Zd3 hg) k2;rw[←this];exact k3) (fun x hx _=>⟨Zko hg x _ hx,g.start,Zd3 hg,rfl,hx⟩)
theorem ZwB (hg:g.ok):∀ y,has (nulB (ZaZ g).g) y=true→∀ z,has (Zav g) z=true→rk (Zav g) z=y→has (nulB g) z=true:=by
 refine ZhB (Zgp hg) _ fun q hq hin z hz e=>?_
 obtain⟨j,hj,rfl⟩:=List.mem_iff_getElem.1 hq;obtain⟨r,hr,hI,e1,e2,e3,e4⟩:=Ziu hj;rw[e3] at hin e;have e2':=e2;simp only[stay,Hr] at e2';have:=ZsR hz e2'.2.2 e;subst this;refine ZeW hg (He hr) fun s hs=>?_
 obtain⟨h0,h1⟩:=hin (ZaO (Zav g) s) (List.mem_map.2 ⟨s,hs,rfl⟩);by_cases hn:0≤s
 ·exact h1 s (ZdF hg (He hr) e2 s (by simp[Ab,hs,hn])) (by rw[ZaO,Hb hn])
 ·rw[ZaO,Ha hn] at h0;omega
theorem Zmg (hg:g.ok) {r:Nat} (hr:r < g.Aa.length) (hs:stay g g.Aa[r]=true) {l:List Int} (hl:∀ s∈l,s∈g.Aa[r].right) (h:ZaQ (l.map (ZaO (Zav g))) (nulB (ZaZ g).g)=true):ZaQ l (nulB g)=true:=by
 simp only[ZaQ,HR,Gv] at h ⊢;intro s hsl;have h1:=h _ ⟨s,hsl,rfl⟩;have h0:=(Zfe h1).1;by_cases hn:0≤s
 ·exact ZwB hg _ h1 s (ZdF hg (He hr) hs s (by simp[Ab,hl s hsl,hn])) (by rw[ZaO,Hb hn])
 ·rw[ZaO,Ha hn] at h0;omega
theorem ZzW (hg:g.ok) (hc:cycL g=[]):cycL (ZaZ g).g=[]:=by
 classical
 have hv:=Zyj hg;have hex:∀ u,0≤u→u < (ZaZ g).g.vars→∃ v,has (Zav g) v=true∧rk (Zav g) v=u:=fun u h0 h1=>ZrZ g.vars.toNat u h0 (by omega)
 let φ:Int→Int:=fun u=>if h:∃ v,has (Zav g) v=true∧rk (Zav g) v=u then h.choose else 0
 have hφ:∀ v,has (Zav g) v=true→φ (rk (Zav g) v)=v:=fun v hk=>by
  have h:∃ v',has (Zav g) v'=true∧rk (Zav g) v'=rk (Zav g) v:=⟨v,hk,rfl⟩
  have e:φ (rk (Zav g) v)=h.choose:=dif_pos h;rw[e];exact ZsR h.choose_spec.1 hk h.choose_spec.2
 refine ZzV hg (Zgp hg) hc φ (fun u h0 h1=>?_) (fun u u' h0 h1 hu=>?_)
 ·obtain⟨v,k1,rfl⟩:=hex u h0 h1;rw[hφ v k1];have:=Zfe k1;rw[ZeC] at this;omega
 ·obtain⟨q,hq,e1,pre,post,e2,u0,e3,e4⟩:=stepA_iff.1 hu;obtain⟨j,hj,rfl⟩:=List.mem_iff_getElem.1 hq;obtain⟨r,hr,hI,_,f2,f3,f4⟩:=Ziu hj;rw[f3] at e1 e2;have f2':=f2;simp only[stay,Hr] at f2';have e1:rk (Zav g) g.Aa[r].left=u:=e1;have e2:g.Aa[r].right.map (ZaO (Zav g))=pre++u'::post:=e2;obtain⟨pre0,l,a1,rfl,a2⟩:=List.map_eq_append_iff.1 e2;obtain⟨s,post0,rfl,a3,rfl⟩:=List.map_eq_cons_iff.1 a2;have hs0:0≤s:=HN fun hn=>by rw[ZaO,Ha hn] at a3;omega
  rw[ZaO,Hb hs0] at a3;have hks:=ZdF hg (He hr) f2 s (by rw[a1];simp[Ab,hs0]);rw[←e1,hφ _ f2'.2.2,←a3,hφ _ hks];exact stepA_iff.2 ⟨g.Aa[r],He hr,rfl,pre0,post0,a1,hs0,Zmg hg hr f2 (fun s hs=>by rw[a1];simp[hs]) e3,Zmg hg hr f2 (fun s hs=>by rw[a1];simp[hs]) e4⟩
theorem ZCl:∀ l∈(ZaZ g).frags,plL l=true:=fun l hl=>by
 obtain⟨h1,_⟩:=tI g g.Aa.length 0 (by omega);rw[Gl] at h1;have e2:(ZaZ g).frags=(trI g).map fun (r:Nat)=>ZaJ r (Ab (rulG g r).right).length:=h1
 rw[e2] at hl;obtain⟨r,_,rfl⟩:=List.mem_map.1 hl;exact ZnB _ _
theorem ZwC (hg:g.ok) (w:List Int):ZgH g (ZaZ g) w false :=
 Zis (by rw[Zla hg]) rfl (ZzW hg) (Zmf hg).leads (Zkp hg w) (ZjB (by rw[Zla hg]) ZCl (Zmf hg).leads (Zkp hg w))
end
end Go.Proofs.YtbpmepgnjanhnaaGreat
