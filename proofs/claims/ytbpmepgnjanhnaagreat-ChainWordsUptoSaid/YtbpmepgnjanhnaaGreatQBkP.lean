import Derived.Test.YtbpmepgnjanhnaaGreatQThinD
set_option linter.unusedVariables false
set_option linter.unusedSimpArgs false
set_option linter.unusedSectionVars false
namespace Go.Proofs.YtbpmepgnjanhnaaGreat
open Go.RowKit
mutual
def muF (Ab:List (List Tree)):Ad→List Tree
 | .mk o n l=>if o=1 then [.mk n (muL Ab l)] else if o=2 then Ab.getD n.toNat [] else if o=3 then [.mk (-1) []] else if o=4 then ZaW (muL Ab l) (Ab.getD n.toNat []) else []
def muL (Ab:List (List Tree)):List Ad→List Tree
 | []=>[]
 | x::r=>muF Ab x++muL Ab r
end
mutual
def vaT (s:Step):Tree→List Tree
 | .mk r ks=>muL (vaL s ks) (s.frags.getD r.toNat [])
def vaL (s:Step):List Tree→List (List Tree)
 | []=>[]
 | x::l=>vaT s x::vaL s l
end
theorem ZvF (Ab:List (List Tree)) (x:Ad):muF Ab x=if x.op=1 then [.mk x.n (muL Ab x.l)] else if x.op=2 then Ab.getD x.n.toNat [] else if x.op=3 then [.mk (-1) []] else if x.op=4 then ZaW (muL Ab x.l) (Ab.getD x.n.toNat []) else []:=by cases x;rw[muF];rfl
theorem Zkc (s:Step) (x:Tree):vaT s x=muL (vaL s x.Ab) (s.frags.getD x.rule.toNat []):=by cases x;rw[vaT];rfl
theorem Zd6 (s:Step):∀ l:List Tree,(vaL s l).length=l.length
 | []=>rfl
 | x::l=>by rw[vaL,Hl,Hl,Zd6 s l]
theorem ZdY (Ab:List (List Tree)):∀ a b:List Ad,muL Ab (a++b)=muL Ab a++muL Ab b
 | [],b=>rfl
 | x::a,b=>by rw[Hv,muL,muL,ZdY Ab a b,HJ]
theorem ZeR {g:Ac}:∀ {k:List Tree} {vs:List Int},k.length=vs.length→(∀ (q:Nat) (h1:q < k.length) (h2:q < vs.length),fits g k[q] vs[q]=true)→fitss g k vs=true
 | [],_,_,_=>by rw[fitss.eq_def]
 | _::_,[],h,_=>by simp at h
 | x::k,v::vs,h,H=>by
  rw[fitss,Hr];exact⟨H 0 (by simp) (by simp),ZeR (by simpa using h) fun q h1 h2=>H (q+1) (by simpa using h1) (by simpa using h2)⟩
theorem ZfT {g:Ac} {r:Nat} (hr:r < g.Aa.length) {v:Int} {xs:List Tree} (hl:g.Aa[r].left=v) (hk:xs.length=(Ab g.Aa[r].right).length) (hf:fitss g xs (Ab g.Aa[r].right)=true):fits g (.mk (r:Int) xs) v=true∧Zbm g (.mk (r:Int) xs)=wordL g g.Aa[r].right xs:=by
 refine⟨?_,?_⟩
 ·rw[Zf0];show (match (if 0≤(r:Int) then g.Aa[((r:Nat):Int).toNat]? else none) with|none=>_|some ru=>_)=true;rw[Hb (by omega),Hn,Hj hr];simp only[hl,hk,Tree.Ab,hf,decide_true,H0]
 ·rw[Zgo];show wordL g ((g.Aa[((r:Nat):Int).toNat]?).getD ⟨0,[]⟩).right xs=_;rw[Hn,Hj hr];rfl
mutual
def okT (s:Step):Tree→Prop
 | .mk r ks=>okL s ks∧mkL (vaL s ks) (s.frags.getD r.toNat [])=some (muL (vaL s ks) (s.frags.getD r.toNat []))
def okL (s:Step):List Tree→Prop
 | []=>True
 | x::l=>okT s x∧okL s l
end
theorem ZvG (s:Step) (x:Tree):okT s x↔okL s x.Ab∧mkL (vaL s x.Ab) (s.frags.getD x.rule.toNat [])=some (muL (vaL s x.Ab) (s.frags.getD x.rule.toNat [])):=by cases x;rw[okT];exact Iff.rfl
theorem Zkd (s:Step):∀ l:List Tree,okL s l↔∀ x∈l,okT s x
 | []=>by simp[okL]
 | x::l=>by rw[okL,Zkd s l];simp
mutual
theorem ZvH {s:Step}:∀ x:Tree,okT s x→valT s x=some (vaT s x)
 | .mk r ks,h=>by
  rw[okT] at h;rw[valT,ZvI ks h.1,vaT];exact h.2
theorem ZvI {s:Step}:∀ l:List Tree,okL s l→valL s l=some (vaL s l)
 | [],_=>rfl
 | x::l,h=>by
  rw[okL] at h;rw[valL,ZvH x h.1,ZvI l h.2,vaL];rfl
end
section
variable (D:Int→List Tree→Prop) (W:Int→List Tree→List Int)
def DL:List (List Tree)→List Int→Prop
 | [],[]=>True
 | l::ls,v::vs=>D v l∧DL ls vs
 | _,_=>False
def catW:List Int→List (List Tree)→List Int
 | [],_=>[]
 | s::r,ls=>if s < 0 then (-1 - s)::catW r ls else match ls with
  | l::ls=>W s l++catW r ls
  | []=>catW r []
theorem Zgi {W:Int→List Tree→List Int} (ls:List (List Tree)):catW W [] ls=[]:=by rw[catW.eq_def]
theorem Zfh {W:Int→List Tree→List Int} {s:Int} (h:s < 0) (r:List Int) (ls:List (List Tree)):catW W (s::r) ls=(-1 - s)::catW W r ls:=by rw[catW.eq_def];simp[h]
theorem Zew {W:Int→List Tree→List Int} {s:Int} (h:¬ s < 0) (r:List Int) (l:List Tree) (ls:List (List Tree)):catW W (s::r) (l::ls)=W s l++catW W r ls:=by rw[catW.eq_def];simp[h]
theorem Zng {W:Int→List Tree→List Int} {s:Int} (h:¬ s < 0) (r:List Int):catW W (s::r) []=catW W r []:=by rw[catW.eq_def];simp[h]
theorem ZcQ {D:Int→List Tree→Prop}:∀ {ls:List (List Tree)} {vs:List Int},DL D ls vs→ls.length=vs.length
 | [],[],_=>rfl
 | l::ls,v::vs,h=>by rw[Hl,Hl,ZcQ h.2]
 | [],_::_,h=>nomatch h
 | _::_,[],h=>nomatch h
theorem ZvJ {D:Int→List Tree→Prop}:∀ {ls:List (List Tree)} {vs:List Int},DL D ls vs→∀ (i:Nat) (h1:i < ls.length) (h2:i < vs.length),D vs[i] ls[i]
 | [],[],_,i,h1,_=>by simp at h1
 | l::ls,v::vs,h,0,_,_=>h.1
 | l::ls,v::vs,h,i+1,h1,h2=>ZvJ h.2 i (by simpa using h1) (by simpa using h2)
 | [],_::_,h,_,_,_=>nomatch h
 | _::_,[],h,_,_,_=>nomatch h
theorem ZBR {D:Int→List Tree→Prop}:∀ {ls:List (List Tree)} {vs:List Int},ls.length=vs.length→(∀ (i:Nat) (h1:i < ls.length) (h2:i < vs.length),D vs[i] ls[i])→DL D ls vs
 | [],[],_,_=>trivial
 | l::ls,v::vs,h,H=>⟨H 0 (by simp) (by simp),ZBR (by simpa using h) fun i h1 h2=>H (i+1) (by simpa using h1) (by simpa using h2)⟩
 | [],_::_,h,_=>by simp at h
 | _::_,[],h,_=>by simp at h
end
structure ZfS (h:Ac) (F:List (List Ad)) (D:Int→List Tree→Prop) (W:Int→List Tree→List Int) (μ:Int→List Tree→Nat):Prop where
 sound:∀ (r:Nat) (hr:r < h.Aa.length) (ls:List (List Tree)),DL D ls (Ab h.Aa[r].right)→D h.Aa[r].left (muL ls (F.getD r []))∧W h.Aa[r].left (muL ls (F.getD r []))=catW W h.Aa[r].right ls
 inj:∀ (r r':Nat) (hr:r < h.Aa.length) (hr':r' < h.Aa.length) (ls ls':List (List Tree)),h.Aa[r].left=h.Aa[r'].left→DL D ls (Ab h.Aa[r].right)→DL D ls' (Ab h.Aa[r'].right)→muL ls (F.getD r [])=muL ls' (F.getD r' [])→r=r'∧ls=ls'
 surj:∀ (v:Int) (l:List Tree),0≤v→v < h.vars→D v l→∃ (r:Nat) (hr:r < h.Aa.length) (ls:List (List Tree)),h.Aa[r].left=v∧DL D ls (Ab h.Aa[r].right)∧l=muL ls (F.getD r [])∧∀ (i:Nat) (h1:i < ls.length) (h2:i < (Ab h.Aa[r].right).length),μ (Ab h.Aa[r].right)[i] ls[i] < μ v l
section
variable {h:Ac} {s:Step} {D:Int→List Tree→Prop} {W:Int→List Tree→List Int} {μ:Int→List Tree→Nat}
theorem Zfi (s:Step):∀ (l:List Tree) (i:Nat) (h1:i < l.length) (h2:i < (vaL s l).length),(vaL s l)[i]=vaT s l[i]
 | x::l,0,_,_=>rfl
 | x::l,i+1,h1,h2=>by
  simp only[vaL,GQ];exact Zfi s l i (by simpa using h1) _
theorem Znh (g:Ac) (s:Step):∀ (r:List Int) (ks:List Tree),(∀ (i:Nat) (h1:i < ks.length) (h2:i < (Ab r).length),W (Ab r)[i] (vaT s ks[i])=Zbm g ks[i])→catW W r (vaL s ks)=wordL g r ks
 | [],ks,_=>by rw[Zgi,Zba]
 | x::r,ks,H=>by
  by_cases hx:x < 0
  ·rw[Zfh hx,Zbh hx,Znh g s r ks (by rw[ZcX hx] at H;exact H)]
  ·rw[ZbG hx] at H;cases ks with
   | nil=>rw[vaL,ZdA hx,Zng hx];exact Znh g s r [] (fun i h1 _=>by simp at h1)
   | cons t ks =>
    rw[vaL,Za1 hx,Zew hx];have h0:=H 0 (by simp) (by simp);simp only[JD] at h0;rw[h0,Znh g s r ks (fun i h1 h2=>by
     have:=H (i+1) (by simpa using h1) (by simpa using h2);simpa only [GQ] using this)]
theorem Zzj {ks:List Tree} (hf:∀ (t:Tree) (v:Int),t∈ks→fits h t v=true→D v (vaT s t)):∀ (l:List Tree) (vs:List Int),(∀ t∈l,t∈ks)→l.length=vs.length→fitss h l vs=true→DL D (vaL s l) vs:=fun l vs hs hl hfs=>by
 refine ZBR (by rw[Zd6,hl]) fun i h1 h2=>?_
 rw[Zd6] at h1;rw[Zfi s l i h1];exact hf _ _ (hs _ (He h1)) (Zbt hfs h1 h2)
theorem ZcR (hL:ZfS h s.frags D W μ):∀ (n:Nat) (t:Tree) (v:Int),cnt t≤n→fits h t v=true→D v (vaT s t)∧W v (vaT s t)=Zbm h t
 | 0,t,_,hn,_=>by have:=ZfZ t;omega
 | n+1,t,v,hn,hf=>by
  obtain⟨r,hr,e1,e2,e3,e4,e5⟩:=ZaR hf;have ih:∀ (x:Tree) (u:Int),x∈t.Ab→fits h x u=true→D u (vaT s x)∧W u (vaT s x)=Zbm h x:=fun x u hx hfx =>
   ZcR hL n x u (by have:=Zbq hx;rw[Zcz] at hn;omega) hfx
  have hd:DL D (vaL s t.Ab) (Ab h.Aa[r].right):=Zzj (ks:=t.Ab) (fun x u hx hfx=>(ih x u hx hfx).1) _ _ (fun _ q=>q) e3.symm e4;obtain⟨k1,k2⟩:=hL.sound r hr _ hd;rw[Zkc,e1,Hn,←e2];refine⟨k1,?_⟩;rw[k2,e5];exact Znh h s _ _ fun i h1 h2=>(ih _ _ (He h1) (Zbt e4 h1 h2)).2
theorem Zst (hL:ZfS h s.frags D W μ):∀ (n:Nat) (t t':Tree) (v:Int),cnt t≤n→fits h t v=true→fits h t' v=true→vaT s t=vaT s t'→t=t'
 | 0,t,_,_,hn,_,_,_=>by have:=ZfZ t;omega
 | n+1,t,t',v,hn,hf,hf',he=>by
  obtain⟨r,hr,e1,e2,e3,e4,_⟩:=ZaR hf;obtain⟨r',hr',e1',e2',e3',e4',_⟩:=ZaR hf';have hd:DL D (vaL s t.Ab) (Ab h.Aa[r].right):=Zzj (ks:=t.Ab) (fun x u hx hfx=>(ZcR hL _ x u (Hg _) hfx).1) _ _ (fun _ q=>q) e3.symm e4;have hd':DL D (vaL s t'.Ab) (Ab h.Aa[r'].right):=Zzj (ks:=t'.Ab) (fun x u hx hfx=>(ZcR hL _ x u (Hg _) hfx).1) _ _ (fun _ q=>q) e3'.symm e4';rw[Zkc,Zkc,e1,e1',Hn,Hn] at he;obtain⟨q1,q2⟩:=hL.inj r r' hr hr' _ _ (by rw[e2,e2']) hd hd' he;subst q1;have hk:t.Ab=t'.Ab:=by
   have hl:t.Ab.length=t'.Ab.length:=by omega
   refine GM hl fun i h1 h2=>?_
   refine Zst hL n _ _ ((Ab h.Aa[r].right)[i]'(by omega)) (by have:=Zbq (He h1);rw[Zcz] at hn;omega) (Zbt e4 h1 (by omega)) (Zbt e4' h2 (by omega)) ?_;have a1:=Zfi s t.Ab i h1 (by rw[Zd6];exact h1);have a2:=Zfi s t'.Ab i h2 (by rw[Zd6];exact h2);rw[←a1,←a2];simp only[q2]
  rw[Tree.eta t,Tree.eta t',e1,e1',hk]
theorem ZoU (hh:h.ok) (hL:ZfS h s.frags D W μ):∀ (n:Nat) (v:Int) (l:List Tree),0≤v→v < h.vars→μ v l < n→D v l→∃ t,fits h t v=true∧vaT s t=l
 | 0,_,_,_,_,hn,_=>by omega
 | n+1,v,l,h0,h1,hn,hd=>by
  obtain⟨r,hr,ls,e1,e2,e3,e4⟩:=hL.surj v l h0 h1 hd;have hlen:=ZcQ e2;have hex:∀ i,∀ hi:i < ls.length,∃ t,fits h t ((Ab h.Aa[r].right)[i]'(by omega))=true∧vaT s t=ls[i]:=fun i hi=>by
   have hk:=He (l:=Ab h.Aa[r].right) (n:=i) (by omega);obtain⟨q1,q2⟩:=List.mem_filter.1 hk;have q2:=H3 q2;exact ZoU hh hL n _ _ (by omega) (hh.hi _ (He hr) _ q1) (by have:=e4 i hi (by omega);omega) (ZvJ e2 i hi (by omega))
  let ks:List Tree:=(List.range ls.length).attach.map fun i=>(hex i.1 (List.mem_range.1 i.2)).choose
  have hkl:ks.length=ls.length:=by simp[ks]
  have hks:∀ i (hi:i < ks.length),fits h ks[i] ((Ab h.Aa[r].right)[i]'(by omega))=true∧vaT s ks[i]=ls[i]'(by omega):=fun i hi=>by
   have:=(hex i (by omega)).choose_spec;have e:ks[i]=(hex i (by omega)).choose:=by simp[ks]
   rw[e];exact this
  have hv:vaL s ks=ls:=GM (by rw[Zd6,hkl]) fun i q1 q2=>by
   rw[Zfi s ks i (by omega)];exact (hks i (by omega)).2
  refine⟨.mk (r:Int) ks,?_,?_⟩
  ·exact (ZfT hr e1 (by omega) (ZeR (by omega) fun i q1 q2=>(hks i q1).1)).1
  ·rw[vaT,hv,Hn,e3]
end
mutual
def plF:Ad→Bool
 | .mk o _ l=>if o=1 then plL l else decide (o=2)
def plL:List Ad→Bool
 | []=>true
 | x::r=>plF x && plL r
end
mutual
theorem ZDn {Ab:List (List Tree)}:∀ x:Ad,plF x=true→cnts (muF Ab x)≤400→mkF Ab x=some (muF Ab x)
 | .mk o n l,h,hc=>by
  rw[plF] at h;rw[muF] at hc ⊢;rw[mkF];by_cases h1:o=1
  ·rw[Hb h1] at h hc ⊢;rw[Hb h1];simp only[cnts,cnt] at hc;rw[ZvK l h (by omega)];show ((ZbU (muL Ab l)).map _)=_;unfold ZbU;rw[Hb (by omega)];rfl
  ·rw[Ha h1] at h;have h2:o=2:=H3 h;rw[Ha h1,Ha h1,Hb h2,Hb h2]
theorem ZvK {Ab:List (List Tree)}:∀ l:List Ad,plL l=true→cnts (muL Ab l)≤400→mkA Ab l=some (muL Ab l)
 | [],_,_=>rfl
 | x::r,h,hc=>by
  rw[plL,Hr] at h;rw[muL,ZaI] at hc;rw[mkA,ZDn x h.1 (by omega),ZvK r h.2 (by omega),muL];rfl
end
theorem ZDo {Ab:List (List Tree)} {l:List Ad} (h:plL l=true) (hc:cnts (muL Ab l)≤400):mkL Ab l=some (muL Ab l):=by
 unfold mkL;rw[ZvK l h hc];show ZbU _=_;unfold ZbU;rw[Hb hc]
theorem ZBS {u:List Int} {n:Int} {k:Nat} (h:(bump u n).getD k 0≠u.getD k 0):k=n.toNat:=HN fun q=>h (by
 unfold bump;rw[Hf,GN (fun e=>q e.symm),←Hf])
mutual
theorem Zzk {m:Int} {Ab:List (List Tree)} {k:Nat}:∀ (x:Ad) (u:List Int),plF x=true→(usF m x u).1=true→(usF m x u).2.getD k 0≠u.getD k 0→cnts (Ab.getD k [])≤cnts (muF Ab x)
 | .mk o n l,u,hp,h1,h2=>by
  rw[plF] at hp;rw[usF] at h1 h2;rw[muF];by_cases ho:o=1
  ·rw[Hb ho] at hp h1 h2 ⊢;by_cases hn:n < 0∨m≤n
   ·rw[Hb hn] at h1;cases h1
   ·rw[Ha hn] at h1 h2;have:=Zni (Ab:=Ab) l u hp h1 h2;simp only[cnts,cnt];omega
  ·rw[Ha ho] at hp h1 h2 ⊢;have h3:o=2:=H3 hp;rw[Hb h3] at h1 h2 ⊢;by_cases hn:n < 0∨(u.length:Int)≤n
   ·rw[Hb hn] at h1;cases h1
   ·rw[Ha hn] at h2;rw[ZBS h2];exact Hg _
theorem Zni {m:Int} {Ab:List (List Tree)} {k:Nat}:∀ (l:List Ad) (u:List Int),plL l=true→(usL m l u).1=true→(usL m l u).2.getD k 0≠u.getD k 0→cnts (Ab.getD k [])≤cnts (muL Ab l)
 | [],u,_,_,h2=>absurd rfl h2
 | x::r,u,hp,h1,h2=>by
  rw[plL,Hr] at hp;rw[usL] at h1 h2;rw[muL,ZaI];cases hc:(usF m x u).1 with
  | false=>rw[hc] at h1;cases h1
  | true =>
   rw[hc] at h1 h2;simp only[Gb] at h1 h2;by_cases q:(usF m x u).2.getD k 0=u.getD k 0
   ·have:=Zni (Ab:=Ab) r (usF m x u).2 hp.2 h1 (by rw[q];exact h2);omega
   ·have:=Zzk (Ab:=Ab) x u hp.1 hc q;omega
end
theorem ZvL {old:Ac} {s:Step} (h:(Zap old s).code=0) {r:Nat} (hr:r < s.g.Aa.length):ZhX old (s.frags.getD r []) s.g.Aa[r].right=true:=by
 rw[Zap] at h;by_cases h0:(Zac old).code=0
 ·rw[Hb h0] at h;by_cases h1:(Zac s.g).code=0
  ·rw[Hb h1] at h;by_cases h2:s.empty.length≤200
   ·rw[Hb h2] at h;by_cases h3:s.empty.any (ZbZ old)=true
    ·rw[Hb h3] at h;cases h
    ·rw[Ha h3] at h;by_cases h4:s.frags.length=s.g.Aa.length
     ·rw[Hb h4] at h;have:=ZgV h r (by omega) hr;rw[Hf,Hj (by omega),HV];rw[Zax] at this;split at this
      ·cases this
      ·split at this
       ·assumption
       ·cases this
     ·rw[Ha h4] at h;cases h
   ·rw[Ha h2] at h;cases h
  ·rw[Ha h1] at h;exact absurd h h1
 ·rw[Ha h0] at h;exact absurd h h0
theorem ZBT {old:Ac} {l:List Ad} {right:List Int} (h:ZhX old l right=true) (hp:plL l=true) (ks:List (List Tree)) {k:Nat} (hk:k < (Ab right).length):cnts (ks.getD k [])≤cnts (muL ks l):=by
 unfold ZhX at h;rw[Hr] at h;refine Zni l _ hp h.1 ?_;have hlen:=Zk8 old.Aa.length l (List.replicate (Ab right).length 0);rw[HM] at hlen;have h2:=h.2;simp only[HQ,HY] at h2;have h3:=h2 _ (He (l:=(usL (old.Aa.length:Int) l (List.replicate (Ab right).length 0)).2) (n:=k) (by omega));rw[Hf,Hj (by omega),HV,h3,Hf,JE];rw[Hb hk];decide
theorem ZBv {old:Ac} {s:Step} (hs:(Zap old s).code=0) (hp:∀ l∈s.frags,plL l=true):∀ (n:Nat) (t:Tree) (v:Int),cnt t≤n→fits s.g t v=true→cnts (vaT s t)≤400→okT s t
 | 0,t,_,hn,_,_=>by have:=ZfZ t;omega
 | n+1,t,v,hn,hf,hc=>by
  obtain⟨r,hr,e1,e2,e3,e4,_⟩:=ZaR hf;have hu:=ZvL hs hr;have hpl:plL (s.frags.getD r [])=true:=by
   rw[Hf];by_cases q:r < s.frags.length
   ·rw[Hj q];exact hp _ (He q)
   ·rw[HG (by omega)];rfl
  rw[Zkc] at hc;rw[ZvG];rw[e1,Hn] at hc ⊢;refine⟨(Zkd s _).2 fun x hx=>?_,ZDo hpl hc⟩;obtain⟨k,hk,rfl⟩:=List.mem_iff_getElem.1 hx;have h1:=ZBT hu hpl (vaL s t.Ab) (k:=k) (by omega);rw[Hf,Hj (by rw[Zd6];exact hk),HV,Zfi s t.Ab k hk] at h1;refine ZBv hs hp n _ _ ?_ (Zbt e4 hk (by omega)) (by omega);have:=Zbq hx;rw[Zcz] at hn;omega
structure ZdI (g h:Ac) (D:Int→List Tree→Prop) (W:Int→List Tree→List Int) (w:List Int):Prop where
 one:∀ l,D h.start l→∃ x,l=[x]∧fits g x g.start=true∧W h.start l=Zbm g x
 all:∀ x,fits g x g.start=true→Zbm g x=w→D h.start [x]
def ZdO (s:Step) (t:Tree):Tree:=(vaT s t).headD t
section
variable {g:Ac} {s:Step} {w:List Int} {D:Int→List Tree→Prop} {W:Int→List Tree→List Int} {μ:Int→List Tree→Nat}
theorem ZdP (hL:ZfS s.g s.frags D W μ) (hS:ZdI g s.g D W w) {t:Tree} (ht:IsW s.g w t):vaT s t=[ZdO s t]∧IsW g w (ZdO s t):=by
 obtain⟨h1,h2⟩:=ZcR hL _ t _ (Hg _) ht.1;obtain⟨x,e1,e2,e3⟩:=hS.one _ h1;unfold ZdO;rw[e1];refine⟨rfl,e2,?_⟩;rw[←ht.2,←h2,e3];rfl
theorem Zke (hL:ZfS s.g s.frags D W μ) (hS:ZdI g s.g D W w) {t t':Tree} (ht:IsW s.g w t) (ht':IsW s.g w t') (h:ZdO s t=ZdO s t'):t=t' :=
 Zst hL _ t t' _ (Hg _) ht.1 ht'.1 (by rw[(ZdP hL hS ht).1,(ZdP hL hS ht').1,h])
theorem Zt7 (hh:s.g.ok) (hL:ZfS s.g s.frags D W μ) (hS:ZdI g s.g D W w) {x:Tree} (hx:IsW g w x):∃ t,IsW s.g w t∧ZdO s t=x:=by
 obtain⟨t,h1,h2⟩:=ZoU hh hL _ _ _ hh.start0 hh.start (Gj _) (hS.all x hx.1 hx.2);obtain⟨_,k2⟩:=ZcR hL _ t _ (Hg _) h1;have hd:=hS.all x hx.1 hx.2;obtain⟨y,e1,e2,e3⟩:=hS.one _ hd;have e:x=y:=by simpa using e1
 refine⟨t,⟨h1,?_⟩,by unfold ZdO;rw[h2];rfl⟩;rw[←k2,h2,e3,←e,hx.2]
theorem Zsu (hg:g.ok) (hh:s.g.ok) (hL:ZfS s.g s.frags D W μ) (hS:ZdI g s.g D W w):cntF s.g w=cntF g w :=
 ZxU hg hh (ZdO s) (fun x hx=>(ZdP hL hS hx).2) (fun x y hx hy e=>Zke hL hS hx hy e) (fun y hy=>Zt7 hh hL hS hy)
theorem ZvM (hs:(Zap g s).code=0) (hL:ZfS s.g s.frags D W μ) (hS:ZdI g s.g D W w) {l:List Tree} (hl:ListOk g w l) (hok:∀ t,IsW s.g w t→cnt t≤400→cnt (ZdO s t)≤400→okT s t) {t:Tree} (ht:IsW s.g w t) (hc:cnt t≤400):Zb7 g s t=(ZdO s t,⟨0,0⟩):=by
 obtain⟨hg,hh,_⟩:=Zb3 hs;obtain⟨h1,h2⟩:=ZdP hL hS ht;have h3:=(hl.mem (hl.all h2)).2;have h4:ZaA s.g t s.g.start=⟨0,0⟩:=by unfold ZaA;rw[hh.fault,Hb rfl,Hb hc,Hb ht.1]
 have h5:ZaA g (ZdO s t) g.start=⟨0,0⟩:=by unfold ZaA;rw[hg.fault,Hb rfl,Hb h3,Hb h2.1]
 unfold Zb7;rw[Hb hs,h4,Hb rfl,ZvH t (hok t ht hc h3),h1];dsimp only;rw[h5,Hb rfl]
theorem Zt8 (hg:g.ok) (hh:s.g.ok) (hL:ZfS s.g s.frags D W μ) (hS:ZdI g s.g D W w) {l m:List Tree} (hl:ListOk g w l) (hm:ListOk s.g w m):ZdG (m.map (ZdO s))=ZdG l :=
 Zu1 hl hm (ZdO s) (fun x hx=>(ZdP hL hS hx).2) (fun x y hx hy e=>Zke hL hS hx hy e) (Zsu hg hh hL hS)
end
mutual
theorem ZDp {Ab:List (List Tree)}:∀ (x:Ad) (a:List Tree),mkF Ab x=some a→a=muF Ab x
 | .mk o n l,a,h=>by
  rw[mkF] at h;rw[muF];by_cases h1:o=1
  ·rw[Hb h1] at h ⊢;cases hc:mkA Ab l with
   | none=>rw[hc] at h;cases h
   | some b =>
    have hb:=Zsv l b hc;rw[hc,Jd] at h;cases hd:ZbU b with
    | none=>rw[hd] at h;cases h
    | some c =>
     obtain⟨rfl,_⟩:=ZeZ hd;rw[hd,H9] at h;rw[←hb];exact (GG h).symm
  rw[Ha h1] at h ⊢;by_cases h2:o=2
  ·rw[Hb h2] at h ⊢;exact (GG h).symm
  rw[Ha h2] at h ⊢;by_cases h3:o=3
  ·rw[Hb h3] at h ⊢;exact (GG h).symm
  rw[Ha h3] at h ⊢;by_cases h4:o=4
  ·rw[Hb h4] at h ⊢;cases hc:mkA Ab l with
   | none=>rw[hc] at h;cases h
   | some b =>
    have hb:=Zsv l b hc;rw[hc,Jd] at h;cases hd:ZbU b with
    | none=>rw[hd] at h;cases h
    | some c =>
     obtain⟨rfl,_⟩:=ZeZ hd;rw[hd,Jd] at h;rw[←hb];exact (ZeZ h).1
  ·rw[Ha h4] at h ⊢;exact (GG h).symm
theorem Zsv {Ab:List (List Tree)}:∀ (l:List Ad) (a:List Tree),mkA Ab l=some a→a=muL Ab l
 | [],a,h=>by rw[mkA] at h;rw[muL];exact (GG h).symm
 | x::r,a,h=>by
  rw[mkA] at h;rw[muL];cases hc:mkF Ab x with
  | none=>rw[hc] at h;cases h
  | some b =>
   cases hd:mkA Ab r with
   | none=>rw[hc,hd] at h;cases h
   | some c =>
    rw[hc,hd,Jd,H9] at h;rw[←ZDp x b hc,←Zsv r c hd];exact (GG h).symm
end
mutual
theorem ZvN {s:Step}:∀ (x:Tree) (a:List Tree),valT s x=some a→a=vaT s x
 | .mk r ks,a,h=>by
  rw[valT] at h;rw[vaT];cases hc:valL s ks with
  | none=>rw[hc] at h;cases h
  | some b =>
   rw[hc,Jd] at h;rw[←ZvO ks b hc];exact Zsv _ _ (ZjE h).1
theorem ZvO {s:Step}:∀ (l:List Tree) (a:List (List Tree)),valL s l=some a→a=vaL s l
 | [],a,h=>by rw[valL] at h;rw[vaL];exact (GG h).symm
 | x::l,a,h=>by
  rw[valL] at h;rw[vaL];cases hc:valT s x with
  | none=>rw[hc] at h;cases h
  | some b =>
   cases hd:valL s l with
   | none=>rw[hc,hd] at h;cases h
   | some c =>
    rw[hc,hd,Jd,H9] at h;rw[←ZvN x b hc,←ZvO l c hd];exact (GG h).symm
end
structure ZvP (g:Ac) (s:Step) (w:List Int):Prop where
 is:∀ t,IsW s.g w t→IsW g w (ZdO s t)
 inj:∀ t t',IsW s.g w t→IsW s.g w t'→ZdO s t=ZdO s t'→t=t'
 two:∀ t,IsW s.g w t→cnt t≤400→Zb7 g s t=(ZdO s t,⟨0,0⟩)∧cnt (ZdO s t)≤400∨(Zb7 g s t).2.code=6
theorem Zzl {g:Ac} {s:Step} {w:List Int} {D:Int→List Tree→Prop} {W:Int→List Tree→List Int} {μ:Int→List Tree→Nat} (hs:(Zap g s).code=0) (hL:ZfS s.g s.frags D W μ) (hS:ZdI g s.g D W w):ZvP g s w where
 is t ht:=(ZdP hL hS ht).2
 inj t t' ht ht' e:=Zke hL hS ht ht' e
 two t ht hc:=by
  obtain⟨hg,hh,_⟩:=Zb3 hs;obtain⟨h1,h2⟩:=ZdP hL hS ht;have h4:ZaA s.g t s.g.start=⟨0,0⟩:=by unfold ZaA;rw[hh.fault,Hb rfl,Hb hc,Hb ht.1]
  unfold Zb7;rw[Hb hs,h4,Hb rfl];cases hv:valT s t with
  | none=>exact .inr rfl
  | some a =>
   have h3:=ZnF hv;have e:=ZvN t a hv;rw[h1] at e;subst e;have h3:cnt (ZdO s t)≤400:=by simpa[cnts] using h3
   have h5:ZaA g (ZdO s t) g.start=⟨0,0⟩:=by unfold ZaA;rw[hg.fault,Hb rfl,Hb h3,Hb h2.1]
   dsimp only;rw[h5,Hb rfl];exact .inl ⟨rfl,h3⟩
def ZgF (g:Ac) (s:Step) (w:List Int) (but:Bool):Prop:=(chF g w).code=0→(chF s.g w).code=0 ∧
 (but=true→cntF s.g w=0∧cntF g w=s.empty.length∧s.empty.Nodup∧∀ x∈s.empty,IsW g w x∧cnt x≤400) ∧
 (but=false→cntF g w=cntF s.g w∧ZvP g s w∧((ZaL g w).2.code=0→(ZaL s.g w).2.code=0→(∀ t∈(ZaL s.g w).1,Zb7 g s t=(ZdO s t,⟨0,0⟩))∧ZdG ((ZaL s.g w).1.map (ZdO s))=ZdG (ZaL g w).1))
theorem ZvQ {g h:Ac} {w:List Int} (hc:ChOk g w) (hh:h.ok) (ht:h.terms=g.terms) (hcy:cycL h=[]):ChOk h w:=⟨hh,hcy,hc.len,fun x hx=>by rw[ht];exact hc.syms x hx⟩
theorem ZvR {t:Int}:∀ {w:List Int} {i:Nat},(∀ x∈w,0≤x∧x < t)→wBad t w i=none
 | [],_,_=>rfl
 | y::r,i,h=>by
  rw[wBad,Ha (by have:=h y (by simp);omega)];exact ZvR fun x hx=>h x (by simp[hx])
theorem ChOk.fault {g:Ac} {w:List Int} (h:ChOk g w):chF g w=⟨0,0⟩:=by
 unfold chF;rw[h.ok.fault,Hb rfl,Ha (by have:=h.len;omega),ZvR h.syms];simp[h.cyc]
theorem Zim {g:Ac} {s:Step} {w:List Int} {D:Int→List Tree→Prop} {W:Int→List Tree→List Int} {μ:Int→List Tree→Nat} (hs:(Zap g s).code=0) (ht:s.g.terms=g.terms) (hcy:cycL g=[]→cycL s.g=[]) (hL:ZfS s.g s.frags D W μ) (hS:ZdI g s.g D W w)
  (hok:∀ t,IsW s.g w t→cnt t≤400→cnt (ZdO s t)≤400→okT s t):ZgF g s w false:=fun hc=>by
 obtain⟨hg,hh,_⟩:=Zb3 hs;obtain⟨hC,_⟩:=Zkj hc;refine⟨by rw[(ZvQ hC hh ht (hcy hC.cyc)).fault],fun h=>(by cases h),fun _=>⟨(Zsu hg hh hL hS).symm,Zzl hs hL hS,fun h1 h2=>?_⟩⟩;have hl:=Zby h1;have hm:=Zby h2;refine⟨fun t ht=>?_,Zt8 hg hh hL hS hl hm⟩;obtain⟨q1,q2⟩:=hm.mem ht;exact ZvM hs hL hS hl hok q1 q2
theorem Zjx {g:Ac} {s:Step} {w:List Int} {D:Int→List Tree→Prop} {W:Int→List Tree→List Int} {μ:Int→List Tree→Nat} (hs:(Zap g s).code=0) (hp:∀ l∈s.frags,plL l=true) (hL:ZfS s.g s.frags D W μ) (hS:ZdI g s.g D W w) (t:Tree) (ht:IsW s.g w t) (_:cnt t≤400) (hb:cnt (ZdO s t)≤400):okT s t :=
 ZBv hs hp _ t _ (Hg _) ht.1 (by rw[(ZdP hL hS ht).1];simp only[cnts];omega)
theorem Zhp {h:Ac} (hh:h.ok) (P:Int→Prop) (hP:∀ q∈h.Aa,(∀ s∈q.right,0≤s∧P s)→P q.left):∀ v,has (nulB h) v=true→P v:=by
 classical
 intro v hv;have hs:=ZhS (t:=false) (g:=h) (S:=lowB h.vars.toNat fun u=>decide (P u)) (by simp[lowB]) (fun q hq hin=>by
  simp only[asks,cond_false,ZaQ,HQ] at hin;refine lowB_has.2 ⟨hh.left0 q hq,by have:=hh.left q hq;have:=hh.left0 q hq;omega,Ht (hP q hq fun s hs=>?_)⟩;obtain⟨a,b,c⟩:=lowB_has.1 (hin s hs);exact⟨a,H3 c⟩)
 exact H3 (lowB_has.1 (hs.sub v hv)).2.2
theorem ZeS {g:Ac} (hg:g.ok) {q:Rule} (hq:q∈g.Aa) (h:∀ s∈q.right,has (nulB g) s=true):has (nulB g) q.left=true :=
 Zfy (t:=false) hg q hq (by simpa[asks,ZaQ] using h)
theorem stepA_iff {h:Ac} {v u:Int}:u∈ZiE h v↔∃ q∈h.Aa,q.left=v∧∃ pre post,q.right=pre++u::post∧0≤u∧ZaQ pre (nulB h)=true∧ZaQ post (nulB h)=true:=by
 constructor
 ·intro hu;obtain⟨q,hq,e1,e2⟩:=overBy_mem.1 hu;obtain⟨k,hk,e3,e4⟩:=picks_mem.1 e2;unfold ZdN at e3;simp only[Hr,GD,HY] at e3;obtain⟨g0,g1,g2⟩:=e3;rw[←e4] at g0;refine⟨q,hq,e1,q.right.take k,q.right.drop (k+1),?_,g0,g1,g2⟩;have:q.right.getD k 0=q.right[k]:=by rw[Hf,Hj hk];rfl
  rw[e4,this,List.getElem_cons_drop,Ge]
 ·rintro⟨q,hq,e1,pre,post,e2,h0,h1,h2⟩;refine overBy_mem.2 ⟨q,hq,e1,picks_mem.2 ⟨pre.length,by rw[e2];simp,?_,by rw[e2];simp⟩⟩;have q1:q.right.getD pre.length 0=u:=by rw[e2];simp
  have q2:q.right.take pre.length=pre:=by rw[e2];simp
  have q3:q.right.drop (pre.length+1)=post:=by rw[e2];simp
  unfold ZdN;rw[q1,q2,q3,h1,h2];simp[h0]
theorem Zzm {g h:Ac} (hg:g.ok) (hh:h.ok) (hc:cycL g=[]) (φ:Int→Int) (hφ:∀ v,0≤v→v < h.vars→0≤φ v∧φ v < g.vars) (H:∀ v u,0≤v→v < h.vars→u∈ZiE h v→φ u∈ZiE g (φ v)):cycL h=[] :=
 ZiR hh (fun v=>rnk g (φ v)) fun v u h0 h1 hu=>ZdL hg hc (hφ v h0 h1).1 (hφ v h0 h1).2 (H v u h0 h1 hu)
def sing (xs:List Tree):List (List Tree):=xs.map fun x=>[x]
theorem Zex (xs:List Tree):(sing xs).length=xs.length:=by simp[sing]
def EL (E:Int→Tree→Prop) (xs:List Tree) (us:List Int):Prop:=xs.length=us.length∧∀ (i:Nat) (h1:i < xs.length) (h2:i < us.length),E us[i] xs[i]
def oneD (E:Int→Tree→Prop) (v:Int) (l:List Tree):Prop:=∃ x,l=[x]∧E v x
def sgW (g:Ac) (_:Int) (l:List Tree):List Int:=l.flatMap (Zbm g)
theorem Zkf {E:Int→Tree→Prop}:∀ {ls:List (List Tree)} {us:List Int},DL (oneD E) ls us→∃ xs,ls=sing xs∧EL E xs us
 | [],[],_=>⟨[],rfl,rfl,fun i h1 _=>by simp at h1⟩
 | l::ls,v::vs,h=>by
  obtain⟨⟨x,rfl,hx⟩,h2⟩:=h;obtain⟨xs,rfl,k1,k2⟩:=Zkf h2;refine⟨x::xs,rfl,by simp[k1],fun i h1 h2=>?_⟩;cases i with
  | zero=>exact hx
  | succ i=>exact k2 i (by simpa using h1) (by simpa using h2)
 | [],_::_,h=>nomatch h
 | _::_,[],h=>nomatch h
theorem ZBw {E:Int→Tree→Prop} {xs:List Tree} {us:List Int} (h:EL E xs us):DL (oneD E) (sing xs) us :=
 ZBR (by rw[Zex,h.1]) fun i h1 h2=>⟨xs[i]'(by rw[Zex] at h1;exact h1),by simp[sing],h.2 i _ h2⟩
theorem Zjy (g:Ac):∀ (ss:List Int) (xs:List Tree),catW (sgW g) ss (sing xs)=wordL g ss xs
 | [],xs=>by rw[Zgi,Zba]
 | s::ss,xs=>by
  by_cases hs:s < 0
  ·rw[Zfh hs,Zbh hs,Zjy g ss xs]
  ·cases xs with
   | nil=>rw[ZdA hs,←Zjy g ss []];exact Zng hs ss
   | cons x xs =>
    rw[Za1 hs,←Zjy g ss xs];show catW (sgW g) (s::ss) ([x]::sing xs)=_;rw[Zew hs];simp[sgW]
structure LeadsT (g h:Ac) (F:List (List Ad)) (E:Int→Tree→Prop):Prop where
 sound:∀ (r:Nat) (hr:r < h.Aa.length) (xs:List Tree),EL E xs (Ab h.Aa[r].right)→∃ x,muL (sing xs) (F.getD r [])=[x]∧E h.Aa[r].left x∧Zbm g x=wordL g h.Aa[r].right xs
 inj:∀ (r r':Nat) (hr:r < h.Aa.length) (hr':r' < h.Aa.length) (xs xs':List Tree),h.Aa[r].left=h.Aa[r'].left→EL E xs (Ab h.Aa[r].right)→EL E xs' (Ab h.Aa[r'].right)→muL (sing xs) (F.getD r [])=muL (sing xs') (F.getD r' [])→r=r'∧xs=xs'
 surj:∀ (v:Int) (x:Tree),0≤v→v < h.vars→E v x→∃ (r:Nat) (hr:r < h.Aa.length) (xs:List Tree),h.Aa[r].left=v∧EL E xs (Ab h.Aa[r].right)∧muL (sing xs) (F.getD r [])=[x]∧∀ y∈xs,cnt y < cnt x
theorem LeadsT.leads {g h:Ac} {F:List (List Ad)} {E:Int→Tree→Prop} (H:LeadsT g h F E):ZfS h F (oneD E) (sgW g) (fun _ l=>cnts l) where
 sound r hr ls hd:=by
  obtain⟨xs,rfl,hx⟩:=Zkf hd;obtain⟨x,e1,e2,e3⟩:=H.sound r hr xs hx;rw[e1,Zjy];exact⟨⟨x,rfl,e2⟩,by rw[←e3];simp[sgW]⟩
 inj r r' hr hr' ls ls' hl hd hd' he:=by
  obtain⟨xs,rfl,hx⟩:=Zkf hd;obtain⟨xs',rfl,hx'⟩:=Zkf hd';obtain⟨h1,h2⟩:=H.inj r r' hr hr' xs xs' hl hx hx' he;exact⟨h1,by rw[h2]⟩
 surj v l h0 h1 hd:=by
  obtain⟨x,rfl,hx⟩:=hd;obtain⟨r,hr,xs,e1,e2,e3,e4⟩:=H.surj v x h0 h1 hx;refine⟨r,hr,sing xs,e1,ZBw e2,e3.symm,fun i h1 h2=>?_⟩;rw[Zex] at h1;have:=e4 _ (He h1);simp only[sing,Gu,cnts];omega
theorem Zin {g h:Ac} {E:Int→Tree→Prop} {w:List Int} (h1:∀ x,E h.start x→fits g x g.start=true) (h2:∀ x,fits g x g.start=true→Zbm g x=w→E h.start x):ZdI g h (oneD E) (sgW g) w where
 one l hl:=by
  obtain⟨x,rfl,hx⟩:=hl;exact⟨x,rfl,h1 x hx,by simp[sgW]⟩
 all x hx hw:=⟨x,rfl,h2 x hx hw⟩
theorem Znj (ks:List (List Tree)):∀ l:List Ad,muL ks l=l.flatMap (muF ks)
 | []=>rfl
 | x::l=>by rw[muL,Znj ks l,HO]
theorem Zl3:∀ ls:List (List Tree),(List.range ls.length).flatMap (fun i=>ls.getD i [])=ls.flatten
 | []=>rfl
 | l::ls=>by
  rw[Hl,List.range_succ_eq_map,HO,List.flatMap_map,GC,←Zl3 ls];simp only[GF,Jm]
theorem Zd7 (ls:List (List Tree)):muL ls (ZaE ls.length)=ls.flatten:=by
 rw[Znj,ZaE,List.flatMap_map,←Zl3 ls];refine Hz (fun f=>List.flatMap f (List.range ls.length)) (funext fun i=>?_);rw[ZvF];show (if (2:Int)=1 then _ else if (2:Int)=2 then ls.getD (((i:Nat):Int).toNat) [] else _)=_;rw[Ha (by decide),Hb rfl,Hn]
theorem Zhq (r:Int) (ls:List (List Tree)):muL ls (ZaJ r ls.length)=[.mk r ls.flatten]:=by
 unfold ZaJ;rw[muL,muF,Hb rfl,Zd7,muL];rfl
theorem ZvS (xs:List Tree):(sing xs).flatten=xs:=by
 unfold sing
 induction xs with
 | nil=>rfl
 | cons x xs ih=>rw[Hm,GC,ih];rfl
theorem Zbw (r:Int) {xs:List Tree} {n:Nat} (h:xs.length=n):muL (sing xs) (ZaJ r n)=[.mk r xs]:=by
 rw[←h,←Zex xs,Zhq,ZvS]
theorem ZoV (k:Nat):plL (ZaE k)=true:=by
 unfold ZaE;have:∀ l:List Nat,plL (l.map fun (i:Nat)=>Ad.mk 2 (i:Int) [])=true:=by
  intro l
  induction l with
  | nil=>rfl
  | cons i l ih=>rw[Hm,plL,ih,plF];rfl
 exact this _
theorem Znk (r:Int) (k:Nat):plL (ZaJ r k)=true:=by
 unfold ZaJ;rw[plL,plF,Hb rfl,ZoV];rfl
theorem Zkg {g:Ac} (hg:g.ok):∀ (x:Tree) (v:Int),fits g x v=true→has (Zch g) v=true:=by
 refine Tree.ind fun x ih v hf=>?_
 obtain⟨r,hr,e1,e2,e3,e4,_⟩:=ZaR hf;have:=Zfy (t:=true) hg g.Aa[r] (He hr) (by
  simp only[asks,Gb,ZaQ,HQ];intro u hu;obtain⟨q,hq,rfl⟩:=List.mem_iff_getElem.1 hu;exact ih _ (He (n:=q) (by omega)) _ (Zbt e4 (by omega) hq))
 rw[e2] at this;exact this
theorem Zsw {K:List Bool} {v v':Int} (h:has K v=true) (h':has K v'=true) (e:rk K v=rk K v'):v=v':=by
 obtain⟨r,hr⟩:=ZjN h;obtain⟨r',hr'⟩:=ZjN h';have h1:(Za8 K)[(rk K v).toNat]? = some v:=by
  rw[hr,rk,Hn,Gn (Hg _),Gg];rfl
 have h2:(Za8 K)[(rk K v').toNat]? = some v':=by
  rw[hr',rk,Hn,Gn (Hg _),Gg];rfl
 rw[e,h2] at h1;exact (GG h1).symm
theorem ZeT (K:List Bool):∀ xs:List Int,Ab (xs.map (ZaO K))=(Ab xs).map (rk K)
 | []=>rfl
 | x::xs=>by
  rw[Hm];by_cases h:x < 0
  ·rw[ZcX h,ZcX (by rw[ZaO,Ha (by omega)];exact h),ZeT K xs]
  ·have h2:ZaO K x=rk K x:=by rw[ZaO,Hb (by omega)]
   rw[h2,ZbG h,ZbG (by unfold rk;omega),ZeT K xs,Hm]
theorem Zgj (g:Ac) (K:List Bool):∀ (ss:List Int) (xs:List Tree),wordL g (ss.map (ZaO K)) xs=wordL g ss xs
 | [],xs=>rfl
 | s::ss,xs=>by
  rw[Hm];by_cases h:s < 0
  ·have h2:ZaO K s=s:=by rw[ZaO,Ha (by omega)]
   rw[h2,Zbh h,Zbh h,Zgj g K ss xs]
  ·have h2:ZaO K s=rk K s:=by rw[ZaO,Hb (by omega)]
   have h3:¬ rk K s < 0:=by unfold rk;omega
   rw[h2];cases xs with
   | nil=>rw[ZdA h3,ZdA h,Zgj g K ss []]
   | cons x xs=>rw[Za1 h3,Za1 h,Zgj g K ss xs]
abbrev rulG (g:Ac) (r:Nat):Rule:=g.Aa.getD r ⟨0,[]⟩
theorem ZgN {g:Ac} {r:Nat} (hr:r < g.Aa.length):rulG g r=g.Aa[r]:=by
 unfold rulG;rw[Hf,Hj hr];rfl
def stI (g:Ac) (i n:Nat):List Nat:=(List.range' i n).filter fun r=>stay g (rulG g r)
theorem tI:∀ (g:Ac) (n i:Nat),i+n=g.Aa.length→Zbs g (g.Aa.drop i) i=(stI g i n).map (fun (r:Nat)=>ZaJ r (Ab (rulG g r).right).length)∧ZbN g (g.Aa.drop i)=(stI g i n).map (fun r=>ZlO (Zav g) (rulG g r))
 | g,0,i,h=>by
  rw[HL (by omega)];exact⟨rfl,rfl⟩
 | g,n+1,i,h=>by
  obtain⟨h1,h2⟩:=tI g n (i+1) (by omega);have hi:i < g.Aa.length:=by omega
  rw[Hw hi,Zbs];unfold ZbN at h2 ⊢;unfold stI at h1 h2 ⊢;rw[JF];by_cases hs:stay g g.Aa[i]=true
  ·rw[Hb hs,Gp hs,Gp (by rw[ZgN hi];exact hs),Hm,Hm,Hm,h1,h2,ZgN hi];exact⟨rfl,rfl⟩
  ·rw[Ha hs,GH hs,GH (by rw[ZgN hi];exact hs),h1,h2];exact⟨rfl,rfl⟩
section
variable {g:Ac}
abbrev trI (g:Ac):List Nat:=stI g 0 g.Aa.length
theorem trI_mem {r:Nat}:r∈trI g↔r < g.Aa.length∧stay g (rulG g r)=true:=by
 unfold trI stI;rw[List.mem_filter,List.mem_range'_1];simp
theorem ZvT:(trI g).Nodup:=List.Pairwise.filter _ List.nodup_range'
theorem Zio {j:Nat} (hj:j < (ZaY g).g.Aa.length):∃ (r:Nat) (hr:r < g.Aa.length) (hI:j < (trI g).length),(trI g)[j]=r∧stay g g.Aa[r]=true∧(ZaY g).g.Aa[j]=ZlO (Zav g) g.Aa[r]∧(ZaY g).frags.getD j []=ZaJ r (Ab g.Aa[r].right).length:=by
 obtain⟨h1,h2⟩:=tI g g.Aa.length 0 (by omega);rw[Gk] at h1 h2;have e1:(ZaY g).g.Aa=(trI g).map fun r=>ZlO (Zav g) (rulG g r):=h2
 have e2:(ZaY g).frags=(trI g).map fun (r:Nat)=>ZaJ r (Ab (rulG g r).right).length:=h1
 have hI:j < (trI g).length:=by rw[e1,Hh] at hj;exact hj
 obtain⟨hr,hs⟩:=trI_mem.1 (He hI);rw[ZgN hr] at hs;refine⟨_,hr,hI,rfl,hs,?_,?_⟩
 ·simp only[e1,Gu,ZgN hr]
 ·rw[e2,Hf,Gf,Hj hI];simp only[H9,HV,ZgN hr]
theorem ZBU {r:Nat} (hr:r < g.Aa.length) (hs:stay g g.Aa[r]=true):∃ (j:Nat) (_:j < (ZaY g).g.Aa.length) (hI:j < (trI g).length),(trI g)[j]=r:=by
 obtain⟨j,hj,e⟩:=List.mem_iff_getElem.1 (trI_mem.2 ⟨hr,by rw[ZgN hr];exact hs⟩);refine⟨j,?_,hj,e⟩;obtain⟨_,h2⟩:=tI g g.Aa.length 0 (by omega);rw[Gk] at h2;have e1:(ZaY g).g.Aa=(trI g).map fun r=>ZlO (Zav g) (rulG g r):=h2
 rw[e1,Hh];exact hj
def ZBV (g:Ac) (u:Int) (x:Tree):Prop:=has (Zch g) g.start=true∧∃ v,has (Zav g) v=true∧rk (Zav g) v=u∧fits g x v=true
theorem Znl (hg:g.ok) {r:Nat} (hr:r < g.Aa.length) (hs:stay g g.Aa[r]=true) {xs:List Tree} (h:EL (ZBV g) xs (Ab (g.Aa[r].right.map (ZaO (Zav g))))):xs.length=(Ab g.Aa[r].right).length∧fitss g xs (Ab g.Aa[r].right)=true:=by
 obtain⟨h1,h2⟩:=h;rw[ZeT,Hh] at h1;refine⟨h1,ZeR h1 fun q q1 q2=>?_⟩;have h3:=h2 q q1 (by rw[ZeT,Hh];exact q2);simp only[ZeT,Gu] at h3;obtain⟨_,v,k1,k2,k3⟩:=h3;have:=Zsw k1 (Zdz hg (He hr) hs _ (He q2)) k2;rw[←this];exact k3
theorem Zl4 (hg:g.ok):LeadsT g (ZaY g).g (ZaY g).frags (ZBV g) where
 sound j hj xs h:=by
  obtain⟨r,hr,hI,e1,e2,e3,e4⟩:=Zio hj;rw[e3] at h ⊢;rw[e4];obtain⟨k1,k2⟩:=Znl hg hr e2 h;obtain⟨k3,k4⟩:=ZfT hr rfl k1 k2;have e2':=e2;simp only[stay,Hr] at e2';refine⟨_,Zbw _ k1,⟨e2'.1,g.Aa[r].left,e2'.2.2,rfl,k3⟩,?_⟩;rw[k4];exact (Zgj g _ _ _).symm
 inj j j' hj hj' xs xs' hl h h' he:=by
  obtain⟨r,hr,hI,e1,e2,e3,e4⟩:=Zio hj;obtain⟨r',hr',hI',e1',e2',e3',e4'⟩:=Zio hj';rw[e3] at h;rw[e3'] at h';rw[e4,e4',Zbw _ (Znl hg hr e2 h).1,Zbw _ (Znl hg hr' e2' h').1] at he;obtain⟨q1,q2⟩:=Tree.mk.inj (HX he).1;refine⟨?_,q2⟩;have:r=r':=by omega
  exact (Jz ZvT).1 (by rw[e1,e1',this])
 surj u x h0 h1 hx:=by
  obtain⟨hs,v,k1,k2,k3⟩:=hx;obtain⟨r,hr,e1,e2,e3,e4,_⟩:=ZaR k3;have hgd:=Zkg hg x v k3;have hst:stay g g.Aa[r]=true:=by
   simp only[stay,rOk,Hr,ZaQ,HQ];refine⟨hs,⟨by rw[e2];exact hgd,fun y hy=>?_⟩,by rw[e2];exact k1⟩;obtain⟨q,hq,rfl⟩:=List.mem_iff_getElem.1 hy;exact Zkg hg _ _ (Zbt e4 (by omega:q < x.Ab.length) hq)
  obtain⟨j,hj,hI,ej⟩:=ZBU hr hst;obtain⟨r',hr',hI',f1,f2,f3,f4⟩:=Zio hj;obtain rfl:r=r':=by rw[←ej,f1]
  refine⟨j,hj,x.Ab,?_,?_,?_,fun y hy=>?_⟩
  ·rw[f3];show rk (Zav g) g.Aa[r].left=u;rw[e2,k2]
  ·rw[f3];show EL _ _ (Ab (g.Aa[r].right.map (ZaO (Zav g))));rw[ZeT];refine⟨by rw[Hh,e3],fun i h1 h2=>?_⟩;simp only[Gu];exact⟨hs,_,Zdz hg (He hr) hst _ (He (by omega)),rfl,Zbt e4 h1 (by omega)⟩
  ·rw[f4,Zbw _ e3.symm,←e1,←Tree.eta]
  ·have:=Zbq hy;rw[Zcz x];omega
theorem Zkh (hg:g.ok) (w:List Int):ZdI g (ZaY g).g (oneD (ZBV g)) (sgW g) w :=
 Zin (fun x hx=>by
  obtain⟨_,v,k1,k2,k3⟩:=hx;have:=Zsw k1 (Zd2 hg) k2;rw[←this];exact k3) (fun x hx _=>⟨Zkg hg x _ hx,g.start,Zd2 hg,rfl,hx⟩)
theorem ZvU (hg:g.ok):∀ y,has (nulB (ZaY g).g) y=true→∀ z,has (Zav g) z=true→rk (Zav g) z=y→has (nulB g) z=true:=by
 refine Zhp (Zgn hg) _ fun q hq hin z hz e=>?_
 obtain⟨j,hj,rfl⟩:=List.mem_iff_getElem.1 hq;obtain⟨r,hr,hI,e1,e2,e3,e4⟩:=Zio hj;rw[e3] at hin e;have e2':=e2;simp only[stay,Hr] at e2';have:=Zsw hz e2'.2.2 e;subst this;refine ZeS hg (He hr) fun s hs=>?_
 obtain⟨h0,h1⟩:=hin (ZaO (Zav g) s) (List.mem_map.2 ⟨s,hs,rfl⟩);by_cases hn:0≤s
 ·exact h1 s (Zdz hg (He hr) e2 s (by simp[Ab,hs,hn])) (by rw[ZaO,Hb hn])
 ·rw[ZaO,Ha hn] at h0;omega
theorem Zl5 (hg:g.ok) {r:Nat} (hr:r < g.Aa.length) (hs:stay g g.Aa[r]=true) {l:List Int} (hl:∀ s∈l,s∈g.Aa[r].right) (h:ZaQ (l.map (ZaO (Zav g))) (nulB (ZaY g).g)=true):ZaQ l (nulB g)=true:=by
 simp only[ZaQ,HQ,Gv] at h ⊢;intro s hsl;have h1:=h _ ⟨s,hsl,rfl⟩;have h0:=(Ze5 h1).1;by_cases hn:0≤s
 ·exact ZvU hg _ h1 s (Zdz hg (He hr) hs s (by simp[Ab,hl s hsl,hn])) (by rw[ZaO,Hb hn])
 ·rw[ZaO,Ha hn] at h0;omega
theorem Zzn (hg:g.ok) (hc:cycL g=[]):cycL (ZaY g).g=[]:=by
 classical
 have hv:=Zx6 hg;have hex:∀ u,0≤u→u < (ZaY g).g.vars→∃ v,has (Zav g) v=true∧rk (Zav g) v=u:=fun u h0 h1=>ZrN g.vars.toNat u h0 (by omega)
 let φ:Int→Int:=fun u=>if h:∃ v,has (Zav g) v=true∧rk (Zav g) v=u then h.choose else 0
 have hφ:∀ v,has (Zav g) v=true→φ (rk (Zav g) v)=v:=fun v hk=>by
  have h:∃ v',has (Zav g) v'=true∧rk (Zav g) v'=rk (Zav g) v:=⟨v,hk,rfl⟩
  have e:φ (rk (Zav g) v)=h.choose:=dif_pos h;rw[e];exact Zsw h.choose_spec.1 hk h.choose_spec.2
 refine Zzm hg (Zgn hg) hc φ (fun u h0 h1=>?_) (fun u u' h0 h1 hu=>?_)
 ·obtain⟨v,k1,rfl⟩:=hex u h0 h1;rw[hφ v k1];have:=Ze5 k1;rw[ZeC] at this;omega
 ·obtain⟨q,hq,e1,pre,post,e2,u0,e3,e4⟩:=stepA_iff.1 hu;obtain⟨j,hj,rfl⟩:=List.mem_iff_getElem.1 hq;obtain⟨r,hr,hI,_,f2,f3,f4⟩:=Zio hj;rw[f3] at e1 e2;have f2':=f2;simp only[stay,Hr] at f2';have e1:rk (Zav g) g.Aa[r].left=u:=e1;have e2:g.Aa[r].right.map (ZaO (Zav g))=pre++u'::post:=e2;obtain⟨pre0,l,a1,rfl,a2⟩:=List.map_eq_append_iff.1 e2;obtain⟨s,post0,rfl,a3,rfl⟩:=List.map_eq_cons_iff.1 a2;have hs0:0≤s:=HN fun hn=>by rw[ZaO,Ha hn] at a3;omega
  rw[ZaO,Hb hs0] at a3;have hks:=Zdz hg (He hr) f2 s (by rw[a1];simp[Ab,hs0]);rw[←e1,hφ _ f2'.2.2,←a3,hφ _ hks];exact stepA_iff.2 ⟨g.Aa[r],He hr,rfl,pre0,post0,a1,hs0,Zl5 hg hr f2 (fun s hs=>by rw[a1];simp[hs]) e3,Zl5 hg hr f2 (fun s hs=>by rw[a1];simp[hs]) e4⟩
theorem ZBW:∀ l∈(ZaY g).frags,plL l=true:=fun l hl=>by
 obtain⟨h1,_⟩:=tI g g.Aa.length 0 (by omega);rw[Gk] at h1;have e2:(ZaY g).frags=(trI g).map fun (r:Nat)=>ZaJ r (Ab (rulG g r).right).length:=h1
 rw[e2] at hl;obtain⟨r,_,rfl⟩:=List.mem_map.1 hl;exact Znk _ _
theorem ZvV (hg:g.ok) (w:List Int):ZgF g (ZaY g) w false :=
 Zim (by rw[ZpZ hg]) rfl (Zzn hg) (Zl4 hg).leads (Zkh hg w) (Zjx (by rw[ZpZ hg]) ZBW (Zl4 hg).leads (Zkh hg w))
end
end Go.Proofs.YtbpmepgnjanhnaaGreat
