import Derived.Test.YtbpmepgnjanhnaaGreatThinD
set_option linter.unusedVariables false
set_option linter.unusedSimpArgs false
set_option linter.unusedSectionVars false
set_option maxRecDepth 100000
namespace Go.Proofs.YtbpmepgnjanhnaaGreat
open Go.RowKit
section
variable {t u:Bool} {g:Ac} {w:List Int}
end
section
variable {t u:Bool} {g:Ac} {w:List Int}
end
section
variable {t u:Bool} {g:Ac} {w:List Int}
end
section
variable {t u:Bool} {g:Ac} {w:List Int}
end
theorem ZrH {α:Type} {P:TS→Prop} {f:α→TS→Except TS TS}:∀ {ts:List α} {S S':TS},(∀ x∈ts,∀ S S',f x S=.ok S'→P S→P S')→thL f ts S=.ok S'→P S→P S'
 | [],S,S',_,h,g=>by cases h;exact g
 | t::ts,S,S',hf,h,g=>by
  rw[thL] at h;cases hc:f t S with
  | error e=>rw[hc] at h;cases h
  | ok S1=>rw[hc] at h;exact ZrH (fun x hx=>hf x (by simp[hx])) h (hf t (by simp) S S1 hc g)
theorem ZCB {g:Ac} {u:List Int}:∀ (x:Tree) (v:Int),fits g x v=true→usF g.Aa.length (asF x) u=(true,u):=by
 refine Tree.ind fun x ih v hf=>?_
 obtain⟨i,hi,e1,e2,e3,e4,e5⟩:=ZaR hf;have key:∀ (l:List Tree) (vs:List Int),(∀ y∈l,∀ v,fits g y v=true→usF g.Aa.length (asF y) u=(true,u))→l.length=vs.length→fitss g l vs=true→usL g.Aa.length (asFs l) u=(true,u):=by
  intro l
  induction l with
  | nil=>intro vs _ _ _;rw[asFs,usL]
  | cons y l ihl =>
   intro vs h1 h2 h3;cases vs with
   | nil=>simp at h2
   | cons v vs =>
    rw[fitss,Hr] at h3;rw[asFs,usL,h1 y (by simp) v h3.1];simp only[Gc];exact ihl vs (fun z hz=>h1 z (by simp[hz])) (by simpa using h2) h3.2
 rw[Tree.eta x,asF,usF,Hb rfl,e1,Ha (by omega)];exact key x.Ab _ ih e3.symm e4
theorem ZnO (nl:List (List Tree)):∀ (ss:List Int) (p:List Nat) (h:Nat),(∀ s∈(thM nl ss p h).1,s∈ss)∧(thM nl ss p h).1.length≤ss.length
 | [],p,h=>by simp[thM]
 | s::ss,p,h=>by
  by_cases hs:s < 0
  ·simp only[thM,hs,if_true];obtain⟨h1,h2⟩:=ZnO nl ss p h;exact⟨fun x hx=>by rcases List.mem_cons.1 hx with rfl|hx;exact HT;exact HK _ (h1 x hx),by simp;omega⟩
  ·cases p with
   | nil=>simp[thM,hs]
   | cons a p =>
    cases a with
    | zero =>
     simp only[thM,hs,if_false];obtain⟨h1,h2⟩:=ZnO nl ss p (h+1);exact⟨fun x hx=>by rcases List.mem_cons.1 hx with rfl|hx;exact HT;exact HK _ (h1 x hx),by simp;omega⟩
    | succ a =>
     simp only[thM,hs,if_false];obtain⟨h1,h2⟩:=ZnO nl ss p h;exact⟨fun x hx=>HK _ (h1 x hx),by simp;omega⟩
theorem ZnP {g:Ac} {nl:List (List Tree)} (hn:∀ v,∀ x∈nl.getD v [],fits g x (v:Int)=true):∀ (ss:List Int) (p:List Nat) (h:Nat),p.length=(Ab ss).length→(∀ k,∀ q:k < (Za6 nl ss).length,p.getD k 0 < (Za6 nl ss)[k]) →
  usL g.Aa.length (thM nl ss p h).2 (List.replicate h 1++List.replicate (Ab (thM nl ss p h).1).length 0)=(true,List.replicate (h+(Ab (thM nl ss p h).1).length) 1)
 | [],p,h,_,_=>by simp[thM,usL,Ab]
 | s::ss,p,h,hl,hp=>by
  by_cases hs:s < 0
  ·simp only[thM,hs,if_true];have e:Za6 nl (s::ss)=Za6 nl ss:=by unfold Za6;rw[Zc2 hs]
   rw[Zc2 hs];rw[Zc2 hs] at hl;exact ZnP hn ss p h hl (fun k q=>by have:=hp k (by rw[e];exact q);simpa only [e] using this)
  ·have e:Za6 nl (s::ss)=((nl.getD s.toNat []).length+1)::Za6 nl ss:=by unfold Za6;rw[ZbG hs];rfl
   rw[ZbG hs] at hl;cases p with
   | nil=>simp at hl
   | cons a p =>
    have hp':∀ k,∀ q:k < (Za6 nl ss).length,p.getD k 0 < (Za6 nl ss)[k]:=fun k q=>by
     have:=hp (k+1) (by rw[e];simpa using q);simpa only [e,Jt,GQ] using this
    have h0:=hp 0 (by rw[e];simp);simp only[e,GI,Jv] at h0;cases a with
    | zero =>
     simp only[thM,hs,if_false];have ih:=ZnP hn ss p (h+1) (by simpa using hl) hp';rw[ZbG hs,Hl];generalize (Ab (thM nl ss p (h+1)).1).length=n at *;rw[usL];have e2:usF g.Aa.length (Zqj (h:Int)) (List.replicate h 1++List.replicate (n+1) 0)=(true,List.replicate (h+1) 1++List.replicate n 0):=by
      rw[usF,Ha (by decide),Hb rfl,Ha (by simp;omega)];congr 1;rw[bump];simp only[Hn];rw[G7,Hf,Gp (by simp),Jg _ _ (by simp)];simp[Jr]
     rw[e2];simp only[Gc];rw[ih];congr 2;omega
    | succ a =>
     simp only[thM,hs,if_false];have ih:=ZnP hn ss p h (by simpa using hl) hp';have ha:a < (nl.getD s.toNat []).length:=(by omega);have hx:(nl.getD s.toNat []).getD a (.mk 0 [])∈nl.getD s.toNat []:=by
      have:(nl.getD s.toNat []).getD a (.mk 0 [])=(nl.getD s.toNat [])[a]:=(by rw[Hf,Hj ha];rfl);rw[this];exact He ha
     rw[usL,ZCB _ _ (hn _ _ hx)];simp only[Gc];exact ih
structure TS.Fine (g:Ac) (S:TS):Prop where
 Aa:S.Aa.length≤160
 parts:Zfk g S.frags S.Aa
 small:∀ l∈S.frags,Aj l≤60
 each:∀ q∈S.Aa,(0≤q.left∧q.left < g.vars)∧(q.right≠[]∧q.right.length≤10)∧∀ s∈q.right, -g.terms≤s∧s < g.vars
theorem ZAo {g:Ac} (hg:g.ok) {nl:List (List Tree)} (hn:∀ v,∀ x∈nl.getD v [],fits g x (v:Int)=true) {r:Nat} (hr:r < g.Aa.length) {p:List Nat} (hp:p∈tups (Za6 nl g.Aa[r].right)) {S S':TS} (h:S.put g.Aa[r].left r (thM nl g.Aa[r].right p 0).1 (thM nl g.Aa[r].right p 0).2=.ok S') (hS:S.Fine g):S'.Fine g:=by
 obtain⟨h1,h2⟩:=Zom _ _ hp;have hko:(Za6 nl g.Aa[r].right).length=(Ab g.Aa[r].right).length:=by simp[Za6]
 have hu:=ZnP hn g.Aa[r].right p 0 (by omega) h2;obtain⟨s1,s2⟩:=ZnO nl g.Aa[r].right p 0;have hcp:=ZtI nl g.Aa[r].right p 0;have hm:=He hr;unfold TS.put at h;generalize thM nl g.Aa[r].right p 0=M at *;obtain⟨ML,MF⟩:=M;dsimp only at *;split at h
 ·cases h;exact hS
 split at h
 ·cases h
 rename_i q1 q2;cases h;refine⟨by have:=hS.Aa;simp only[Hk,HS];omega,hS.parts.snoc ?_,fun l hl=>?_,fun q hq=>?_⟩
 ·show Zay g [.mk 1 r MF] ML=0;have h3:cpL [Ad.mk 1 (r:Int) MF]=1+Aj MF:=by simp[cpL,cpF,hcp]
  rw[Zay,Ha (by omega),Hb];rw[Zhy,usL,usF,Hb rfl,Ha (by omega)];simp only[List.replicate_zero,H3,HE] at hu;rw[hu];simp[usL]
 ·rcases List.mem_append.1 hl with hl|hl
  ·exact hS.small l hl
  ·rw[List.mem_singleton.1 hl];simp only[Aj,fsz];omega
 ·rcases List.mem_append.1 hq with hq|hq
  ·exact hS.each q hq
  ·rw[List.mem_singleton.1 hq];refine⟨⟨hg.left0 g.Aa[r] hm,hg.left g.Aa[r] hm⟩,⟨fun e=>q1 (by show ML.length=0;rw[show ML=[] from e];rfl),by have:=hg.right _ hm;show ML.length≤10;omega⟩,fun s hs=>⟨hg.lo _ hm s (s1 s hs),hg.hi _ hm s (s1 s hs)⟩⟩
theorem Ztb {g:Ac} (hg:g.ok) {nl:List (List Tree)} (hn:∀ v,∀ x∈nl.getD v [],fits g x (v:Int)=true):∀ (rs:List Rule) (i:Nat) (S S':TS),g.Aa.drop i=rs→thA nl i rs S=.ok S'→S.Fine g→S'.Fine g
 | [],i,S,S',_,h,hS=>by rw[thA] at h;cases h;exact hS
 | q::rs,i,S,S',hd,h,hS=>by
  have hi:i < g.Aa.length:=HN fun hn=>by
   rw[HL (by omega)] at hd;cases hd
  rw[Hw hi] at hd;obtain⟨d1,d2⟩:=HY hd;rw[thA] at h;cases hc:thR nl q.left i q.right 0 [] [] S with
  | error e=>rw[hc] at h;cases h
  | ok S1 =>
   rw[hc] at h;refine Ztb hg hn rs (i+1) S1 S' d2 h ?_;rw[Zfz,←d1] at hc;simp only[H3] at hc;exact ZrH (P:=fun S=>S.Fine g) (fun p hp S S' h hS=>ZAo hg hn hi hp h hS) hc hS
def lowB (n:Nat) (P:Int→Bool):List Bool:=(List.range n).map fun (k:Nat)=>P (k:Int)
theorem lowB_has {n:Nat} {P:Int→Bool} {u:Int}:has (lowB n P) u=true↔0≤u∧u < n∧P u=true:=by
 unfold has lowB;by_cases h:0≤u
 ·rw[Hu h,H5,Hf];by_cases h2:u.toNat < n
  ·rw[Gg,JM h2];simp only[H9,HW];rw[show ((u.toNat:Nat):Int)=u by omega];exact⟨fun q=>⟨h,by omega,q⟩,fun q=>q.2.2⟩
  ·rw[HI (by simpa using h2)];simp only[JI];exact⟨fun q=>(by cases q),fun q=>by omega⟩
 ·rw[HC h,Gz];exact⟨fun q=>(by cases q),fun q=>absurd q.1 h⟩
theorem ZiK {h:Ac} (hh:h.ok) (rk:Int→Nat) (hrk:∀ v u,0≤v→v < h.vars→u∈ZiL h v→rk u < rk v):cycL h=[]:=by
 rw[show cycL h=ZfT (ledM false h) h.vars.toNat by unfold cycL;rw[Hb (by rw[hh.fault])]];refine List.eq_nil_iff_forall_not_mem.2 fun v hv=>?_
 unfold ZfT at hv;obtain⟨k,hk,rfl⟩:=List.mem_map.1 hv;obtain⟨h1,h2⟩:=List.mem_filter.1 hk;have h1:=List.mem_range.1 h1;have hw:=Zih (c:=false) hh (v:=(k:Int)) (by omega) (by omega);have hlen:=(Zhn (c:=false) hh).at (u:=(k:Int)) (by omega) (by omega);have hs:=hw.least (lowB h.vars.toNat fun u=>decide (rk u < rk k)) (by simp[lowB,hlen]) (fun u hu=>by
  obtain⟨s1,s2⟩:=ZeM hh (v:=(k:Int)) (by omega) (by omega) hu;exact lowB_has.2 ⟨s1,by omega,Hu (hrk _ _ (by omega) (by omega) hu)⟩) (fun u hu x hx=>by
  obtain⟨t1,t2,t3⟩:=lowB_has.1 hu;obtain⟨s1,s2⟩:=ZeM hh t1 (by omega) hx;have:=H0 t3;have:=hrk u x t1 (by omega) hx;exact lowB_has.2 ⟨s1,by omega,Hu (by omega)⟩)
 have:=lowB_has.1 (hs.sub _ h2);have:=H0 this.2.2;omega
theorem Zmv {g h:Ac} (e:g.Aa=h.Aa):∀ (x:Tree) (v:Int),fits g x v=fits h x v:=by
 refine Tree.ind fun x ih v=>?_
 have key:∀ (l:List Tree) (vs:List Int),(∀ y∈l,∀ v,fits g y v=fits h y v)→fitss g l vs=fitss h l vs:=by
  intro l
  induction l with
  | nil=>intro vs _;rw[fitss.eq_def,fitss.eq_def]
  | cons y l ihl =>
   intro vs h1;cases vs with
   | nil=>rw[fitss.eq_def,fitss.eq_def]
   | cons v vs=>rw[fitss,fitss,h1 y (by simp),ihl vs (fun z hz=>h1 z (by simp[hz]))]
 rw[Zf1,Zf1,e];split
 ·rfl
 ·rw[key _ _ ih]
theorem ZkJ {g h:Ac} (e:g.Aa=h.Aa):∀ x:Tree,Zbo g x=Zbo h x:=by
 refine Tree.ind fun x ih=>?_
 have key:∀ (ss:List Int) (l:List Tree),(∀ y∈l,Zbo g y=Zbo h y)→wordL g ss l=wordL h ss l:=by
  intro ss
  induction ss with
  | nil=>intro l _;rw[Zbe,Zbe]
  | cons s ss ihs =>
   intro l hl;by_cases hs:s < 0
   ·rw[Zbi hs,Zbi hs,ihs l hl]
   ·cases l with
    | nil=>rw[ZdJ hs,ZdJ hs,ihs [] hl]
    | cons y l=>rw[Za2 hs,Za2 hs,hl y (by simp),ihs l (fun z hz=>hl z (by simp[hz]))]
 rw[ZgA,ZgA,e,key _ _ ih]
theorem ZpG {g:Ac} (hg:g.ok):stG g (stN g)=g:=by
 have:=hg.stN;cases g with
 | mk a b c d=>simp only[stG,this]
section
variable {g:Ac} (hg:g.ok) (hc:cycL g=[]) {nl:List (List Tree)} (hnl:nlF g=some nl)
include hg hc hnl
theorem ZrI:∀ v,∀ x∈nl.getD v [],fits g x (v:Int)=true:=fun v x hx=>by
 obtain⟨h1,h2⟩:=ZgJ hnl;by_cases hv:v < g.vars.toNat
 ·obtain⟨q1,q2⟩:=h2 v hv;rw[q2] at hx;have:=((Zbg q1).mem hx).1.1;exact (Zmv (g:=g) (h:=stG g v) rfl x v).trans this
 ·rw[Hf,HI (by omega)] at hx;cases hx
theorem ZAp {x:Tree} (hx:x∈nl.getD (stN g) []):ZbX g x=false:=by
 obtain⟨h1,h2⟩:=ZgJ hnl;have hst:=hg.start;have hsn:=hg.stN;obtain⟨q1,q2⟩:=h2 (stN g) (by omega);rw[q2] at hx;obtain⟨⟨w1,w2⟩,w3⟩:=(Zbg q1).mem hx;rw[ZpG hg] at w1 w2;have e:ZaB g x g.start=⟨0,0⟩:=by unfold ZaB;rw[hg.fault,Hb rfl,Hb w3,Hb w1]
 unfold ZbX;rw[e,w2];rfl
theorem ZhM {S:TS} (h:thA nl 0 g.Aa ⟨[],[]⟩=.ok S):S.Fine g:=Ztb hg (ZrI hg hc hnl) g.Aa 0 _ S rfl h ⟨Hh _,.nil,fun l hl=>by simp at hl,fun q hq=>by simp at hq⟩
end
theorem TS.Fine.ok {g:Ac} (hg:g.ok) {S:TS} (h:S.Fine g):(⟨g.vars,g.terms,g.start,S.Aa⟩:Ac).ok :=
 ⟨hg.vars1,hg.vars,hg.terms0,hg.terms,hg.start0,hg.start,h.Aa,fun r hr=>(h.each r hr).2.1.2,fun r hr=>(h.each r hr).1.1,fun r hr=>(h.each r hr).1.2,fun r hr s hs=>((h.each r hr).2.2 s hs).1,fun r hr s hs=>((h.each r hr).2.2 s hs).2⟩
theorem ZgY (g:Ac):(¬ (Zev g).2.code=0∧(Zev g).1=Ag)∨∃ nl S,g.ok∧cycL g=[]∧nlF g=some nl∧thA nl 0 g.Aa ⟨[],[]⟩=.ok S∧Zev g=(⟨⟨g.vars,g.terms,g.start,S.Aa⟩,S.frags,nl.getD (stN g) []⟩,⟨0,0⟩):=by
 unfold Zev;by_cases h:(Zac g).code=0
 ·rw[Hb h];by_cases hc:cycL g=[]
  ·rw[Hb hc];cases hn:nlF g with
   | none=>exact .inl ⟨by simp,rfl⟩
   | some nl =>
    dsimp only;cases hA:thA nl 0 g.Aa ⟨[],[]⟩ with
    | error i=>exact .inl ⟨by simp,rfl⟩
    | ok S=>exact .inr ⟨nl,S,Zbd h,hc,rfl,hA,rfl⟩
  ·rw[Ha hc];exact .inl ⟨by simp,rfl⟩
 ·rw[Ha h];exact .inl ⟨h,rfl⟩
theorem ZpH {g:Ac} (h:(Zev g).2.code=0):Zam g (Zev g).1=⟨0,0⟩:=by
 rcases ZgY g with ⟨h1,_⟩|⟨nl,S,hg,hc,hn,hA,e⟩
 ·exact absurd h h1
 ·rw[e];have hS:=ZhM hg hc hn hA;have hlen:(nl.getD (stN g) []).length≤200:=by
   obtain⟨h1,h2⟩:=ZgJ hn;have hst:=hg.start;have hsn:=hg.stN;obtain⟨q1,q2⟩:=h2 (stN g) (by omega);rw[q2,(Zbg q1).len];exact (Zbg q1).few
  have hbad:(nl.getD (stN g) []).any (ZbX g)=false:=by
   rw[JJ];intro x hx;rw[ZAp hg hc hn hx];simp
  rw[Zam,Hb (by rw[hg.fault]),Hb (by rw[(hS.ok hg).fault])];dsimp only;rw[Hb hlen,hbad,Ha (by simp),Hb hS.parts.len,Zpg hS.parts]
def TS.From (g:Ac) (nl:List (List Tree)) (S:TS):Prop:=∀ q∈S.Aa,∃ r,∃ hr:r < g.Aa.length,q.left=g.Aa[r].left∧∃ p∈tups (Za6 nl g.Aa[r].right),q.right=(thM nl g.Aa[r].right p 0).1
theorem ZAq {g:Ac} {nl:List (List Tree)} {r:Nat} (hr:r < g.Aa.length) {p:List Nat} (hp:p∈tups (Za6 nl g.Aa[r].right)) {S S':TS} (h:S.put g.Aa[r].left r (thM nl g.Aa[r].right p 0).1 (thM nl g.Aa[r].right p 0).2=.ok S') (hS:S.From g nl):S'.From g nl:=by
 unfold TS.put at h;split at h
 ·cases h;exact hS
 split at h
 ·cases h
 cases h;intro q hq;rcases List.mem_append.1 hq with hq|hq
 ·exact hS q hq
 ·rw[List.mem_singleton.1 hq];exact⟨r,hr,rfl,p,hp,rfl⟩
theorem Ztc {g:Ac} {nl:List (List Tree)}:∀ (rs:List Rule) (i:Nat) (S S':TS),g.Aa.drop i=rs→thA nl i rs S=.ok S'→S.From g nl→S'.From g nl
 | [],i,S,S',_,h,hS=>by rw[thA] at h;cases h;exact hS
 | q::rs,i,S,S',hd,h,hS=>by
  have hi:i < g.Aa.length:=HN fun hn=>by
   rw[HL (by omega)] at hd;cases hd
  rw[Hw hi] at hd;obtain⟨d1,d2⟩:=HY hd;rw[thA] at h;cases hc:thR nl q.left i q.right 0 [] [] S with
  | error e=>rw[hc] at h;cases h
  | ok S1 =>
   rw[hc] at h;refine Ztc rs (i+1) S1 S' d2 h ?_;rw[Zfz,←d1] at hc;simp only[H3] at hc;exact ZrH (P:=fun S=>S.From g nl) (fun p hp S S' h hS=>ZAq hi hp h hS) hc hS
section
variable {nl:List (List Tree)} {B:List Bool} (hB:∀ s:Nat,nl.getD s []≠[]→has B (s:Int)=true)
include hB
theorem Zxr:∀ (ss:List Int) (p:List Nat) (h:Nat),p.length=(Ab ss).length→(∀ k,∀ q:k < (Za6 nl ss).length,p.getD k 0 < (Za6 nl ss)[k])→(thM nl ss p h).1=[]→ZaQ ss B=true
 | [],p,h,_,_,_=>rfl
 | s::ss,p,h,hl,hp,he=>by
  by_cases hs:s < 0
  ·simp only[thM,hs,if_true] at he;cases he
  ·have e:Za6 nl (s::ss)=((nl.getD s.toNat []).length+1)::Za6 nl ss:=by unfold Za6;rw[ZbG hs];rfl
   rw[ZbG hs] at hl;cases p with
   | nil=>simp at hl
   | cons a p =>
    have hp':∀ k,∀ q:k < (Za6 nl ss).length,p.getD k 0 < (Za6 nl ss)[k]:=fun k q=>by
     have:=hp (k+1) (by rw[e];simpa using q);simpa only [e,Jt,GQ] using this
    have h0:=hp 0 (by rw[e];simp);simp only[e,GI,Jv] at h0;cases a with
    | zero =>
     simp only[thM,hs,if_false] at he;cases he
    | succ a =>
     simp only[thM,hs,if_false] at he;have ih:=Zxr ss p h (by simpa using hl) hp' he;have h1:=hB s.toNat (fun q=>by rw[q] at h0;simp at h0);rw[show ((s.toNat:Nat):Int)=s by omega] at h1;simp only[ZaQ,GG,h1,H5];exact ih
theorem Zxs {u:Int} (hu:0≤u):∀ (ss:List Int) (p:List Nat) (h:Nat),p.length=(Ab ss).length→(∀ k,∀ q:k < (Za6 nl ss).length,p.getD k 0 < (Za6 nl ss)[k])→(thM nl ss p h).1=[u]→∃ pre post,ss=pre++u::post∧ZaQ pre B=true∧ZaQ post B=true
 | [],p,h,_,_,he=>by simp[thM] at he
 | s::ss,p,h,hl,hp,he=>by
  by_cases hs:s < 0
  ·simp only[thM,hs,if_true] at he;have:=(HY he).1;omega
  ·have e:Za6 nl (s::ss)=((nl.getD s.toNat []).length+1)::Za6 nl ss:=by unfold Za6;rw[ZbG hs];rfl
   rw[ZbG hs] at hl;cases p with
   | nil=>simp at hl
   | cons a p =>
    have hp':∀ k,∀ q:k < (Za6 nl ss).length,p.getD k 0 < (Za6 nl ss)[k]:=fun k q=>by
     have:=hp (k+1) (by rw[e];simpa using q);simpa only [e,Jt,GQ] using this
    have h0:=hp 0 (by rw[e];simp);simp only[e,GI,Jv] at h0;cases a with
    | zero =>
     simp only[thM,hs,if_false] at he;obtain⟨h1,h2⟩:=HY he;subst h1;exact⟨[],ss,rfl,rfl,Zxr hB ss p (h+1) (by simpa using hl) hp' h2⟩
    | succ a =>
     simp only[thM,hs,if_false] at he;obtain⟨pre,post,e1,e2,e3⟩:=Zxs hu ss p h (by simpa using hl) hp' he;have h1:=hB s.toNat (fun q=>by rw[q] at h0;simp at h0);rw[show ((s.toNat:Nat):Int)=s by omega] at h1;refine⟨s::pre,post,by rw[e1];rfl,?_,e3⟩;simp only[ZaQ,GG,h1,H5];exact e2
end
theorem ZCC {g:Ac} (hg:g.ok) {nl:List (List Tree)} (hnl:nlF g=some nl):∀ s:Nat,nl.getD s []≠[]→has (nulB g) (s:Int)=true:=fun s hs=>by
 obtain⟨h1,h2⟩:=ZgJ hnl;by_cases hv:s < g.vars.toNat
 ·obtain⟨q1,q2⟩:=h2 s hv;have hok:=Zqk hg hv;cases hl:nl.getD s [] with
  | nil=>exact absurd hl hs
  | cons x l =>
   rw[q2] at hl;have hx:=((Zbg q1).mem (x:=x) (by rw[hl];simp)).1;have hle:=Zj1 hok (l:=[x]) (List.pairwise_singleton _ _) (fun y hy=>by rw[List.mem_singleton.1 hy];exact hx);have hmC:Zae=4611686018427387904:=rfl;simp only[HS] at hle;have hne:Ak (stG g s) [] Zae s 0 0≠0:=by
    have:cntF (stG g s) []=Ak (stG g s) [] Zae s 0 0:=rfl
    omega
   exact Ze3 hok hne
 ·rw[Hf,HI (by omega)] at hs;exact absurd rfl hs
theorem Ztd {h:Ac} (hr:∀ q∈h.Aa,q.right≠[]) (v:Int):has (nulB h) v=false:=by
 cases hv:has (nulB h) v with
 | false=>rfl
 | true =>
  have:=(Zif (t:=false) (g:=h) (S:=Zff h) (Zbl h) (fun q hq hin=>by
   cases hc:q.right with
   | nil=>exact absurd hc (hr q hq)
   | cons x l =>
    simp only[asks,cond_false,hc,ZaQ,GG,Zie,Gz] at hin;cases hin)).sub v hv
  rw[Zie] at this;cases this
theorem Zmw {h:Ac} (hr:∀ q∈h.Aa,q.right≠[]) {l:List Int} (hl:ZaQ l (nulB h)=true):l=[]:=by
 cases l with
 | nil=>rfl
 | cons x l=>simp only[ZaQ,GG,Ztd hr,Gz] at hl;cases hl
abbrev thG (g:Ac) (S:TS):Ac:=⟨g.vars,g.terms,g.start,S.Aa⟩
theorem ZAr {g:Ac} (hg:g.ok) (hc:cycL g=[]) {nl:List (List Tree)} (hnl:nlF g=some nl) {S:TS} (hA:thA nl 0 g.Aa ⟨[],[]⟩=.ok S):cycL (thG g S)=[]:=by
 have hS:=ZhM hg hc hnl hA;have hfr:=Ztc g.Aa 0 _ S rfl hA (fun q hq=>by simp at hq);have hne:∀ q∈(thG g S).Aa,q.right≠[]:=fun q hq=>(hS.each q hq).2.1.1
 refine ZiK (hS.ok hg) (rnk g) fun v u hv0 hv1 hu=>?_
 obtain⟨q,hq,e1,e2⟩:=overBy_mem.1 hu;obtain⟨k,hk,e3,e4⟩:=picks_mem.1 e2;unfold ZdQ at e3;simp only[Hr,GD,HZ] at e3;obtain⟨g0,g1,g2⟩:=e3;have h1:=Zmw hne g1;have h2:=Zmw hne g2;have hone:q.right=[u]:=by
  have hk0:k=0:=by
   have:=Hy List.length h1;rw[Hs] at this;simp only[HB] at this;omega
  subst hk0;cases hr:q.right with
  | nil=>rw[hr] at hk;simp at hk
  | cons x l =>
   rw[hr] at h2 e4;simp only[HE,GZ,Gl] at h2;simp only[GI] at e4;rw[h2,e4]
 have hu0:0≤u:=by rw[e4];exact g0
 obtain⟨r,hr,f1,p,hp,f2⟩:=hfr q hq;obtain⟨p1,p2⟩:=Zom _ _ hp;have hko:(Za6 nl g.Aa[r].right).length=(Ab g.Aa[r].right).length:=by simp[Za6]
 obtain⟨pre,post,e5,e6,e7⟩:=Zxs (ZCC hg hnl) hu0 g.Aa[r].right p 0 (by omega) p2 (by rw[←f2,hone]);have hst:u∈ZiL g v:=by
  refine overBy_mem.2 ⟨g.Aa[r],He hr,by rw[←f1,e1],picks_mem.2 ⟨pre.length,by rw[e5];simp,?_,by rw[e5];simp⟩⟩;have q1:g.Aa[r].right.getD pre.length 0=u:=by rw[e5];simp
  have q2:g.Aa[r].right.take pre.length=pre:=by rw[e5];simp
  have q3:g.Aa[r].right.drop (pre.length+1)=post:=by rw[e5];simp
  unfold ZdQ;rw[q1,q2,q3,e6,e7];simp[hu0]
 exact ZdO hg hc hv0 hv1 hst
theorem Zu1 {h:Ac} (hh:h.ok) (hc:cycL h=[]) (hr:∀ q∈h.Aa,q.right≠[]) {v:Nat} (hv:v < h.vars.toNat):Zaw (stG h v) []=([],⟨0,0⟩):=by
 have h0:cntF (stG h v) []=0:=HN fun hn=>by
  have h1:Ak (stG h v) [] Zae v 0 0≠0:=hn;have h2:=Ze3 (Zqk hh hv) h1;have h3:=Ztd (h:=stG h v) hr (v:Int);rw[h2] at h3;cases h3
 have ho:opF (stG h v) []=⟨0,0⟩:=by
  unfold opF;rw[h0,Ha (show ¬ 0=Zae by decide),ZB1 (Zqk hh hv) (by rw[Zyt hh hv,hc])];rfl
 have e:Zaw (stG h v) []=if (opF (stG h v) []).code=0 then (if 200 < cntF (stG h v) [] then ([],⟨6, -1⟩) else ZdE (stG h v) [] (cntF (stG h v) []) 0 []) else ([],opF (stG h v) []):=rfl
 rw[e,ho,h0,Hb rfl,Ha (by omega),ZdE]
end Go.Proofs.YtbpmepgnjanhnaaGreat
