import Derived.Test.YtbpmepgnjanhnaaGreatQSimPf
import Derived.Test.YtbpmepgnjanhnaaGreatThinD
import Derived.Test.YtbpmepgnjanhnaaGreatQChartJ
import Derived.Test.YtbpmepgnjanhnaaGreatQTrimE
import Derived.Test.YtbpmepgnjanhnaaGreatQP1
import Derived.Test.YtbpmepgnjanhnaaGreatQRank
import Derived.Test.YtbpmepgnjanhnaaGreatQChF
import Derived.Test.YtbpmepgnjanhnaaGreatQTreeA
import Derived.Test.YtbpmepgnjanhnaaGreatSmN
import Derived.Test.YtbpmepgnjanhnaaGreatQFactorR
import Derived.Test.YtbpmepgnjanhnaaGreatF2
import Derived.Test.YtbpmepgnjanhnaaGreatQTurnR
set_option linter.unusedVariables false
set_option linter.unusedSimpArgs false
set_option linter.unusedSectionVars false
namespace Go.Proofs.YtbpmepgnjanhnaaGreat
open Go.RowKit
set_option maxRecDepth 100000
set_option maxRecDepth 100000
section
variable {t u:Bool} {g:Gram} {w:List Int}
end
set_option maxRecDepth 100000
section
variable {t u:Bool} {g:Gram} {w:List Int}
end
set_option maxRecDepth 100000
section
variable {t u:Bool} {g:Gram} {w:List Int}
end
set_option maxRecDepth 100000
section
variable {t u:Bool} {g:Gram} {w:List Int}
end
set_option maxRecDepth 100000
theorem Zsj {α:Type} {P:TS→Prop} {f:α→TS→Except TS TS}:∀ {ts:List α} {S S':TS},(∀ x∈ts,∀ S S',f x S=.ok S'→P S→P S')→thL f ts S=.ok S'→P S→P S'
 | [],S,S',_,h,g=>by cases h;exact g
 | t::ts,S,S',hf,h,g=>by
  rw[thL] at h
  cases hc:f t S with
  | error e=>rw[hc] at h;cases h
  | ok S1=>rw[hc] at h;exact Zsj (fun x hx=>hf x (by simp[hx])) h (hf t (by simp) S S1 hc g)
theorem ZwM {g:Gram} {u:List Int}:∀ (x:Tree) (v:Int),fits g x v=true→usF g.rules.length (asF x) u=(true,u):=by
 refine Tree.ind fun x ih v hf=>?_
 obtain⟨i,hi,e1,e2,e3,e4,e5⟩:=ZeK hf
 have key:∀ (l:List Tree) (vs:List Int),(∀ y∈l,∀ v,fits g y v=true→usF g.rules.length (asF y) u=(true,u))→l.length=vs.length→fitss g l vs=true→usL g.rules.length (asFs l) u=(true,u):=by
  intro l
  induction l with
  | nil=>intro vs _ _ _;rw[asFs,usL]
  | cons y l ihl =>
   intro vs h1 h2 h3
   cases vs with
   | nil=>simp at h2
   | cons v vs =>
    rw[fitss,Bool.and_eq_true] at h3
    rw[asFs,usL,h1 y (by simp) v h3.1]
    simp only[cond_true]
    exact ihl vs (fun z hz=>h1 z (by simp[hz])) (by simpa using h2) h3.2
 rw[Tree.eta x,asF,usF,if_pos rfl,e1,if_neg (by omega)]
 exact key x.kids _ ih e3.symm e4
theorem Zkw (nl:List (List Tree)):∀ (ss:List Int) (p:List Nat) (h:Nat),(∀ s∈(thM nl ss p h).1,s∈ss)∧(thM nl ss p h).1.length≤ss.length
 | [],p,h=>by simp[thM]
 | s::ss,p,h=>by
  by_cases hs:s < 0
  ·simp only[thM,hs,if_true]
   obtain⟨h1,h2⟩:=Zkw nl ss p h
   exact⟨fun x hx=>by rcases List.mem_cons.1 hx with rfl|hx;exact List.mem_cons_self;exact List.mem_cons_of_mem _ (h1 x hx),by simp;omega⟩
  ·cases p with
   | nil=>simp[thM,hs]
   | cons a p =>
    cases a with
    | zero =>
     simp only[thM,hs,if_false]
     obtain⟨h1,h2⟩:=Zkw nl ss p (h+1)
     exact⟨fun x hx=>by rcases List.mem_cons.1 hx with rfl|hx;exact List.mem_cons_self;exact List.mem_cons_of_mem _ (h1 x hx),by simp;omega⟩
    | succ a =>
     simp only[thM,hs,if_false]
     obtain⟨h1,h2⟩:=Zkw nl ss p h
     exact⟨fun x hx=>List.mem_cons_of_mem _ (h1 x hx),by simp;omega⟩
theorem Zkx {g:Gram} {nl:List (List Tree)} (hn:∀ v,∀ x∈nl.getD v [],fits g x (v:Int)=true):∀ (ss:List Int) (p:List Nat) (h:Nat),p.length=(kids ss).length→(∀ k,∀ q:k < (ZcE nl ss).length,p.getD k 0 < (ZcE nl ss)[k]) →
  usL g.rules.length (thM nl ss p h).2 (List.replicate h 1++List.replicate (kids (thM nl ss p h).1).length 0)=(true,List.replicate (h+(kids (thM nl ss p h).1).length) 1)
 | [],p,h,_,_=>by simp[thM,usL,kids]
 | s::ss,p,h,hl,hp=>by
  by_cases hs:s < 0
  ·simp only[thM,hs,if_true]
   have e:ZcE nl (s::ss)=ZcE nl ss:=by unfold ZcE;rw[ZsY hs]
   rw[ZsY hs]
   rw[ZsY hs] at hl
   exact Zkx hn ss p h hl (fun k q=>by have:=hp k (by rw[e];exact q);simpa only [e] using this)
  ·have e:ZcE nl (s::ss)=((nl.getD s.toNat []).length+1)::ZcE nl ss:=by unfold ZcE;rw[ZsZ hs];rfl
   rw[ZsZ hs] at hl
   cases p with
   | nil=>simp at hl
   | cons a p =>
    have hp':∀ k,∀ q:k < (ZcE nl ss).length,p.getD k 0 < (ZcE nl ss)[k]:=fun k q=>by
     have:=hp (k+1) (by rw[e];simpa using q)
     simpa only [e,List.getD_cons_succ,List.getElem_cons_succ] using this
    have h0:=hp 0 (by rw[e];simp)
    simp only[e,List.getD_cons_zero,List.getElem_cons_zero] at h0
    cases a with
    | zero =>
     simp only[thM,hs,if_false]
     have ih:=Zkx hn ss p (h+1) (by simpa using hl) hp'
     rw[ZsZ hs,List.length_cons]
     generalize (kids (thM nl ss p (h+1)).1).length=n at *
     rw[usL]
     have e2:usF g.rules.length (ZmX (h:Int)) (List.replicate h 1++List.replicate (n+1) 0)=(true,List.replicate (h+1) 1++List.replicate n 0):=by
      rw[usF,if_neg (by decide),if_pos rfl,if_neg (by simp;omega)]
      congr 1
      rw[bump]
      simp only[Int.toNat_natCast]
      rw[List.replicate_succ,List.getD_eq_getElem?_getD,List.getElem?_append_right (by simp),List.set_append_right _ _ (by simp)]
      simp[List.replicate_succ']
     rw[e2]
     simp only[cond_true]
     rw[ih]
     congr 2
     omega
    | succ a =>
     simp only[thM,hs,if_false]
     have ih:=Zkx hn ss p h (by simpa using hl) hp'
     have ha:a < (nl.getD s.toNat []).length:=by omega
     have hx:(nl.getD s.toNat []).getD a (.mk 0 [])∈nl.getD s.toNat []:=by
      have:(nl.getD s.toNat []).getD a (.mk 0 [])=(nl.getD s.toNat [])[a]:=by rw[List.getD_eq_getElem?_getD,List.getElem?_eq_getElem ha];rfl
      rw[this];exact List.getElem_mem ha
     rw[usL,ZwM _ _ (hn _ _ hx)]
     simp only[cond_true]
     exact ih
structure TS.Fine (g:Gram) (S:TS):Prop where
 rules:S.rules.length≤160
 parts:Zd3 g S.frags S.rules
 small:∀ l∈S.frags,fszs l≤60
 each:∀ q∈S.rules,(0≤q.left∧q.left < g.vars)∧(q.right≠[]∧q.right.length≤10)∧∀ s∈q.right, -g.terms≤s∧s < g.vars
theorem Zu4 {g:Gram} (hg:g.ok) {nl:List (List Tree)} (hn:∀ v,∀ x∈nl.getD v [],fits g x (v:Int)=true) {r:Nat} (hr:r < g.rules.length) {p:List Nat} (hp:p∈tups (ZcE nl g.rules[r].right)) {S S':TS} (h:S.put g.rules[r].left r (thM nl g.rules[r].right p 0).1 (thM nl g.rules[r].right p 0).2=.ok S') (hS:S.Fine g):S'.Fine g:=by
 obtain⟨h1,h2⟩:=ZpT _ _ hp
 have hko:(ZcE nl g.rules[r].right).length=(kids g.rules[r].right).length:=by simp[ZcE]
 have hu:=Zkx hn g.rules[r].right p 0 (by omega) h2
 obtain⟨s1,s2⟩:=Zkw nl g.rules[r].right p 0
 have hcp:=ZpU nl g.rules[r].right p 0
 have hm:=List.getElem_mem hr
 unfold TS.put at h
 generalize thM nl g.rules[r].right p 0=M at *
 obtain⟨ML,MF⟩:=M
 dsimp only at *
 split at h
 ·cases h;exact hS
 split at h
 ·cases h
 rename_i q1 q2
 cases h
 refine⟨by have:=hS.rules;simp only[List.length_append,List.length_singleton];omega,hS.parts.snoc ?_,fun l hl=>?_,fun q hq=>?_⟩
 ·show Zax g [.mk 1 r MF] ML=0
  have h3:cpL [Frag.mk 1 (r:Int) MF]=1+fszs MF:=by simp[cpL,cpF,hcp]
  rw[Zax,if_neg (by omega),if_pos]
  rw[Zia,usL,usF,if_pos rfl,if_neg (by omega)]
  simp only[List.replicate_zero,List.nil_append,Nat.zero_add] at hu
  rw[hu]
  simp[usL]
 ·rcases List.mem_append.1 hl with hl|hl
  ·exact hS.small l hl
  ·rw[List.mem_singleton.1 hl];simp only[fszs,fsz];omega
 ·rcases List.mem_append.1 hq with hq|hq
  ·exact hS.each q hq
  ·rw[List.mem_singleton.1 hq]
   refine⟨⟨hg.left0 g.rules[r] hm,hg.left g.rules[r] hm⟩,⟨fun e=>q1 (by show ML.length=0;rw[show ML=[] from e];rfl),by have:=hg.right _ hm;show ML.length≤10;omega⟩,fun s hs=>⟨hg.lo _ hm s (s1 s hs),hg.hi _ hm s (s1 s hs)⟩⟩
theorem Zpb {g:Gram} (hg:g.ok) {nl:List (List Tree)} (hn:∀ v,∀ x∈nl.getD v [],fits g x (v:Int)=true):∀ (rs:List Rule) (i:Nat) (S S':TS),g.rules.drop i=rs→thA nl i rs S=.ok S'→S.Fine g→S'.Fine g
 | [],i,S,S',_,h,hS=>by rw[thA] at h;cases h;exact hS
 | q::rs,i,S,S',hd,h,hS=>by
  have hi:i < g.rules.length:=Classical.byContradiction fun hn=>by
   rw[List.drop_of_length_le (by omega)] at hd;cases hd
  rw[List.drop_eq_getElem_cons hi] at hd
  obtain⟨d1,d2⟩:=List.cons.inj hd
  rw[thA] at h
  cases hc:thR nl q.left i q.right 0 [] [] S with
  | error e=>rw[hc] at h;cases h
  | ok S1 =>
   rw[hc] at h
   refine Zpb hg hn rs (i+1) S1 S' d2 h ?_
   rw[Zf9,←d1] at hc
   simp only[List.nil_append] at hc
   exact Zsj (P:=fun S=>S.Fine g) (fun p hp S S' h hS=>Zu4 hg hn hi hp h hS) hc hS
theorem ZqB {g h:Gram} (e:g.rules=h.rules):∀ (x:Tree) (v:Int),fits g x v=fits h x v:=by
 refine Tree.ind fun x ih v=>?_
 have key:∀ (l:List Tree) (vs:List Int),(∀ y∈l,∀ v,fits g y v=fits h y v)→fitss g l vs=fitss h l vs:=by
  intro l
  induction l with
  | nil=>intro vs _;rw[fitss.eq_def,fitss.eq_def]
  | cons y l ihl =>
   intro vs h1
   cases vs with
   | nil=>rw[fitss.eq_def,fitss.eq_def]
   | cons v vs=>rw[fitss,fitss,h1 y (by simp),ihl vs (fun z hz=>h1 z (by simp[hz]))]
 rw[Zgz,Zgz,e]
 split
 ·rfl
 ·rw[key _ _ ih]
theorem Zsk {g:Gram} (hg:g.ok):stG g (stN g)=g:=by
 have:=hg.stN
 cases g with
 | mk a b c d=>simp only[stG,this]
section
variable {g:Gram} (hg:g.ok) (hc:cycL g=[]) {nl:List (List Tree)} (hnl:nlF g=some nl)
include hg hc hnl
theorem ZwN:∀ v,∀ x∈nl.getD v [],fits g x (v:Int)=true:=fun v x hx=>by
 obtain⟨h1,h2⟩:=ZmY hnl
 by_cases hv:v < g.vars.toNat
 ·obtain⟨q1,q2⟩:=h2 v hv
  rw[q2] at hx
  have:=((Zc2 q1).mem hx).1.1
  exact (ZqB (g:=g) (h:=stG g v) rfl x v).trans this
 ·rw[List.getD_eq_getElem?_getD,List.getElem?_eq_none (by omega)] at hx
  cases hx
theorem Zu5 {x:Tree} (hx:x∈nl.getD (stN g) []):ZbD g x=false:=by
 obtain⟨h1,h2⟩:=ZmY hnl
 have hst:=hg.start
 have hsn:=hg.stN
 obtain⟨q1,q2⟩:=h2 (stN g) (by omega)
 rw[q2] at hx
 obtain⟨⟨w1,w2⟩,w3⟩:=(Zc2 q1).mem hx
 rw[Zsk hg] at w1 w2
 have e:ZaN g x g.start=⟨0,0⟩:=by unfold ZaN;rw[hg.fault,if_pos rfl,if_pos w3,if_pos w1]
 unfold ZbD
 rw[e,w2];rfl
theorem ZlW {S:TS} (h:thA nl 0 g.rules ⟨[],[]⟩=.ok S):S.Fine g:=Zpb hg (ZwN hg hc hnl) g.rules 0 _ S rfl h ⟨Nat.zero_le _,.nil,fun l hl=>by simp at hl,fun q hq=>by simp at hq⟩
end
theorem TS.Fine.ok {g:Gram} (hg:g.ok) {S:TS} (h:S.Fine g):(⟨g.vars,g.terms,g.start,S.rules⟩:Gram).ok :=
 ⟨hg.vars1,hg.vars,hg.terms0,hg.terms,hg.start0,hg.start,h.rules,fun r hr=>(h.each r hr).2.1.2,fun r hr=>(h.each r hr).1.1,fun r hr=>(h.each r hr).1.2,fun r hr s hs=>((h.each r hr).2.2 s hs).1,fun r hr s hs=>((h.each r hr).2.2 s hs).2⟩
theorem ZhW (g:Gram):(¬ (ZdR g).2.code=0∧(ZdR g).1=zeroStep)∨∃ nl S,g.ok∧cycL g=[]∧nlF g=some nl∧thA nl 0 g.rules ⟨[],[]⟩=.ok S∧ZdR g=(⟨⟨g.vars,g.terms,g.start,S.rules⟩,S.frags,nl.getD (stN g) []⟩,⟨0,0⟩):=by
 unfold ZdR
 by_cases h:(Zac g).code=0
 ·rw[if_pos h]
  by_cases hc:cycL g=[]
  ·rw[if_pos hc]
   cases hn:nlF g with
   | none=>exact .inl ⟨by simp,rfl⟩
   | some nl =>
    dsimp only
    cases hA:thA nl 0 g.rules ⟨[],[]⟩ with
    | error i=>exact .inl ⟨by simp,rfl⟩
    | ok S=>exact .inr ⟨nl,S,Za1 h,hc,rfl,hA,rfl⟩
  ·rw[if_neg hc];exact .inl ⟨by simp,rfl⟩
 ·rw[if_neg h];exact .inl ⟨h,rfl⟩
theorem Zsl {g:Gram} (h:(ZdR g).2.code=0):Zar g (ZdR g).1=⟨0,0⟩:=by
 rcases ZhW g with ⟨h1,_⟩|⟨nl,S,hg,hc,hn,hA,e⟩
 ·exact absurd h h1
 ·rw[e]
  have hS:=ZlW hg hc hn hA
  have hlen:(nl.getD (stN g) []).length≤200:=by
   obtain⟨h1,h2⟩:=ZmY hn
   have hst:=hg.start
   have hsn:=hg.stN
   obtain⟨q1,q2⟩:=h2 (stN g) (by omega)
   rw[q2,(Zc2 q1).len]
   exact (Zc2 q1).few
  have hbad:(nl.getD (stN g) []).any (ZbD g)=false:=by
   rw[List.any_eq_false]
   intro x hx
   rw[Zu5 hg hc hn hx];simp
  rw[Zar,if_pos (by rw[hg.fault]),if_pos (by rw[(hS.ok hg).fault])]
  dsimp only
  rw[if_pos hlen,hbad,if_neg (by simp),if_pos hS.parts.len,Zmi hS.parts]
section
variable {nl:List (List Tree)} {B:List Bool} (hB:∀ s:Nat,nl.getD s []≠[]→has B (s:Int)=true)
include hB
end
set_option maxRecDepth 100000
def Zx4 (g:Gram) (w:List Int) (M k:Nat):Bool:=(List.range g.vars.toNat).all fun v=>(List.range (w.length+1)).all fun i=>(List.range (w.length+1)).all fun j=>decide (rnds g w M (k+1) v i j=rnds g w M k v i j)
theorem ZwO {g:Gram} {w:List Int} {M k:Nat} (h:Zx4 g w M k=true):wcns g w M=rnds g w M k:=by
 refine (ZuP ?_).symm
 funext v i j
 by_cases hin:(v:Int) < g.vars∧i≤j∧j≤w.length
 ·simp only[Zx4,List.all_eq_true,List.mem_range,decide_eq_true_eq] at h
  exact h v (by omega) i (by omega) j (by omega)
 ·rw[ZfJ hin,ZfJ hin]
set_option maxRecDepth 100000
theorem Zu6 {g:Gram}:(ZdR g).1.fit:=by
 rcases ZhW g with ⟨_,h⟩|⟨nl,S,hg,hc,hn,hA,e⟩
 ·rw[h];exact⟨⟨by decide,fun r hr=>by simp[zeroStep] at hr⟩,by decide,fun l hl=>by simp[zeroStep] at hl,by simp[zeroStep,cnts]⟩
 ·rw[e]
  have hS:=ZlW hg hc hn hA
  obtain⟨h1,h2⟩:=ZmY hn
  have hst:=hg.start
  have hsn:=hg.stN
  obtain⟨q1,q2⟩:=h2 (stN g) (by omega)
  refine⟨(hS.ok hg).fit,?_,fun l hl=>Nat.le_trans (hS.small l hl) (by decide),?_⟩
  ·have:=hS.parts.len
   have:=hS.rules
   show S.frags.length≤_
   omega
  ·show cnts (nl.getD (stN g) [])≤_
   rw[q2]
   have k1:∀ (l:List Tree),(∀ x∈l,cnt x≤400)→cnts l≤400 * l.length:=by
    intro l
    induction l with
    | nil=>intro _;simp[cnts]
    | cons x l ih =>
     intro h
     have a1:=h x (by simp)
     have a2:=ih (fun y hy=>h y (by simp[hy]))
     simp only[cnts,List.length_cons,Nat.mul_add];omega
   have k2:=k1 _ (fun x hx=>((Zc2 q1).mem hx).2)
   have k3:=(Zc2 q1).len
   have k4:=(Zc2 q1).few
   have k5:400 * (ZaK (stG g (stN g)) []).1.length≤400 * 200:=Nat.mul_le_mul_left _ (by omega)
   omega
def ZaJ (right:List Int):Int:=if right.length=1 then (if 0≤right.getD 0 0 then right.getD 0 0 else -1) else -1
theorem ZlX (r:List Int) : -1≤ZaJ r:=by
 unfold ZaJ
 split
 ·split <;> omega
 ·omega
theorem Zev {g:Gram} {v i:Int} (hi:i∈by_ g v) (hu:0≤ZaJ (Zam g i)):ZaJ (Zam g i)∈ZsV g v:=by
 unfold ZsV ZgA Zpr
 refine List.mem_flatMap.2 ⟨i,hi,?_⟩
 generalize Zam g i=r at *
 unfold ZaJ at hu ⊢
 by_cases h1:r.length=1
 ·rw[if_pos h1] at hu ⊢
  by_cases h0:0≤r.getD 0 0
  ·rw[if_pos h0]
   unfold Zhw
   refine picks_mem.2 ⟨0,by omega,?_,rfl⟩
   unfold Ze7
   have hd:r.drop (0+1)=[]:=List.drop_of_length_le (by omega)
   rw[hd,List.take_zero,decide_eq_true h0]
   rfl
  ·rw[if_neg h0] at hu;omega
 ·rw[if_neg h1] at hu;omega
def wys (g:Gram):Nat→Int→List (List Int)
 | 0,_=>[]
 | n+1,v=>(by_ g v).flatMap fun i=>if ZaJ (Zam g i) < 0 then [[i]] else (wys g n (ZaJ (Zam g i))).map (i::·)
def ways (g:Gram) (v:Int):List (List Int):=wys g (rnk g v+1) v
def ZcF (g:Gram) (i:Int):List (List Int):=if ZaJ (Zam g i) < 0 then [[i]] else (ways g (ZaJ (Zam g i))).map (i::·)
section
variable {g:Gram} (hg:g.ok) (hc:cycL g=[])
include hg hc
theorem Zx5:∀ (n:Nat) (v:Int),0≤v→v < g.vars→rnk g v < n→wys g n v=wys g (rnk g v+1) v:=by
 intro n
 induction n using Nat.strongRecOn with
 | _ n ih =>
 intro v h0 h1 hn
 obtain⟨n,rfl⟩:∃ m,n=m+1:=⟨n - 1,by omega⟩
 rw[wys,wys]
 have key:∀ i∈by_ g v,(if ZaJ (Zam g i) < 0 then [[i]] else (wys g n (ZaJ (Zam g i))).map (i::·))=(if ZaJ (Zam g i) < 0 then [[i]] else (wys g (rnk g v) (ZaJ (Zam g i))).map (i::·)):=fun i hi=>by
  by_cases hu:ZaJ (Zam g i) < 0
  ·rw[if_pos hu,if_pos hu]
  ·have hs:=Zev hi (by omega)
   obtain⟨u0,u1⟩:=ZgE hg h0 h1 hs
   have hr:=ZjJ hg hc h0 h1 hs
   rw[if_neg hu,if_neg hu,ih n (by omega) _ u0 u1 (by omega)]
   by_cases he:rnk g v < n+1
   ·rw[ih (rnk g v) (by omega) _ u0 u1 (by omega)]
   ·omega
 rw[List.flatMap_def,List.flatMap_def,List.map_congr_left key]
theorem ZhX {v:Int} (h0:0≤v) (h1:v < g.vars):ways g v=(by_ g v).flatMap (ZcF g):=by
 unfold ways
 rw[wys]
 have key:∀ i∈by_ g v,(if ZaJ (Zam g i) < 0 then [[i]] else (wys g (rnk g v) (ZaJ (Zam g i))).map (i::·))=ZcF g i:=fun i hi=>by
  unfold ZcF ways
  by_cases hu:ZaJ (Zam g i) < 0
  ·rw[if_pos hu,if_pos hu]
  ·have hs:=Zev hi (by omega)
   obtain⟨u0,u1⟩:=ZgE hg h0 h1 hs
   have hr:=ZjJ hg hc h0 h1 hs
   rw[if_neg hu,if_neg hu,Zx5 hg hc (rnk g v) _ u0 u1 hr]
 rw[List.flatMap_def,List.flatMap_def,List.map_congr_left key]
end
def kN (g:Gram) (i:Int):Nat:=(kids (Zam g i)).length
def wayF (g:Gram):List Int→List Frag
 | []=>[]
 | [r]=>ZaQ r (kN g r)
 | r::r2::rest=>[.mk 1 r (wayF g (r2::rest))]
def ZeX (w:List Int):Int:=w.getLastD 0
def ZbF:List Int→List Frag→List Frag
 | [],l=>l
 | r::p,l=>[.mk 1 r (ZbF p l)]
theorem ZjB:∀ (p:List Int) (r:Int) (l:List Frag),ZbF (p++[r]) l=ZbF p [.mk 1 r l]
 | [],r,l=>rfl
 | a::p,r,l=>by simp only[List.cons_append,ZbF,ZjB p r l]
theorem Zsm (g:Gram) (r:Int) {w:List Int} (h:w≠[]):wayF g (r::w)=[.mk 1 r (wayF g w)]:=by
 cases w with
 | nil=>exact absurd rfl h
 | cons a b=>rw[wayF]
theorem ZeI:∀ (p:List Int) (l:List Frag),fszs (ZbF p l)=p.length+fszs l
 | [],l=>by simp[ZbF]
 | r::p,l=>by simp only[ZbF,fszs,fsz,ZeI p l,List.length_cons];omega
theorem Zgt:∀ (k:Nat),fszs (ZaH k)=k
 | 0=>rfl
 | k+1=>by
  unfold ZaH at *
  rw[List.range_succ,List.map_append,Zbc]
  have:=Zgt k
  unfold ZaH at this
  rw[this]
  simp[fszs,fsz]
theorem Zgu (r:Int) (k:Nat):fszs (ZaQ r k)=1+k:=by simp[ZaQ,fszs,fsz,Zgt]
theorem ZwP {g:Gram} {i:Int} (hu:0≤ZaJ (Zam g i)):kN g i=1:=by
 unfold kN
 generalize Zam g i=r at *
 unfold ZaJ at hu
 by_cases h1:r.length=1
 ·rw[if_pos h1] at hu
  match r,h1 with
  | [x],_ =>
   by_cases h0:0≤x
   ·simp[kids,h0]
   ·simp[h0] at hu
 ·rw[if_neg h1] at hu;omega
theorem Zhr (inn:List Frag) (b:Int):∀ (p:List Int) (r:Int),ptL 0 inn b (ZbF p (ZaQ r 1))=ZbF (p++[r]) inn
 | [],r=>by
  simp[ZbF,ZaQ,ZaH,ptL,ptF,mvN]
 | a::p,r=>by
  simp only[List.cons_append,ZbF,ptL,ptF,Zhr inn b p r]
  simp[mvN]
theorem ZlY (p:List Int) (r k:Int) (n:Nat):Zgq (ZbF p (ZaQ r 1)) 0 (ZaQ k n) n=ZbF (p++[r]) (ZaQ k n):=by
 unfold Zgq
 rw[Zco,Zhr]
theorem ZjC {B:Int}:∀ {a b:List Frag},NbL B a→NbL B b→NbL B (a++b)
 | [],_,_,h=>h
 | x::a,b,h,h2=>⟨h.1,ZjC h.2 h2⟩
theorem Zpc {B:Int}:∀ (k:Nat),(k:Int)≤B→NbL B (ZaH k)
 | 0,_=>trivial
 | k+1,h=>by
  have ih:=Zpc (B:=B) k (by omega)
  unfold ZaH at *
  rw[List.range_succ,List.map_append]
  refine ZjC ih ?_
  simp only[List.map_cons,List.map_nil,NbL,NbF,and_true]
  omega
theorem Zpd {B r:Int} {k:Nat} (h0:0≤r) (h1:r≤B) (hk:(k:Int)≤B):NbL B (ZaQ r k):=by
 simp only[ZaQ,NbL,NbF,and_true]
 exact⟨by omega,Zpc k hk⟩
theorem Zky {B:Int} {l:List Frag} (hl:NbL B l):∀ {p:List Int},(∀ x∈p,0≤x∧x≤B)→NbL B (ZbF p l)
 | [],_=>hl
 | r::p,h=>by
  have h1:=h r (by simp)
  simp only[ZbF,NbL,NbF,and_true]
  exact⟨by omega,Zky hl (fun x hx=>h x (by simp[hx]))⟩
theorem Zpe {inn:List Frag} {b:Int} (hi:fszs inn≤1000000):∀ {p:List Int} {r:Int},p.length≤1000000→PtL 0 inn b (ZbF p (ZaQ r 1))
 | [],r,_=>by
  have h1:ptL 0 inn b (ZaQ r 1)=[.mk 1 r inn]:=Zhr inn b [] r
  have h2:ptL 0 inn b (ZaH 1)=inn:=by simp[ZaH,ptL,ptF]
  have h3:ZaQ r 1=[.mk 1 r (ZaH 1)]:=rfl
  simp only[ZbF]
  rw[h3,PtL,←h3,h1]
  refine⟨?_,trivial,by simp only[fszs,fsz];omega⟩
  rw[PtF]
  refine⟨?_,fun h=>absurd h.1 (by decide)⟩
  have h4:ZaH 1=[.mk 2 0 []]:=rfl
  rw[h4] at h2 ⊢
  rw[PtL,h2]
  refine⟨?_,trivial,by omega⟩
  rw[PtF]
  exact⟨trivial,fun h=>absurd h.1 (by decide)⟩
 | a::p,r,h=>by
  simp only[List.length_cons] at h
  have ih:=Zpe (inn:=inn) (b:=b) hi (p:=p) (r:=r) (by omega)
  have h1:=Zhr inn b (a::p) r
  have hs:=ZeI (p++[r]) inn
  simp only[List.length_append,List.length_singleton] at hs
  simp only[ZbF,List.cons_append] at h1 ⊢
  rw[PtL,h1]
  refine⟨?_,trivial,by simp only[fszs,fsz,hs];omega⟩
  rw[PtF]
  exact⟨ih,fun h=>absurd h.1 (by decide)⟩
def cw (g:Gram) (v:Int):Int:=min ((ways g v).length:Int) 161
def GOk (g:Gram) (gv:List Int):Prop:=gv.length=g.vars.toNat∧∀ (k:Nat) (h:k < gv.length),gv[k] = -1∨gv[k]=cw g k
theorem GOk.set {g:Gram} {gv:List Int} (h:GOk g gv) (k:Nat):GOk g (gv.set k (cw g k)):=by
 refine⟨by rw[List.length_set];exact h.1,fun j hj=>?_⟩
 rw[List.getElem_set]
 split
 ·rename_i e;subst e;exact .inr rfl
 ·exact h.2 j _
def ZhY (g:Gram) (v:Int) (w:List Int):Rule:=⟨v,Zam g (ZeX w)⟩
theorem Zgv (i:Int) {w:List Int} (h:w≠[]):ZeX (i::w)=ZeX w:=by
 cases w with
 | nil=>exact absurd rfl h
 | cons a b=>simp[ZeX]
theorem Zpf {g:Gram} {i:Int} {w:List Int} (h:w∈ZcF g i):w≠[]:=by
 unfold ZcF at h
 split at h
 ·rw[List.mem_singleton] at h;subst h;simp
 ·obtain⟨x,_,rfl⟩:=List.mem_map.1 h;simp
set_option maxRecDepth 100000
theorem Zpg {t:Bool} {l:Int} {right:List Int} (hl:right.length≤100000000):ACalls Tryz.prog 187 [.d (.agg [iD l,ints t right])] [] (I (ZaJ right)) []:=by
 refine ACalls.intro (n:=12) Tryz.func187 rfl rfl (by simp) (by rfl) ?_
 simp only[Zal]
 unfold ZaJ
 by_cases h1:right.length=1
 ·rw[if_pos h1]
  match right,h1 with
  | [x],_ =>
   by_cases h0:0≤x
   ·rw[show (if 0≤[x].getD 0 0 then [x].getD 0 0 else -1)=x from if_pos h0]
    have e:maxI ([x][0]) (-1)=x:=by show maxI x (-1)=x;unfold maxI;split <;> omega
    refine VA ?_
    rw[e]
    exact fin
   ·rw[show (if 0≤[x].getD 0 0 then [x].getD 0 0 else -1) = -1 from if_neg h0]
    have e:maxI ([x][0]) (-1) = -1:=by show maxI x (-1) = -1;unfold maxI;split <;> omega
    refine VA ?_
    rw[e]
    exact fin
 ·rw[if_neg h1]
  refine VA ?_
  exact fin
theorem ZqC:∀ (N:Nat) {t:Bool} {l:List Frag},fszs l < N→fszs l≤100000000→ACalls Tryz.prog 188 [.d (Zah t l)] [] (I (fszs l)) []:=by
 intro N
 induction N with
 | zero=>intro t l h;omega
 | succ N ih =>
 intro t l hn hN
 have hl:=Nat.le_trans (Zbs l) hN
 refine ACalls.intro (n:=21) Tryz.func188 rfl rfl (by simp) (by rfl) ?_
 simp only[Zal]
 refine VA ?_
 refine Zak (X:=Nat×Nat) (fun x=>x.1≤l.length∧x.2+x.1=l.length+fszs (l.take x.1)) (fun x=>[(10,I x.1),(9,I l.length),(8,.d (Zah t l)),(3,I x.2)]) (fun _=>[]) (fun x=>l.length - x.1) (0,l.length) ⟨Nat.zero_le _,by simp[fszs]⟩ ?_
 rintro⟨i,v⟩ ⟨h1,h2⟩
 dsimp only at h1 h2 ⊢
 by_cases hlt:i < l.length
 ·have e1:=ZfO hlt
  have e3:=Zdt (List.getElem_mem hlt)
  have e2:=Ze8 l[i]
  have e4:fszs l=fszs (l.take (i+1))+fszs (l.drop (i+1)):=ZdO _ _
  have e5:(l.take i).length≤fszs (l.take i):=Zbs _
  refine VA ?_
  refine Zab [] (hA:=ih (t:=t) (l:=l[i].l) (by omega) (by omega)) (hr:=?_)
  refine VA ?_
  exact Zae (i+1,v+fszs l[i].l) (a:=⟨by omega,by dsimp only;omega⟩) (b:=by dsimp only;omega)
 ·rw[List.take_of_length_le (by omega)] at h2
  obtain rfl:v=fszs l:=by omega
  refine VA ?_
  exact fin
abbrev shH (t:Bool) (g:Gram) (gv:List Int) (R:List Rule) (F:List (List Frag)):Hp :=
 [(1000,.box 166 [I g.vars,I g.terms,I g.start,.d (ZaL t g.rules),.own 1001 g.vars.toNat,I g.vars,I g.terms,I g.start,.own 1002 R.length,.own 1003 F.length,.d (.raw (.slice none 0 0))]),(1001,.row 3 1 (gv.map iD)),(1002,.row 68 2 (R.map (ZaR false))),(1003,.row 75 1 (F.map (Zah false)))]
def cwp (g:Gram) (bl:List Int) (i:Nat):Int:=min ((((bl.take i).flatMap (ZcF g)).length:Nat):Int) 161
theorem Zu7 {g:Gram} {bl:List Int} {i:Nat} (h:i < bl.length):cwp g bl (i+1)=minI (cwp g bl i+min ((ZcF g bl[i]).length:Int) 161) 161:=by
 unfold cwp minI
 rw[List.take_succ_eq_append_getElem h,List.flatMap_append,List.length_append]
 simp only[List.flatMap_cons,List.flatMap_nil,List.append_nil]
 split <;> omega
theorem Zsn {g:Gram} {i:Int}:min ((ZcF g i).length:Int) 161=if ZaJ (Zam g i) < 0 then 1 else cw g (ZaJ (Zam g i)):=by
 unfold ZcF cw
 by_cases h:ZaJ (Zam g i) < 0
 ·rw[if_pos h,if_pos h];rfl
 ·rw[if_neg h,if_neg h,List.length_map]
theorem Zso (g:Gram) (bl:List Int) (i:Nat):0≤cwp g bl i∧cwp g bl i≤161:=by unfold cwp;omega
theorem Zkz (g:Gram) (v:Int):0≤cw g v∧cw g v≤161:=by unfold cw;omega
def cntM (g:Gram):Nat→Nat→List Int→List Int
 | 0,_,gv=>gv
 | n+1,v,gv=>if 0≤gv.getD v 0 then gv else ((by_ g v).foldl (fun gw i=>if ZaJ (Zam g i) < 0 then gw else cntM g n (ZaJ (Zam g i)).toNat gw) gv).set v (cw g v)
def cntS (g:Gram) (n:Nat) (gw:List Int) (i:Int):List Int:=if ZaJ (Zam g i) < 0 then gw else cntM g n (ZaJ (Zam g i)).toNat gw
theorem Zsp (g:Gram) (n v:Nat) (gv:List Int):cntM g (n+1) v gv=if 0≤gv.getD v 0 then gv else ((by_ g v).foldl (cntS g n) gv).set v (cw g v):=by rw[cntM];rfl
theorem ZkA {g:Gram} {f:List Int→Int→List Int} (h:∀ gw i,GOk g gw→GOk g (f gw i)):∀ (l:List Int) (gv:List Int),GOk g gv→GOk g (l.foldl f gv)
 | [],_,hg=>hg
 | x::l,gv,hg=>ZkA h l _ (h _ x hg)
theorem Zgw {g:Gram}:∀ (n v:Nat) (gv:List Int),GOk g gv→GOk g (cntM g n v gv)
 | 0,_,_,h=>by rw[cntM];exact h
 | n+1,v,gv,h=>by
  rw[Zsp]
  split
  ·exact h
  ·exact (ZkA (fun gw i hw=>by unfold cntS;split;exact hw;exact Zgw n _ _ hw) _ _ h).set v
theorem ZwQ {g:Gram} {n:Nat} {gw:List Int} {i:Int} (h:GOk g gw):GOk g (cntS g n gw i):=by
 unfold cntS
 split
 ·exact h
 ·exact Zgw _ _ _ h
theorem ZqD {f:List Int→Int→List Int} {l:List Int} {gv:List Int} {i:Nat} (h:i < l.length):(l.take (i+1)).foldl f gv=f ((l.take i).foldl f gv) l[i]:=by
 rw[List.take_succ_eq_append_getElem h,List.foldl_append];rfl
theorem Zsq (g:Gram) (v:Int):(by_ g v).length≤g.rules.length:=by
 have key:∀ (v:Int) (rs:List Rule) (i:Nat),(byR rs v i).length≤rs.length:=fun v rs=>by
  induction rs with
  | nil=>intro i;simp[byR]
  | cons r rs ih=>intro i;have:=ih (i+1);rw[byR];split <;> simp <;> omega
 exact key v g.rules 0
set_option maxHeartbeats 1000000 in
theorem ZlZ {g:Gram} (hg:g.ok) (hc:cycL g=[]) {t:Bool} {R:List Rule} {F:List (List Frag)}:∀ (n:Nat) (v:Nat) (gv:List Int),rnk g v < n→(v:Int) < g.vars→GOk g gv →
  ACalls Tryz.prog 123 [.ptr 1000 0,I v] (shH t g gv R F) (I (cw g v)) (shH t g (cntM g n v gv) R F):=by
 intro n
 induction n with
 | zero=>intro v gv h;omega
 | succ n ih =>
 intro v gv hn hv hgv
 have hvl:=hgv.1
 have hvv:=hg.vars
 have hlt:v < gv.length:=by omega
 have hgd:gv.getD v 0=gv[v]:=by simp[List.getD_eq_getElem?_getD,hlt]
 rw[Zsp,hgd]
 by_cases hpos:0≤gv[v]
 ·have hval:gv[v]=cw g v:=by
   rcases hgv.2 v hlt with h|h
   ·omega
   ·exact h
  rw[if_pos hpos,←hval]
  refine ACalls.intro (n:=63) Tryz.func123 rfl rfl (by simp) (by rfl) ?_
  simp only[Zal]
  refine VA ?_
  exact fin
 ·rw[if_neg hpos]
  have hby:=Zjn (t:=t) (g:=g) (v:=(v:Int)) (by have:=hg.rules;omega)
  have hw:=ZhX hg hc (v:=(v:Int)) (by omega) hv
  have hbll:=Zsq g v
  have hrl:=hg.rules
  have hin:∀ i (h:i < (by_ g v).length),∃ k,∃ hk:k < g.rules.length,(by_ g v)[i]=(k:Int)∧(by_ g v)[i]∈by_ g v:=fun i h=>by
   obtain⟨k,hk,e1,e2⟩:=by_mem.1 (List.getElem_mem h)
   exact⟨k,hk,e1,List.getElem_mem h⟩
  have step:∀ i (h:i < (by_ g v).length) (gw:List Int),GOk g gw→ZaJ (Zam g (by_ g v)[i]) < 0∨∃ u:Nat,ZaJ (Zam g (by_ g v)[i])=(u:Int)∧ACalls Tryz.prog 123 [.ptr 1000 0,I u] (shH t g gw R F) (I (cw g u)) (shH t g (cntM g n u gw) R F):=fun i h gw hgw=>by
   by_cases hu:ZaJ (Zam g (by_ g v)[i]) < 0
   ·exact .inl hu
   ·obtain⟨k,hk,e1,hm⟩:=hin i h
    have hs:=Zev hm (by omega)
    obtain⟨u0,u1⟩:=ZgE hg (by omega) hv hs
    have hr:=ZjJ hg hc (by omega) hv hs
    obtain⟨u,hu2⟩:∃ u:Nat,ZaJ (Zam g (by_ g v)[i])=(u:Int):=⟨(ZaJ (Zam g (by_ g v)[i])).toNat,by omega⟩
    rw[hu2] at hr u1
    exact .inr ⟨u,hu2,ih u gw (by omega) u1 hgw⟩
  have hend:cwp g (by_ g v) (by_ g v).length=cw g v:=by unfold cwp cw;rw[hw,List.take_length]
  generalize by_ g v=bl at *
  refine ACalls.intro (n:=63) Tryz.func123 rfl rfl (by simp) (by rfl) ?_
  simp only[Zal]
  refine VA ?_
  refine Zab [] (hA:=hby) (hr:=?_)
  refine VA ?_
  have e:(0:Int)=cwp g bl 0:=by show (0:Int)=min ((0:Nat):Int) 161;decide
  refine Zak (X:=Nat) (fun i=>i≤bl.length) (fun i=>[(32,I i),(31,I bl.length),(30,.own 5 bl.length),(5,I (cwp g bl i)),(1,I v),(0,.ptr 1000 0)]) (fun i=>(5,.row 3 1 (bl.map iD))::shH t g ((bl.take i).foldl (cntS g n) gv) R F) (fun i=>bl.length - i) 0 (Nat.zero_le _) ?_
  intro i hi
  have hgw:=ZkA (g:=g) (f:=cntS g n) (fun gw i hw=>ZwQ (n:=n) (i:=i) hw) (bl.take i) gv hgv
  have hgwl:=hgw.1
  by_cases hlt2:i < bl.length
  ·obtain⟨k,hk,e1,hm⟩:=hin i hlt2
   have hft:=ZqD (f:=cntS g n) (gv:=gv) hlt2
   have hcn:=Zu7 (g:=g) hlt2
   have hwl:=Zsn (g:=g) (i:=bl[i])
   have hcr:=Zso g bl i
   have hrk:Zam g bl[i]=g.rules[k].right:=by rw[e1];exact ZaW hk
   have hrr:=hg.right _ (List.getElem_mem hk)
   have hun:ACalls Tryz.prog 187 [.d (.agg [iD g.rules[k].left,ints t g.rules[k].right])] [] (I (ZaJ (Zam g bl[i]))) []:=by rw[hrk];exact Zpg (by omega)
   generalize (bl.take i).foldl (cntS g n) gv=gw at *
   rcases step i hlt2 gw hgw with hu|⟨u,hu,hih⟩
   ·rw[if_pos hu] at hwl
    rw[hwl] at hcn
    have e:cntS g n gw bl[i]=gw:=by unfold cntS;rw[if_pos hu]
    rw[e] at hft
    clear e
    have e:gw.map iD=((bl.take (i+1)).foldl (cntS g n) gv).map iD:=by rw[hft]
    have hge:=ZlX (Zam g bl[i])
    generalize ZaJ (Zam g bl[i])=un at *
    refine VA ?_
    refine Zab [] (hA:=hun) (hr:=?_)
    refine VA ?_
    exact Zae (i+1) (c:=⟨.of rfl,.of rfl,.of rfl,ZbT rfl hcn.symm,.of rfl,.of rfl,trivial⟩)
   ·rw[hu] at hun hwl
    rw[if_neg (by omega)] at hwl
    rw[hwl] at hcn
    have e:cntS g n gw bl[i]=cntM g n u gw:=by unfold cntS;rw[hu,if_neg (by omega)];rfl
    rw[e] at hft
    have hcu:=Zkz g u
    clear e
    generalize cntM g n u gw=gz at *
    have e:gz.map iD=((bl.take (i+1)).foldl (cntS g n) gv).map iD:=by rw[hft]
    refine VA ?_
    refine Zab [] (hA:=hun) (hr:=?_)
    refine VA ?_
    refine Zab [] (hA:=hih) (hr:=?_)
    refine VA ?_
    exact Zae (i+1) (c:=⟨.of rfl,.of rfl,.of rfl,ZbT rfl hcn.symm,.of rfl,.of rfl,trivial⟩)
  ·have hie:i=bl.length:=by omega
   have hfl:bl.take i=bl:=List.take_of_length_le (by omega)
   rw[hfl] at hgw hgwl
   rw[hfl,show cwp g bl i=cw g v by rw[hie,hend]]
   have hvl2:v < (bl.foldl (cntS g n) gv).length:=by omega
   generalize bl.foldl (cntS g n) gv=gw at *
   have e:(gw.map iD).set v (iD (cw g v))=(gw.set v (cw g v)).map iD:=by rw[List.map_set]
   refine VA ?_
   exact fin
structure SS where
 gv:List Int
 R:List Rule
 F:List (List Frag)
def rulL (f:Int→SS→Bool×SS):List Int→SS→Bool×SS
 | [],s=>(true,s)
 | x::l,s=>if (f x s).1=true then rulL f l (f x s).2 else (false,(f x s).2)
def rulM (g:Gram) (v:Int):Nat→List Int→Int→SS→Bool×SS
 | 0,_,_,s=>(true,s)
 | n+1,p,i,s=>if ZaJ (Zam g i) < 0 then (decide (fszs (ZbF p (ZaQ i (kN g i)))≤60),⟨s.gv,s.R++[⟨v,Zam g i⟩],s.F++[ZbF p (ZaQ i (kN g i))]⟩)
  else if cw g (ZaJ (Zam g i))=0 then (true,⟨cntM g 65 (ZaJ (Zam g i)).toNat s.gv,s.R,s.F⟩)
  else rulL (fun k s=>rulM g v n (p++[i]) k s) (by_ g (ZaJ (Zam g i))) ⟨cntM g 65 (ZaJ (Zam g i)).toNat s.gv,s.R,s.F⟩
structure ZwR (g:Gram) (v:Int) (p:List Int) (E:List (List Int)) (s:SS) (r:Bool×SS):Prop where
 gv:GOk g s.gv→GOk g r.2.gv
 len:s.F.length=s.R.length→r.2.F.length=r.2.R.length
 le:r.2.R.length≤s.R.length+E.length
 all:r.1=true→r.2.R=s.R++E.map (ZhY g v)∧r.2.F=s.F++E.map (fun w=>ZbF p (wayF g w))∧∀ w∈E,fszs (ZbF p (wayF g w))≤60
 one:r.1=false→∃ w∈E,60 < fszs (ZbF p (wayF g w))
theorem Zgx {g:Gram} {v:Int} {p:List Int} {f:Int→SS→Bool×SS}:∀ (l:List Int) (s:SS),(∀ k∈l,∀ s,ZwR g v p (ZcF g k) s (f k s))→ZwR g v p (l.flatMap (ZcF g)) s (rulL f l s)
 | [],s,_=>⟨id,id,by simp[rulL],fun _=>by simp[rulL],fun h=>by cases h⟩
 | x::l,s,h=>by
  have h1:=h x (by simp) s
  have h2:=Zgx l (f x s).2 (fun k hk=>h k (by simp[hk]))
  rw[rulL,List.flatMap_cons]
  cases hb:(f x s).1 with
  | true =>
   rw[if_pos rfl]
   obtain⟨a1,a2,a3⟩:=h1.all hb
   refine⟨fun q=>h2.gv (h1.gv q),fun q=>h2.len (h1.len q),?_,fun hr=>?_,fun hr=>?_⟩
   ·have:=h2.le
    rw[a1,List.length_append,List.length_map] at this
    rw[List.length_append];omega
   ·obtain⟨b1,b2,b3⟩:=h2.all hr
    rw[b1,b2,a1,a2,List.map_append,List.map_append]
    refine⟨by simp,by simp,fun w hw=>?_⟩
    rcases List.mem_append.1 hw with hw|hw
    ·exact a3 w hw
    ·exact b3 w hw
   ·obtain⟨w,hw,hs⟩:=h2.one hr
    exact⟨w,List.mem_append.2 (.inr hw),hs⟩
  | false =>
   rw[if_neg (by decide)]
   obtain⟨w,hw,hs⟩:=h1.one hb
   refine⟨h1.gv,h1.len,?_,fun h=>(by cases h),fun _=>⟨w,List.mem_append.2 (.inl hw),hs⟩⟩
   have:=h1.le
   rw[List.length_append];dsimp only;omega
section
variable {g:Gram} (hg:g.ok) (hc:cycL g=[])
include hg hc
theorem Zgy (v:Int):∀ (n:Nat) (v0:Int) (p:List Int) (i:Int) (s:SS),0≤v0→v0 < g.vars→i∈by_ g v0→rnk g v0 < n→ZwR g v p (ZcF g i) s (rulM g v n p i s):=by
 intro n
 induction n with
 | zero=>intro v0 p i s _ _ _ h;omega
 | succ n ih =>
 intro v0 p i s h0 h1 hi hn
 rw[rulM]
 by_cases hu:ZaJ (Zam g i) < 0
 ·rw[if_pos hu]
  have hE:ZcF g i=[[i]]:=by unfold ZcF;rw[if_pos hu]
  have hw:wayF g [i]=ZaQ i (kN g i):=by rw[wayF]
  rw[hE]
  refine⟨id,fun h=>by simp[h],by simp,fun hr=>?_,fun hr=>?_⟩
  ·refine⟨by simp[ZhY,ZeX],by simp[hw],fun w hm=>?_⟩
   rw[List.mem_singleton] at hm;subst hm;rw[hw];exact of_decide_eq_true hr
  ·refine⟨[i],by simp,?_⟩
   rw[hw]
   have:=of_decide_eq_false hr
   omega
 ·rw[if_neg hu]
  have hs:=Zev hi (by omega)
  obtain⟨u0,u1⟩:=ZgE hg h0 h1 hs
  have hr:=ZjJ hg hc h0 h1 hs
  have hwe:=ZhX hg hc u0 u1
  have hE:ZcF g i=(ways g (ZaJ (Zam g i))).map (i::·):=by unfold ZcF;rw[if_neg hu]
  generalize ZaJ (Zam g i)=u at *
  by_cases h0c:cw g u=0
  ·rw[if_pos h0c]
   have hz:ways g u=[]:=List.length_eq_zero_iff.1 (by unfold cw at h0c;omega)
   rw[hE,hz]
   exact⟨fun h=>Zgw _ _ _ h,id,by simp,fun _=>by simp,fun h=>by cases h⟩
  ·rw[if_neg h0c]
   have hL:=Zgx (g:=g) (v:=v) (p:=p++[i]) (f:=fun k s=>rulM g v n (p++[i]) k s) (by_ g u) ⟨cntM g 65 u.toNat s.gv,s.R,s.F⟩ (fun k hk s=>ih u (p++[i]) k s u0 u1 hk (by omega))
   rw[←hwe] at hL
   have hne:∀ w∈ways g u,w≠[]:=fun w hw=>by
    rw[hwe] at hw
    obtain⟨k,_,hk⟩:=List.mem_flatMap.1 hw
    exact Zpf hk
   have hF:∀ w∈ways g u,ZbF (p++[i]) (wayF g w)=ZbF p (wayF g (i::w)):=fun w hw=>by rw[ZjB,Zsm g i (hne w hw)]
   have hR:∀ w∈ways g u,ZhY g v w=ZhY g v (i::w):=fun w hw=>by unfold ZhY;rw[Zgv i (hne w hw)]
   rw[hE]
   refine⟨fun h=>hL.gv (Zgw _ _ _ h),hL.len,by have:=hL.le;simpa using this,fun hr=>?_,fun hr=>?_⟩
   ·obtain⟨a1,a2,a3⟩:=hL.all hr
    refine⟨?_,?_,fun w hw=>?_⟩
    ·rw[a1,List.map_map]
     congr 1
     exact List.map_congr_left hR
    ·rw[a2,List.map_map]
     congr 1
     exact List.map_congr_left hF
    ·obtain⟨x,hx,rfl⟩:=List.mem_map.1 hw
     rw[←hF x hx];exact a3 x hx
   ·obtain⟨w,hw,hs⟩:=hL.one hr
    exact⟨i::w,List.mem_map.2 ⟨w,hw,rfl⟩,by rw[←hF w hw];exact hs⟩
end
end Go.Proofs.YtbpmepgnjanhnaaGreat
