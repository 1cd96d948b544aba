import Derived.Test.YtbpmepgnjanhnaaGreatQTrimE
import Derived.Test.YtbpmepgnjanhnaaGreatQS6
import Derived.Test.YtbpmepgnjanhnaaGreatSmN
import Derived.Test.YtbpmepgnjanhnaaGreatF2
set_option linter.unusedVariables false
set_option linter.unusedSimpArgs false
set_option linter.unusedSectionVars false
namespace Go.Proofs.YtbpmepgnjanhnaaGreat
open Go.RowKit
set_option maxRecDepth 100000
abbrev bxSt (cs:List V):Ob:=.box 39 cs
abbrev bxFt (a b:V):Ob:=.box 31 [a,b]
abbrev nilV:V:=.d (.raw (.slice none 0 0))
abbrev zSt:List V:=[I 0,I 0,I 0,nilV,nilV,nilV]
theorem ZxO {a b c e g k:D} {n1 n2 s1 s2:Nat} {xs ys:List D}:ADefer Tryz.prog 121 (ptrs [1002,1003]) [(1002,bxSt [.d a,.d b,.d c,.own 901 n1,.own 902 n2,.d e]),(1003,bxFt (.d g) (.d k)),(901,.froz s1 xs),(902,.froz s2 ys)] .returning .returning [(1002,bxSt [.d a,.d b,.d c,.own 901 n1,.own 902 n2,.d e]),(1003,bxFt (.d g) (.d k)),(901,.froz s1 xs),(902,.froz s2 ys)]:=by
 refine ADefer.intro (v:=.nilIface) (n:=18) (d1:=5) (d2:=2) Tryz.func121 rfl rfl (by simp[ptrs]) (fun ρ w=>rfl) (fun ρ w=>rfl) rfl rfl .nil rfl rfl ?_
 simp only[ptrs,List.map_cons,List.map_nil,Zal]
 refine VA ?_
 refine ZkX (u:=.nilIface) (b:=true) rfl Zaf rfl rfl Tryz.underlying20 ?_
 refine VA ?_
 exact fin
theorem ZxP {r:Nat}:ADefer Tryz.prog 121 (ptrs [1002,1003]) [(1002,bxSt zSt),(1003,bxFt (I 0) (I 0))] (.panicking [{ v:=ZmZ r,recovered:=false }]) (.panicking [{ v:=ZmZ r,recovered:=true }]) [(1002,bxSt zSt),(1003,bxFt (I 6) (I (r:Int)))]:=by
 refine ADefer.intro (v:=ZmZ r) (n:=18) (d1:=5) (d2:=2) Tryz.func121 rfl rfl (by simp[ptrs]) (fun ρ w=>rfl) (fun ρ w=>rfl) rfl rfl (.pan _) rfl rfl ?_
 simp only[ptrs,List.map_cons,List.map_nil,Zal]
 refine VA ?_
 refine ZkX (u:=ZmZ r) (b:=false) rfl Zaf rfl rfl Tryz.underlying20 ?_
 refine VA ?_
 refine Zpx (us:=[.int .i64 6,.int .i64 (r:Int)]) rfl Zaf rfl Tryz.underlying161 rfl rfl rfl ?_
 refine VA ?_
 exact fin
theorem ZyK {g:Gram} (hr:g.rules.length≤160):∀ (x:Tree) (v:Int),fits g x v=true→NbF 1000000000 (asF x):=by
 refine Tree.ind fun x ih v hf=>?_
 obtain⟨i,hi,e1,e2,e3,e4,e5⟩:=ZeK hf
 have key:∀ (l:List Tree) (vs:List Int),(∀ y∈l,∀ v,fits g y v=true→NbF 1000000000 (asF y))→l.length=vs.length→fitss g l vs=true→NbL 1000000000 (asFs l):=by
  intro l
  induction l with
  | nil=>intro vs _ _ _;exact trivial
  | cons y l ihl =>
   intro vs h1 h2 h3
   cases vs with
   | nil=>simp at h2
   | cons v vs =>
    rw[fitss,Bool.and_eq_true] at h3
    exact⟨h1 y (by simp) v h3.1,ihl vs (fun z hz=>h1 z (by simp[hz])) (by simpa using h2) h3.2⟩
 rw[Tree.eta x,asF]
 exact⟨⟨by omega,by omega⟩,key x.kids _ ih e3.symm e4⟩
theorem Zzp {g:Gram} (hg:g.ok) (hc:cycL g=[]) {nl:List (List Tree)} (h:nlF g=some nl):NlOk nl∧nl.length=g.vars.toNat:=by
 obtain⟨h1,h2⟩:=ZmY h
 have hv:=hg.vars
 have key:∀ l∈nl,∃ v,v < g.vars.toNat∧ListOk (stG g v) [] l:=fun l hl=>by
  obtain⟨v,hv,rfl⟩:=List.mem_iff_getElem.1 hl
  obtain⟨q1,q2⟩:=h2 v (by omega)
  have:=Zc2 q1
  rw[←q2,List.getD_eq_getElem?_getD,List.getElem?_eq_getElem hv] at this
  exact⟨v,by omega,this⟩
 refine⟨⟨by omega,fun l hl=>?_,fun l hl x hx=>?_⟩,h1⟩
 ·obtain⟨v,_,q⟩:=key l hl
  have:=q.len
  have:=q.few
  omega
 ·obtain⟨v,_,q⟩:=key l hl
  obtain⟨q1,q2⟩:=q.mem hx
  exact⟨q2,ZyK (g:=stG g v) hg.rules x _ q1.1⟩
set_option maxHeartbeats 16000000 in
theorem Zns {t:Bool} {g:Gram} (hf:g.fit):ACalls Tryz.prog 68 [.d (Za6 t g)] [] (.tup [.d (Zcf false (ZdR g).1),.d (Zba (ZdR g).2)]) []:=by
 have hck:=ZaM (t:=t) (g:=g) hf.rules hf.right
 have hcy:=ZdE (t:=t) hf
 refine ACalls.introD (n:=103) Tryz.func68 rfl rfl (by simp) (by rfl) rfl ?_
 rintro⟨n,w0,S,E0,h0,o,df⟩ hn hd
 dsimp only at hn hd
 subst hn
 subst hd
 simp only[Zal]
 by_cases hc:(Zac g).code=0
 rotate_left
 ·rw[show ZdR g=(zeroStep,Zac g) by unfold ZdR;rw[if_neg hc]]
  dsimp only
  generalize Zac g=F at *
  refine Za4 rfl rfl ?_
  refine VA ?_
  refine Za4 rfl rfl ?_
  refine VA ?_
  refine Zab [] (hA:=hck) (hr:=?_)
  refine VA ?_
  exact fin2
 have hg:=Za1 hc
 rw[ZdM hc] at hck hcy
 by_cases hcn:cycL g=[]
 rotate_left
 ·rw[show ZdR g=(zeroStep,⟨10, -1⟩) by unfold ZdR;rw[if_pos hc,if_neg hcn]]
  have hcl:(0:Int) < ((cycL g).length:Nat):=by cases hh:cycL g with
   | nil=>exact absurd hh hcn
   | cons a l=>simp
  dsimp only
  generalize cycL g=cl at *
  refine Za4 rfl rfl ?_
  refine VA ?_
  refine Za4 rfl rfl ?_
  refine VA ?_
  refine Zab [] (hA:=hck) (hr:=?_)
  refine VA ?_
  refine Za4 rfl rfl ?_
  refine VA ?_
  refine Zab [] (hA:=hcy) (hr:=?_)
  refine VA ?_
  refine Za4 rfl rfl ?_
  refine VA ?_
  exact fin2
 rw[hcn] at hcy
 obtain⟨nv,hV⟩:∃ nv:Nat,g.vars=(nv:Int):=⟨g.vars.toNat,by have:=hg.vars1;omega⟩
 have hVt:g.vars.toNat=nv:=by omega
 have hV64:=hg.vars
 have hlist:=fun (v:Nat)=>(ZmI (t:=t) (u:=false) (g:=stG g v) (w:=[]) ⟨hf.rules,hf.right⟩ (by simp)).le (args:=[.d (Za6 t (stG g v)),nilV]) ⟨.refl _,VLe.nil _ _,trivial⟩
 cases hnl:nlF g with
 | none =>
  rw[show ZdR g=(zeroStep,⟨6, -1⟩) by unfold ZdR;rw[if_pos hc,if_pos hcn,hnl]]
  unfold nlF at hnl
  rw[hVt] at hnl
  dsimp only
  refine Za4 rfl rfl ?_
  refine VA ?_
  refine Za4 rfl rfl ?_
  refine VA ?_
  refine Zab [] (hA:=hck) (hr:=?_)
  refine VA ?_
  refine Za4 rfl rfl ?_
  refine VA ?_
  refine Zab [] (hA:=hcy) (hr:=?_)
  refine VA ?_
  refine Za4 rfl rfl ?_
  refine VA ?_
  refine Za4 rfl rfl ?_
  refine VA ?_
  refine Za4 rfl rfl ?_
  refine VA ?_
  refine Za4 rfl rfl ?_
  refine VA ?_
  refine Zak (X:=Nat×List (List Tree)) (fun y=>y.1≤nv∧y.2.length=y.1∧nlA g (nv - y.1) y.1 y.2=none) (fun y=>[(49,I y.1),(48,.d (iD g.vars)),(7,.ptr 35 0),(1,.ptr 1 0),(2,.ptr 2 0),(3,.ptr 3 0)])
   (fun y=>[(1,Zay t g),(2,bxSt zSt),(3,bxFt (I 0) (I 0)),(35,.box 160 [.d (iD g.vars),.d (iD g.terms),.d (iD g.start),.d (ZaL t g.rules),.own 33 nv,.d (iD g.vars),.d (iD g.terms),.d (iD g.start),nilV,nilV,nilV]),(33,.row 37 1 (y.2.map (Zap false)++List.replicate (nv - y.1) (D.raw (.slice none 0 0))))]) (fun y=>nv - y.1) (0,[]) ⟨Nat.zero_le _,rfl,by rw[Nat.sub_zero];exact hnl⟩ ?_
  rintro⟨v,acc⟩ ⟨j1,j2,j3⟩
  dsimp only at j1 j2 j3 ⊢
  by_cases hvl:v < nv
  ·have hvi:(v:Int) < g.vars:=by omega
   have hl:=hlist v
   have hbad:=fun h=>ZtO hg hcn (v:=v) (by omega) h
   rw[show nv - v=(nv - (v+1))+1 by omega,nlA] at j3
   have hrl:(acc.map (Zap false)++List.replicate (nv - v) (D.raw (.slice none 0 0))).length=nv:=by simp;omega
   generalize ZaK (stG g v) []=R at *
   obtain⟨l,⟨lc,la⟩⟩:=R
   dsimp only at *
   have eset:(acc.map (Zap false)++List.replicate (nv - v) (D.raw (.slice none 0 0))).set v (Zap false l)=(acc++[l]).map (Zap false)++List.replicate (nv - (v+1)) (D.raw (.slice none 0 0)):=by
    rw[show nv - v=(nv - (v+1))+1 by omega,List.replicate_succ,List.set_append_right _ _ (by simp;omega),List.length_map,show v - acc.length=0 by omega]
    simp
   by_cases hz:lc=0
   ·rw[if_pos hz] at j3
    clear hbad
    refine VA ?_
    refine Zab [] (hA:=hl) (hr:=?_)
    refine VA ?_
    rw[eset]
    exact Zae (v+1,acc++[l]) (a:=⟨hvl,by simp[j2],j3⟩) (b:=by dsimp only;omega)
   ·rw[if_neg hz] at j3
    have hb:=hbad hz
    injection hb with hb1 hb2
    injection hb2 with hb3 hb4
    subst hb1 hb3 hb4
    clear hbad
    refine VA ?_
    refine Zab [] (hA:=hl) (hr:=?_)
    refine VA ?_
    exact fin2
  ·obtain rfl:v=nv:=by omega
   rw[Nat.sub_self,nlA] at j3
   cases j3
 | some nl =>
  obtain⟨hok,hnv⟩:=Zzp hg hcn hnl
  have hru:=fun (r:Nat) (hr:r < g.rules.length) (S:TS) (hS:S.Good)=>(Zrb (t:=t) hg hok hnv hr (g.rules[r].right.length+1) 0 0 [] [] S (by omega) (Nat.zero_le _) (by have:=hg.right _ (List.getElem_mem hr);simp only[List.length_nil];omega) (Nat.le_refl _) (by have:=hg.right _ (List.getElem_mem hr);simp only[fszs];omega) trivial hS).le (args:=[.ptr 1000 0,I (r:Nat),I 0,I 0,nilV,nilV]) ⟨.refl _,.refl _,.refl _,.refl _,VLe.nil _ _,VLe.nil _ _,trivial⟩
  simp only[List.drop_zero] at hru
  have hgd:=fun (r:Nat) (hr:r < g.rules.length) (S S':TS) (h:thR nl g.rules[r].left r g.rules[r].right 0 [] [] S=.ok S') (q:S.Good)=>Zld _ _ _ _ _ _ _ h q
  have hrules:=hg.rules
  have hst:=hg.start
  have hst0:=hg.start0
  cases hA:thA nl 0 g.rules ⟨[],[]⟩ with
  | error q =>
   rw[show ZdR g=(zeroStep,⟨6,(q:Int)⟩) by unfold ZdR;rw[if_pos hc,if_pos hcn,hnl];dsimp only;rw[hA]]
   unfold nlF at hnl
   rw[hVt] at hnl hnv
   dsimp only
   refine Za4 rfl rfl ?_
   refine VA ?_
   refine Za4 rfl rfl ?_
   refine VA ?_
   refine Zab [] (hA:=hck) (hr:=?_)
   refine VA ?_
   refine Za4 rfl rfl ?_
   refine VA ?_
   refine Zab [] (hA:=hcy) (hr:=?_)
   refine VA ?_
   refine Za4 rfl rfl ?_
   refine VA ?_
   refine Za4 rfl rfl ?_
   refine VA ?_
   refine Za4 rfl rfl ?_
   refine VA ?_
   refine Za4 rfl rfl ?_
   refine VA ?_
   refine Zak (X:=Nat×List (List Tree)) (fun y=>y.1≤nv∧y.2.length=y.1∧nlA g (nv - y.1) y.1 y.2=some nl) (fun y=>[(49,I y.1),(48,.d (iD g.vars)),(7,.ptr 35 0),(1,.ptr 1 0),(2,.ptr 2 0),(3,.ptr 3 0)])
    (fun y=>[(1,Zay t g),(2,bxSt zSt),(3,bxFt (I 0) (I 0)),(35,.box 160 [.d (iD g.vars),.d (iD g.terms),.d (iD g.start),.d (ZaL t g.rules),.own 33 nv,.d (iD g.vars),.d (iD g.terms),.d (iD g.start),nilV,nilV,nilV]),(33,.row 37 1 (y.2.map (Zap false)++List.replicate (nv - y.1) (D.raw (.slice none 0 0))))]) (fun y=>nv - y.1) (0,[]) ⟨Nat.zero_le _,rfl,by rw[Nat.sub_zero];exact hnl⟩ ?_
   rintro⟨v,acc⟩ ⟨j1,j2,j3⟩
   dsimp only at j1 j2 j3 ⊢
   by_cases hvl:v < nv
   ·have hvi:(v:Int) < g.vars:=by omega
    have hl:=hlist v
    have hbad:=fun h=>ZtO hg hcn (v:=v) (by omega) h
    rw[show nv - v=(nv - (v+1))+1 by omega,nlA] at j3
    have hrl:(acc.map (Zap false)++List.replicate (nv - v) (D.raw (.slice none 0 0))).length=nv:=by simp;omega
    generalize ZaK (stG g v) []=R at *
    obtain⟨l,⟨lc,la⟩⟩:=R
    dsimp only at *
    have eset:(acc.map (Zap false)++List.replicate (nv - v) (D.raw (.slice none 0 0))).set v (Zap false l)=(acc++[l]).map (Zap false)++List.replicate (nv - (v+1)) (D.raw (.slice none 0 0)):=by
     rw[show nv - v=(nv - (v+1))+1 by omega,List.replicate_succ,List.set_append_right _ _ (by simp;omega),List.length_map,show v - acc.length=0 by omega]
     simp
    by_cases hz:lc=0
    ·rw[if_pos hz] at j3
     clear hbad
     refine VA ?_
     refine Zab [] (hA:=hl) (hr:=?_)
     refine VA ?_
     rw[eset]
     exact Zae (v+1,acc++[l]) (a:=⟨hvl,by simp[j2],j3⟩) (b:=by dsimp only;omega)
    ·rw[if_neg hz] at j3
     cases j3
   obtain rfl:v=nv:=by omega
   rw[Nat.sub_self,nlA] at j3
   obtain rfl:acc=nl:=by injection j3
   clear hlist hnl
   rw[Nat.sub_self,List.replicate_zero,List.append_nil]
   have hvi:¬ (v:Int) < g.vars:=by omega
   have hal:(acc.map (Zap false)).length=v:=by rw[List.length_map];exact j2
   refine Zav 33 rfl ?_
   refine Zlr 35 4 (.d (.sl false 1 (acc.map (Zap false)))) rfl rfl (Co.froz rfl hal.symm) rfl ?_
   refine VA ?_
   refine Zmv (d1:=75) (fd:=121) (xs:=[.tmp 2,.tmp 3]) [(1002,2),(1003,3),(1004,1),(1005,35)] [(1002,bxSt zSt),(1003,bxFt (I 0) (I 0)),(1004,Zay t g),(1005,.box 160 [.d (iD g.vars),.d (iD g.terms),.d (iD g.start),.d (ZaL t g.rules),.d (.sl false 1 (acc.map (Zap false))),.d (iD g.vars),.d (iD g.terms),.d (iD g.start),nilV,nilV,nilV])] [(2,.ptr 1002 0),(3,.ptr 1003 0),(1,.ptr 1004 0),(7,.ptr 1005 0)] [1002,1003] (.panicking [{ v:=ZmZ q,recovered:=false }]) (.panicking [{ v:=ZmZ q,recovered:=true }]) [(2,1002),(3,1003)] [(1002,bxSt zSt),(1003,bxFt (I 0) (I 0))] [(1002,bxSt zSt),(1003,bxFt (I 6) (I (q:Int)))]
    rfl rfl rfl ⟨rfl,rfl,trivial⟩ rfl rfl rfl (fun ρ cs w h=>by simp[execOp,resolve,Deferred.ofValue,h]) ⟨_,Tryz.func121,rfl,rfl⟩ ⟨rfl,rfl,rfl,rfl,trivial⟩ rfl rfl rfl ⟨⟨rfl,rfl⟩,⟨rfl,rfl⟩,⟨rfl,rfl⟩,⟨rfl,rfl⟩,trivial⟩ rfl rfl rfl rfl rfl rfl rfl (by intro h;cases h) ZxP
    (vs:=[.agg zSt,.agg [I 6,I (q:Int)]]) ⟨.aggT TY rfl rfl rfl rfl rfl,.aggT TY rfl rfl rfl rfl rfl,trivial⟩ (Co.tup ⟨Co.agg ⟨Co.refl _,Co.refl _,Co.refl _,Co.nil false 2,Co.nil false 1,Co.nil false 2,trivial⟩,Co.agg (Cos.refl _),trivial⟩) rfl ?_
   refine VA ?_
   refine ZaB 1005 8 901 68 2 rfl rfl rfl rfl ?_
   refine ZaB 1005 9 902 75 1 rfl rfl rfl rfl ?_
   clear hcy hck
   refine Zak (X:=Nat×TS) (fun y=>y.1≤g.rules.length∧y.2.Good∧thA acc y.1 (g.rules.drop y.1) y.2=.error q) (fun y=>[(79,I y.1),(78,I g.rules.length),(7,.ptr 1005 0),(1,.ptr 1004 0),(2,.ptr 1002 0),(3,.ptr 1003 0)])
    (fun y=>[(1002,bxSt zSt),(1003,bxFt (I 0) (I 0)),(1004,Zay t g),(1005,.box 160 [.d (iD g.vars),.d (iD g.terms),.d (iD g.start),.d (ZaL t g.rules),.d (.sl false 1 (acc.map (Zap false))),.d (iD g.vars),.d (iD g.terms),.d (iD g.start),.own 901 (y.2.rules.map (ZaR false)).length,.own 902 (y.2.frags.map (Zah false)).length,nilV]),(901,.row 68 2 (y.2.rules.map (ZaR false))),(902,.row 75 1 (y.2.frags.map (Zah false)))]) (fun y=>g.rules.length - y.1) (0,⟨[],[]⟩) ⟨Nat.zero_le _,⟨Nat.zero_le _,rfl⟩,hA⟩ ?_
   rintro⟨i,S1⟩ ⟨k1,k2,k3⟩
   dsimp only at k1 k2 k3 ⊢
   by_cases hil:i < g.rules.length
   rotate_left
   ·rw[show g.rules.drop i=[] from List.drop_of_length_le (by omega),thA] at k3
    cases k3
   rw[List.drop_eq_getElem_cons hil,thA] at k3
   have hx:=hru i hil S1 k2
   have hgx:=hgd i hil S1
   clear hru hgd
   cases hc2:thR acc g.rules[i].left i g.rules[i].right 0 [] [] S1 with
   | error e2 =>
    rw[hc2] at k3 hx
    obtain rfl:i=q:=by injection k3
    replace hx:APan _ _ _ _ _ _:=hx
    simp only[thH,thHr,thBx] at hx
    refine VA ?_
    refine Zdb [(1000,1005),(1001,901),(1002,902)] [(2,.ptr 1002 0),(3,.ptr 1003 0)] [(1002,some (bxSt zSt)),(1003,some (bxFt (I 0) (I 0)))] (hpn:=?_) (hA:=hx)
    exact (fun fr' h' h1 h2=>⟨rfl,⟨VLe.of (h1 _ List.mem_cons_self),VLe.of (h1 _ (List.mem_cons_of_mem _ List.mem_cons_self)),trivial⟩,⟨HElt.of (h2 _ List.mem_cons_self),HElt.of (h2 _ (List.mem_cons_of_mem _ List.mem_cons_self)),trivial⟩⟩)
   | ok S4 =>
    rw[hc2] at k3 hx
    replace hx:ACalls _ _ _ _ _ _:=hx
    have hS4:=hgx S4 hc2 k2
    simp only[thH,thHr,thBx] at hx
    refine VA ?_
    refine Zab [(1000,1005),(1001,901),(1002,902)] (hA:=hx) (hr:=?_)
    refine VA ?_
    exact Zae (i+1,S4) (a:=⟨hil,hS4,k3⟩) (b:=by dsimp only;omega)
  | ok W =>
   rw[show ZdR g=(⟨⟨g.vars,g.terms,g.start,W.rules⟩,W.frags,nl.getD (stN g) []⟩,⟨0,0⟩) by unfold ZdR;rw[if_pos hc,if_pos hcn,hnl];dsimp only;rw[hA]]
   unfold nlF at hnl
   rw[hVt] at hnl hnv
   dsimp only
   refine Za4 rfl rfl ?_
   refine VA ?_
   refine Za4 rfl rfl ?_
   refine VA ?_
   refine Zab [] (hA:=hck) (hr:=?_)
   refine VA ?_
   refine Za4 rfl rfl ?_
   refine VA ?_
   refine Zab [] (hA:=hcy) (hr:=?_)
   refine VA ?_
   refine Za4 rfl rfl ?_
   refine VA ?_
   refine Za4 rfl rfl ?_
   refine VA ?_
   refine Za4 rfl rfl ?_
   refine VA ?_
   refine Za4 rfl rfl ?_
   refine VA ?_
   refine Zak (X:=Nat×List (List Tree)) (fun y=>y.1≤nv∧y.2.length=y.1∧nlA g (nv - y.1) y.1 y.2=some nl) (fun y=>[(49,I y.1),(48,.d (iD g.vars)),(7,.ptr 35 0),(1,.ptr 1 0),(2,.ptr 2 0),(3,.ptr 3 0)])
    (fun y=>[(1,Zay t g),(2,bxSt zSt),(3,bxFt (I 0) (I 0)),(35,.box 160 [.d (iD g.vars),.d (iD g.terms),.d (iD g.start),.d (ZaL t g.rules),.own 33 nv,.d (iD g.vars),.d (iD g.terms),.d (iD g.start),nilV,nilV,nilV]),(33,.row 37 1 (y.2.map (Zap false)++List.replicate (nv - y.1) (D.raw (.slice none 0 0))))]) (fun y=>nv - y.1) (0,[]) ⟨Nat.zero_le _,rfl,by rw[Nat.sub_zero];exact hnl⟩ ?_
   rintro⟨v,acc⟩ ⟨j1,j2,j3⟩
   dsimp only at j1 j2 j3 ⊢
   by_cases hvl:v < nv
   ·have hvi:(v:Int) < g.vars:=by omega
    have hl:=hlist v
    have hbad:=fun h=>ZtO hg hcn (v:=v) (by omega) h
    rw[show nv - v=(nv - (v+1))+1 by omega,nlA] at j3
    have hrl:(acc.map (Zap false)++List.replicate (nv - v) (D.raw (.slice none 0 0))).length=nv:=by simp;omega
    generalize ZaK (stG g v) []=R at *
    obtain⟨l,⟨lc,la⟩⟩:=R
    dsimp only at *
    have eset:(acc.map (Zap false)++List.replicate (nv - v) (D.raw (.slice none 0 0))).set v (Zap false l)=(acc++[l]).map (Zap false)++List.replicate (nv - (v+1)) (D.raw (.slice none 0 0)):=by
     rw[show nv - v=(nv - (v+1))+1 by omega,List.replicate_succ,List.set_append_right _ _ (by simp;omega),List.length_map,show v - acc.length=0 by omega]
     simp
    by_cases hz:lc=0
    ·rw[if_pos hz] at j3
     clear hbad
     refine VA ?_
     refine Zab [] (hA:=hl) (hr:=?_)
     refine VA ?_
     rw[eset]
     exact Zae (v+1,acc++[l]) (a:=⟨hvl,by simp[j2],j3⟩) (b:=by dsimp only;omega)
    ·rw[if_neg hz] at j3
     cases j3
   obtain rfl:v=nv:=by omega
   rw[Nat.sub_self,nlA] at j3
   obtain rfl:acc=nl:=by injection j3
   clear hlist hnl
   rw[Nat.sub_self,List.replicate_zero,List.append_nil]
   have hvi:¬ (v:Int) < g.vars:=by omega
   have hal:(acc.map (Zap false)).length=v:=by rw[List.length_map];exact j2
   refine Zav 33 rfl ?_
   refine Zlr 35 4 (.d (.sl false 1 (acc.map (Zap false)))) rfl rfl (Co.froz rfl hal.symm) rfl ?_
   refine VA ?_
   refine Zmv (d1:=75) (fd:=121) (xs:=[.tmp 2,.tmp 3]) [(1002,2),(1003,3),(1004,1),(1005,35)] [(1002,bxSt zSt),(1003,bxFt (I 0) (I 0)),(1004,Zay t g),(1005,.box 160 [.d (iD g.vars),.d (iD g.terms),.d (iD g.start),.d (ZaL t g.rules),.d (.sl false 1 (acc.map (Zap false))),.d (iD g.vars),.d (iD g.terms),.d (iD g.start),nilV,nilV,nilV])] [(2,.ptr 1002 0),(3,.ptr 1003 0),(1,.ptr 1004 0),(7,.ptr 1005 0)] [1002,1003] .returning .returning [(2,1002),(3,1003)] [(1002,bxSt [.d (iD g.vars),.d (iD g.terms),.d (iD g.start),.own 901 W.rules.length,.own 902 W.frags.length,.d (Zap false (acc.getD (stN g) []))]),(1003,bxFt (.d (iD 0)) (.d (iD 0))),(901,.froz 2 (W.rules.map (ZaR false))),(902,.froz 1 (W.frags.map (Zah false)))] [(1002,bxSt [.d (iD g.vars),.d (iD g.terms),.d (iD g.start),.own 901 W.rules.length,.own 902 W.frags.length,.d (Zap false (acc.getD (stN g) []))]),(1003,bxFt (.d (iD 0)) (.d (iD 0))),(901,.froz 2 (W.rules.map (ZaR false))),(902,.froz 1 (W.frags.map (Zah false)))]
    rfl rfl rfl ⟨rfl,rfl,trivial⟩ rfl rfl rfl (fun ρ cs w h=>by simp[execOp,resolve,Deferred.ofValue,h]) ⟨_,Tryz.func121,rfl,rfl⟩ ⟨rfl,rfl,rfl,rfl,trivial⟩ rfl rfl rfl ⟨⟨rfl,rfl⟩,⟨rfl,rfl⟩,⟨rfl,rfl⟩,⟨rfl,rfl⟩,trivial⟩ rfl rfl rfl rfl rfl rfl rfl (by intro h;cases h) ZxO
    (vs:=[.agg [.d (iD g.vars),.d (iD g.terms),.d (iD g.start),.own 901 W.rules.length,.own 902 W.frags.length,.d (Zap false (acc.getD (stN g) []))],.agg [.d (iD 0),.d (iD 0)]]) ⟨.aggT TY rfl rfl rfl rfl rfl,.aggT TY rfl rfl rfl rfl rfl,trivial⟩ (Co.tup ⟨Co.agg ⟨Co.refl _,Co.refl _,Co.refl _,Co.froz rfl (by simp),Co.froz rfl (by simp),Co.refl _,trivial⟩,Co.agg (Cos.refl _),trivial⟩) rfl ?_
   refine VA ?_
   refine ZaB 1005 8 901 68 2 rfl rfl rfl rfl ?_
   refine ZaB 1005 9 902 75 1 rfl rfl rfl rfl ?_
   clear hcy hck
   refine Zak (X:=Nat×TS) (fun y=>y.1≤g.rules.length∧y.2.Good∧thA acc y.1 (g.rules.drop y.1) y.2=.ok W) (fun y=>[(79,I y.1),(78,I g.rules.length),(7,.ptr 1005 0),(1,.ptr 1004 0),(2,.ptr 1002 0),(3,.ptr 1003 0)])
    (fun y=>[(1002,bxSt zSt),(1003,bxFt (I 0) (I 0)),(1004,Zay t g),(1005,.box 160 [.d (iD g.vars),.d (iD g.terms),.d (iD g.start),.d (ZaL t g.rules),.d (.sl false 1 (acc.map (Zap false))),.d (iD g.vars),.d (iD g.terms),.d (iD g.start),.own 901 (y.2.rules.map (ZaR false)).length,.own 902 (y.2.frags.map (Zah false)).length,nilV]),(901,.row 68 2 (y.2.rules.map (ZaR false))),(902,.row 75 1 (y.2.frags.map (Zah false)))]) (fun y=>g.rules.length - y.1) (0,⟨[],[]⟩) ⟨Nat.zero_le _,⟨Nat.zero_le _,rfl⟩,hA⟩ ?_
   rintro⟨i,S1⟩ ⟨k1,k2,k3⟩
   dsimp only at k1 k2 k3 ⊢
   by_cases hil:i < g.rules.length
   rotate_left
   ·rw[show g.rules.drop i=[] from List.drop_of_length_le (by omega),thA] at k3
    obtain rfl:S1=W:=by injection k3
    obtain⟨sn,hsn⟩:∃ sn:Nat,g.start=(sn:Int):=⟨g.start.toNat,by omega⟩
    have hsl:sn < acc.length:=by omega
    have esn:acc.getD (stN g) []=acc[sn]:=by unfold stN;rw[hsn,Int.toNat_natCast,List.getD_eq_getElem?_getD,List.getElem?_eq_getElem hsl];rfl
    rw[esn]
    clear esn hru hgd
    refine Zav 901 rfl ?_
    refine Zav 902 rfl ?_
    refine VA ?_
    rw[hsn]
    refine VA ?_
    simp only[List.length_map]
    exact Or.inr ⟨rfl,⟨VLe.refl _,VLe.refl _,trivial⟩,⟨HElt.of rfl,HElt.of rfl,HElt.of rfl,HElt.of rfl,trivial⟩⟩
   rw[List.drop_eq_getElem_cons hil,thA] at k3
   have hx:=hru i hil S1 k2
   have hgx:=hgd i hil S1
   clear hru hgd
   cases hc2:thR acc g.rules[i].left i g.rules[i].right 0 [] [] S1 with
   | error e2 =>
    rw[hc2] at k3 hx
    cases k3
   | ok S4 =>
    rw[hc2] at k3 hx
    replace hx:ACalls _ _ _ _ _ _:=hx
    have hS4:=hgx S4 hc2 k2
    simp only[thH,thHr,thBx] at hx
    refine VA ?_
    refine Zab [(1000,1005),(1001,901),(1002,902)] (hA:=hx) (hr:=?_)
    refine VA ?_
    exact Zae (i+1,S4) (a:=⟨hil,hS4,k3⟩) (b:=by dsimp only;omega)
end Go.Proofs.YtbpmepgnjanhnaaGreat
