import Derived.Test.YtbpmepgnjanhnaaGreatQTrimE
set_option linter.unusedVariables false
set_option linter.unusedSimpArgs false
set_option linter.unusedSectionVars false
set_option maxRecDepth 100000
namespace Go.Proofs.YtbpmepgnjanhnaaGreat
open Go.RowKit
abbrev bxSt (cs:List V):Ob:=.box 39 cs
abbrev bxFt (a b:V):Ob:=.box 31 [a,b]
abbrev nilV:V:=.d (.raw (.slice none 0 0))
abbrev zSt:List V:=[I 0,I 0,I 0,nilV,nilV,nilV]
theorem ZCK {a b c e g k:D} {n1 n2 s1 s2:Nat} {xs ys:List D}:ADefer Tryz.prog 121 (ptrs [1002,1003]) [(1002,bxSt [.d a,.d b,.d c,.own 901 n1,.own 902 n2,.d e]),(1003,bxFt (.d g) (.d k)),(901,.froz s1 xs),(902,.froz s2 ys)] .returning .returning [(1002,bxSt [.d a,.d b,.d c,.own 901 n1,.own 902 n2,.d e]),(1003,bxFt (.d g) (.d k)),(901,.froz s1 xs),(902,.froz s2 ys)]:=by
 refine ADefer.intro (v:=.nilIface) (n:=18) (d1:=5) (d2:=2) Tryz.func121 rfl rfl (by simp[ptrs]) (fun ρ w=>rfl) (fun ρ w=>rfl) rfl rfl .nil rfl rfl ?_;simp only[ptrs,Hm,HH,Zal];refine VA ?_;refine ZnS (u:=.nilIface) (b:=true) rfl Zag rfl rfl Tryz.underlying20 ?_;refine VA ?_;exact fin
theorem ZCL {r:Nat}:ADefer Tryz.prog 121 (ptrs [1002,1003]) [(1002,bxSt zSt),(1003,bxFt (I 0) (I 0))] (.panicking [{ v:=Zql r,recovered:=false }]) (.panicking [{ v:=Zql r,recovered:=true }]) [(1002,bxSt zSt),(1003,bxFt (I 6) (I (r:Int)))]:=by
 refine ADefer.intro (v:=Zql r) (n:=18) (d1:=5) (d2:=2) Tryz.func121 rfl rfl (by simp[ptrs]) (fun ρ w=>rfl) (fun ρ w=>rfl) rfl rfl (.pan _) rfl rfl ?_;simp only[ptrs,Hm,HH,Zal];refine VA ?_;refine ZnS (u:=Zql r) (b:=false) rfl Zag rfl rfl Tryz.underlying20 ?_;refine VA ?_;refine Zs9 (us:=[.int .i64 6,.int .i64 (r:Int)]) rfl Zag rfl Tryz.underlying161 rfl rfl rfl ?_;refine VA ?_;exact fin
theorem ZD4 {g:Ac} (hr:g.Aa.length≤160):∀ (x:Tree) (v:Int),fits g x v=true→NbF 1000000000 (asF x):=by
 refine Tree.ind fun x ih v hf=>?_
 obtain⟨i,hi,e1,e2,e3,e4,e5⟩:=ZaR hf;have key:∀ (l:List Tree) (vs:List Int),(∀ y∈l,∀ v,fits g y v=true→NbF 1000000000 (asF y))→l.length=vs.length→fitss g l vs=true→NbL 1000000000 (asFs l):=by
  intro l
  induction l with
  | nil=>intro vs _ _ _;exact trivial
  | cons y l ihl =>
   intro vs h1 h2 h3;cases vs with
   | nil=>simp at h2
   | cons v vs =>
    rw[fitss,Hr] at h3;exact⟨h1 y (by simp) v h3.1,ihl vs (fun z hz=>h1 z (by simp[hz])) (by simpa using h2) h3.2⟩
 rw[Tree.eta x,asF];exact⟨⟨by omega,by omega⟩,key x.Ab _ ih e3.symm e4⟩
theorem ZEQ {g:Ac} (hg:g.ok) (hc:cycL g=[]) {nl:List (List Tree)} (h:nlF g=some nl):NlOk nl∧nl.length=g.vars.toNat:=by
 obtain⟨h1,h2⟩:=ZgI h;have hv:=hg.vars;have key:∀ l∈nl,∃ v,v < g.vars.toNat∧ListOk (stG g v) [] l:=fun l hl=>by
  obtain⟨v,hv,rfl⟩:=List.mem_iff_getElem.1 hl;obtain⟨q1,q2⟩:=h2 v (by omega);have:=Zby q1;rw[←q2,Hf,Hj hv] at this;exact⟨v,by omega,this⟩
 refine⟨⟨by omega,fun l hl=>?_,fun l hl x hx=>?_⟩,h1⟩
 ·obtain⟨v,_,q⟩:=key l hl;have:=q.len;have:=q.few;omega
 ·obtain⟨v,_,q⟩:=key l hl;obtain⟨q1,q2⟩:=q.mem hx;exact⟨q2,ZD4 (g:=stG g v) hg.Aa x _ q1.1⟩
set_option maxHeartbeats 16000000 in
theorem Zqd {t:Bool} {g:Ac} (hf:g.fit):Af Tryz.prog 68 [.d (Zbo t g)] [] (.tup [.d (ZdB false (Zet g).1),.d (Zbu (Zet g).2)]) []:=by
 have hck:=ZaU (t:=t) (g:=g) hf.Aa hf.right;have hcy:=ZeW (t:=t) hf;refine Af.introD (n:=103) Tryz.func68 rfl rfl (by simp) (by rfl) rfl ?_;rintro⟨n,w0,S,E0,h0,o,df⟩ hn hd;dsimp only at hn hd;subst hn;subst hd;simp only[Zal];by_cases hc:(Zac g).code=0
 rotate_left
 ·rw[show Zet g=(Ag,Zac g) by unfold Zet;rw[Ha hc]];dsimp only;generalize Zac g=F at *;refine Zbj rfl rfl ?_;refine VA ?_;refine Zbj rfl rfl ?_;refine VA ?_;refine Zab [] (hA:=hck) (hr:=?_);refine VA ?_;exact fin2
 have hg:=Zbe hc;rw[Ze4 hc] at hck hcy;by_cases hcn:cycL g=[]
 rotate_left
 ·rw[show Zet g=(Ag,⟨10, -1⟩) by unfold Zet;rw[Hb hc,Ha hcn]];have hcl:(0:Int) < ((cycL g).length:Nat):=by cases hh:cycL g with
   | nil=>exact absurd hh hcn
   | cons a l=>simp
  dsimp only;generalize cycL g=cl at *;refine Zbj rfl rfl ?_;refine VA ?_;refine Zbj rfl rfl ?_;refine VA ?_;refine Zab [] (hA:=hck) (hr:=?_);refine VA ?_;refine Zbj rfl rfl ?_;refine VA ?_;refine Zab [] (hA:=hcy) (hr:=?_);refine VA ?_;refine Zbj rfl rfl ?_;refine VA ?_;exact fin2
 rw[hcn] at hcy;obtain⟨nv,hV⟩:∃ nv:Nat,g.vars=(nv:Int):=⟨g.vars.toNat,by have:=hg.vars1;omega⟩
 have hVt:g.vars.toNat=nv:=by omega
 have hV64:=hg.vars;have hlist:=fun (v:Nat)=>(ZpV (t:=t) (u:=false) (g:=stG g v) (w:=[]) ⟨hf.Aa,hf.right⟩ (by simp)).le (args:=[.d (Zbo t (stG g v)),nilV]) ⟨.refl _,VLe.nil _ _,trivial⟩
 cases hnl:nlF g with
 | none =>
  rw[show Zet g=(Ag,⟨6, -1⟩) by unfold Zet;rw[Hb hc,Hb hcn,hnl]];unfold nlF at hnl;rw[hVt] at hnl;dsimp only;refine Zbj rfl rfl ?_;refine VA ?_;refine Zbj rfl rfl ?_;refine VA ?_;refine Zab [] (hA:=hck) (hr:=?_);refine VA ?_;refine Zbj rfl rfl ?_;refine VA ?_;refine Zab [] (hA:=hcy) (hr:=?_);refine VA ?_;refine Zbj rfl rfl ?_;refine VA ?_;refine Zbj rfl rfl ?_;refine VA ?_;refine Zbj rfl rfl ?_;refine VA ?_;refine Zbj rfl rfl ?_;refine VA ?_;refine Zak (X:=Nat×List (List Tree)) (fun y=>y.1≤nv∧y.2.length=y.1∧nlA g (nv - y.1) y.1 y.2=none) (fun y=>[(49,I y.1),(48,.d (iD g.vars)),(7,.ptr 35 0),(1,.ptr 1 0),(2,.ptr 2 0),(3,.ptr 3 0)])
   (fun y=>[(1,ZaD t g),(2,bxSt zSt),(3,bxFt (I 0) (I 0)),(35,.box 160 [.d (iD g.vars),.d (iD g.terms),.d (iD g.start),.d (ZaS t g.Aa),.own 33 nv,.d (iD g.vars),.d (iD g.terms),.d (iD g.start),nilV,nilV,nilV]),(33,.row 37 1 (y.2.map (Zao false)++List.replicate (nv - y.1) (D.raw (.slice none 0 0))))]) (fun y=>nv - y.1) (0,[]) ⟨Hi _,rfl,by rw[Ji];exact hnl⟩ ?_
  rintro⟨v,acc⟩ ⟨j1,j2,j3⟩;dsimp only at j1 j2 j3 ⊢;by_cases hvl:v < nv
  ·have hvi:(v:Int) < g.vars:=by omega
   have hl:=hlist v;have hbad:=fun h=>Zyy hg hcn (v:=v) (by omega) h
   rw[show nv - v=(nv - (v+1))+1 by omega,nlA] at j3;have hrl:(acc.map (Zao false)++List.replicate (nv - v) (D.raw (.slice none 0 0))).length=nv:=by simp;omega
   generalize ZaL (stG g v) []=R at *;obtain⟨l,⟨lc,la⟩⟩:=R;dsimp only at *;have eset:(acc.map (Zao false)++List.replicate (nv - v) (D.raw (.slice none 0 0))).set v (Zao false l)=(acc++[l]).map (Zao false)++List.replicate (nv - (v+1)) (D.raw (.slice none 0 0)):=by
    rw[show nv - v=(nv - (v+1))+1 by omega,G6,Jr _ _ (by simp;omega),Hh,show v - acc.length=0 by omega];simp
   by_cases hz:lc=0
   ·rw[Hb hz] at j3;clear hbad;refine VA ?_;refine Zab [] (hA:=hl) (hr:=?_);refine VA ?_;rw[eset];exact Zad (v+1,acc++[l]) (a:=⟨hvl,by simp[j2],j3⟩) (b:=by dsimp only;omega)
   ·rw[Ha hz] at j3;have hb:=hbad hz;injection hb with hb1 hb2
    injection hb2 with hb3 hb4
    subst hb1 hb3 hb4;clear hbad;refine VA ?_;refine Zab [] (hA:=hl) (hr:=?_);refine VA ?_;exact fin2
  ·obtain rfl:v=nv:=by omega
   rw[Gg,nlA] at j3;cases j3
 | some nl =>
  obtain⟨hok,hnv⟩:=ZEQ hg hcn hnl;have hru:=fun (r:Nat) (hr:r < g.Aa.length) (S:TS) (hS:S.Good)=>(Zve (t:=t) hg hok hnv hr (g.Aa[r].right.length+1) 0 0 [] [] S (by omega) (Hi _) (by have:=hg.right _ (He hr);simp only[HC];omega) (Hg _) (by have:=hg.right _ (He hr);simp only[Aj];omega) trivial hS).le (args:=[.ptr 1000 0,I (r:Nat),I 0,I 0,nilV,nilV]) ⟨.refl _,.refl _,.refl _,.refl _,VLe.nil _ _,VLe.nil _ _,trivial⟩
  simp only[Gk] at hru;have hgd:=fun (r:Nat) (hr:r < g.Aa.length) (S S':TS) (h:thR nl g.Aa[r].left r g.Aa[r].right 0 [] [] S=.ok S') (q:S.Good)=>Zom _ _ _ _ _ _ _ h q
  have hrules:=hg.Aa;have hst:=hg.start;have hst0:=hg.start0;cases hA:thA nl 0 g.Aa ⟨[],[]⟩ with
  | error q =>
   rw[show Zet g=(Ag,⟨6,(q:Int)⟩) by unfold Zet;rw[Hb hc,Hb hcn,hnl];dsimp only;rw[hA]];unfold nlF at hnl;rw[hVt] at hnl hnv;dsimp only;refine Zbj rfl rfl ?_;refine VA ?_;refine Zbj rfl rfl ?_;refine VA ?_;refine Zab [] (hA:=hck) (hr:=?_);refine VA ?_;refine Zbj rfl rfl ?_;refine VA ?_;refine Zab [] (hA:=hcy) (hr:=?_);refine VA ?_;refine Zbj rfl rfl ?_;refine VA ?_;refine Zbj rfl rfl ?_;refine VA ?_;refine Zbj rfl rfl ?_;refine VA ?_;refine Zbj rfl rfl ?_;refine VA ?_;refine Zak (X:=Nat×List (List Tree)) (fun y=>y.1≤nv∧y.2.length=y.1∧nlA g (nv - y.1) y.1 y.2=some nl) (fun y=>[(49,I y.1),(48,.d (iD g.vars)),(7,.ptr 35 0),(1,.ptr 1 0),(2,.ptr 2 0),(3,.ptr 3 0)])
    (fun y=>[(1,ZaD t g),(2,bxSt zSt),(3,bxFt (I 0) (I 0)),(35,.box 160 [.d (iD g.vars),.d (iD g.terms),.d (iD g.start),.d (ZaS t g.Aa),.own 33 nv,.d (iD g.vars),.d (iD g.terms),.d (iD g.start),nilV,nilV,nilV]),(33,.row 37 1 (y.2.map (Zao false)++List.replicate (nv - y.1) (D.raw (.slice none 0 0))))]) (fun y=>nv - y.1) (0,[]) ⟨Hi _,rfl,by rw[Ji];exact hnl⟩ ?_
   rintro⟨v,acc⟩ ⟨j1,j2,j3⟩;dsimp only at j1 j2 j3 ⊢;by_cases hvl:v < nv
   ·have hvi:(v:Int) < g.vars:=(by omega);have hl:=hlist v;have hbad:=(fun h=>Zyy hg hcn (v:=v) (by omega) h);rw[show nv - v=(nv - (v+1))+1 by omega,nlA] at j3;have hrl:(acc.map (Zao false)++List.replicate (nv - v) (D.raw (.slice none 0 0))).length=nv:=(by simp;omega);generalize ZaL (stG g v) []=R at *;obtain⟨l,⟨lc,la⟩⟩:=R;dsimp only at *;have eset:(acc.map (Zao false)++List.replicate (nv - v) (D.raw (.slice none 0 0))).set v (Zao false l)=(acc++[l]).map (Zao false)++List.replicate (nv - (v+1)) (D.raw (.slice none 0 0)):=by
     rw[show nv - v=(nv - (v+1))+1 by omega,G6,Jr _ _ (by simp;omega),Hh,show v - acc.length=0 by omega];simp
    by_cases hz:lc=0
    ·rw[Hb hz] at j3;clear hbad;refine VA ?_;refine Zab [] (hA:=hl) (hr:=?_);refine VA ?_;rw[eset];exact Zad (v+1,acc++[l]) (a:=⟨hvl,by simp[j2],j3⟩) (b:=by dsimp only;omega)
    ·rw[Ha hz] at j3;cases j3
   obtain rfl:v=nv:=by omega
   rw[Gg,nlA] at j3;obtain rfl:acc=nl:=by injection j3
   clear hlist hnl;rw[Gg,List.replicate_zero,Hu];have hvi:¬ (v:Int) < g.vars:=by omega
   have hal:(acc.map (Zao false)).length=v:=by rw[Hh];exact j2
   refine Zaz 33 rfl ?_;refine ZnR 35 4 (.d (.sl false 1 (acc.map (Zao false)))) rfl rfl (Co.froz rfl hal.symm) rfl ?_;refine VA ?_;refine ZpO (d1:=75) (fd:=121) (xs:=[.tmp 2,.tmp 3]) [(1002,2),(1003,3),(1004,1),(1005,35)] [(1002,bxSt zSt),(1003,bxFt (I 0) (I 0)),(1004,ZaD t g),(1005,.box 160 [.d (iD g.vars),.d (iD g.terms),.d (iD g.start),.d (ZaS t g.Aa),.d (.sl false 1 (acc.map (Zao false))),.d (iD g.vars),.d (iD g.terms),.d (iD g.start),nilV,nilV,nilV])] [(2,.ptr 1002 0),(3,.ptr 1003 0),(1,.ptr 1004 0),(7,.ptr 1005 0)] [1002,1003] (.panicking [{ v:=Zql q,recovered:=false }]) (.panicking [{ v:=Zql q,recovered:=true }]) [(2,1002),(3,1003)] [(1002,bxSt zSt),(1003,bxFt (I 0) (I 0))] [(1002,bxSt zSt),(1003,bxFt (I 6) (I (q:Int)))]
    rfl rfl rfl ⟨rfl,rfl,trivial⟩ rfl rfl rfl (fun ρ cs w h=>by simp[execOp,resolve,Deferred.ofValue,h]) ⟨_,Tryz.func121,rfl,rfl⟩ ⟨rfl,rfl,rfl,rfl,trivial⟩ rfl rfl rfl ⟨⟨rfl,rfl⟩,⟨rfl,rfl⟩,⟨rfl,rfl⟩,⟨rfl,rfl⟩,trivial⟩ rfl rfl rfl rfl rfl rfl rfl (by intro h;cases h) ZCL
    (vs:=[.agg zSt,.agg [I 6,I (q:Int)]]) ⟨.aggT TY rfl rfl rfl rfl rfl,.aggT TY rfl rfl rfl rfl rfl,trivial⟩ (Co.tup ⟨Co.agg ⟨Co.refl _,Co.refl _,Co.refl _,Co.nil false 2,Co.nil false 1,Co.nil false 2,trivial⟩,Co.agg (Cos.refl _),trivial⟩) rfl ?_
   refine VA ?_;refine ZaC 1005 8 901 68 2 rfl rfl rfl rfl ?_;refine ZaC 1005 9 902 75 1 rfl rfl rfl rfl ?_;clear hcy hck;refine Zak (X:=Nat×TS) (fun y=>y.1≤g.Aa.length∧y.2.Good∧thA acc y.1 (g.Aa.drop y.1) y.2=.error q) (fun y=>[(79,I y.1),(78,I g.Aa.length),(7,.ptr 1005 0),(1,.ptr 1004 0),(2,.ptr 1002 0),(3,.ptr 1003 0)])
    (fun y=>[(1002,bxSt zSt),(1003,bxFt (I 0) (I 0)),(1004,ZaD t g),(1005,.box 160 [.d (iD g.vars),.d (iD g.terms),.d (iD g.start),.d (ZaS t g.Aa),.d (.sl false 1 (acc.map (Zao false))),.d (iD g.vars),.d (iD g.terms),.d (iD g.start),.own 901 (y.2.Aa.map (Za2 false)).length,.own 902 (y.2.frags.map (Zah false)).length,nilV]),(901,.row 68 2 (y.2.Aa.map (Za2 false))),(902,.row 75 1 (y.2.frags.map (Zah false)))]) (fun y=>g.Aa.length - y.1) (0,⟨[],[]⟩) ⟨Hi _,⟨Hi _,rfl⟩,hA⟩ ?_
   rintro⟨i,S1⟩ ⟨k1,k2,k3⟩;dsimp only at k1 k2 k3 ⊢;by_cases hil:i < g.Aa.length
   rotate_left
   ·rw[show g.Aa.drop i=[] from HL (by omega),thA] at k3;cases k3
   rw[Hw hil,thA] at k3;have hx:=hru i hil S1 k2;have hgx:=hgd i hil S1;clear hru hgd;cases hc2:thR acc g.Aa[i].left i g.Aa[i].right 0 [] [] S1 with
   | error e2 =>
    rw[hc2] at k3 hx;obtain rfl:i=q:=(by injection k3);replace hx:APan _ _ _ _ _ _:=hx;simp only[thH,thHr,thBx] at hx;refine VA ?_;refine Zea [(1000,1005),(1001,901),(1002,902)] [(2,.ptr 1002 0),(3,.ptr 1003 0)] [(1002,some (bxSt zSt)),(1003,some (bxFt (I 0) (I 0)))] (hpn:=?_) (hA:=hx);exact (fun fr' h' h1 h2=>⟨rfl,⟨VLe.of (h1 _ HS),VLe.of (h1 _ (HK _ HS)),trivial⟩,⟨Ap.of (h2 _ HS),Ap.of (h2 _ (HK _ HS)),trivial⟩⟩)
   | ok S4 =>
    rw[hc2] at k3 hx;replace hx:Af _ _ _ _ _ _:=hx;have hS4:=hgx S4 hc2 k2;simp only[thH,thHr,thBx] at hx;refine VA ?_;refine Zab [(1000,1005),(1001,901),(1002,902)] (hA:=hx) (hr:=?_);refine VA ?_;exact Zad (i+1,S4) (a:=⟨hil,hS4,k3⟩) (b:=by dsimp only;omega)
  | ok W =>
   rw[show Zet g=(⟨⟨g.vars,g.terms,g.start,W.Aa⟩,W.frags,nl.getD (stN g) []⟩,⟨0,0⟩) by unfold Zet;rw[Hb hc,Hb hcn,hnl];dsimp only;rw[hA]];unfold nlF at hnl;rw[hVt] at hnl hnv;dsimp only;refine Zbj rfl rfl ?_;refine VA ?_;refine Zbj rfl rfl ?_;refine VA ?_;refine Zab [] (hA:=hck) (hr:=?_);refine VA ?_;refine Zbj rfl rfl ?_;refine VA ?_;refine Zab [] (hA:=hcy) (hr:=?_);refine VA ?_;refine Zbj rfl rfl ?_;refine VA ?_;refine Zbj rfl rfl ?_;refine VA ?_;refine Zbj rfl rfl ?_;refine VA ?_;refine Zbj rfl rfl ?_;refine VA ?_;refine Zak (X:=Nat×List (List Tree)) (fun y=>y.1≤nv∧y.2.length=y.1∧nlA g (nv - y.1) y.1 y.2=some nl) (fun y=>[(49,I y.1),(48,.d (iD g.vars)),(7,.ptr 35 0),(1,.ptr 1 0),(2,.ptr 2 0),(3,.ptr 3 0)])
    (fun y=>[(1,ZaD t g),(2,bxSt zSt),(3,bxFt (I 0) (I 0)),(35,.box 160 [.d (iD g.vars),.d (iD g.terms),.d (iD g.start),.d (ZaS t g.Aa),.own 33 nv,.d (iD g.vars),.d (iD g.terms),.d (iD g.start),nilV,nilV,nilV]),(33,.row 37 1 (y.2.map (Zao false)++List.replicate (nv - y.1) (D.raw (.slice none 0 0))))]) (fun y=>nv - y.1) (0,[]) ⟨Hi _,rfl,by rw[Ji];exact hnl⟩ ?_
   rintro⟨v,acc⟩ ⟨j1,j2,j3⟩;dsimp only at j1 j2 j3 ⊢;by_cases hvl:v < nv
   ·have hvi:(v:Int) < g.vars:=(by omega);have hl:=hlist v;have hbad:=(fun h=>Zyy hg hcn (v:=v) (by omega) h);rw[show nv - v=(nv - (v+1))+1 by omega,nlA] at j3;have hrl:(acc.map (Zao false)++List.replicate (nv - v) (D.raw (.slice none 0 0))).length=nv:=(by simp;omega);generalize ZaL (stG g v) []=R at *;obtain⟨l,⟨lc,la⟩⟩:=R;dsimp only at *;have eset:(acc.map (Zao false)++List.replicate (nv - v) (D.raw (.slice none 0 0))).set v (Zao false l)=(acc++[l]).map (Zao false)++List.replicate (nv - (v+1)) (D.raw (.slice none 0 0)):=by
     rw[show nv - v=(nv - (v+1))+1 by omega,G6,Jr _ _ (by simp;omega),Hh,show v - acc.length=0 by omega];simp
    by_cases hz:lc=0
    ·rw[Hb hz] at j3;clear hbad;refine VA ?_;refine Zab [] (hA:=hl) (hr:=?_);refine VA ?_;rw[eset];exact Zad (v+1,acc++[l]) (a:=⟨hvl,by simp[j2],j3⟩) (b:=by dsimp only;omega)
    ·rw[Ha hz] at j3;cases j3
   obtain rfl:v=nv:=by omega
   rw[Gg,nlA] at j3;obtain rfl:acc=nl:=by injection j3
   clear hlist hnl;rw[Gg,List.replicate_zero,Hu];have hvi:¬ (v:Int) < g.vars:=by omega
   have hal:(acc.map (Zao false)).length=v:=by rw[Hh];exact j2
   refine Zaz 33 rfl ?_;refine ZnR 35 4 (.d (.sl false 1 (acc.map (Zao false)))) rfl rfl (Co.froz rfl hal.symm) rfl ?_;refine VA ?_;refine ZpO (d1:=75) (fd:=121) (xs:=[.tmp 2,.tmp 3]) [(1002,2),(1003,3),(1004,1),(1005,35)] [(1002,bxSt zSt),(1003,bxFt (I 0) (I 0)),(1004,ZaD t g),(1005,.box 160 [.d (iD g.vars),.d (iD g.terms),.d (iD g.start),.d (ZaS t g.Aa),.d (.sl false 1 (acc.map (Zao false))),.d (iD g.vars),.d (iD g.terms),.d (iD g.start),nilV,nilV,nilV])] [(2,.ptr 1002 0),(3,.ptr 1003 0),(1,.ptr 1004 0),(7,.ptr 1005 0)] [1002,1003] .returning .returning [(2,1002),(3,1003)] [(1002,bxSt [.d (iD g.vars),.d (iD g.terms),.d (iD g.start),.own 901 W.Aa.length,.own 902 W.frags.length,.d (Zao false (acc.getD (stN g) []))]),(1003,bxFt (.d (iD 0)) (.d (iD 0))),(901,.froz 2 (W.Aa.map (Za2 false))),(902,.froz 1 (W.frags.map (Zah false)))] [(1002,bxSt [.d (iD g.vars),.d (iD g.terms),.d (iD g.start),.own 901 W.Aa.length,.own 902 W.frags.length,.d (Zao false (acc.getD (stN g) []))]),(1003,bxFt (.d (iD 0)) (.d (iD 0))),(901,.froz 2 (W.Aa.map (Za2 false))),(902,.froz 1 (W.frags.map (Zah false)))]
    rfl rfl rfl ⟨rfl,rfl,trivial⟩ rfl rfl rfl (fun ρ cs w h=>by simp[execOp,resolve,Deferred.ofValue,h]) ⟨_,Tryz.func121,rfl,rfl⟩ ⟨rfl,rfl,rfl,rfl,trivial⟩ rfl rfl rfl ⟨⟨rfl,rfl⟩,⟨rfl,rfl⟩,⟨rfl,rfl⟩,⟨rfl,rfl⟩,trivial⟩ rfl rfl rfl rfl rfl rfl rfl (by intro h;cases h) ZCK
    (vs:=[.agg [.d (iD g.vars),.d (iD g.terms),.d (iD g.start),.own 901 W.Aa.length,.own 902 W.frags.length,.d (Zao false (acc.getD (stN g) []))],.agg [.d (iD 0),.d (iD 0)]]) ⟨.aggT TY rfl rfl rfl rfl rfl,.aggT TY rfl rfl rfl rfl rfl,trivial⟩ (Co.tup ⟨Co.agg ⟨Co.refl _,Co.refl _,Co.refl _,Co.froz rfl (by simp),Co.froz rfl (by simp),Co.refl _,trivial⟩,Co.agg (Cos.refl _),trivial⟩) rfl ?_
   refine VA ?_;refine ZaC 1005 8 901 68 2 rfl rfl rfl rfl ?_;refine ZaC 1005 9 902 75 1 rfl rfl rfl rfl ?_;clear hcy hck;refine Zak (X:=Nat×TS) (fun y=>y.1≤g.Aa.length∧y.2.Good∧thA acc y.1 (g.Aa.drop y.1) y.2=.ok W) (fun y=>[(79,I y.1),(78,I g.Aa.length),(7,.ptr 1005 0),(1,.ptr 1004 0),(2,.ptr 1002 0),(3,.ptr 1003 0)])
    (fun y=>[(1002,bxSt zSt),(1003,bxFt (I 0) (I 0)),(1004,ZaD t g),(1005,.box 160 [.d (iD g.vars),.d (iD g.terms),.d (iD g.start),.d (ZaS t g.Aa),.d (.sl false 1 (acc.map (Zao false))),.d (iD g.vars),.d (iD g.terms),.d (iD g.start),.own 901 (y.2.Aa.map (Za2 false)).length,.own 902 (y.2.frags.map (Zah false)).length,nilV]),(901,.row 68 2 (y.2.Aa.map (Za2 false))),(902,.row 75 1 (y.2.frags.map (Zah false)))]) (fun y=>g.Aa.length - y.1) (0,⟨[],[]⟩) ⟨Hi _,⟨Hi _,rfl⟩,hA⟩ ?_
   rintro⟨i,S1⟩ ⟨k1,k2,k3⟩;dsimp only at k1 k2 k3 ⊢;by_cases hil:i < g.Aa.length
   rotate_left
   ·rw[show g.Aa.drop i=[] from HL (by omega),thA] at k3;obtain rfl:S1=W:=(by injection k3);obtain⟨sn,hsn⟩:∃ sn:Nat,g.start=(sn:Int):=⟨g.start.toNat,by omega⟩
    have hsl:sn < acc.length:=(by omega);have esn:acc.getD (stN g) []=acc[sn]:=(by unfold stN;rw[hsn,Hn,Hf,Hj hsl];rfl);rw[esn];clear esn hru hgd;refine Zaz 901 rfl ?_;refine Zaz 902 rfl ?_;refine VA ?_;rw[hsn];refine VA ?_;simp only[Hh];exact Or.inr ⟨rfl,⟨VLe.refl _,VLe.refl _,trivial⟩,⟨Ap.of rfl,Ap.of rfl,Ap.of rfl,Ap.of rfl,trivial⟩⟩
   rw[Hw hil,thA] at k3;have hx:=hru i hil S1 k2;have hgx:=hgd i hil S1;clear hru hgd;cases hc2:thR acc g.Aa[i].left i g.Aa[i].right 0 [] [] S1 with
   | error e2 =>
    rw[hc2] at k3 hx;cases k3
   | ok S4 =>
    rw[hc2] at k3 hx;replace hx:Af _ _ _ _ _ _:=hx;have hS4:=hgx S4 hc2 k2;simp only[thH,thHr,thBx] at hx;refine VA ?_;refine Zab [(1000,1005),(1001,901),(1002,902)] (hA:=hx) (hr:=?_);refine VA ?_;exact Zad (i+1,S4) (a:=⟨hil,hS4,k3⟩) (b:=by dsimp only;omega)
section
variable {t u:Bool} {g:Ac} {w:List Int}
end
section
variable {t u:Bool} {g:Ac} {w:List Int}
end
section
variable {t u:Bool} {g:Ac} {w:List Int}
end
section
variable {t u:Bool} {g:Ac} {w:List Int}
end
theorem ZrW {α:Type} {P:TS→Prop} {f:α→TS→Except TS TS}:∀ {ts:List α} {S S':TS},(∀ x∈ts,∀ S S',f x S=.ok S'→P S→P S')→thL f ts S=.ok S'→P S→P S'
 | [],S,S',_,h,g=>by cases h;exact g
 | t::ts,S,S',hf,h,g=>by
  rw[thL] at h;cases hc:f t S with
  | error e=>rw[hc] at h;cases h
  | ok S1=>rw[hc] at h;exact ZrW (fun x hx=>hf x (by simp[hx])) h (hf t (by simp) S S1 hc g)
theorem ZCM {g:Ac} {u:List Int}:∀ (x:Tree) (v:Int),fits g x v=true→usF g.Aa.length (asF x) u=(true,u):=by
 refine Tree.ind fun x ih v hf=>?_
 obtain⟨i,hi,e1,e2,e3,e4,e5⟩:=ZaR hf;have key:∀ (l:List Tree) (vs:List Int),(∀ y∈l,∀ v,fits g y v=true→usF g.Aa.length (asF y) u=(true,u))→l.length=vs.length→fitss g l vs=true→usL g.Aa.length (asFs l) u=(true,u):=by
  intro l
  induction l with
  | nil=>intro vs _ _ _;rw[asFs,usL]
  | cons y l ihl =>
   intro vs h1 h2 h3;cases vs with
   | nil=>simp at h2
   | cons v vs =>
    rw[fitss,Hr] at h3;rw[asFs,usL,h1 y (by simp) v h3.1];simp only[Gb];exact ihl vs (fun z hz=>h1 z (by simp[hz])) (by simpa using h2) h3.2
 rw[Tree.eta x,asF,usF,Hb rfl,e1,Ha (by omega)];exact key x.Ab _ ih e3.symm e4
theorem Zof (nl:List (List Tree)):∀ (ss:List Int) (p:List Nat) (h:Nat),(∀ s∈(thM nl ss p h).1,s∈ss)∧(thM nl ss p h).1.length≤ss.length
 | [],p,h=>by simp[thM]
 | s::ss,p,h=>by
  by_cases hs:s < 0
  ·simp only[thM,hs,if_true];obtain⟨h1,h2⟩:=Zof nl ss p h;exact⟨fun x hx=>by rcases List.mem_cons.1 hx with rfl|hx;exact HS;exact HK _ (h1 x hx),by simp;omega⟩
  ·cases p with
   | nil=>simp[thM,hs]
   | cons a p =>
    cases a with
    | zero =>
     simp only[thM,hs,if_false];obtain⟨h1,h2⟩:=Zof nl ss p (h+1);exact⟨fun x hx=>by rcases List.mem_cons.1 hx with rfl|hx;exact HS;exact HK _ (h1 x hx),by simp;omega⟩
    | succ a =>
     simp only[thM,hs,if_false];obtain⟨h1,h2⟩:=Zof nl ss p h;exact⟨fun x hx=>HK _ (h1 x hx),by simp;omega⟩
theorem Zog {g:Ac} {nl:List (List Tree)} (hn:∀ v,∀ x∈nl.getD v [],fits g x (v:Int)=true):∀ (ss:List Int) (p:List Nat) (h:Nat),p.length=(Ab ss).length→(∀ k,∀ q:k < (Za5 nl ss).length,p.getD k 0 < (Za5 nl ss)[k]) →
  usL g.Aa.length (thM nl ss p h).2 (List.replicate h 1++List.replicate (Ab (thM nl ss p h).1).length 0)=(true,List.replicate (h+(Ab (thM nl ss p h).1).length) 1)
 | [],p,h,_,_=>by simp[thM,usL,Ab]
 | s::ss,p,h,hl,hp=>by
  by_cases hs:s < 0
  ·simp only[thM,hs,if_true];have e:Za5 nl (s::ss)=Za5 nl ss:=by unfold Za5;rw[ZcX hs]
   rw[ZcX hs];rw[ZcX hs] at hl;exact Zog hn ss p h hl (fun k q=>by have:=hp k (by rw[e];exact q);simpa only [e] using this)
  ·have e:Za5 nl (s::ss)=((nl.getD s.toNat []).length+1)::Za5 nl ss:=by unfold Za5;rw[ZbG hs];rfl
   rw[ZbG hs] at hl;cases p with
   | nil=>simp at hl
   | cons a p =>
    have hp':∀ k,∀ q:k < (Za5 nl ss).length,p.getD k 0 < (Za5 nl ss)[k]:=fun k q=>by
     have:=hp (k+1) (by rw[e];simpa using q);simpa only [e,Jm,GQ] using this
    have h0:=hp 0 (by rw[e];simp);simp only[e,GF,JD] at h0;cases a with
    | zero =>
     simp only[thM,hs,if_false];have ih:=Zog hn ss p (h+1) (by simpa using hl) hp';rw[ZbG hs,Hl];generalize (Ab (thM nl ss p (h+1)).1).length=n at *;rw[usL];have e2:usF g.Aa.length (Zqj (h:Int)) (List.replicate h 1++List.replicate (n+1) 0)=(true,List.replicate (h+1) 1++List.replicate n 0):=by
      rw[usF,Ha (by decide),Hb rfl,Ha (by simp;omega)];congr 1;rw[bump];simp only[Hn];rw[G6,Hf,Gn (by simp),Jr _ _ (by simp)];simp[Jv]
     rw[e2];simp only[Gb];rw[ih];congr 2;omega
    | succ a =>
     simp only[thM,hs,if_false];have ih:=Zog hn ss p h (by simpa using hl) hp';have ha:a < (nl.getD s.toNat []).length:=(by omega);have hx:(nl.getD s.toNat []).getD a (.mk 0 [])∈nl.getD s.toNat []:=by
      have:(nl.getD s.toNat []).getD a (.mk 0 [])=(nl.getD s.toNat [])[a]:=(by rw[Hf,Hj ha];rfl);rw[this];exact He ha
     rw[usL,ZCM _ _ (hn _ _ hx)];simp only[Gb];exact ih
structure TS.Fine (g:Ac) (S:TS):Prop where
 Aa:S.Aa.length≤160
 parts:ZfB g S.frags S.Aa
 small:∀ l∈S.frags,Aj l≤60
 each:∀ q∈S.Aa,(0≤q.left∧q.left < g.vars)∧(q.right≠[]∧q.right.length≤10)∧∀ s∈q.right, -g.terms≤s∧s < g.vars
theorem ZAU {g:Ac} (hg:g.ok) {nl:List (List Tree)} (hn:∀ v,∀ x∈nl.getD v [],fits g x (v:Int)=true) {r:Nat} (hr:r < g.Aa.length) {p:List Nat} (hp:p∈tups (Za5 nl g.Aa[r].right)) {S S':TS} (h:S.put g.Aa[r].left r (thM nl g.Aa[r].right p 0).1 (thM nl g.Aa[r].right p 0).2=.ok S') (hS:S.Fine g):S'.Fine g:=by
 obtain⟨h1,h2⟩:=Zok _ _ hp;have hko:(Za5 nl g.Aa[r].right).length=(Ab g.Aa[r].right).length:=by simp[Za5]
 have hu:=Zog hn g.Aa[r].right p 0 (by omega) h2;obtain⟨s1,s2⟩:=Zof nl g.Aa[r].right p 0;have hcp:=ZtE nl g.Aa[r].right p 0;have hm:=He hr;unfold TS.put at h;generalize thM nl g.Aa[r].right p 0=M at *;obtain⟨ML,MF⟩:=M;dsimp only at *;split at h
 ·cases h;exact hS
 split at h
 ·cases h
 rename_i q1 q2;cases h;refine⟨by have:=hS.Aa;simp only[Hk,HZ];omega,hS.parts.snoc ?_,fun l hl=>?_,fun q hq=>?_⟩
 ·show Zax g [.mk 1 r MF] ML=0;have h3:cpL [Ad.mk 1 (r:Int) MF]=1+Aj MF:=by simp[cpL,cpF,hcp]
  rw[Zax,Ha (by omega),Hb];rw[ZhX,usL,usF,Hb rfl,Ha (by omega)];simp only[List.replicate_zero,H6,HD] at hu;rw[hu];simp[usL]
 ·rcases List.mem_append.1 hl with hl|hl
  ·exact hS.small l hl
  ·rw[List.mem_singleton.1 hl];simp only[Aj,fsz];omega
 ·rcases List.mem_append.1 hq with hq|hq
  ·exact hS.each q hq
  ·rw[List.mem_singleton.1 hq];refine⟨⟨hg.left0 g.Aa[r] hm,hg.left g.Aa[r] hm⟩,⟨fun e=>q1 (by show ML.length=0;rw[show ML=[] from e];rfl),by have:=hg.right _ hm;show ML.length≤10;omega⟩,fun s hs=>⟨hg.lo _ hm s (s1 s hs),hg.hi _ hm s (s1 s hs)⟩⟩
theorem Ztw {g:Ac} (hg:g.ok) {nl:List (List Tree)} (hn:∀ v,∀ x∈nl.getD v [],fits g x (v:Int)=true):∀ (rs:List Rule) (i:Nat) (S S':TS),g.Aa.drop i=rs→thA nl i rs S=.ok S'→S.Fine g→S'.Fine g
 | [],i,S,S',_,h,hS=>by rw[thA] at h;cases h;exact hS
 | q::rs,i,S,S',hd,h,hS=>by
  have hi:i < g.Aa.length:=HN fun hn=>by
   rw[HL (by omega)] at hd;cases hd
  rw[Hw hi] at hd;obtain⟨d1,d2⟩:=HX hd;rw[thA] at h;cases hc:thR nl q.left i q.right 0 [] [] S with
  | error e=>rw[hc] at h;cases h
  | ok S1 =>
   rw[hc] at h;refine Ztw hg hn rs (i+1) S1 S' d2 h ?_;rw[ZfD,←d1] at hc;simp only[H6] at hc;exact ZrW (P:=fun S=>S.Fine g) (fun p hp S S' h hS=>ZAU hg hn hi hp h hS) hc hS
def lowB (n:Nat) (P:Int→Bool):List Bool:=(List.range n).map fun (k:Nat)=>P (k:Int)
theorem lowB_has {n:Nat} {P:Int→Bool} {u:Int}:has (lowB n P) u=true↔0≤u∧u < n∧P u=true:=by
 unfold has lowB;by_cases h:0≤u
 ·rw[Ht h,H0,Hf];by_cases h2:u.toNat < n
  ·rw[Gf,JJ h2];simp only[H9,HV];rw[show ((u.toNat:Nat):Int)=u by omega];exact⟨fun q=>⟨h,by omega,q⟩,fun q=>q.2.2⟩
  ·rw[HG (by simpa using h2)];simp only[JK];exact⟨fun q=>(by cases q),fun q=>by omega⟩
 ·rw[HA h,Gy];exact⟨fun q=>(by cases q),fun q=>absurd q.1 h⟩
theorem ZiR {h:Ac} (hh:h.ok) (rk:Int→Nat) (hrk:∀ v u,0≤v→v < h.vars→u∈ZiE h v→rk u < rk v):cycL h=[]:=by
 rw[show cycL h=ZfU (ledM false h) h.vars.toNat by unfold cycL;rw[Hb (by rw[hh.fault])]];refine List.eq_nil_iff_forall_not_mem.2 fun v hv=>?_
 unfold ZfU at hv;obtain⟨k,hk,rfl⟩:=List.mem_map.1 hv;obtain⟨h1,h2⟩:=List.mem_filter.1 hk;have h1:=List.mem_range.1 h1;have hw:=ZhU (c:=false) hh (v:=(k:Int)) (by omega) (by omega);have hlen:=(Zg1 (c:=false) hh).at (u:=(k:Int)) (by omega) (by omega);have hs:=hw.least (lowB h.vars.toNat fun u=>decide (rk u < rk k)) (by simp[lowB,hlen]) (fun u hu=>by
  obtain⟨s1,s2⟩:=ZeK hh (v:=(k:Int)) (by omega) (by omega) hu;exact lowB_has.2 ⟨s1,by omega,Ht (hrk _ _ (by omega) (by omega) hu)⟩) (fun u hu x hx=>by
  obtain⟨t1,t2,t3⟩:=lowB_has.1 hu;obtain⟨s1,s2⟩:=ZeK hh t1 (by omega) hx;have:=H3 t3;have:=hrk u x t1 (by omega) hx;exact lowB_has.2 ⟨s1,by omega,Ht (by omega)⟩)
 have:=lowB_has.1 (hs.sub _ h2);have:=H3 this.2.2;omega
theorem ZmR {g h:Ac} (e:g.Aa=h.Aa):∀ (x:Tree) (v:Int),fits g x v=fits h x v:=by
 refine Tree.ind fun x ih v=>?_
 have key:∀ (l:List Tree) (vs:List Int),(∀ y∈l,∀ v,fits g y v=fits h y v)→fitss g l vs=fitss h l vs:=by
  intro l
  induction l with
  | nil=>intro vs _;rw[fitss.eq_def,fitss.eq_def]
  | cons y l ihl =>
   intro vs h1;cases vs with
   | nil=>rw[fitss.eq_def,fitss.eq_def]
   | cons v vs=>rw[fitss,fitss,h1 y (by simp),ihl vs (fun z hz=>h1 z (by simp[hz]))]
 rw[Zf0,Zf0,e];split
 ·rfl
 ·rw[key _ _ ih]
theorem Zlf {g h:Ac} (e:g.Aa=h.Aa):∀ x:Tree,Zbm g x=Zbm h x:=by
 refine Tree.ind fun x ih=>?_
 have key:∀ (ss:List Int) (l:List Tree),(∀ y∈l,Zbm g y=Zbm h y)→wordL g ss l=wordL h ss l:=by
  intro ss
  induction ss with
  | nil=>intro l _;rw[Zba,Zba]
  | cons s ss ihs =>
   intro l hl;by_cases hs:s < 0
   ·rw[Zbh hs,Zbh hs,ihs l hl]
   ·cases l with
    | nil=>rw[ZdA hs,ZdA hs,ihs [] hl]
    | cons y l=>rw[Za1 hs,Za1 hs,hl y (by simp),ihs l (fun z hz=>hl z (by simp[hz]))]
 rw[Zgo,Zgo,e,key _ _ ih]
theorem Zqe {g:Ac} (hg:g.ok):stG g (stN g)=g:=by
 have:=hg.stN;cases g with
 | mk a b c d=>simp only[stG,this]
section
variable {g:Ac} (hg:g.ok) (hc:cycL g=[]) {nl:List (List Tree)} (hnl:nlF g=some nl)
include hg hc hnl
theorem ZrX:∀ v,∀ x∈nl.getD v [],fits g x (v:Int)=true:=fun v x hx=>by
 obtain⟨h1,h2⟩:=ZgI hnl;by_cases hv:v < g.vars.toNat
 ·obtain⟨q1,q2⟩:=h2 v hv;rw[q2] at hx;have:=((Zby q1).mem hx).1.1;exact (ZmR (g:=g) (h:=stG g v) rfl x v).trans this
 ·rw[Hf,HG (by omega)] at hx;cases hx
theorem ZAV {x:Tree} (hx:x∈nl.getD (stN g) []):ZbZ g x=false:=by
 obtain⟨h1,h2⟩:=ZgI hnl;have hst:=hg.start;have hsn:=hg.stN;obtain⟨q1,q2⟩:=h2 (stN g) (by omega);rw[q2] at hx;obtain⟨⟨w1,w2⟩,w3⟩:=(Zby q1).mem hx;rw[Zqe hg] at w1 w2;have e:ZaA g x g.start=⟨0,0⟩:=by unfold ZaA;rw[hg.fault,Hb rfl,Hb w3,Hb w1]
 unfold ZbZ;rw[e,w2];rfl
theorem Zh0 {S:TS} (h:thA nl 0 g.Aa ⟨[],[]⟩=.ok S):S.Fine g:=Ztw hg (ZrX hg hc hnl) g.Aa 0 _ S rfl h ⟨Hi _,.nil,fun l hl=>by simp at hl,fun q hq=>by simp at hq⟩
end
theorem TS.Fine.ok {g:Ac} (hg:g.ok) {S:TS} (h:S.Fine g):(⟨g.vars,g.terms,g.start,S.Aa⟩:Ac).ok :=
 ⟨hg.vars1,hg.vars,hg.terms0,hg.terms,hg.start0,hg.start,h.Aa,fun r hr=>(h.each r hr).2.1.2,fun r hr=>(h.each r hr).1.1,fun r hr=>(h.each r hr).1.2,fun r hr s hs=>((h.each r hr).2.2 s hs).1,fun r hr s hs=>((h.each r hr).2.2 s hs).2⟩
theorem Zg5 (g:Ac):(¬ (Zet g).2.code=0∧(Zet g).1=Ag)∨∃ nl S,g.ok∧cycL g=[]∧nlF g=some nl∧thA nl 0 g.Aa ⟨[],[]⟩=.ok S∧Zet g=(⟨⟨g.vars,g.terms,g.start,S.Aa⟩,S.frags,nl.getD (stN g) []⟩,⟨0,0⟩):=by
 unfold Zet;by_cases h:(Zac g).code=0
 ·rw[Hb h];by_cases hc:cycL g=[]
  ·rw[Hb hc];cases hn:nlF g with
   | none=>exact .inl ⟨by simp,rfl⟩
   | some nl =>
    dsimp only;cases hA:thA nl 0 g.Aa ⟨[],[]⟩ with
    | error i=>exact .inl ⟨by simp,rfl⟩
    | ok S=>exact .inr ⟨nl,S,Zbe h,hc,rfl,hA,rfl⟩
  ·rw[Ha hc];exact .inl ⟨by simp,rfl⟩
 ·rw[Ha h];exact .inl ⟨h,rfl⟩
theorem Zyo {g:Ac} (h:(Zet g).2.code=0):Zap g (Zet g).1=⟨0,0⟩:=by
 rcases Zg5 g with ⟨h1,_⟩|⟨nl,S,hg,hc,hn,hA,e⟩
 ·exact absurd h h1
 ·rw[e];have hS:=Zh0 hg hc hn hA;have hlen:(nl.getD (stN g) []).length≤200:=by
   obtain⟨h1,h2⟩:=ZgI hn;have hst:=hg.start;have hsn:=hg.stN;obtain⟨q1,q2⟩:=h2 (stN g) (by omega);rw[q2,(Zby q1).len];exact (Zby q1).few
  have hbad:(nl.getD (stN g) []).any (ZbZ g)=false:=by
   rw[JH];intro x hx;rw[ZAV hg hc hn hx];simp
  rw[Zap,Hb (by rw[hg.fault]),Hb (by rw[(hS.ok hg).fault])];dsimp only;rw[Hb hlen,hbad,Ha (by simp),Hb hS.parts.len,Zqa hS.parts]
def TS.From (g:Ac) (nl:List (List Tree)) (S:TS):Prop:=∀ q∈S.Aa,∃ r,∃ hr:r < g.Aa.length,q.left=g.Aa[r].left∧∃ p∈tups (Za5 nl g.Aa[r].right),q.right=(thM nl g.Aa[r].right p 0).1
theorem ZAW {g:Ac} {nl:List (List Tree)} {r:Nat} (hr:r < g.Aa.length) {p:List Nat} (hp:p∈tups (Za5 nl g.Aa[r].right)) {S S':TS} (h:S.put g.Aa[r].left r (thM nl g.Aa[r].right p 0).1 (thM nl g.Aa[r].right p 0).2=.ok S') (hS:S.From g nl):S'.From g nl:=by
 unfold TS.put at h;split at h
 ·cases h;exact hS
 split at h
 ·cases h
 cases h;intro q hq;rcases List.mem_append.1 hq with hq|hq
 ·exact hS q hq
 ·rw[List.mem_singleton.1 hq];exact⟨r,hr,rfl,p,hp,rfl⟩
theorem Ztx {g:Ac} {nl:List (List Tree)}:∀ (rs:List Rule) (i:Nat) (S S':TS),g.Aa.drop i=rs→thA nl i rs S=.ok S'→S.From g nl→S'.From g nl
 | [],i,S,S',_,h,hS=>by rw[thA] at h;cases h;exact hS
 | q::rs,i,S,S',hd,h,hS=>by
  have hi:i < g.Aa.length:=HN fun hn=>by
   rw[HL (by omega)] at hd;cases hd
  rw[Hw hi] at hd;obtain⟨d1,d2⟩:=HX hd;rw[thA] at h;cases hc:thR nl q.left i q.right 0 [] [] S with
  | error e=>rw[hc] at h;cases h
  | ok S1 =>
   rw[hc] at h;refine Ztx rs (i+1) S1 S' d2 h ?_;rw[ZfD,←d1] at hc;simp only[H6] at hc;exact ZrW (P:=fun S=>S.From g nl) (fun p hp S S' h hS=>ZAW hi hp h hS) hc hS
section
variable {nl:List (List Tree)} {B:List Bool} (hB:∀ s:Nat,nl.getD s []≠[]→has B (s:Int)=true)
include hB
theorem Zyp:∀ (ss:List Int) (p:List Nat) (h:Nat),p.length=(Ab ss).length→(∀ k,∀ q:k < (Za5 nl ss).length,p.getD k 0 < (Za5 nl ss)[k])→(thM nl ss p h).1=[]→ZaQ ss B=true
 | [],p,h,_,_,_=>rfl
 | s::ss,p,h,hl,hp,he=>by
  by_cases hs:s < 0
  ·simp only[thM,hs,if_true] at he;cases he
  ·have e:Za5 nl (s::ss)=((nl.getD s.toNat []).length+1)::Za5 nl ss:=by unfold Za5;rw[ZbG hs];rfl
   rw[ZbG hs] at hl;cases p with
   | nil=>simp at hl
   | cons a p =>
    have hp':∀ k,∀ q:k < (Za5 nl ss).length,p.getD k 0 < (Za5 nl ss)[k]:=fun k q=>by
     have:=hp (k+1) (by rw[e];simpa using q);simpa only [e,Jm,GQ] using this
    have h0:=hp 0 (by rw[e];simp);simp only[e,GF,JD] at h0;cases a with
    | zero =>
     simp only[thM,hs,if_false] at he;cases he
    | succ a =>
     simp only[thM,hs,if_false] at he;have ih:=Zyp ss p h (by simpa using hl) hp' he;have h1:=hB s.toNat (fun q=>by rw[q] at h0;simp at h0);rw[show ((s.toNat:Nat):Int)=s by omega] at h1;simp only[ZaQ,GE,h1,H0];exact ih
theorem Zyq {u:Int} (hu:0≤u):∀ (ss:List Int) (p:List Nat) (h:Nat),p.length=(Ab ss).length→(∀ k,∀ q:k < (Za5 nl ss).length,p.getD k 0 < (Za5 nl ss)[k])→(thM nl ss p h).1=[u]→∃ pre post,ss=pre++u::post∧ZaQ pre B=true∧ZaQ post B=true
 | [],p,h,_,_,he=>by simp[thM] at he
 | s::ss,p,h,hl,hp,he=>by
  by_cases hs:s < 0
  ·simp only[thM,hs,if_true] at he;have:=(HX he).1;omega
  ·have e:Za5 nl (s::ss)=((nl.getD s.toNat []).length+1)::Za5 nl ss:=by unfold Za5;rw[ZbG hs];rfl
   rw[ZbG hs] at hl;cases p with
   | nil=>simp at hl
   | cons a p =>
    have hp':∀ k,∀ q:k < (Za5 nl ss).length,p.getD k 0 < (Za5 nl ss)[k]:=fun k q=>by
     have:=hp (k+1) (by rw[e];simpa using q);simpa only [e,Jm,GQ] using this
    have h0:=hp 0 (by rw[e];simp);simp only[e,GF,JD] at h0;cases a with
    | zero =>
     simp only[thM,hs,if_false] at he;obtain⟨h1,h2⟩:=HX he;subst h1;exact⟨[],ss,rfl,rfl,Zyp hB ss p (h+1) (by simpa using hl) hp' h2⟩
    | succ a =>
     simp only[thM,hs,if_false] at he;obtain⟨pre,post,e1,e2,e3⟩:=Zyq hu ss p h (by simpa using hl) hp' he;have h1:=hB s.toNat (fun q=>by rw[q] at h0;simp at h0);rw[show ((s.toNat:Nat):Int)=s by omega] at h1;refine⟨s::pre,post,by rw[e1];rfl,?_,e3⟩;simp only[ZaQ,GE,h1,H0];exact e2
end
theorem ZCN {g:Ac} (hg:g.ok) {nl:List (List Tree)} (hnl:nlF g=some nl):∀ s:Nat,nl.getD s []≠[]→has (nulB g) (s:Int)=true:=fun s hs=>by
 obtain⟨h1,h2⟩:=ZgI hnl;by_cases hv:s < g.vars.toNat
 ·obtain⟨q1,q2⟩:=h2 s hv;have hok:=Zqk hg hv;cases hl:nl.getD s [] with
  | nil=>exact absurd hl hs
  | cons x l =>
   rw[q2] at hl;have hx:=((Zby q1).mem (x:=x) (by rw[hl];simp)).1;have hle:=ZjK hok (l:=[x]) (List.pairwise_singleton _ _) (fun y hy=>by rw[List.mem_singleton.1 hy];exact hx);have hmC:Zae=4611686018427387904:=rfl;simp only[HZ] at hle;have hne:Ak (stG g s) [] Zae s 0 0≠0:=by
    have:cntF (stG g s) []=Ak (stG g s) [] Zae s 0 0:=rfl
    omega
   exact Ze2 hok hne
 ·rw[Hf,HG (by omega)] at hs;exact absurd rfl hs
theorem Zty {h:Ac} (hr:∀ q∈h.Aa,q.right≠[]) (v:Int):has (nulB h) v=false:=by
 cases hv:has (nulB h) v with
 | false=>rfl
 | true =>
  have:=(ZhS (t:=false) (g:=h) (S:=Ze6 h) (Zbk h) (fun q hq hin=>by
   cases hc:q.right with
   | nil=>exact absurd hc (hr q hq)
   | cons x l =>
    simp only[asks,cond_false,hc,ZaQ,GE,ZhR,Gy] at hin;cases hin)).sub v hv
  rw[ZhR] at this;cases this
theorem ZmS {h:Ac} (hr:∀ q∈h.Aa,q.right≠[]) {l:List Int} (hl:ZaQ l (nulB h)=true):l=[]:=by
 cases l with
 | nil=>rfl
 | cons x l=>simp only[ZaQ,GE,Zty hr,Gy] at hl;cases hl
abbrev thG (g:Ac) (S:TS):Ac:=⟨g.vars,g.terms,g.start,S.Aa⟩
theorem ZAX {g:Ac} (hg:g.ok) (hc:cycL g=[]) {nl:List (List Tree)} (hnl:nlF g=some nl) {S:TS} (hA:thA nl 0 g.Aa ⟨[],[]⟩=.ok S):cycL (thG g S)=[]:=by
 have hS:=Zh0 hg hc hnl hA;have hfr:=Ztx g.Aa 0 _ S rfl hA (fun q hq=>by simp at hq);have hne:∀ q∈(thG g S).Aa,q.right≠[]:=fun q hq=>(hS.each q hq).2.1.1
 refine ZiR (hS.ok hg) (rnk g) fun v u hv0 hv1 hu=>?_
 obtain⟨q,hq,e1,e2⟩:=overBy_mem.1 hu;obtain⟨k,hk,e3,e4⟩:=picks_mem.1 e2;unfold ZdN at e3;simp only[Hr,GD,HY] at e3;obtain⟨g0,g1,g2⟩:=e3;have h1:=ZmS hne g1;have h2:=ZmS hne g2;have hone:q.right=[u]:=by
  have hk0:k=0:=by
   have:=Hz List.length h1;rw[Hs] at this;simp only[HC] at this;omega
  subst hk0;cases hr:q.right with
  | nil=>rw[hr] at hk;simp at hk
  | cons x l =>
   rw[hr] at h2 e4;simp only[HD,GV,Gk] at h2;simp only[GF] at e4;rw[h2,e4]
 have hu0:0≤u:=by rw[e4];exact g0
 obtain⟨r,hr,f1,p,hp,f2⟩:=hfr q hq;obtain⟨p1,p2⟩:=Zok _ _ hp;have hko:(Za5 nl g.Aa[r].right).length=(Ab g.Aa[r].right).length:=by simp[Za5]
 obtain⟨pre,post,e5,e6,e7⟩:=Zyq (ZCN hg hnl) hu0 g.Aa[r].right p 0 (by omega) p2 (by rw[←f2,hone]);have hst:u∈ZiE g v:=by
  refine overBy_mem.2 ⟨g.Aa[r],He hr,by rw[←f1,e1],picks_mem.2 ⟨pre.length,by rw[e5];simp,?_,by rw[e5];simp⟩⟩;have q1:g.Aa[r].right.getD pre.length 0=u:=by rw[e5];simp
  have q2:g.Aa[r].right.take pre.length=pre:=by rw[e5];simp
  have q3:g.Aa[r].right.drop (pre.length+1)=post:=by rw[e5];simp
  unfold ZdN;rw[q1,q2,q3,e6,e7];simp[hu0]
 exact ZdL hg hc hv0 hv1 hst
theorem Zu9 {h:Ac} (hh:h.ok) (hc:cycL h=[]) (hr:∀ q∈h.Aa,q.right≠[]) {v:Nat} (hv:v < h.vars.toNat):ZaL (stG h v) []=([],⟨0,0⟩):=by
 have h0:cntF (stG h v) []=0:=HN fun hn=>by
  have h1:Ak (stG h v) [] Zae v 0 0≠0:=hn;have h2:=Ze2 (Zqk hh hv) h1;have h3:=Zty (h:=stG h v) hr (v:Int);rw[h2] at h3;cases h3
 have ho:opF (stG h v) []=⟨0,0⟩:=by
  unfold opF;rw[h0,Ha (show ¬ 0=Zae by decide),ZBH (Zqk hh hv) (by rw[Zyw hh hv,hc])];rfl
 have e:ZaL (stG h v) []=if (opF (stG h v) []).code=0 then (if 200 < cntF (stG h v) [] then ([],⟨6, -1⟩) else ZdF (stG h v) [] (cntF (stG h v) []) 0 []) else ([],opF (stG h v) []):=rfl
 rw[e,ho,h0,Hb rfl,Ha (by omega),ZdF]
end Go.Proofs.YtbpmepgnjanhnaaGreat
