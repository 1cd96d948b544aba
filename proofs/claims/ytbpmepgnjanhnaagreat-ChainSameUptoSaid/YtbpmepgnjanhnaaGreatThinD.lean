import Derived.Test.YtbpmepgnjanhnaaGreatQTrimE
set_option linter.unusedVariables false
set_option linter.unusedSimpArgs false
set_option linter.unusedSectionVars false
namespace Go.Proofs.YtbpmepgnjanhnaaGreat
open Go.RowKit
set_option maxRecDepth 100000
abbrev bxSt (cs:List V):Ob:=.box 39 cs
abbrev bxFt (a b:V):Ob:=.box 31 [a,b]
abbrev nilV:V:=.d (.raw (.slice none 0 0))
abbrev zSt:List V:=[I 0,I 0,I 0,nilV,nilV,nilV]
theorem ZDD {a b c e g k:D} {n1 n2 s1 s2:Nat} {xs ys:List D}:ADefer Tryz.prog 121 (ptrs [1002,1003]) [(1002,bxSt [.d a,.d b,.d c,.own 901 n1,.own 902 n2,.d e]),(1003,bxFt (.d g) (.d k)),(901,.froz s1 xs),(902,.froz s2 ys)] .returning .returning [(1002,bxSt [.d a,.d b,.d c,.own 901 n1,.own 902 n2,.d e]),(1003,bxFt (.d g) (.d k)),(901,.froz s1 xs),(902,.froz s2 ys)]:=by
 refine ADefer.intro (v:=.nilIface) (n:=18) (d1:=5) (d2:=2) Tryz.func121 rfl rfl (by simp[ptrs]) (fun ρ w=>rfl) (fun ρ w=>rfl) rfl rfl .nil rfl rfl ?_;simp only[ptrs,Hm,HF,Zal];refine VA ?_;refine ZoJ (u:=.nilIface) (b:=true) rfl Zag rfl rfl Tryz.underlying20 ?_;refine VA ?_;exact fin
theorem ZDE {r:Nat}:ADefer Tryz.prog 121 (ptrs [1002,1003]) [(1002,bxSt zSt),(1003,bxFt (I 0) (I 0))] (.panicking [{ v:=Zql r,recovered:=false }]) (.panicking [{ v:=Zql r,recovered:=true }]) [(1002,bxSt zSt),(1003,bxFt (I 6) (I (r:Int)))]:=by
 refine ADefer.intro (v:=Zql r) (n:=18) (d1:=5) (d2:=2) Tryz.func121 rfl rfl (by simp[ptrs]) (fun ρ w=>rfl) (fun ρ w=>rfl) rfl rfl (.pan _) rfl rfl ?_;simp only[ptrs,Hm,HF,Zal];refine VA ?_;refine ZoJ (u:=Zql r) (b:=false) rfl Zag rfl rfl Tryz.underlying20 ?_;refine VA ?_;refine Zt2 (us:=[.int .i64 6,.int .i64 (r:Int)]) rfl Zag rfl Tryz.underlying161 rfl rfl rfl ?_;refine VA ?_;exact fin
theorem ZEG {g:Ac} (hr:g.Aa.length≤160):∀ (x:Tree) (v:Int),fits g x v=true→NbF 1000000000 (asF x):=by
 refine Tree.ind fun x ih v hf=>?_
 obtain⟨i,hi,e1,e2,e3,e4,e5⟩:=ZaR hf;have key:∀ (l:List Tree) (vs:List Int),(∀ y∈l,∀ v,fits g y v=true→NbF 1000000000 (asF y))→l.length=vs.length→fitss g l vs=true→NbL 1000000000 (asFs l):=by
  intro l
  induction l with
  | nil=>intro vs _ _ _;exact trivial
  | cons y l ihl =>
   intro vs h1 h2 h3;cases vs with
   | nil=>simp at h2
   | cons v vs =>
    rw[fitss,Hr] at h3;exact⟨h1 y (by simp) v h3.1,ihl vs (fun z hz=>h1 z (by simp[hz])) (by simpa using h2) h3.2⟩
 rw[Tree.eta x,asF];exact⟨⟨by omega,by omega⟩,key x.Ab _ ih e3.symm e4⟩
theorem ZFn {g:Ac} (hg:g.ok) (hc:cycL g=[]) {nl:List (List Tree)} (h:nlF g=some nl):NlOk nl∧nl.length=g.vars.toNat:=by
 obtain⟨h1,h2⟩:=ZgJ h;have hv:=hg.vars;have key:∀ l∈nl,∃ v,v < g.vars.toNat∧ListOk (stG g v) [] l:=fun l hl=>by
  obtain⟨v,hv,rfl⟩:=List.mem_iff_getElem.1 hl;obtain⟨q1,q2⟩:=h2 v (by omega);have:=Zbg q1;rw[←q2,Hf,Hj hv] at this;exact⟨v,by omega,this⟩
 refine⟨⟨by omega,fun l hl=>?_,fun l hl x hx=>?_⟩,h1⟩
 ·obtain⟨v,_,q⟩:=key l hl;have:=q.len;have:=q.few;omega
 ·obtain⟨v,_,q⟩:=key l hl;obtain⟨q1,q2⟩:=q.mem hx;exact⟨q2,ZEG (g:=stG g v) hg.Aa x _ q1.1⟩
set_option maxHeartbeats 16000000 in
theorem Zq2 {t:Bool} {g:Ac} (hf:g.fit):Af Tryz.prog 68 [.d (Zbr t g)] [] (.tup [.d (ZdG false (Zev g).1),.d (Zbu (Zev g).2)]) []:=by
 have hck:=ZaT (t:=t) (g:=g) hf.Aa hf.right;have hcy:=ZeR (t:=t) hf;refine Af.introD (n:=103) Tryz.func68 rfl rfl (by simp) (by rfl) rfl ?_;rintro⟨n,w0,S,E0,h0,o,df⟩ hn hd;dsimp only at hn hd;subst hn;subst hd;simp only[Zal];by_cases hc:(Zac g).code=0
 rotate_left
 ·rw[show Zev g=(Ag,Zac g) by unfold Zev;rw[Ha hc]];dsimp only;generalize Zac g=F at *;refine Zbk rfl rfl ?_;refine VA ?_;refine Zbk rfl rfl ?_;refine VA ?_;refine Zab [] (hA:=hck) (hr:=?_);refine VA ?_;exact fin2
 have hg:=Zbd hc;rw[Zfd hc] at hck hcy;by_cases hcn:cycL g=[]
 rotate_left
 ·rw[show Zev g=(Ag,⟨10, -1⟩) by unfold Zev;rw[Hb hc,Ha hcn]];have hcl:(0:Int) < ((cycL g).length:Nat):=by cases hh:cycL g with
   | nil=>exact absurd hh hcn
   | cons a l=>simp
  dsimp only;generalize cycL g=cl at *;refine Zbk rfl rfl ?_;refine VA ?_;refine Zbk rfl rfl ?_;refine VA ?_;refine Zab [] (hA:=hck) (hr:=?_);refine VA ?_;refine Zbk rfl rfl ?_;refine VA ?_;refine Zab [] (hA:=hcy) (hr:=?_);refine VA ?_;refine Zbk rfl rfl ?_;refine VA ?_;exact fin2
 rw[hcn] at hcy;obtain⟨nv,hV⟩:∃ nv:Nat,g.vars=(nv:Int):=⟨g.vars.toNat,by have:=hg.vars1;omega⟩
 have hVt:g.vars.toNat=nv:=by omega
 have hV64:=hg.vars;have hlist:=fun (v:Nat)=>(Zk5 (t:=t) (u:=false) (g:=stG g v) (w:=[]) ⟨hf.Aa,hf.right⟩ (by simp)).le (args:=[.d (Zbr t (stG g v)),nilV]) ⟨.refl _,VLe.nil _ _,trivial⟩
 cases hnl:nlF g with
 | none =>
  rw[show Zev g=(Ag,⟨6, -1⟩) by unfold Zev;rw[Hb hc,Hb hcn,hnl]];unfold nlF at hnl;rw[hVt] at hnl;dsimp only;refine Zbk rfl rfl ?_;refine VA ?_;refine Zbk rfl rfl ?_;refine VA ?_;refine Zab [] (hA:=hck) (hr:=?_);refine VA ?_;refine Zbk rfl rfl ?_;refine VA ?_;refine Zab [] (hA:=hcy) (hr:=?_);refine VA ?_;refine Zbk rfl rfl ?_;refine VA ?_;refine Zbk rfl rfl ?_;refine VA ?_;refine Zbk rfl rfl ?_;refine VA ?_;refine Zbk rfl rfl ?_;refine VA ?_;refine Zak (X:=Nat×List (List Tree)) (fun y=>y.1≤nv∧y.2.length=y.1∧nlA g (nv - y.1) y.1 y.2=none) (fun y=>[(49,I y.1),(48,.d (iD g.vars)),(7,.ptr 35 0),(1,.ptr 1 0),(2,.ptr 2 0),(3,.ptr 3 0)])
   (fun y=>[(1,ZaE t g),(2,bxSt zSt),(3,bxFt (I 0) (I 0)),(35,.box 160 [.d (iD g.vars),.d (iD g.terms),.d (iD g.start),.d (ZaS t g.Aa),.own 33 nv,.d (iD g.vars),.d (iD g.terms),.d (iD g.start),nilV,nilV,nilV]),(33,.row 37 1 (y.2.map (Zan false)++List.replicate (nv - y.1) (D.raw (.slice none 0 0))))]) (fun y=>nv - y.1) (0,[]) ⟨Hh _,rfl,by rw[Jn];exact hnl⟩ ?_
  rintro⟨v,acc⟩ ⟨j1,j2,j3⟩;dsimp only at j1 j2 j3 ⊢;by_cases hvl:v < nv
  ·have hvi:(v:Int) < g.vars:=by omega
   have hl:=hlist v;have hbad:=fun h=>Zyv hg hcn (v:=v) (by omega) h
   rw[show nv - v=(nv - (v+1))+1 by omega,nlA] at j3;have hrl:(acc.map (Zan false)++List.replicate (nv - v) (D.raw (.slice none 0 0))).length=nv:=by simp;omega
   generalize Zaw (stG g v) []=R at *;obtain⟨l,⟨lc,la⟩⟩:=R;dsimp only at *;have eset:(acc.map (Zan false)++List.replicate (nv - v) (D.raw (.slice none 0 0))).set v (Zan false l)=(acc++[l]).map (Zan false)++List.replicate (nv - (v+1)) (D.raw (.slice none 0 0)):=by
    rw[show nv - v=(nv - (v+1))+1 by omega,G7,Jg _ _ (by simp;omega),Hi,show v - acc.length=0 by omega];simp
   by_cases hz:lc=0
   ·rw[Hb hz] at j3;clear hbad;refine VA ?_;refine Zab [] (hA:=hl) (hr:=?_);refine VA ?_;rw[eset];exact Zad (v+1,acc++[l]) (a:=⟨hvl,by simp[j2],j3⟩) (b:=by dsimp only;omega)
   ·rw[Ha hz] at j3;have hb:=hbad hz;injection hb with hb1 hb2
    injection hb2 with hb3 hb4
    subst hb1 hb3 hb4;clear hbad;refine VA ?_;refine Zab [] (hA:=hl) (hr:=?_);refine VA ?_;exact fin2
  ·obtain rfl:v=nv:=by omega
   rw[Ga,nlA] at j3;cases j3
 | some nl =>
  obtain⟨hok,hnv⟩:=ZFn hg hcn hnl;have hru:=fun (r:Nat) (hr:r < g.Aa.length) (S:TS) (hS:S.Good)=>(Zvu (t:=t) hg hok hnv hr (g.Aa[r].right.length+1) 0 0 [] [] S (by omega) (Hh _) (by have:=hg.right _ (He hr);simp only[HB];omega) (Hg _) (by have:=hg.right _ (He hr);simp only[Aj];omega) trivial hS).le (args:=[.ptr 1000 0,I (r:Nat),I 0,I 0,nilV,nilV]) ⟨.refl _,.refl _,.refl _,.refl _,VLe.nil _ _,VLe.nil _ _,trivial⟩
  simp only[Gl] at hru;have hgd:=fun (r:Nat) (hr:r < g.Aa.length) (S S':TS) (h:thR nl g.Aa[r].left r g.Aa[r].right 0 [] [] S=.ok S') (q:S.Good)=>Zoo _ _ _ _ _ _ _ h q
  have hrules:=hg.Aa;have hst:=hg.start;have hst0:=hg.start0;cases hA:thA nl 0 g.Aa ⟨[],[]⟩ with
  | error q =>
   rw[show Zev g=(Ag,⟨6,(q:Int)⟩) by unfold Zev;rw[Hb hc,Hb hcn,hnl];dsimp only;rw[hA]];unfold nlF at hnl;rw[hVt] at hnl hnv;dsimp only;refine Zbk rfl rfl ?_;refine VA ?_;refine Zbk rfl rfl ?_;refine VA ?_;refine Zab [] (hA:=hck) (hr:=?_);refine VA ?_;refine Zbk rfl rfl ?_;refine VA ?_;refine Zab [] (hA:=hcy) (hr:=?_);refine VA ?_;refine Zbk rfl rfl ?_;refine VA ?_;refine Zbk rfl rfl ?_;refine VA ?_;refine Zbk rfl rfl ?_;refine VA ?_;refine Zbk rfl rfl ?_;refine VA ?_;refine Zak (X:=Nat×List (List Tree)) (fun y=>y.1≤nv∧y.2.length=y.1∧nlA g (nv - y.1) y.1 y.2=some nl) (fun y=>[(49,I y.1),(48,.d (iD g.vars)),(7,.ptr 35 0),(1,.ptr 1 0),(2,.ptr 2 0),(3,.ptr 3 0)])
    (fun y=>[(1,ZaE t g),(2,bxSt zSt),(3,bxFt (I 0) (I 0)),(35,.box 160 [.d (iD g.vars),.d (iD g.terms),.d (iD g.start),.d (ZaS t g.Aa),.own 33 nv,.d (iD g.vars),.d (iD g.terms),.d (iD g.start),nilV,nilV,nilV]),(33,.row 37 1 (y.2.map (Zan false)++List.replicate (nv - y.1) (D.raw (.slice none 0 0))))]) (fun y=>nv - y.1) (0,[]) ⟨Hh _,rfl,by rw[Jn];exact hnl⟩ ?_
   rintro⟨v,acc⟩ ⟨j1,j2,j3⟩;dsimp only at j1 j2 j3 ⊢;by_cases hvl:v < nv
   ·have hvi:(v:Int) < g.vars:=(by omega);have hl:=hlist v;have hbad:=(fun h=>Zyv hg hcn (v:=v) (by omega) h);rw[show nv - v=(nv - (v+1))+1 by omega,nlA] at j3;have hrl:(acc.map (Zan false)++List.replicate (nv - v) (D.raw (.slice none 0 0))).length=nv:=(by simp;omega);generalize Zaw (stG g v) []=R at *;obtain⟨l,⟨lc,la⟩⟩:=R;dsimp only at *;have eset:(acc.map (Zan false)++List.replicate (nv - v) (D.raw (.slice none 0 0))).set v (Zan false l)=(acc++[l]).map (Zan false)++List.replicate (nv - (v+1)) (D.raw (.slice none 0 0)):=by
     rw[show nv - v=(nv - (v+1))+1 by omega,G7,Jg _ _ (by simp;omega),Hi,show v - acc.length=0 by omega];simp
    by_cases hz:lc=0
    ·rw[Hb hz] at j3;clear hbad;refine VA ?_;refine Zab [] (hA:=hl) (hr:=?_);refine VA ?_;rw[eset];exact Zad (v+1,acc++[l]) (a:=⟨hvl,by simp[j2],j3⟩) (b:=by dsimp only;omega)
    ·rw[Ha hz] at j3;cases j3
   obtain rfl:v=nv:=by omega
   rw[Ga,nlA] at j3;obtain rfl:acc=nl:=by injection j3
   clear hlist hnl;rw[Ga,List.replicate_zero,Ht];have hvi:¬ (v:Int) < g.vars:=by omega
   have hal:(acc.map (Zan false)).length=v:=by rw[Hi];exact j2
   refine Zaz 33 rfl ?_;refine ZoO 35 4 (.d (.sl false 1 (acc.map (Zan false)))) rfl rfl (Co.froz rfl hal.symm) rfl ?_;refine VA ?_;refine ZqN (d1:=75) (fd:=121) (xs:=[.tmp 2,.tmp 3]) [(1002,2),(1003,3),(1004,1),(1005,35)] [(1002,bxSt zSt),(1003,bxFt (I 0) (I 0)),(1004,ZaE t g),(1005,.box 160 [.d (iD g.vars),.d (iD g.terms),.d (iD g.start),.d (ZaS t g.Aa),.d (.sl false 1 (acc.map (Zan false))),.d (iD g.vars),.d (iD g.terms),.d (iD g.start),nilV,nilV,nilV])] [(2,.ptr 1002 0),(3,.ptr 1003 0),(1,.ptr 1004 0),(7,.ptr 1005 0)] [1002,1003] (.panicking [{ v:=Zql q,recovered:=false }]) (.panicking [{ v:=Zql q,recovered:=true }]) [(2,1002),(3,1003)] [(1002,bxSt zSt),(1003,bxFt (I 0) (I 0))] [(1002,bxSt zSt),(1003,bxFt (I 6) (I (q:Int)))]
    rfl rfl rfl ⟨rfl,rfl,trivial⟩ rfl rfl rfl (fun ρ cs w h=>by simp[execOp,resolve,Deferred.ofValue,h]) ⟨_,Tryz.func121,rfl,rfl⟩ ⟨rfl,rfl,rfl,rfl,trivial⟩ rfl rfl rfl ⟨⟨rfl,rfl⟩,⟨rfl,rfl⟩,⟨rfl,rfl⟩,⟨rfl,rfl⟩,trivial⟩ rfl rfl rfl rfl rfl rfl rfl (by intro h;cases h) ZDE
    (vs:=[.agg zSt,.agg [I 6,I (q:Int)]]) ⟨.aggT TY rfl rfl rfl rfl rfl,.aggT TY rfl rfl rfl rfl rfl,trivial⟩ (Co.tup ⟨Co.agg ⟨Co.refl _,Co.refl _,Co.refl _,Co.nil false 2,Co.nil false 1,Co.nil false 2,trivial⟩,Co.agg (Cos.refl _),trivial⟩) rfl ?_
   refine VA ?_;refine ZaD 1005 8 901 68 2 rfl rfl rfl rfl ?_;refine ZaD 1005 9 902 75 1 rfl rfl rfl rfl ?_;clear hcy hck;refine Zak (X:=Nat×TS) (fun y=>y.1≤g.Aa.length∧y.2.Good∧thA acc y.1 (g.Aa.drop y.1) y.2=.error q) (fun y=>[(79,I y.1),(78,I g.Aa.length),(7,.ptr 1005 0),(1,.ptr 1004 0),(2,.ptr 1002 0),(3,.ptr 1003 0)])
    (fun y=>[(1002,bxSt zSt),(1003,bxFt (I 0) (I 0)),(1004,ZaE t g),(1005,.box 160 [.d (iD g.vars),.d (iD g.terms),.d (iD g.start),.d (ZaS t g.Aa),.d (.sl false 1 (acc.map (Zan false))),.d (iD g.vars),.d (iD g.terms),.d (iD g.start),.own 901 (y.2.Aa.map (Za3 false)).length,.own 902 (y.2.frags.map (Zah false)).length,nilV]),(901,.row 68 2 (y.2.Aa.map (Za3 false))),(902,.row 75 1 (y.2.frags.map (Zah false)))]) (fun y=>g.Aa.length - y.1) (0,⟨[],[]⟩) ⟨Hh _,⟨Hh _,rfl⟩,hA⟩ ?_
   rintro⟨i,S1⟩ ⟨k1,k2,k3⟩;dsimp only at k1 k2 k3 ⊢;by_cases hil:i < g.Aa.length
   rotate_left
   ·rw[show g.Aa.drop i=[] from HL (by omega),thA] at k3;cases k3
   rw[Hw hil,thA] at k3;have hx:=hru i hil S1 k2;have hgx:=hgd i hil S1;clear hru hgd;cases hc2:thR acc g.Aa[i].left i g.Aa[i].right 0 [] [] S1 with
   | error e2 =>
    rw[hc2] at k3 hx;obtain rfl:i=q:=(by injection k3);replace hx:APan _ _ _ _ _ _:=hx;simp only[thH,thHr,thBx] at hx;refine VA ?_;refine Zet [(1000,1005),(1001,901),(1002,902)] [(2,.ptr 1002 0),(3,.ptr 1003 0)] [(1002,some (bxSt zSt)),(1003,some (bxFt (I 0) (I 0)))] (hpn:=?_) (hA:=hx);exact (fun fr' h' h1 h2=>⟨rfl,⟨VLe.of (h1 _ HT),VLe.of (h1 _ (HK _ HT)),trivial⟩,⟨Ap.of (h2 _ HT),Ap.of (h2 _ (HK _ HT)),trivial⟩⟩)
   | ok S4 =>
    rw[hc2] at k3 hx;replace hx:Af _ _ _ _ _ _:=hx;have hS4:=hgx S4 hc2 k2;simp only[thH,thHr,thBx] at hx;refine VA ?_;refine Zab [(1000,1005),(1001,901),(1002,902)] (hA:=hx) (hr:=?_);refine VA ?_;exact Zad (i+1,S4) (a:=⟨hil,hS4,k3⟩) (b:=by dsimp only;omega)
  | ok W =>
   rw[show Zev g=(⟨⟨g.vars,g.terms,g.start,W.Aa⟩,W.frags,nl.getD (stN g) []⟩,⟨0,0⟩) by unfold Zev;rw[Hb hc,Hb hcn,hnl];dsimp only;rw[hA]];unfold nlF at hnl;rw[hVt] at hnl hnv;dsimp only;refine Zbk rfl rfl ?_;refine VA ?_;refine Zbk rfl rfl ?_;refine VA ?_;refine Zab [] (hA:=hck) (hr:=?_);refine VA ?_;refine Zbk rfl rfl ?_;refine VA ?_;refine Zab [] (hA:=hcy) (hr:=?_);refine VA ?_;refine Zbk rfl rfl ?_;refine VA ?_;refine Zbk rfl rfl ?_;refine VA ?_;refine Zbk rfl rfl ?_;refine VA ?_;refine Zbk rfl rfl ?_;refine VA ?_;refine Zak (X:=Nat×List (List Tree)) (fun y=>y.1≤nv∧y.2.length=y.1∧nlA g (nv - y.1) y.1 y.2=some nl) (fun y=>[(49,I y.1),(48,.d (iD g.vars)),(7,.ptr 35 0),(1,.ptr 1 0),(2,.ptr 2 0),(3,.ptr 3 0)])
    (fun y=>[(1,ZaE t g),(2,bxSt zSt),(3,bxFt (I 0) (I 0)),(35,.box 160 [.d (iD g.vars),.d (iD g.terms),.d (iD g.start),.d (ZaS t g.Aa),.own 33 nv,.d (iD g.vars),.d (iD g.terms),.d (iD g.start),nilV,nilV,nilV]),(33,.row 37 1 (y.2.map (Zan false)++List.replicate (nv - y.1) (D.raw (.slice none 0 0))))]) (fun y=>nv - y.1) (0,[]) ⟨Hh _,rfl,by rw[Jn];exact hnl⟩ ?_
   rintro⟨v,acc⟩ ⟨j1,j2,j3⟩;dsimp only at j1 j2 j3 ⊢;by_cases hvl:v < nv
   ·have hvi:(v:Int) < g.vars:=(by omega);have hl:=hlist v;have hbad:=(fun h=>Zyv hg hcn (v:=v) (by omega) h);rw[show nv - v=(nv - (v+1))+1 by omega,nlA] at j3;have hrl:(acc.map (Zan false)++List.replicate (nv - v) (D.raw (.slice none 0 0))).length=nv:=(by simp;omega);generalize Zaw (stG g v) []=R at *;obtain⟨l,⟨lc,la⟩⟩:=R;dsimp only at *;have eset:(acc.map (Zan false)++List.replicate (nv - v) (D.raw (.slice none 0 0))).set v (Zan false l)=(acc++[l]).map (Zan false)++List.replicate (nv - (v+1)) (D.raw (.slice none 0 0)):=by
     rw[show nv - v=(nv - (v+1))+1 by omega,G7,Jg _ _ (by simp;omega),Hi,show v - acc.length=0 by omega];simp
    by_cases hz:lc=0
    ·rw[Hb hz] at j3;clear hbad;refine VA ?_;refine Zab [] (hA:=hl) (hr:=?_);refine VA ?_;rw[eset];exact Zad (v+1,acc++[l]) (a:=⟨hvl,by simp[j2],j3⟩) (b:=by dsimp only;omega)
    ·rw[Ha hz] at j3;cases j3
   obtain rfl:v=nv:=by omega
   rw[Ga,nlA] at j3;obtain rfl:acc=nl:=by injection j3
   clear hlist hnl;rw[Ga,List.replicate_zero,Ht];have hvi:¬ (v:Int) < g.vars:=by omega
   have hal:(acc.map (Zan false)).length=v:=by rw[Hi];exact j2
   refine Zaz 33 rfl ?_;refine ZoO 35 4 (.d (.sl false 1 (acc.map (Zan false)))) rfl rfl (Co.froz rfl hal.symm) rfl ?_;refine VA ?_;refine ZqN (d1:=75) (fd:=121) (xs:=[.tmp 2,.tmp 3]) [(1002,2),(1003,3),(1004,1),(1005,35)] [(1002,bxSt zSt),(1003,bxFt (I 0) (I 0)),(1004,ZaE t g),(1005,.box 160 [.d (iD g.vars),.d (iD g.terms),.d (iD g.start),.d (ZaS t g.Aa),.d (.sl false 1 (acc.map (Zan false))),.d (iD g.vars),.d (iD g.terms),.d (iD g.start),nilV,nilV,nilV])] [(2,.ptr 1002 0),(3,.ptr 1003 0),(1,.ptr 1004 0),(7,.ptr 1005 0)] [1002,1003] .returning .returning [(2,1002),(3,1003)] [(1002,bxSt [.d (iD g.vars),.d (iD g.terms),.d (iD g.start),.own 901 W.Aa.length,.own 902 W.frags.length,.d (Zan false (acc.getD (stN g) []))]),(1003,bxFt (.d (iD 0)) (.d (iD 0))),(901,.froz 2 (W.Aa.map (Za3 false))),(902,.froz 1 (W.frags.map (Zah false)))] [(1002,bxSt [.d (iD g.vars),.d (iD g.terms),.d (iD g.start),.own 901 W.Aa.length,.own 902 W.frags.length,.d (Zan false (acc.getD (stN g) []))]),(1003,bxFt (.d (iD 0)) (.d (iD 0))),(901,.froz 2 (W.Aa.map (Za3 false))),(902,.froz 1 (W.frags.map (Zah false)))]
    rfl rfl rfl ⟨rfl,rfl,trivial⟩ rfl rfl rfl (fun ρ cs w h=>by simp[execOp,resolve,Deferred.ofValue,h]) ⟨_,Tryz.func121,rfl,rfl⟩ ⟨rfl,rfl,rfl,rfl,trivial⟩ rfl rfl rfl ⟨⟨rfl,rfl⟩,⟨rfl,rfl⟩,⟨rfl,rfl⟩,⟨rfl,rfl⟩,trivial⟩ rfl rfl rfl rfl rfl rfl rfl (by intro h;cases h) ZDD
    (vs:=[.agg [.d (iD g.vars),.d (iD g.terms),.d (iD g.start),.own 901 W.Aa.length,.own 902 W.frags.length,.d (Zan false (acc.getD (stN g) []))],.agg [.d (iD 0),.d (iD 0)]]) ⟨.aggT TY rfl rfl rfl rfl rfl,.aggT TY rfl rfl rfl rfl rfl,trivial⟩ (Co.tup ⟨Co.agg ⟨Co.refl _,Co.refl _,Co.refl _,Co.froz rfl (by simp),Co.froz rfl (by simp),Co.refl _,trivial⟩,Co.agg (Cos.refl _),trivial⟩) rfl ?_
   refine VA ?_;refine ZaD 1005 8 901 68 2 rfl rfl rfl rfl ?_;refine ZaD 1005 9 902 75 1 rfl rfl rfl rfl ?_;clear hcy hck;refine Zak (X:=Nat×TS) (fun y=>y.1≤g.Aa.length∧y.2.Good∧thA acc y.1 (g.Aa.drop y.1) y.2=.ok W) (fun y=>[(79,I y.1),(78,I g.Aa.length),(7,.ptr 1005 0),(1,.ptr 1004 0),(2,.ptr 1002 0),(3,.ptr 1003 0)])
    (fun y=>[(1002,bxSt zSt),(1003,bxFt (I 0) (I 0)),(1004,ZaE t g),(1005,.box 160 [.d (iD g.vars),.d (iD g.terms),.d (iD g.start),.d (ZaS t g.Aa),.d (.sl false 1 (acc.map (Zan false))),.d (iD g.vars),.d (iD g.terms),.d (iD g.start),.own 901 (y.2.Aa.map (Za3 false)).length,.own 902 (y.2.frags.map (Zah false)).length,nilV]),(901,.row 68 2 (y.2.Aa.map (Za3 false))),(902,.row 75 1 (y.2.frags.map (Zah false)))]) (fun y=>g.Aa.length - y.1) (0,⟨[],[]⟩) ⟨Hh _,⟨Hh _,rfl⟩,hA⟩ ?_
   rintro⟨i,S1⟩ ⟨k1,k2,k3⟩;dsimp only at k1 k2 k3 ⊢;by_cases hil:i < g.Aa.length
   rotate_left
   ·rw[show g.Aa.drop i=[] from HL (by omega),thA] at k3;obtain rfl:S1=W:=(by injection k3);obtain⟨sn,hsn⟩:∃ sn:Nat,g.start=(sn:Int):=⟨g.start.toNat,by omega⟩
    have hsl:sn < acc.length:=(by omega);have esn:acc.getD (stN g) []=acc[sn]:=(by unfold stN;rw[hsn,Hn,Hf,Hj hsl];rfl);rw[esn];clear esn hru hgd;refine Zaz 901 rfl ?_;refine Zaz 902 rfl ?_;refine VA ?_;rw[hsn];refine VA ?_;simp only[Hi];exact Or.inr ⟨rfl,⟨VLe.refl _,VLe.refl _,trivial⟩,⟨Ap.of rfl,Ap.of rfl,Ap.of rfl,Ap.of rfl,trivial⟩⟩
   rw[Hw hil,thA] at k3;have hx:=hru i hil S1 k2;have hgx:=hgd i hil S1;clear hru hgd;cases hc2:thR acc g.Aa[i].left i g.Aa[i].right 0 [] [] S1 with
   | error e2 =>
    rw[hc2] at k3 hx;cases k3
   | ok S4 =>
    rw[hc2] at k3 hx;replace hx:Af _ _ _ _ _ _:=hx;have hS4:=hgx S4 hc2 k2;simp only[thH,thHr,thBx] at hx;refine VA ?_;refine Zab [(1000,1005),(1001,901),(1002,902)] (hA:=hx) (hr:=?_);refine VA ?_;exact Zad (i+1,S4) (a:=⟨hil,hS4,k3⟩) (b:=by dsimp only;omega)
end Go.Proofs.YtbpmepgnjanhnaaGreat
