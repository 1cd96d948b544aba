import Derived.Test.YtbpmepgnjanhnaaGreatFoA
import Derived.Test.YtbpmepgnjanhnaaGreatQSaP
import Derived.Test.YtbpmepgnjanhnaaGreatQFrA
import Derived.Test.YtbpmepgnjanhnaaGreatQSimPf
import Derived.Test.YtbpmepgnjanhnaaGreatQFrC
import Derived.Test.YtbpmepgnjanhnaaGreatFoI
import Derived.Test.YtbpmepgnjanhnaaGreatQSpD
import Derived.Test.YtbpmepgnjanhnaaGreatS5
import Derived.Test.YtbpmepgnjanhnaaGreatQChnC
import Derived.Test.YtbpmepgnjanhnaaGreatQFrQ
import Derived.Test.YtbpmepgnjanhnaaGreatFrJ
set_option linter.unusedVariables false
set_option linter.unusedSimpArgs false
set_option linter.unusedSectionVars false
namespace Go.Proofs.YtbpmepgnjanhnaaGreat
open Go.RowKit
set_option maxRecDepth 100000
section
variable {t u:Bool} {g:Gram} {w:List Int}
end
end Go.Proofs.YtbpmepgnjanhnaaGreat
namespace Go.Proofs.YtbpmepgnjanhnaaGreat
open Go.RowKit
set_option maxRecDepth 100000
section
variable {t u:Bool} {g:Gram} {w:List Int}
end
end Go.Proofs.YtbpmepgnjanhnaaGreat
namespace Go.Proofs.YtbpmepgnjanhnaaGreat
open Go.RowKit
set_option maxRecDepth 100000
section
variable {t u:Bool} {g:Gram} {w:List Int}
end
end Go.Proofs.YtbpmepgnjanhnaaGreat
namespace Go.Proofs.YtbpmepgnjanhnaaGreat
open Go.RowKit
set_option maxRecDepth 100000
section
variable {t u v':Bool} {g:Gram} {w:List Int}
end
end Go.Proofs.YtbpmepgnjanhnaaGreat
namespace Go.Proofs.YtbpmepgnjanhnaaGreat
open Go.RowKit
set_option maxRecDepth 100000
section
variable {t u:Bool} {g:Gram} {w:List Int}
end
end Go.Proofs.YtbpmepgnjanhnaaGreat
namespace Go.Proofs.YtbpmepgnjanhnaaGreat
open Go.RowKit
set_option maxRecDepth 100000
theorem ZvH {g:Gram} {w:List Int} {k L:Nat} {x:Tree} {N:Cube} (hN:wcns g w Zac=N) (h:Zbq g N w 400 g.start.toNat 0 w.length k 400=some (x,L)):atF g w k=(x,⟨0,0⟩,L):=by
 subst hN
 unfold atF;rw[h]
end Go.Proofs.YtbpmepgnjanhnaaGreat
namespace Go.Proofs.YtbpmepgnjanhnaaGreat
open Go.RowKit
set_option maxRecDepth 100000
end Go.Proofs.YtbpmepgnjanhnaaGreat
namespace Go.Proofs.YtbpmepgnjanhnaaGreat
open Go.RowKit
set_option maxRecDepth 100000
theorem Zi0:∀ (k:Nat),fszs (ZbD k)=k
 | 0=>rfl
 | k+1=>by rw[show ZbD (k+1)=ZbD k++[.mk 2 k []] by simp[ZbD,List.range_succ],ZbP,Zi0 k];simp[fszs,fsz]
theorem ZqT (r:Int) (k:Nat):fszs (Zdd r k)=k+1:=by simp[Zdd,fszs,fsz,Zi0];omega
def SP.slim (s:SP):Prop:=∀ l∈s.frags,fszs l≤100
theorem SP.slim.lifts:∀ {l:List Int} {s:SP},s.slim→(s.lifts l).slim
 | [],_,h=>h
 | x::l,s,h=>by
  refine SP.slim.lifts (l:=l) (s:=s.lift x) ?_
  unfold SP.lift
  split
  ·exact h
  ·split
   ·intro y hy
    rcases List.mem_append.1 hy with hy|hy
    ·exact h y hy
    ·rw[List.mem_singleton.1 hy];simp[fszs]
   ·exact h
theorem Zi1 (r:Int):∀ (k:Nat),∀ l∈ZgK r k,fszs l≤100
 | 0,l,h=>by simp[ZgK] at h
 | k+1,l,h=>by
  rcases List.mem_append.1 h with h|h
  ·exact Zi1 r k l h
  ·rw[List.mem_singleton.1 h];split <;> simp[ZbL,fszs,fsz]
theorem SP.slim.one {s:SP} (h:s.slim) {r:Nat} {x:Rule} (hx:x.right.length≤10):(s.one r x).slim:=by
 have hk:=Zb6 x.right
 unfold SP.one
 split
 ·intro y hy
  rcases List.mem_append.1 hy with hy|hy
  ·exact h y hy
  ·rw[List.mem_singleton.1 hy,ZqT];omega
 ·intro y hy
  rcases List.mem_append.1 hy with hy|hy
  ·exact (SP.slim.lifts h) y hy
  ·exact Zi1 _ _ y hy
theorem Zgq:∀ {rs:List Rule} {s s':SP} {i:Nat},s.slim→(∀ r∈rs,r.right.length≤10)→ZbJ s rs i=.ok s'→s'.slim
 | [],s,s',i,h,_,e=>by rw[ZbJ] at e;cases e;exact h
 | x::rs,s,s',i,h,hr,e=>by
  rw[ZbJ] at e
  cases hc:(s.one i x).many with
  | true=>rw[hc] at e;cases e
  | false=>rw[hc] at e;exact Zgq (h.one (hr x (by simp))) (fun r h=>hr r (by simp[h])) e
theorem Zgr:zeroStep.fit:=⟨⟨by decide,fun r hr=>by simp[zeroStep] at hr⟩,by decide,fun l hl=>by simp[zeroStep] at hl,by decide⟩
theorem Zpp (g:Gram):(Zcq g).1.fit:=by
 rcases ZkJ g with ⟨_,h⟩|⟨i,h⟩|⟨s,hg,h1,h⟩
 ·rw[h];exact Zgr
 ·rw[h];exact Zgr
 ·rw[h]
  obtain⟨k1,k2,k3⟩:=Zms hg h1
  have hs:s.slim:=Zgq (s:=Za0 g) (fun l hl=>by simp[Za0] at hl) hg.right h1
  obtain⟨f1,f2⟩:=Zdh hg
  obtain⟨f3,f4⟩:=ZfV hg f1 f2 (fun r hr=>hg.rule hr) (by omega) h1
  have hp:=f3.parts.len
  have hm:=Zmr f4
  exact⟨k1.fit,(by show s.frags.length≤_;omega),fun l hl=>Nat.le_trans (hs l hl) (by decide),by simp[Zen,cnts]⟩
end Go.Proofs.YtbpmepgnjanhnaaGreat
namespace Go.Proofs.YtbpmepgnjanhnaaGreat
open Go.RowKit
set_option maxRecDepth 100000
def cb1:Step:=⟨⟨2,2,0,[⟨0,[-2]⟩,⟨0,[-2,1]⟩,⟨1,[-1]⟩,⟨1,[-1,1]⟩]⟩,[[.mk 1 1 []],[.mk 4 0 [.mk 1 1 []]],[.mk 1 0 [.mk 3 0 []]],[.mk 4 0 [.mk 1 0 [.mk 3 0 []]]]],[]⟩
def cbG:Gram:=⟨4,2,0,[⟨0,[-2]⟩,⟨2,[-2]⟩,⟨0,[2,1]⟩,⟨1,[-1]⟩,⟨3,[-1]⟩,⟨1,[3,1]⟩]⟩
def cb2:Step:=⟨cbG,[[.mk 1 0 []],[],[.mk 1 1 [.mk 2 0 [],.mk 2 1 []]],[.mk 1 2 []],[],[.mk 1 3 [.mk 2 0 [],.mk 2 1 []]]],[]⟩
theorem ZvI:Zgc againG=(cb1,⟨0,0⟩):=by kernel_rfl
theorem ZvJ:Zcq cb1.g=(cb2,⟨0,0⟩):=by kernel_rfl
theorem Zuz:Zpx pasT againG [6,4]=([cb1,cb2],⟨0,0⟩):=by
 have h0:(Zah againG).code=0:=by kernel_rfl
 unfold Zpx
 rw[if_neg (fun q=>q h0),if_neg (by decide),mkC]
 have e1:pasT 6 (ZaA againG [])=(cb1,⟨0,0⟩):=by
  unfold pasT;rw[if_neg (by decide)];exact ZvI
 rw[e1,if_neg (fun q=>q rfl),mkC]
 have e2:pasT 4 (ZaA againG ([]++[cb1]))=(cb2,⟨0,0⟩):=by
  unfold pasT;rw[if_pos rfl];exact ZvJ
 rw[e2,if_neg (fun q=>q rfl),mkC]
 rfl
theorem ZvK:chnF againG [cb1,cb2]=⟨0,0⟩:=by kernel_rfl
theorem ZuA:wcns cbG [1,0,0] Zac=rnds cbG [1,0,0] Zac 4:=ZuZ (by kernel_rfl)
def cbN:Cube:=fun v i j=>if v=2∧i=0∧j=1 then 1 else if v=3∧((i=1∧j=2)∨(i=2∧j=3)) then 1 else if v=1∧((i=1∧j=2)∨(i=2∧j=3)∨(i=1∧j=3)) then 1 else if v=0∧i=0∧(j=1∨j=2∨j=3) then 1 else 0
theorem Zt5:wcns cbG [1,0,0] Zac=cbN:=by
 rw[ZuA]
 funext v i j
 by_cases h:(v:Int) < cbG.vars∧i≤j∧j≤([1,0,0]:List Int).length
 ·obtain⟨h1,h2,h3⟩:=h
  have h1:v < 4:=by have:cbG.vars=4:=rfl;omega
  have h3:j < 4:=by simp at h3;omega
  have key:∀ v,v < 4→∀ j,j < 4→∀ i,i < 4→rnds cbG [1,0,0] Zac 4 v i j=cbN v i j:=by decide +kernel
  exact key v h1 j h3 i (by omega)
 ·rw[ZdG h]
  unfold cbN
  have h':¬ (v < 4∧i≤j∧j≤3):=fun q=>h ⟨by have:cbG.vars=4:=rfl;omega,q.2.1,by simpa using q.2.2⟩
  rw[if_neg (by omega),if_neg (by omega),if_neg (by omega),if_neg (by omega)]
theorem Zt6:cntF cbG [1,0,0]=1:=by unfold cntF;rw[Zt5];rfl
theorem ZvL:chF cbG [1,0,0]=⟨0,0⟩:=by kernel_rfl
theorem Zwn:opF cbG [1,0,0]=⟨0,0⟩:=by
 unfold opF
 rw[Zt6,if_neg (show ¬ 1=Zac by decide),ZvL]
 rfl
def cbT:Tree:=.mk 2 [.mk 1 [],.mk 5 [.mk 4 [],.mk 3 []]]
def cbX:Tree:=.mk 0 [.mk 0 [.mk 1 []]]
theorem Zwo (d L:Nat):Zbq cbG cbN [1,0,0] (d+4) 0 0 3 0 (L+5)=some (cbT,L):=by kernel_rfl
theorem Zwp {d L v n:Nat} (hd:4≤d) (hL:5≤L) (hv:v=0) (hn:n=3):Zbq cbG cbN [1,0,0] d v 0 n 0 L=some (cbT,L - 5):=by
 obtain⟨e,rfl⟩:∃ e,d=e+4:=⟨d - 4,by omega⟩
 obtain⟨M,rfl⟩:∃ M,L=M+5:=⟨L - 5,by omega⟩
 subst hv hn
 rw[Zwo,Nat.add_sub_cancel]
theorem ZvM:atF cbG [1,0,0] 0=(cbT,⟨0,0⟩,395):=ZvH Zt5 (Zwp (by omega) (by omega) rfl rfl)
theorem ZuB:ZaG cbG [1,0,0]=([cbT],⟨0,0⟩):=by
 unfold ZaG
 rw[Zwn,Zt6,if_pos rfl,if_neg (by omega),ZcZ,ZvM,if_pos rfl,ZcZ]
 rfl
theorem Zwq:trN againG [cb1,cb2] [1,0,0] 2 [cbT]=([cbX],⟨0,0⟩):=by kernel_rfl
theorem Ztc:ZcY againG [cb1,cb2] [1,0,0]=([cbX],⟨0,0⟩):=by
 unfold ZcY
 rw[ZvK,if_neg (by decide),show ZaA againG [cb1,cb2]=cbG from rfl,ZuB,if_neg (by decide)]
 exact Zwq
theorem ZmJ:againG.fit:=⟨by decide,fun r hr=>by simp[againG] at hr;rcases hr with rfl|rfl <;> decide⟩
theorem ZqU:∀ s∈[cb1,cb2],s.fit:=fun s hs=>by
 simp only[List.mem_cons,List.not_mem_nil,or_false] at hs
 rcases hs with rfl|rfl
 ·exact⟨⟨by decide,by decide⟩,by decide,by decide,by decide⟩
 ·exact⟨⟨by decide,by decide⟩,by decide,by decide,by decide⟩
theorem Ztd:ZdJ Tryz.prog 24 3 4 3:=ZgX Tryz.underlying24 rfl rfl rfl Tryz.underlying22 rfl
set_option maxHeartbeats 4000000 in
theorem Ziv:ACalls Tryz.prog 8 [] [] (B true) []:=by
 refine ACalls.intro (n:=49) Tryz.func8 rfl rfl (by simp) (by rfl) ?_
 simp only[Zak]
 have hm:=ZpB (t:=false) (u:=false) (P:=pasT) (g:=againG) (ks:=[6,4]) ZmJ (by decide) (fun k hk g hg=>by
  have hk2:k=4∨k=6:=by simp at hk;omega
  refine⟨Ztx hk2 hg,?_⟩
  unfold pasT
  split
  ·exact Zpp g
  ·exact ZrH g)
 have ht:=Zho (g:=againG) (ss:=[cb1,cb2]) (w:=[1,0,0]) ZmJ ZqU (by decide) (by decide)
 have hl:=Zes (t:=false) (u:=false) (v:=false) (g:=againG) (ss:=[cb1,cb2]) ZmJ ZqU (by decide)
 rw[Zuz] at hm
 rw[Ztc] at ht
 rw[show ZaA againG [cb1,cb2]=cbG from rfl] at hl
 have hl:ACalls Tryz.prog 15 [.d (ZaH false againG),.d (ZaZ false false [cb1,cb2])] [] (.d (.agg [iD cbG.vars,iD cbG.terms,iD cbG.start,ZaT false cbG.rules])) []:=hl
 repeat (first|refine wk ?_|refine Zaa (hr:=?_))
 refine Zab [] (hA:=ZhB) (hr:=?_)
 repeat (first|refine wk ?_|refine Zaa (hr:=?_))
 refine Zab [] (hA:=hm) (hr:=?_)
 repeat (first|refine wk ?_|refine Zaa (hr:=?_))
 refine Zab [] (hA:=ZhB) (hr:=?_)
 repeat (first|refine wk ?_|refine Zaa (hr:=?_))
 refine Zab [] (hA:=ht) (hr:=?_)
 repeat (first|refine wk ?_|refine Zaa (hr:=?_))
 refine Zab [] (hA:=ZhB) (hr:=?_)
 repeat (first|refine wk ?_|refine Zaa (hr:=?_))
 refine Zab [] (hA:=hl) (hr:=?_)
 refine Zaa (hF:=Ztd) (hr:=?_)
 repeat (first|refine wk ?_|refine Zaa (hr:=?_))
 exact fin
end Go.Proofs.YtbpmepgnjanhnaaGreat
namespace Go.Proofs.YtbpmepgnjanhnaaGreat
open Go.RowKit
set_option maxRecDepth 100000
set_option maxHeartbeats 4000000 in
theorem ZmK {g:Gram} {ss:List Step} {x:Tree} (hf:g.fit) (hs:∀ s∈ss,s.fit) (hl:ss.length≤100000000) (hx:cnt x≤100000000) :
  ACalls Tryz.prog 60 [.d (ZaH false g),.d (ZaZ false false ss),.d (ZaE false x)] [] (.tup [.d (ZaE false (bkN g ss ss.length x).1),.d (ZaN (bkN g ss ss.length x).2)]) []:=by
 refine ACalls.intro (n:=43) Tryz.func60 rfl rfl (by simp) (by rfl) ?_
 simp only[Zak]
 generalize hr:bkN g ss ss.length x=r
 repeat (first|refine wk ?_|refine Zaa (hr:=?_))
 refine Zai (X:=Nat×Tree) (fun y=>y.1≤ss.length∧cnt y.2≤100000000∧bkN g ss y.1 y.2=r) (fun y=>[(8,I ((y.1:Int) - 1)),(3,.ptr 3 0),(5,.ptr 5 0),(6,.ptr 6 0),(7,.ptr 7 0),(0+1,.d (ZaZ false false ss))]) (fun y=>[(3,Zar false g),(5,Zhn false y.2),(6,.box 56 [.d (iD 0),.d nilT]),(7,.box 31 [.d (iD 0),.d (iD 0)])]) (fun y=>y.1) (ss.length,x) ⟨Nat.le_refl _,hx,hr⟩ ?_
 rintro⟨k,y⟩ ⟨i1,i2,i3⟩
 dsimp only at i1 i2 i3 ⊢
 cases k with
 | zero =>
  rw[bkN] at i3
  subst i3
  repeat (first|refine wk ?_|refine Zaa (hr:=?_))
  exact fin2
 | succ n =>
  have hlt:n < ss.length:=by omega
  rw[Zn3 hlt] at i3
  rw[show (((n+1:Nat):Int)) - 1=(n:Int) by omega]
  have hla:=Zdx (t:=false) (u:=false) (v:=false) (g:=g) (ss:=ss.take n) (by rw[List.length_take];omega) (t':=false) (by simp)
  have hlf:=Zbf hf (ss:=ss.take n) (fun s hs'=>hs s (List.mem_of_mem_take hs'))
  have hbk:ACalls Tryz.prog 62 [.d (ZaH false (ZaA g (ss.take n))),.d (stpV false ss[n]),.d (ZaE false y)] [] (.tup [.d (ZaE false (ZaL (ZaA g (ss.take n)) ss[n] y).1),.d (ZaN (ZaL (ZaA g (ss.take n)) ss[n] y).2)]) []:=Zhf hlf (hs _ (List.getElem_mem hlt)) i2
  have hcn:=ZfD (old:=ZaA g (ss.take n)) (s:=ss[n]) (x:=y)
  by_cases hc:(ZaL (ZaA g (ss.take n)) ss[n] y).2.code=0
  ·rw[if_neg (fun q=>q hc)] at i3
   repeat (first|refine wk ?_|refine Zaa (hr:=?_))
   rw[ZaQ]
   refine Zab [] (hA:=hla) (hr:=?_)
   repeat (first|refine wk ?_|refine Zaa (hr:=?_))
   refine Zab [] (hA:=hbk) (hr:=?_)
   repeat (first|refine wk ?_|refine Zaa (hr:=?_))
   exact Zad (n,(ZaL (ZaA g (ss.take n)) ss[n] y).1) (a:=⟨by dsimp only;omega,by dsimp only;omega,i3⟩) (b:=by dsimp only;omega)
  ·rw[if_pos hc] at i3
   subst i3
   repeat (first|refine wk ?_|refine Zaa (hr:=?_))
   rw[ZaQ]
   refine Zab [] (hA:=hla) (hr:=?_)
   repeat (first|refine wk ?_|refine Zaa (hr:=?_))
   refine Zab [] (hA:=hbk) (hr:=?_)
   repeat (first|refine wk ?_|refine Zaa (hr:=?_))
   refine Zab [] (hA:=ZbC) (hr:=?_)
   repeat (first|refine wk ?_|refine Zaa (hr:=?_))
   exact fin2
set_option maxHeartbeats 4000000 in
theorem ZmL {g:Gram} {ss:List Step} {x:Tree} (hf:g.fit) (hs:∀ s∈ss,s.fit) (hl:ss.length≤100000000) (hx:cnt x≤100000000) :
  ACalls Tryz.prog 30 [.d (ZaH false g),.d (ZaZ false false ss),.d (ZaE false x)] [] (.tup [.d (ZaE false (ZfC g ss x).1),.d (ZaN (ZfC g ss x).2)]) []:=by
 refine ACalls.intro (n:=38) Tryz.func30 rfl rfl (by simp) (by rfl) ?_
 simp only[Zak]
 have hck:=ZeQ (t:=false) (u:=false) (v:=false) hf hs hl
 have hla:=Zdx (t:=false) (u:=false) (v:=false) (g:=g) (ss:=ss) hl (t':=false) (by simp)
 have hlf:=Zbf hf hs
 have htc:=ZcN (t:=false) (u:=false) (v:=(ZaA g ss).start) hlf.rules hlf.right hx
 have hlb:=ZmK hf hs hl hx
 have hr:∃ r,ZfC g ss x=r:=⟨_,rfl⟩
 obtain⟨r,hr⟩:=hr
 rw[hr]
 unfold ZfC at hr
 generalize bkN g ss ss.length x=BK at *
 generalize ZaA g ss=L at *
 generalize Zaw L x L.start=TF at *
 generalize chnF g ss=CF at *
 by_cases h0:CF.code=0
 ·rw[if_neg (fun q=>q h0)] at hr
  by_cases h1:TF.code=0
  ·rw[if_neg (fun q=>q h1)] at hr
   subst hr
   repeat (first|refine wk ?_|refine Zaa (hr:=?_))
   refine Zab [] (hA:=hck) (hr:=?_)
   repeat (first|refine wk ?_|refine Zaa (hr:=?_))
   refine Zab [] (hA:=hla) (hr:=?_)
   repeat (first|refine wk ?_|refine Zaa (hr:=?_))
   refine Zab [] (hA:=htc) (hr:=?_)
   repeat (first|refine wk ?_|refine Zaa (hr:=?_))
   refine Zab [] (hA:=hlb) (hr:=?_)
   repeat (first|refine wk ?_|refine Zaa (hr:=?_))
   exact fin2
  ·rw[if_pos h1] at hr
   subst hr
   repeat (first|refine wk ?_|refine Zaa (hr:=?_))
   refine Zab [] (hA:=hck) (hr:=?_)
   repeat (first|refine wk ?_|refine Zaa (hr:=?_))
   refine Zab [] (hA:=hla) (hr:=?_)
   repeat (first|refine wk ?_|refine Zaa (hr:=?_))
   refine Zab [] (hA:=htc) (hr:=?_)
   repeat (first|refine wk ?_|refine Zaa (hr:=?_))
   exact fin2
 ·rw[if_pos h0] at hr
  subst hr
  repeat (first|refine wk ?_|refine Zaa (hr:=?_))
  refine Zab [] (hA:=hck) (hr:=?_)
  repeat (first|refine wk ?_|refine Zaa (hr:=?_))
  exact fin2
end Go.Proofs.YtbpmepgnjanhnaaGreat
namespace Go.Proofs.YtbpmepgnjanhnaaGreat
open Go.RowKit
set_option maxRecDepth 100000
theorem ZmM (x:Tree):∀ (acc:List Tree) (k:Nat),k≤acc.length→(∀ z∈acc.drop k,0 < ordT z x)→(k=0∨∃ j,∃ h:j < acc.length,j+1=k∧ordT acc[j] x≤0)→insT x acc=acc.take k++x::acc.drop k
 | [],k,hk,_,_=>by
  obtain rfl:k=0:=by simpa using hk
  rfl
 | y::l,k,hk,h1,h2=>by
  rw[insT]
  cases k with
  | zero =>
   rw[if_pos (by simpa using h1)]
   rfl
  | succ k =>
   rcases h2 with h2|⟨j,hj,e,h2⟩
   ·cases h2
   obtain rfl:j=k:=by omega
   rw[if_neg (fun q=>by
    have:=(List.all_eq_true.1 q) _ (List.getElem_mem hj)
    have:=of_decide_eq_true this
    omega)]
   rw[ZmM x l j (by simpa using hk) h1 (by
    cases j with
    | zero=>exact .inl rfl
    | succ j=>exact .inr ⟨j,by simpa using hj,rfl,by simpa using h2⟩)]
   rfl
theorem Zi2 {l:List Tree} {i:Nat} (h:i < l.length):ZcP (l.take (i+1))=insT l[i] (ZcP (l.take i)):=by
 unfold ZcP
 rw[List.take_succ_eq_append_getElem h,List.foldl_append]
 rfl
theorem ZjT {α:Type} {acc:List α} {k:Nat} {x y:α} (hk:k≤acc.length):(acc.take k++y::acc.drop k).set k x=acc.take k++x::acc.drop k:=by
 rw[List.set_append_right _ _ (by rw[List.length_take];omega),List.length_take,Nat.min_eq_left hk,Nat.sub_self,List.set_cons_zero]
theorem Zte {α:Type} {acc:List α} {k:Nat} {y:α} (hk:0 < k) (hp:k - 1 < acc.length):(acc.take k++y::acc.drop k).set k acc[k - 1]=acc.take (k - 1)++acc[k - 1]::acc.drop (k - 1):=by
 rw[ZjT (by omega)]
 obtain⟨j,rfl⟩:∃ j,k=j+1:=⟨k - 1,by omega⟩
 simp only[Nat.add_sub_cancel] at hp ⊢
 rw[List.take_succ_eq_append_getElem hp,List.drop_eq_getElem_cons hp,List.append_assoc]
 rfl
set_option maxHeartbeats 4000000 in
theorem ZjU {t u:Bool} {l:List Tree} (hl:l.length≤100000000) (hc:∀ x∈l,cnt x≤100000000):ACalls Tryz.prog 21 [.d (.sl t 2 (l.map (Zat u)))] [] (.d (.sl false 2 ((ZcP l).map (Zat u)))) []:=by
 refine ACalls.intro (n:=54) Tryz.func21 rfl rfl (by simp) (by rfl) ?_
 simp only[Zak]
 repeat (first|refine wk ?_|refine Zaa (hr:=?_))
 refine ZaU 3 900 56 2 rfl rfl rfl ?_
 refine Zai (X:=Nat×List Tree) (fun y=>y.1≤l.length∧y.2.length=y.1∧y.2=ZcP (l.take y.1)) (fun y=>[(4,I y.1),(3,.own 900 y.2.length),(0,.d (.sl t 2 (l.map (Zat u))))]) (fun y=>[(900,.row 56 2 (y.2.map (Zat u)))]) (fun y=>l.length - y.1) (0,[]) ⟨Nat.zero_le _,rfl,rfl⟩ ?_
 rintro⟨i,acc⟩ ⟨h1,h2,h3⟩
 dsimp only at h1 h2 h3 ⊢
 by_cases hlt:i < l.length
 ·have e1:acc.map (Zat u)++[.agg [iD l[i].rule,Zal u l[i].kids]]=(acc++[l[i]]).map (Zat u):=by rw[List.map_append,List.map_cons,List.map_nil,Zbi]
  have hmem:∀ z∈acc,cnt z≤100000000:=fun z hz=>hc z (List.mem_of_mem_take (i:=i) ((Zdw _).mem_iff.1 (h3 ▸ hz)))
  have hx:=hc _ (List.getElem_mem hlt)
  repeat (first|refine wk ?_|refine Zaa (hr:=?_))
  obtain rfl:acc.length=i:=h2
  rw[e1]
  refine Zai (X:=Nat×List Tree) (fun y=>y.1≤acc.length∧y.2.length=acc.length+1∧(∃ z,y.2=acc.take y.1++z::acc.drop y.1)∧(∀ z∈acc.drop y.1,0 < ordT z l[acc.length])∧∀ z∈y.2,cnt z≤100000000) (fun y=>[(5,I y.1),(4,I acc.length),(3,.own 900 y.2.length),(0,.d (.sl t 2 (l.map (Zat u))))]) (fun y=>[(900,.row 56 2 (y.2.map (Zat u)))]) (fun y=>y.1) (acc.length,acc++[l[acc.length]]) ⟨Nat.le_refl _,by simp,⟨l[acc.length],by rw[List.take_length,List.drop_length]⟩,by rw[List.drop_length];simp,fun z hz=>by
   rcases List.mem_append.1 hz with hz|hz
   ·exact hmem z hz
   ·rw[List.mem_singleton.1 hz];exact hx⟩ ?_
  rintro⟨k,L⟩ ⟨k1,k2,⟨y,k3⟩,k4,k5⟩
  dsimp only at k1 k2 k3 k4 k5 ⊢
  have hkL:k < L.length:=by omega
  have eLl:L.length=(insT l[acc.length] acc).length:=by rw[(Zdv l[acc.length] acc).length_eq,k2];rfl
  have hlk:L.take k=acc.take k:=by rw[k3,List.take_append_of_le_length (by rw[List.length_take];omega),List.take_take,Nat.min_self]
  by_cases hk0:0 < k
  ·have hp:k - 1 < L.length:=by omega
   have ep:(k:Int) - 1=((k - 1:Nat):Int):=by omega
   have eL:L[k - 1]=acc[k - 1]'(by omega):=by
    have:=congrArg (fun z=>z[k - 1]?) hlk
    simp only[List.getElem?_take,show k - 1 < k by omega,if_true] at this
    rw[List.getElem?_eq_getElem hp,List.getElem?_eq_getElem (by omega)] at this
    exact Option.some.inj this
   have ho:=ZhF (t:=u) (u:=u) L[k - 1] (k5 _ (List.getElem_mem hp)) l[acc.length] hx
   by_cases hgt:0 < ordT L[k - 1] l[acc.length]
   ·have hpk:k - 1 < acc.length:=by omega
    have es:(L.map (Zat u)).set k (.agg [iD L[k - 1].rule,Zal u L[k - 1].kids])=(acc.take (k - 1)++acc[k - 1]::acc.drop (k - 1)).map (Zat u):=by
     rw[←Zbi,←List.map_set]
     congr 1
     rw[eL]
     exact (congrArg (fun z=>z.set k acc[k - 1]) k3).trans (Zte hk0 hpk)
    repeat (first|refine wk ?_|refine Zaa (hr:=?_))
    rw[ep]
    repeat (first|refine wk ?_|refine Zaa (hr:=?_))
    refine Zab [] (hA:=ho) (hr:=?_)
    repeat (first|refine wk ?_|refine Zaa (hr:=?_))
    rw[es,ep]
    exact Zad (k - 1,acc.take (k - 1)++acc[k - 1]::acc.drop (k - 1)) (a:=⟨by dsimp only;omega,by simp;omega,⟨_,rfl⟩,fun z hz=>by
     dsimp only at hz
     rw[List.drop_eq_getElem_cons hpk,show k - 1+1=k by omega] at hz
     rcases List.mem_cons.1 hz with rfl|hz
     ·rw[←eL];exact hgt
     ·exact k4 z hz,fun z hz=>by
     rcases List.mem_append.1 hz with hz|hz
     ·exact hmem z (List.mem_of_mem_take hz)
     ·rcases List.mem_cons.1 hz with rfl|hz
      ·exact hmem _ (List.getElem_mem _)
      ·exact hmem z (List.mem_of_mem_drop hz)⟩) (b:=by dsimp only;omega)
   ·repeat (first|refine wk ?_|refine Zaa (hr:=?_))
    rw[ep]
    repeat (first|refine wk ?_|refine Zaa (hr:=?_))
    refine Zab [] (hA:=ho) (hr:=?_)
    repeat (first|refine wk ?_|refine Zaa (hr:=?_))
    rw[show (L.map (Zat u)).set k (.agg [iD l[acc.length].rule,Zal u l[acc.length].kids])=(insT l[acc.length] acc).map (Zat u) by
     rw[←Zbi,←List.map_set,ZmM l[acc.length] acc k k1 k4 (by exact .inr ⟨k - 1,by omega,by omega,by rw[←eL];omega⟩)]
     congr 1
     exact (congrArg (fun z=>z.set k l[acc.length]) k3).trans (ZjT k1)]
    rw[eLl];exact Zad (acc.length+1,insT l[acc.length] acc) (a:=⟨by dsimp only;omega,by have:=(Zdv l[acc.length] acc).length_eq;simpa using this,by rw[Zi2 hlt,←h3]⟩) (b:=by dsimp only;omega)
  ·obtain rfl:k=0:=by omega
   (repeat (first|refine wk ?_|refine Zaa (hr:=?_)))
   (repeat (first|refine wkz ?_|refine Zaa (hr:=?_)))
   rw[show (L.map (Zat u)).set 0 (.agg [iD l[acc.length].rule,Zal u l[acc.length].kids])=(insT l[acc.length] acc).map (Zat u) by
     rw[←Zbi,←List.map_set,ZmM l[acc.length] acc 0 k1 k4 (by exact .inl rfl)]
     congr 1
     exact (congrArg (fun z=>z.set 0 l[acc.length]) k3).trans (ZjT k1)]
   rw[eLl];exact Zad (acc.length+1,insT l[acc.length] acc) (a:=⟨by dsimp only;omega,by have:=(Zdv l[acc.length] acc).length_eq;simpa using this,by rw[Zi2 hlt,←h3]⟩) (b:=by dsimp only;omega)
 ·obtain rfl:i=l.length:=by omega
  rw[List.take_length] at h3
  subst h3
  refine ZaF 900 rfl ?_
  repeat (first|refine wk ?_|refine Zaa (hr:=?_))
  exact fin
end Go.Proofs.YtbpmepgnjanhnaaGreat
namespace Go.Proofs.YtbpmepgnjanhnaaGreat
open Go.RowKit
set_option maxRecDepth 100000
theorem ZjV {P:Program} {n:Nat} {Q:Exit→Fr→Hp→Prop} {fr:Fr} {h:Hp} {c:Code} (i k:Nat) {m e sz:Nat} {xs:List D} (hi:fget fr i=.own k m) (hk:hget h k=some (.row e sz xs)) (hm:xs.length=m)
  (hc:aw P n c Q ((i,.d (.sl false sz xs))::fr) ((k,.froz sz xs)::h)):aw P n c Q fr h :=
 ZaF k hk (Zu7 i (v:=.d (.sl false sz xs)) (by rw[hi];exact Co.froz (Zaf _ _ _) hm.symm) rfl hc)
set_option maxHeartbeats 8000000 in
theorem ZjW {g:Gram} {ss:List Step} {w:List Int} (hf:g.fit) (hs:∀ s∈ss,s.fit) (hl:ss.length≤100000000) (hw:w.length≤100000000) :
  ACalls Tryz.prog 31 [.d (ZaH false g),.d (ZaZ false false ss),.d (ints false w)] [] (.tup [.d (Zal false (ZcY g ss w).1),.d (ZaN (ZcY g ss w).2)]) []:=by
 refine ACalls.intro (n:=90) Tryz.func31 rfl rfl (by simp) (by rfl) ?_
 simp only[Zak]
 have hck:=ZeQ (t:=false) (u:=false) (v:=false) hf hs hl
 have hla:=Zdx (t:=false) (u:=false) (v:=false) (g:=g) (ss:=ss) hl (t':=false) (by simp)
 have hlf:=Zbf hf hs
 have hfl:=Zmh (t:=false) (u:=false) (g:=ZaA g ss) (w:=w) hlf hw
 have hfb:(ZaG (ZaA g ss) w).2.code=0→(ZaG (ZaA g ss) w).1.length≤200∧∀ x∈(ZaG (ZaA g ss) w).1,cnt x≤400:=fun h=>by
  have hok:=Zkb h
  exact⟨by rw[hok.len];exact hok.few,fun x hx=>(hok.mem hx).2⟩
 have hr:∃ r,ZcY g ss w=r:=⟨_,rfl⟩
 obtain⟨r,hr⟩:=hr
 rw[hr]
 unfold ZcY at hr
 have hcf:=fun h=>(ZmX (g:=g) (ss:=ss) h).2
 generalize ZaG (ZaA g ss) w=FL at *
 generalize ZaA g ss=L at *
 generalize chnF g ss=CF at *
 by_cases h0:CF.code=0
 ·rw[if_neg (fun q=>q h0)] at hr
  obtain⟨h8,hst⟩:=hcf h0
  by_cases h1:FL.2.code=0
  ·rw[if_neg (fun q=>q h1)] at hr
   obtain⟨hl200,hc400⟩:=hfb h1
   repeat (first|refine wk ?_|refine Zaa (hr:=?_))
   refine Zab [] (hA:=hck) (hr:=?_)
   repeat (first|refine wk ?_|refine Zaa (hr:=?_))
   refine Zab [] (hA:=hla) (hr:=?_)
   repeat (first|refine wk ?_|refine Zaa (hr:=?_))
   refine Zab [] (hA:=hfl) (hr:=?_)
   repeat (first|refine wk ?_|refine Zaa (hr:=?_))
   clear hfl hfb hla hcf hlf hck
   obtain⟨l0,fc,fa⟩:=FL
   dsimp only at h1 hr hl200 hc400 ⊢
   refine Zai (X:=Nat×List Tree) (fun y=>y.1≤ss.length∧y.2.length+200 * y.1≤1800∧(∀ x∈y.2,cnt x≤400)∧trN g ss w y.1 y.2=r) (fun y=>[(11,I ((y.1:Int) - 1)),(9,.d (Zal false y.2)),(7,.ptr 7 0),(3,.ptr 3 0),(0+1,.d (ZaZ false false ss)),(0+1+1,.d (ints false w))]) (fun y=>[(7,.box 31 [.d (iD 0),.d (iD 0)]),(3,Zar false g)]) (fun y=>y.1) (ss.length,l0) ⟨Nat.le_refl _,by dsimp only;omega,hc400,hr⟩ ?_
   clear hr hl200 hc400
   rintro⟨k,l⟩ ⟨i1,i2,i3,i4⟩
   dsimp only at i1 i2 i3 i4 ⊢
   cases k with
   | zero =>
    rw[trN] at i4
    subst i4
    have hso:=ZjU (t:=false) (u:=false) (l:=l) (by omega) (fun x hx=>Nat.le_trans (i3 x hx) (by decide))
    repeat (first|refine wk ?_|refine Zaa (hr:=?_))
    refine Zab [] (hA:=hso) (hr:=?_)
    repeat (first|refine wk ?_|refine Zaa (hr:=?_))
    exact fin
   | succ n =>
    have hlt:n < ss.length:=by omega
    rw[ZjQ hlt] at i4
    rw[show (((n+1:Nat):Int)) - 1=(n:Int) by omega]
    have hla:=Zdx (t:=false) (u:=false) (v:=false) (g:=g) (ss:=ss.take n) (by rw[List.length_take];omega) (t':=false) (by simp)
    have hlf:=Zbf hf (ss:=ss.take n) (fun s hs'=>hs s (List.mem_of_mem_take hs'))
    have hse:=Zf7 (hst n hlt)
    generalize hL:ZaA g (ss.take n)=old at *
    have hbk:∀ y:Tree,cnt y≤400→ACalls Tryz.prog 62 [.d (ZaH false old),.d (stpV false ss[n]),.d (ZaE false y)] [] (.tup [.d (ZaE false (ZaL old ss[n] y).1),.d (ZaN (ZaL old ss[n] y).2)]) []:=fun y hy=>Zhf hlf (hs _ (List.getElem_mem hlt)) (by omega)
    have hR:∃ R,ledA old ss[n] l []=R:=⟨_,rfl⟩
    obtain⟨R,hR⟩:=hR
    have hRk:=fun z (h:R=.ok z)=>Zkc (hR.trans h) (fun x hx=>(by cases hx))
    rw[hR] at i4
    repeat (first|refine wk ?_|refine Zaa (hr:=?_))
    refine ZaU 12 912 56 2 rfl rfl rfl ?_
    repeat (first|refine wk ?_|refine Zaa (hr:=?_))
    refine Zai (X:=Nat×List Tree) (fun y=>y.1≤l.length∧y.2.length=y.1∧ledA old ss[n] (l.drop y.1) y.2=R) (fun y=>[(13,I y.1),(12,.own 912 y.2.length),(11,I n),(9,.d (Zal false l)),(7,.ptr 7 0),(3,.ptr 3 0),(0+1,.d (ZaZ false false ss)),(0+1+1,.d (ints false w))]) (fun y=>[(912,.row 56 2 (y.2.map (Zat false))),(7,.box 31 [.d (iD 0),.d (iD 0)]),(3,Zar false g)]) (fun y=>l.length - y.1) (0,[]) ⟨Nat.zero_le _,rfl,hR⟩ ?_
    rintro⟨j,out⟩ ⟨j1,j2,j3⟩
    dsimp only at j1 j2 j3 ⊢
    by_cases hjl:j < l.length
    ·have hb:=hbk l[j] (i3 _ (List.getElem_mem hjl))
     rw[Zk0 hjl] at j3
     by_cases hc:(ZaL old ss[n] l[j]).2.code=0
     ·rw[if_neg (fun q=>q hc)] at j3
      have ec:out.map (Zat false)++[.agg [iD (ZaL old ss[n] l[j]).1.rule,Zal false (ZaL old ss[n] l[j]).1.kids]]=(out++[(ZaL old ss[n] l[j]).1]).map (Zat false):=by rw[List.map_append,List.map_cons,List.map_nil,Zbi]
      repeat (first|refine wk ?_|refine Zaa (hr:=?_))
      rw[ZaQ]
      refine Zab [] (hA:=hla) (hr:=?_)
      repeat (first|refine wk ?_|refine Zaa (hr:=?_))
      refine Zab [] (hA:=hb) (hr:=?_)
      repeat (first|refine wk ?_|refine Zaa (hr:=?_))
      rw[ec]
      exact Zad (j+1,out++[(ZaL old ss[n] l[j]).1]) (a:=⟨by dsimp only;omega,by simp[j2],j3⟩) (b:=by dsimp only;omega)
     ·rw[if_pos hc] at j3
      subst j3
      dsimp only at i4
      subst i4
      repeat (first|refine wk ?_|refine Zaa (hr:=?_))
      rw[ZaQ]
      refine Zab [] (hA:=hla) (hr:=?_)
      repeat (first|refine wk ?_|refine Zaa (hr:=?_))
      refine Zab [] (hA:=hb) (hr:=?_)
      repeat (first|refine wk ?_|refine Zaa (hr:=?_))
      refine Zab [] (hA:=ZbC) (hr:=?_)
      repeat (first|refine wk ?_|refine Zaa (hr:=?_))
      exact fin
    ·have hj:j=l.length:=by omega
     subst hj
     rw[List.drop_length,ledA] at j3
     subst j3
     dsimp only at i4
     obtain⟨z1,z2⟩:=hRk _ rfl
     have hse2:=hse.1
     have hend:∀ (z:List Tree),z=out++(if w.length=0 then ss[n].empty else [])→z.length+200 * n≤1800∧(∀ x∈z,cnt x≤400)∧trN g ss w n z=r:=fun z hz=>by
      subst hz
      refine⟨?_,fun x hx=>?_,i4⟩
      ·rw[List.length_append]
       split <;> (try simp only[List.length_nil]) <;> omega
      ·rcases List.mem_append.1 hx with hx|hx
       ·exact z2 x hx
       ·split at hx
        ·exact hse.2 x hx
        ·cases hx
     by_cases hw0:w.length=0
     ·rw[if_pos hw0] at hend
      obtain⟨b1,b2,b3⟩:=hend _ rfl
      have ec:out.map (Zat false)++ss[n].empty.map (Zat false)=(out++ss[n].empty).map (Zat false):=by rw[List.map_append]
      repeat (first|refine ZjV 9 912 rfl rfl (by simp) ?_|refine wk1 ?_)
      rw[ec]
      exact Zad (n,out++ss[n].empty) (a:=⟨by dsimp only;omega,b1,b2,b3⟩) (b:=by dsimp only;omega)
     ·rw[if_neg hw0,List.append_nil] at hend
      obtain⟨b1,b2,b3⟩:=hend _ rfl
      repeat (first|refine ZjV 9 912 rfl rfl (by simp) ?_|refine wk1 ?_)
      exact Zad (n,out) (a:=⟨by dsimp only;omega,b1,b2,b3⟩) (b:=by dsimp only;omega)
  ·rw[if_pos h1] at hr
   subst hr
   repeat (first|refine wk ?_|refine Zaa (hr:=?_))
   refine Zab [] (hA:=hck) (hr:=?_)
   repeat (first|refine wk ?_|refine Zaa (hr:=?_))
   refine Zab [] (hA:=hla) (hr:=?_)
   repeat (first|refine wk ?_|refine Zaa (hr:=?_))
   refine Zab [] (hA:=hfl) (hr:=?_)
   repeat (first|refine wk ?_|refine Zaa (hr:=?_))
   exact fin
 ·rw[if_pos h0] at hr
  subst hr
  repeat (first|refine wk ?_|refine Zaa (hr:=?_))
  refine Zab [] (hA:=hck) (hr:=?_)
  repeat (first|refine wk ?_|refine Zaa (hr:=?_))
  exact fin
end Go.Proofs.YtbpmepgnjanhnaaGreat
namespace Go.Proofs.YtbpmepgnjanhnaaGreat
open Go.RowKit
set_option maxRecDepth 100000
end Go.Proofs.YtbpmepgnjanhnaaGreat
namespace Go.Proofs.YtbpmepgnjanhnaaGreat
open Go.RowKit
set_option maxRecDepth 100000
theorem decF (f:Zb5):decide (f=f)=true:=by simp
end Go.Proofs.YtbpmepgnjanhnaaGreat
namespace Go.Proofs.YtbpmepgnjanhnaaGreat
open Go.RowKit
set_option maxRecDepth 100000
theorem ZqV {g:Gram} {ss:List Step}:∀ (k:Nat) {t:Tree},cnt t≤100000000→cnt (bkN g ss k t).1≤100000000
 | 0,t,h=>by rw[bkN];exact h
 | k+1,t,h=>by
  rw[bkN]
  split
  ·show cnt ZaO≤_;decide
  ·exact ZqV k (Nat.le_trans ZfD (by decide))
theorem Zk9 {g:Gram} {ss:List Step} {t:Tree} (h:cnt t≤100000000):cnt (ZfC g ss t).1≤100000000:=by
 have hz:cnt ZaO≤100000000:=by decide
 unfold ZfC
 split
 ·exact hz
 ·split
  ·exact hz
  ·exact ZqV _ h
theorem Zpq {l:List Tree} (h:∀ x∈l,cnt x≤400):cnts l≤400 * l.length:=by
 induction l with
 | nil=>simp[cnts]
 | cons x l ih =>
  have h1:=h x (by simp)
  have h2:=ih fun y hy=>h y (by simp[hy])
  rw[cnts,List.length_cons,Nat.mul_add];omega
theorem Zod {g:Gram} {ss:List Step} {w:List Int} (hst:∀ (k:Nat) (h:k < ss.length),(Zas (ZaA g (ss.take k)) ss[k]).code=0):∀ (k:Nat) {l:List Tree},k≤ss.length→l.length+200 * k≤1800→(∀ x∈l,cnt x≤400)→cnts (trN g ss w k l).1≤100000000
 | 0,l,_,h1,h2=>by
  rw[trN]
  have hp:=Zdw l
  have:=Zpq (l:=ZcP l) fun x hx=>h2 x (hp.mem_iff.1 hx)
  rw[hp.length_eq] at this
  show cnts (ZcP l)≤_
  omega
 | k+1,l,hk,h1,h2=>by
  have hlt:k < ss.length:=by omega
  have hse:=Zf7 (hst k hlt)
  rw[ZjQ hlt]
  cases hc:ledA (ZaA g (ss.take k)) ss[k] l [] with
  | error c=>show cnts []≤_;simp[cnts]
  | ok z =>
   obtain⟨z1,z2⟩:=Zkc hc (fun x hx=>by cases hx)
   rw[List.length_nil,Nat.zero_add] at z1
   refine Zod hst k (by omega) ?_ fun x hx=>?_
   ·rw[List.length_append]
    have:=hse.1
    split <;> (try simp only[List.length_nil]) <;> omega
   ·rcases List.mem_append.1 hx with hx|hx
    ·exact z2 x hx
    ·split at hx
     ·exact hse.2 x hx
     ·cases hx
theorem ZmN {g:Gram} {ss:List Step} {w:List Int}:cnts (ZcY g ss w).1≤100000000:=by
 have hz:cnts []≤100000000:=by simp[cnts]
 unfold ZcY
 split
 ·exact hz
 ·rename_i h0
  obtain⟨_,h8,hst⟩:=ZmX (Classical.byContradiction h0)
  split
  ·exact hz
  ·rename_i h1
   have hok:=Zkb (Classical.byContradiction h1)
   refine Zod hst _ (Nat.le_refl _) ?_ fun x hx=>(hok.mem hx).2
   rw[hok.len]
   have:=hok.few
   omega
def ZmO (ss:List Step):Bool:=decide (20 < ss.length) || ss.any Zd3
set_option maxHeartbeats 4000000 in
theorem Ziw {ss:List Step} (hs:∀ s∈ss,s.fit) (hl:ss.length≤100000000) :
  ACalls Tryz.prog 25 [.d (ZaZ false false ss)] [] (B (ZmO ss)) []:=by
 refine ACalls.intro (n:=18) Tryz.func25 rfl rfl (by simp) (by rfl) ?_
 simp only[Zak]
 unfold ZmO
 by_cases h20:20 < ss.length
 ·rw[decide_eq_true h20,Bool.true_or]
  repeat (first|refine wk ?_|refine Zaa (hr:=?_))
  exact fin
 ·rw[decide_eq_false h20,Bool.false_or]
  repeat (first|refine wk ?_|refine Zaa (hr:=?_))
  refine Zai (X:=Nat) (fun i=>i≤ss.length∧∀ s∈ss.take i,Zd3 s=false) (fun i=>[(3,I i),(0,.d (ZaZ false false ss))]) (fun _=>[]) (fun i=>ss.length - i) 0 ⟨Nat.zero_le _,fun s h=>by simp at h⟩ ?_
  rintro i ⟨hi,hn⟩
  by_cases hlt:i < ss.length
  ·have hg:ACalls Tryz.prog 55 [.d (stpV false ss[i])] [] (B (Zd3 ss[i])) []:=ZjF (hs _ (List.getElem_mem hlt))
   cases hc:Zd3 ss[i] with
   | true =>
    rw[hc] at hg
    rw[show ss.any Zd3=true from List.any_eq_true.2 ⟨_,List.getElem_mem hlt,hc⟩]
    repeat (first|refine wk ?_|refine Zaa (hr:=?_))
    refine Zab [] (hA:=hg) (hr:=?_)
    repeat (first|refine wk ?_|refine Zaa (hr:=?_))
    exact fin
   | false =>
    rw[hc] at hg
    repeat (first|refine wk ?_|refine Zaa (hr:=?_))
    refine Zab [] (hA:=hg) (hr:=?_)
    repeat (first|refine wk ?_|refine Zaa (hr:=?_))
    exact Zad (i+1) (a:=⟨by omega,fun s h=>by
     rw[List.take_succ_eq_append_getElem hlt] at h
     rcases List.mem_append.1 h with h|h
     ·exact hn s h
     ·rw[List.mem_singleton.1 h];exact hc⟩)
  ·have hi:i=ss.length:=by omega
   subst hi
   rw[List.take_length] at hn
   have hany:ss.any Zd3=false:=by
    rw[List.any_eq_false];intro s h;rw[hn s h];decide
   rw[hany]
   repeat (first|refine wk ?_|refine Zaa (hr:=?_))
   exact fin
set_option maxHeartbeats 8000000 in
theorem Zhz {g:Gram} {ss:List Step} {x:Tree} {w:List Int} (hf:g.fit) (hs:∀ s∈ss,s.fit) (hl:ss.length≤100000000) (hx:cnt x≤100000000) (hw:w.length≤100000000) :
  ACalls Tryz.prog 7 [.d (ZaH false g),.d (ZaZ false false ss),.d (ZaE false x),.d (ints false w)] [] (B true) []:=by
 refine ACalls.intro (n:=125) Tryz.func7 rfl rfl (by simp) (by rfl) ?_
 simp only[Zak]
 have hgr:=ZcL (t:=false) hf.rules hf.right
 have hgs:=Ziw hs hl
 have hgt:=ZdI (t:=false) hx
 have hla:=Zdx (t:=false) (u:=false) (v:=false) (g:=g) (ss:=ss) hl (t':=false) (by simp)
 have hhv:=Zrq (t:=false) (u:=false) (g:=ZaA g ss) (w:=w) (Zbf hf hs) hw
 have hot:=ZhA (t:=false) x hx
 have hba:=Zpg (t:=false) (u:=false) (v:=false) (a:=false) (x:=x) hf hs hl hx
 have hbr:=ZmL (x:=x) hf hs hl hx
 have htr:=Zho (w:=w) hf hs hl hw
 have htb:=ZjW (w:=w) hf hs hl hw
 have hck:=ZeU (t:=false) (u:=false) (v:=false) hf hs hl
 have hcf:=ZeQ (t:=false) (u:=false) (v:=false) hf hs hl
 repeat (first|refine wk ?_|refine Zaa (hr:=?_))
 refine Zab [] (hA:=Ziv) (hr:=?_)
 repeat (first|refine wk ?_|refine Zaa (hr:=?_))
 refine Zab [] (hA:=hgr) (hr:=?_)
 cases h1:Zdn g with
 | true=>repeat (first|refine wk ?_|refine Zaa (hr:=?_));exact fin
 | false =>
 repeat (first|refine wk ?_|refine Zaa (hr:=?_))
 refine Zab [] (hA:=hgs) (hr:=?_)
 cases h2:ZmO ss with
 | true=>repeat (first|refine wk ?_|refine Zaa (hr:=?_));exact fin
 | false =>
 repeat (first|refine wk ?_|refine Zaa (hr:=?_))
 refine Zab [] (hA:=hgt) (hr:=?_)
 cases h3:ZeH x with
 | true=>repeat (first|refine wk ?_|refine Zaa (hr:=?_));exact fin
 | false =>
 repeat (first|refine wk ?_|refine Zaa (hr:=?_))
 refine Zab [] (hA:=hla) (hr:=?_)
 repeat (first|refine wk ?_|refine Zaa (hr:=?_))
 refine Zab [] (hA:=hhv) (hr:=?_)
 cases h4:Zrp (ZaA g ss) w with
 | true=>repeat (first|refine wk ?_|refine Zaa (hr:=?_));exact fin
 | false =>
 clear hgr hgs hgt hla hhv
 repeat (first|refine wk ?_|refine Zaa (hr:=?_))
 refine ZaU 9 909 39 6 rfl rfl rfl ?_
 repeat (first|refine wk ?_|refine Zaa (hr:=?_))
 refine Zai (X:=Nat) (fun i=>i≤ss.length) (fun i=>[(10,I i),(9,.own 909 (ss.take i).length),(4,.ptr 4 0),(6,.ptr 6 0),(0+1,.d (ZaZ false false ss)),(3,.d (ints false w))]) (fun i=>[(909,.row 39 6 ((ss.take i).map (Zbv false))),(4,Zar false g),(6,Zhn false x)]) (fun i=>ss.length - i) 0 (Nat.zero_le _) ?_
 intro i hi
 have htk:(ss.take i).length=i:=by simp;omega
 by_cases hlt:i < ss.length
 ·have how:ACalls Tryz.prog 27 [.d (stpV false ss[i])] [] (.d (Zbv false ss[i])) []:=Zml (hs _ (List.getElem_mem hlt))
  have e:(ss.take i).map (Zbv false)++[Zbv false ss[i]]=(ss.take (i+1)).map (Zbv false):=by rw[List.take_succ_eq_append_getElem hlt,List.map_append];rfl
  repeat (first|refine wk ?_|refine Zaa (hr:=?_))
  refine Zab [] (hA:=how) (hr:=?_)
  repeat (first|refine wk ?_|refine Zaa (hr:=?_))
  rw[e,List.length_map]
  exact Zad (i+1)
 ·have hi:i=ss.length:=by omega
  subst hi
  rw[List.take_length]
  refine ZjV 9 909 rfl rfl (by simp) ?_
  repeat (first|refine wk ?_|refine Zaa (hr:=?_))
  refine Zab [] (hA:=hot) (hr:=?_)
  repeat (first|refine wk ?_|refine Zaa (hr:=?_))
  refine Zab [] (hA:=hba) (hr:=?_)
  repeat (first|refine wk ?_|refine Zaa (hr:=?_))
  refine Zab [] (hA:=hbr) (hr:=?_)
  repeat (first|refine wk ?_|refine Zaa (hr:=?_))
  refine Zab [] (hA:=htr) (hr:=?_)
  repeat (first|refine wk ?_|refine Zaa (hr:=?_))
  refine Zab [] (hA:=htb) (hr:=?_)
  repeat (first|refine wk ?_|refine Zaa (hr:=?_))
  have st:=Zgu (t:=false) (u:=false) (x:=(ZfC g ss x).1) (y:=(ZfC g ss x).1) (Zk9 hx) (Zk9 hx)
  rw[Zfv,decide_eq_true rfl] at st
  have sl:=Zfq (t:=false) (u:=false) (l:=(ZcY g ss w).1) ZmN
  have q1:=decF (chnF g ss)
  have q2:=decF (ZfC g ss x).2
  have q3:=decF (ZcY g ss w).2
  clear hot hba hbr htr htb
  generalize ZcY g ss w=T at *
  generalize ZfC g ss x=C at *
  obtain⟨T,⟨tc,ta⟩⟩:=T
  obtain⟨C,⟨cc,ca⟩⟩:=C
  generalize chnF g ss=F at *
  obtain⟨fc,fa⟩:=F
  dsimp only at st sl q1 q2 q3 hck hcf ⊢
  refine Zai (X:=Nat) (fun i=>i≤ss.length) (fun i=>[(19,I i),(9,.d (ZaZ false false ss)),(0+1,.d (ZaZ false false ss)),(4,.ptr 4 0),(11,.ptr 11 0),(12,.ptr 12 0),(13,.ptr 13 0),(14,.ptr 14 0),(15,.d (Zal false T)),(16,.ptr 16 0),(17,.d (Zal false T)),(18,.ptr 18 0)]) (fun _=>[(4,Zar false g),(11,Zhn false C),(13,Zhn false C),(12,.box 31 [.d (iD cc),.d (iD ca)]),(14,.box 31 [.d (iD cc),.d (iD ca)]),(16,.box 31 [.d (iD tc),.d (iD ta)]),(18,.box 31 [.d (iD tc),.d (iD ta)])]) (fun i=>ss.length - i) 0 (Nat.zero_le _) ?_
  intro i hi
  by_cases hlt:i < ss.length
  ·have hss:ACalls Tryz.prog 14 [.d (stpV false ss[i]),.d (stpV false ss[i])] [] (B true) []:=Zlc (hs _ (List.getElem_mem hlt))
   repeat (first|refine wk ?_|refine Zaa (hr:=?_))
   refine Zab [] (hA:=hss) (hr:=?_)
   repeat (first|refine wk ?_|refine Zaa (hr:=?_))
   exact Zad (i+1)
  ·have hi:i=ss.length:=by omega
   subst hi
   repeat (first|refine wk ?_|refine Zaa (hr:=?_))
   refine Zab [] (hA:=hck) (hr:=?_)
   repeat (first|refine wk ?_|refine Zaa (hr:=?_))
   refine Zab [] (hA:=hcf) (hr:=?_)
   repeat (first|refine wk ?_|refine Zaa (hr:=?_))
   refine Zab [] (hA:=st) (hr:=?_)
   repeat (first|refine wk ?_|refine Zaa (hr:=?_))
   refine Zab [] (hA:=sl) (hr:=?_)
   repeat (first|refine wk ?_|refine Zaa (hr:=?_))
   exact fin
end Go.Proofs.YtbpmepgnjanhnaaGreat
