import Derived.Test.YtbpmepgnjanhnaaGreatFoA
import Derived.Test.YtbpmepgnjanhnaaGreatQSaP
import Derived.Test.YtbpmepgnjanhnaaGreatQTreeA
import Derived.Test.YtbpmepgnjanhnaaGreatQSimPf
import Derived.Test.YtbpmepgnjanhnaaGreatQFoG
import Derived.Test.YtbpmepgnjanhnaaGreatQSortM
import Derived.Test.YtbpmepgnjanhnaaGreatQSpA
import Derived.Test.YtbpmepgnjanhnaaGreatQTrA
import Derived.Test.YtbpmepgnjanhnaaGreatQShortD
import Derived.Test.YtbpmepgnjanhnaaGreatS5
import Derived.Test.YtbpmepgnjanhnaaGreatS3
import Derived.Test.YtbpmepgnjanhnaaGreatRows
import Derived.OpenShut
import Derived.ShutString
import Derived.JoinedCond
import Derived.Carry
import Derived.Deep.Slices
import Derived.Test.YtbpmepgnjanhnaaGreatQGramC
import Derived.Test.YtbpmepgnjanhnaaGreatQP1
set_option linter.unusedVariables false
set_option linter.unusedSimpArgs false
set_option linter.unusedSectionVars false
namespace Go.Proofs.YtbpmepgnjanhnaaGreat
open Go.RowKit
set_option maxRecDepth 100000
section
variable {t u:Bool} {g:Gram} {w:List Int}
end
set_option maxRecDepth 100000
section
variable {t u:Bool} {g:Gram} {w:List Int}
end
set_option maxRecDepth 100000
section
variable {t u:Bool} {g:Gram} {w:List Int}
end
set_option maxRecDepth 100000
section
variable {t u v':Bool} {g:Gram} {w:List Int}
end
set_option maxRecDepth 100000
section
variable {t u:Bool} {g:Gram} {w:List Int}
end
set_option maxRecDepth 100000
theorem Zx6 {g:Gram} {w:List Int} {k L:Nat} {x:Tree} {N:Cube} (hN:wcns g w Zag=N) (h:ZcD g N w 400 g.start.toNat 0 w.length k 400=some (x,L)):atF g w k=(x,⟨0,0⟩,L):=by
 subst hN
 unfold atF;rw[h]
set_option maxRecDepth 100000
def cb1:Step:=⟨⟨2,2,0,[⟨0,[-2]⟩,⟨0,[-2,1]⟩,⟨1,[-1]⟩,⟨1,[-1,1]⟩]⟩,[[.mk 1 1 []],[.mk 4 0 [.mk 1 1 []]],[.mk 1 0 [.mk 3 0 []]],[.mk 4 0 [.mk 1 0 [.mk 3 0 []]]]],[]⟩
def cbG:Gram:=⟨4,2,0,[⟨0,[-2]⟩,⟨2,[-2]⟩,⟨0,[2,1]⟩,⟨1,[-1]⟩,⟨3,[-1]⟩,⟨1,[3,1]⟩]⟩
def cb2:Step:=⟨cbG,[[.mk 1 0 []],[],[.mk 1 1 [.mk 2 0 [],.mk 2 1 []]],[.mk 1 2 []],[],[.mk 1 3 [.mk 2 0 [],.mk 2 1 []]]],[]⟩
theorem Zx7:Ze0 againG=(cb1,⟨0,0⟩):=by kernel_rfl
theorem Zx8:ZbZ cb1.g=(cb2,⟨0,0⟩):=by kernel_rfl
theorem ZwS:Za5 pasT againG [6,4]=([cb1,cb2],⟨0,0⟩):=by
 have h0:(Zac againG).code=0:=by kernel_rfl
 unfold Za5
 rw[if_neg (fun q=>q h0),if_neg (by decide),mkC]
 have e1:pasT 6 (ZaE againG [])=(cb1,⟨0,0⟩):=by
  unfold pasT;rw[if_neg (by decide)];exact Zx7
 rw[e1,if_neg (fun q=>q rfl),mkC]
 have e2:pasT 4 (ZaE againG ([]++[cb1]))=(cb2,⟨0,0⟩):=by
  unfold pasT;rw[if_pos rfl];exact Zx8
 rw[e2,if_neg (fun q=>q rfl),mkC]
 rfl
theorem Zx9:chnF againG [cb1,cb2]=⟨0,0⟩:=by kernel_rfl
theorem ZwT:wcns cbG [1,0,0] Zag=rnds cbG [1,0,0] Zag 4:=ZwO (by kernel_rfl)
def cbN:Cube:=fun v i j=>if v=2∧i=0∧j=1 then 1 else if v=3∧((i=1∧j=2)∨(i=2∧j=3)) then 1 else if v=1∧((i=1∧j=2)∨(i=2∧j=3)∨(i=1∧j=3)) then 1 else if v=0∧i=0∧(j=1∨j=2∨j=3) then 1 else 0
theorem Zwp:wcns cbG [1,0,0] Zag=cbN:=by
 rw[ZwT]
 funext v i j
 by_cases h:(v:Int) < cbG.vars∧i≤j∧j≤([1,0,0]:List Int).length
 ·obtain⟨h1,h2,h3⟩:=h
  have h1:v < 4:=by have:cbG.vars=4:=rfl;omega
  have h3:j < 4:=by simp at h3;omega
  have key:∀ v,v < 4→∀ j,j < 4→∀ i,i < 4→rnds cbG [1,0,0] Zag 4 v i j=cbN v i j:=by decide +kernel
  exact key v h1 j h3 i (by omega)
 ·rw[ZfJ h]
  unfold cbN
  have h':¬ (v < 4∧i≤j∧j≤3):=fun q=>h ⟨by have:cbG.vars=4:=rfl;omega,q.2.1,by simpa using q.2.2⟩
  rw[if_neg (by omega),if_neg (by omega),if_neg (by omega),if_neg (by omega)]
theorem Zwq:cntF cbG [1,0,0]=1:=by unfold cntF;rw[Zwp];rfl
theorem Zya:chF cbG [1,0,0]=⟨0,0⟩:=by kernel_rfl
theorem ZyP:opF cbG [1,0,0]=⟨0,0⟩:=by
 unfold opF
 rw[Zwq,if_neg (show ¬ 1=Zag by decide),Zya]
 rfl
def cbT:Tree:=.mk 2 [.mk 1 [],.mk 5 [.mk 4 [],.mk 3 []]]
def cbX:Tree:=.mk 0 [.mk 0 [.mk 1 []]]
theorem ZyQ (d L:Nat):ZcD cbG cbN [1,0,0] (d+4) 0 0 3 0 (L+5)=some (cbT,L):=by kernel_rfl
theorem ZyR {d L v n:Nat} (hd:4≤d) (hL:5≤L) (hv:v=0) (hn:n=3):ZcD cbG cbN [1,0,0] d v 0 n 0 L=some (cbT,L - 5):=by
 obtain⟨e,rfl⟩:∃ e,d=e+4:=⟨d - 4,by omega⟩
 obtain⟨M,rfl⟩:∃ M,L=M+5:=⟨L - 5,by omega⟩
 subst hv hn
 rw[ZyQ,Nat.add_sub_cancel]
theorem Zyb:atF cbG [1,0,0] 0=(cbT,⟨0,0⟩,395):=Zx6 Zwp (ZyR (by omega) (by omega) rfl rfl)
theorem ZwU:ZaK cbG [1,0,0]=([cbT],⟨0,0⟩):=by
 unfold ZaK
 rw[ZyP,Zwq,if_pos rfl,if_neg (by omega),Zdd,Zyb,if_pos rfl,Zdd]
 rfl
theorem ZyS:trN againG [cb1,cb2] [1,0,0] 2 [cbT]=([cbX],⟨0,0⟩):=by kernel_rfl
theorem Zu8:ZjN againG [cb1,cb2] [1,0,0]=([cbX],⟨0,0⟩):=by
 unfold ZjN
 rw[Zx9,if_neg (by decide),show ZaE againG [cb1,cb2]=cbG from rfl,ZwU,if_neg (by decide)]
 exact ZyS
theorem ZnP:againG.fit:=⟨by decide,fun r hr=>by simp[againG] at hr;rcases hr with rfl|rfl <;> decide⟩
theorem Zsr:∀ s∈[cb1,cb2],s.fit:=fun s hs=>by
 simp only[List.mem_cons,List.not_mem_nil,or_false] at hs
 rcases hs with rfl|rfl
 ·exact⟨⟨by decide,by decide⟩,by decide,by decide,by decide⟩
 ·exact⟨⟨by decide,by decide⟩,by decide,by decide,by decide⟩
theorem Zu9:ZeU Tryz.prog 24 3 4 3:=Zk7 Tryz.underlying24 rfl rfl rfl Tryz.underlying22 rfl
set_option maxHeartbeats 4000000 in
theorem Zi7:ACalls Tryz.prog 8 [] [] (B true) []:=by
 refine ACalls.intro (n:=49) Tryz.func8 rfl rfl (by simp) (by rfl) ?_
 simp only[Zal]
 have hm:=ZjX (t:=false) (u:=false) (P:=pasT) (g:=againG) (ks:=[6,4]) ZnP (by decide) (fun k hk g hg=>by
  have hk2:k=4∨k=6:=by simp at hk;omega
  refine⟨ZvL hk2 hg,?_⟩
  unfold pasT
  split
  ·exact Zj4 g
  ·exact Zm4 g)
 have ht:=Zod (g:=againG) (ss:=[cb1,cb2]) (w:=[1,0,0]) ZnP Zsr (by decide) (by decide)
 have hl:=ZfW (t:=false) (u:=false) (v:=false) (g:=againG) (ss:=[cb1,cb2]) ZnP Zsr (by decide)
 rw[ZwS] at hm
 rw[Zu8] at ht
 rw[show ZaE againG [cb1,cb2]=cbG from rfl] at hl
 have hl:ACalls Tryz.prog 15 [.d (Za6 false againG),.d (ZcR false false [cb1,cb2])] [] (.d (.agg [iD cbG.vars,iD cbG.terms,iD cbG.start,ZaL false cbG.rules])) []:=hl
 refine VA ?_
 refine Zab [] (hA:=ZiG) (hr:=?_)
 refine VA ?_
 refine Zab [] (hA:=hm) (hr:=?_)
 refine VA ?_
 refine Zab [] (hA:=ZiG) (hr:=?_)
 refine VA ?_
 refine Zab [] (hA:=ht) (hr:=?_)
 refine VA ?_
 refine Zab [] (hA:=ZiG) (hr:=?_)
 refine VA ?_
 refine Zab [] (hA:=hl) (hr:=?_)
 refine Zaa (hF:=Zu9) (hr:=?_)
 refine VA ?_
 exact fin
set_option maxRecDepth 100000
section
variable {P:Int→Gram→Step×Fault} {g:Gram}
theorem Zss (hP:∀ k g,(P k g).1.fit):∀ (ks:List Int) (i:Nat) (out:List Step),(∀ s∈out,s.fit)→∀ s∈(mkC P g ks i out).1,s.fit
 | [],_,_,h=>h
 | k::ks,i,out,h=>by
  by_cases hc:(P k (ZaE g out)).2.code=0
  ·rw[Zd9 hc]
   refine Zss hP ks _ _ fun s hs=>?_
   rcases List.mem_append.1 hs with hs|hs
   ·exact h s hs
   ·rw[List.mem_singleton.1 hs];exact hP _ _
  ·rw[Zea hc];intro s hs;cases hs
theorem Zst:∀ (ks:List Int) (i:Nat) (out:List Step),(mkC P g ks i out).1.length≤out.length+ks.length
 | [],_,_=>Nat.le_refl _
 | k::ks,i,out=>by
  by_cases hc:(P k (ZaE g out)).2.code=0
  ·rw[Zd9 hc]
   have:=Zst ks (i+1) (out++[(P k (ZaE g out)).1])
   rw[List.length_append,List.length_singleton] at this
   rw[List.length_cons];omega
  ·rw[Zea hc];exact Nat.zero_le _
theorem Zwr:∀ (ks:List Int) (i:Nat) (out:List Step),0≤(mkC P g ks i out).2.at_∧(mkC P g ks i out).2.at_≤(i+ks.length:Nat)
 | [],_,_=>⟨Int.le_refl _,Int.natCast_nonneg _⟩
 | k::ks,i,out=>by
  by_cases hc:(P k (ZaE g out)).2.code=0
  ·rw[Zd9 hc]
   have:=Zwr ks (i+1) (out++[(P k (ZaE g out)).1])
   rw[List.length_cons]
   exact⟨this.1,by omega⟩
  ·rw[Zea hc,List.length_cons]
   dsimp only
   omega
theorem Zl0 (hP:∀ k g,(P k g).1.fit) {ks:List Int}:∀ s∈(Za5 P g ks).1,s.fit:=by
 unfold Za5
 split
 ·intro s hs;cases hs
 ·split
  ·intro s hs;cases hs
  ·exact Zss hP ks 0 [] fun s hs=>by cases hs
theorem Zl1 {ks:List Int}:(Za5 P g ks).1.length≤ks.length:=by
 unfold Za5
 split
 ·exact Nat.zero_le _
 ·split
  ·exact Nat.zero_le _
  ·have:=Zst (P:=P) (g:=g) ks 0 []
   rw[List.length_nil,Nat.zero_add] at this;exact this
theorem Zva {ks:List Int} (h0:(Zac g).code=0) (h8:ks.length≤8):0≤(Za5 P g ks).2.at_∧(Za5 P g ks).2.at_≤8:=by
 rw[Zf3 h0 h8]
 have:=Zwr (P:=P) (g:=g) ks 0 []
 omega
end
theorem Zvb {P:Program} {n:Nat} {Q:Exit→Fr→Hp→Prop} {fr:Fr} {h:Hp} {c:Code} (i k:Nat) {m e sz:Nat} {xs:List D} (hi:fget fr i=.own k m) (hk:hget h k=some (.row e sz xs)) (hm:xs.length=m)
  (hc:aw P n c Q ((i,.d (.sl false sz xs))::fr) ((k,.froz sz xs)::h)):aw P n c Q fr h :=
 Zav k hk (Zrh i (v:=.d (.sl false sz xs)) (by rw[hi];exact Co.froz (Zai _ _ _) hm.symm) rfl hc)
set_option maxHeartbeats 8000000 in
theorem Zi8 {g:Gram} {ks:List Int} {cut:Int} (hf:g.fit) (hk:ks.length≤100000000) :
  ACalls Tryz.prog 6 [.d (Za6 false g),.d (ints false ks),I cut] [] (B true) []:=by
 refine ACalls.intro (n:=106) Tryz.func6 rfl rfl (by simp) (by rfl) ?_
 simp only[Zal]
 have hgr:=Zko (t:=false) hf.rules hf.right
 refine VA ?_
 refine Zab [] (hA:=Zi7) (hr:=?_)
 refine VA ?_
 refine Zab [] (hA:=hgr) (hr:=?_)
 cases h1:ZgY g with
 | true=>repeat (first|refine wk ?_|refine Zaa (hr:=?_));exact fin
 | false =>
 by_cases h8:8 < ks.length
 ·refine VA ?_
  exact fin
 have hU0:=Int.emod_nonneg (IntKind.u64.wrap cut) (show (18446744073709551616:Int)≠0 by decide)
 obtain⟨U,hU⟩:∃ U,IntKind.u64.wrap cut=U:=⟨_,rfl⟩
 have hUp:0≤U∧U < 18446744073709551616:=by rw[←hU];simp only[IntKind.wrap,IntKind.bits,IntKind.signed];constructor <;> simp <;> omega
 obtain⟨hu1,hu2⟩:=hUp
 have hx0:0≤U % ((ks.length:Int)+1):=Int.emod_nonneg _ (by omega)
 have hx1:U % ((ks.length:Int)+1) < (ks.length:Int)+1:=Int.emod_lt_of_pos _ (by omega)
 obtain⟨k,hx⟩:∃ k:Nat,U % ((ks.length:Int)+1)=(k:Int):=⟨(U % ((ks.length:Int)+1)).toNat,by omega⟩
 have hkl:k≤ks.length:=by omega
 have hlt:(ks.take k).length≤8:=by rw[List.length_take];omega
 have hld:(ks.drop k).length≤8:=by rw[List.length_drop];omega
 have hks:ks.length≤8:=by omega
 refine VA ?_
 refine ZpN (c:=U) rfl Zaf rfl Tryz.underlying3 Tryz.underlying53 hU ?_
 refine VA ?_
 refine ZpN (c:=(ks.length:Int)+1) rfl Zaf rfl Tryz.underlying3 Tryz.underlying53 (IntWalk.u64_in _ ⟨by omega,by omega⟩) ?_
 refine VA ?_
 rw[hx]
 refine ZpN (c:=(k:Int)) rfl Zaf rfl Tryz.underlying53 Tryz.underlying3 (IntWalk.i64_in _ ⟨by omega,by omega⟩) ?_
 clear hU0 hx0 hx1 hx
 have hA:=Zfk (t:=false) (u:=false) (g:=g) (ks:=ks) hf hk
 have hB:=Zfk (t:=false) (u:=false) (g:=g) (ks:=ks.take k) hf (by omega)
 have hBf:=Zl0 (P:=pasS) (g:=g) (ks:=ks.take k) Zk2
 have hBl:=Zl1 (P:=pasS) (g:=g) (ks:=ks.take k)
 have hL:=ZfW (t:=false) (u:=false) (v:=false) hf hBf (by omega)
 have hC:=Zfk (t:=false) (u:=false) (g:=ZaE g (Za5 pasS g (ks.take k)).1) (ks:=ks.drop k) (ZdP hf hBf) (by omega)
 have hCl:=Zl1 (P:=pasS) (g:=ZaE g (Za5 pasS g (ks.take k)).1) (ks:=ks.drop k)
 have hbad:=Zti (P:=pasS) (g:=g) hks hkl
 have hrest:=ZqV (P:=pasS) (g:=g) (k:=k) Zth hks hkl
 have hat:(Za5 pasS g (ks.take k)).2.code=0→0≤(Za5 pasS (ZaE g (Za5 pasS g (ks.take k)).1) (ks.drop k)).2.at_∧(Za5 pasS (ZaE g (Za5 pasS g (ks.take k)).1) (ks.drop k)).2.at_≤8:=fun h=>Zva (ZjS Zth hks h).2 hld
 have hCf:=Zl0 (P:=pasS) (g:=ZaE g (Za5 pasS g (ks.take k)).1) (ks:=ks.drop k) Zk2
 generalize Za5 pasS (ZaE g (Za5 pasS g (ks.take k)).1) (ks.drop k)=C at *
 generalize Za5 pasS g (ks.take k)=Y at *
 generalize Za5 pasS g ks=A at *
 obtain⟨A,⟨ac,aa⟩⟩:=A
 obtain⟨Y,⟨bc,ba⟩⟩:=Y
 obtain⟨C,⟨cc,ca⟩⟩:=C
 dsimp only at hA hB hBf hBl hL hC hCl hbad hrest hat hCf
 have et:D.sl false 1 (List.drop 0 (List.take k (ks.map iD)))=ints false (ks.take k):=by rw[List.drop_zero,←List.map_take]
 have ed:D.sl false 1 (List.drop k (List.take (ks.map iD).length (ks.map iD)))=ints false (ks.drop k):=by rw[List.take_of_length_le (by simp),←List.map_drop]
 refine VA ?_
 refine Zab [] (hA:=hA) (hr:=?_)
 refine VA ?_
 rw[et]
 refine Zab [] (hA:=hB) (hr:=?_)
 by_cases hb:bc=0
 ·have hat:=hat hb
  have hrest:=hrest hb
  refine VA ?_
  refine Zab [] (hA:=hL) (hr:=?_)
  refine VA ?_
  rw[ed]
  refine Zab [] (hA:=hC) (hr:=?_)
  by_cases hc:cc=0
  ·rw[if_neg (fun q=>q hc)] at hrest
   obtain⟨rfl,hrf⟩:=Prod.mk.inj hrest
   obtain⟨rfl,rfl⟩:=Fault.mk.inj hrf
   repeat (first|refine Zbi 14 914 39 6 rfl rfl rfl ?_|refine wk1 ?_|refine Zaa (hr:=?_))
   refine VA ?_
   have e:[]++Y.map (Zcf false)++C.map (Zcf false)=(Y++C).map (Zcf false):=by rw[List.nil_append,List.map_append]
   have hSf:∀ s∈Y++C,s.fit:=fun s hs=>(List.mem_append.1 hs).elim (hBf s) (hCf s)
   have hSl:(Y++C).length≤16:=by rw[List.length_append];omega
   rw[e]
   generalize Y++C=S at *
   refine Zvb 14 914 rfl rfl rfl ?_
   refine Zak (X:=Nat) (fun i=>i≤S.length) (fun i=>[(15,I i),(8,.d (ZcR false false S)),(14,.d (ZcR false false S))]) (fun _=>[]) (fun i=>S.length - i) 0 (Nat.zero_le _) ?_
   intro i hi
   by_cases hlt:i < S.length
   ·have hss:ACalls Tryz.prog 14 [.d (stpV false S[i]),.d (stpV false S[i])] [] (B true) []:=ZmV (hSf _ (List.getElem_mem hlt))
    refine VA ?_
    refine Zab [] (hA:=hss) (hr:=?_)
    refine VA ?_
    exact Zae (i+1)
   ·have hi:i=S.length:=by omega
    subst hi
    refine VA ?_
    exact fin
  ·rw[if_pos hc] at hrest
   obtain⟨rfl,hrf⟩:=Prod.mk.inj hrest
   obtain⟨rfl,rfl⟩:=Fault.mk.inj hrf
   refine VA ?_
   exact fin
 ·have hbad:=hbad hb
  obtain⟨rfl,rfl⟩:=Fault.mk.inj hbad
  refine VA ?_
  exact fin
open Go.ChangeShapes Go.WideShapes Go.ChangeAt Go.RowKit
open Go.Deep (open_slice)
theorem Ext.below {w w':World} (h:Ext NoB w w'):Below w.heap.size w w' :=
 ⟨h.os,h.tape,h.output,h.size,fun k hk=>h.block k hk (fun x=>x)⟩
theorem Tryz.laidOut:laidOutB Tryz.prog=true:=by kernel_rfl
theorem Tryz.ownKnob:ownKnob Tryz.prog.godebug=none:=by kernel_rfl
theorem ZfL {H:Type} {enc:TypeId×Value→H} {P:Program} (hl:laidOutB P=true) {W W':World} (hE:Ext NoB W W') :
  ∀ {ts:List TypeId} {vs:List Value} {ds:List (DataW H)} {ps:List MemPlace},(∀ t∈ts,P.readableRec t=true∧t < P.types.size) →
   DataW.TrodAll enc P W 0 (fun _=>true) true ts vs ds ps→(∀ x∈ps,x.block < W.heap.size)→DataW.TrodAll enc P W' 0 (fun b=>decide (b < W.heap.size)) true ts vs ds ps
 | [],vs,ds,ps,_,h,_=>by
  obtain⟨rfl,rfl,rfl⟩:=trodAll_nil h
  exact trodAll_mk0
 | t::ts,vs,ds,ps,ht,h,hp=>by
  obtain⟨v,vs',d,ds',p,q,rfl,rfl,rfl,h1,h2⟩:=trodAll_cons h
  refine⟨p,q,?_,ZfL hl hE (fun t' ht'=>ht t' (by simp[ht'])) h2 (fun x hx=>hp x (by simp[hx])),rfl⟩
  exact Below.trod hl (ht t (by simp)).1 (ht t (by simp)).2 h1 hE.below (fun x hx=>hp x (by simp[hx]))
theorem Zvc {H:Type} {enc:TypeId×Value→H} {P:Program} {f:Func} {s:ChangeSpec} {W W':World} {args:Array Value} {ds gs:List (DataW H)} {before:List MemPlace}
  (hl:laidOutB P=true) (ht:∀ t∈f.params.toList,P.readableRec t=true∧t < P.types.size) (tb:TypeId) (hf:f.resultTypes=#[tb]) (hb:P.underlying tb=some .bool)
  (hW:DataW.Whole enc P f.params.toList s.vars false W args.toList ds gs before) (hv:s.vars=[]) (hs:s.fn H (ds++gs)={ results:=[.lit (.bool true)],args:=ds }) (hE:Ext NoB W W') :
  s.post enc P f false true false false W args (.bool true) W':=by
 have hW':=hW
 obtain⟨p,q,hA,hV,rfl,hfz,hnd⟩:=hW
 rw[hv] at hV
 obtain⟨rfl,rfl⟩:=trodVars_none hV
 have hlt:=hW'.lt
 refine⟨ds,[],p++[],[],p,[],hW',?_,?_,?_,hE.below.frame _,fun h=>by cases h⟩
 ·rw[hs,hf]
  exact trodAll_cons_mk (p:=[]) (p':=[]) (shut_bool hb true) trodAll_mk0
 ·rw[hs]
  exact ZfL hl hE ht hA (fun x hx=>hlt x (by simp[hx]))
 ·rw[hs,hv]
  exact rfl
def M0:Bars:=fun _ _=>False
theorem Zvd (E:Env):bars E [] M0=M0:=by
 funext t b
 simp[bars,Live,blkOf,hget,M0]
def RepsV (w:World):List D→List Value→Prop
 | [],us=>us=[]
 | d::ds,us=>∃ u r,us=u::r∧d.RepV M0 w u∧RepsV w ds r
theorem RepsV.reps {E:Env} {w:World}:∀ {ds:List D} {us:List Value},RepsV w ds us→V.Reps E [] M0 w (ds.map V.d) us
 | [],_,h=>by simpa[RepsV,V.Reps] using h
 | d::ds,_,h=>by
  obtain⟨u,r,rfl,h1,h2⟩:=h
  simp only[List.map_cons,V.Reps,V.Rep]
  exact⟨u,r,rfl,h1,h2.reps⟩
theorem Zsu:∀ (ds:List D),V.keyss (ds.map V.d)=[]
 | []=>rfl
 | d::ds=>by simp[V.keyss,V.keys,Zsu ds]
theorem ACalls.law {P:Program} {f:FuncId} {ds:List D} (hc:ACalls P f (ds.map V.d) [] (B true) []) {w:World} {us:List Value} (hr:RepsV w ds us) :
  Calls P f us.toArray w fun e w'=>e=.returned (.bool true)∧Ext NoB w w':=by
 have E:Env:=⟨fun _=>0,fun _=>undef,fun _=>[]⟩
 refine (hc.run E w us M0 ⟨by simp[hget],by simp[blkOf,hget],by simp[hget]⟩ (by rw[Zvd];exact hr.reps) (by rw[Zsu];simp) (by simp[M0]) (by simp[M0])).mono ?_
 rintro e w' ⟨E',u,rfl,_,h2,_,h3,_⟩
 simp only[V.Rep,D.RepV,D.Rep,List.cons.injEq,and_true] at h2
 exact⟨by rw[h2.1],h3.mono (fun x hx=>by obtain⟨k,hk⟩:=hx;simp[blkOf,hget] at hk)⟩
section
variable {H:Type}
theorem Zph (d:DataW H):1≤Rows.uptoBulk d:=by
 cases d with
 | lit l=>cases l <;> simp[Rows.uptoBulk]
 | _=>simp[Rows.uptoBulk]
theorem Zpi:∀ (ds:List (DataW H)),ds.length≤Rows.uptoBulkAll ds
 | []=>by simp
 | d::r=>by have:=Zph d;have:=Zpi r;simp only[List.length_cons,Rows.uptoBulkAll];omega
theorem Zpj:∀ {ds:List (DataW H)} {d:DataW H},d∈ds→Rows.uptoBulk d≤Rows.uptoBulkAll ds
 | [],_,h=>by cases h
 | x::r,d,h=>by
  simp only[Rows.uptoBulkAll]
  rcases List.mem_cons.1 h with rfl|h
  ·omega
  ·have:=Zpj h;omega
end
def Rd (P:Program) (t:TypeId) {α:Type} (f:α→D) (Φ:α→Nat→Prop):Prop :=
 ∀ (H:Type) (enc:TypeId×Value→H) (w:World) (held:Bool) (n:Nat) (cs:List Value) (y:DataW H×List MemPlace),DataW.trod enc P w 0 (fun _=>true) held n t cs=some y→∃ r:α,(f r).Rep M0 w cs∧Φ r (Rows.uptoBulk y.1)
def RdN (P:Program) (N:Nat) (t:TypeId) {α:Type} (f:α→D) (Φ:α→Nat→Prop):Prop :=
 ∀ (H:Type) (enc:TypeId×Value→H) (w:World) (held:Bool) (n:Nat) (cs:List Value) (y:DataW H×List MemPlace),n < N→DataW.trod enc P w 0 (fun _=>true) held n t cs=some y→∃ r:α,(f r).Rep M0 w cs∧Φ r (Rows.uptoBulk y.1)
theorem Rd.n {P:Program} {t:TypeId} {α:Type} {f:α→D} {Φ:α→Nat→Prop} (h:Rd P t f Φ) (N:Nat):RdN P N t f Φ :=
 fun H enc w held n cs y _ hy=>h H enc w held n cs y hy
theorem Zyc {P:Program} {t:TypeId} {k:IntKind} (hu:P.underlying t=some (.int k)):Rd P t (fun n:Int=>.raw (.int k n)) (fun _ _=>True):=fun H enc w held n cs y h=>by
 obtain⟨n,rfl,rfl,_⟩:=DataW.trod_int hu h
 exact⟨n,by simp[D.Rep,Value.oneCell'],trivial⟩
theorem Zsv {w:World} {α:Type} {f:α→D} {sz:Nat} (hfs:∀ r,(f r).size=sz) (b off:Nat):∀ (n:Nat) (g:Nat→α) (C:Nat→List Value),(∀ i,i < n→(f (g i)).Rep M0 w (C i)∧∀ j,j < sz→w.cell? ⟨b,off+(i * sz+j),none⟩=(C i)[j]?) →
  ∃ es,D.Reps M0 w (((List.range n).map g).map f) es∧∀ j,j < es.length→w.cell? ⟨b,off+j,none⟩=es[j]?
 | 0,_,_,_=>⟨[],by simp[D.Reps],by simp⟩
 | n+1,g,C,h=>by
  obtain⟨es,h1,h2⟩:=Zsv hfs b off n g C (fun i hi=>h i (by omega))
  obtain⟨k1,k3⟩:=h n (by omega)
  have hl:es.length=n * sz:=by
   have:=D.Reps.length h1
   rw[D.sizes_eq (sz:=sz) (by intro x hx;obtain⟨r,_,rfl⟩:=List.mem_map.1 hx;exact hfs r)] at this
   simpa using this
  have hc:(C n).length=sz:=(D.Rep.length k1).trans (hfs _)
  refine⟨es++C n,?_,fun j hj=>?_⟩
  ·rw[List.range_succ,List.map_append,List.map_append]
   exact D.Reps.append h1 (by simpa using D.Reps.single.2 k1)
  ·rw[List.length_append] at hj
   by_cases hjl:j < es.length
   ·rw[List.getElem?_append_left hjl];exact h2 j hjl
   ·rw[List.getElem?_append_right (by omega),←k3 (j - es.length) (by omega),hl]
    congr 2
    omega
def ZwV {α:Type} (Φ:α→Nat→Prop) (rs:List α) (N:Nat):Prop:=rs.length≤N∧∀ r∈rs,Φ r N
theorem ZqE {P:Program} {N:Nat} {t e:TypeId} {sz:Nat} {α:Type} [Inhabited α] {f:α→D} {Φ:α→Nat→Prop} (ht:P.underlying t=some (.slice e)) (hc:P.cellsOf e=sz) (hsz:0 < sz) (hfs:∀ r,(f r).size=sz)
  (he:RdN P N e f Φ) {H:Type} {enc:TypeId×Value→H} {w:World} {held:Bool} {n:Nat} {cs:List Value} {x:DataW H×List MemPlace} (hn:n < N+1) (h:DataW.trod enc P w 0 (fun _=>true) held n t cs=some x) :
  ∃ (rs:List α) (els rest:List (DataW H)),(D.sl false sz (rs.map f)).Rep M0 w cs∧Rows.uptoBulkAll els≤Rows.uptoBulk x.1 - 1∧rs.length=els.length∧∀ i (h1:i < rs.length) (h2:i < els.length),Φ rs[i] (Rows.uptoBulk els[i]):=by
 rcases DataW.trod_slice ht h with ⟨rfl,rfl⟩|⟨a,len,cap,elems,rest,n',hn',rfl,rfl,_,hl,hm,hlen,hel,_,_⟩
 ·refine⟨[],[],[],?_,by simp[Rows.uptoBulkAll],rfl,by simp⟩
  simp only[D.Rep]
  exact⟨none,0,[],by simp,by simp,by simp[maxLen],by simp,by simp[D.Reps],by simp⟩
 ·have hex:∀ i,∃ r:α×List Value,∀ (hi:i < len),(f r.1).Rep M0 w r.2∧Φ r.1 (Rows.uptoBulk (elems[i]'(by omega)).1)∧w.cells? 0 (a.add (i * P.cellsOf e)) (P.cellsOf e)=some r.2:=fun i=>by
   by_cases hi:i < len
   ·have hb:=hel i hi
    rw[List.getElem?_eq_getElem (by omega)] at hb
    obtain⟨cs',h1,h2⟩:=Option.bind_eq_some_iff.1 hb
    obtain⟨r,h3,h4⟩:=he H enc w held n' cs' _ (by omega) h2
    exact⟨(r,cs'),fun _=>⟨h3,h4,h1⟩⟩
   ·exact⟨(default,[]),fun h=>absurd h hi⟩
  obtain⟨G,hG⟩:=Classical.axiomOfChoice hex
  rw[hc] at hG
  have hb:0 < len→∃ b off,a=⟨b,off,none⟩∧b < w.heap.size:=fun h0=>by
   obtain⟨_,_,h3⟩:=hG 0 h0
   have hlt:=World.cells?_block h3 hsz
   obtain⟨_,h5,h6⟩:=World.cells?_some h3
   have h7:=h6 0 hsz
   obtain⟨b,off,spot⟩:=a
   have h8:∃ u,(G 0).2[0]? = some u:=⟨_,List.getElem?_eq_getElem (by omega)⟩
   obtain⟨u,hu⟩:=h8
   rw[hu] at h7
   have hspot:spot=none:=by simpa[Addr.add] using World.cell?_spot h7
   subst hspot
   exact⟨b,off,rfl,by simpa[Addr.add] using hlt⟩
  refine⟨(List.range len).map fun i=>(G i).1,elems.map (·.1),[],?_,?_,by simp[hlen],?_⟩
  ·rcases Nat.eq_zero_or_pos len with rfl|h0
   ·simp only[D.Rep]
    exact⟨some a,cap,[],by simp,by simp,hm,by simp,by simp[D.Reps],by simp⟩
   ·obtain⟨b,off,rfl,hbs⟩:=hb h0
    obtain⟨es,h1,h2⟩:=Zsv (f:=f) hfs b off len (fun i=>(G i).1) (fun i=>(G i).2) (fun i hi=>by
     obtain⟨g1,_,g3⟩:=hG i hi
     obtain⟨_,g5,g6⟩:=World.cells?_some g3
     refine⟨g1,fun j hj=>?_⟩
     rw[←g6 j hj]
     congr 1
     simp only[Addr.add]
     split <;> split <;> simp_all <;> omega)
    simp only[D.Rep]
    refine⟨some ⟨b,off,none⟩,cap,es,by simp,by simpa using hl,hm,?_,h1,fun _=>⟨b,off,rfl,by simp[M0],hbs,h2⟩⟩
    intro x hx
    obtain⟨r,_,rfl⟩:=List.mem_map.1 hx
    exact hfs r
  ·simp only[Rows.uptoBulk];omega
  ·intro i h1 h2
   have hi:i < len:=by simpa using h1
   have:=(hG i hi).2.1
   simpa using this
theorem Zsw {P:Program} {N:Nat} {t e:TypeId} {sz:Nat} {α:Type} [Inhabited α] {f:α→D} {Φ:α→Nat→Prop} (ht:P.underlying t=some (.slice e)) (hc:P.cellsOf e=sz) (hsz:0 < sz) (hfs:∀ r,(f r).size=sz) (hΦ:∀ r m n,Φ r m→m≤n→Φ r n)
  (he:RdN P N e f Φ):RdN P (N+1) t (fun rs:List α=>.sl false sz (rs.map f)) (ZwV Φ):=by
 intro H enc w held n cs x hn h
 obtain⟨rs,els,_,h1,h2,h3,h4⟩:=ZqE ht hc hsz hfs he hn h
 refine⟨rs,h1,?_,fun r hr=>?_⟩
 ·have:=Zpi els;have:=Zph x.1;omega
 ·obtain⟨i,hi,rfl⟩:=List.getElem_of_mem hr
  have:=Zpj (ds:=els) (d:=els[i]'(by omega)) (List.getElem_mem _)
  exact hΦ _ _ _ (h4 i hi (by omega)) (by omega)
theorem Zpk {P:Program} {t e:TypeId} {sz:Nat} {α:Type} [Inhabited α] {f:α→D} {Φ:α→Nat→Prop} (ht:P.underlying t=some (.slice e)) (hc:P.cellsOf e=sz) (hsz:0 < sz) (hfs:∀ r,(f r).size=sz) (hΦ:∀ r m n,Φ r m→m≤n→Φ r n)
  (he:Rd P e f Φ):Rd P t (fun rs:List α=>.sl false sz (rs.map f)) (ZwV Φ) :=
 fun H enc w held n cs y h=>Zsw ht hc hsz hfs hΦ (he.n n) H enc w held n cs y (Nat.lt_succ_self _) h
theorem Zc5 {w:World} {d:D} {ds:List D} {c r:List Value} (h1:d.Rep M0 w c) (h2:D.Reps M0 w ds r):D.Reps M0 w (d::ds) (c++r):=by
 simp only[D.Reps];exact⟨c,r,rfl,h1,h2⟩
theorem Zl2 {w:World}:D.Reps M0 w [] []:=by simp[D.Reps]
theorem ZwW {P:Program} {t:TypeId} {fs:Array Field} {α:Type} {f:α→List D} {Φ:α→Nat→Prop} (hu:P.underlying t=some (.struct fs)) (hr:Rd P t (fun a=>.agg (f a)) Φ) {H:Type} {enc:TypeId×Value→H} {w:World} {base:Nat} {v:Value} {d:DataW H} {p:List MemPlace}
  (hval:Value.okWide P w .any base t v) (h:DataW.Trod enc P w 0 (fun _=>true) true t v d p):∃ r:α,(D.agg (f r)).RepV M0 w v∧Φ r (Rows.uptoBulk d):=by
 unfold Value.okWide at hval
 rw[hu] at hval
 obtain⟨cs,rfl,_⟩:=hval
 obtain⟨fuel,h⟩:=h
 obtain⟨r,h1,h2⟩:=hr H enc w true fuel _ _ h
 refine⟨r,⟨cs.toList,by simp,?_⟩,h2⟩
 simpa[Value.cells,D.Rep] using h1
theorem Zsx {P:Program} {t e:TypeId} {sz:Nat} {α:Type} {f:α→List D} {Φ:α→Nat→Prop} (hu:P.underlying t=some (.slice e)) (hr:Rd P t (fun a=>.sl false sz (f a)) Φ) {H:Type} {enc:TypeId×Value→H} {w:World} {base:Nat} {v:Value} {d:DataW H} {p:List MemPlace}
  (hval:Value.okWide P w .any base t v) (h:DataW.Trod enc P w 0 (fun _=>true) true t v d p):∃ r:α,(D.sl false sz (f r)).RepV M0 w v∧Φ r (Rows.uptoBulk d):=by
 obtain⟨fuel,h⟩:=h
 obtain⟨r,h1,h2⟩:=hr H enc w true fuel _ _ h
 refine⟨r,?_,h2⟩
 have hv:v.cells=#[v]:=by
  unfold Value.okWide at hval
  rw[hu] at hval
  cases v with
  | agg cs=>simp[Cell.okWide,Cell.ok,hu] at hval
  | _=>rfl
 rw[hv] at h1
 exact h1
theorem Zve {w:World} {v:Value} (h:v.oneCell'=true):(D.raw v).RepV M0 w v:=by simp[D.RepV,D.Rep,h]
open Go.ChangeShapes Go.WideShapes Go.ChangeAt Go.RowKit
set_option maxRecDepth 100000
theorem ZhZ:Tryz.prog.cellsOf 3=1:=by kernel_rfl
theorem ZqF:Tryz.prog.cellsOf 25=1:=by kernel_rfl
theorem ZjD:Tryz.prog.cellsOf 68=2:=by kernel_rfl
theorem ZnQ:Tryz.prog.cellsOf 22=1:=by kernel_rfl
theorem ZqG:Tryz.prog.cellsOf 24=4:=by kernel_rfl
theorem Zsy:Rd Tryz.prog 3 iD (fun _ _=>True):=Zyc Tryz.underlying3
theorem Zws:Rd Tryz.prog 25 (fun xs:List Int=>ints false xs) (fun xs n=>xs.length≤n):=fun H enc w held n cs y h=>by
 obtain⟨rs,h1,h2⟩:=Zpk Tryz.underlying25 ZhZ (by decide) (fun _=>rfl) (fun _ _ _ _ _=>trivial) Zsy H enc w held n cs y h
 exact⟨rs,h1,h2.1⟩
theorem Zyd:Rd Tryz.prog 68 (ZaR false) (fun r n=>r.right.length≤n):=fun H enc w held n cs x h=>by
 obtain⟨xs,n,rfl,rfl,hl,hx,hf⟩:=DataW.trod_struct Tryz.underlying68 h
 have f0:=hf 0 _ rfl
 have f1:=hf 1 _ rfl
 clear hf
 replace hl:=hl.trans ZjD
 match cs,hl,xs,hx with
 | [c0,c1],_,[x0,x1],_ =>
  simp only[ZhZ,ZqF,List.drop_zero,List.drop_succ_cons,List.take_succ_cons,List.take_zero,List.getElem?_cons_zero,List.getElem?_cons_succ] at f0 f1
  obtain⟨l,h1,_⟩:=Zsy _ _ _ _ _ _ _ f0
  obtain⟨rt,h2,h3⟩:=Zws _ _ _ _ _ _ _ f1
  refine⟨⟨l,rt⟩,?_,?_⟩
  ·simp only[ZaR,D.Rep]
   exact Zc5 (c:=[c0]) h1 (Zc5 (c:=[c1]) h2 Zl2)
  ·simp[Rows.uptoBulk,Rows.uptoBulkAll];omega
theorem ZwX:Rd Tryz.prog 22 (fun rs:List Rule=>ZaL false rs) (ZwV (fun r n=>r.right.length≤n)) :=
 Zpk Tryz.underlying22 ZjD (by decide) (fun _=>rfl) (fun _ _ _ h hm=>Nat.le_trans h hm) Zyd
def Gram.le (g:Gram) (n:Nat):Prop:=g.rules.length≤n∧∀ r∈g.rules,r.right.length≤n
theorem Zye:Rd Tryz.prog 24 (fun g:Gram=>.agg [iD g.vars,iD g.terms,iD g.start,ZaL false g.rules]) Gram.le:=fun H enc w held n cs x h=>by
 obtain⟨xs,n,rfl,rfl,hl,hx,hf⟩:=DataW.trod_struct Tryz.underlying24 h
 have f0:=hf 0 _ rfl
 have f1:=hf 1 _ rfl
 have f2:=hf 2 _ rfl
 have f3:=hf 3 _ rfl
 clear hf
 replace hl:=hl.trans ZqG
 match cs,hl,xs,hx with
 | [c0,c1,c2,c3],_,[x0,x1,x2,x3],_ =>
  simp only[ZhZ,ZnQ,List.drop_zero,List.drop_succ_cons,List.take_succ_cons,List.take_zero,List.getElem?_cons_zero,List.getElem?_cons_succ] at f0 f1 f2 f3
  obtain⟨a,h0,_⟩:=Zsy _ _ _ _ _ _ _ f0
  obtain⟨b,h1,_⟩:=Zsy _ _ _ _ _ _ _ f1
  obtain⟨c,h2,_⟩:=Zsy _ _ _ _ _ _ _ f2
  obtain⟨rs,h3,h4,h5⟩:=ZwX _ _ _ _ _ _ _ f3
  have hb:Rows.uptoBulk x3.1≤Rows.uptoBulk (DataW.agg [x0.1,x1.1,x2.1,x3.1]):=by simp[Rows.uptoBulk,Rows.uptoBulkAll];omega
  refine⟨⟨a,b,c,rs⟩,?_,Nat.le_trans h4 hb,fun r hr=>Nat.le_trans (h5 r hr) hb⟩
  simp only[D.Rep]
  exact Zc5 (c:=[c0]) h0 (Zc5 (c:=[c1]) h1 (Zc5 (c:=[c2]) h2 (Zc5 (c:=[c3]) h3 Zl2)))
open Go.ChangeShapes Go.WideShapes Go.ChangeAt Go.RowKit
set_option maxRecDepth 100000
open Go.ChangeShapes Go.WideShapes Go.ChangeAt Go.RowKit
set_option maxRecDepth 100000
theorem Gram.le.fit {g:Gram} {n:Nat} (h:g.le n) (hn:n≤100000000):g.fit:=⟨Nat.le_trans h.1 hn,fun r hr=>Nat.le_trans (h.2 r hr) hn⟩
end Go.Proofs.YtbpmepgnjanhnaaGreat
