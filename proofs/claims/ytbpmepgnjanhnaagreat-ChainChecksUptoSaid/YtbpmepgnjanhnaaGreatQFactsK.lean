import Derived.Test.YtbpmepgnjanhnaaGreatF2
import Derived.Test.YtbpmepgnjanhnaaGreatQChartD
set_option linter.unusedVariables false
set_option linter.unusedSimpArgs false
set_option linter.unusedSectionVars false
namespace Go.Proofs.YtbpmepgnjanhnaaGreat
open Go.RowKit
set_option maxRecDepth 100000
theorem Zhx (null:List Bool) (c:Bool) (xs:List Int):(ZdU null c xs).length≤xs.length:=Zkt null c xs _
set_option maxHeartbeats 1000000 in
theorem ZmI {t u:Bool} {g:Gram} (hg:g.ok) {null:List Bool} (hn:(null.length:Int)=g.vars) {v:Int} {c:Bool} :
  ACalls Tryz.prog 221 [.d (ZaH t g),.d (ZjO u null),I v,B c] [] (.own 901 (ZbK c g null v).length) [(901,.row 3 1 ((ZbK c g null v).map iD))]:=by
 refine ACalls.intro (n:=69) Tryz.func221 rfl rfl (by simp) (by rfl) ?_
 simp only[Zak]
 have hv:=hg.vars
 have hlen:=hg.rules
 have hbl:(by_ g v).length≤g.rules.length:=Zfl v g.rules 0
 have hpl:=fun k=>ZpR hg (Zhx null c) v k
 repeat (first|refine wk ?_)
 refine Zab [(5,902)] (hA:=Zhg) (hr:=?_)
 repeat (first|refine wk ?_)
 refine ZaU 9 901 3 1 rfl rfl rfl ?_
 refine Zai (X:=Nat×List Int) (fun x=>x.1≤(by_ g v).length∧x.2=Zd1 (ZdU null c) g v x.1) (fun x=>[(11,I x.1),(10,.own 902 (by_ g v).length),(9,.own 901 x.2.length),(4,.ptr 4 0),(1,.d (ZjO u null)),(3,B c)]) (fun x=>[(4,Zar t g),(902,.row 3 1 ((by_ g v).map iD)),(901,.row 3 1 (x.2.map iD))]) (fun x=>(by_ g v).length - x.1) (0,[]) ⟨Nat.zero_le _,rfl⟩ ?_
 rintro⟨i,T⟩ ⟨h1,h2⟩
 dsimp only at h1 h2 ⊢
 by_cases hlt:i < (by_ g v).length
 ·obtain⟨q,hq,hqe,hqr⟩:=Zwk hlt
  have hps:=Zmd (f:=ZdU null c) hlt
  rw[hqr] at hps
  have hTl:=hpl i
  rw[←h2] at hTl hps
  have a3:=hg.right _ (List.getElem_mem hq)
  have a4:=hg.hi _ (List.getElem_mem hq)
  generalize hre:g.rules[q].right=R at a3 a4 hps hqr
  repeat (first|refine wk ?_)
  rw[hre]
  refine Zai (X:=Nat×List Int) (fun x=>x.1≤R.length∧x.2=T++ZeD null c R x.1) (fun x=>[(13,I x.1),(12,.d (ints t R)),(11,I i),(10,.own 902 (by_ g v).length),(9,.own 901 x.2.length),(4,.ptr 4 0),(1,.d (ZjO u null)),(3,B c)]) (fun x=>[(4,Zar t g),(902,.row 3 1 ((by_ g v).map iD)),(901,.row 3 1 (x.2.map iD))]) (fun x=>R.length - x.1) (0,T) ⟨Nat.zero_le _,by simp[ZeD]⟩ ?_
  rintro⟨k,A⟩ ⟨k1,k2⟩
  dsimp only at k1 k2 ⊢
  by_cases hkt:k < R.length
  ·have hAl:A.length≤100000:=by have:=Zkt null c R k;rw[k2,List.length_append];omega
   have hgd:R.getD k 0=R[k]:=by simp[List.getD_eq_getElem?_getD,hkt]
   have hA1:=Zhm (t:=t) (u:=u) (xs:=R.take k) (is:=null) (fun x hx=>by have:=a4 x (List.mem_of_mem_take hx);omega) (by simp;omega) (by omega)
   have e1:ints t (R.take k)=.sl t 1 ((R.map iD).take k):=by rw[←List.map_take]
   rw[e1] at hA1
   have hA2:=Zhm (t:=t) (u:=u) (xs:=R.drop (k+1)) (is:=null) (fun x hx=>by have:=a4 x (List.mem_of_mem_drop hx);omega) (by simp;omega) (by omega)
   have e2:ints t (R.drop (k+1))=.sl t 1 (((R.map iD).take (R.map iD).length).drop (k+1)):=by rw[List.take_length,←List.map_drop]
   rw[e2] at hA2
   have hyes:ZdE null c R k=true→A++[R[k]]=T++ZeD null c R (k+1):=fun h=>by rw[ZeD,if_pos h,hgd,k2,List.append_assoc]
   have hno:ZdE null c R k=false→A=T++ZeD null c R (k+1):=fun h=>by rw[ZeD,if_neg (by rw[h];simp),List.append_nil,k2]
   have hpk:ZdE null c R k=(decide (0≤R[k]) && (Zbn (R.take k) null && (c || Zbn (R.drop (k+1)) null))):=by rw[ZdE,hgd]
   by_cases h0:0≤R[k]
   ·rw[decide_eq_true h0,Bool.true_and] at hpk
    repeat (first|refine wkz ?_|refine Zaa (hr:=?_))
    refine Zab [] (hA:=hA1) (hr:=?_)
    cases hb:Zbn (R.take k) null with
    | false =>
     rw[hb,Bool.false_and] at hpk
     repeat (first|refine wkz ?_|refine Zaa (hr:=?_))
     exact Zad (k+1,A) (a:=⟨by omega,hno hpk⟩) (b:=by dsimp only;omega)
    | true =>
     rw[hb,Bool.true_and] at hpk
     cases c with
     | true =>
      repeat (first|refine wkz ?_|refine Zaa (hr:=?_))
      exact Zad (k+1,A++[R[k]]) (a:=⟨by omega,hyes hpk⟩) (b:=by dsimp only;omega)
     | false =>
      repeat (first|refine wkz ?_|refine Zaa (hr:=?_))
      refine Zab [] (hA:=hA2) (hr:=?_)
      cases hb2:Zbn (R.drop (k+1)) null with
      | true =>
       rw[hb2] at hpk
       repeat (first|refine wkz ?_|refine Zaa (hr:=?_))
       exact Zad (k+1,A++[R[k]]) (a:=⟨by omega,hyes hpk⟩) (b:=by dsimp only;omega)
      | false =>
       rw[hb2] at hpk
       repeat (first|refine wkz ?_|refine Zaa (hr:=?_))
       exact Zad (k+1,A) (a:=⟨by omega,hno hpk⟩) (b:=by dsimp only;omega)
   ·rw[decide_eq_false h0,Bool.false_and] at hpk
    repeat (first|refine wkz ?_|refine Zaa (hr:=?_))
    exact Zad (k+1,A) (a:=⟨by omega,hno hpk⟩) (b:=by dsimp only;omega)
  ·obtain rfl:k=R.length:=by omega
   have e:A=Zd1 (ZdU null c) g v (i+1):=by rw[k2,hps];rfl
   repeat (first|refine wk ?_)
   exact Zad (i+1,A) (a:=⟨by omega,e⟩) (b:=by dsimp only;omega)
 ·rw[ZoT hlt] at h2
  subst h2
  repeat (first|refine wk ?_)
  exact fin
set_option maxHeartbeats 1000000 in
theorem ZqP {t u:Bool} {g:Gram} (hg:g.ok) {v:Int} {c:Bool} (h0:0≤v) (h1:v < g.vars) :
  ACalls Tryz.prog 203 [.d (ZaH t g),.d (ZjO u (ZaJ false g)),I v,B c] [] (.own 14 g.vars.toNat) [(14,.row 4 1 ((rowM (ledM c g) v).map bD))]:=by
 refine ACalls.intro (n:=44) Tryz.func203 rfl rfl (by simp) (by rfl) ?_
 simp only[Zak]
 have hv:=hg.vars
 have hv1:=hg.vars1
 have hlen:=hg.rules
 have hnl:=ZbZ (t:=false) hg
 have hW:=ZfN (c:=c) hg h0 h1
 have hRl:=(Zel (c:=c) hg).at h0 (by omega)
 have hnN:((ZaJ false g).length:Int)=g.vars:=by omega
 generalize ZaJ false g=null at hnl hW hnN ⊢
 generalize rowM (ledM c g) v=Rr at hW hRl ⊢
 obtain⟨N,hN⟩:∃ N:Nat,g.vars=(N:Int):=⟨g.vars.toNat,by omega⟩
 have hNt:g.vars.toNat=N:=by omega
 rw[hNt] at hRl ⊢
 have hKl:=fun x=>Zma hg (Zhx null c) x
 have hst:=fun x=>ZmI (t:=t) (u:=u) hg hnN (v:=x) (c:=c)
 have e:List.replicate N (ZgN (.bool false))=(List.replicate N false).map bD:=by rw[List.map_replicate];rfl
 have hb0:Bfs (ZbK c g null) (ZbK c g null v) Rr (ZbK c g null v) (List.replicate N false):=by have:=Bfs.start hW;rwa [hRl] at this
 have hK0:=hKl v
 repeat (first|refine wk ?_)
 refine Zab [(901,900)] (hA:=hst v) (hr:=?_)
 repeat (first|refine wk ?_)
 refine Zai (X:=List Int×List Bool) (fun x=>Bfs (ZbK c g null) (ZbK c g null v) Rr x.1 x.2∧bfsM N 1600 x.1 x.2≤200000) (fun x=>[(10,.own 900 x.1.length),(9,.own 14 N),(4,.ptr 4 0),(1,.d (ZjO u null)),(3,B c)]) (fun x=>[(4,Zar t g),(900,.row 3 1 (x.1.map iD)),(14,.row 4 1 (x.2.map bD))]) (fun x=>bfsM N 1600 x.1 x.2) (ZbK c g null v,List.replicate N false) ⟨hb0,by
  have:(N - cntB (List.replicate N false)) * (1600+1)≤64 * 1601:=Nat.mul_le_mul (by omega) (Nat.le_refl _)
  have:(ZbK c g null v).length≤1600:=hK0
  simp only[bfsM];omega⟩ ?_
 clear e hb0
 rintro⟨todo,is⟩ ⟨hB,hM⟩
 dsimp only at hB hM ⊢
 have hil:=hB.sub.len
 have htl:todo.length≤200000:=by unfold bfsM at hM;omega
 cases todo with
 | nil =>
  have:=hB.done hW
  subst this
  repeat (first|refine wk ?_)
  exact fin
 | cons x rest =>
  have hvR:=hB.open_ x (by simp)
  obtain⟨b0,b1⟩:=ZeM hvR
  obtain⟨m,rfl⟩:∃ m:Nat,x=(m:Int):=⟨x.toNat,by omega⟩
  have hmN:m < N:=by omega
  have hmi:m < is.length:=by omega
  have hgt:=Zmz (is:=is) (x:=(m:Int)) rfl hmi
  have hlc:((m:Int)::rest).length=rest.length+1:=rfl
  have hrl:rest.length≤200000:=by omega
  repeat (first|refine wk ?_)
  refine Zvj TY 903 rfl Zag rfl rfl (by simp) rfl rfl rfl (by simp) rfl rfl rfl rfl ?_
  refine ZcB (hr:=?_)
  refine Zcc ?_
  refine Zbm ?_
  refine Zm4 [(11,I m),(10,.own 903 rest.length),(9,.own 14 N),(4,.ptr 4 0),(1,.d (ZjO u null)),(3,B c)] [(903,.row 3 1 (rest.map iD)),(4,Zar t g),(14,.row 4 1 (is.map bD))] (by repeat' (first|exact trivial|exact VLe.refl _|refine And.intro ?_ ?_)) (by repeat' (first|exact trivial|exact HElt.of rfl|refine And.intro ?_ ?_)) rfl ?_
  refine Zvi 10 900 rfl rfl (by simp) rfl rfl ?_
  cases hb:is[m] with
  | true =>
   repeat (first|refine wk ?_)
   exact Zad (rest,is) (a:=⟨hB.skip (by rw[hgt,hb]),by have:=Zl9 (todo:=rest) (is:=is) (V:=N) (K:=1600) (v:=(m:Int));dsimp only;omega⟩) (b:=by dsimp only;exact Zl9)
  | false =>
   have hBm:=hB.mark hW
   have hKm:=hKl (m:Int)
   have hMm:=Zsh hB (by rw[hgt,hb]) (hil.trans hRl) hKm
   have e:=Zqu (is:=is) (v:=(m:Int))
   have hKm2:(ZbK c g null m).length≤1600:=hKm
   repeat (first|refine wk ?_)
   refine Zab [(901,902)] (hA:=hst (m:Int)) (hr:=?_)
   repeat (first|refine wk ?_)
   exact Zad (rest++ZbK c g null m,put is m) (a:=⟨hBm,by dsimp only;omega⟩) (b:=hMm)
end Go.Proofs.YtbpmepgnjanhnaaGreat
namespace Go.Proofs.YtbpmepgnjanhnaaGreat
open Go.RowKit
set_option maxRecDepth 100000
theorem Zs7 (x:Bool):(bD x).clean:=trivial
theorem Zhy (xs:List Bool):D.cleans (xs.map bD):=Zex Zs7 xs
theorem Zk5 {t:Bool} {g:Gram} (hg:g.ok):ACalls Tryz.prog 139 [.d (ZaH t g)] [] (.d (ints false (Zd2 (ledM false g) g.vars.toNat))) []:=by
 refine ACalls.intro (n:=26) Tryz.func139 rfl rfl (by simp) (by rfl) ?_
 simp only[Zak]
 have hv:=hg.vars
 have hv1:=hg.vars1
 have hnl:=ZbZ (t:=false) hg
 have hno:=Zpf (t:=t) hg
 have hlq:=Zel (c:=false) hg
 have hlql:=hlq.len
 obtain⟨N,hN⟩:∃ N:Nat,g.vars=(N:Int):=⟨g.vars.toNat,by omega⟩
 have hNt:g.vars.toNat=N:=by omega
 rw[hNt] at hno hnl hlql hlq ⊢
 repeat (first|refine wk ?_)
 refine Zab [(8,900)] (hA:=hno) (hr:=?_)
 repeat (first|refine wk ?_)
 refine ZaU 4 902 3 1 rfl rfl rfl ?_
 refine Zai (X:=Nat) (fun k=>k≤N) (fun k=>[(5,I k),(3,.own 900 N),(4,.own 902 (Zd2 (ledM false g) k).length),(1,.ptr 1 0)]) (fun k=>[(1,Zar t g),(900,.row 4 1 ((ZaJ false g).map bD)),(902,.row 3 1 ((Zd2 (ledM false g) k).map iD))]) (fun k=>N - k) 0 (Nat.zero_le _) ?_
 intro k hk
 have hsl:=ZnK (ledM false g) k
 by_cases hkN:k < N
 ·have hkL:k < (ledM false g).length:=by omega
  have e:=ZiD (ledM false g) k
  have hled:=ZqP (t:=t) (u:=true) hg (v:=(k:Int)) (c:=false) (by omega) (by omega)
  have hrl:(rowM (ledM false g) k).length=N:=hlq.at (by omega) (by omega)
  rw[hNt] at hled
  generalize rowM (ledM false g) k=R at hled hrl e
  have hkR:k < R.length:=by omega
  have hhr:=Zmz (is:=R) (x:=(k:Int)) rfl hkR
  rw[hhr] at e
  cases hb:R[k] with
  | true =>
   rw[hb,if_pos rfl] at e
   repeat (first|refine wk ?_)
   refine Zab [(14,901)] (hA:=hled) (hcl:=by refine Or.inr ⟨?_,?_⟩ <;> simp[V.clean,V.cleans,D.clean,D.cleans,HpClean,Ob.clean,Zhy]) (hr:=?_)
   repeat (first|refine wk ?_)
   exact Zad (k+1)
  | false =>
   rw[hb,if_neg (by decide),List.append_nil] at e
   repeat (first|refine wk ?_)
   refine Zab [(14,901)] (hA:=hled) (hcl:=by refine Or.inr ⟨?_,?_⟩ <;> simp[V.clean,V.cleans,D.clean,D.cleans,HpClean,Ob.clean,Zhy]) (hr:=?_)
   repeat (first|refine wk ?_)
   exact Zad (k+1)
 ·obtain rfl:k=N:=by omega
  refine ZaF 902 rfl ?_
  repeat (first|refine wk ?_)
  exact fin
end Go.Proofs.YtbpmepgnjanhnaaGreat
namespace Go.Proofs.YtbpmepgnjanhnaaGreat
open Go.RowKit
set_option maxRecDepth 100000
section
variable {P:Program} {n:Nat} {Q:Exit→Fr→Hp→Prop} {fr:Fr} {h:Hp}
theorem Zf0 {c0:Code} (k j k0:Nat) {n0 e sz:Nat} {xs:List D} {ty:TypeId} {cs:List V} (hk:hget h k=some (.box ty cs)) (hj:cs[j]?=some (.own k0 n0)) (h0:hget h k0=some (.row e sz xs)) (hn:xs.length=n0)
  (hc:aw P n c0 Q fr ((k,.box ty (cs.set j (.d (.sl false sz xs))))::(k0,.froz sz xs)::h)):aw P n c0 Q fr h:=by
 have hne:k0≠k:=by rintro rfl;rw[hk] at h0;cases h0
 exact ZaF k0 h0 (ZoJ k j _ (by rw[Zap _ _ hne];exact hk) hj (Co.froz (Zaf _ _ _) hn.symm) rfl hc)
theorem Zs8 {c0:Code} (k:Nat) (l:ML) (p:ML→Prop) (hk:hget h k=some (.mp (Eq l))) (hp:p l) (hc:aw P n c0 Q fr ((k,.mp p)::h)):aw P n c0 Q fr h:=fun G E a w hn C=>by
 obtain⟨es,clock,l',h1,h2,rfl⟩:=C.heap.obs k _ hk
 exact hc G E a w hn (C.setMap hk (Ext.refl _ _) ⟨es,clock,_,h1,h2,hp⟩)
end
def wBad (t:Int):List Int→Nat→Option Nat
 | [],_=>none
 | x::r,i=>if x < 0∨t≤x then some i else wBad t r (i+1)
theorem Zk6 {t:Int} {w:List Int} {k:Nat} (h:k < w.length):wBad t (w.drop k) k=if w[k] < 0∨t≤w[k] then some k else wBad t (w.drop (k+1)) (k+1):=by
 rw[List.drop_eq_getElem_cons h,wBad]
theorem Zk7 {t:Int}:∀ {w:List Int} {i:Nat},wBad t w i=none→∀ x∈w,0≤x∧x < t
 | [],_,_,x,hx=>by cases hx
 | y::r,i,h,x,hx=>by
  rw[wBad] at h
  split at h
  ·cases h
  ·rename_i hn
   rcases List.mem_cons.1 hx with rfl|hx
   ·omega
   ·exact Zk7 h x hx
def chF (g:Gram) (w:List Int):Zb5:=if (Zah g).code=0 then (if 12 < w.length then ⟨15, -1⟩ else match wBad g.terms w 0 with
  | some i=>⟨15,(i:Int)⟩
  | none=>if cycL g=[] then ⟨0,0⟩ else ⟨10, -1⟩) else Zah g
structure ChOk (g:Gram) (w:List Int):Prop where
 ok:g.ok
 cyc:cycL g=[]
 len:w.length≤12
 syms:∀ x∈w,0≤x∧x < g.terms
theorem ZqQ {g:Gram} {w:List Int} (h:(chF g w).code=0):ChOk g w∧chF g w=⟨0,0⟩:=by
 have h':=h
 unfold chF at h ⊢
 split at h
 ·rename_i hf
  split at h
  ·cases h
  ·rename_i hl
   split at h
   ·cases h
   ·rename_i hb
    split at h
    ·rename_i hc
     exact⟨⟨Zbr hf,hc,by omega,Zk7 hb⟩,by rw[if_pos hf,if_neg hl];simp[hb,hc]⟩
    ·cases h
 ·rename_i hf;exact absurd h hf
theorem ChOk.small {g:Gram} {w:List Int} (h:ChOk g w):w.length≤100000∧∀ x∈w,0≤x∧x≤1000000:=⟨by have:=h.len;omega,fun x hx=>by have:=h.syms x hx;have:=h.ok.terms;omega⟩
theorem ZqR {g:Gram} (hg:g.ok):cycL g=Zd2 (ledM false g) g.vars.toNat:=by unfold cycL;rw[if_pos (by rw[hg.fault])]
theorem Zk8 (M:Mat) (V:Nat):(Zd2 M V).length≤V:=by unfold Zd2;simp only[List.length_map];exact Nat.le_trans (List.length_filter_le _ _) (by simp)
theorem ne_nil {l:List Int}:l=[]↔¬ (0:Int) < (l.length:Nat):=by
 cases l <;> simp
set_option maxHeartbeats 4000000 in
theorem Ziu {t u:Bool} {g:Gram} {w:List Int} (hf:g.fit) (hw:w.length≤100000000):ACalls Tryz.prog 98 [.d (ZaH t g),.d (ints u w)] [] (.d (ZaN (chF g w))) []:=by
 have hgf:=Zb7 (t:=t) (g:=g) hf.rules hf.right
 refine ACalls.intro (n:=45) Tryz.func98 rfl rfl (by simp) (by rfl) ?_
 simp only[Zak]
 repeat (first|refine wk ?_|refine Zaa (hr:=?_))
 refine Zab [] (hA:=hgf) (hr:=?_)
 by_cases h0:(Zah g).code=0
 ·have hg:=Zbr h0
  have hcy:=Zk5 (t:=t) hg
  have hv:=hg.vars
  have hcl:=Zk8 (ledM false g) g.vars.toNat
  rw[←ZqR hg] at hcy hcl
  by_cases h1:12 < w.length
  ·have e:chF g w=⟨15, -1⟩:=by unfold chF;rw[if_pos h0,if_pos h1]
   rw[e]
   repeat (first|refine wk ?_|refine Zaa (hr:=?_))
   refine Zab [] (hA:=ZbC) (hr:=?_)
   repeat (first|refine wk ?_|refine Zaa (hr:=?_))
   exact fin
  ·have e:chF g w=match wBad g.terms w 0 with|some i=>⟨15,(i:Int)⟩|none=>if cycL g=[] then ⟨0,0⟩ else ⟨10, -1⟩:=by unfold chF;rw[if_pos h0,if_neg h1]
   rw[e]
   repeat (first|refine wk ?_|refine Zaa (hr:=?_))
   refine Zai (X:=Nat) (fun k=>k≤w.length∧wBad g.terms w 0=wBad g.terms (w.drop k) k) (fun k=>[(6,I k),(4,.ptr 4 0),(2,.ptr 2 0),(1,.d (ints u w))]) (fun k=>[(2,Zar t g),(4,.box 31 [.d (iD 0),.d (iD 0)])]) (fun k=>w.length - k) 0 ⟨Nat.zero_le _,rfl⟩ ?_
   rintro k ⟨k1,k2⟩
   by_cases hlt:k < w.length
   ·rw[Zk6 hlt] at k2
    by_cases hb1:w[k] < 0
    ·rw[if_pos (.inl hb1)] at k2
     rw[k2]
     (repeat (first|refine wk ?_|refine Zaa (hr:=?_)))
     (repeat (first|refine wkz ?_|refine Zaa (hr:=?_)))
     repeat (first|refine wk ?_|refine Zaa (hr:=?_))
     refine Zab [] (hA:=ZbC) (hr:=?_)
     repeat (first|refine wk ?_|refine Zaa (hr:=?_))
     exact fin
    ·by_cases hb2:g.terms≤w[k]
     ·rw[if_pos (.inr hb2)] at k2
      rw[k2]
      repeat (first|refine wk ?_|refine Zaa (hr:=?_))
      refine Zab [] (hA:=ZbC) (hr:=?_)
      repeat (first|refine wk ?_|refine Zaa (hr:=?_))
      exact fin
     ·rw[if_neg (by omega)] at k2
      repeat (first|refine wk ?_|refine Zaa (hr:=?_))
      exact Zad (k+1) (a:=⟨by omega,k2⟩)
   ·rw[List.drop_of_length_le (by omega),wBad] at k2
    rw[k2]
    dsimp only
    by_cases hc:cycL g=[]
    ·rw[if_pos hc]
     have hc':=ne_nil.1 hc
     generalize cycL g=CY at *
     repeat (first|refine wk ?_|refine Zaa (hr:=?_))
     refine Zab [] (hA:=hcy) (hr:=?_)
     repeat (first|refine wk ?_|refine Zaa (hr:=?_))
     exact fin
    ·rw[if_neg hc]
     have hc':(0:Int) < ((cycL g).length:Nat):=Classical.byContradiction fun h=>hc (ne_nil.2 h)
     generalize cycL g=CY at *
     repeat (first|refine wk ?_|refine Zaa (hr:=?_))
     refine Zab [] (hA:=hcy) (hr:=?_)
     repeat (first|refine wk ?_|refine Zaa (hr:=?_))
     refine Zab [] (hA:=ZbC) (hr:=?_)
     repeat (first|refine wk ?_|refine Zaa (hr:=?_))
     exact fin
 ·have e:chF g w=Zah g:=by unfold chF;rw[if_neg h0]
  rw[e]
  repeat (first|refine wk ?_|refine Zaa (hr:=?_))
  exact fin
set_option maxHeartbeats 8000000 in
theorem Zs9 {t u:Bool} {g:Gram} {w:List Int} (hf:g.fit) (hw:w.length≤100000000) (hn:(chF g w).code≠0):ACalls Tryz.prog 22 [.d (ZaH t g),.d (ints u w)] [] (.tup [.d (.raw (.pointer none)),.d (ZaN (chF g w))]) []:=by
 have hgf:=ZaY (t:=t) (g:=g) hf.rules hf.right
 refine ACalls.intro (n:=83) Tryz.func22 rfl rfl (by simp) (by rfl) ?_
 simp only[Zak]
 repeat (first|refine wk ?_|refine Zaa (hr:=?_))
 refine Zab [] (hA:=hgf) (hr:=?_)
 by_cases h0:(Zah g).code=0
 ·have hg:=Zbr h0
  have hcy:=ZfS (t:=t) hf
  rw[hg.fault] at hcy
  have hv:=hg.vars
  have hcl:=Zk8 (ledM false g) g.vars.toNat
  rw[←ZqR hg] at hcl
  by_cases h1:12 < w.length
  ·have e:chF g w=⟨15, -1⟩:=by unfold chF;rw[if_pos h0,if_pos h1]
   rw[e]
   repeat (first|refine wk ?_|refine Zaa (hr:=?_))
   exact fin
  ·have e:chF g w=match wBad g.terms w 0 with|some i=>⟨15,(i:Int)⟩|none=>if cycL g=[] then ⟨0,0⟩ else ⟨10, -1⟩:=by unfold chF;rw[if_pos h0,if_neg h1]
   rw[e] at hn ⊢
   repeat (first|refine wk ?_|refine Zaa (hr:=?_))
   refine Zai (X:=Nat) (fun k=>k≤w.length∧wBad g.terms w 0=wBad g.terms (w.drop k) k) (fun k=>[(28,I k),(27,I w.length),(26,.d (ints u w)),(5,.ptr 5 0),(2,.ptr 2 0),(1,.d (ints u w))]) (fun k=>[(2,Zar t g),(5,.box 31 [.d (iD 0),.d (iD 0)])]) (fun k=>w.length - k) 0 ⟨Nat.zero_le _,rfl⟩ ?_
   rintro k ⟨k1,k2⟩
   by_cases hlt:k < w.length
   ·rw[Zk6 hlt] at k2
    by_cases hb1:w[k] < 0
    ·rw[if_pos (.inl hb1)] at k2
     rw[k2]
     (repeat (first|refine wk ?_|refine Zaa (hr:=?_)))
     (repeat (first|refine wkz ?_|refine Zaa (hr:=?_)))
     repeat (first|refine wk ?_|refine Zaa (hr:=?_))
     exact fin
    ·by_cases hb2:g.terms≤w[k]
     ·rw[if_pos (.inr hb2)] at k2
      rw[k2]
      repeat (first|refine wk ?_|refine Zaa (hr:=?_))
      exact fin
     ·rw[if_neg (by omega)] at k2
      repeat (first|refine wk ?_|refine Zaa (hr:=?_))
      exact Zad (k+1) (a:=⟨by omega,k2⟩)
   ·rw[List.drop_of_length_le (by omega),wBad] at k2
    rw[k2] at hn ⊢
    dsimp only at hn ⊢
    by_cases hc:cycL g=[]
    ·rw[if_pos hc] at hn;exact absurd rfl hn
    ·rw[if_neg hc]
     have hc':(0:Int) < ((cycL g).length:Nat):=Classical.byContradiction fun h=>hc (ne_nil.2 h)
     generalize cycL g=CY at *
     repeat (first|refine wk ?_|refine Zaa (hr:=?_))
     refine Zab [] (hA:=hcy) (hr:=?_)
     repeat (first|refine wk ?_|refine Zaa (hr:=?_))
     exact fin
 ·have e:chF g w=Zah g:=by unfold chF;rw[if_neg h0]
  rw[e]
  repeat (first|refine wk ?_|refine Zaa (hr:=?_))
  exact fin
end Go.Proofs.YtbpmepgnjanhnaaGreat
namespace Go.Proofs.YtbpmepgnjanhnaaGreat
open Go.RowKit
set_option maxRecDepth 100000
theorem listB_memC {is:List Bool} {x:Int}:x∈Zdr is↔has is x=true:=by
 unfold Zdr has
 simp only[List.mem_map,List.mem_filter,List.mem_range,Bool.and_eq_true,decide_eq_true_eq]
 constructor
 ·rintro⟨k,⟨h1,h2⟩,rfl⟩;exact⟨by omega,by simpa using h2⟩
 ·rintro⟨h1,h2⟩
  refine⟨x.toNat,⟨?_,h2⟩,by omega⟩
  refine Classical.byContradiction fun h=>?_
  rw[List.getD_eq_getElem?_getD,List.getElem?_eq_none (by omega)] at h2
  cases h2
def flg (V:Nat) (l:List Int) (k:Nat):List Bool:=(List.range V).map fun (x:Nat)=>decide ((x:Int)∈l.take k)
theorem Zta (V:Nat) (l:List Int):flg V l 0=List.replicate V false:=by
 refine List.ext_getElem (by simp[flg]) fun k h1 h2=>?_
 simp[flg]
theorem Ztb {V:Nat} {l:List Int} {k:Nat} {v:Nat} (hk:k < l.length) (hv:l[k]=(v:Int)):(flg V l k).set v true=flg V l (k+1):=by
 refine List.ext_getElem (by simp[flg]) fun x h1 h2=>?_
 rw[List.getElem_set]
 simp only[flg,List.getElem_map,List.getElem_range]
 rw[List.take_succ_eq_append_getElem hk,hv]
 by_cases e:v=x
 ·subst e;simp
 ·rw[if_neg e]
  congr 1
  simp only[List.mem_append,List.mem_singleton,eq_iff_iff]
  exact⟨.inl,fun h=>h.elim id (fun h=>by omega)⟩
theorem Zuy {is:List Bool}:flg is.length (Zdr is) (Zdr is).length=is:=by
 refine List.ext_getElem (by simp[flg]) fun x h1 h2=>?_
 simp only[flg,List.getElem_map,List.getElem_range,List.take_length]
 have:(x:Int)∈Zdr is↔is[x]=true:=by
  rw[listB_memC,Zbl,List.getD_eq_getElem?_getD,List.getElem?_eq_getElem h2,Option.getD_some]
 cases hb:is[x] with
 | true=>exact decide_eq_true (this.2 hb)
 | false=>exact decide_eq_false (fun h=>by rw[this.1 h] at hb;cases hb)
abbrev cxH2 (g:Gram) (w:List Int) (nl:List Bool) (N:Cube):Hp:=[(62,cxBx g w nl 60),(60,.mp (Za7 N))]
theorem ZqS (N:Cube):Za7 N []:=fun x hx=>by cases hx
set_option maxHeartbeats 8000000 in
theorem Zoc {t u:Bool} {g:Gram} {w:List Int} (hC:ChOk g w):ACalls Tryz.prog 22 [.d (ZaH t g),.d (ints u w)] [] (.tup [.ptr 62 0,.d (ZaN ⟨0,0⟩)]) (cxH2 g w (nulB g) (wcns g w Zac)):=by
 have hg:=hC.ok
 have hf:=hg.fit
 have hgf:=ZaY (t:=t) (g:=g) hf.rules hf.right
 rw[hg.fault] at hgf
 have hcy:=ZfS (t:=t) hf
 rw[hg.fault,hC.cyc] at hcy
 have hnu:=ZkX (t:=t) hf
 rw[hg.fault,show Zqt g=Zdr (nulB g) by unfold Zqt;rw[if_pos (by rw[hg.fault])]] at hnu
 have hv:=hg.vars
 have hv1:=hg.vars1
 have hrl:=hg.rules
 have hnl:(nulB g).length=g.vars.toNat:=ZbZ hg
 have hll:=ZsS (nulB g)
 have hlin:∀ k (h:k < (Zdr (nulB g)).length),∃ v:Nat,(Zdr (nulB g))[k]=(v:Int)∧v < g.vars.toNat:=fun k h=>by
  have h1:=listB_memC.1 (List.getElem_mem h)
  have h2:=ZeM h1
  exact⟨((Zdr (nulB g))[k]).toNat,by omega,by omega⟩
 have hown:=Zfo (t:=t) hf
 have hcl:=Zdt (t:=u) (xs:=w) (by have:=hC.len;omega)
 have hlen:=hC.len
 have hsy:=hC.syms
 have hend:=Zuy (is:=nulB g)
 rw[hnl] at hend hll
 have hst:=fun k v=>Ztb (V:=g.vars.toNat) (l:=Zdr (nulB g)) (k:=k) (v:=v)
 have hz:=Zta g.vars.toNat (Zdr (nulB g))
 have hgd:=ZqS (wcns g w Zac)
 have hfl:∀ k,(flg g.vars.toNat (Zdr (nulB g)) k).length=g.vars.toNat:=fun k=>by simp[flg]
 obtain⟨V,hVe⟩:∃ V:Nat,g.vars.toNat=V:=⟨_,rfl⟩
 have hVi:g.vars=(V:Int):=by omega
 generalize wcns g w Zac=N at *
 generalize Zdr (nulB g)=NL at *
 generalize nulB g=NB at *
 rw[hVe] at *
 refine ACalls.intro (n:=83) Tryz.func22 rfl rfl (by simp) (by rfl) ?_
 simp only[Zak]
 repeat (first|refine wk ?_|refine Zaa (hr:=?_))
 refine Zab [] (hA:=hgf) (hr:=?_)
 repeat (first|refine wk ?_|refine Zaa (hr:=?_))
 refine Zai (X:=Nat) (fun k=>k≤w.length) (fun k=>[(28,I k),(27,I w.length),(26,.d (ints u w)),(5,.ptr 5 0),(2,.ptr 2 0),(1,.d (ints u w))]) (fun k=>[(2,Zar t g),(5,.box 31 [.d (iD 0),.d (iD 0)])]) (fun k=>w.length - k) 0 (Nat.zero_le _) ?_
 intro k hk
 by_cases hlt:k < w.length
 ·have h1:=hsy _ (List.getElem_mem hlt)
  have h2:¬ w[k] < 0:=by omega
  have h3:¬ g.terms≤w[k]:=by omega
  repeat (first|refine wk ?_|refine Zaa (hr:=?_))
  exact Zad (k+1)
 ·repeat (first|refine wk ?_|refine Zaa (hr:=?_))
  refine Zab [] (hA:=hcy) (hr:=?_)
  repeat (first|refine wk ?_|refine Zaa (hr:=?_))
  refine Zab [(900,954)] (hA:=hown) (hr:=?_)
  repeat (first|refine wk ?_|refine Zaa (hr:=?_))
  refine Zab [(5,956)] (hA:=hcl) (hr:=?_)
  repeat (first|refine wk ?_|refine Zaa (hr:=?_))
  refine Zsc rfl rfl Zag rfl ?_
  repeat (first|refine wk ?_|refine Zaa (hr:=?_))
  refine Zab [] (hA:=hnu) (hr:=?_)
  repeat (first|refine wk ?_|refine Zaa (hr:=?_))
  refine Zf0 62 3 954 rfl rfl rfl (by simp) ?_
  refine Zf0 62 4 956 rfl rfl rfl (by simp) ?_
  refine Zs8 60 [] (Za7 N) rfl hgd ?_
  have e:List.replicate V (bD false)=(flg V NL 0).map bD:=by rw[hz,List.map_replicate]
  refine Zai (X:=Nat) (fun k=>k≤NL.length) (fun k=>[(70,I k),(69,I NL.length),(68,.d (ints false NL)),(11,.ptr 62 0),(5,.ptr 5 0)]) (fun k=>[(5,.box 31 [.d (iD 0),.d (iD 0)]),(62,.box 91 [.d (iD g.vars),.d (iD g.terms),.d (iD g.start),.d (ZaT false g.rules),.d (ints false w),.own 59 V,.mapv 60]),(59,.row 4 1 ((flg V NL k).map bD)),(60,.mp (Za7 N))]) (fun k=>NL.length - k) 0 (Nat.zero_le _) ?_
  clear e
  intro k hk
  have hfk:=hfl k
  by_cases hlt2:k < NL.length
  ·obtain⟨v,hv1,hv2⟩:=hlin k hlt2
   have e:((flg V NL k).map bD).set v (bD true)=(flg V NL (k+1)).map bD:=by rw[←List.map_set,hst k v hlt2 hv1]
   generalize flg V NL k=F1 at *
   repeat (first|refine wk ?_|refine Zaa (hr:=?_))
   exact Zad (k+1)
  ·obtain rfl:k=NL.length:=by omega
   rw[hend]
   rw[hend] at hfk
   repeat (first|refine Zf0 62 5 59 rfl rfl rfl (by simp[hfk]) ?_|refine wk1 ?_)
   exact fin
end Go.Proofs.YtbpmepgnjanhnaaGreat
