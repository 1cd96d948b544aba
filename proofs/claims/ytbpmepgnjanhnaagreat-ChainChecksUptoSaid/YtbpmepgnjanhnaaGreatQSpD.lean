import Derived.Test.YtbpmepgnjanhnaaGreatQTurnD
import Derived.Test.YtbpmepgnjanhnaaGreatQFrC
import Derived.Test.YtbpmepgnjanhnaaGreatQSaP
import Derived.Test.YtbpmepgnjanhnaaGreatQFactsK
import Derived.Test.YtbpmepgnjanhnaaGreatQChartD
import Derived.Test.YtbpmepgnjanhnaaGreatSmN
import Derived.Test.YtbpmepgnjanhnaaGreatQSimPf
set_option linter.unusedVariables false
set_option linter.unusedSimpArgs false
set_option linter.unusedSectionVars false
namespace Go.Proofs.YtbpmepgnjanhnaaGreat
open Go.RowKit
set_option maxRecDepth 100000
abbrev Zww (g:Gram) (s:SP):Ob:=.box 171 [.d (iD s.vars),.d (iD g.terms),.d (iD g.start),.own 901 s.rules.length,.own 902 s.frags.length,.d nilT,.own 903 g.terms.toNat,.d (bD s.many)]
set_option maxHeartbeats 4000000 in
theorem Zkd {t:Bool} {g:Gram} (hf:g.fit) :
  ACalls Tryz.prog 70 [.d (ZaH t g)] [] (.tup [.d (Zbv false (Zcq g).1),.d (ZaN (Zcq g).2)]) []:=by
 refine ACalls.intro (n:=86) Tryz.func70 rfl rfl (by simp) (by rfl) ?_
 simp only[Zak]
 have hr1:=hf.rules
 have hr2:=hf.right
 repeat (first|refine wk ?_)
 refine Zab [] (hA:=ZaY) (hr:=?_)
 by_cases hc:(Zah g).code=0
 rotate_left
 ·rw[show Zcq g=(zeroStep,Zah g) by rw[Zcq,if_neg hc]]
  repeat (first|refine wk ?_)
  exact fin2
 have hg:=Zbr hc
 have hv1:=hg.vars1
 have hv2:=hg.vars
 have ht1:=hg.terms0
 have ht2:=hg.terms
 repeat (first|refine wk ?_)
 refine Za9 16 3 901 68 2 rfl rfl rfl rfl ?_
 refine Za9 16 4 902 75 1 rfl rfl rfl rfl ?_
 refine Za9 16 6 903 3 1 rfl rfl rfl rfl ?_
 have ht0:((g.terms.toNat:Nat):Int)=g.terms:=by omega
 refine Zai (X:=Nat) (fun k=>k≤g.terms.toNat) (fun k=>[(30,I k),(29,.d (iD g.terms)),(5,.ptr 16 0),(3,.ptr 3 0),(2,.ptr 2 0),(1,.ptr 1 0)])
  (fun k=>[(16,.box 171 [.d (iD g.vars),.d (iD g.terms),.d (iD g.start),.own 901 0,.own 902 0,.d nilT,.own 903 k,.d (bD false)]),(901,.row 68 2 []),(902,.row 75 1 []),(903,.row 3 1 ((List.replicate k (-1:Int)).map iD)),(1,Zar t g),(2,Zbh false zeroStep),(3,.box 31 [.d (iD 0),.d (iD 0)])]) (fun k=>g.terms.toNat - k) 0 (Nat.zero_le _) ?_
 ·intro k hk
  have hrep:(List.replicate k (-1:Int)).length=k:=List.length_replicate
  by_cases hlt:(k:Int) < g.terms
  ·have e:List.replicate (k+1) (-1:Int)=List.replicate k (-1:Int)++[-1]:=List.replicate_succ'
   repeat (first|refine wk ?_)
   exact Zad (k+1)
  ·obtain rfl:k=g.terms.toNat:=by omega
   repeat (first|refine wk ?_)
   clear hrep hlt hk
   have hfit:=Zdh hg
   have hm0:bD false=bD (Za0 g).many:=by rw[hfit.2]
   rw[hm0]
   refine Zai (X:=Nat×SP) (fun x=>x.1≤g.rules.length∧ZbJ (Za0 g) g.rules 0=ZbJ x.2 (g.rules.drop x.1) x.1∧x.2.fit g∧x.2.many=false) (fun x=>[(45,I x.1),(44,I g.rules.length),(43,.d (ZaT t g.rules)),(5,.ptr 16 0),(3,.ptr 3 0),(2,.ptr 2 0)])
    (fun x=>[(16,Zww g x.2),(901,.row 68 2 (x.2.rules.map (Zbu false))),(902,.row 75 1 (x.2.frags.map (Zam false))),(903,.row 3 1 (x.2.term.map iD)),(2,Zbh false zeroStep),(3,.box 31 [.d (iD 0),.d (iD 0)])]) (fun x=>g.rules.length - x.1) (0,Za0 g) ⟨Nat.zero_le _,rfl,hfit.1,hfit.2⟩ ?_
   rintro⟨i,s⟩ ⟨h1,h2,h3,h4⟩
   dsimp only at h1 h2 h3 h4 ⊢
   by_cases hlt:i < g.rules.length
   ·have hmem:=List.getElem_mem hlt
    have hrf:=hg.rule hmem
    have hone:=h3.one hg hlt hrf
    have hgo:ZbJ s (g.rules.drop i) i=bif (s.one i g.rules[i]).many then .error i else ZbJ (s.one i g.rules[i]) (g.rules.drop (i+1)) (i+1):=by
     rw[List.drop_eq_getElem_cons hlt,ZbJ]
    have hb:=Zmr h4
    have hpl:=h3.parts.len
    have hrr:=hg.right _ hmem
    by_cases h5:g.rules[i].right.length < 2
    ·have e1:s.one i g.rules[i]=s.rule g.rules[i].left g.rules[i].right (Zdd i (kids g.rules[i].right).length):=by rw[SP.one,if_pos h5]
     have hkl:=Zb6 g.rules[i].right
     repeat (first|refine wk ?_)
     refine Zab [(3,905)] (hA:=ZgS) (hr:=?_)
     repeat (first|refine wk ?_)
     refine Zab [(20,906)] (hA:=Zof) (hr:=?_)
     repeat (first|refine wk ?_)
     refine Zab [(1000,16),(1001,901),(1002,902),(1003,903)] (hA:=ZgY (g:=g) (s:=s)) (hr:=?_)
     repeat (first|refine wk ?_)
     rw[e1] at hone hgo
     by_cases hm:(s.rule g.rules[i].left g.rules[i].right (Zdd i (kids g.rules[i].right).length)).many=true
     ·rw[show Zcq g=(zeroStep,⟨6,i⟩) by rw[Zcq,if_pos hc,h2,hgo,hm];rfl]
      repeat (first|refine wk ?_)
      exact fin2
     ·rw[Bool.not_eq_true] at hm
      repeat (first|refine wk ?_)
      exact Zad (i+1,(s.rule g.rules[i].left g.rules[i].right (Zdd i (kids g.rules[i].right).length))) (a:=⟨by dsimp only;omega,by rw[h2,hgo,hm];rfl,hone,hm⟩)
    ·have e1:s.one i g.rules[i]=s.split g.rules[i].left i g.rules[i].right:=by rw[SP.one,if_neg h5]
     have hlo:=hg.lo _ hmem
     have htl:=h3.tlen
     have hv:=h3.vars
     repeat (first|refine wk ?_)
     have h5':2≤g.rules[i].right.length:=by omega
     have b1:g.terms≤80000:=by omega
     have b2:0≤s.vars:=by omega
     have b3:s.vars≤80000:=by omega
     have b4:s.rules.length≤80000:=by omega
     have b5:s.frags.length≤80000:=by omega
     refine Zab [(1000,16),(1001,901),(1002,902),(1003,903)] (hA:=ZrC (s:=s) (g:=g) (r:=i) (v:=g.rules[i].left) (right:=g.rules[i].right) hlo h5' hrr htl b1 b2 b3 b4 b5) (hr:=?_)
     repeat (first|refine wk ?_)
     rw[e1] at hone hgo
     generalize s.split g.rules[i].left i g.rules[i].right=q at *
     by_cases hm:q.many=true
     ·rw[show Zcq g=(zeroStep,⟨6,i⟩) by rw[Zcq,if_pos hc,h2,hgo,hm];rfl]
      repeat (first|refine wk ?_)
      exact fin2
     ·rw[Bool.not_eq_true] at hm
      repeat (first|refine wk ?_)
      exact Zad (i+1,q) (a:=⟨by dsimp only;omega,by rw[h2,hgo,hm];rfl,hone,hm⟩)
   ·obtain rfl:i=g.rules.length:=by omega
    rw[show Zcq g=(⟨⟨s.vars,g.terms,g.start,s.rules⟩,s.frags,[]⟩,⟨0,0⟩) by rw[Zcq,if_pos hc,h2,List.drop_length];rfl]
    refine ZaF 901 rfl ?_
    refine ZaF 902 rfl ?_
    repeat (first|refine wk ?_)
    exact fin2
end Go.Proofs.YtbpmepgnjanhnaaGreat
namespace Go.Proofs.YtbpmepgnjanhnaaGreat
open Go.RowKit
set_option maxRecDepth 100000
theorem Zf9 {xs:List Int} {i:Nat} (h:i < xs.length):xs.getD i 0=xs[i]:=by rw[List.getD_eq_getElem?_getD,List.getElem?_eq_getElem h];rfl
end Go.Proofs.YtbpmepgnjanhnaaGreat
namespace Go.Proofs.YtbpmepgnjanhnaaGreat
open Go.RowKit
set_option maxRecDepth 100000
abbrev Zua (k:Nat) (ss:List Step):Hp:=[(k,.row 39 6 (ss.map (Zbv false)))]
set_option maxHeartbeats 4000000 in
theorem Zro {t:Bool} {g:Gram} {ss:List Step} (hf:g.fit) (hs:∀ s∈ss,s.fit) (hl:ss.length≤100000000) :
  ACalls Tryz.prog 15 [.d (ZaH t g),.own 1000 ss.length] (Zua 1000 ss) (.d (ZaH false (ZaA g ss))) (Zua 1000 ss):=by
 refine ACalls.intro (n:=17) Tryz.func15 rfl rfl (by simp) (by rfl) ?_
 simp only[Zak]
 have hml:(ss.map (Zbv false)).length=ss.length:=List.length_map _
 by_cases h0:0 < ss.length
 ·obtain⟨n,hn⟩:∃ n,ss.length=n+1:=⟨ss.length - 1,by omega⟩
  have hlt:n < ss.length:=by omega
  have e:=Zot g hn
  have hsf:=(hs _ (List.getElem_mem hlt)).g
  have ho:=Zfo (t:=false) hsf
  have ei:(ss.length:Int) - 1=(n:Int):=by omega
  rw[e]
  repeat (first|refine wk ?_|refine Zaa (hr:=?_))
  rw[ei]
  repeat (first|refine wk ?_|refine Zaa (hr:=?_))
  refine Zg2 TY rfl Zag rfl (IsElt.stpO rfl (by simp) hlt) rfl rfl rfl rfl ?_
  repeat (first|refine wk ?_|refine Zaa (hr:=?_))
  refine Zab [] (hA:=ho) (hr:=?_)
  repeat (first|refine ZaF 900 rfl ?_|refine wk1 ?_|refine Zaa (hr:=?_))
  exact fin
 ·have:ss=[]:=List.eq_nil_of_length_eq_zero (by omega)
  subst this
  have ho:=Zfo (t:=t) hf
  rw[show ZaA g []=g from rfl]
  repeat (first|refine wk ?_|refine Zaa (hr:=?_))
  refine Zab [] (hA:=ho) (hr:=?_)
  repeat (first|refine ZaF 900 rfl ?_|refine wk1 ?_|refine Zaa (hr:=?_))
  exact fin
def pasT (k:Int) (g:Gram):Step×Zb5:=if k=4 then Zcq g else Zgc g
set_option maxHeartbeats 4000000 in
theorem Ztx {k:Int} (hk:k=4∨k=6) {g:Gram} (hf:g.fit):ACalls Tryz.prog 37 [I k,.d (ZaH false g)] [] (.tup [.d (Zbv false (pasT k g).1),.d (ZaN (pasT k g).2)]) []:=by
 refine ACalls.intro (n:=45) Tryz.func37 rfl rfl (by simp) (by rfl) ?_
 simp only[Zak]
 have h1:=Zkd (t:=false) hf
 have h2:=ZlF hf
 unfold pasT
 rcases hk with rfl|rfl
 ·rw[if_pos rfl]
  repeat (first|refine wk ?_|refine Zaa (hr:=?_))
  refine Zab [] (hA:=h1) (hr:=?_)
  repeat (first|refine wk ?_|refine Zaa (hr:=?_))
  exact fin2
 ·rw[if_neg (by decide)]
  repeat (first|refine wk ?_|refine Zaa (hr:=?_))
  refine Zab [] (hA:=h2) (hr:=?_)
  repeat (first|refine wk ?_|refine Zaa (hr:=?_))
  exact fin2
theorem Zty {P:Int→Gram→Step×Zb5} {g:Gram} {ks:List Int} {i:Nat} {out:List Step} (h:i < ks.length):mkC P g (ks.drop i) i out=if ¬ (P ks[i] (ZaA g out)).2.code=0 then ([],⟨(P ks[i] (ZaA g out)).2.code,(i:Int)⟩) else mkC P g (ks.drop (i+1)) (i+1) (out++[(P ks[i] (ZaA g out)).1]):=by
 conv=>lhs;rw[List.drop_eq_getElem_cons h,mkC]
set_option maxHeartbeats 4000000 in
theorem ZpB {t u:Bool} {P:Int→Gram→Step×Zb5} {g:Gram} {ks:List Int} (hf:g.fit) (hk:ks.length≤100000000)
  (hp:∀ k∈ks,∀ g:Gram,g.fit→ACalls Tryz.prog 37 [I k,.d (ZaH false g)] [] (.tup [.d (Zbv false (P k g).1),.d (ZaN (P k g).2)]) []∧(P k g).1.fit) :
  ACalls Tryz.prog 11 [.d (ZaH t g),.d (ints u ks)] [] (.tup [.d (ZaZ false false (Zpx P g ks).1),.d (ZaN (Zpx P g ks).2)]) []:=by
 refine ACalls.intro (n:=51) Tryz.func11 rfl rfl (by simp) (by rfl) ?_
 simp only[Zak]
 have hgc:=ZaY (t:=t) hf.rules hf.right
 have hr:∃ r,Zpx P g ks=r:=⟨_,rfl⟩
 obtain⟨r,hr⟩:=hr
 rw[hr]
 unfold Zpx at hr
 by_cases h0:(Zah g).code=0
 ·rw[if_neg (fun q=>q h0)] at hr
  by_cases h8:8 < ks.length
  ·rw[if_pos h8] at hr
   subst hr
   repeat (first|refine wk ?_|refine Zaa (hr:=?_))
   refine Zab [] (hA:=hgc) (hr:=?_)
   repeat (first|refine wk ?_|refine Zaa (hr:=?_))
   exact fin
  ·rw[if_neg h8] at hr
   repeat (first|refine wk ?_|refine Zaa (hr:=?_))
   refine Zab [] (hA:=hgc) (hr:=?_)
   repeat (first|refine wk ?_|refine Zaa (hr:=?_))
   refine ZaU 7 907 39 6 rfl rfl rfl ?_
   repeat (first|refine wk ?_|refine Zaa (hr:=?_))
   refine Zai (X:=Nat×List Step) (fun y=>y.1≤ks.length∧y.2.length=y.1∧(∀ s∈y.2,s.fit)∧mkC P g (ks.drop y.1) y.1 y.2=r) (fun y=>[(24,I y.1),(23,I ks.length),(22,.d (ints u ks)),(7,.own 907 y.2.length),(2,.ptr 2 0),(5,.ptr 5 0)]) (fun y=>[(907,.row 39 6 (y.2.map (Zbv false))),(2,Zar t g),(5,.box 31 [.d (iD 0),.d (iD 0)])]) (fun y=>ks.length - y.1) (0,[]) ⟨Nat.zero_le _,rfl,(fun s h=>by cases h),hr⟩ ?_
   rintro⟨i,out⟩ ⟨i1,i2,i3,i4⟩
   dsimp only at i1 i2 i3 i4 ⊢
   by_cases hlt:i < ks.length
   ·have hla:=Zro (t:=t) hf i3 (by omega)
    obtain⟨hps,hpf⟩:=hp ks[i] (List.getElem_mem hlt) _ (Zbf hf i3)
    rw[Zty hlt] at i4
    generalize P ks[i] (ZaA g out)=S at *
    obtain⟨s,fc,fa⟩:=S
    dsimp only at i4 hps hpf
    by_cases hc:fc=0
    ·rw[if_neg (fun q=>q hc)] at i4
     have ec:out.map (Zbv false)++[.agg [iD s.g.vars,iD s.g.terms,iD s.g.start,ZaT false s.g.rules,.sl false 1 (s.frags.map (Zam false)),Zal false s.empty]]=(out++[s]).map (Zbv false):=by rw[List.map_append];rfl
     repeat (first|refine wk ?_|refine Zaa (hr:=?_))
     refine Zab [(1000,907)] (hA:=hla) (hr:=?_)
     repeat (first|refine wk ?_|refine Zaa (hr:=?_))
     refine Zab [] (hA:=hps) (hr:=?_)
     repeat (first|refine wk ?_|refine Zaa (hr:=?_))
     rw[ec]
     exact Zad (i+1,out++[s]) (a:=⟨by dsimp only;omega,by simp[i2],fun x hx=>by
      rcases List.mem_append.1 hx with hx|hx
      ·exact i3 x hx
      ·rw[List.mem_singleton.1 hx];exact hpf,i4⟩) (b:=by dsimp only;omega)
    ·rw[if_pos hc] at i4
     subst i4
     repeat (first|refine wk ?_|refine Zaa (hr:=?_))
     refine Zab [(1000,907)] (hA:=hla) (hr:=?_)
     repeat (first|refine wk ?_|refine Zaa (hr:=?_))
     refine Zab [] (hA:=hps) (hr:=?_)
     repeat (first|refine wk ?_|refine Zaa (hr:=?_))
     exact fin
   ·have hi:i=ks.length:=by omega
    subst hi
    rw[List.drop_length,mkC] at i4
    subst i4
    refine ZaF 907 rfl ?_
    repeat (first|refine wk ?_|refine Zaa (hr:=?_))
    exact fin
 ·rw[if_pos h0] at hr
  subst hr
  repeat (first|refine wk ?_|refine Zaa (hr:=?_))
  refine Zab [] (hA:=hgc) (hr:=?_)
  repeat (first|refine wk ?_|refine Zaa (hr:=?_))
  exact fin
end Go.Proofs.YtbpmepgnjanhnaaGreat
namespace Go.Proofs.YtbpmepgnjanhnaaGreat
open Go.RowKit
set_option maxRecDepth 100000
def Zrp (g:Gram) (w:List Int):Bool:=Zdn g || decide (300 < w.length) || (decide (w.length≤12) && decide (7 < w.length) && decide (40 < g.rules.length)) || (decide (w.length≤12) && decide (5 < w.length) && decide (100 < g.rules.length))
set_option maxHeartbeats 4000000 in
theorem Zrq {t u:Bool} {g:Gram} {w:List Int} (hf:g.fit) (hw:w.length≤100000000):ACalls Tryz.prog 17 [.d (ZaH t g),.d (ints u w)] [] (B (Zrp g w)) []:=by
 have hgg:=ZcL (t:=t) (g:=g) hf.rules hf.right
 have hrl:=hf.rules
 unfold Zrp
 refine ACalls.intro (n:=44) Tryz.func17 rfl rfl (by simp) (by rfl) ?_
 simp only[Zak]
 repeat (first|refine wk ?_|refine Zaa (hr:=?_))
 refine Zab [] (hA:=hgg) (hr:=?_)
 cases Zdn g with
 | true =>
  simp only[Bool.true_or]
  ((repeat (first|refine wkz ?_|refine Zaa (hr:=?_)));(repeat (first|refine wk ?_|refine Zaa (hr:=?_)));(repeat (first|refine wkz ?_|refine Zaa (hr:=?_)));exact fin)
 | false =>
  by_cases h1:300 < w.length
  ·rw[decide_eq_true h1]
   simp only[Bool.or_true,Bool.true_or]
   ((repeat (first|refine wkz ?_|refine Zaa (hr:=?_)));(repeat (first|refine wk ?_|refine Zaa (hr:=?_)));(repeat (first|refine wkz ?_|refine Zaa (hr:=?_)));exact fin)
  ·rw[decide_eq_false h1]
   by_cases h2:w.length≤12
   ·rw[decide_eq_true h2]
    by_cases h3:7 < w.length
    ·have h3b:5 < w.length:=by omega
     rw[decide_eq_true h3,decide_eq_true h3b]
     by_cases h4:40 < g.rules.length
     ·rw[decide_eq_true h4]
      simp only[Bool.true_and,Bool.or_true,Bool.true_or,Bool.false_or]
      ((repeat (first|refine wkz ?_|refine Zaa (hr:=?_)));(repeat (first|refine wk ?_|refine Zaa (hr:=?_)));(repeat (first|refine wkz ?_|refine Zaa (hr:=?_)));exact fin)
     ·have h5:¬ 100 < g.rules.length:=by omega
      rw[decide_eq_false h4,decide_eq_false h5]
      simp only[Bool.true_and,Bool.and_false,Bool.or_false]
      ((repeat (first|refine wkz ?_|refine Zaa (hr:=?_)));(repeat (first|refine wk ?_|refine Zaa (hr:=?_)));(repeat (first|refine wkz ?_|refine Zaa (hr:=?_)));exact fin)
    ·rw[decide_eq_false h3]
     by_cases h3b:5 < w.length
     ·rw[decide_eq_true h3b]
      by_cases h4:100 < g.rules.length
      ·rw[decide_eq_true h4]
       simp only[Bool.true_and,Bool.and_false,Bool.false_and,Bool.or_false,Bool.false_or]
       ((repeat (first|refine wkz ?_|refine Zaa (hr:=?_)));(repeat (first|refine wk ?_|refine Zaa (hr:=?_)));(repeat (first|refine wkz ?_|refine Zaa (hr:=?_)));exact fin)
      ·rw[decide_eq_false h4]
       simp only[Bool.true_and,Bool.and_false,Bool.false_and,Bool.or_false,Bool.false_or]
       ((repeat (first|refine wkz ?_|refine Zaa (hr:=?_)));(repeat (first|refine wk ?_|refine Zaa (hr:=?_)));(repeat (first|refine wkz ?_|refine Zaa (hr:=?_)));exact fin)
     ·rw[decide_eq_false h3b]
      simp only[Bool.true_and,Bool.and_false,Bool.false_and,Bool.or_false,Bool.false_or]
      ((repeat (first|refine wkz ?_|refine Zaa (hr:=?_)));(repeat (first|refine wk ?_|refine Zaa (hr:=?_)));(repeat (first|refine wkz ?_|refine Zaa (hr:=?_)));exact fin)
   ·rw[decide_eq_false h2]
    simp only[Bool.true_and,Bool.and_false,Bool.false_and,Bool.or_false,Bool.false_or]
    ((repeat (first|refine wkz ?_|refine Zaa (hr:=?_)));(repeat (first|refine wk ?_|refine Zaa (hr:=?_)));(repeat (first|refine wkz ?_|refine Zaa (hr:=?_)));exact fin)
def Zv3 (g:Gram) (w:List Int) (M k:Nat):Bool:=(List.range g.vars.toNat).all fun v=>(List.range (w.length+1)).all fun i=>(List.range (w.length+1)).all fun j=>decide (rnds g w M (k+1) v i j=rnds g w M k v i j)
theorem ZuZ {g:Gram} {w:List Int} {M k:Nat} (h:Zv3 g w M k=true):wcns g w M=rnds g w M k:=by
 refine (ZnZ ?_).symm
 funext v i j
 by_cases hin:(v:Int) < g.vars∧i≤j∧j≤w.length
 ·simp only[Zv3,List.all_eq_true,List.mem_range,decide_eq_true_eq] at h
  exact h v (by omega) i (by omega) j (by omega)
 ·rw[ZdG hin,ZdG hin]
end Go.Proofs.YtbpmepgnjanhnaaGreat
namespace Go.Proofs.YtbpmepgnjanhnaaGreat
open Go.RowKit
set_option maxRecDepth 100000
def ZpC (F:Nat→Nat):List Int→Nat→Option (Nat×Nat)
 | [],_=>none
 | b::l,k=>if k < F b.toNat then some (b.toNat,k) else ZpC F l (k - F b.toNat)
theorem ZlD {g:Gram} {N:Cube} {w:List Int} {v i j:Nat}:∀ (rs:List Rule) (m k:Nat),g.rules.drop m=rs→ZpC (fR g N w v i j) (byR rs (v:Int) m) k=Zeb (fR g N w v i j) rs.length m k
 | [],m,k,h=>rfl
 | r::rs,m,k,h=>by
  have hm:m < g.rules.length:=Classical.byContradiction fun hn=>by
   rw[List.drop_of_length_le (by omega)] at h;cases h
  rw[List.drop_eq_getElem_cons hm] at h
  obtain⟨h1,h2⟩:=List.cons.inj h
  have ih:=fun k=>ZlD (g:=g) (N:=N) (w:=w) (v:=v) (i:=i) (j:=j) rs (m+1) k h2
  simp only[byR,List.length_cons]
  by_cases e:r.left=(v:Int)
  ·rw[if_pos e,ZpC,Zeb,Int.toNat_natCast,ih]
  ·rw[if_neg e,ih,Zpv (ZvU hm (by rw[h1];exact e))]
theorem Ztz {g:Gram} {N:Cube} {w:List Int} {v i j k:Nat}:ZpC (fR g N w v i j) (by_ g v) k=Zeb (fR g N w v i j) g.rules.length 0 k:=ZlD g.rules 0 k rfl
theorem Zjj {F:Nat→Nat}:∀ {l:List Int} {k r a:Nat},ZpC F l k=some (r,a)→∃ x,∃ h:x < l.length,l[x].toNat=r∧a < F r∧k=((l.take x).map fun b=>F b.toNat).sum+a
 | [],_,_,_,h=>by cases h
 | b::l,k,r,a,h=>by
  rw[ZpC] at h
  split at h
  ·rename_i hk
   cases h
   exact⟨0,by simp,rfl,hk,by simp⟩
  ·obtain⟨x,hx,h1,h2,h3⟩:=Zjj h
   refine⟨x+1,by simp;omega,by simpa using h1,h2,?_⟩
   simp only[List.take_succ_cons,List.map_cons,List.sum_cons]
   omega
end Go.Proofs.YtbpmepgnjanhnaaGreat
namespace Go.Proofs.YtbpmepgnjanhnaaGreat
open Go.RowKit
set_option maxRecDepth 100000
abbrev buBx (k L:Nat):Ob:=.box 136 [.ptr k 0,I L]
abbrev buH (t u:Bool) (g:Gram) (w:List Int) (L:Nat):Hp:=[(1000,buBx 1001 L),(1001,ctBx t u g w Zac (wcns g w Zac))]
def outP {α:Type} (R:Option (α×Nat)) (x:α) (b:Bool) (L':Nat):Prop:=(R=some (x,L')∧b=true)∨(R=none∧b=false∧L'=0)
def Zu0 (H:Nat→Hp) (f:FuncId) (args:List V) (L:Nat) (R:Option (Tree×Nat)):Prop :=
 ∃ x b L',outP R x b L'∧ACalls Tryz.prog f args (H L) (.tup [.d (ZaE false x),B b]) (H L')
def Zv4 (H:Nat→Hp) (f:FuncId) (args:List V) (L n:Nat) (R:Option (List Tree×Nat)):Prop :=
 ∃ l b L',outP R l b L'∧l.length≤n∧ACalls Tryz.prog f args (H L) (.tup [.d (Zal false l),B b]) (H L')
section
variable {t u:Bool} {g:Gram} {w:List Int}
theorem Zjk {v i j k:Int}:ACalls Tryz.prog 101 [.ptr 1000 0,I v,I i,I j,I k] (buH t u g w 0) (.tup [.d (ZaE false (.mk 0 [])),B false]) (buH t u g w 0):=by
 simp only[buH]
 generalize wcns g w Zac=N at *
 refine ACalls.intro (n:=93) Tryz.func101 rfl rfl (by simp) (by rfl) ?_
 simp only[Zak]
 repeat (first|refine wk ?_|refine Zaa (hr:=?_))
 exact Fin.r2 rfl (.aggT TY rfl rfl rfl rfl rfl) (.of_tmp rfl) (Co.tup ⟨Co.agg ⟨Co.refl _,Co.nil false 2,trivial⟩,Co.refl _,trivial⟩) ⟨HElt.of rfl,HElt.of rfl,trivial⟩ rfl
def sB (F:Nat→Nat) (l:List Int) (x:Nat):Nat:=((l.take x).map fun b=>F b.toNat).sum
theorem Zrr {F:Nat→Nat} {l:List Int} {x:Nat} (h:x < l.length):sB F l (x+1)=sB F l x+F l[x].toNat:=by
 unfold sB
 rw[List.take_succ_eq_append_getElem h,List.map_append,List.sum_append];simp
theorem Zv5 {F:Nat→Nat} {l:List Int} {x:Nat}:∀ {y:Nat},x≤y→sB F l x≤sB F l y
 | 0,h=>by
        obtain rfl:x=0:=by omega
        exact Nat.le_refl _
 | y+1,h=>by
  by_cases e:x=y+1
  ·rw[e];exact Nat.le_refl _
  ·have:=Zv5 (F:=F) (l:=l) (x:=x) (y:=y) (by omega)
   by_cases hy:y < l.length
   ·rw[Zrr hy];omega
   ·unfold sB at this ⊢
    rw[List.take_of_length_le (l:=l) (i:=y) (by omega)] at this
    rw[List.take_of_length_le (l:=l) (i:=y+1) (by omega)];exact this
abbrev buHN (t u:Bool) (g:Gram) (w:List Int) (N:Cube) (L:Nat):Hp:=[(1000,buBx 1001 L),(1001,ctBx t u g w Zac N)]
set_option maxHeartbeats 4000000 in
theorem ZpD (hC:ChOk g w) {d:Nat} (hK:∀ r i j k L,∀ h:r < g.rules.length,i≤j→j≤w.length→L≤d→k < wcn (wcns g w Zac) w g.rules[r].right i j→wcn (wcns g w Zac) w g.rules[r].right i j < Zac→Zv4 (buHN t u g w (wcns g w Zac)) 179 [.ptr 1000 0,.d (ints t g.rules[r].right),I (i:Nat),I (j:Nat),I (k:Nat)] L g.rules[r].right.length (rowF (wcns g w Zac) w (Zbq g (wcns g w Zac) w d) j g.rules[r].right i k L))
  {v i j k L:Nat} (hv:((v:Nat):Int) < g.vars) (hij:i≤j) (hj:j≤w.length) (hL:L≤d+1) (hd:d≤1000) (hk:k < wcns g w Zac v i j) (hM:wcns g w Zac v i j < Zac) :
  Zu0 (buHN t u g w (wcns g w Zac)) 101 [.ptr 1000 0,I (v:Nat),I (i:Nat),I (j:Nat),I (k:Nat)] L (Zbq g (wcns g w Zac) w (d+1) v i j k L):=by
 obtain⟨s1,s2⟩:=hC.small
 have hg:=hC.ok
 have hlen:=hC.len
 rw[Zbq]
 by_cases hz:L=0
 ·subst hz
  rw[if_pos rfl]
  exact⟨_,false,0,.inr ⟨rfl,rfl,rfl⟩,Zjk⟩
 rw[if_neg hz]
 obtain⟨r0,a,hr0,e1,e2,e3,e4,e5⟩:=ZhO (Zec g w Zac) hv hij hj hk hM
 have e1b:=e1
 rw[←Ztz] at e1b
 obtain⟨x0,hx0,p1,p2,p3⟩:=Zjj e1b
 rw[e1]
 dsimp only
 rw[Zeq hr0]
 have hk0:=hK r0 i j a (L - 1) hr0 hij hj (by omega) e3 (by omega)
 obtain⟨L0,rfl⟩:∃ L0,L=L0+1:=⟨L - 1,by omega⟩
 rw[Nat.add_sub_cancel] at hk0 ⊢
 have hrl:=hg.rules
 have hL1:((L0+1:Nat):Int) - 1=(L0:Int):=by omega
 have hLz:1≤((L0+1:Nat):Int):=by omega
 have hLm:((L0+1:Nat):Int)≤100000:=by omega
 have hby:=Zhg (t:=t) (g:=g) (v:=(v:Int)) (by omega)
 have hru:=fun (r:Nat)=>Zqk (t:=t) (u:=u) hg s1 s2 (by decide) (Nat.le_refl _) (fun v i j=>Zd5 g w Zac v i j) (r:Int) (i:Int) (j:Int)
 have hkM:k < Zac:=by omega
 obtain⟨Q,hQ⟩:∃ Q:Int,Q=4611686018427387904:=⟨_,rfl⟩
 have hkM:((k:Nat):Int) < Q:=by unfold Zac at hkM;omega
 have hS0:k=sB (fR g (wcns g w Zac) w v i j) (by_ g v) x0+a:=p3
 have hat:=fun x (h:x < (by_ g (v:Int)).length)=>by_mem.1 (List.getElem_mem h)
 have hrN:∀ r,∀ h:r < g.rules.length,g.rules[r].left=(v:Int)→ruC g w Zac (wcns g w Zac) r i j=fR g (wcns g w Zac) w v i j r:=fun r h e=>by
  unfold ruC
  rw[if_pos (by omega),ZaX h]
  simp only[Int.toNat_natCast]
  have q1:=Zrg (N:=wcns g w Zac) (w:=w) (v:=v) (i:=i) (j:=j) h e
  have q2:=ZjL (f:=fR g (wcns g w Zac) w v i j) (n:=g.rules.length) (k:=r) h
  have q3:=Zec g w Zac v i j hv hij hj
  omega
 have hbl:(by_ g (v:Int)).length≤g.rules.length:=Zfl (v:Int) g.rules 0
 obtain⟨l,b,L2,hout,hl,hk0⟩:=hk0
 refine⟨.mk (r0:Nat) l,b,L2,?_,?_⟩
 ·rcases hout with ⟨h,hb⟩|⟨h,hb,hL2⟩
  ·exact .inl ⟨by rw[h],hb⟩
  ·exact .inr ⟨by rw[h],hb,hL2⟩
 clear hout
 simp only[buHN,buBx] at hk0 ⊢
 generalize wcns g w Zac=N at *
 refine ACalls.intro (n:=93) Tryz.func101 rfl rfl (by simp) (by rfl) ?_
 simp only[Zak]
 repeat (first|refine wk ?_|refine Zaa (hr:=?_))
 rw[hL1]
 repeat (first|refine wk ?_|refine Zaa (hr:=?_))
 refine Zab [(5,902)] (hA:=hby) (hr:=?_)
 repeat (first|refine wk ?_|refine Zaa (hr:=?_))
 refine Zai (X:=Nat) (fun x=>x≤x0) (fun x=>[(13,I x),(12,.own 902 (by_ g v).length),(10,.ptr 10 0),(11,B false),(0,.ptr 1000 0),(1,I v),(2,I i),(3,I j),(4,I ((k - sB (fR g N w v i j) (by_ g v) x:Nat):Int))]) (fun _=>[(902,.row 3 1 ((by_ g (v:Int)).map iD)),(10,.box 56 [.d (iD 0),.d (.raw (.slice none 0 0))]),(1000,buBx 1001 L0),(1001,ctBx t u g w Zac N)]) (fun x=>x0 - x) 0 (Nat.zero_le _) ?_
 clear hLz hLm hL1
 intro x hx
 have hxl:x < (by_ g (v:Int)).length:=by omega
 obtain⟨m,hm,hb1,hb2⟩:=hat x hxl
 have hs:=Zrr (F:=fR g N w v i j) hxl
 rw[hb1,Int.toNat_natCast] at hs
 have h1:=hru m
 rw[hrN m hm hb2] at h1
 by_cases he:x < x0
 ·have hu:=Zv5 (F:=fR g N w v i j) (l:=by_ g v) (show x+1≤x0 from he)
  have ea:((k - sB (fR g N w v i j) (by_ g v) x:Nat):Int) - (fR g N w v i j m:Nat)=((k - sB (fR g N w v i j) (by_ g v) (x+1):Nat):Int):=by omega
  have hac:¬ ((k - sB (fR g N w v i j) (by_ g v) x:Nat):Int) < (fR g N w v i j m:Nat):=by omega
  have hb:((k - sB (fR g N w v i j) (by_ g v) x:Nat):Int) < Q:=by omega
  clear hs hu hat
  generalize k - sB (fR g N w v i j) (by_ g v) x=c1 at *
  generalize hc2:k - sB (fR g N w v i j) (by_ g v) (x+1)=c2 at *
  generalize fR g N w v i j m=c at *
  repeat (first|refine wk ?_|refine Zaa (hr:=?_))
  rw[hb1]
  refine Zaq [(1000,1001)] (hA:=h1) (hr:=?_)
  repeat (first|refine wk ?_|refine Zaa (hr:=?_))
  rw[ea]
  subst hc2
  exact Zad (x+1)
 ·obtain rfl:x=x0:=by omega
  have em:m=r0:=by rw[hb1] at p1;simpa using p1
  subst em
  have ea:k - sB (fR g N w v i j) (by_ g v) x=a:=by omega
  have hac:(a:Int) < (fR g N w v i j m:Nat):=by omega
  rw[ea]
  clear hs hat hS0 p3 e5
  generalize fR g N w v i j m=c at *
  repeat (first|refine wk ?_|refine Zaa (hr:=?_))
  rw[hb1]
  refine Zaq [(1000,1001)] (hA:=h1) (hr:=?_)
  repeat (first|refine wk ?_|refine Zaa (hr:=?_))
  rw[hb1]
  repeat (first|refine wk ?_|refine Zaa (hr:=?_))
  refine Zab [(1000,1000),(1001,1001)] (hA:=hk0) (hr:=?_)
  repeat (first|refine wk ?_|refine Zaa (hr:=?_))
  repeat (first|rw[hb1]|refine wk ?_|refine Zaa (hr:=?_))
  exact Fin.r2 rfl (.aggT TY rfl rfl rfl rfl rfl) (.of_tmp rfl) (Co.tup ⟨Co.agg (Cos.refl _),Co.refl _,trivial⟩) ⟨HElt.of rfl,HElt.of rfl,trivial⟩ rfl
end
end Go.Proofs.YtbpmepgnjanhnaaGreat
