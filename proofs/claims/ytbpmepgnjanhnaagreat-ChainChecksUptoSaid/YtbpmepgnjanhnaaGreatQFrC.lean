import Derived.Test.YtbpmepgnjanhnaaGreatQFrA
import Derived.Test.YtbpmepgnjanhnaaGreatS5
import Derived.Test.YtbpmepgnjanhnaaGreatQGramC
import Derived.Test.YtbpmepgnjanhnaaGreatQFrQ
set_option linter.unusedVariables false
set_option linter.unusedSimpArgs false
set_option linter.unusedSectionVars false
namespace Go.Proofs.YtbpmepgnjanhnaaGreat
open Go.RowKit
set_option maxRecDepth 100000
theorem Zof {r:Int} {k:Nat} (hk:k≤100000000:=by ((try simp only[List.length_map,List.length_append,List.length_cons,List.length_nil,List.length_replicate,List.length_set,List.length_take,List.length_drop]);first|omega|assumption)):ACalls Tryz.prog 120 [I r,I k] [] (.own 20 1) [(20,.row 102 3 ((Zdd r k).map (ZaV false)))]:=by
 refine ACalls.intro (n:=21) Tryz.func120 rfl rfl (by simp) (by rfl) ?_
 simp only[Zak]
 repeat (first|refine wk ?_)
 refine ZaU 5 900 102 3 rfl rfl rfl ?_
 refine Zai (X:=Nat) (fun x=>x≤k) (fun x=>[(8,I x),(7,I k),(0,I r),(5,.own 900 (ZbD x).length)]) (fun x=>[(900,.row 102 3 ((ZbD x).map (ZaV false)))]) (fun x=>k - x) 0 (Nat.zero_le _) ?_
 intro i h1
 have hh:(ZbD i).length=i:=by simp[ZbD]
 by_cases hlt:i < k
 ·have e:=ZmP false i
  have e':(ZbD (i+1)).length=(ZbD i).length+1:=by rw[Zi3];simp
  repeat (first|refine wk ?_)
  exact Zad (i+1)
 ·obtain rfl:i=k:=by omega
  rw[ZqW]
  repeat (first|refine wk ?_)
  exact fin
abbrev Zbh (t:Bool) (s:Step):Ob:=.box 39 [.d (iD s.g.vars),.d (iD s.g.terms),.d (iD s.g.start),.d (ZaT t s.g.rules),.d (.sl t 1 (s.frags.map (Zam t))),.d (Zal t s.empty)]
theorem Zlc {t u:Bool} {s:Step} (hs:s.fit):ACalls Tryz.prog 14 [.d (Zbv t s),.d (Zbv u s)] [] (B true) []:=by
 refine ACalls.intro (n:=48) Tryz.func14 rfl rfl (by simp) (by rfl) ?_
 simp only[Zak]
 have hf:=hs.frags
 have s1:=Zli (t:=t) (u:=u) hs.g hs.g
 rw[decide_eq_true rfl] at s1
 repeat (first|refine wk ?_)
 refine Zab [] (hA:=s1) (hr:=?_)
 repeat (first|refine wk ?_)
 refine Zab [] (hA:=Zfq hs.tree) (hr:=?_)
 repeat (first|refine wk ?_)
 refine Zai (X:=Nat) (fun x=>x≤s.frags.length) (fun x=>[(5,I x),(2,.ptr 2 0),(3,.ptr 3 0)]) (fun _=>[(2,Zbh t s),(3,Zbh u s)]) (fun x=>s.frags.length - x) 0 (Nat.zero_le _) ?_
 intro i h1
 by_cases hlt:i < s.frags.length
 ·have hfi:=hs.frag _ (List.getElem_mem hlt)
  repeat (first|refine wk ?_)
  refine Zab [] (hA:=Zlb) (hr:=?_)
  repeat (first|refine wk ?_)
  exact Zad (i+1)
 ·repeat (first|refine wk ?_)
  exact fin
end Go.Proofs.YtbpmepgnjanhnaaGreat
namespace Go.Proofs.YtbpmepgnjanhnaaGreat
open Go.RowKit
set_option maxRecDepth 100000
theorem ZqY {u:List Int} {k:Nat} (h:k < u.length):(u.take (k+1)).all (fun x=>decide (x=1))=((u.take k).all (fun x=>decide (x=1)) && decide (u[k]=1)):=by
 rw[List.take_succ_eq_append_getElem h,List.all_append];simp
set_option maxHeartbeats 600000 in
theorem Zfr {t u:Bool} {old:Gram} {s:Step} (ho:old.fit) (hs:s.fit):ACalls Tryz.prog 64 [.d (ZaH t old),.d (Zbv u s)] [] (.d (ZaN (Zas old s))) []:=by
 refine ACalls.intro (n:=124) Tryz.func64 rfl rfl (by simp) (by rfl) ?_
 simp only[Zak]
 have hf:=hs.frags
 have he:=hs.empty
 have hol:=ho.rules
 have hgl:=hs.g.rules
 have hor:=ho.right
 have hgr:=hs.g.right
 repeat (first|refine wk ?_|refine Zaa (hr:=?_))
 refine Zab [] (hA:=Zb7) (hr:=?_)
 by_cases h0:(Zah old).code=0
 rotate_left
 ·rw[show Zas old s=Zah old by rw[Zas,if_neg h0]]
  repeat (first|refine wk ?_|refine Zaa (hr:=?_))
  exact fin
 have hg:=Zbr h0
 repeat (first|refine wk ?_|refine Zaa (hr:=?_))
 refine Zab [] (hA:=Zb7) (hr:=?_)
 by_cases h1:(Zah s.g).code=0
 rotate_left
 ·rw[show Zas old s=Zah s.g by rw[Zas,if_pos h0,if_neg h1]]
  repeat (first|refine wk ?_|refine Zaa (hr:=?_))
  exact fin
 have hsg:=Zbr h1
 by_cases h2:(s.empty.length:Int) > 200
 ·rw[show Zas old s=⟨6, -1⟩ by rw[Zas,if_pos h0,if_pos h1,if_neg (by omega)]]
  repeat (first|refine wk ?_|refine Zaa (hr:=?_))
  refine Zab [] (hA:=ZbC) (hr:=?_)
  repeat (first|refine wk ?_|refine Zaa (hr:=?_))
  exact fin
 rw[show Zas old s=if s.empty.any (Zbe old)=true then ⟨13, -1⟩ else if s.frags.length=s.g.rules.length then Zcp old s.frags s.g.rules 0 else ⟨14, -1⟩ by rw[Zas,if_pos h0,if_pos h1,if_pos (by omega)]]
 repeat (first|refine wk ?_|refine Zaa (hr:=?_))
 refine Zai (X:=Nat) (fun i=>i≤s.empty.length∧∀ j,j < i→∀ (hj:j < s.empty.length),Zbe old s.empty[j]=false) (fun i=>[(7,I i),(2,.ptr 2 0),(3,.ptr 3 0),(4,.ptr 4 0)]) (fun _=>[(2,Zar t old),(3,Zbh u s),(4,.box 31 [.d (iD 0),.d (iD 0)])]) (fun i=>s.empty.length - i) 0 ⟨Nat.zero_le _,fun _ h=>by omega⟩ ?_
 ·rintro i ⟨hi,hp⟩
  by_cases hlt:i < s.empty.length
  ·have hc:=hs.trees _ (List.getElem_mem hlt)
   repeat (first|refine wk ?_|refine Zaa (hr:=?_))
   refine Zab [] (hA:=ZcN hol hor hc) (hr:=?_)
   by_cases h3:(Zaw old s.empty[i] old.start).code=0
   ·obtain⟨_,k1,k2,k3⟩:=ZcC h3
    have hwl:=Zez 10 hg.right s.empty[i]
    repeat (first|refine wk ?_|refine Zaa (hr:=?_))
    refine Zab [] (hA:=Zpr hg s.empty[i] _ k2 k1) (hr:=?_)
    by_cases h4:(0:Int) < (ZbT old s.empty[i]).length
    ·rw[if_pos (ZiG hlt (by rw[Zbe,decide_eq_true h3,decide_eq_true (show 0 < _ by omega)];rfl))]
     repeat (first|refine wk ?_|refine Zaa (hr:=?_))
     refine Zab [] (hA:=ZbC) (hr:=?_)
     repeat (first|refine wk ?_|refine Zaa (hr:=?_))
     exact fin
    ·repeat (first|refine wk ?_|refine Zaa (hr:=?_))
     exact Zad (i+1) (a:=⟨by omega,Zdo hp (fun _=>by rw[Zbe,decide_eq_true h3,decide_eq_false (show ¬ 0 < (ZbT old s.empty[i]).length by omega)];rfl)⟩)
   ·rw[if_pos (ZiG hlt (by simp[Zbe,h3]))]
    repeat (first|refine wk ?_|refine Zaa (hr:=?_))
    refine Zab [] (hA:=ZbC) (hr:=?_)
    repeat (first|refine wk ?_|refine Zaa (hr:=?_))
    exact fin
  ·rw[if_neg (by rw[ZgR (fun j hj=>hp j (by omega) hj)];simp)]
   by_cases h5:s.frags.length=s.g.rules.length
   rotate_left
   ·rw[if_neg h5]
    repeat (first|refine wk ?_|refine Zaa (hr:=?_))
    refine Zab [] (hA:=ZbC) (hr:=?_)
    repeat (first|refine wk ?_|refine Zaa (hr:=?_))
    exact fin
   rw[if_pos h5]
   repeat (first|refine wk ?_|refine Zaa (hr:=?_))
   refine Zai (X:=Nat) (fun i=>i≤s.frags.length∧Zcp old s.frags s.g.rules 0=Zcp old (s.frags.drop i) (s.g.rules.drop i) i) (fun i=>[(8,I i),(2,.ptr 2 0),(3,.ptr 3 0),(4,.ptr 4 0)]) (fun _=>[(2,Zar t old),(3,Zbh u s),(4,.box 31 [.d (iD 0),.d (iD 0)])]) (fun i=>s.frags.length - i) 0 ⟨Nat.zero_le _,rfl⟩ ?_
   rintro i ⟨hi,hp⟩
   by_cases hlt:i < s.frags.length
   ·have hlr:i < s.g.rules.length:=by omega
    have hfi:=hs.frag _ (List.getElem_mem hlt)
    have hst:=Zhj (old:=old) hlt hlr
    have hgi:=hgr _ (List.getElem_mem hlr)
    have hcp:=ZkF s.frags[i]
    have hkl:=Zb6 s.g.rules[i].right
    by_cases c1:60 < cpL s.frags[i]
    ·have e6:ZaK old s.frags[i] s.g.rules[i].right=6:=by rw[ZaK,if_pos c1]
     rw[e6,if_neg (by decide)] at hst
     rw[hp,hst]
     repeat (first|refine wk ?_|refine Zaa (hr:=?_))
     refine Zab [] (hA:=ZdW) (hr:=?_)
     repeat (first|refine wk ?_|refine Zaa (hr:=?_))
     refine Zab [] (hA:=ZbC) (hr:=?_)
     repeat (first|refine wk ?_|refine Zaa (hr:=?_))
     exact fin
    ·have hus:=Ztf _ (t:=u) (l:=s.frags[i]) (m:=old.rules.length) (u:=List.replicate (kids s.g.rules[i].right).length 0) (Z:=0) (k:=(kids s.g.rules[i].right).length) (Nat.lt_succ_self _) (by simp) (fun x hx=>by rw[(List.mem_replicate.1 hx).2];omega) (by omega) (by omega) hol
     rw[List.map_replicate] at hus
     have hul:=ZfU old.rules.length s.frags[i] (List.replicate (kids s.g.rules[i].right).length 0)
     rw[List.length_replicate] at hul
     have hpe:ZaK old s.frags[i] s.g.rules[i].right=if Zir old s.frags[i] s.g.rules[i].right=true then 0 else 14:=by rw[ZaK,if_neg c1]
     have hok:Zir old s.frags[i] s.g.rules[i].right=((usL old.rules.length s.frags[i] (List.replicate (kids s.g.rules[i].right).length 0)).1 && (usL old.rules.length s.frags[i] (List.replicate (kids s.g.rules[i].right).length 0)).2.all (fun x=>decide (x=1))):=rfl
     generalize usL old.rules.length s.frags[i] (List.replicate (kids s.g.rules[i].right).length 0)=U at hus hul hok
     obtain⟨o,us⟩:=U
     dsimp only at hus hul hok
     repeat (first|refine wk ?_|refine Zaa (hr:=?_))
     refine Zab [] (hA:=ZdW) (hr:=?_)
     repeat (first|refine wk ?_|refine Zaa (hr:=?_))
     refine Zab [(3,900)] (hA:=ZiH) (hr:=?_)
     repeat (first|refine wk ?_|refine Zaa (hr:=?_))
     refine Zab [(1000,94)] (hA:=hus) (hr:=?_)
     repeat (first|refine wk ?_|refine Zaa (hr:=?_))
     refine Zai (X:=Nat) (fun k=>k≤us.length) (fun k=>[(11,I k),(10,B (o && (us.take k).all (fun x=>decide (x=1)))),(9,.own 94 us.length),(8,I i),(2,.ptr 2 0),(3,.ptr 3 0),(4,.ptr 4 0)]) (fun _=>[(94,.row 3 1 (us.map iD)),(2,Zar t old),(3,Zbh u s),(4,.box 31 [.d (iD 0),.d (iD 0)])]) (fun k=>us.length - k) 0 (Nat.zero_le _) ?_
     intro k hk
     by_cases hkt:k < us.length
     ·have hsn:=ZqY hkt
      cases hv:(o && (us.take k).all (fun x=>decide (x=1))) with
      | true =>
       have e:decide (us[k]=1)=(o && (us.take (k+1)).all (fun x=>decide (x=1))):=by rw[hsn,←Bool.and_assoc,hv,Bool.true_and]
       repeat (first|refine wk ?_|refine Zaa (hr:=?_))
       exact Zad (k+1)
      | false =>
       have e:false=(o && (us.take (k+1)).all (fun x=>decide (x=1))):=by rw[hsn,←Bool.and_assoc,hv,Bool.false_and]
       repeat (first|refine wk ?_|refine Zaa (hr:=?_))
       exact Zad (k+1)
     ·have e0:us.take k=us:=List.take_of_length_le (by omega)
      rw[e0,←hok]
      cases hv:Zir old s.frags[i] s.g.rules[i].right with
      | true =>
       rw[hpe,hv,if_pos rfl,if_pos rfl] at hst
       repeat (first|refine wk ?_|refine Zaa (hr:=?_))
       exact Zad (i+1) (a:=⟨by omega,hp.trans hst⟩)
      | false =>
       rw[hpe,hv,if_neg (by decide),if_neg (by decide)] at hst
       rw[hp,hst]
       repeat (first|refine wk ?_|refine Zaa (hr:=?_))
       refine Zab [] (hA:=ZbC) (hr:=?_)
       repeat (first|refine wk ?_|refine Zaa (hr:=?_))
       exact fin
   ·rw[hp,ZiK hlt]
    repeat (first|refine wk ?_|refine Zaa (hr:=?_))
    exact fin
end Go.Proofs.YtbpmepgnjanhnaaGreat
namespace Go.Proofs.YtbpmepgnjanhnaaGreat
open Go.RowKit
set_option maxRecDepth 100000
theorem Zld {t u:Bool} {g:Gram} {x:Tree} (hl:g.rules.length≤100000000) (hr:∀ r∈g.rules,r.right.length≤100000000) (hx:cnt x≤100000000) :
  ACalls Tryz.prog 103 [.d (ZaH t g),.d (ZaE u x)] [] (.tup [.d (ints false (Zse g x)),.d (ZaN (Zaw g x g.start))]) []:=by
 refine ACalls.intro (n:=20) Tryz.func103 rfl rfl (by simp) (by rfl) ?_
 simp only[Zak]
 repeat (first|refine wk ?_|refine Zaa (hr:=?_))
 refine Zab [] (hA:=ZcM hl hr hx) (hr:=?_)
 by_cases h0:(Zaw g x g.start).code=0
 ·obtain⟨hg,h1,h2,h3⟩:=ZcC h0
  repeat (first|refine wk ?_|refine Zaa (hr:=?_))
  refine Zab [] (hA:=ZqX hg h2 h1) (hr:=?_)
  rw[Zse,if_pos h0,h3]
  repeat (first|refine wkr ?_|refine Zaa (hr:=?_))
  refine ZaF 900 rfl ?_
  repeat (first|refine wk ?_|refine Zaa (hr:=?_))
  exact fin
 ·rw[Zse,if_neg h0]
  repeat (first|refine wk ?_|refine Zaa (hr:=?_))
  exact fin
def againG:Gram:=⟨1,2,0,[⟨0,[0, -1]⟩,⟨0,[-2]⟩]⟩
theorem ZhB:ACalls Tryz.prog 35 [] [] (.d (ZaH false againG)) []:=by
 refine ACalls.intro (n:=7) Tryz.func35 rfl rfl (by simp) (by rfl) ?_
 simp only[Zak]
 repeat (first|refine wkr ?_|refine Zaa (hr:=?_))
 refine ZaF 5 rfl ?_
 repeat (first|refine wk ?_|refine Zaa (hr:=?_))
 exact fin
end Go.Proofs.YtbpmepgnjanhnaaGreat
namespace Go.Proofs.YtbpmepgnjanhnaaGreat
open Go.RowKit
set_option maxRecDepth 100000
abbrev Zwr (t:Bool) (g:Gram) (k:Nat) (p:Int) (b:Bool):Ob:=.box 144 [.d (iD g.vars),.d (iD g.terms),.d (iD g.start),.d (ZaT t g.rules),.own 1001 k,I p,B b]
abbrev ctH (t:Bool) (g:Gram) (k:Nat) (p:Int) (b:Bool) (u:List Int):Hp:=[(1000,Zwr t g k p b),(1001,.row 3 1 (u.map iD))]
theorem CS.use_bad {s:CS} {n:Int} (h:s.bad=true∨n < 0∨(s.u.length:Int)≤n):s.use n=⟨s.p,true,s.u⟩:=if_pos (by rcases h with h|h|h <;> simp[h])
theorem CS.use_ok {s:CS} {n:Int} (h1:s.bad=false) (h2:¬ n < 0) (h3:¬ (s.u.length:Int)≤n):s.use n=⟨s.p,false,bump s.u n⟩:=if_neg (by rw[h1,decide_eq_false h2,decide_eq_false h3];decide)
theorem Zth {a:Bool} {n m:Int} (h:a=true∨n < 0∨m≤n):(a || (decide (n < 0) || decide (m≤n)))=true:=by rcases h with h|h|h <;> simp[h]
theorem ZqZ {a:Bool} {n m:Int} (h1:a=false) (h2:¬ n < 0) (h3:¬ m≤n):(a || (decide (n < 0) || decide (m≤n)))=false:=by simp[h1];omega
set_option maxHeartbeats 40000000 in
theorem Zq0:∀ (N:Nat) {t u:Bool} {l:List Frag} {g:Gram} {s:CS} {Z k m:Nat} {p:Int},fszs l < N→g.rules.length=m→s.u.length=k→Upto Z s.u→Z+fszs l≤100000000→s.p+fszs l≤100000000→k≤100000000→m≤100000000→p=(s.p:Int) →
  ACalls Tryz.prog 105 [.ptr 1000 0,.d (Zam t l)] (ctH u g k p s.bad s.u) (.tup []) (ctH u g k ((clL m l s).p:Int) (clL m l s).bad (clL m l s).u):=by
 intro N
 induction N with
 | zero=>intro t u l g s Z k m p h;omega
 | succ N ih =>
 intro t u l g s Z k m p hn hgm hk hB hN hP hu hm hp
 have hl:=Nat.le_trans (Zbg l) (show fszs l≤100000000 by omega)
 refine ACalls.intro (n:=109) Tryz.func105 rfl rfl (by simp) (by rfl) ?_
 simp only[Zak]
 repeat (first|refine wk ?_|refine Zaa (hr:=?_))
 refine Zai (X:=Nat×Int×CS) (fun x=>x.1≤l.length∧clL m l s=clL m (l.drop x.1) x.2.2∧x.2.2.u.length=k∧Upto (Z+fszs (l.take x.1)) x.2.2.u∧x.2.2.p≤s.p+fszs (l.take x.1)∧x.2.1=(x.2.2.p:Int)) (fun x=>[(8,I x.1),(7,I l.length),(6,.d (Zam t l)),(0,.ptr 1000 0)]) (fun x=>ctH u g k x.2.1 x.2.2.bad x.2.2.u) (fun x=>l.length - x.1) (0,p,s) ⟨Nat.zero_le _,rfl,hk,by simpa[fszs] using hB,by simp,hp⟩ ?_
 rintro⟨i,q,v⟩ ⟨h1,h2,h3,h4,h5,h6⟩
 dsimp only at h1 h2 h3 h4 h5 h6 ⊢
 rw[h2]
 clear h2
 by_cases hlt:i < l.length
 ·have e1:=Zfm hlt
  have e2:=ZdV l[i]
  have e3:=Zb8 (List.getElem_mem hlt)
  have e4:=Zdp l i
  have e5:=ZkE hlt
  have s1:=Zti (m:=m) (s:=v) hlt
  by_cases h60:60 < v.p+1
  ·rw[if_pos h60] at s1
   rw[s1]
   have e6:((v.p+1:Nat):Int)=q+1:=by omega
   rw[e6]
   repeat (first|refine wk ?_|refine Zaa (hr:=?_))
   exact fin
  rw[if_neg h60] at s1
  have s2:=ZvN m l[i] ⟨v.p+1,v.bad,v.u⟩
  have hq1:q+1=((v.p+1:Nat):Int):=by omega
  by_cases o1:l[i].op=1
  ·rw[if_pos o1] at s2
   by_cases hb:v.bad=true∨l[i].n < 0∨(m:Int)≤l[i].n
   ·rw[Zth hb] at s2
    rw[s2] at s1
    have hih:=ih (t:=t) (u:=u) (l:=l[i].l) (g:=g) (s:=⟨v.p+1,true,v.u⟩) (Z:=Z+fszs (l.take i)) (k:=k) (m:=m) (p:=q+1) (by omega) hgm h3 h4 (by omega) (by show v.p+1+fszs l[i].l≤_;omega) hu hm hq1
    have u0:=Zd7 m l[i].l ⟨v.p+1,true,v.u⟩
    have u1:=Zdf m l[i].l ⟨v.p+1,true,v.u⟩ _ h4
    have u2:=(ZjX m l[i].l ⟨v.p+1,true,v.u⟩).2
    generalize clL m l[i].l ⟨v.p+1,true,v.u⟩=z at *
    dsimp only at u0 u1 u2 hih
    cases hvb:v.bad with
    | true =>
     repeat (first|refine wk ?_|refine Zaa (hr:=?_))
     refine Zab [] (hA:=hih) (hr:=?_)
     repeat (first|refine wk ?_|refine Zaa (hr:=?_))
     exact Zad (i+1,z.p,z) (a:=⟨by omega,s1,by rw[u0];exact h3,u1.mono (by dsimp only;omega),by dsimp only;omega,rfl⟩) (b:=by dsimp only;omega)
    | false =>
     have hb':l[i].n < 0∨(m:Int)≤l[i].n:=hb.resolve_left (by rw[hvb];decide)
     by_cases n1:l[i].n < 0
     ·repeat (first|refine wk ?_|refine Zaa (hr:=?_))
      rw[decide_eq_true n1]
      refine Zab [] (hA:=hih) (hr:=?_)
      repeat (first|refine wk ?_|refine Zaa (hr:=?_))
      exact Zad (i+1,z.p,z) (a:=⟨by omega,s1,by rw[u0];exact h3,u1.mono (by dsimp only;omega),by dsimp only;omega,rfl⟩) (b:=by dsimp only;omega)
     ·have n2:(m:Int)≤l[i].n:=hb'.resolve_left n1
      repeat (first|refine wk ?_|refine Zaa (hr:=?_))
      rw[hgm,decide_eq_true n2]
      refine Zab [] (hA:=hih) (hr:=?_)
      repeat (first|refine wk ?_|refine Zaa (hr:=?_))
      exact Zad (i+1,z.p,z) (a:=⟨by omega,s1,by rw[u0];exact h3,u1.mono (by dsimp only;omega),by dsimp only;omega,rfl⟩) (b:=by dsimp only;omega)
   ·have hvb:v.bad=false:=by cases h:v.bad with|false=>rfl|true=>exact absurd (Or.inl h) hb
    have n1:¬ l[i].n < 0:=fun h=>hb (.inr (.inl h))
    have n2:¬ (m:Int)≤l[i].n:=fun h=>hb (.inr (.inr h))
    rw[ZqZ hvb n1 n2] at s2
    rw[s2] at s1
    have hih:=ih (t:=t) (u:=u) (l:=l[i].l) (g:=g) (s:=⟨v.p+1,false,v.u⟩) (Z:=Z+fszs (l.take i)) (k:=k) (m:=m) (p:=q+1) (by omega) hgm h3 h4 (by omega) (by show v.p+1+fszs l[i].l≤_;omega) hu hm hq1
    have u0:=Zd7 m l[i].l ⟨v.p+1,false,v.u⟩
    have u1:=Zdf m l[i].l ⟨v.p+1,false,v.u⟩ _ h4
    have u2:=(ZjX m l[i].l ⟨v.p+1,false,v.u⟩).2
    generalize clL m l[i].l ⟨v.p+1,false,v.u⟩=z at *
    dsimp only at u0 u1 u2 hih
    rw[hvb]
    repeat (first|refine wk ?_|refine Zaa (hr:=?_))
    rw[hgm,decide_eq_false n2]
    refine Zab [] (hA:=hih) (hr:=?_)
    repeat (first|refine wk ?_|refine Zaa (hr:=?_))
    exact Zad (i+1,z.p,z) (a:=⟨by omega,s1,by rw[u0];exact h3,u1.mono (by dsimp only;omega),by dsimp only;omega,rfl⟩) (b:=by dsimp only;omega)
  ·rw[if_neg o1] at s2
   by_cases o24:l[i].op=2∨l[i].op=4
   ·by_cases hb:v.bad=true∨l[i].n < 0∨(k:Int)≤l[i].n
    ·have hus:CS.use ⟨v.p+1,v.bad,v.u⟩ l[i].n=⟨v.p+1,true,v.u⟩:=CS.use_bad (by rw[←h3] at hb;exact hb)
     rw[hus] at s2
     by_cases o2:l[i].op=2
     ·rw[if_pos o2] at s2
      rw[s2] at s1
      cases hvb:v.bad with
      | true =>
       repeat (first|refine wk ?_|refine Zaa (hr:=?_))
       repeat (first|refine wk ?_|refine Zaa (hr:=?_))
       exact Zad (i+1,q+1,⟨v.p+1,true,v.u⟩) (a:=⟨by omega,s1,h3,h4.mono (by dsimp only;omega),by dsimp only;omega,by dsimp only;omega⟩) (b:=by dsimp only;omega)
      | false =>
       have hb':l[i].n < 0∨(k:Int)≤l[i].n:=hb.resolve_left (by rw[hvb];decide)
       by_cases n1:l[i].n < 0
       ·repeat (first|refine wk ?_|refine Zaa (hr:=?_))
        rw[decide_eq_true n1]
        repeat (first|refine wk ?_|refine Zaa (hr:=?_))
        exact Zad (i+1,q+1,⟨v.p+1,true,v.u⟩) (a:=⟨by omega,s1,h3,h4.mono (by dsimp only;omega),by dsimp only;omega,by dsimp only;omega⟩) (b:=by dsimp only;omega)
       ·have n2:(k:Int)≤l[i].n:=hb'.resolve_left n1
        repeat (first|refine wk ?_|refine Zaa (hr:=?_))
        rw[h3,decide_eq_true n2]
        repeat (first|refine wk ?_|refine Zaa (hr:=?_))
        exact Zad (i+1,q+1,⟨v.p+1,true,v.u⟩) (a:=⟨by omega,s1,h3,h4.mono (by dsimp only;omega),by dsimp only;omega,by dsimp only;omega⟩) (b:=by dsimp only;omega)
     ·have o4:l[i].op=4:=by omega
      rw[if_neg o2,if_pos o4] at s2
      rw[s2] at s1
      have hih:=ih (t:=t) (u:=u) (l:=l[i].l) (g:=g) (s:=⟨v.p+1,true,v.u⟩) (Z:=Z+fszs (l.take i)) (k:=k) (m:=m) (p:=q+1) (by omega) hgm h3 h4 (by omega) (by show v.p+1+fszs l[i].l≤_;omega) hu hm hq1
      have u0:=Zd7 m l[i].l ⟨v.p+1,true,v.u⟩
      have u1:=Zdf m l[i].l ⟨v.p+1,true,v.u⟩ _ h4
      have u2:=(ZjX m l[i].l ⟨v.p+1,true,v.u⟩).2
      generalize clL m l[i].l ⟨v.p+1,true,v.u⟩=z at *
      dsimp only at u0 u1 u2 hih
      cases hvb:v.bad with
      | true =>
       repeat (first|refine wk ?_|refine Zaa (hr:=?_))
       repeat (first|refine wk ?_|refine Zaa (hr:=?_))
       refine Zab [] (hA:=hih) (hr:=?_)
       repeat (first|refine wk ?_|refine Zaa (hr:=?_))
       exact Zad (i+1,z.p,z) (a:=⟨by omega,s1,by rw[u0];exact h3,u1.mono (by dsimp only;omega),by dsimp only;omega,rfl⟩) (b:=by dsimp only;omega)
      | false =>
       have hb':l[i].n < 0∨(k:Int)≤l[i].n:=hb.resolve_left (by rw[hvb];decide)
       by_cases n1:l[i].n < 0
       ·repeat (first|refine wk ?_|refine Zaa (hr:=?_))
        rw[decide_eq_true n1]
        repeat (first|refine wk ?_|refine Zaa (hr:=?_))
        refine Zab [] (hA:=hih) (hr:=?_)
        repeat (first|refine wk ?_|refine Zaa (hr:=?_))
        exact Zad (i+1,z.p,z) (a:=⟨by omega,s1,by rw[u0];exact h3,u1.mono (by dsimp only;omega),by dsimp only;omega,rfl⟩) (b:=by dsimp only;omega)
       ·have n2:(k:Int)≤l[i].n:=hb'.resolve_left n1
        repeat (first|refine wk ?_|refine Zaa (hr:=?_))
        rw[h3,decide_eq_true n2]
        repeat (first|refine wk ?_|refine Zaa (hr:=?_))
        refine Zab [] (hA:=hih) (hr:=?_)
        repeat (first|refine wk ?_|refine Zaa (hr:=?_))
        exact Zad (i+1,z.p,z) (a:=⟨by omega,s1,by rw[u0];exact h3,u1.mono (by dsimp only;omega),by dsimp only;omega,rfl⟩) (b:=by dsimp only;omega)
    ·have hvb:v.bad=false:=by cases h:v.bad with|false=>rfl|true=>exact absurd (Or.inl h) hb
     have n1:¬ l[i].n < 0:=fun h=>hb (.inr (.inl h))
     have n2:¬ (k:Int)≤l[i].n:=fun h=>hb (.inr (.inr h))
     have hus:CS.use ⟨v.p+1,v.bad,v.u⟩ l[i].n=⟨v.p+1,false,bump v.u l[i].n⟩:=CS.use_ok hvb n1 (by rw[←h3] at n2;exact n2)
     rw[hus] at s2
     have hnk:l[i].n=((l[i].n.toNat:Nat):Int):=by omega
     have hnl:l[i].n.toNat < v.u.length:=by omega
     have hbr:=Zoe hnl
     have hub:=Zd4 (n:=l[i].n) h4
     have hbl:=ZbQ v.u l[i].n
     have hvbd:=h4 _ (List.getElem_mem hnl)
     rw[hvb]
     by_cases o2:l[i].op=2
     ·rw[if_pos o2] at s2
      rw[s2] at s1
      repeat (first|refine wk ?_|refine Zaa (hr:=?_))
      rw[h3,decide_eq_false n2]
      exact Zad (i+1,q+1,⟨v.p+1,false,bump v.u l[i].n⟩) (a:=⟨by omega,s1,by rw[ZbQ];exact h3,hub.mono (by dsimp only;omega),by dsimp only;omega,by dsimp only;omega⟩) (b:=by dsimp only;omega)
     ·have o4:l[i].op=4:=by omega
      rw[if_neg o2,if_pos o4] at s2
      rw[s2] at s1
      have hih:=ih (t:=t) (u:=u) (l:=l[i].l) (g:=g) (s:=⟨v.p+1,false,bump v.u l[i].n⟩) (Z:=Z+fszs (l.take i)+1) (k:=k) (m:=m) (p:=q+1) (by omega) hgm (hbl.trans h3) hub (by omega) (by show v.p+1+fszs l[i].l≤_;omega) hu hm hq1
      have u0:=Zd7 m l[i].l ⟨v.p+1,false,bump v.u l[i].n⟩
      have u1:=Zdf m l[i].l ⟨v.p+1,false,bump v.u l[i].n⟩ _ hub
      have u2:=(ZjX m l[i].l ⟨v.p+1,false,bump v.u l[i].n⟩).2
      generalize clL m l[i].l ⟨v.p+1,false,bump v.u l[i].n⟩=z at *
      dsimp only at u0 u1 u2 hih
      unfold ctH at hih
      rw[←hbr] at hih
      repeat (first|refine wk ?_|refine Zaa (hr:=?_))
      rw[h3,decide_eq_false n2]
      refine Zab [] (hA:=hih) (hr:=?_)
      repeat (first|refine wk ?_|refine Zaa (hr:=?_))
      exact Zad (i+1,z.p,z) (a:=⟨by omega,s1,by rw[u0,hbl];exact h3,u1.mono (by dsimp only;omega),by dsimp only;omega,rfl⟩) (b:=by dsimp only;omega)
   ·have o2:¬ l[i].op=2:=fun h=>o24 (Or.inl h)
    have o4:¬ l[i].op=4:=fun h=>o24 (Or.inr h)
    rw[if_neg o2,if_neg o4] at s2
    by_cases o3:l[i].op=3
    ·rw[if_pos o3] at s2
     rw[s2] at s1
     repeat (first|refine wk ?_|refine Zaa (hr:=?_))
     exact Zad (i+1,q+1,⟨v.p+1,v.bad,v.u⟩) (a:=⟨by omega,s1,h3,h4.mono (by dsimp only;omega),by dsimp only;omega,by dsimp only;omega⟩) (b:=by dsimp only;omega)
    ·rw[if_neg o3] at s2
     rw[s2] at s1
     repeat (first|refine wk ?_|refine Zaa (hr:=?_))
     exact Zad (i+1,q+1,⟨v.p+1,true,v.u⟩) (a:=⟨by omega,s1,h3,h4.mono (by dsimp only;omega),by dsimp only;omega,by dsimp only;omega⟩) (b:=by dsimp only;omega)
 ·rw[ZuC hlt,←h6]
  repeat (first|refine wk ?_|refine Zaa (hr:=?_))
  exact fin
end Go.Proofs.YtbpmepgnjanhnaaGreat
namespace Go.Proofs.YtbpmepgnjanhnaaGreat
open Go.RowKit
set_option maxRecDepth 100000
theorem Zix {n:Int}:ACalls Tryz.prog 106 [I n] [] (B (!decide (n=1))) []:=by
 refine ACalls.intro (n:=5) Tryz.func106 rfl rfl (by simp) (by rfl) ?_
 simp only[Zak]
 repeat (first|refine wk ?_|refine Zaa (hr:=?_))
 exact fin
set_option maxHeartbeats 4000000 in
theorem Zfs {t u:Bool} {old:Gram} {s:Step} (ho:old.fit) (hs:s.fit):ACalls Tryz.prog 63 [.d (ZaH t old),.d (Zbv u s)] [] (.d (ZaN (Zas old s))) []:=by
 refine ACalls.intro (n:=109) Tryz.func63 rfl rfl (by simp) (by rfl) ?_
 simp only[Zak]
 have hf:=hs.frags
 have he:=hs.empty
 have hol:=ho.rules
 have hgl:=hs.g.rules
 have hor:=ho.right
 have hgr:=hs.g.right
 repeat (first|refine wk ?_|refine Zaa (hr:=?_))
 refine Zab [] (hA:=ZaY) (hr:=?_)
 by_cases h0:(Zah old).code=0
 rotate_left
 ·rw[show Zas old s=Zah old by rw[Zas,if_neg h0]]
  repeat (first|refine wk ?_|refine Zaa (hr:=?_))
  exact fin
 have hg:=Zbr h0
 repeat (first|refine wk ?_|refine Zaa (hr:=?_))
 refine Zab [] (hA:=ZaY) (hr:=?_)
 by_cases h1:(Zah s.g).code=0
 rotate_left
 ·rw[show Zas old s=Zah s.g by rw[Zas,if_pos h0,if_neg h1]]
  repeat (first|refine wk ?_|refine Zaa (hr:=?_))
  exact fin
 have hsg:=Zbr h1
 by_cases h2:(s.empty.length:Int) > 200
 ·rw[show Zas old s=⟨6, -1⟩ by rw[Zas,if_pos h0,if_pos h1,if_neg (by omega)]]
  repeat (first|refine wk ?_|refine Zaa (hr:=?_))
  exact fin
 rw[show Zas old s=if s.empty.any (Zbe old)=true then ⟨13, -1⟩ else if s.frags.length=s.g.rules.length then Zcp old s.frags s.g.rules 0 else ⟨14, -1⟩ by rw[Zas,if_pos h0,if_pos h1,if_pos (by omega)]]
 repeat (first|refine wk ?_|refine Zaa (hr:=?_))
 refine Zai (X:=Nat) (fun i=>i≤s.empty.length∧∀ j,j < i→∀ (hj:j < s.empty.length),Zbe old s.empty[j]=false) (fun i=>[(35,I i),(34,I s.empty.length),(33,.d (Zal u s.empty)),(2,.ptr 2 0),(3,.ptr 3 0),(4,.ptr 4 0)]) (fun _=>[(2,Zar t old),(3,Zbh u s),(4,.box 31 [.d (iD 0),.d (iD 0)])]) (fun i=>s.empty.length - i) 0 ⟨Nat.zero_le _,fun _ h=>by omega⟩ ?_
 ·rintro i ⟨hi,hp⟩
  by_cases hlt:i < s.empty.length
  ·have hc:=hs.trees _ (List.getElem_mem hlt)
   repeat (first|refine wk ?_|refine Zaa (hr:=?_))
   refine Zab [] (hA:=Zld hol hor hc) (hr:=?_)
   by_cases h3:(Zaw old s.empty[i] old.start).code=0
   ·have hw:Zse old s.empty[i]=ZbT old s.empty[i]:=by rw[Zse,if_pos h3]
    by_cases h4:(0:Int) < (ZbT old s.empty[i]).length
    ·rw[if_pos (ZiG hlt (by rw[Zbe,decide_eq_true h3,decide_eq_true (show 0 < _ by omega)];rfl)),hw]
     repeat (first|refine wk ?_|refine Zaa (hr:=?_))
     exact fin
    ·rw[hw]
     have hwl:=Zez 10 hg.right s.empty[i]
     repeat (first|refine wk ?_|refine Zaa (hr:=?_))
     exact Zad (i+1) (a:=⟨by omega,Zdo hp (fun _=>by rw[Zbe,decide_eq_true h3,decide_eq_false (show ¬ 0 < (ZbT old s.empty[i]).length by omega)];rfl)⟩)
   ·rw[if_pos (ZiG hlt (by simp[Zbe,h3]))]
    repeat (first|refine wk ?_|refine Zaa (hr:=?_))
    exact fin
  ·rw[if_neg (by rw[ZgR (fun j hj=>hp j (by omega) hj)];simp)]
   by_cases h5:s.frags.length=s.g.rules.length
   rotate_left
   ·rw[if_neg h5]
    repeat (first|refine wk ?_|refine Zaa (hr:=?_))
    exact fin
   rw[if_pos h5]
   repeat (first|refine wk ?_|refine Zaa (hr:=?_))
   refine Zai (X:=Nat) (fun i=>i≤s.g.rules.length∧Zcp old s.frags s.g.rules 0=Zcp old (s.frags.drop i) (s.g.rules.drop i) i) (fun i=>[(68,I i),(67,I s.g.rules.length),(66,.d (ZaT u s.g.rules)),(2,.ptr 2 0),(3,.ptr 3 0),(4,.ptr 4 0)]) (fun _=>[(2,Zar t old),(3,Zbh u s),(4,.box 31 [.d (iD 0),.d (iD 0)])]) (fun i=>s.g.rules.length - i) 0 ⟨Nat.zero_le _,rfl⟩ ?_
   rintro i ⟨hi,hp⟩
   by_cases hlr:i < s.g.rules.length
   ·have hlt:i < s.frags.length:=by omega
    have hfi:=hs.frag _ (List.getElem_mem hlt)
    have hst:=Zhj (old:=old) hlt hlr
    have hgi:=hgr _ (List.getElem_mem hlr)
    have hkl:=Zb6 s.g.rules[i].right
    have hcl:=Zq0 _ (t:=u) (u:=t) (l:=s.frags[i]) (g:=old) (s:=⟨0,false,List.replicate (kids s.g.rules[i].right).length 0⟩) (Z:=0) (k:=(kids s.g.rules[i].right).length) (m:=old.rules.length) (p:=0) (Nat.lt_succ_self _) rfl (by simp) (fun x hx=>by rw[(List.mem_replicate.1 hx).2];omega) (by omega) (by simpa using hfi) (by omega) hol rfl
    have hcp:=ZuE old s.frags[i] s.g.rules[i].right _ rfl
    have hcu:=Zdf old.rules.length s.frags[i] ⟨0,false,List.replicate (kids s.g.rules[i].right).length 0⟩ 0 (fun x hx=>by rw[(List.mem_replicate.1 hx).2];omega)
    have hcn:=Zd7 old.rules.length s.frags[i] ⟨0,false,List.replicate (kids s.g.rules[i].right).length 0⟩
    have hpp:=(ZjX old.rules.length s.frags[i] ⟨0,false,List.replicate (kids s.g.rules[i].right).length 0⟩).2
    generalize clL old.rules.length s.frags[i] ⟨0,false,List.replicate (kids s.g.rules[i].right).length 0⟩=z at *
    unfold ctH at hcl
    dsimp only at hcl hcn hpp
    rw[List.length_replicate] at hcn
    rw[List.map_replicate] at hcl
    repeat (first|refine wk ?_|refine Zaa (hr:=?_))
    refine Zab [(3,900)] (hA:=ZgS) (hr:=?_)
    repeat (first|refine wk ?_|refine Zaa (hr:=?_))
    refine Zab [(1000,79),(1001,77)] (hA:=hcl) (hr:=?_)
    by_cases c1:60 < z.p
    ·rw[if_pos c1] at hcp
     rw[hcp,if_neg (by decide)] at hst
     rw[hp,hst]
     repeat (first|refine wk ?_|refine Zaa (hr:=?_))
     exact fin
    ·rw[if_neg c1] at hcp
     cases hb:z.bad with
     | true =>
      rw[hb,Bool.true_or,if_pos rfl] at hcp
      rw[hcp,if_neg (by decide)] at hst
      rw[hp,hst]
      repeat (first|refine wk ?_|refine Zaa (hr:=?_))
      exact fin
     | false =>
      rw[hb,Bool.false_or] at hcp
      repeat (first|refine wk ?_|refine Zaa (hr:=?_))
      refine Zab [] (hA:=ZbO (t:=false) (clos:=106) (caps:=[]) (H:=[]) (p:=fun n=>!decide (n=1)) Clo.nil (fun x _=>Zix)) (hr:=?_)
      cases hv:z.u.any (fun n=>!decide (n=1)) with
      | true =>
       rw[hv,if_pos rfl] at hcp
       rw[hcp,if_neg (by decide)] at hst
       rw[hp,hst]
       repeat (first|refine wk ?_|refine Zaa (hr:=?_))
       exact fin
      | false =>
       rw[hv,if_neg (by decide)] at hcp
       rw[hcp,if_pos rfl] at hst
       repeat (first|refine wk ?_|refine Zaa (hr:=?_))
       exact Zad (i+1) (a:=⟨by omega,hp.trans hst⟩)
   ·rw[hp,ZiK (by omega)]
    repeat (first|refine wk ?_|refine Zaa (hr:=?_))
    exact fin
end Go.Proofs.YtbpmepgnjanhnaaGreat
