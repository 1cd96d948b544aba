import Derived.Test.YtbpmepgnjanhnaaGreatQFrQ
set_option linter.unusedVariables false
set_option linter.unusedSimpArgs false
set_option linter.unusedSectionVars false
set_option maxHeartbeats 40000000
set_option maxRecDepth 100000
namespace Go.Proofs.YtbpmepgnjanhnaaGreat
open Go.RowKit
abbrev ZEN (t:Bool) (g:Ac) (k:Nat) (p:Int) (b:Bool):Ob:=.box 144 [.d (iD g.vars),.d (iD g.terms),.d (iD g.start),.d (ZaS t g.Aa),.own 1001 k,I p,B b]
abbrev ctH (t:Bool) (g:Ac) (k:Nat) (p:Int) (b:Bool) (u:List Int):Hp:=[(1000,ZEN t g k p b),(1001,.row 3 1 (u.map iD))]
theorem CS.use_bad {s:CS} {n:Int} (h:s.bad=true∨n < 0∨(s.u.length:Int)≤n):s.use n=⟨s.p,true,s.u⟩:=Hb (by rcases h with h|h|h <;> simp[h])
theorem CS.use_ok {s:CS} {n:Int} (h1:s.bad=false) (h2:¬ n < 0) (h3:¬ (s.u.length:Int)≤n):s.use n=⟨s.p,false,bump s.u n⟩:=Ha (by rw[h1,HC h2,HC h3];decide)
theorem ZzJ {a:Bool} {n m:Int} (h:a=true∨n < 0∨m≤n):(a || (decide (n < 0) || decide (m≤n)))=true:=by rcases h with h|h|h <;> simp[h]
theorem Zwa {a:Bool} {n m:Int} (h1:a=false) (h2:¬ n < 0) (h3:¬ m≤n):(a || (decide (n < 0) || decide (m≤n)))=false:=by simp[h1];omega
theorem Zwb:∀ (N:Nat) {t u:Bool} {l:List Ad} {g:Ac} {s:CS} {Z k m:Nat} {p:Int},Aj l < N→g.Aa.length=m→s.u.length=k→Upto Z s.u→Z+Aj l≤100000000→s.p+Aj l≤100000000→k≤100000000→m≤100000000→p=(s.p:Int) →
  Af Tryz.prog 105 [.ptr 1000 0,.d (Zah t l)] (ctH u g k p s.bad s.u) (.tup []) (ctH u g k ((clL m l s).p:Int) (clL m l s).bad (clL m l s).u):=by
 intro N
 induction N with
 | zero=>intro t u l g s Z k m p h;omega
 | succ N ih =>
 intro t u l g s Z k m p hn hgm hk hB hN hP hu hm hp;have hl:=Hq (ZbW l) (show Aj l≤100000000 by omega);refine Af.intro (n:=109) Tryz.func105 (hw:=?_);simp only[Zal];refine VA ?_;refine Zak (X:=Nat×Int×CS) (fun x=>x.1≤l.length∧clL m l s=clL m (l.drop x.1) x.2.2∧x.2.2.u.length=k∧Upto (Z+Aj (l.take x.1)) x.2.2.u∧x.2.2.p≤s.p+Aj (l.take x.1)∧x.2.1=(x.2.2.p:Int)) (fun x=>[(8,I x.1),(7,I l.length),(6,.d (Zah t l)),(0,.ptr 1000 0)]) (fun x=>ctH u g k x.2.1 x.2.2.bad x.2.2.u) (fun x=>l.length - x.1) (0,p,s) ⟨Hh _,rfl,hk,by simpa[Aj] using hB,by simp,hp⟩ ?_;rintro⟨i,q,v⟩ ⟨h1,h2,h3,h4,h5,h6⟩;dsimp only at h1 h2 h3 h4 h5 h6 ⊢;rw[h2];clear h2;by_cases hlt:i < l.length
 ·have e1:=Zhx hlt;have e2:=Zhw l[i];have e3:=Zfj (He hlt);have e4:=ZeU l i;have e5:=Zwk hlt;have s1:=ZAx (m:=m) (s:=v) hlt;by_cases h60:60 < v.p+1
  ·rw[Hb h60] at s1;rw[s1];have e6:((v.p+1:Nat):Int)=q+1:=by omega
   rw[e6];refine VA ?_;exact fin
  rw[Ha h60] at s1;have s2:=ZD7 m l[i] ⟨v.p+1,v.bad,v.u⟩;have hq1:q+1=((v.p+1:Nat):Int):=by omega
  by_cases o1:l[i].op=1
  ·rw[Hb o1] at s2;by_cases hb:v.bad=true∨l[i].n < 0∨(m:Int)≤l[i].n
   ·rw[ZzJ hb] at s2;rw[s2] at s1;have hih:=ih (t:=t) (u:=u) (l:=l[i].l) (g:=g) (s:=⟨v.p+1,true,v.u⟩) (Z:=Z+Aj (l.take i)) (k:=k) (m:=m) (p:=q+1) (by omega) hgm h3 h4 (by omega) (by show v.p+1+Aj l[i].l≤_;omega) hu hm hq1;have u0:=ZfZ m l[i].l ⟨v.p+1,true,v.u⟩;have u1:=ZeB m l[i].l ⟨v.p+1,true,v.u⟩ _ h4;have u2:=(ZnR m l[i].l ⟨v.p+1,true,v.u⟩).2;generalize clL m l[i].l ⟨v.p+1,true,v.u⟩=z at *;dsimp only at u0 u1 u2 hih;cases hvb:v.bad with
    | true =>
     refine VA ?_;refine Zab [] (hA:=hih) (hr:=?_);refine VA ?_;exact Zad (i+1,z.p,z) (a:=⟨by omega,s1,by rw[u0];exact h3,u1.mono (by dsimp only;omega),by dsimp only;omega,rfl⟩) (b:=by dsimp only;omega)
    | false =>
     have hb':l[i].n < 0∨(m:Int)≤l[i].n:=hb.resolve_left (by rw[hvb];decide);by_cases n1:l[i].n < 0
     ·refine VA ?_;rw[Hu n1];refine Zab [] (hA:=hih) (hr:=?_);refine VA ?_;exact Zad (i+1,z.p,z) (a:=⟨by omega,s1,by rw[u0];exact h3,u1.mono (by dsimp only;omega),by dsimp only;omega,rfl⟩) (b:=by dsimp only;omega)
     ·have n2:(m:Int)≤l[i].n:=hb'.resolve_left n1;refine VA ?_;rw[hgm,Hu n2];refine Zab [] (hA:=hih) (hr:=?_);refine VA ?_;exact Zad (i+1,z.p,z) (a:=⟨by omega,s1,by rw[u0];exact h3,u1.mono (by dsimp only;omega),by dsimp only;omega,rfl⟩) (b:=by dsimp only;omega)
   ·have hvb:v.bad=false:=by cases h:v.bad with|false=>rfl|true=>exact absurd (Or.inl h) hb
    have n1:¬ l[i].n < 0:=(fun h=>hb (.inr (.inl h)));have n2:¬ (m:Int)≤l[i].n:=(fun h=>hb (.inr (.inr h)));rw[Zwa hvb n1 n2] at s2;rw[s2] at s1;have hih:=ih (t:=t) (u:=u) (l:=l[i].l) (g:=g) (s:=⟨v.p+1,false,v.u⟩) (Z:=Z+Aj (l.take i)) (k:=k) (m:=m) (p:=q+1) (by omega) hgm h3 h4 (by omega) (by show v.p+1+Aj l[i].l≤_;omega) hu hm hq1;have u0:=ZfZ m l[i].l ⟨v.p+1,false,v.u⟩;have u1:=ZeB m l[i].l ⟨v.p+1,false,v.u⟩ _ h4;have u2:=(ZnR m l[i].l ⟨v.p+1,false,v.u⟩).2;generalize clL m l[i].l ⟨v.p+1,false,v.u⟩=z at *;dsimp only at u0 u1 u2 hih;rw[hvb];refine VA ?_;rw[hgm,HC n2];refine Zab [] (hA:=hih) (hr:=?_);refine VA ?_;exact Zad (i+1,z.p,z) (a:=⟨by omega,s1,by rw[u0];exact h3,u1.mono (by dsimp only;omega),by dsimp only;omega,rfl⟩) (b:=by dsimp only;omega)
  ·rw[Ha o1] at s2;by_cases o24:l[i].op=2∨l[i].op=4
   ·by_cases hb:v.bad=true∨l[i].n < 0∨(k:Int)≤l[i].n
    ·have hus:CS.use ⟨v.p+1,v.bad,v.u⟩ l[i].n=⟨v.p+1,true,v.u⟩:=CS.use_bad (by rw[←h3] at hb;exact hb);rw[hus] at s2;by_cases o2:l[i].op=2
     ·rw[Hb o2] at s2;rw[s2] at s1;cases hvb:v.bad with
      | true =>
       refine VA ?_;refine VA ?_;exact Zad (i+1,q+1,⟨v.p+1,true,v.u⟩) (a:=⟨by omega,s1,h3,h4.mono (by dsimp only;omega),by dsimp only;omega,by dsimp only;omega⟩) (b:=by dsimp only;omega)
      | false =>
       have hb':l[i].n < 0∨(k:Int)≤l[i].n:=hb.resolve_left (by rw[hvb];decide);by_cases n1:l[i].n < 0
       ·refine VA ?_;rw[Hu n1];refine VA ?_;exact Zad (i+1,q+1,⟨v.p+1,true,v.u⟩) (a:=⟨by omega,s1,h3,h4.mono (by dsimp only;omega),by dsimp only;omega,by dsimp only;omega⟩) (b:=by dsimp only;omega)
       ·have n2:(k:Int)≤l[i].n:=hb'.resolve_left n1;refine VA ?_;rw[h3,Hu n2];refine VA ?_;exact Zad (i+1,q+1,⟨v.p+1,true,v.u⟩) (a:=⟨by omega,s1,h3,h4.mono (by dsimp only;omega),by dsimp only;omega,by dsimp only;omega⟩) (b:=by dsimp only;omega)
     ·have o4:l[i].op=4:=(by omega);rw[Ha o2,Hb o4] at s2;rw[s2] at s1;have hih:=ih (t:=t) (u:=u) (l:=l[i].l) (g:=g) (s:=⟨v.p+1,true,v.u⟩) (Z:=Z+Aj (l.take i)) (k:=k) (m:=m) (p:=q+1) (by omega) hgm h3 h4 (by omega) (by show v.p+1+Aj l[i].l≤_;omega) hu hm hq1;have u0:=ZfZ m l[i].l ⟨v.p+1,true,v.u⟩;have u1:=ZeB m l[i].l ⟨v.p+1,true,v.u⟩ _ h4;have u2:=(ZnR m l[i].l ⟨v.p+1,true,v.u⟩).2;generalize clL m l[i].l ⟨v.p+1,true,v.u⟩=z at *;dsimp only at u0 u1 u2 hih;cases hvb:v.bad with
      | true =>
       refine VA ?_;refine VA ?_;refine Zab [] (hA:=hih) (hr:=?_);refine VA ?_;exact Zad (i+1,z.p,z) (a:=⟨by omega,s1,by rw[u0];exact h3,u1.mono (by dsimp only;omega),by dsimp only;omega,rfl⟩) (b:=by dsimp only;omega)
      | false =>
       have hb':l[i].n < 0∨(k:Int)≤l[i].n:=hb.resolve_left (by rw[hvb];decide);by_cases n1:l[i].n < 0
       ·refine VA ?_;rw[Hu n1];refine VA ?_;refine Zab [] (hA:=hih) (hr:=?_);refine VA ?_;exact Zad (i+1,z.p,z) (a:=⟨by omega,s1,by rw[u0];exact h3,u1.mono (by dsimp only;omega),by dsimp only;omega,rfl⟩) (b:=by dsimp only;omega)
       ·have n2:(k:Int)≤l[i].n:=hb'.resolve_left n1;refine VA ?_;rw[h3,Hu n2];refine VA ?_;refine Zab [] (hA:=hih) (hr:=?_);refine VA ?_;exact Zad (i+1,z.p,z) (a:=⟨by omega,s1,by rw[u0];exact h3,u1.mono (by dsimp only;omega),by dsimp only;omega,rfl⟩) (b:=by dsimp only;omega)
    ·have hvb:v.bad=false:=by cases h:v.bad with|false=>rfl|true=>exact absurd (Or.inl h) hb
     have n1:¬ l[i].n < 0:=(fun h=>hb (.inr (.inl h)));have n2:¬ (k:Int)≤l[i].n:=(fun h=>hb (.inr (.inr h)));have hus:CS.use ⟨v.p+1,v.bad,v.u⟩ l[i].n=⟨v.p+1,false,bump v.u l[i].n⟩:=CS.use_ok hvb n1 (by rw[←h3] at n2;exact n2);rw[hus] at s2;have hnk:l[i].n=((l[i].n.toNat:Nat):Int):=(by omega);have hnl:l[i].n.toNat < v.u.length:=(by omega);have hbr:=ZAF hnl;have hub:=Zpf (n:=l[i].n) h4;have hbl:=Zdm v.u l[i].n;have hvbd:=h4 _ (He hnl);rw[hvb];by_cases o2:l[i].op=2
     ·rw[Hb o2] at s2;rw[s2] at s1;refine VA ?_;rw[h3,HC n2];exact Zad (i+1,q+1,⟨v.p+1,false,bump v.u l[i].n⟩) (a:=⟨by omega,s1,by rw[Zdm];exact h3,hub.mono (by dsimp only;omega),by dsimp only;omega,by dsimp only;omega⟩) (b:=by dsimp only;omega)
     ·have o4:l[i].op=4:=(by omega);rw[Ha o2,Hb o4] at s2;rw[s2] at s1;have hih:=ih (t:=t) (u:=u) (l:=l[i].l) (g:=g) (s:=⟨v.p+1,false,bump v.u l[i].n⟩) (Z:=Z+Aj (l.take i)+1) (k:=k) (m:=m) (p:=q+1) (by omega) hgm (hbl.trans h3) hub (by omega) (by show v.p+1+Aj l[i].l≤_;omega) hu hm hq1;have u0:=ZfZ m l[i].l ⟨v.p+1,false,bump v.u l[i].n⟩;have u1:=ZeB m l[i].l ⟨v.p+1,false,bump v.u l[i].n⟩ _ hub;have u2:=(ZnR m l[i].l ⟨v.p+1,false,bump v.u l[i].n⟩).2;generalize clL m l[i].l ⟨v.p+1,false,bump v.u l[i].n⟩=z at *;dsimp only at u0 u1 u2 hih;unfold ctH at hih;rw[←hbr] at hih;refine VA ?_;rw[h3,HC n2];refine Zab [] (hA:=hih) (hr:=?_);refine VA ?_;exact Zad (i+1,z.p,z) (a:=⟨by omega,s1,by rw[u0,hbl];exact h3,u1.mono (by dsimp only;omega),by dsimp only;omega,rfl⟩) (b:=by dsimp only;omega)
   ·have o2:¬ l[i].op=2:=(fun h=>o24 (Or.inl h));have o4:¬ l[i].op=4:=(fun h=>o24 (Or.inr h));rw[Ha o2,Ha o4] at s2;by_cases o3:l[i].op=3
    ·rw[Hb o3] at s2;rw[s2] at s1;refine VA ?_;exact Zad (i+1,q+1,⟨v.p+1,v.bad,v.u⟩) (a:=⟨by omega,s1,h3,h4.mono (by dsimp only;omega),by dsimp only;omega,by dsimp only;omega⟩) (b:=by dsimp only;omega)
    ·rw[Ha o3] at s2;rw[s2] at s1;refine VA ?_;exact Zad (i+1,q+1,⟨v.p+1,true,v.u⟩) (a:=⟨by omega,s1,h3,h4.mono (by dsimp only;omega),by dsimp only;omega,by dsimp only;omega⟩) (b:=by dsimp only;omega)
 ·rw[ZCE hlt,←h6];refine VA ?_;exact fin
theorem ZlO {n:Int}:Af Tryz.prog 106 [I n] [] (B (!decide (n=1))) []:=by
 refine Af.intro (n:=5) Tryz.func106 (hw:=?_);simp only[Zal];refine VA ?_;exact fin
theorem Zht {t u:Bool} {old:Ac} {s:Step} (ho:old.fit) (hs:s.fit):Af Tryz.prog 63 [.d (Zbr t old),.d (ZdG u s)] [] (.d (Zbu (Zam old s))) []:=by
 refine Af.intro (n:=109) Tryz.func63 (hw:=?_);simp only[Zal];have hf:=hs.frags;have he:=hs.empty;have hol:=ho.Aa;have hgl:=hs.g.Aa;have hor:=ho.right;have hgr:=hs.g.right;refine VA ?_;refine Zab [] (hA:=ZaT) (hr:=?_);by_cases h0:(Zac old).code=0
 rotate_left
 ·rw[show Zam old s=Zac old by rw[Zam,Ha h0]];refine VA ?_;exact fin
 have hg:=Zbd h0;refine VA ?_;refine Zab [] (hA:=ZaT) (hr:=?_);by_cases h1:(Zac s.g).code=0
 rotate_left
 ·rw[show Zam old s=Zac s.g by rw[Zam,Hb h0,Ha h1]];refine VA ?_;exact fin
 have hsg:=Zbd h1;by_cases h2:(s.empty.length:Int) > 200
 ·rw[show Zam old s=⟨6, -1⟩ by rw[Zam,Hb h0,Hb h1,Ha (by omega)]];refine VA ?_;exact fin
 rw[show Zam old s=if s.empty.any (ZbX old)=true then ⟨13, -1⟩ else if s.frags.length=s.g.Aa.length then Zd7 old s.frags s.g.Aa 0 else ⟨14, -1⟩ by rw[Zam,Hb h0,Hb h1,Hb (by omega)]];refine VA ?_;refine Zak (X:=Nat) (fun i=>i≤s.empty.length∧∀ j,j < i→∀ (hj:j < s.empty.length),ZbX old s.empty[j]=false) (fun i=>[(35,I i),(34,I s.empty.length),(33,.d (Zan u s.empty)),(2,.ptr 2 0),(3,.ptr 3 0),(4,.ptr 4 0)]) (fun _=>[(2,ZaE t old),(3,Zci u s),(4,.box 31 [.d (iD 0),.d (iD 0)])]) (fun i=>s.empty.length - i) 0 ⟨Hh _,fun _ h=>by omega⟩ ?_
 ·rintro i ⟨hi,hp⟩;by_cases hlt:i < s.empty.length
  ·have hc:=hs.trees _ (He hlt);refine VA ?_;refine Zab [] (hA:=ZpP hol hor hc) (hr:=?_);by_cases h3:(ZaB old s.empty[i] old.start).code=0
   ·have hw:Zzp old s.empty[i]=Zbo old s.empty[i]:=(by rw[Zzp,Hb h3]);by_cases h4:(0:Int) < (Zbo old s.empty[i]).length
    ·rw[Hb (Zwh hlt (by rw[ZbX,Hu h3,Hu (show 0 < _ by omega)];rfl)),hw];refine VA ?_;exact fin
    ·rw[hw];have hwl:=Zj2 10 hg.right s.empty[i];refine VA ?_;exact Zad (i+1) (a:=⟨by omega,Zpc hp (fun _=>by rw[ZbX,Hu h3,HC (show ¬ 0 < (Zbo old s.empty[i]).length by omega)];rfl)⟩)
   ·rw[Hb (Zwh hlt (by simp[ZbX,h3]))];refine VA ?_;exact fin
  ·rw[Ha (by rw[ZsL (fun j hj=>hp j (by omega) hj)];simp)];by_cases h5:s.frags.length=s.g.Aa.length
   rotate_left
   ·rw[Ha h5];refine VA ?_;exact fin
   rw[Hb h5];refine VA ?_;refine Zak (X:=Nat) (fun i=>i≤s.g.Aa.length∧Zd7 old s.frags s.g.Aa 0=Zd7 old (s.frags.drop i) (s.g.Aa.drop i) i) (fun i=>[(68,I i),(67,I s.g.Aa.length),(66,.d (ZaS u s.g.Aa)),(2,.ptr 2 0),(3,.ptr 3 0),(4,.ptr 4 0)]) (fun _=>[(2,ZaE t old),(3,Zci u s),(4,.box 31 [.d (iD 0),.d (iD 0)])]) (fun i=>s.g.Aa.length - i) 0 ⟨Hh _,rfl⟩ ?_;rintro i ⟨hi,hp⟩;by_cases hlr:i < s.g.Aa.length
   ·have hlt:i < s.frags.length:=(by omega);have hfi:=hs.frag _ (He hlt);have hst:=Zrg (old:=old) hlt hlr;have hgi:=hgr _ (He hlr);have hkl:=Zbj s.g.Aa[i].right;have hcl:=Zwb _ (t:=u) (u:=t) (l:=s.frags[i]) (g:=old) (s:=⟨0,false,List.replicate (Ab s.g.Aa[i].right).length 0⟩) (Z:=0) (k:=(Ab s.g.Aa[i].right).length) (m:=old.Aa.length) (p:=0) (Gk _) rfl (by simp) (fun x hx=>by rw[(List.mem_replicate.1 hx).2];omega) (by omega) (by simpa using hfi) (by omega) hol rfl;have hcp:=ZCG old s.frags[i] s.g.Aa[i].right _ rfl;have hcu:=ZeB old.Aa.length s.frags[i] ⟨0,false,List.replicate (Ab s.g.Aa[i].right).length 0⟩ 0 (fun x hx=>by rw[(List.mem_replicate.1 hx).2];omega);have hcn:=ZfZ old.Aa.length s.frags[i] ⟨0,false,List.replicate (Ab s.g.Aa[i].right).length 0⟩;have hpp:=(ZnR old.Aa.length s.frags[i] ⟨0,false,List.replicate (Ab s.g.Aa[i].right).length 0⟩).2;generalize clL old.Aa.length s.frags[i] ⟨0,false,List.replicate (Ab s.g.Aa[i].right).length 0⟩=z at *;unfold ctH at hcl;dsimp only at hcl hcn hpp;rw[HM] at hcn;rw[List.map_replicate] at hcl;refine VA ?_;refine Zab [(3,900)] (hA:=ZcH) (hr:=?_);refine VA ?_;refine Zab [(1000,79),(1001,77)] (hA:=hcl) (hr:=?_);by_cases c1:60 < z.p
    ·rw[Hb c1] at hcp;rw[hcp,Ha (by decide)] at hst;rw[hp,hst];refine VA ?_;exact fin
    ·rw[Ha c1] at hcp;cases hb:z.bad with
     | true =>
      rw[hb,Bool.true_or,Hb rfl] at hcp;rw[hcp,Ha (by decide)] at hst;rw[hp,hst];refine VA ?_;exact fin
     | false =>
      rw[hb,GD] at hcp;refine VA ?_;refine Zab [] (hA:=Zb0 (t:=false) (clos:=106) (caps:=[]) (H:=[]) (p:=fun n=>!decide (n=1)) Clo.nil (fun x _=>ZlO)) (hr:=?_);cases hv:z.u.any (fun n=>!decide (n=1)) with
      | true =>
       rw[hv,Hb rfl] at hcp;rw[hcp,Ha (by decide)] at hst;rw[hp,hst];refine VA ?_;exact fin
      | false =>
       rw[hv,Ha (by decide)] at hcp;rw[hcp,Hb rfl] at hst;refine VA ?_;exact Zad (i+1) (a:=⟨by omega,hp.trans hst⟩)
   ·rw[hp,ZuD (by omega)];refine VA ?_;exact fin
end Go.Proofs.YtbpmepgnjanhnaaGreat
