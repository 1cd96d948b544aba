import Derived.Test.YtbpmepgnjanhnaaGreatQFrQ
set_option linter.unusedVariables false
set_option linter.unusedSimpArgs false
set_option linter.unusedSectionVars false
set_option maxHeartbeats 40000000
set_option maxRecDepth 100000
namespace Go.Proofs.YtbpmepgnjanhnaaGreat
open Go.RowKit
abbrev ZEB (t:Bool) (g:Ac) (k:Nat) (p:Int) (b:Bool):Ob:=.box 144 [.d (iD g.vars),.d (iD g.terms),.d (iD g.start),.d (ZaS t g.Aa),.own 1001 k,I p,B b]
abbrev ctH (t:Bool) (g:Ac) (k:Nat) (p:Int) (b:Bool) (u:List Int):Hp:=[(1000,ZEB t g k p b),(1001,.row 3 1 (u.map iD))]
theorem CS.use_bad {s:CS} {n:Int} (h:s.bad=true∨n < 0∨(s.u.length:Int)≤n):s.use n=⟨s.p,true,s.u⟩:=Hb (by rcases h with h|h|h <;> simp[h])
theorem CS.use_ok {s:CS} {n:Int} (h1:s.bad=false) (h2:¬ n < 0) (h3:¬ (s.u.length:Int)≤n):s.use n=⟨s.p,false,bump s.u n⟩:=Ha (by rw[h1,HA h2,HA h3];decide)
theorem Zz4 {a:Bool} {n m:Int} (h:a=true∨n < 0∨m≤n):(a || (decide (n < 0) || decide (m≤n)))=true:=by rcases h with h|h|h <;> simp[h]
theorem Zw6 {a:Bool} {n m:Int} (h1:a=false) (h2:¬ n < 0) (h3:¬ m≤n):(a || (decide (n < 0) || decide (m≤n)))=false:=by simp[h1];omega
theorem Zw7:∀ (N:Nat) {t u:Bool} {l:List Ad} {g:Ac} {s:CS} {Z k m:Nat} {p:Int},Aj l < N→g.Aa.length=m→s.u.length=k→Upto Z s.u→Z+Aj l≤100000000→s.p+Aj l≤100000000→k≤100000000→m≤100000000→p=(s.p:Int) →
  Af Tryz.prog 105 [.ptr 1000 0,.d (Zah t l)] (ctH u g k p s.bad s.u) (.tup []) (ctH u g k ((clL m l s).p:Int) (clL m l s).bad (clL m l s).u):=by
 intro N
 induction N with
 | zero=>intro t u l g s Z k m p h;omega
 | succ N ih =>
 intro t u l g s Z k m p hn hgm hk hB hN hP hu hm hp;have hl:=Hq (ZbY l) (show Aj l≤100000000 by omega);refine Af.intro (n:=109) Tryz.func105 (hw:=?_);simp only[Zal];refine VA ?_;refine Zak (X:=Nat×Int×CS) (fun x=>x.1≤l.length∧clL m l s=clL m (l.drop x.1) x.2.2∧x.2.2.u.length=k∧Upto (Z+Aj (l.take x.1)) x.2.2.u∧x.2.2.p≤s.p+Aj (l.take x.1)∧x.2.1=(x.2.2.p:Int)) (fun x=>[(8,I x.1),(7,I l.length),(6,.d (Zah t l)),(0,.ptr 1000 0)]) (fun x=>ctH u g k x.2.1 x.2.2.bad x.2.2.u) (fun x=>l.length - x.1) (0,p,s) ⟨Hi _,rfl,hk,by simpa[Aj] using hB,by simp,hp⟩ ?_;rintro⟨i,q,v⟩ ⟨h1,h2,h3,h4,h5,h6⟩;dsimp only at h1 h2 h3 h4 h5 h6 ⊢;rw[h2];clear h2;by_cases hlt:i < l.length
 ·have e1:=ZhW hlt;have e2:=ZhV l[i];have e3:=ZfA (He hlt);have e4:=Ze8 l i;have e5:=Zyh hlt;have s1:=Zz9 (m:=m) (s:=v) hlt;by_cases h60:60 < v.p+1
  ·rw[Hb h60] at s1;rw[s1];have e6:((v.p+1:Nat):Int)=q+1:=by omega
   rw[e6];refine VA ?_;exact fin
  rw[Ha h60] at s1;have s2:=ZDP m l[i] ⟨v.p+1,v.bad,v.u⟩;have hq1:q+1=((v.p+1:Nat):Int):=by omega
  by_cases o1:l[i].op=1
  ·rw[Hb o1] at s2;by_cases hb:v.bad=true∨l[i].n < 0∨(m:Int)≤l[i].n
   ·rw[Zz4 hb] at s2;rw[s2] at s1;have hih:=ih (t:=t) (u:=u) (l:=l[i].l) (g:=g) (s:=⟨v.p+1,true,v.u⟩) (Z:=Z+Aj (l.take i)) (k:=k) (m:=m) (p:=q+1) (by omega) hgm h3 h4 (by omega) (by show v.p+1+Aj l[i].l≤_;omega) hu hm hq1;have u0:=ZfY m l[i].l ⟨v.p+1,true,v.u⟩;have u1:=Zey m l[i].l ⟨v.p+1,true,v.u⟩ _ h4;have u2:=(ZnC m l[i].l ⟨v.p+1,true,v.u⟩).2;generalize clL m l[i].l ⟨v.p+1,true,v.u⟩=z at *;dsimp only at u0 u1 u2 hih;cases hvb:v.bad with
    | true =>
     refine VA ?_;refine Zab [] (hA:=hih) (hr:=?_);refine VA ?_;exact Zad (i+1,z.p,z) (a:=⟨by omega,s1,by rw[u0];exact h3,u1.mono (by dsimp only;omega),by dsimp only;omega,rfl⟩) (b:=by dsimp only;omega)
    | false =>
     have hb':l[i].n < 0∨(m:Int)≤l[i].n:=hb.resolve_left (by rw[hvb];decide);by_cases n1:l[i].n < 0
     ·refine VA ?_;rw[Ht n1];refine Zab [] (hA:=hih) (hr:=?_);refine VA ?_;exact Zad (i+1,z.p,z) (a:=⟨by omega,s1,by rw[u0];exact h3,u1.mono (by dsimp only;omega),by dsimp only;omega,rfl⟩) (b:=by dsimp only;omega)
     ·have n2:(m:Int)≤l[i].n:=hb'.resolve_left n1;refine VA ?_;rw[hgm,Ht n2];refine Zab [] (hA:=hih) (hr:=?_);refine VA ?_;exact Zad (i+1,z.p,z) (a:=⟨by omega,s1,by rw[u0];exact h3,u1.mono (by dsimp only;omega),by dsimp only;omega,rfl⟩) (b:=by dsimp only;omega)
   ·have hvb:v.bad=false:=by cases h:v.bad with|false=>rfl|true=>exact absurd (Or.inl h) hb
    have n1:¬ l[i].n < 0:=(fun h=>hb (.inr (.inl h)));have n2:¬ (m:Int)≤l[i].n:=(fun h=>hb (.inr (.inr h)));rw[Zw6 hvb n1 n2] at s2;rw[s2] at s1;have hih:=ih (t:=t) (u:=u) (l:=l[i].l) (g:=g) (s:=⟨v.p+1,false,v.u⟩) (Z:=Z+Aj (l.take i)) (k:=k) (m:=m) (p:=q+1) (by omega) hgm h3 h4 (by omega) (by show v.p+1+Aj l[i].l≤_;omega) hu hm hq1;have u0:=ZfY m l[i].l ⟨v.p+1,false,v.u⟩;have u1:=Zey m l[i].l ⟨v.p+1,false,v.u⟩ _ h4;have u2:=(ZnC m l[i].l ⟨v.p+1,false,v.u⟩).2;generalize clL m l[i].l ⟨v.p+1,false,v.u⟩=z at *;dsimp only at u0 u1 u2 hih;rw[hvb];refine VA ?_;rw[hgm,HA n2];refine Zab [] (hA:=hih) (hr:=?_);refine VA ?_;exact Zad (i+1,z.p,z) (a:=⟨by omega,s1,by rw[u0];exact h3,u1.mono (by dsimp only;omega),by dsimp only;omega,rfl⟩) (b:=by dsimp only;omega)
  ·rw[Ha o1] at s2;by_cases o24:l[i].op=2∨l[i].op=4
   ·by_cases hb:v.bad=true∨l[i].n < 0∨(k:Int)≤l[i].n
    ·have hus:CS.use ⟨v.p+1,v.bad,v.u⟩ l[i].n=⟨v.p+1,true,v.u⟩:=CS.use_bad (by rw[←h3] at hb;exact hb);rw[hus] at s2;by_cases o2:l[i].op=2
     ·rw[Hb o2] at s2;rw[s2] at s1;cases hvb:v.bad with
      | true =>
       refine VA ?_;refine VA ?_;exact Zad (i+1,q+1,⟨v.p+1,true,v.u⟩) (a:=⟨by omega,s1,h3,h4.mono (by dsimp only;omega),by dsimp only;omega,by dsimp only;omega⟩) (b:=by dsimp only;omega)
      | false =>
       have hb':l[i].n < 0∨(k:Int)≤l[i].n:=hb.resolve_left (by rw[hvb];decide);by_cases n1:l[i].n < 0
       ·refine VA ?_;rw[Ht n1];refine VA ?_;exact Zad (i+1,q+1,⟨v.p+1,true,v.u⟩) (a:=⟨by omega,s1,h3,h4.mono (by dsimp only;omega),by dsimp only;omega,by dsimp only;omega⟩) (b:=by dsimp only;omega)
       ·have n2:(k:Int)≤l[i].n:=hb'.resolve_left n1;refine VA ?_;rw[h3,Ht n2];refine VA ?_;exact Zad (i+1,q+1,⟨v.p+1,true,v.u⟩) (a:=⟨by omega,s1,h3,h4.mono (by dsimp only;omega),by dsimp only;omega,by dsimp only;omega⟩) (b:=by dsimp only;omega)
     ·have o4:l[i].op=4:=(by omega);rw[Ha o2,Hb o4] at s2;rw[s2] at s1;have hih:=ih (t:=t) (u:=u) (l:=l[i].l) (g:=g) (s:=⟨v.p+1,true,v.u⟩) (Z:=Z+Aj (l.take i)) (k:=k) (m:=m) (p:=q+1) (by omega) hgm h3 h4 (by omega) (by show v.p+1+Aj l[i].l≤_;omega) hu hm hq1;have u0:=ZfY m l[i].l ⟨v.p+1,true,v.u⟩;have u1:=Zey m l[i].l ⟨v.p+1,true,v.u⟩ _ h4;have u2:=(ZnC m l[i].l ⟨v.p+1,true,v.u⟩).2;generalize clL m l[i].l ⟨v.p+1,true,v.u⟩=z at *;dsimp only at u0 u1 u2 hih;cases hvb:v.bad with
      | true =>
       refine VA ?_;refine VA ?_;refine Zab [] (hA:=hih) (hr:=?_);refine VA ?_;exact Zad (i+1,z.p,z) (a:=⟨by omega,s1,by rw[u0];exact h3,u1.mono (by dsimp only;omega),by dsimp only;omega,rfl⟩) (b:=by dsimp only;omega)
      | false =>
       have hb':l[i].n < 0∨(k:Int)≤l[i].n:=hb.resolve_left (by rw[hvb];decide);by_cases n1:l[i].n < 0
       ·refine VA ?_;rw[Ht n1];refine VA ?_;refine Zab [] (hA:=hih) (hr:=?_);refine VA ?_;exact Zad (i+1,z.p,z) (a:=⟨by omega,s1,by rw[u0];exact h3,u1.mono (by dsimp only;omega),by dsimp only;omega,rfl⟩) (b:=by dsimp only;omega)
       ·have n2:(k:Int)≤l[i].n:=hb'.resolve_left n1;refine VA ?_;rw[h3,Ht n2];refine VA ?_;refine Zab [] (hA:=hih) (hr:=?_);refine VA ?_;exact Zad (i+1,z.p,z) (a:=⟨by omega,s1,by rw[u0];exact h3,u1.mono (by dsimp only;omega),by dsimp only;omega,rfl⟩) (b:=by dsimp only;omega)
    ·have hvb:v.bad=false:=by cases h:v.bad with|false=>rfl|true=>exact absurd (Or.inl h) hb
     have n1:¬ l[i].n < 0:=(fun h=>hb (.inr (.inl h)));have n2:¬ (k:Int)≤l[i].n:=(fun h=>hb (.inr (.inr h)));have hus:CS.use ⟨v.p+1,v.bad,v.u⟩ l[i].n=⟨v.p+1,false,bump v.u l[i].n⟩:=CS.use_ok hvb n1 (by rw[←h3] at n2;exact n2);rw[hus] at s2;have hnk:l[i].n=((l[i].n.toNat:Nat):Int):=(by omega);have hnl:l[i].n.toNat < v.u.length:=(by omega);have hbr:=ZAh hnl;have hub:=Zp9 (n:=l[i].n) h4;have hbl:=Zdp v.u l[i].n;have hvbd:=h4 _ (He hnl);rw[hvb];by_cases o2:l[i].op=2
     ·rw[Hb o2] at s2;rw[s2] at s1;refine VA ?_;rw[h3,HA n2];exact Zad (i+1,q+1,⟨v.p+1,false,bump v.u l[i].n⟩) (a:=⟨by omega,s1,by rw[Zdp];exact h3,hub.mono (by dsimp only;omega),by dsimp only;omega,by dsimp only;omega⟩) (b:=by dsimp only;omega)
     ·have o4:l[i].op=4:=(by omega);rw[Ha o2,Hb o4] at s2;rw[s2] at s1;have hih:=ih (t:=t) (u:=u) (l:=l[i].l) (g:=g) (s:=⟨v.p+1,false,bump v.u l[i].n⟩) (Z:=Z+Aj (l.take i)+1) (k:=k) (m:=m) (p:=q+1) (by omega) hgm (hbl.trans h3) hub (by omega) (by show v.p+1+Aj l[i].l≤_;omega) hu hm hq1;have u0:=ZfY m l[i].l ⟨v.p+1,false,bump v.u l[i].n⟩;have u1:=Zey m l[i].l ⟨v.p+1,false,bump v.u l[i].n⟩ _ hub;have u2:=(ZnC m l[i].l ⟨v.p+1,false,bump v.u l[i].n⟩).2;generalize clL m l[i].l ⟨v.p+1,false,bump v.u l[i].n⟩=z at *;dsimp only at u0 u1 u2 hih;unfold ctH at hih;rw[←hbr] at hih;refine VA ?_;rw[h3,HA n2];refine Zab [] (hA:=hih) (hr:=?_);refine VA ?_;exact Zad (i+1,z.p,z) (a:=⟨by omega,s1,by rw[u0,hbl];exact h3,u1.mono (by dsimp only;omega),by dsimp only;omega,rfl⟩) (b:=by dsimp only;omega)
   ·have o2:¬ l[i].op=2:=(fun h=>o24 (Or.inl h));have o4:¬ l[i].op=4:=(fun h=>o24 (Or.inr h));rw[Ha o2,Ha o4] at s2;by_cases o3:l[i].op=3
    ·rw[Hb o3] at s2;rw[s2] at s1;refine VA ?_;exact Zad (i+1,q+1,⟨v.p+1,v.bad,v.u⟩) (a:=⟨by omega,s1,h3,h4.mono (by dsimp only;omega),by dsimp only;omega,by dsimp only;omega⟩) (b:=by dsimp only;omega)
    ·rw[Ha o3] at s2;rw[s2] at s1;refine VA ?_;exact Zad (i+1,q+1,⟨v.p+1,true,v.u⟩) (a:=⟨by omega,s1,h3,h4.mono (by dsimp only;omega),by dsimp only;omega,by dsimp only;omega⟩) (b:=by dsimp only;omega)
 ·rw[ZCk hlt,←h6];refine VA ?_;exact fin
theorem ZlN {n:Int}:Af Tryz.prog 106 [I n] [] (B (!decide (n=1))) []:=by
 refine Af.intro (n:=5) Tryz.func106 (hw:=?_);simp only[Zal];refine VA ?_;exact fin
theorem ZhD {t u:Bool} {old:Ac} {s:Step} (ho:old.fit) (hs:s.fit):Af Tryz.prog 63 [.d (Zbo t old),.d (ZdB u s)] [] (.d (Zbu (Zap old s))) []:=by
 refine Af.intro (n:=109) Tryz.func63 (hw:=?_);simp only[Zal];have hf:=hs.frags;have he:=hs.empty;have hol:=ho.Aa;have hgl:=hs.g.Aa;have hor:=ho.right;have hgr:=hs.g.right;refine VA ?_;refine Zab [] (hA:=ZaU) (hr:=?_);by_cases h0:(Zac old).code=0
 rotate_left
 ·rw[show Zap old s=Zac old by rw[Zap,Ha h0]];refine VA ?_;exact fin
 have hg:=Zbe h0;refine VA ?_;refine Zab [] (hA:=ZaU) (hr:=?_);by_cases h1:(Zac s.g).code=0
 rotate_left
 ·rw[show Zap old s=Zac s.g by rw[Zap,Hb h0,Ha h1]];refine VA ?_;exact fin
 have hsg:=Zbe h1;by_cases h2:(s.empty.length:Int) > 200
 ·rw[show Zap old s=⟨6, -1⟩ by rw[Zap,Hb h0,Hb h1,Ha (by omega)]];refine VA ?_;exact fin
 rw[show Zap old s=if s.empty.any (ZbZ old)=true then ⟨13, -1⟩ else if s.frags.length=s.g.Aa.length then Zee old s.frags s.g.Aa 0 else ⟨14, -1⟩ by rw[Zap,Hb h0,Hb h1,Hb (by omega)]];refine VA ?_;refine Zak (X:=Nat) (fun i=>i≤s.empty.length∧∀ j,j < i→∀ (hj:j < s.empty.length),ZbZ old s.empty[j]=false) (fun i=>[(35,I i),(34,I s.empty.length),(33,.d (Zao u s.empty)),(2,.ptr 2 0),(3,.ptr 3 0),(4,.ptr 4 0)]) (fun _=>[(2,ZaD t old),(3,Zce u s),(4,.box 31 [.d (iD 0),.d (iD 0)])]) (fun i=>s.empty.length - i) 0 ⟨Hi _,fun _ h=>by omega⟩ ?_
 ·rintro i ⟨hi,hp⟩;by_cases hlt:i < s.empty.length
  ·have hc:=hs.trees _ (He hlt);refine VA ?_;refine Zab [] (hA:=Zpw hol hor hc) (hr:=?_);by_cases h3:(ZaA old s.empty[i] old.start).code=0
   ·have hw:Zya old s.empty[i]=Zbm old s.empty[i]:=(by rw[Zya,Hb h3]);by_cases h4:(0:Int) < (Zbm old s.empty[i]).length
    ·rw[Hb (Zxm hlt (by rw[ZbZ,Ht h3,Ht (show 0 < _ by omega)];rfl)),hw];refine VA ?_;exact fin
    ·rw[hw];have hwl:=ZjO 10 hg.right s.empty[i];refine VA ?_;exact Zad (i+1) (a:=⟨by omega,Zpy hp (fun _=>by rw[ZbZ,Ht h3,HA (show ¬ 0 < (Zbm old s.empty[i]).length by omega)];rfl)⟩)
   ·rw[Hb (Zxm hlt (by simp[ZbZ,h3]))];refine VA ?_;exact fin
  ·rw[Ha (by rw[ZsY (fun j hj=>hp j (by omega) hj)];simp)];by_cases h5:s.frags.length=s.g.Aa.length
   rotate_left
   ·rw[Ha h5];refine VA ?_;exact fin
   rw[Hb h5];refine VA ?_;refine Zak (X:=Nat) (fun i=>i≤s.g.Aa.length∧Zee old s.frags s.g.Aa 0=Zee old (s.frags.drop i) (s.g.Aa.drop i) i) (fun i=>[(68,I i),(67,I s.g.Aa.length),(66,.d (ZaS u s.g.Aa)),(2,.ptr 2 0),(3,.ptr 3 0),(4,.ptr 4 0)]) (fun _=>[(2,ZaD t old),(3,Zce u s),(4,.box 31 [.d (iD 0),.d (iD 0)])]) (fun i=>s.g.Aa.length - i) 0 ⟨Hi _,rfl⟩ ?_;rintro i ⟨hi,hp⟩;by_cases hlr:i < s.g.Aa.length
   ·have hlt:i < s.frags.length:=(by omega);have hfi:=hs.frag _ (He hlt);have hst:=ZrT (old:=old) hlt hlr;have hgi:=hgr _ (He hlr);have hkl:=Zbi s.g.Aa[i].right;have hcl:=Zw7 _ (t:=u) (u:=t) (l:=s.frags[i]) (g:=old) (s:=⟨0,false,List.replicate (Ab s.g.Aa[i].right).length 0⟩) (Z:=0) (k:=(Ab s.g.Aa[i].right).length) (m:=old.Aa.length) (p:=0) (Gj _) rfl (by simp) (fun x hx=>by rw[(List.mem_replicate.1 hx).2];omega) (by omega) (by simpa using hfi) (by omega) hol rfl;have hcp:=ZCm old s.frags[i] s.g.Aa[i].right _ rfl;have hcu:=Zey old.Aa.length s.frags[i] ⟨0,false,List.replicate (Ab s.g.Aa[i].right).length 0⟩ 0 (fun x hx=>by rw[(List.mem_replicate.1 hx).2];omega);have hcn:=ZfY old.Aa.length s.frags[i] ⟨0,false,List.replicate (Ab s.g.Aa[i].right).length 0⟩;have hpp:=(ZnC old.Aa.length s.frags[i] ⟨0,false,List.replicate (Ab s.g.Aa[i].right).length 0⟩).2;generalize clL old.Aa.length s.frags[i] ⟨0,false,List.replicate (Ab s.g.Aa[i].right).length 0⟩=z at *;unfold ctH at hcl;dsimp only at hcl hcn hpp;rw[HM] at hcn;rw[List.map_replicate] at hcl;refine VA ?_;refine Zab [(3,900)] (hA:=ZcG) (hr:=?_);refine VA ?_;refine Zab [(1000,79),(1001,77)] (hA:=hcl) (hr:=?_);by_cases c1:60 < z.p
    ·rw[Hb c1] at hcp;rw[hcp,Ha (by decide)] at hst;rw[hp,hst];refine VA ?_;exact fin
    ·rw[Ha c1] at hcp;cases hb:z.bad with
     | true =>
      rw[hb,Bool.true_or,Hb rfl] at hcp;rw[hcp,Ha (by decide)] at hst;rw[hp,hst];refine VA ?_;exact fin
     | false =>
      rw[hb,GD] at hcp;refine VA ?_;refine Zab [] (hA:=Zb0 (t:=false) (clos:=106) (caps:=[]) (H:=[]) (p:=fun n=>!decide (n=1)) Clo.nil (fun x _=>ZlN)) (hr:=?_);cases hv:z.u.any (fun n=>!decide (n=1)) with
      | true =>
       rw[hv,Hb rfl] at hcp;rw[hcp,Ha (by decide)] at hst;rw[hp,hst];refine VA ?_;exact fin
      | false =>
       rw[hv,Ha (by decide)] at hcp;rw[hcp,Hb rfl] at hst;refine VA ?_;exact Zad (i+1) (a:=⟨by omega,hp.trans hst⟩)
   ·rw[hp,Zu3 (by omega)];refine VA ?_;exact fin
theorem Zw8:∀ (N:Nat) {t:Bool} {l:List Tree},cnts l < N→cnts l≤100000000→Af Tryz.prog 223 [.d (Zao t l)] [] (I (cnts l)) []:=by
 intro N
 induction N with
 | zero=>intro t l h;omega
 | succ N ih =>
 intro t l hn hN;have hl:=Hq (Zco l) hN;refine Af.intro (n:=21) Tryz.func223 (hw:=?_);simp only[Zal];refine VA ?_;refine Zak (X:=Nat×Nat) (fun x=>x.1≤l.length∧x.2+x.1=l.length+cnts (l.take x.1)) (fun x=>[(10,I x.1),(9,I l.length),(8,.d (Zao t l)),(3,I x.2)]) (fun _=>[]) (fun x=>l.length - x.1) (0,l.length) ⟨Hi _,by simp[cnts]⟩ ?_;rintro⟨i,v⟩ ⟨h1,h2⟩;dsimp only at h1 h2 ⊢;by_cases hlt:i < l.length
 ·have e1:=ZkJ hlt;have e3:=Zbq (He hlt);have e2:=Zcz l[i];have e4:cnts l=cnts (l.take (i+1))+cnts (l.drop (i+1)):=by rw[←ZaI,Ge]
  have e5:(l.take i).length≤cnts (l.take i):=Zco _;refine VA ?_;refine Zab [] (hA:=ih (t:=t) (l:=l[i].Ab) (by omega) (by omega)) (hr:=?_);refine VA ?_;exact Zad (i+1,v+cnts l[i].Ab) (a:=⟨by omega,by dsimp only;omega⟩) (b:=by dsimp only;omega)
 ·rw[H5 (by omega)] at h2;obtain rfl:v=cnts l:=by omega
  refine VA ?_;exact fin
theorem Zw9 {t:Bool} {l:List Tree} (h:cnts l≤100000000:=by exact Vm):Af Tryz.prog 223 [.d (Zao t l)] [] (I (cnts l)) []:=Zw8 _ (Gj _) h
abbrev mkH (b:Bool):Hp:=[(1000,.box 109 [B b])]
def fitR (l:List Tree):List Tree:=if cnts l≤400 then l else []
theorem ZsV (l:List Tree):cnts (fitR l)≤400:=by
 unfold fitR;split
 ·assumption
 ·simp[cnts]
theorem ZkF {l:List Tree} {b:Bool} (h:cnts l≤100000000:=by exact Vm):Af Tryz.prog 207 [.ptr 1000 0,.d (Zao false l)] (mkH b) (.d (Zao false (fitR l))) (mkH (b || decide (400 < cnts l))):=by
 refine Af.intro (n:=12) Tryz.func207 (hw:=?_);simp only[Zal];refine VA ?_;refine Zab [] (hA:=Zw9) (hr:=?_);by_cases h4:400 < cnts l
 ·rw[Ht h4,Bool.or_true,fitR,Ha (by omega)];refine VA ?_;exact fin
 ·rw[HA h4,Jf,fitR,Hb (by omega)];refine VA ?_;exact fin
theorem Zz5:∀ (N:Nat) {l w:List Tree},cnts l < N→cnts l * (1+cnts w)≤100000000→Af Tryz.prog 208 [.d (Zao false l),.d (Zao false w)] [] (.d (Zao false (ZaW w l))) []:=by
 intro N
 induction N with
 | zero=>intro l w h;omega
 | succ N ih =>
 intro l w hn hN;have hcl:cnts l≤cnts l * (1+cnts w):=Nat.le_mul_of_pos_right _ (by omega);have hl:=Hq (Zco l) (Hq hcl hN);refine Af.intro (n:=32) Tryz.func208 (hw:=?_);simp only[Zal];refine VA ?_;refine ZbB 5 900 56 2 rfl rfl rfl ?_;refine Zak (X:=Nat) (fun i=>i≤l.length) (fun i=>[(10,I i),(9,I l.length),(8,.d (Zao false l)),(5,.own 900 (ZaW w (l.take i)).length),(1,.d (Zao false w))]) (fun i=>[(900,.row 56 2 ((ZaW w (l.take i)).map (Zbb false)))]) (fun i=>l.length - i) 0 (Hi _) ?_;intro i h1;by_cases hlt:i < l.length
 ·have e1:=ZuI (w:=w) hlt;have e2:=ZjD w l[i];have e3:=Zbq (He hlt);have e4:=Zcz l[i];have e5:=Hq (Zco _) (ZhF w (l.take (i+1)));have e6:cnts (l.take (i+1))≤cnts l:=by have:=ZaI (l.take (i+1)) (l.drop (i+1));rw[Ge] at this;omega
  have e7:=Hq e5 (Gh (1+cnts w) e6);have e8:=Hz List.length e1;rw[Hk] at e8;by_cases hr:l[i].rule = -1
  ·rw[Hb hr] at e2;rw[e2] at e1 e8;have e:=Hz (List.map (Zbb false)) e1;rw[Ho] at e;refine VA ?_;exact Zad (i+1)
  ·rw[Ha hr] at e2;rw[e2] at e1 e8;have e:(ZaW w (l.take i)).map (Zbb false)++[D.agg [iD l[i].rule,Zao false (ZaW w l[i].Ab)]]=(ZaW w (l.take (i+1))).map (Zbb false):=by rw[e1,Ho];simp only[Hm,HH,Zdu];rfl
   have hk:=Gh (1+cnts w) (show cnts l[i].Ab≤cnts l by omega);refine VA ?_;refine Zab [] (hA:=ih (l:=l[i].Ab) (w:=w) (by omega) (by omega)) (hr:=?_);refine VA ?_;rw[e,Hh];exact Zad (i+1)
 ·rw[show l.take i=l from H5 (by omega)];refine Zaz 900 rfl ?_;refine VA ?_;exact fin
theorem ZsW {l w:List Tree} (h1:cnts l≤400) (h2:cnts w≤400):Af Tryz.prog 208 [.d (Zao false l),.d (Zao false w)] [] (.d (Zao false (ZaW w l))) [] :=
 Zz5 _ (Gj _) (Hq (Nat.mul_le_mul h1 (show 1+cnts w≤401 by omega)) (by decide))
theorem Zpq {l w:List Tree} (h1:cnts l≤400) (h2:cnts w≤400):cnts (ZaW w l)≤160400:=Hq (ZhF w l) (Hq (Nat.mul_le_mul h1 (show 1+cnts w≤401 by omega)) (by decide))
abbrev ZDO (Ab:List (List Tree)):D:=.sl false 1 (Ab.map (Zao false))
theorem Zz6 {m:Int} {l:List Ad} {i:Nat} {u:List Int} (hlt:i < l.length) (h:(usL m (l.drop i) u).1=true):(usF m l[i] u).1=true∧(usL m (l.drop (i+1)) (usF m l[i] u).2).1=true:=by
 rw[ZAQ hlt] at h;cases hc:(usF m l[i] u).1 with
 | true=>rw[hc] at h;exact⟨rfl,h⟩
 | false=>rw[hc] at h;cases h
theorem Zxa:∀ (l:List Ad),l.length≤cpL l
 | []=>Hi _
 | x::l=>by
  have:=Zxa l;have:1≤cpF x:=by rw[Ztu];omega
  simp only[Hl,cpL];omega
theorem Zz7 {Ab:List (List Tree)} {l:List Ad} (h:mkA Ab l=none):mkL Ab l=none:=by rw[mkL,h];rfl
theorem Zxb:∀ (N:Nat) {t:Bool} {l:List Ad} {Ab:List (List Tree)} {m:Int} {u:List Int},cpL l < N→cpL l≤60→(usL m l u).1=true→u.length=Ab.length→(∀ k∈Ab,cnts k≤400)→Ab.length≤100000000 →
  Af Tryz.prog 155 [.ptr 1000 0,.d (Zah t l),.d (ZDO Ab)] (mkH false) (.d (Zao false ((mkL Ab l).getD []))) (mkH (mkL Ab l).isNone):=by
 intro N
 induction N with
 | zero=>intro t l Ab m u h;omega
 | succ N ih =>
 intro t l Ab m u hn h60 hus hk hk4 hkN;have hl:l.length≤cpL l:=Zxa l;refine Af.intro (n:=71) Tryz.func155 (hw:=?_);simp only[Zal];refine VA ?_;refine ZbB 7 900 56 2 rfl rfl rfl ?_;refine Zak (X:=Nat×List Tree×List Int) (fun x=>x.1≤l.length∧mkA Ab (l.take x.1)=some x.2.1∧(usL m (l.drop x.1) x.2.2).1=true∧x.2.2.length=Ab.length) (fun x=>[(12,I x.1),(11,I l.length),(10,.d (Zah t l)),(7,.own 900 x.2.1.length),(0,.ptr 1000 0),(2,.d (ZDO Ab))]) (fun x=>(900,.row 56 2 (x.2.1.map (Zbb false)))::mkH false) (fun x=>l.length - x.1) (0,[],u) ⟨Hi _,rfl,hus,hk⟩ ?_;rintro⟨i,A,v⟩ ⟨h1,h2,h3,h4⟩;dsimp only at h1 h2 h3 h4 ⊢;by_cases hlt:i < l.length
 ·have e1:=ZAc (Ab:=Ab) hlt;have e2:=Zxe Ab l[i];have e3:=ZAP hlt;have e4:=Ztu l[i];have e5:cpL l=cpL (l.take (i+1))+cpL (l.drop (i+1)):=by rw[←Zdo,Ge]
  obtain⟨g1,g2⟩:=Zz6 hlt h3;have g3:=ZD3 m l[i] v;have g4:=ZrS m l[i] v;have hA:=Hq (Zco A) (ZnD hk4 h2);have hti:(l.take i).length≤60:=by rw[Hs];omega
  rw[h2] at e1;have hmany:mkA Ab (l.take (i+1))=none→(mkL Ab l)=none:=fun h=>Zz7 (ZAd h)
  by_cases o1:l[i].op=1
  ·rw[Hb (Or.inl o1)] at e4;rw[Hb o1] at e2 g3;have g5:(usL m l[i].l v).1=true:=by
    rw[g3] at g1;split at g1
    ·cases g1
    ·exact g1
   have hih:=ih (t:=t) (l:=l[i].l) (Ab:=Ab) (m:=m) (u:=v) (by omega) (by omega) g5 h4 hk4 hkN;cases hc:mkL Ab l[i].l with
   | none =>
    rw[hc] at hih e2;rw[JK,JQ] at hih;rw[e2] at e1;rw[hmany e1,JK,JQ];refine VA ?_;refine Zab [] (hA:=hih) (hr:=?_);refine VA ?_;exact fin
   | some a =>
    rw[hc] at hih e2;rw[HV,Option.isNone_some] at hih;rw[e2] at e1;have e:A.map (Zbb false)++[D.agg [iD l[i].n,Zao false a]]=(A++[Tree.mk l[i].n a]).map (Zbb false):=(by rw[Ho];simp only[Hm,HH,Zdu];rfl);refine VA ?_;refine Zab [] (hA:=hih) (hr:=?_);refine VA ?_;rw[e,Hh];exact Zad (i+1,A++[Tree.mk l[i].n a],(usF m l[i] v).2) (a:=⟨by omega,e1,g2,g4.trans h4⟩) (b:=by dsimp only;omega)
  ·rw[Ha o1] at e2 g3;by_cases o2:l[i].op=2
   ·rw[Hb o2] at e2 g3;have hn0:¬ (l[i].n < 0∨(v.length:Int)≤l[i].n):=(fun h=>by rw[g3,Hb h] at g1;cases g1);have hnk:l[i].n=((l[i].n.toNat:Nat):Int):=(by omega);have hnl:l[i].n.toNat < Ab.length:=(by omega);have Ah:Ab.getD l[i].n.toNat []=Ab[l[i].n.toNat]:=(by rw[Hf,Hj hnl];rfl);have hkc:=hk4 _ (He hnl);have hkl:=Zco Ab[l[i].n.toNat];rw[Ah] at e2;rw[e2] at e1;have e:A.map (Zbb false)++Ab[l[i].n.toNat].map (Zbb false)=(A++Ab[l[i].n.toNat]).map (Zbb false):=(by rw[Ho]);refine VA ?_;rw[e,Hh];exact Zad (i+1,A++Ab[l[i].n.toNat],(usF m l[i] v).2) (a:=⟨by omega,e1,g2,g4.trans h4⟩) (b:=by dsimp only;omega)
   ·rw[Ha o2] at e2 g3;by_cases o3:l[i].op=3
    ·rw[Hb o3] at e2;rw[e2] at e1;have e:(A++[Tree.mk (-1) []]).map (Zbb false)=A.map (Zbb false)++[D.agg [iD (-1),Zao false []]]:=(by rw[Ho];simp only[Hm,HH,Zdu];rfl);refine VA ?_;exact Zad (i+1,A++[Tree.mk (-1) []],(usF m l[i] v).2) (a:=⟨by omega,e1,g2,g4.trans h4⟩) (b:=by dsimp only;omega)
    ·rw[Ha o3] at e2;by_cases o4:l[i].op=4
     ·rw[Hb o4] at e2 g3;rw[Hb (Or.inr o4)] at e4;have hn0:¬ (l[i].n < 0∨(v.length:Int)≤l[i].n):=(fun h=>by rw[g3,Hb h] at g1;cases g1);have g5:(usL m l[i].l (bump v l[i].n)).1=true:=(by rw[g3,Ha hn0] at g1;exact g1);have hnk:l[i].n=((l[i].n.toNat:Nat):Int):=(by omega);have hnl:l[i].n.toNat < Ab.length:=(by omega);have Ah:Ab.getD l[i].n.toNat []=Ab[l[i].n.toNat]:=(by rw[Hf,Hj hnl];rfl);have hkc:=hk4 _ (He hnl);rw[Ah] at e2;have hih:=ih (t:=t) (l:=l[i].l) (Ab:=Ab) (m:=m) (u:=bump v l[i].n) (by omega) (by omega) g5 (by rw[Zdp];exact h4) hk4 hkN;cases hc:mkL Ab l[i].l with
      | none =>
       rw[hc] at hih e2;rw[JK,JQ] at hih;rw[e2] at e1;rw[hmany e1,JK,JQ];have hf:=ZsW (l:=Ab[l[i].n.toNat]) (w:=[]) hkc (by simp[cnts]);have hfc:=Zpq (l:=Ab[l[i].n.toNat]) (w:=[]) hkc (by simp[cnts]);have hfl:=Zco (fitR (ZaW [] Ab[l[i].n.toNat]));have hfr:cnts (fitR (ZaW [] Ab[l[i].n.toNat]))≤400:=ZsV _;have hft:=ZkF (l:=ZaW [] Ab[l[i].n.toNat]) (b:=true) (by omega);rw[Bool.true_or] at hft;refine VA ?_;refine Zab [] (hA:=hih) (hr:=?_);refine VA ?_;refine Zab [] (hA:=hf) (hr:=?_);refine VA ?_;refine Zab [] (hA:=hft) (hr:=?_);refine VA ?_;exact fin
      | some a =>
       rw[hc] at hih e2;rw[HV,Option.isNone_some] at hih;have hac:=(ZjE hc).2;have hf:=ZsW (l:=Ab[l[i].n.toNat]) (w:=a) hkc hac;have hfc:=Zpq (l:=Ab[l[i].n.toNat]) (w:=a) hkc hac;have hft:=ZkF (l:=ZaW a Ab[l[i].n.toNat]) (b:=false) (by omega);rw[GD] at hft;have hfl:=Zco (fitR (ZaW a Ab[l[i].n.toNat]));have hfr:cnts (fitR (ZaW a Ab[l[i].n.toNat]))≤400:=ZsV _;by_cases hbig:400 < cnts (ZaW a Ab[l[i].n.toNat])
       ·rw[Ht hbig] at hft;have e3':(some a).bind (fun a=>ZbU (ZaW a Ab[l[i].n.toNat]))=none:=(by show ZbU _=none;unfold ZbU;rw[Ha (by omega)]);rw[e3'] at e2;rw[e2] at e1;rw[hmany e1,JK,JQ];refine VA ?_;refine Zab [] (hA:=hih) (hr:=?_);refine VA ?_;refine Zab [] (hA:=hf) (hr:=?_);refine VA ?_;refine Zab [] (hA:=hft) (hr:=?_);refine VA ?_;exact fin
       ·rw[HA hbig] at hft;have e3':(some a).bind (fun a=>ZbU (ZaW a Ab[l[i].n.toNat]))=some (fitR (ZaW a Ab[l[i].n.toNat])):=(by show ZbU _=_;unfold ZbU fitR;rw[Hb (by omega),Hb (by omega)]);rw[e3'] at e2;rw[e2] at e1;generalize fitR (ZaW a Ab[l[i].n.toNat])=z at *;have e:A.map (Zbb false)++z.map (Zbb false)=(A++z).map (Zbb false):=(by rw[Ho]);refine VA ?_;refine Zab [] (hA:=hih) (hr:=?_);refine VA ?_;refine Zab [] (hA:=hf) (hr:=?_);refine VA ?_;refine Zab [] (hA:=hft) (hr:=?_);refine VA ?_;rw[e,Hh];exact Zad (i+1,A++z,(usF m l[i] v).2) (a:=⟨by omega,e1,g2,g4.trans h4⟩) (b:=by dsimp only;omega)
     ·rw[Ha o4] at e2;rw[e2] at e1;have e1':mkA Ab (l.take (i+1))=some A:=(by rw[e1];show some (A++[])=some A;rw[Hu]);refine VA ?_;exact Zad (i+1,A,(usF m l[i] v).2) (a:=⟨by omega,e1',g2,g4.trans h4⟩) (b:=by dsimp only;omega)
 ·have e0:l.take i=l:=H5 (by omega);rw[e0] at h2;have hA:=Hq (Zco A) (ZnD hk4 h2);have hAc:=ZnD hk4 h2;have hm:mkL Ab l=ZbU A:=by rw[mkL,h2];rfl
  have r1:(ZbU A).getD []=fitR A:=by unfold ZbU fitR;split <;> rfl
  have r2:(ZbU A).isNone=decide (400 < cnts A):=by
   unfold ZbU;split
   ·rw[HA (by omega)];rfl
   ·rw[Ht (by omega)];rfl
  rw[hm,r1,r2];refine VA ?_;refine ZaV [] (hA:=ZkF (l:=A) (b:=false)) (hr:=?_);rw[GD];refine VA ?_;exact fin
def ZBD (m:Int) (s:Step):Prop:=s.frags.length=s.g.Aa.length∧∀ (i:Nat) (h:i < s.frags.length) (h2:i < s.g.Aa.length),cpL s.frags[i]≤60∧(usL m s.frags[i] (List.replicate (Ab s.g.Aa[i].right).length 0)).1=true
theorem Zxc {t u:Bool} {m:Int} {s:Step} (hs:s.fit) (hok:ZBD m s):∀ (x:Tree) (v:Int),fits s.g x v=true→cnt x≤400→∀ b:Bool,
  Af Tryz.prog 81 [.ptr 1000 0,.d (ZdB t s),.d (ZbD u x)] (mkH b) (.d (Zao false (if b then [] else (valT s x).getD []))) (mkH (b || (valT s x).isNone)):=by
 refine Tree.ind fun x ih v hf hx b=>?_
 refine Af.intro (n:=38) Tryz.func81 (hw:=?_);simp only[Zal];obtain⟨r,hr,e1,e2,e3,e4,e5⟩:=ZaR hf;have hkl:=Zez (Hq hx (show 400≤100000000 by decide));have hfl:=hs.frags;have hgl:=hs.g.Aa;have hvt:=Zxg s x;refine VA ?_;refine ZbB 7 900 37 1 rfl rfl rfl ?_;refine Zak (X:=Nat×List (List Tree)×Bool) (fun y=>y.1≤x.Ab.length∧y.2.1.length=y.1∧y.2.2=(b || (valL s (x.Ab.take y.1)).isNone)∧(y.2.2=false→valL s (x.Ab.take y.1)=some y.2.1)) (fun y=>[(13,I y.1),(12,I x.Ab.length),(11,.d (Zao u x.Ab)),(7,.own 900 y.2.1.length),(0,.ptr 1000 0),(4,.ptr 4 0),(5,.ptr 5 0)])
  (fun y=>(900,.row 37 1 (y.2.1.map (Zao false)))::(4,Zce t s)::(5,.box 56 [.d (iD x.rule),.d (Zao u x.Ab)])::mkH y.2.2) (fun y=>x.Ab.length - y.1) (0,[],b) ⟨Hi _,rfl,by simp[valL],fun _=>by simp[valL]⟩ ?_
 rintro⟨i,K,c⟩ ⟨h1,h2,h3,h4⟩;dsimp only at h1 h2 h3 h4 ⊢;by_cases hlt:i < x.Ab.length
 ·have hki:=Zbt e4 hlt (show i < (Ab s.g.Aa[r].right).length by omega);have hih:=ih x.Ab[i] (He hlt) _ hki (Zpu hx hlt).1 c;have hvl:=Zxh (s:=s) hlt;have hn:(c || (valT s x.Ab[i]).isNone)=(b || (valL s (x.Ab.take (i+1))).isNone):=by
   rw[hvl];cases c with
   | true =>
    cases b with
    | true=>rfl
    | false =>
     cases hq:valL s (x.Ab.take i) with
     | none=>rfl
     | some a=>rw[hq] at h3;cases h3
   | false =>
    rw[h4 rfl];cases b with
    | true=>cases h3
    | false=>cases valT s x.Ab[i] <;> rfl
  have hs2:(c || (valT s x.Ab[i]).isNone)=false→valL s (x.Ab.take (i+1))=some (K++[if c then [] else (valT s x.Ab[i]).getD []]):=by
   intro h;cases c with
   | true=>cases h
   | false =>
    rw[hvl,h4 rfl];cases hq:valT s x.Ab[i] with
    | none=>rw[hq] at h;cases h
    | some a=>rfl
  generalize (c || (valT s x.Ab[i]).isNone)=c' at *;generalize (if c then [] else (valT s x.Ab[i]).getD [])=R at *;have e:K.map (Zao false)++[Zao false R]=(K++[R]).map (Zao false):=by rw[Ho];rfl
  refine VA ?_;refine Zab [] (hA:=hih) (hr:=?_);refine VA ?_;rw[e,Hh];exact Zad (i+1,K++[R],c') (a:=⟨by omega,by simp[h2],hn,hs2⟩) (b:=by dsimp only;omega)
 ·have e0:x.Ab.take i=x.Ab:=H5 (by omega);rw[e0] at h3 h4;cases c with
  | true =>
   have r1:(b || (valT s x).isNone)=true:=by
    cases b with
    | true=>rfl
    | false =>
     rw[hvt];cases hq:valL s x.Ab with
     | none=>rfl
     | some a=>rw[hq] at h3;cases h3
   have r2:(if b then [] else (valT s x).getD [])=([]:List Tree):=by
    cases b with
    | true=>rfl
    | false =>
     rw[hvt];cases hq:valL s x.Ab with
     | none=>rfl
     | some a=>rw[hq] at h3;cases h3
   rw[r1,r2];refine VA ?_;exact fin
  | false =>
   have hb:b=false:=by cases b with|false=>rfl|true=>cases h3
   subst hb;have hK:=h4 rfl;rw[hK] at hvt;have hrf:r < s.frags.length:=by rw[hok.1];exact hr
   have hgd:s.frags.getD x.rule.toNat []=s.frags[r]:=by rw[e1,Hn,Hf,Hj hrf];rfl
   rw[hgd] at hvt;obtain⟨k1,k2⟩:=hok.2 r hrf hr;have hap:=Zxb _ (t:=t) (l:=s.frags[r]) (Ab:=K) (m:=m) (u:=List.replicate (Ab s.g.Aa[r].right).length 0) (Gj _) k1 k2 (by rw[HM];omega) (ZsX hK).2 (by omega);rw[show (if false=true then [] else (valT s x).getD [])=(mkL K s.frags[r]).getD [] by rw[hvt];rfl,show (false || (valT s x).isNone)=(mkL K s.frags[r]).isNone by rw[hvt];rfl];refine VA ?_;refine ZaV [] (hA:=hap) (hr:=?_);refine VA ?_;exact fin
theorem ZgV {old:Ac}:∀ {ls:List (List Ad)} {rs:List Rule} {i:Nat},(Zee old ls rs i).code=0→∀ (j:Nat) (h1:j < ls.length) (h2:j < rs.length),Zax old ls[j] rs[j].right=0
 | [],_,_,_,j,h1,_=>by simp at h1
 | _::_,[],_,_,j,_,h2=>by simp at h2
 | l::ls,r::rs,i,h,j,h1,h2=>by
  rw[Zee] at h;by_cases h0:Zax old l r.right=0
  ·rw[Hb h0] at h
   match j with
   | 0=>exact h0
   | j+1=>exact ZgV h j (by simpa using h1) (by simpa using h2)
  ·rw[Ha h0] at h;exact absurd h h0
theorem Zb3 {old:Ac} {s:Step} (h:(Zap old s).code=0):old.ok∧s.g.ok∧ZBD old.Aa.length s:=by
 rw[Zap] at h;by_cases h0:(Zac old).code=0
 ·rw[Hb h0] at h;by_cases h1:(Zac s.g).code=0
  ·rw[Hb h1] at h;by_cases h2:s.empty.length≤200
   ·rw[Hb h2] at h;by_cases h3:s.empty.any (ZbZ old)=true
    ·rw[Hb h3] at h;cases h
    ·rw[Ha h3] at h;by_cases h4:s.frags.length=s.g.Aa.length
     ·rw[Hb h4] at h;refine⟨Zbe h0,Zbe h1,h4,fun i hi hi2=>?_⟩;have:=ZgV h i hi hi2;rw[Zax] at this;by_cases c1:60 < cpL s.frags[i]
      ·rw[Hb c1] at this;cases this
      ·rw[Ha c1] at this;by_cases c2:ZhX old s.frags[i] s.g.Aa[i].right=true
       ·unfold ZhX at c2;simp only[Hr] at c2;exact⟨by omega,c2.1⟩
       ·rw[Ha c2] at this;cases this
     ·rw[Ha h4] at h;cases h
   ·rw[Ha h2] at h;cases h
  ·rw[Ha h1] at h;exact absurd h h1
 ·rw[Ha h0] at h;exact absurd h h0
theorem Zz8 {t1 t2 t3:Bool} {old:Ac} {s:Step} {x:Tree} (ho:old.fit) (hs:s.fit) (hx:cnt x≤100000000) :
  Af Tryz.prog 46 [.d (Zbo t1 old),.d (ZdB t2 s),.d (ZbD t3 x)] [] (.tup [.d (ZbD false (Zb7 old s x).1),.d (Zbu (Zb7 old s x).2)]) []:=by
 refine Af.intro (n:=65) Tryz.func46 (hw:=?_);simp only[Zal];have hol:=ho.Aa;have hgl:=hs.g.Aa;have hor:=ho.right;have hgr:=hs.g.right;refine VA ?_;refine Zab [] (hA:=ZhD ho hs) (hr:=?_);by_cases h0:(Zap old s).code=0
 rotate_left
 ·rw[show Zb7 old s x=(ZcF,Zap old s) by unfold Zb7;rw[Ha h0]];refine VA ?_;exact fin2
 obtain⟨hg,hsg,hok⟩:=Zb3 h0;refine VA ?_;refine Zab [] (hA:=Zfs hgl hgr hx) (hr:=?_);by_cases h1:(ZaA s.g x s.g.start).code=0
 rotate_left
 ·rw[show Zb7 old s x=(ZcF,ZaA s.g x s.g.start) by unfold Zb7;rw[Hb h0,Ha h1]];refine VA ?_;exact fin2
 obtain⟨_,k1,k2,k3⟩:=ZgH h1;have hv:=Zxc (t:=t2) (u:=t3) hs hok x _ k2 k1 false;have hc0:∃ z,valT s x=z:=⟨_,rfl⟩
 obtain⟨z,hc⟩:=hc0;cases z with
 | none =>
  rw[hc] at hv;rw[show Zb7 old s x=(ZcF,⟨6, -1⟩) by unfold Zb7;rw[Hb h0,Hb h1,hc]];refine VA ?_;refine Zab [(1000,33)] (hA:=hv) (hr:=?_);refine VA ?_;exact fin2
 | some l =>
  rw[hc] at hv;have hlc:=ZnF hc;have hll:=Zco l
  match l,hc,hlc,hll,hv with
  | [],hc,hlc,hll,hv =>
   rw[show Zb7 old s x=(ZcF,⟨18, -1⟩) by unfold Zb7;rw[Hb h0,Hb h1,hc]];refine VA ?_;refine Zab [(1000,33)] (hA:=hv) (hr:=?_);refine VA ?_;exact fin2
  | [y],hc,hlc,hll,hv =>
   have hyc:cnt y≤400:=by simp only[cnts] at hlc;omega
   have hv:Af Tryz.prog 81 [.ptr 1000 0,.d (ZdB t2 s),.d (ZbD t3 x)] (mkH false) (.d (.sl false 2 [ZbD false y])) (mkH false):=by
    have e:[ZbD false y]=[y].map (Zbb false):=(by simp[Zdu]);rw[e];exact hv
   refine VA ?_;refine Zab [(1000,33)] (hA:=hv) (hr:=?_);refine VA ?_;refine Zab [] (hA:=Zfs (t:=t1) (u:=false) (x:=y) hol hor (Hq hyc (by decide))) (hr:=?_);by_cases h2:(ZaA old y old.start).code=0
   ·rw[show Zb7 old s x=(y,⟨0,0⟩) by unfold Zb7;rw[Hb h0,Hb h1,hc];show (if _ then _ else _)=_;rw[Hb h2]];refine VA ?_;refine Zab [] (hA:=ZkH (t:=false) y (Hq hyc (by decide))) (hr:=?_);refine VA ?_;exact fin2
   ·rw[show Zb7 old s x=(ZcF,⟨18, -1⟩) by unfold Zb7;rw[Hb h0,Hb h1,hc];show (if _ then _ else _)=_;rw[Ha h2]];refine VA ?_;exact fin2
  | y::y2::l,hc,hlc,hll,hv =>
   rw[show Zb7 old s x=(ZcF,⟨18, -1⟩) by unfold Zb7;rw[Hb h0,Hb h1,hc]];refine VA ?_;refine Zab [(1000,33)] (hA:=hv) (hr:=?_);refine VA ?_;exact fin2
end Go.Proofs.YtbpmepgnjanhnaaGreat
