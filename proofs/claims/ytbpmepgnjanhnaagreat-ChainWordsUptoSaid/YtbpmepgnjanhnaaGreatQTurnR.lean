import Derived.Test.YtbpmepgnjanhnaaGreatQFactorR
set_option linter.unusedVariables false
set_option linter.unusedSimpArgs false
set_option linter.unusedSectionVars false
set_option maxHeartbeats 8000000
set_option maxRecDepth 100000
namespace Go.Proofs.YtbpmepgnjanhnaaGreat
open Go.RowKit
theorem ZtG {u:List Int} {n:Int} (h0:0≤n) (h1:n < (u.length:Int)) (j:Nat):(bump u n).getD j 0=u.getD j 0+(if (j:Int)=n then 1 else 0):=by
 unfold bump;rw[Hf,Jx];by_cases e:n.toNat=j
 ·rw[Hb e,Hb (by omega),Hb (by omega)];subst e;rfl
 ·rw[Ha e,Ha (by omega),←Hf];simp
theorem Zh3 (j n:Int) (l:List Int):((n::l).count j:Int)=(if j=n then 1 else 0)+(l.count j:Int):=by
 rw[List.count_cons];by_cases e:n=j
 ·subst e;simp;omega
 ·have:¬ j=n:=fun q=>e q.symm
  simp[e,this]
mutual
theorem ZD6 {m:Int}:∀ (x:Ad) (u:List Int),wfF m x→(∀ n∈kdF x,0≤n∧n < (u.length:Int))→(usF m x u).1=true∧∀ j:Nat,(usF m x u).2.getD j 0=u.getD j 0+((kdF x).count (j:Int):Int)
 | .mk o n l,u,h,hk=>by
  rw[wfF] at h;rw[usF];rcases h with ⟨rfl,h1,h2,hl⟩|⟨rfl,rfl⟩|⟨rfl,h1,rfl⟩|⟨rfl,hl⟩
  ·have e:kdF (.mk 1 n l)=kdL l:=by rw[kdF,Hb rfl]
   rw[e] at hk ⊢;rw[Hb rfl,Ha (by omega)];exact ZtH l u hl hk
  ·rw[ZkB] at hk ⊢;have:=hk n (by simp);rw[Ha (by decide),Hb rfl,Ha (by omega)];refine⟨rfl,fun j=>?_⟩;rw[ZtG this.1 this.2,Zh3];simp
  ·have e:kdF (.mk 3 n [])=[]:=by rw[kdF,Ha (by decide),Ha (by decide),Ha (by decide)]
   rw[e,Ha (by decide),Ha (by decide),Ha (by decide),Hb rfl];exact⟨rfl,fun j=>by simp⟩
  ·have e:kdF (.mk 4 n l)=n::kdL l:=by rw[kdF,Ha (by decide),Ha (by decide),Hb rfl]
   rw[e] at hk ⊢;have hn:=hk n (by simp);rw[Ha (by decide),Ha (by decide),Hb rfl,Ha (by omega)];obtain⟨k1,k2⟩:=ZtH l (bump u n) hl (fun x hx=>by rw[Zdp];exact hk x (by simp[hx]));refine⟨k1,fun j=>?_⟩;rw[k2 j,ZtG hn.1 hn.2,Zh3];omega
theorem ZtH {m:Int}:∀ (l:List Ad) (u:List Int),wfL m l→(∀ n∈kdL l,0≤n∧n < (u.length:Int))→(usL m l u).1=true∧∀ j:Nat,(usL m l u).2.getD j 0=u.getD j 0+((kdL l).count (j:Int):Int)
 | [],u,_,_=>⟨rfl,fun j=>by simp[usL,kdL]⟩
 | x::r,u,h,hk=>by
  rw[kdL] at hk;obtain⟨a1,a2⟩:=ZD6 x u h.1 fun n hn=>hk n (by simp[hn])
  obtain⟨b1,b2⟩:=ZtH r (usF m x u).2 h.2 fun n hn=>by rw[ZrS];exact hk n (by simp[hn])
  rw[usL,a1];refine⟨b1,fun j=>?_⟩;show (usL m r (usF m x u).2).2.getD j 0=_;rw[b2 j,a2 j,kdL,List.count_append];omega
end
theorem Zqm:∀ (k j:Nat),j < k→(upTo k).count (j:Int)=1
 | 0,j,h=>by omega
 | k+1,j,h=>by
  rw[Zpn,List.count_append];by_cases e:j=k
  ·subst e;have:(upTo j).count (j:Int)=0:=List.count_eq_zero.2 fun q=>by have:=upTo_mem.1 q;omega
   rw[this];simp
  ·rw[Zqm k j (by omega),List.count_cons_of_ne (by omega)];simp
theorem ZD7 {old:Ac} {l:List Ad} {right:List Int} (h:wfL old.Aa.length l) (hk:(kdL l).Perm (upTo (Ab right).length)) (hc:Aj l≤60):Zax old l right=0:=by
 have hb:∀ n∈kdL l,0≤n∧n < ((List.replicate (Ab right).length (0:Int)).length:Int):=fun n hn=>by
  rw[HM];exact upTo_mem.1 (hk.mem_iff.1 hn)
 obtain⟨k1,k2⟩:=ZtH (m:=old.Aa.length) l _ h hb;have hcp:=Zyi l;rw[Zax,Ha (by omega),Hb];unfold ZhX;rw[k1,H0,HQ];intro x hx;obtain⟨j,hj,rfl⟩:=List.mem_iff_getElem.1 hx;have hlen:=Zk8 old.Aa.length l (List.replicate (Ab right).length 0);rw[HM] at hlen;have:=k2 j;rw[Hf,Hj hj,HV] at this;rw[this,hk.count_eq,Hf,JE,Hb (by omega),HV];have hcount:(upTo (Ab right).length).count (j:Int)=1:=by
  exact Zqm _ _ (by omega)
 rw[hcount];rfl
structure TOk (g:Ac) (B C N:Nat) (old:Bool) (x:Ae):Prop where
 wf:wfL g.Aa.length x.l
 kd:(kdL x.l).Perm (upTo (Ab x.right).length)
 sz:Aj x.l≤B
 rl:x.right.length≤C
 ne:old=true→x.right≠[]
 nz:old=true→0≤hdI x.right→nzL x.l
 sym:∀ s∈x.right, -g.terms≤s∧s < (N:Int)
theorem TOk.mono {g:Ac} {B C N B' C' N':Nat} {old:Bool} {x:Ae} (h:TOk g B C N old x) (h1:B≤B') (h2:C≤C') (h3:N≤N'):TOk g B' C' N' old x :=
 ⟨h.wf,h.kd,Hq h.sz h1,Hq h.rl h2,h.ne,h.nz,fun s hs=>by have:=h.sym s hs;omega⟩
theorem TOk.small {g:Ac} {B C N:Nat} {old:Bool} {x:Ae} (h:TOk g B C N old x) (B' C':Nat) (h1:Aj x.l≤B') (h2:x.right.length≤C'):TOk g B' C' N old x:=⟨h.wf,h.kd,h1,h2,h.ne,h.nz,h.sym⟩
theorem TOk.nb {g:Ac} (hg:g.ok) {B C N:Nat} {old:Bool} {x:Ae} (h:TOk g B C N old x) (hC:C≤1000000):NbL 1000000000 x.l:=by
 have:=hg.Aa;refine ZsP (m:=g.Aa.length) (by omega) (by omega) _ h.wf fun n hn=>?_
 have h1:=upTo_mem.1 (h.kd.mem_iff.1 hn);have h2:=Zbi x.right;have h3:=h.rl;omega
theorem TOk.kd0 {g:Ac} {B C N:Nat} {old:Bool} {x:Ae} (h:TOk g B C N old x):∀ n∈kdL x.l,0≤n:=fun n hn=>(upTo_mem.1 (h.kd.mem_iff.1 hn)).1
theorem ZfE {l:List Int} {u:Int} (hne:l≠[]) (h:hdI l=u):l=u::l.tail:=by
 cases l with
 | nil=>exact absurd rfl hne
 | cons a l=>simp only[hdI,List.headD_cons] at h;rw[h];rfl
theorem ZtI {g:Ac} {B C N B' C':Nat} {x y:Ae} {u:Int} (hx:TOk g B C N true x) (hy:TOk g B' C' N true y) (hu:hdI x.right=u) (h0:0≤u):TOk g (B+B') (C+C') N true (mixW x y):=by
 have hne:=hx.ne rfl;have hc:=ZfE hne hu;have hz:=hx.nz rfl (by omega);have hkx:(Ab x.right).length=(Ab x.right.tail).length+1:=by
  conv=>lhs;rw[hc]
  rw[show Ab (u::x.right.tail)=u::Ab x.right.tail from Gp (by simpa using h0)];rfl
 have hkm:(Ab (mixW x y).right).length=(Ab y.right).length+(Ab x.right.tail).length:=by
  show (Ab (y.right++x.right.tail)).length=_;simp[Ab]
 have hl:(mixW x y).l=ptL 0 y.l (((Ab y.right).length:Int) - 1) x.l:=by
  show ZeJ x.l 0 y.l _=_;unfold ZeJ;rw[ZbP]
 have hxk:=hx.kd;rw[hkx] at hxk;refine⟨?_,?_,?_,?_,fun _=>?_,fun _ hh=>?_,fun s hs=>?_⟩
 ·rw[hl];exact ZkD hy.wf x.l hx.wf hz
 ·rw[hl,ZkC x.l hx.wf hz,hkm];exact ZsQ hxk hy.kd
 ·rw[hl];have h1:=ZiD (b:=((Ab y.right).length:Int) - 1) (inn:=y.l) x.l hx.wf hz;have h2:=Zmp _ _ hx.kd;have h3:(kdL x.l).count 0 * Aj y.l≤1 * Aj y.l:=Gh _ h2;have:=hx.sz;have:=hy.sz;omega
 ·show (y.right++x.right.tail).length≤_;have:=hx.rl;have:=hy.rl;rw[Hk,List.length_tail];omega
 ·show y.right++x.right.tail≠[];have:=hy.ne rfl;intro q;exact this (List.append_eq_nil_iff.1 q).1
 ·have hyn:=hy.ne rfl;have hh2:hdI (mixW x y).right=hdI y.right:=by
   show hdI (y.right++x.right.tail)=_;cases hq:y.right with
   | nil=>exact absurd hq hyn
   | cons a r=>rfl
  rw[hh2] at hh;rw[hl];have hk1:1≤(Ab y.right).length:=by
   cases hq:y.right with
   | nil=>exact absurd hq hyn
   | cons a r =>
    rw[hq] at hh;simp only[hdI,List.headD_cons] at hh;rw[show Ab (a::r)=a::Ab r from Gp (by simpa using hh)];simp
  exact ZnB (hy.nz rfl hh) (by omega) x.l hx.wf hz hx.kd0
 ·rcases List.mem_append.1 (show s∈y.right++x.right.tail from hs) with h|h
  ·exact hy.sym s h
  ·exact hx.sym s (JT h)
theorem ZyA {g:Ac} (hg:g.ok) {B C N:Nat} {old:Bool} {x:Ae} (hx:TOk g B C N old x):∀ y∈ZbT (N:Int) x,TOk g (B+1) (C+1) (N+1) old y:=fun y hy=>by
 simp only[ZbT,Gs,GA,or_false] at hy;rcases hy with rfl|rfl
 ·exact hx.mono (by omega) (by omega) (by omega)
 ·have ht:=hg.terms0;have hk:(Ab (x.right++[(N:Int)])).length=(Ab x.right).length+1:=by
   simp[Ab]
  refine⟨⟨.inr (.inr (.inr ⟨rfl,hx.wf⟩)),trivial⟩,?_,?_,?_,fun _=>by simp,fun ho hh=>?_,fun s hs=>?_⟩
  ·rw[hk,Zpn];have e:kdL [Ad.mk 4 ((Ab x.right).length:Int) x.l]=((Ab x.right).length:Int)::kdL x.l:=by
    rw[kdL,kdF,Ha (by decide),Ha (by decide),Hb rfl,kdL,Hu]
   rw[e];exact (hx.kd.cons _).trans (List.perm_append_singleton _ _).symm
  ·have:=hx.sz;simp only[Aj,fsz];omega
  ·have:=hx.rl;show (x.right++[(N:Int)]).length≤_;rw[Hk,HZ];omega
  ·have hne:=hx.ne ho;have hh2:hdI (x.right++[(N:Int)])=hdI x.right:=by
    cases hq:x.right with
    | nil=>exact absurd hq hne
    | cons a r=>rfl
   rw[hh2] at hh;refine⟨⟨fun q=>?_,hx.nz ho hh⟩,trivial⟩;have hk1:1≤(Ab x.right).length:=by
    cases hq:x.right with
    | nil=>exact absurd hq hne
    | cons a r =>
     rw[hq] at hh;simp only[hdI,List.headD_cons] at hh;rw[show Ab (a::r)=a::Ab r from Gp (by simpa using hh)];simp
   have:=q.2;omega
  ·rcases List.mem_append.1 (show s∈x.right++[(N:Int)] from hs) with h|h
   ·have:=hx.sym s h;omega
   ·rw[List.mem_singleton.1 h];omega
def ZbA (x:Ae):Ae:=⟨x.right.tail,ZeJ x.l 0 [gapF] 0⟩
theorem Zf8 {g:Ac} {B C N:Nat} {x:Ae} (hx:TOk g B C N true x) (h0:0≤hdI x.right):TOk g (B+1) C N false (ZbA x):=by
 have hne:=hx.ne rfl;have hc:=ZfE hne rfl;have hz:=hx.nz rfl h0;have hkx:(Ab x.right).length=(Ab x.right.tail).length+1:=by
  conv=>lhs;rw[hc]
  rw[show Ab (hdI x.right::x.right.tail)=hdI x.right::Ab x.right.tail from Gp (by simpa using h0)];rfl
 have hl:(ZbA x).l=ptL 0 [gapF] (-1) x.l:=by
  show ZeJ x.l 0 [gapF] 0=_;unfold ZeJ;rw[ZbP];rfl
 have hxk:=hx.kd;rw[hkx] at hxk;refine⟨?_,?_,?_,?_,fun q=>(by cases q),fun q=>(by cases q),fun s hs=>hx.sym s (JT hs)⟩
 ·rw[hl];exact ZkD (inn:=[gapF]) (show wfL _ [gapF] from ⟨.inr (.inr (.inl ⟨rfl,rfl,rfl⟩)),trivial⟩) x.l hx.wf hz
 ·rw[hl,ZkC x.l hx.wf hz];have:=ZsQ (k:=(Ab x.right.tail).length) (ki:=0) (inn:=[]) hxk (List.Perm.refl _);simp only[HD] at this;exact this
 ·rw[hl];have h1:=ZiD (b := -1) (inn:=[gapF]) x.l hx.wf hz;have h2:=Zmp _ _ hx.kd;have h3:(kdL x.l).count 0 * Aj [gapF]≤1 * Aj [gapF]:=Gh _ h2;have h4:Aj [gapF]=1:=rfl;have:=hx.sz;omega
 ·have:=hx.rl;show x.right.tail.length≤_;rw[List.length_tail];omega
structure TInv (g:Ac) (all:List (List Ae)):Prop where
 vars:g.vars.toNat≤all.length
 len:all.length≤64
 ok:∀ u,∀ w∈all.getD u [],TOk g 60 10 all.length (decide (u < g.vars.toNat)) w
 wide:∀ l∈all,l.length≤160
theorem ZmV {g:Ac} {B N:Nat} {x:Ae} {u:Int} (hx:TOk g B 10 N true x) (hu:hdI x.right=u) (h0:0≤u) {Q:Ae→Prop} (hQ:∀ y,TOk g 60 10 N true y→(mixW x y).right.length≤10→Q (mixW x y)):∀ {ys out out':List Ae},(∀ y∈ys,TOk g 60 10 N true y)→(∀ w∈out,Q w)→ZbE x ys out=some out'→(∀ w∈out',Q w)∧(out.length≤160→out'.length≤160)
 | [],out,out',_,ho,h=>by rw[ZbE] at h;cases h;exact⟨ho,fun q=>q⟩
 | y::ys,out,out',hy,ho,h=>by
  rw[ZbE] at h;split at h
  ·cases h
  ·rename_i hn;simp only[not_or,Nat.not_lt] at hn;obtain⟨k1,k2⟩:=ZmV hx hu h0 hQ (fun z hz=>hy z (by simp[hz])) (fun w hw=>by
    rcases List.mem_append.1 hw with hw|hw
    ·exact ho w hw
    ·rw[List.mem_singleton.1 hw];exact hQ y (hy y (by simp)) hn.1) h
   exact⟨k1,fun _=>k2 hn.2⟩
theorem Zh4 {g:Ac} {B N:Nat} {A:List Ae} {u:Int} (h0:0≤u) (hA:∀ y∈A,TOk g 60 10 N true y):∀ {l out l':List Ae},(∀ w∈l,TOk g B 10 N true w)→(∀ w∈out,TOk g (B+60) 10 N true w)→ZbJ A u l out=some l'→(∀ w∈l',TOk g (B+60) 10 N true w)∧l'.length≤160
 | [],out,l',_,ho,h=>by
  rw[ZbJ] at h;split at h
  ·cases h
  ·cases h;exact⟨ho,by omega⟩
 | x::l,out,l',hl,ho,h=>by
  have hx:=hl x (by simp);rw[ZbJ] at h;split at h
  ·exact Zh4 h0 hA (fun w hw=>hl w (by simp[hw])) (fun w hw=>by
    rcases List.mem_append.1 hw with hw|hw
    ·exact ho w hw
    ·rw[List.mem_singleton.1 hw];exact hx.mono (by omega) (Hg _) (Hg _)) h
  ·rename_i hu;have hu:hdI x.right=u:=HN fun q=>hu q
   cases hc:ZbE x A out with
   | none=>rw[hc] at h;cases h
   | some out1 =>
    rw[hc] at h;obtain⟨k1,_⟩:=ZmV hx hu h0 (Q:=fun w=>TOk g (B+60) 10 N true w) (fun y hy hr=>(ZtI hx hy hu h0).small _ _ (ZtI hx hy hu h0).sz hr) hA ho hc;exact Zh4 h0 hA (fun w hw=>hl w (by simp[hw])) k1 h
theorem Zli {g:Ac} {all:List (List Ae)} (hI:TInv g all):∀ (n u:Nat) {B:Nat} {l l':List Ae},u+n≤g.vars.toNat→(∀ w∈l,TOk g B 10 all.length true w)→l.length≤160→Zb9 all u n l=some l'→(∀ w∈l',TOk g (B+60 * n) 10 all.length true w)∧l'.length≤160
 | 0,u,B,l,l',_,hl,h160,h=>by
  rw[Zb9] at h;cases h;exact⟨fun w hw=>(hl w hw).mono (by omega) (Hg _) (Hg _),h160⟩
 | n+1,u,B,l,l',hn,hl,h160,h=>by
  rw[Zb9] at h;cases hc:ZbJ (all.getD u []) u l [] with
  | none=>rw[hc] at h;cases h
  | some l1 =>
   rw[hc] at h;obtain⟨k1,k2⟩:=Zh4 (by omega) (fun y hy=>by
    have:=hI.ok u y hy;rw[Ht (show u < g.vars.toNat by omega)] at this;exact this) hl (fun w hw=>by cases hw) hc
   obtain⟨j1,j2⟩:=Zli hI n (u+1) (by omega) k1 k2 h;exact⟨fun w hw=>(j1 w hw).mono (by omega) (Hg _) (Hg _),j2⟩
theorem fitsT_iff {all:List (List Ae)}:Zju all=true↔(∀ l∈all,∀ w∈l,w.right.length≤10∧Aj w.l≤60)∧(all.map List.length).sum≤160∧all.length≤64:=by
 unfold Zju;simp only[Hr,HQ,HY,and_assoc]
theorem ZD8 {all:List (List Ae)} {l:List Ae} (h:l∈all):l.length≤(all.map List.length).sum:=by
 induction all with
 | nil=>cases h
 | cons a all ih =>
  rw[Hm,List.sum_cons];rcases List.mem_cons.1 h with rfl|h
  ·omega
  ·have:=ih h;omega
theorem Zr0 {all:List (List Ae)} {u:Nat} {w:Ae} (h:w∈all.getD u []):u < all.length∧all.getD u []∈all:=by
 by_cases hu:u < all.length
 ·refine⟨hu,?_⟩;rw[Hf,Hj hu];exact He hu
 ·rw[Hf,HG (by omega)] at h;cases h
theorem Zqn {g:Ac} (hg:g.ok) {all:List (List Ae)} (hI:TInv g all) {v B:Nat} (hv:v < g.vars.toNat) {l:List Ae} (hl:∀ w∈l,TOk g B 10 all.length true w):∀ u,∀ w∈(Zbd all l v).getD u [],TOk g (B+62) 11 (Zbd all l v).length (decide (u < g.vars.toNat)) w:=by
 have hva:v < all.length:=Gl hv hI.vars;intro u w hw;unfold Zbd at hw ⊢;split at hw
 ·rename_i h0;rw[Hb h0,HI];by_cases huv:u=v
  ·subst huv;rw[Hf,G8 hva,HV] at hw;rw[Ht hv];exact (hl w hw).mono (by omega) (by omega) (Hg _)
  ·rw[Hf,GN (fun e=>huv e.symm),←Hf] at hw;exact (hI.ok u w hw).mono (by omega) (by omega) (Hg _)
 ·rename_i h0;rw[Ha h0,HI,Hk,HZ];by_cases huv:u=v
  ·subst huv;rw[Hf,G8 (by simp;omega),HV] at hw;obtain⟨x,hx,hw⟩:=List.mem_flatMap.1 hw;rw[Ht hv];exact (ZyA hg (hl x (List.mem_filter.1 hx).1) w hw).mono (by omega) (by omega) (Hg _)
  ·rw[Hf,GN (fun e=>huv e.symm),←Hf] at hw;by_cases hua:u < all.length
   ·rw[Hf,GL hua,←Hf] at hw;exact (hI.ok u w hw).mono (by omega) (by omega) (by omega)
   ·by_cases hue:u=all.length
    ·subst hue;rw[Hf,Gn (Hg _),Gg] at hw;have hw:w∈(ownW v l).flatMap (ZbT all.length):=hw;obtain⟨x,hx,hw⟩:=List.mem_flatMap.1 hw;obtain⟨y,hy,rfl⟩:=List.mem_map.1 hx;obtain⟨hy1,hy2⟩:=List.mem_filter.1 hy;have hy2:=H3 hy2;have:=ZyA hg (Zf8 (hl y hy1) (by rw[hy2];omega)) w hw;rw[HA (by have:=hI.vars;omega)];exact this.mono (by omega) (by omega) (Hg _)
    ·rw[Hf,HG (by simp;omega)] at hw;cases hw
theorem ZmW (all:List (List Ae)) (l:List Ae) (v:Nat):all.length≤(Zbd all l v).length:=by
 unfold Zbd;split
 ·rw[HI];omega
 ·rw[HI,Hk];omega
theorem ZjV {g:Ac} (hg:g.ok) {all:List (List Ae)} (hI:TInv g all) {v:Nat} (hv:v < g.vars.toNat) {l:List Ae} (hl:Zb9 all 0 v (all.getD v [])=some l) (hf:Zju (Zbd all l v)=true):TInv g (Zbd all l v):=by
 have h0:∀ w∈all.getD v [],TOk g 60 10 all.length true w:=fun w hw=>by
  have:=hI.ok v w hw;rw[Ht hv] at this;exact this
 have h160:(all.getD v []).length≤160:=by
  by_cases q:v < all.length
  ·refine hI.wide _ ?_;rw[Hf,Hj q];exact He q
  ·rw[Hf,HG (by omega)];simp
 obtain⟨k1,k2⟩:=Zli hI v 0 (by omega) h0 h160 hl;obtain⟨f1,f2,f3⟩:=fitsT_iff.1 hf;have hi:=Zqn hg hI hv k1;exact⟨Hq hI.vars (ZmW all l v),f3,fun u w hw=>by
  obtain⟨q1,q2⟩:=f1 _ (Zr0 hw).2 w hw;exact (hi u w hw).small _ _ q2 q1,fun l hl=>Hq (ZD8 hl) f2⟩
theorem ZmX {g:Ac} (hg:g.ok):∀ (n v:Nat) {all z:List (List Ae)},v+n=g.vars.toNat→TInv g all→ZbF v n all=.ok z→TInv g z∧(0 < n→Zju z=true)
 | 0,v,all,z,_,hI,h=>by rw[ZbF] at h;cases h;exact⟨hI,fun q=>by omega⟩
 | n+1,v,all,z,hv,hI,h=>by
  rw[ZbF] at h;cases hc:Zb9 all 0 v (all.getD v []) with
  | none=>rw[hc] at h;cases h
  | some l =>
   rw[hc] at h;dsimp only at h;split at h
   ·rename_i hf;have h1:=ZjV hg hI (by omega) hc hf;obtain⟨k1,k2⟩:=ZmX hg n (v+1) (by omega) h1 h;refine⟨k1,fun _=>?_⟩;cases n with
    | zero=>rw[ZbF] at h;cases h;exact hf
    | succ n=>exact k2 (by omega)
   ·cases h
theorem ZCS (r:Int) (k:Nat):kdL (ZaJ r k)=upTo k:=by
 unfold ZaJ;rw[kdL,kdF,Hb rfl,ZwR,kdL,Hu];rfl
theorem Zgu {g:Ac} (hg:g.ok) (he:∀ r∈g.Aa,r.right≠[]):TInv g (Za4 g):=by
 have hlen:=Zbl g;have hv:=hg.vars;refine⟨by rw[hlen];exact Hg _,by rw[hlen];omega,fun u w hw=>?_,fun l hl=>?_⟩
 ·by_cases hu:u < g.vars.toNat
  ·rw[Zb2 hu] at hw;obtain⟨i,hi,rfl⟩:=List.mem_map.1 hw;obtain⟨j,hj,rfl,_,e⟩:=Zkv hi;rw[e,hlen];have hm:=He hj;have h10:=hg.right _ hm;have hkl:=Zbi g.Aa[j].right;refine⟨⟨.inl ⟨rfl,by omega,by omega,ZwS _ _⟩,trivial⟩,?_,?_,h10,fun _=>he _ hm,fun _ _=>?_,fun s hs=>?_⟩
   ·rw[ZCS]
   ·simp only[ZaJ,Aj,fsz,Zfo];omega
   ·exact⟨⟨fun q=>absurd q.1 (by decide),ZwT _⟩,trivial⟩
   ·have:=hg.lo _ hm s hs;have:=hg.hi _ hm s hs;omega
  ·rw[Zd0 hu] at hw;cases hw
 ·obtain⟨v,_,rfl⟩:=List.mem_map.1 hl;have h1:(Zcw g v).length=(by_ g v).length:=by unfold Zcw;rw[Hh]
  have h2:=Zpx v g.Aa 0;have h3:=hg.Aa;rw[h1];show (byR g.Aa v 0).length≤160;omega
def Zg6 (g:Ac):Option Nat:=g.Aa.findIdx? fun r=>decide (r.right.length=0)
def ZfF (g:Ac):Step×Zci :=
 if (Zac g).code=0 then
  match Zg6 g with
  | some i=>(Ag,⟨11,i⟩)
  | none=>if 0 < (cycL g).length then (Ag,⟨10, -1⟩) else
   match ZbF 0 g.vars.toNat (Za4 g) with
   | .error v=>(Ag,⟨6,(v:Nat)⟩)
   | .ok z=>(⟨⟨(z.length:Nat),g.terms,g.start,Zbg z 0⟩,ZaT z,[]⟩,⟨0,0⟩)
 else (Ag,Zac g)
theorem Zjp {g:Ac} (h:Zg6 g=none):∀ r∈g.Aa,r.right≠[]:=fun r hr q=>by
 unfold Zg6 at h;rw[List.findIdx?_eq_none_iff] at h;have:=h r hr;rw[q] at this;simp at this
theorem Zg7 (g:Ac):(¬ (ZfF g).2.code=0∧(ZfF g).1=Ag)∨∃ z,g.ok∧(∀ r∈g.Aa,r.right≠[])∧cycL g=[]∧ZbF 0 g.vars.toNat (Za4 g)=.ok z∧ZfF g=(⟨⟨(z.length:Nat),g.terms,g.start,Zbg z 0⟩,ZaT z,[]⟩,⟨0,0⟩):=by
 unfold ZfF;by_cases h:(Zac g).code=0
 ·rw[Hb h];cases he:Zg6 g with
  | some i=>exact .inl ⟨by simp,rfl⟩
  | none =>
   dsimp only;by_cases hc:0 < (cycL g).length
   ·rw[Hb hc];exact .inl ⟨by simp,rfl⟩
   ·rw[Ha hc];cases ht:ZbF 0 g.vars.toNat (Za4 g) with
    | error v=>exact .inl ⟨by simp,rfl⟩
    | ok z=>exact .inr ⟨z,Zbe h,Zjp he,List.length_eq_zero_iff.1 (by omega),rfl,rfl⟩
 ·rw[Ha h];exact .inl ⟨h,rfl⟩
theorem ZmY:∀ (z:List (List Ae)) (v:Nat),(Zbg z v).length=(z.map List.length).sum
 | [],_=>rfl
 | l::r,v=>by rw[Zbg,Hk,Hh,ZmY r (v+1),Hm,List.sum_cons]
section
variable {g:Ac} (hg:g.ok) (he:∀ r∈g.Aa,r.right≠[]) {z:List (List Ae)} (hz:ZbF 0 g.vars.toNat (Za4 g)=.ok z)
include hg he hz
theorem ZjW:TInv g z∧Zju z=true:=by
 obtain⟨h1,h2⟩:=ZmX hg g.vars.toNat 0 (by omega) (Zgu hg he) hz;exact⟨h1,h2 (by have:=hg.vars1;omega)⟩
theorem ZjX:(⟨(z.length:Nat),g.terms,g.start,Zbg z 0⟩:Ac).ok:=by
 obtain⟨hI,hf⟩:=ZjW hg he hz;obtain⟨f1,f2,f3⟩:=fitsT_iff.1 hf;have h1:=hg.vars1;have h2:=hg.start;have h3:=hI.vars;have hm:∀ r∈Zbg z 0,0≤r.left∧r.left < (z.length:Int)∧r.right.length≤10∧∀ s∈r.right, -g.terms≤s∧s < (z.length:Int):=fun r hr=>by
  obtain⟨b1,b2,w,b3,b4⟩:=Zfq hr;have hw:=hI.ok _ w b3;rw[b4];exact⟨by omega,by omega,hw.rl,hw.sym⟩
 exact⟨by show (1:Int)≤(z.length:Int);omega,by show (z.length:Int)≤64;omega,hg.terms0,hg.terms,hg.start0,by show g.start < (z.length:Int);omega,by rw[ZmY];exact f2,fun r hr=>(hm r hr).2.2.1,fun r hr=>(hm r hr).1,fun r hr=>(hm r hr).2.1,fun r hr s hs=>((hm r hr).2.2.2 s hs).1,fun r hr s hs=>((hm r hr).2.2.2 s hs).2⟩
theorem Zvf:Zap g ⟨⟨(z.length:Nat),g.terms,g.start,Zbg z 0⟩,ZaT z,[]⟩=⟨0,0⟩:=by
 obtain⟨hI,hf⟩:=ZjW hg he hz;refine Zk9 hg (ZjX hg he hz) rfl (Znz fun l hl w hw=>?_);obtain⟨u,hu,rfl⟩:=List.mem_iff_getElem.1 hl;have:=hI.ok u w (by rw[Hf,Hj hu];exact hw);exact ZD7 this.wf this.kd this.sz
theorem ZyB:(ZaT z).length=(Zbg z 0).length∧∀ l∈ZaT z,Aj l≤60:=by
 obtain⟨hI,hf⟩:=ZjW hg he hz;obtain⟨f1,f2,f3⟩:=fitsT_iff.1 hf;have h1:∀ (a:List (List Ae)) (v:Nat),(ZaT a).length=(Zbg a v).length:=by
  intro a
  induction a with
  | nil=>intro v;rfl
  | cons l a ih=>intro v;rw[ZaT,Zbg,Hk,Hk,Hh,Hh,ih (v+1)]
 refine⟨h1 z 0,fun l hl=>?_⟩;have h2:∀ a:List (List Ae),l∈ZaT a→∃ k∈a,∃ w∈k,l=w.l:=by
  intro a
  induction a with
  | nil=>intro h;simp[ZaT] at h
  | cons k a ih =>
   intro h;rw[ZaT] at h;rcases List.mem_append.1 h with h|h
   ·obtain⟨w,hw,rfl⟩:=List.mem_map.1 h;exact⟨k,by simp,w,hw,rfl⟩
   ·obtain⟨k',q1,w,q2,q3⟩:=ih h;exact⟨k',by simp[q1],w,q2,q3⟩
 obtain⟨k,hk,w,hw,rfl⟩:=h2 z hl;exact (f1 k hk w hw).2
end
theorem Zvg {g:Ac} (h:(ZfF g).2.code=0):Zap g (ZfF g).1=⟨0,0⟩:=by
 rcases Zg7 g with ⟨h1,_⟩|⟨z,hg,he,_,hz,e⟩
 ·exact absurd h h1
 ·rw[e];exact Zvf hg he hz
theorem Zqo (g:Ac):(ZfF g).1.fit:=by
 rcases Zg7 g with ⟨_,e⟩|⟨z,hg,he,_,hz,e⟩
 ·rw[e];exact⟨⟨by decide,fun r hr=>by simp[Ag] at hr⟩,by decide,fun l hl=>by simp[Ag] at hl,by decide⟩
 ·rw[e];have hk:=ZjX hg he hz;obtain⟨h1,h2⟩:=ZyB hg he hz;have:=hk.Aa;exact⟨hk.fit,by show (ZaT z).length≤_;rw[h1];exact Hq hk.Aa (by decide),fun l hl=>Hq (h2 l hl) (by decide),by simp[cnts]⟩
theorem Zqp:∀ (N:Nat) {t:Bool} {l:List Ad} {o b:Int},Aj l < N→Aj l≤100000000→NbL 1000000000 l → -1000000000≤b→b≤1000000000→Af Tryz.prog 201 [.d (Zah t l),I o,I b] [] (.d (Zah false (movL o b l))) []:=by
 intro N
 induction N with
 | zero=>intro t l o b h;omega
 | succ N ih =>
 intro t l o b hn hN hB hb0 hb1;have hl:=Hq (ZbY l) hN;refine Af.intro (n:=52) Tryz.func201 (hw:=?_);simp only[Zal];refine VA ?_;refine ZbB 7 900 102 3 rfl rfl rfl ?_;refine Zak (X:=Nat) (fun i=>i≤l.length) (fun i=>[(13,I i),(12,I l.length),(11,.d (Zah t l)),(7,.own 900 (movL o b (l.take i)).length),(1,I o),(2,I b)]) (fun i=>[(900,.row 102 3 ((movL o b (l.take i)).map (ZaN false)))]) (fun i=>l.length - i) 0 (Hi _) ?_;intro i h1;by_cases hlt:i < l.length
 ·have e1:=ZwN (o:=o) (b:=b) hlt;have e2:=ZCc o b l[i];have e3:=ZfA (He hlt);have e4:=ZhV l[i];have hm:=ZsN o b (l.take i);obtain⟨⟨n0,n1⟩,hB2⟩:=ZBA (Zrq hB (He hlt));have hih:=ih (t:=t) (l:=l[i].l) (o:=o) (b:=b) (by omega) (by omega) hB2 hb0 hb1;have e:(movL o b (l.take i)).map (ZaN false)++[D.agg [iD l[i].op,iD (mvN l[i].op l[i].n o b),Zah false (movL o b l[i].l)]]=(movL o b (l.take (i+1))).map (ZaN false):=by rw[e1,e2,Ho];simp only[Hm,HH,Zcs];rfl
  have hlen:(movL o b (l.take i)).length≤100000000:=by rw[hm,Hs];omega
  by_cases hop:l[i].op=2∨l[i].op=4
  ·by_cases hov:o < l[i].n
   ·rw[show mvN l[i].op l[i].n o b=l[i].n+b from Hb ⟨hop,hov⟩] at e;replace e:(movL o b (l.take i)).map (ZaN false)++[D.agg [iD l[i].op,.raw (.int .i64 (l[i].n+b)),Zah false (movL o b l[i].l)]]=(movL o b (l.take (i+1))).map (ZaN false):=e;rcases hop with hop|hop
    ·refine VA ?_;refine Zab [] (hA:=hih) (hr:=?_);refine VA ?_;rw[e,Hh];exact Zad (i+1)
    ·refine VA ?_;refine Zab [] (hA:=hih) (hr:=?_);refine VA ?_;rw[e,Hh];exact Zad (i+1)
   ·rw[show mvN l[i].op l[i].n o b=l[i].n from Ha (fun h=>hov h.2)] at e;rcases hop with hop|hop
    ·refine VA ?_;refine Zab [] (hA:=hih) (hr:=?_);refine VA ?_;rw[e,Hh];exact Zad (i+1)
    ·refine VA ?_;refine Zab [] (hA:=hih) (hr:=?_);refine VA ?_;rw[e,Hh];exact Zad (i+1)
  ·rw[show mvN l[i].op l[i].n o b=l[i].n from Ha (fun h=>hop h.1)] at e;have h2:¬ l[i].op=2:=fun h=>hop (.inl h)
   have h4:¬ l[i].op=4:=fun h=>hop (.inr h)
   refine VA ?_;refine Zab [] (hA:=hih) (hr:=?_);refine VA ?_;refine VB ?_;refine VA ?_;rw[e,Hh];exact Zad (i+1)
 ·rw[show l.take i=l from H5 (by omega)];refine Zaz 900 rfl ?_;refine VA ?_;exact fin
theorem ZA6:∀ (N:Nat) {t u:Bool} {l w:List Ad},Aj l < N→Aj l * (1+Aj w)≤100000000→Af Tryz.prog 226 [.d (Zah false l),.d (Zah false w)] [] (.d (Zah false (gpL w l))) []:=by
 intro N
 induction N with
 | zero=>intro t u l w h;omega
 | succ N ih =>
 intro t u l w hn hN;have hcl:Aj l≤Aj l * (1+Aj w):=Nat.le_mul_of_pos_right _ (by omega);have hl:=Hq (ZbY l) (Hq hcl hN);refine Af.intro (n:=34) Tryz.func226 (hw:=?_);simp only[Zal];refine VA ?_;refine ZbB 5 900 102 3 rfl rfl rfl ?_;refine Zak (X:=Nat) (fun i=>i≤l.length) (fun i=>[(10,I i),(9,I l.length),(8,.d (Zah false l)),(5,.own 900 (gpL w (l.take i)).length),(1,.d (Zah false w))]) (fun i=>[(900,.row 102 3 ((gpL w (l.take i)).map (ZaN false)))]) (fun i=>l.length - i) 0 (Hi _) ?_;intro i h1;by_cases hlt:i < l.length
 ·have e1:=ZzV (w:=w) hlt;have e2:=ZDy w l[i];have e3:=ZfA (He hlt);have e4:=ZhV l[i];have e5:=Hq (ZbY _) (ZnA w (l.take (i+1)));have e6:Aj (l.take (i+1))≤Aj l:=by have:=Ze8 l (i+1);omega
  have e7:=Hq e5 (Gh (1+Aj w) e6);have e8:=Hz List.length e1;rw[Hk] at e8;by_cases hr:l[i].op=3
  ·rw[Hb hr] at e2;rw[e2] at e1 e8;have e:=Hz (List.map (ZaN false)) e1;rw[Ho] at e;refine VA ?_;exact Zad (i+1)
  ·rw[Ha hr] at e2;rw[e2] at e1 e8;have e:(gpL w (l.take i)).map (ZaN false)++[D.agg [iD l[i].op,iD l[i].n,Zah false (gpL w l[i].l)]]=(gpL w (l.take (i+1))).map (ZaN false):=by rw[e1,Ho];simp only[Hm,HH,Zcs];rfl
   have hk:=Gh (1+Aj w) (show Aj l[i].l≤Aj l by omega);refine VA ?_;refine Zab [] (hA:=ih (t:=false) (u:=false) (l:=l[i].l) (w:=w) (by omega) (by omega)) (hr:=?_);refine VA ?_;rw[e,Hh];exact Zad (i+1)
 ·rw[show l.take i=l from H5 (by omega)];refine Zaz 900 rfl ?_;refine VA ?_;exact fin
theorem ZCT:∀ (N:Nat) {l inn:List Ad} {k b:Int},Aj l < N→Aj l≤100000000→PtL k inn b l→NbL 1000000000 l → -1000000000≤b→b≤1000000000→Aj inn≤100000000 →
  ∀ t,Af Tryz.prog 219 [.d (Zah t l),I k,.d (Zah false inn),I b] [] (.d (Zah false (ptL k inn b l))) []:=by
 intro N
 induction N with
 | zero=>intro l inn k b h;omega
 | succ N ih =>
 intro l inn k b hn hN hP hB hb0 hb1 hi t;have hl:=Hq (ZbY l) hN;have hil:=Hq (ZbY inn) hi;have hsz:=ZsO hP;have hpl:=Hq (ZbY _) hsz;refine Af.intro (n:=87) Tryz.func219 (hw:=?_);simp only[Zal];refine VA ?_;refine ZbB 9 900 102 3 rfl rfl rfl ?_;refine Zak (X:=Nat) (fun i=>i≤l.length) (fun i=>[(16,I i),(15,I l.length),(14,.d (Zah t l)),(9,.own 900 (ptL k inn b (l.take i)).length),(1,I k),(2,.d (Zah false inn)),(3,I b)]) (fun i=>[(900,.row 102 3 ((ptL k inn b (l.take i)).map (ZaN false)))]) (fun i=>l.length - i) 0 (Hi _) ?_;intro i h1;by_cases hlt:i < l.length
 ·have e1:=ZzW (k:=k) (inn:=inn) (b:=b) hlt;have e2:=ZDz k inn b l[i];have e3:=ZfA (He hlt);have e4:=ZhV l[i];obtain⟨⟨n0,n1⟩,hB2⟩:=ZBA (Zrq hB (He hlt));obtain⟨p1,p2⟩:=ZDA (ZwQ hP (He hlt));have hih:=ih (l:=l[i].l) (inn:=inn) (k:=k) (b:=b) (by omega) (by omega) p1 hB2 hb0 hb1 hi t;have hlen:(ptL k inn b (l.take (i+1))).length≤100000000:=by
   have:=Hz List.length (ZiC k inn b (l.take (i+1)) (l.drop (i+1)));rw[Ge,Hk] at this;omega
  have e8:=Hz List.length e1;rw[Hk] at e8;by_cases h2:l[i].op=2
  ·have h4:¬ l[i].op=4:=by omega
   by_cases hk:l[i].n=k
   ·rw[Hb ⟨h2,hk⟩] at e2;rw[e2] at e1 e8;have e:=Hz (List.map (ZaN false)) e1;rw[Ho] at e;refine VA ?_;refine Zab [] (hA:=hih) (hr:=?_);refine VA ?_;exact Zad (i+1)
   ·rw[Ha (fun h=>hk h.2),Ha (fun h=>hk h.2)] at e2;rw[e2] at e1 e8;by_cases hov:k < l[i].n
    ·have e:(ptL k inn b (l.take i)).map (ZaN false)++[D.agg [iD l[i].op,.raw (.int .i64 (l[i].n+b)),Zah false (ptL k inn b l[i].l)]]=(ptL k inn b (l.take (i+1))).map (ZaN false):=by
      rw[e1,Ho,show mvN l[i].op l[i].n k b=l[i].n+b from Hb ⟨.inl h2,hov⟩];simp only[Hm,HH,Zcs];rfl
     refine VA ?_;refine Zab [] (hA:=hih) (hr:=?_);refine VA ?_;rw[e,Hh];exact Zad (i+1)
    ·have e:(ptL k inn b (l.take i)).map (ZaN false)++[D.agg [iD l[i].op,iD l[i].n,Zah false (ptL k inn b l[i].l)]]=(ptL k inn b (l.take (i+1))).map (ZaN false):=by
      rw[e1,Ho,show mvN l[i].op l[i].n k b=l[i].n from Ha (fun h=>hov h.2)];simp only[Hm,HH,Zcs];rfl
     refine VA ?_;refine Zab [] (hA:=hih) (hr:=?_);refine VA ?_;rw[e,Hh];exact Zad (i+1)
  ·by_cases h4:l[i].op=4
   ·by_cases hk:l[i].n=k
    ·rw[Ha (fun h=>h2 h.1),Hb ⟨h4,hk⟩] at e2;rw[e2] at e1 e8;have e:=Hz (List.map (ZaN false)) e1;rw[Ho] at e;have hg:=ZA6 _ (t:=false) (u:=false) (l:=inn) (w:=ptL k inn b l[i].l) (Gj _) (p2 ⟨h4,hk⟩);refine VA ?_;refine Zab [] (hA:=hih) (hr:=?_);refine VA ?_;refine VB ?_;refine VA ?_;refine Zab [] (hA:=hg) (hr:=?_);refine VA ?_;exact Zad (i+1)
    ·rw[Ha (fun h=>h2 h.1),Ha (fun h=>hk h.2)] at e2;rw[e2] at e1 e8;by_cases hov:k < l[i].n
     ·have e:(ptL k inn b (l.take i)).map (ZaN false)++[D.agg [iD l[i].op,.raw (.int .i64 (l[i].n+b)),Zah false (ptL k inn b l[i].l)]]=(ptL k inn b (l.take (i+1))).map (ZaN false):=by
       rw[e1,Ho,show mvN l[i].op l[i].n k b=l[i].n+b from Hb ⟨.inr h4,hov⟩];simp only[Hm,HH,Zcs];rfl
      refine VA ?_;refine Zab [] (hA:=hih) (hr:=?_);refine VA ?_;refine VB ?_;refine VA ?_;rw[e,Hh];exact Zad (i+1)
     ·have e:(ptL k inn b (l.take i)).map (ZaN false)++[D.agg [iD l[i].op,iD l[i].n,Zah false (ptL k inn b l[i].l)]]=(ptL k inn b (l.take (i+1))).map (ZaN false):=by
       rw[e1,Ho,show mvN l[i].op l[i].n k b=l[i].n from Ha (fun h=>hov h.2)];simp only[Hm,HH,Zcs];rfl
      refine VA ?_;refine Zab [] (hA:=hih) (hr:=?_);refine VA ?_;refine VB ?_;refine VA ?_;rw[e,Hh];exact Zad (i+1)
   ·rw[Ha (fun h=>h2 h.1),Ha (fun h=>h4 h.1)] at e2;rw[e2] at e1 e8;have e:(ptL k inn b (l.take i)).map (ZaN false)++[D.agg [iD l[i].op,iD l[i].n,Zah false (ptL k inn b l[i].l)]]=(ptL k inn b (l.take (i+1))).map (ZaN false):=by
     rw[e1,Ho,show mvN l[i].op l[i].n k b=l[i].n from Ha (fun h=>by rcases h.1 with h|h;exact h2 h;exact h4 h)];simp only[Hm,HH,Zcs];rfl
    refine VA ?_;refine Zab [] (hA:=hih) (hr:=?_);refine VA ?_;refine VB ?_;refine VA ?_;refine VB ?_;refine VA ?_;rw[e,Hh];exact Zad (i+1)
 ·rw[show l.take i=l from H5 (by omega)];refine Zaz 900 rfl ?_;refine VA ?_;exact fin
theorem Zoo {t:Bool} {l:List Ad} (h1:Aj l≤100000000) (h2:NbL 1000000000 l):Af Tryz.prog 133 [.d (Zah t l)] [] (.d (Zah false l)) []:=by
 have hm:=Zqp _ (t:=t) (l:=l) (o:=0) (b:=0) (Gj _) h1 h2 (by decide) (by decide);rw[ZbP] at hm;refine Af.intro (n:=5) Tryz.func133 (hw:=?_);simp only[Zal];refine VA ?_;refine Zab [] (hA:=hm) (hr:=?_);refine VA ?_;exact fin
theorem Zop {t u:Bool} {l inn:List Ad} {k n:Int} (h1:Aj l≤100000000) (h2:Aj inn≤100000000) (h3:PtL k (movL (-1) k inn) (n - 1) l) (h4:NbL 1000000000 l) (h5:NbL 1000000000 inn) (h6:NbL 1000000000 (ZeJ l k inn n)) (h7 : -1000000≤k) (h8:k≤1000000) (h9 : -1000000≤n) (h10:n≤1000000) :
  Af Tryz.prog 189 [.d (Zah t l),I k,.d (Zah u inn),I n] [] (.d (Zah false (ZeJ l k inn n))) []:=by
 have m1:=Zqp _ (t:=u) (l:=inn) (o := -1) (b:=k) (Gj _) h2 h5 (by omega) (by omega);have m2:=ZCT _ (l:=l) (inn:=movL (-1) k inn) (k:=k) (b:=n - 1) (Gj _) h1 h3 h4 (by omega) (by omega) (by rw[Zkz];exact h2) t;have m3:=Zoo (t:=false) (l:=ZeJ l k inn n) (ZsO h3) h6;unfold ZeJ at m3 ⊢;refine Af.intro (n:=18) Tryz.func189 (hw:=?_);simp only[Zal];refine VA ?_;refine Zab [] (hA:=m1) (hr:=?_);refine VA ?_;refine Zab [] (hA:=m2) (hr:=?_);refine VA ?_;refine Zab [] (hA:=m3) (hr:=?_);refine VA ?_;exact fin
def Zbp (t:Bool) (w:Ae):D:=.agg [ints t w.right,Zah t w.l]
abbrev Zau (t:Bool) (l:List Ae):D:=.sl t 2 (l.map (Zbp t))
abbrev ZCU (t:Bool) (w:Ae):Ob:=.box 181 [.d (ints t w.right),.d (Zah t w.l)]
theorem Zqq {t:Bool} {xs:List Int} (hl:xs.length≤100000000:=by exact Vm) :
  Af Tryz.prog 127 [.d (ints t xs)] [] (I (Ab xs).length) []:=by
 refine Af.intro (n:=7) Tryz.func127 (hw:=?_);simp only[Zal];refine VA ?_;refine Zab [] (hA:=ZcG) (hr:=?_);refine VA ?_;exact fin
theorem Zvh {a b:List Int} (ha:0 < a.length):Za9 a b=true↔∃ h:0 < b.length,a[0]=b[0]:=by
 cases a with
 | nil=>simp at ha
 | cons x a=>cases b <;> simp[Za9]
theorem Zlj:∀ (l:List Ae) (k:Nat),Zb6 [] l k=[]
 | [],_=>rfl
 | y::l,k=>by rw[Zb6,Ha (by simp[Za9]),Zlj l (k+1)]
theorem Zqr {t:Bool} {l:List Ae} (hl:l.length≤100000) (hr:∀ w∈l,w.right.length≤100000) :
  Af Tryz.prog 193 [.d (Zau t l)] [] (.d (ints false (Zas l 0))) []:=by
 refine Af.intro (n:=58) Tryz.func193 (hw:=?_);simp only[Zal];refine VA ?_;refine Zak (X:=Nat) (fun i=>i≤l.length∧Zas l 0=Zas (l.drop i) i) (fun i=>[(9,I i),(8,I l.length),(7,.d (Zau t l)),(0,.d (Zau t l))]) (fun _=>[]) (fun i=>l.length - i) 0 ⟨Hi _,rfl⟩ ?_;rintro i ⟨hi,hp⟩;by_cases hlt:i < l.length
 ·have hs:=Zrc hlt;have hri:=hr _ (He hlt);by_cases h0:l[i].right.length=0
  ·have e:l[i].right=[]:=HW h0;rw[e,Zlj,Hb rfl] at hs;refine VA ?_;exact Zad (i+1) (a:=⟨by omega,hp.trans hs⟩)
  ·refine VA ?_;obtain⟨gl,hgl⟩:∃ gl:Nat→List Int,∀ k,gl k=(i:Int)::Zb6 l[i].right ((l.drop (i+1)).take (k - (i+1))) (i+1):=⟨_,fun _=>rfl⟩
   have e:gl (i+1)=[(i:Int)]:=by rw[hgl];simp[Zb6]
   refine Zak (X:=Nat) (fun k=>i+1≤k∧k≤l.length) (fun k=>[(6,I k),(5,.own 19 (gl k).length),(4,.ptr 4 0),(3,I i),(9,I i),(8,I l.length),(7,.d (Zau t l)),(0,.d (Zau t l))])
    (fun k=>[(19,.row 3 1 ((gl k).map iD)),(4,ZCU t l[i])]) (fun k=>l.length - k) (i+1) (by omega) ?_
   clear e;rintro k ⟨hk1,hk2⟩;have hml:(gl k).length≤l.length:=by
    rw[hgl,Hl];have:=Znw l[i].right ((l.drop (i+1)).take (k - (i+1))) (i+1);simp only[Hs,HF] at this;omega
   by_cases hlk:k < l.length
   ·have hsn:gl (k+1)=gl k++(if Za9 l[i].right l[k].right=true then [(k:Int)] else []):=(by rw[hgl,hgl,Zuu hlk hk1];rfl);have hrk:=hr _ (He hlk);have hal:=Zvh (a:=l[i].right) (b:=l[k].right) (by omega);by_cases h1:0 < l[k].right.length
    ·by_cases h2:l[k].right[0]=l[i].right[0]
     ·rw[Hb (hal.2 ⟨h1,h2.symm⟩)] at hsn;have h2b:decide (l[k].right[0]=l[i].right[0])=true:=Ht h2;have e:=hsn;refine VA ?_;exact Zad (k+1)
     ·rw[Ha (fun h=>h2 (hal.1 h).2.symm),Hu] at hsn;have h2b:decide (l[k].right[0]=l[i].right[0])=false:=HA h2;have e:=hsn;refine VA ?_;exact Zad (k+1)
    ·rw[Ha (fun h=>h1 (hal.1 h).1),Hu] at hsn;have e:=hsn;refine VA ?_;exact Zad (k+1)
   ·obtain rfl:k=l.length:=(by omega);have he:gl l.length=(i:Int)::Zb6 l[i].right (l.drop (i+1)) (i+1):=(by rw[hgl,H5 (by simp)]);by_cases hm:Zb6 l[i].right (l.drop (i+1)) (i+1)=[]
    ·rw[Hb hm] at hs;have hlen:(gl l.length).length=1:=(by rw[he,hm];rfl);refine VA ?_;exact Zad (i+1) (a:=⟨by omega,hp.trans hs⟩)
    ·rw[Ha hm,←he] at hs;have hlen:1 < (gl l.length).length:=by
      rw[he,Hl];cases hc:Zb6 l[i].right (l.drop (i+1)) (i+1) with
      | nil=>exact absurd hc hm
      | cons _ _=>simp
     rw[hp,hs];refine Zaz 19 rfl ?_;refine VA ?_;exact fin
 ·rw[hp,Zuv hlt];refine VA ?_;exact fin
abbrev ZA7 (t:Bool) (w:Ae):Ob:=.box 188 [.d (ints t w.right),.d (Zah t w.l)]
theorem Zlk {t:Bool} {xs:List Int} (hl:xs.length≤100000000:=by exact Vm) :
  Af Tryz.prog 129 [.d (ints t xs)] [] (I (Ab xs).length) []:=by
 refine Af.intro (n:=7) Tryz.func129 (hw:=?_);simp only[Zal];refine VA ?_;refine Zab [] (hA:=ZcG) (hr:=?_);refine VA ?_;exact fin
theorem Zvi:∀ (N:Nat) {t:Bool} {l:List Ad},Aj l < N→Aj l≤100000000→Af Tryz.prog 200 [.d (Zah t l)] [] (I (Aj l)) []:=by
 intro N
 induction N with
 | zero=>intro t l h;omega
 | succ N ih =>
 intro t l hN hle;have hl:=Hq (ZbY l) hle;refine Af.intro (n:=21) Tryz.func200 (hw:=?_);simp only[Zal];refine VA ?_;refine Zak (X:=Nat×Nat) (fun x=>x.1≤l.length∧x.2+x.1=l.length+Aj (l.take x.1)) (fun x=>[(10,I x.1),(9,I l.length),(8,.d (Zah t l)),(3,I x.2)]) (fun _=>[]) (fun x=>l.length - x.1) (0,l.length) ⟨Hi _,by simp[Aj]⟩ ?_;rintro⟨i,v⟩ ⟨h1,h2⟩;dsimp only at h1 h2 ⊢;by_cases hlt:i < l.length
 ·have e1:=ZhW hlt;have e3:=ZfA (He hlt);have e2:=ZhV l[i];have e4:Aj l=Aj (l.take (i+1))+Aj (l.drop (i+1)):=Ze8 _ _;have e5:(l.take i).length≤Aj (l.take i):=ZbY _;refine VA ?_;refine Zab [] (hA:=ih (t:=t) (l:=l[i].l) (by omega) (by omega)) (hr:=?_);refine VA ?_;exact Zad (i+1,v+Aj l[i].l) (a:=⟨by omega,by dsimp only;omega⟩) (b:=by dsimp only;omega)
 ·rw[H5 (by omega)] at h2;obtain rfl:v=Aj l:=by omega
  refine VA ?_;exact fin
theorem ZyC {t u:Bool} {g:Ac} (hg:g.ok) {B B' C N:Nat} {o:Bool} {x y:Ae} {v:Int} (hx:TOk g B C N true x) (hy:TOk g B' C N o y) (hB:B≤4000) (hB':B'≤100) (hC:C≤20) (hu:hdI x.right=v) (h0:0≤v) (hm:TOk g (B+B') 40 N o (mixW x y)) :
  Af Tryz.prog 189 [.d (Zah t x.l),I 0,.d (Zah u y.l),I ((Ab y.right).length:Nat)] [] (.d (Zah false (mixW x y).l)) []:=by
 have hz:=hx.nz rfl (by omega);have s1:=hx.sz;have s2:=hy.sz;have r2:=hy.rl;have hk:=Zbi y.right;have hmul:Aj x.l * Aj y.l≤4000 * 100:=Nat.mul_le_mul (by omega) (by omega);have h3:PtL 0 (movL (-1) 0 y.l) (((Ab y.right).length:Int) - 1) x.l:=by rw[ZbP];exact Zpl x.l hx.wf hz (by omega)
 exact Zop (t:=t) (u:=u) (l:=x.l) (inn:=y.l) (k:=0) (n:=((Ab y.right).length:Nat)) (by omega) (by omega) h3 (hx.nb hg (by omega)) (hy.nb hg (by omega)) (hm.nb hg (by omega)) (by decide) (by decide) (by omega) (by omega)
theorem ZCV (t:Bool):Zah t [gapF]=.sl t 3 [.agg [iD 3,iD 0,.sl t 3 []]]:=by simp[gapF,Zah,ZaN,ZeD]
theorem Zvj {t:Bool} {g:Ac} (hg:g.ok) {B C N:Nat} {x:Ae} (hx:TOk g B C N true x) (hB:B≤4000) (hC:C≤20) (h0:0≤hdI x.right) :
  Af Tryz.prog 198 [.d (Zah t x.l)] [] (.d (Zah false (ZbA x).l)) []:=by
 have hgo:=Zf8 hx h0;have hz:=hx.nz rfl h0;have s1:=hx.sz;have h3:PtL 0 (movL (-1) 0 [gapF]) ((0:Int) - 1) x.l:=by rw[ZbP];exact Zpl x.l hx.wf hz (by have:Aj [gapF]=1:=rfl;rw[this];omega)
 have hp:=Zop (t:=t) (u:=false) (l:=x.l) (inn:=[gapF]) (k:=0) (n:=0) (by omega) (by decide) h3 (hx.nb hg (by omega)) ⟨⟨by decide,trivial⟩,trivial⟩ (hgo.nb hg (by omega)) (by decide) (by decide) (by decide) (by decide);rw[ZCV] at hp;have hp2:Af Tryz.prog 189 [.d (Zah t x.l),I 0,.d (.sl false 3 [.agg [iD 3,iD 0,nilT]]),I 0] [] (.d (Zah false (ZbA x).l)) []:=hp.le (args:=[.d (Zah t x.l),I 0,.d (.sl false 3 [.agg [iD 3,iD 0,nilT]]),I 0]) ⟨.refl _,.refl _,.sl (.cons (.agg (.cons (.refl _) (.cons (.refl _) (.cons (.nil _ _) .nil)))) .nil),.refl _,trivial⟩;refine Af.intro (n:=7) Tryz.func198 (hw:=?_);simp only[Zal];refine VA ?_;refine Zab [] (hA:=hp2) (hr:=?_);refine VA ?_;exact fin
theorem ZtJ {x:Ae} {v:Nat} (h1:x.right.length≤1000) (hv:v≤1000) :
  Af Tryz.prog 199 [.d (Zbp false x),I v] [] (.own 22 2) [(22,.row 188 2 ((ZbT (v:Int) x).map (Zbp false)))]:=by
 have hk:=Zbi x.right;have e1:x.right.map iD++[D.raw (.int .i64 (v:Int))]=(x.right++[(v:Int)]).map iD:=by simp[iD]
 refine Af.intro (n:=23) Tryz.func199 (hw:=?_);simp only[Zal];refine VA ?_;refine Zab [(5,905)] (hA:=Zcy) (hr:=?_);refine VA ?_;rw[e1];refine Zab [] (hA:=Zlk) (hr:=?_);refine VA ?_;have e2:(ZbT (v:Int) x).map (Zbp false)=[D.agg [ints false x.right,Zah false x.l],D.agg [D.sl false 1 ((x.right++[(v:Int)]).map iD),D.sl false 3 [D.agg [D.raw (.int .i64 4),D.raw (.int .i64 ((Ab x.right).length:Int)),Zah false x.l]]]]:=by simp[ZbT,Zbp,ints,Zah,ZaN,iD,Zcr]
 rw[e2];exact finx
end Go.Proofs.YtbpmepgnjanhnaaGreat
