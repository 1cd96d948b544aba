import Derived.Test.YtbpmepgnjanhnaaGreatQFactorR
set_option linter.unusedVariables false
set_option linter.unusedSimpArgs false
set_option linter.unusedSectionVars false
namespace Go.Proofs.YtbpmepgnjanhnaaGreat
open Go.RowKit
theorem Zuk {u:List Int} {n:Int} (h0:0≤n) (h1:n < (u.length:Int)) (j:Nat):(bump u n).getD j 0=u.getD j 0+(if (j:Int)=n then 1 else 0):=by
 unfold bump;rw[Hf,JA];by_cases e:n.toNat=j
 ·rw[Hb e,Hb (by omega),Hb (by omega)];subst e;rfl
 ·rw[Ha e,Ha (by omega),←Hf];simp
theorem Zii (j n:Int) (l:List Int):((n::l).count j:Int)=(if j=n then 1 else 0)+(l.count j:Int):=by
 rw[List.count_cons];by_cases e:n=j
 ·subst e;simp;omega
 ·have:¬ j=n:=fun q=>e q.symm
  simp[e,this]
mutual
theorem ZEH {m:Int}:∀ (x:Ad) (u:List Int),wfF m x→(∀ n∈kdF x,0≤n∧n < (u.length:Int))→(usF m x u).1=true∧∀ j:Nat,(usF m x u).2.getD j 0=u.getD j 0+((kdF x).count (j:Int):Int)
 | .mk o n l,u,h,hk=>by
  rw[wfF] at h;rw[usF];rcases h with ⟨rfl,h1,h2,hl⟩|⟨rfl,rfl⟩|⟨rfl,h1,rfl⟩|⟨rfl,hl⟩
  ·have e:kdF (.mk 1 n l)=kdL l:=by rw[kdF,Hb rfl]
   rw[e] at hk ⊢;rw[Hb rfl,Ha (by omega)];exact Zul l u hl hk
  ·rw[ZkG] at hk ⊢;have:=hk n (by simp);rw[Ha (by decide),Hb rfl,Ha (by omega)];refine⟨rfl,fun j=>?_⟩;rw[Zuk this.1 this.2,Zii];simp
  ·have e:kdF (.mk 3 n [])=[]:=by rw[kdF,Ha (by decide),Ha (by decide),Ha (by decide)]
   rw[e,Ha (by decide),Ha (by decide),Ha (by decide),Hb rfl];exact⟨rfl,fun j=>by simp⟩
  ·have e:kdF (.mk 4 n l)=n::kdL l:=by rw[kdF,Ha (by decide),Ha (by decide),Hb rfl]
   rw[e] at hk ⊢;have hn:=hk n (by simp);rw[Ha (by decide),Ha (by decide),Hb rfl,Ha (by omega)];obtain⟨k1,k2⟩:=Zul l (bump u n) hl (fun x hx=>by rw[Zdm];exact hk x (by simp[hx]));refine⟨k1,fun j=>?_⟩;rw[k2 j,Zuk hn.1 hn.2,Zii];omega
theorem Zul {m:Int}:∀ (l:List Ad) (u:List Int),wfL m l→(∀ n∈kdL l,0≤n∧n < (u.length:Int))→(usL m l u).1=true∧∀ j:Nat,(usL m l u).2.getD j 0=u.getD j 0+((kdL l).count (j:Int):Int)
 | [],u,_,_=>⟨rfl,fun j=>by simp[usL,kdL]⟩
 | x::r,u,h,hk=>by
  rw[kdL] at hk;obtain⟨a1,a2⟩:=ZEH x u h.1 fun n hn=>hk n (by simp[hn])
  obtain⟨b1,b2⟩:=Zul r (usF m x u).2 h.2 fun n hn=>by rw[Zrf];exact hk n (by simp[hn])
  rw[usL,a1];refine⟨b1,fun j=>?_⟩;show (usL m r (usF m x u).2).2.getD j 0=_;rw[b2 j,a2 j,kdL,List.count_append];omega
end
theorem Zq3:∀ (k j:Nat),j < k→(upTo k).count (j:Int)=1
 | 0,j,h=>by omega
 | k+1,j,h=>by
  rw[ZpF,List.count_append];by_cases e:j=k
  ·subst e;have:(upTo j).count (j:Int)=0:=List.count_eq_zero.2 fun q=>by have:=upTo_mem.1 q;omega
   rw[this];simp
  ·rw[Zq3 k j (by omega),List.count_cons_of_ne (by omega)];simp
theorem ZEI {old:Ac} {l:List Ad} {right:List Int} (h:wfL old.Aa.length l) (hk:(kdL l).Perm (upTo (Ab right).length)) (hc:Aj l≤60):Zay old l right=0:=by
 have hb:∀ n∈kdL l,0≤n∧n < ((List.replicate (Ab right).length (0:Int)).length:Int):=fun n hn=>by
  rw[HM];exact upTo_mem.1 (hk.mem_iff.1 hn)
 obtain⟨k1,k2⟩:=Zul (m:=old.Aa.length) l _ h hb;have hcp:=Zwl l;rw[Zay,Ha (by omega),Hb];unfold Zhy;rw[k1,H5,HR];intro x hx;obtain⟨j,hj,rfl⟩:=List.mem_iff_getElem.1 hx;have hlen:=Zkh old.Aa.length l (List.replicate (Ab right).length 0);rw[HM] at hlen;have:=k2 j;rw[Hf,Hj hj,HW] at this;rw[this,hk.count_eq,Hf,JK,Hb (by omega),HW];have hcount:(upTo (Ab right).length).count (j:Int)=1:=by
  exact Zq3 _ _ (by omega)
 rw[hcount];rfl
structure TOk (g:Ac) (B C N:Nat) (old:Bool) (x:Ae):Prop where
 wf:wfL g.Aa.length x.l
 kd:(kdL x.l).Perm (upTo (Ab x.right).length)
 sz:Aj x.l≤B
 rl:x.right.length≤C
 ne:old=true→x.right≠[]
 nz:old=true→0≤hdI x.right→nzL x.l
 sym:∀ s∈x.right, -g.terms≤s∧s < (N:Int)
theorem TOk.mono {g:Ac} {B C N B' C' N':Nat} {old:Bool} {x:Ae} (h:TOk g B C N old x) (h1:B≤B') (h2:C≤C') (h3:N≤N'):TOk g B' C' N' old x :=
 ⟨h.wf,h.kd,Hq h.sz h1,Hq h.rl h2,h.ne,h.nz,fun s hs=>by have:=h.sym s hs;omega⟩
theorem TOk.small {g:Ac} {B C N:Nat} {old:Bool} {x:Ae} (h:TOk g B C N old x) (B' C':Nat) (h1:Aj x.l≤B') (h2:x.right.length≤C'):TOk g B' C' N old x:=⟨h.wf,h.kd,h1,h2,h.ne,h.nz,h.sym⟩
theorem TOk.nb {g:Ac} (hg:g.ok) {B C N:Nat} {old:Bool} {x:Ae} (h:TOk g B C N old x) (hC:C≤1000000):NbL 1000000000 x.l:=by
 have:=hg.Aa;refine Zs9 (m:=g.Aa.length) (by omega) (by omega) _ h.wf fun n hn=>?_
 have h1:=upTo_mem.1 (h.kd.mem_iff.1 hn);have h2:=Zbj x.right;have h3:=h.rl;omega
theorem TOk.kd0 {g:Ac} {B C N:Nat} {old:Bool} {x:Ae} (h:TOk g B C N old x):∀ n∈kdL x.l,0≤n:=fun n hn=>(upTo_mem.1 (h.kd.mem_iff.1 hn)).1
theorem ZfN {l:List Int} {u:Int} (hne:l≠[]) (h:hdI l=u):l=u::l.tail:=by
 cases l with
 | nil=>exact absurd rfl hne
 | cons a l=>simp only[hdI,List.headD_cons] at h;rw[h];rfl
theorem Zum {g:Ac} {B C N B' C':Nat} {x y:Ae} {u:Int} (hx:TOk g B C N true x) (hy:TOk g B' C' N true y) (hu:hdI x.right=u) (h0:0≤u):TOk g (B+B') (C+C') N true (mixW x y):=by
 have hne:=hx.ne rfl;have hc:=ZfN hne hu;have hz:=hx.nz rfl (by omega);have hkx:(Ab x.right).length=(Ab x.right.tail).length+1:=by
  conv=>lhs;rw[hc]
  rw[show Ab (u::x.right.tail)=u::Ab x.right.tail from Gr (by simpa using h0)];rfl
 have hkm:(Ab (mixW x y).right).length=(Ab y.right).length+(Ab x.right.tail).length:=by
  show (Ab (y.right++x.right.tail)).length=_;simp[Ab]
 have hl:(mixW x y).l=ptL 0 y.l (((Ab y.right).length:Int) - 1) x.l:=by
  show ZeL x.l 0 y.l _=_;unfold ZeL;rw[ZbS]
 have hxk:=hx.kd;rw[hkx] at hxk;refine⟨?_,?_,?_,?_,fun _=>?_,fun _ hh=>?_,fun s hs=>?_⟩
 ·rw[hl];exact ZkI hy.wf x.l hx.wf hz
 ·rw[hl,ZkH x.l hx.wf hz,hkm];exact Zta hxk hy.kd
 ·rw[hl];have h1:=ZiJ (b:=((Ab y.right).length:Int) - 1) (inn:=y.l) x.l hx.wf hz;have h2:=Zmu _ _ hx.kd;have h3:(kdL x.l).count 0 * Aj y.l≤1 * Aj y.l:=Gi _ h2;have:=hx.sz;have:=hy.sz;omega
 ·show (y.right++x.right.tail).length≤_;have:=hx.rl;have:=hy.rl;rw[Hk,List.length_tail];omega
 ·show y.right++x.right.tail≠[];have:=hy.ne rfl;intro q;exact this (List.append_eq_nil_iff.1 q).1
 ·have hyn:=hy.ne rfl;have hh2:hdI (mixW x y).right=hdI y.right:=by
   show hdI (y.right++x.right.tail)=_;cases hq:y.right with
   | nil=>exact absurd hq hyn
   | cons a r=>rfl
  rw[hh2] at hh;rw[hl];have hk1:1≤(Ab y.right).length:=by
   cases hq:y.right with
   | nil=>exact absurd hq hyn
   | cons a r =>
    rw[hq] at hh;simp only[hdI,List.headD_cons] at hh;rw[show Ab (a::r)=a::Ab r from Gr (by simpa using hh)];simp
  exact ZnN (hy.nz rfl hh) (by omega) x.l hx.wf hz hx.kd0
 ·rcases List.mem_append.1 (show s∈y.right++x.right.tail from hs) with h|h
  ·exact hy.sym s h
  ·exact hx.sym s (JT h)
theorem Zzw {g:Ac} (hg:g.ok) {B C N:Nat} {old:Bool} {x:Ae} (hx:TOk g B C N old x):∀ y∈ZbU (N:Int) x,TOk g (B+1) (C+1) (N+1) old y:=fun y hy=>by
 simp only[ZbU,Gq,GB,or_false] at hy;rcases hy with rfl|rfl
 ·exact hx.mono (by omega) (by omega) (by omega)
 ·have ht:=hg.terms0;have hk:(Ab (x.right++[(N:Int)])).length=(Ab x.right).length+1:=by
   simp[Ab]
  refine⟨⟨.inr (.inr (.inr ⟨rfl,hx.wf⟩)),trivial⟩,?_,?_,?_,fun _=>by simp,fun ho hh=>?_,fun s hs=>?_⟩
  ·rw[hk,ZpF];have e:kdL [Ad.mk 4 ((Ab x.right).length:Int) x.l]=((Ab x.right).length:Int)::kdL x.l:=by
    rw[kdL,kdF,Ha (by decide),Ha (by decide),Hb rfl,kdL,Ht]
   rw[e];exact (hx.kd.cons _).trans (List.perm_append_singleton _ _).symm
  ·have:=hx.sz;simp only[Aj,fsz];omega
  ·have:=hx.rl;show (x.right++[(N:Int)]).length≤_;rw[Hk,HS];omega
  ·have hne:=hx.ne ho;have hh2:hdI (x.right++[(N:Int)])=hdI x.right:=by
    cases hq:x.right with
    | nil=>exact absurd hq hne
    | cons a r=>rfl
   rw[hh2] at hh;refine⟨⟨fun q=>?_,hx.nz ho hh⟩,trivial⟩;have hk1:1≤(Ab x.right).length:=by
    cases hq:x.right with
    | nil=>exact absurd hq hne
    | cons a r =>
     rw[hq] at hh;simp only[hdI,List.headD_cons] at hh;rw[show Ab (a::r)=a::Ab r from Gr (by simpa using hh)];simp
   have:=q.2;omega
  ·rcases List.mem_append.1 (show s∈x.right++[(N:Int)] from hs) with h|h
   ·have:=hx.sym s h;omega
   ·rw[List.mem_singleton.1 h];omega
def ZbC (x:Ae):Ae:=⟨x.right.tail,ZeL x.l 0 [gapF] 0⟩
theorem Zgh {g:Ac} {B C N:Nat} {x:Ae} (hx:TOk g B C N true x) (h0:0≤hdI x.right):TOk g (B+1) C N false (ZbC x):=by
 have hne:=hx.ne rfl;have hc:=ZfN hne rfl;have hz:=hx.nz rfl h0;have hkx:(Ab x.right).length=(Ab x.right.tail).length+1:=by
  conv=>lhs;rw[hc]
  rw[show Ab (hdI x.right::x.right.tail)=hdI x.right::Ab x.right.tail from Gr (by simpa using h0)];rfl
 have hl:(ZbC x).l=ptL 0 [gapF] (-1) x.l:=by
  show ZeL x.l 0 [gapF] 0=_;unfold ZeL;rw[ZbS];rfl
 have hxk:=hx.kd;rw[hkx] at hxk;refine⟨?_,?_,?_,?_,fun q=>(by cases q),fun q=>(by cases q),fun s hs=>hx.sym s (JT hs)⟩
 ·rw[hl];exact ZkI (inn:=[gapF]) (show wfL _ [gapF] from ⟨.inr (.inr (.inl ⟨rfl,rfl,rfl⟩)),trivial⟩) x.l hx.wf hz
 ·rw[hl,ZkH x.l hx.wf hz];have:=Zta (k:=(Ab x.right.tail).length) (ki:=0) (inn:=[]) hxk (List.Perm.refl _);simp only[HE] at this;exact this
 ·rw[hl];have h1:=ZiJ (b := -1) (inn:=[gapF]) x.l hx.wf hz;have h2:=Zmu _ _ hx.kd;have h3:(kdL x.l).count 0 * Aj [gapF]≤1 * Aj [gapF]:=Gi _ h2;have h4:Aj [gapF]=1:=rfl;have:=hx.sz;omega
 ·have:=hx.rl;show x.right.tail.length≤_;rw[List.length_tail];omega
structure TInv (g:Ac) (all:List (List Ae)):Prop where
 vars:g.vars.toNat≤all.length
 len:all.length≤64
 ok:∀ u,∀ w∈all.getD u [],TOk g 60 10 all.length (decide (u < g.vars.toNat)) w
 wide:∀ l∈all,l.length≤160
theorem Znf {g:Ac} {B N:Nat} {x:Ae} {u:Int} (hx:TOk g B 10 N true x) (hu:hdI x.right=u) (h0:0≤u) {Q:Ae→Prop} (hQ:∀ y,TOk g 60 10 N true y→(mixW x y).right.length≤10→Q (mixW x y)):∀ {ys out out':List Ae},(∀ y∈ys,TOk g 60 10 N true y)→(∀ w∈out,Q w)→ZbE x ys out=some out'→(∀ w∈out',Q w)∧(out.length≤160→out'.length≤160)
 | [],out,out',_,ho,h=>by rw[ZbE] at h;cases h;exact⟨ho,fun q=>q⟩
 | y::ys,out,out',hy,ho,h=>by
  rw[ZbE] at h;split at h
  ·cases h
  ·rename_i hn;simp only[not_or,Nat.not_lt] at hn;obtain⟨k1,k2⟩:=Znf hx hu h0 hQ (fun z hz=>hy z (by simp[hz])) (fun w hw=>by
    rcases List.mem_append.1 hw with hw|hw
    ·exact ho w hw
    ·rw[List.mem_singleton.1 hw];exact hQ y (hy y (by simp)) hn.1) h
   exact⟨k1,fun _=>k2 hn.2⟩
theorem Zij {g:Ac} {B N:Nat} {A:List Ae} {u:Int} (h0:0≤u) (hA:∀ y∈A,TOk g 60 10 N true y):∀ {l out l':List Ae},(∀ w∈l,TOk g B 10 N true w)→(∀ w∈out,TOk g (B+60) 10 N true w)→ZbJ A u l out=some l'→(∀ w∈l',TOk g (B+60) 10 N true w)∧l'.length≤160
 | [],out,l',_,ho,h=>by
  rw[ZbJ] at h;split at h
  ·cases h
  ·cases h;exact⟨ho,by omega⟩
 | x::l,out,l',hl,ho,h=>by
  have hx:=hl x (by simp);rw[ZbJ] at h;split at h
  ·exact Zij h0 hA (fun w hw=>hl w (by simp[hw])) (fun w hw=>by
    rcases List.mem_append.1 hw with hw|hw
    ·exact ho w hw
    ·rw[List.mem_singleton.1 hw];exact hx.mono (by omega) (Hg _) (Hg _)) h
  ·rename_i hu;have hu:hdI x.right=u:=HN fun q=>hu q
   cases hc:ZbE x A out with
   | none=>rw[hc] at h;cases h
   | some out1 =>
    rw[hc] at h;obtain⟨k1,_⟩:=Znf hx hu h0 (Q:=fun w=>TOk g (B+60) 10 N true w) (fun y hy hr=>(Zum hx hy hu h0).small _ _ (Zum hx hy hu h0).sz hr) hA ho hc;exact Zij h0 hA (fun w hw=>hl w (by simp[hw])) k1 h
theorem ZlN {g:Ac} {all:List (List Ae)} (hI:TInv g all):∀ (n u:Nat) {B:Nat} {l l':List Ae},u+n≤g.vars.toNat→(∀ w∈l,TOk g B 10 all.length true w)→l.length≤160→Zca all u n l=some l'→(∀ w∈l',TOk g (B+60 * n) 10 all.length true w)∧l'.length≤160
 | 0,u,B,l,l',_,hl,h160,h=>by
  rw[Zca] at h;cases h;exact⟨fun w hw=>(hl w hw).mono (by omega) (Hg _) (Hg _),h160⟩
 | n+1,u,B,l,l',hn,hl,h160,h=>by
  rw[Zca] at h;cases hc:ZbJ (all.getD u []) u l [] with
  | none=>rw[hc] at h;cases h
  | some l1 =>
   rw[hc] at h;obtain⟨k1,k2⟩:=Zij (by omega) (fun y hy=>by
    have:=hI.ok u y hy;rw[Hu (show u < g.vars.toNat by omega)] at this;exact this) hl (fun w hw=>by cases hw) hc
   obtain⟨j1,j2⟩:=ZlN hI n (u+1) (by omega) k1 k2 h;exact⟨fun w hw=>(j1 w hw).mono (by omega) (Hg _) (Hg _),j2⟩
theorem fitsT_iff {all:List (List Ae)}:Zjx all=true↔(∀ l∈all,∀ w∈l,w.right.length≤10∧Aj w.l≤60)∧(all.map List.length).sum≤160∧all.length≤64:=by
 unfold Zjx;simp only[Hr,HR,HZ,and_assoc]
theorem ZEJ {all:List (List Ae)} {l:List Ae} (h:l∈all):l.length≤(all.map List.length).sum:=by
 induction all with
 | nil=>cases h
 | cons a all ih =>
  rw[Hm,List.sum_cons];rcases List.mem_cons.1 h with rfl|h
  ·omega
  ·have:=ih h;omega
theorem ZsF {all:List (List Ae)} {u:Nat} {w:Ae} (h:w∈all.getD u []):u < all.length∧all.getD u []∈all:=by
 by_cases hu:u < all.length
 ·refine⟨hu,?_⟩;rw[Hf,Hj hu];exact He hu
 ·rw[Hf,HI (by omega)] at h;cases h
theorem Zq4 {g:Ac} (hg:g.ok) {all:List (List Ae)} (hI:TInv g all) {v B:Nat} (hv:v < g.vars.toNat) {l:List Ae} (hl:∀ w∈l,TOk g B 10 all.length true w):∀ u,∀ w∈(Zbf all l v).getD u [],TOk g (B+62) 11 (Zbf all l v).length (decide (u < g.vars.toNat)) w:=by
 have hva:v < all.length:=Gm hv hI.vars;intro u w hw;unfold Zbf at hw ⊢;split at hw
 ·rename_i h0;rw[Hb h0,HJ];by_cases huv:u=v
  ·subst huv;rw[Hf,G8 hva,HW] at hw;rw[Hu hv];exact (hl w hw).mono (by omega) (by omega) (Hg _)
  ·rw[Hf,GO (fun e=>huv e.symm),←Hf] at hw;exact (hI.ok u w hw).mono (by omega) (by omega) (Hg _)
 ·rename_i h0;rw[Ha h0,HJ,Hk,HS];by_cases huv:u=v
  ·subst huv;rw[Hf,G8 (by simp;omega),HW] at hw;obtain⟨x,hx,hw⟩:=List.mem_flatMap.1 hw;rw[Hu hv];exact (Zzw hg (hl x (List.mem_filter.1 hx).1) w hw).mono (by omega) (by omega) (Hg _)
  ·rw[Hf,GO (fun e=>huv e.symm),←Hf] at hw;by_cases hua:u < all.length
   ·rw[Hf,GH hua,←Hf] at hw;exact (hI.ok u w hw).mono (by omega) (by omega) (by omega)
   ·by_cases hue:u=all.length
    ·subst hue;rw[Hf,Gp (Hg _),Ga] at hw;have hw:w∈(ownW v l).flatMap (ZbU all.length):=hw;obtain⟨x,hx,hw⟩:=List.mem_flatMap.1 hw;obtain⟨y,hy,rfl⟩:=List.mem_map.1 hx;obtain⟨hy1,hy2⟩:=List.mem_filter.1 hy;have hy2:=H0 hy2;have:=Zzw hg (Zgh (hl y hy1) (by rw[hy2];omega)) w hw;rw[HC (by have:=hI.vars;omega)];exact this.mono (by omega) (by omega) (Hg _)
    ·rw[Hf,HI (by simp;omega)] at hw;cases hw
theorem Zng (all:List (List Ae)) (l:List Ae) (v:Nat):all.length≤(Zbf all l v).length:=by
 unfold Zbf;split
 ·rw[HJ];omega
 ·rw[HJ,Hk];omega
theorem Zj7 {g:Ac} (hg:g.ok) {all:List (List Ae)} (hI:TInv g all) {v:Nat} (hv:v < g.vars.toNat) {l:List Ae} (hl:Zca all 0 v (all.getD v [])=some l) (hf:Zjx (Zbf all l v)=true):TInv g (Zbf all l v):=by
 have h0:∀ w∈all.getD v [],TOk g 60 10 all.length true w:=fun w hw=>by
  have:=hI.ok v w hw;rw[Hu hv] at this;exact this
 have h160:(all.getD v []).length≤160:=by
  by_cases q:v < all.length
  ·refine hI.wide _ ?_;rw[Hf,Hj q];exact He q
  ·rw[Hf,HI (by omega)];simp
 obtain⟨k1,k2⟩:=ZlN hI v 0 (by omega) h0 h160 hl;obtain⟨f1,f2,f3⟩:=fitsT_iff.1 hf;have hi:=Zq4 hg hI hv k1;exact⟨Hq hI.vars (Zng all l v),f3,fun u w hw=>by
  obtain⟨q1,q2⟩:=f1 _ (ZsF hw).2 w hw;exact (hi u w hw).small _ _ q2 q1,fun l hl=>Hq (ZEJ hl) f2⟩
theorem Znh {g:Ac} (hg:g.ok):∀ (n v:Nat) {all z:List (List Ae)},v+n=g.vars.toNat→TInv g all→ZbF v n all=.ok z→TInv g z∧(0 < n→Zjx z=true)
 | 0,v,all,z,_,hI,h=>by rw[ZbF] at h;cases h;exact⟨hI,fun q=>by omega⟩
 | n+1,v,all,z,hv,hI,h=>by
  rw[ZbF] at h;cases hc:Zca all 0 v (all.getD v []) with
  | none=>rw[hc] at h;cases h
  | some l =>
   rw[hc] at h;dsimp only at h;split at h
   ·rename_i hf;have h1:=Zj7 hg hI (by omega) hc hf;obtain⟨k1,k2⟩:=Znh hg n (v+1) (by omega) h1 h;refine⟨k1,fun _=>?_⟩;cases n with
    | zero=>rw[ZbF] at h;cases h;exact hf
    | succ n=>exact k2 (by omega)
   ·cases h
theorem ZDF (r:Int) (k:Nat):kdL (ZaJ r k)=upTo k:=by
 unfold ZaJ;rw[kdL,kdF,Hb rfl,Zxn,kdL,Ht];rfl
theorem ZgC {g:Ac} (hg:g.ok) (he:∀ r∈g.Aa,r.right≠[]):TInv g (Za5 g):=by
 have hlen:=Zbm g;have hv:=hg.vars;refine⟨by rw[hlen];exact Hg _,by rw[hlen];omega,fun u w hw=>?_,fun l hl=>?_⟩
 ·by_cases hu:u < g.vars.toNat
  ·rw[Zb4 hu] at hw;obtain⟨i,hi,rfl⟩:=List.mem_map.1 hw;obtain⟨j,hj,rfl,_,e⟩:=ZkA hi;rw[e,hlen];have hm:=He hj;have h10:=hg.right _ hm;have hkl:=Zbj g.Aa[j].right;refine⟨⟨.inl ⟨rfl,by omega,by omega,Zxo _ _⟩,trivial⟩,?_,?_,h10,fun _=>he _ hm,fun _ _=>?_,fun s hs=>?_⟩
   ·rw[ZDF]
   ·simp only[ZaJ,Aj,fsz,Zfh];omega
   ·exact⟨⟨fun q=>absurd q.1 (by decide),Zxp _⟩,trivial⟩
   ·have:=hg.lo _ hm s hs;have:=hg.hi _ hm s hs;omega
  ·rw[Zd1 hu] at hw;cases hw
 ·obtain⟨v,_,rfl⟩:=List.mem_map.1 hl;have h1:(Zcx g v).length=(by_ g v).length:=by unfold Zcx;rw[Hi]
  have h2:=Zpb v g.Aa 0;have h3:=hg.Aa;rw[h1];show (byR g.Aa v 0).length≤160;omega
def Zho (g:Ac):Option Nat:=g.Aa.findIdx? fun r=>decide (r.right.length=0)
def ZfO (g:Ac):Step×Zcf :=
 if (Zac g).code=0 then
  match Zho g with
  | some i=>(Ag,⟨11,i⟩)
  | none=>if 0 < (cycL g).length then (Ag,⟨10, -1⟩) else
   match ZbF 0 g.vars.toNat (Za5 g) with
   | .error v=>(Ag,⟨6,(v:Nat)⟩)
   | .ok z=>(⟨⟨(z.length:Nat),g.terms,g.start,Zbh z 0⟩,ZaU z,[]⟩,⟨0,0⟩)
 else (Ag,Zac g)
theorem Zjv {g:Ac} (h:Zho g=none):∀ r∈g.Aa,r.right≠[]:=fun r hr q=>by
 unfold Zho at h;rw[List.findIdx?_eq_none_iff] at h;have:=h r hr;rw[q] at this;simp at this
theorem Zhp (g:Ac):(¬ (ZfO g).2.code=0∧(ZfO g).1=Ag)∨∃ z,g.ok∧(∀ r∈g.Aa,r.right≠[])∧cycL g=[]∧ZbF 0 g.vars.toNat (Za5 g)=.ok z∧ZfO g=(⟨⟨(z.length:Nat),g.terms,g.start,Zbh z 0⟩,ZaU z,[]⟩,⟨0,0⟩):=by
 unfold ZfO;by_cases h:(Zac g).code=0
 ·rw[Hb h];cases he:Zho g with
  | some i=>exact .inl ⟨by simp,rfl⟩
  | none =>
   dsimp only;by_cases hc:0 < (cycL g).length
   ·rw[Hb hc];exact .inl ⟨by simp,rfl⟩
   ·rw[Ha hc];cases ht:ZbF 0 g.vars.toNat (Za5 g) with
    | error v=>exact .inl ⟨by simp,rfl⟩
    | ok z=>exact .inr ⟨z,Zbd h,Zjv he,List.length_eq_zero_iff.1 (by omega),rfl,rfl⟩
 ·rw[Ha h];exact .inl ⟨h,rfl⟩
theorem Zni:∀ (z:List (List Ae)) (v:Nat),(Zbh z v).length=(z.map List.length).sum
 | [],_=>rfl
 | l::r,v=>by rw[Zbh,Hk,Hi,Zni r (v+1),Hm,List.sum_cons]
section
variable {g:Ac} (hg:g.ok) (he:∀ r∈g.Aa,r.right≠[]) {z:List (List Ae)} (hz:ZbF 0 g.vars.toNat (Za5 g)=.ok z)
include hg he hz
theorem Zj8:TInv g z∧Zjx z=true:=by
 obtain⟨h1,h2⟩:=Znh hg g.vars.toNat 0 (by omega) (ZgC hg he) hz;exact⟨h1,h2 (by have:=hg.vars1;omega)⟩
theorem Zj9:(⟨(z.length:Nat),g.terms,g.start,Zbh z 0⟩:Ac).ok:=by
 obtain⟨hI,hf⟩:=Zj8 hg he hz;obtain⟨f1,f2,f3⟩:=fitsT_iff.1 hf;have h1:=hg.vars1;have h2:=hg.start;have h3:=hI.vars;have hm:∀ r∈Zbh z 0,0≤r.left∧r.left < (z.length:Int)∧r.right.length≤10∧∀ s∈r.right, -g.terms≤s∧s < (z.length:Int):=fun r hr=>by
  obtain⟨b1,b2,w,b3,b4⟩:=Zfr hr;have hw:=hI.ok _ w b3;rw[b4];exact⟨by omega,by omega,hw.rl,hw.sym⟩
 exact⟨by show (1:Int)≤(z.length:Int);omega,by show (z.length:Int)≤64;omega,hg.terms0,hg.terms,hg.start0,by show g.start < (z.length:Int);omega,by rw[Zni];exact f2,fun r hr=>(hm r hr).2.2.1,fun r hr=>(hm r hr).1,fun r hr=>(hm r hr).2.1,fun r hr s hs=>((hm r hr).2.2.2 s hs).1,fun r hr s hs=>((hm r hr).2.2.2 s hs).2⟩
theorem ZvS:Zam g ⟨⟨(z.length:Nat),g.terms,g.start,Zbh z 0⟩,ZaU z,[]⟩=⟨0,0⟩:=by
 obtain⟨hI,hf⟩:=Zj8 hg he hz;refine Zki hg (Zj9 hg he hz) rfl (ZnL fun l hl w hw=>?_);obtain⟨u,hu,rfl⟩:=List.mem_iff_getElem.1 hl;have:=hI.ok u w (by rw[Hf,Hj hu];exact hw);exact ZEI this.wf this.kd this.sz
theorem Zzx:(ZaU z).length=(Zbh z 0).length∧∀ l∈ZaU z,Aj l≤60:=by
 obtain⟨hI,hf⟩:=Zj8 hg he hz;obtain⟨f1,f2,f3⟩:=fitsT_iff.1 hf;have h1:∀ (a:List (List Ae)) (v:Nat),(ZaU a).length=(Zbh a v).length:=by
  intro a
  induction a with
  | nil=>intro v;rfl
  | cons l a ih=>intro v;rw[ZaU,Zbh,Hk,Hk,Hi,Hi,ih (v+1)]
 refine⟨h1 z 0,fun l hl=>?_⟩;have h2:∀ a:List (List Ae),l∈ZaU a→∃ k∈a,∃ w∈k,l=w.l:=by
  intro a
  induction a with
  | nil=>intro h;simp[ZaU] at h
  | cons k a ih =>
   intro h;rw[ZaU] at h;rcases List.mem_append.1 h with h|h
   ·obtain⟨w,hw,rfl⟩:=List.mem_map.1 h;exact⟨k,by simp,w,hw,rfl⟩
   ·obtain⟨k',q1,w,q2,q3⟩:=ih h;exact⟨k',by simp[q1],w,q2,q3⟩
 obtain⟨k,hk,w,hw,rfl⟩:=h2 z hl;exact (f1 k hk w hw).2
end
theorem Znj {g:Ac} (h:(ZfO g).2.code=0):Zam g (ZfO g).1=⟨0,0⟩:=by
 rcases Zhp g with ⟨h1,_⟩|⟨z,hg,he,_,hz,e⟩
 ·exact absurd h h1
 ·rw[e];exact ZvS hg he hz
theorem Zq5 (g:Ac):(ZfO g).1.fit:=by
 rcases Zhp g with ⟨_,e⟩|⟨z,hg,he,_,hz,e⟩
 ·rw[e];exact⟨⟨by decide,fun r hr=>by simp[Ag] at hr⟩,by decide,fun l hl=>by simp[Ag] at hl,by decide⟩
 ·rw[e];have hk:=Zj9 hg he hz;obtain⟨h1,h2⟩:=Zzx hg he hz;have:=hk.Aa;exact⟨hk.fit,by show (ZaU z).length≤_;rw[h1];exact Hq hk.Aa (by decide),fun l hl=>Hq (h2 l hl) (by decide),by simp[cnts]⟩
end Go.Proofs.YtbpmepgnjanhnaaGreat
