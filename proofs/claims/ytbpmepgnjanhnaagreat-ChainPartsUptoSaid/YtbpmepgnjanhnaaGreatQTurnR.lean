import Derived.Test.YtbpmepgnjanhnaaGreatQFactorR
import Derived.Test.YtbpmepgnjanhnaaGreatF2
import Derived.Test.YtbpmepgnjanhnaaGreatQTreeA
import Derived.Test.YtbpmepgnjanhnaaGreatS5
set_option linter.unusedVariables false
set_option linter.unusedSimpArgs false
set_option linter.unusedSectionVars false
namespace Go.Proofs.YtbpmepgnjanhnaaGreat
open Go.RowKit
theorem ZpW {u:List Int} {n:Int} (h0:0≤n) (h1:n < (u.length:Int)) (j:Nat):(bump u n).getD j 0=u.getD j 0+(if (j:Int)=n then 1 else 0):=by
 unfold bump
 rw[List.getD_eq_getElem?_getD,List.getElem?_set]
 by_cases e:n.toNat=j
 ·rw[if_pos e,if_pos (by omega),if_pos (by omega)]
  subst e
  rfl
 ·rw[if_neg e,if_neg (by omega),←List.getD_eq_getElem?_getD];simp
theorem Zgb (j n:Int) (l:List Int):((n::l).count j:Int)=(if j=n then 1 else 0)+(l.count j:Int):=by
 rw[List.count_cons]
 by_cases e:n=j
 ·subst e;simp;omega
 ·have:¬ j=n:=fun q=>e q.symm
  simp[e,this]
mutual
theorem Zyw {m:Int}:∀ (x:Frag) (u:List Int),wfF m x→(∀ n∈kdF x,0≤n∧n < (u.length:Int))→(usF m x u).1=true∧∀ j:Nat,(usF m x u).2.getD j 0=u.getD j 0+((kdF x).count (j:Int):Int)
 | .mk o n l,u,h,hk=>by
  rw[wfF] at h
  rw[usF]
  rcases h with ⟨rfl,h1,h2,hl⟩|⟨rfl,rfl⟩|⟨rfl,h1,rfl⟩|⟨rfl,hl⟩
  ·have e:kdF (.mk 1 n l)=kdL l:=by rw[kdF,if_pos rfl]
   rw[e] at hk ⊢
   rw[if_pos rfl,if_neg (by omega)]
   exact ZpX l u hl hk
  ·rw[Zsh] at hk ⊢
   have:=hk n (by simp)
   rw[if_neg (by decide),if_pos rfl,if_neg (by omega)]
   refine⟨rfl,fun j=>?_⟩
   rw[ZpW this.1 this.2,Zgb];simp
  ·have e:kdF (.mk 3 n [])=[]:=by rw[kdF,if_neg (by decide),if_neg (by decide),if_neg (by decide)]
   rw[e,if_neg (by decide),if_neg (by decide),if_neg (by decide),if_pos rfl]
   exact⟨rfl,fun j=>by simp⟩
  ·have e:kdF (.mk 4 n l)=n::kdL l:=by rw[kdF,if_neg (by decide),if_neg (by decide),if_pos rfl]
   rw[e] at hk ⊢
   have hn:=hk n (by simp)
   rw[if_neg (by decide),if_neg (by decide),if_pos rfl,if_neg (by omega)]
   obtain⟨k1,k2⟩:=ZpX l (bump u n) hl (fun x hx=>by rw[ZcH];exact hk x (by simp[hx]))
   refine⟨k1,fun j=>?_⟩
   rw[k2 j,ZpW hn.1 hn.2,Zgb];omega
theorem ZpX {m:Int}:∀ (l:List Frag) (u:List Int),wfL m l→(∀ n∈kdL l,0≤n∧n < (u.length:Int))→(usL m l u).1=true∧∀ j:Nat,(usL m l u).2.getD j 0=u.getD j 0+((kdL l).count (j:Int):Int)
 | [],u,_,_=>⟨rfl,fun j=>by simp[usL,kdL]⟩
 | x::r,u,h,hk=>by
  rw[kdL] at hk
  obtain⟨a1,a2⟩:=Zyw x u h.1 fun n hn=>hk n (by simp[hn])
  obtain⟨b1,b2⟩:=ZpX r (usF m x u).2 h.2 fun n hn=>by rw[ZnU];exact hk n (by simp[hn])
  rw[usL,a1]
  refine⟨b1,fun j=>?_⟩
  show (usL m r (usF m x u).2).2.getD j 0=_
  rw[b2 j,a2 j,kdL,List.count_append];omega
end
theorem Zm0:∀ (k j:Nat),j < k→(upTo k).count (j:Int)=1
 | 0,j,h=>by omega
 | k+1,j,h=>by
  rw[ZlV,List.count_append]
  by_cases e:j=k
  ·subst e
   have:(upTo j).count (j:Int)=0:=List.count_eq_zero.2 fun q=>by have:=upTo_mem.1 q;omega
   rw[this];simp
  ·rw[Zm0 k j (by omega),List.count_cons_of_ne (by omega)];simp
theorem Zyx {old:Gram} {l:List Frag} {right:List Int} (h:wfL old.rules.length l) (hk:(kdL l).Perm (upTo (kids right).length)) (hc:fszs l≤60):Zax old l right=0:=by
 have hb:∀ n∈kdL l,0≤n∧n < ((List.replicate (kids right).length (0:Int)).length:Int):=fun n hn=>by
  rw[List.length_replicate]
  exact upTo_mem.1 (hk.mem_iff.1 hn)
 obtain⟨k1,k2⟩:=ZpX (m:=old.rules.length) l _ h hb
 have hcp:=ZsP l
 rw[Zax,if_neg (by omega),if_pos]
 unfold Zia
 rw[k1,Bool.true_and,List.all_eq_true]
 intro x hx
 obtain⟨j,hj,rfl⟩:=List.mem_iff_getElem.1 hx
 have hlen:=ZkL old.rules.length l (List.replicate (kids right).length 0)
 rw[List.length_replicate] at hlen
 have:=k2 j
 rw[List.getD_eq_getElem?_getD,List.getElem?_eq_getElem hj,Option.getD_some] at this
 rw[this,hk.count_eq,List.getD_eq_getElem?_getD,List.getElem?_replicate,if_pos (by omega),Option.getD_some]
 have hcount:(upTo (kids right).length).count (j:Int)=1:=by
  exact Zm0 _ _ (by omega)
 rw[hcount];rfl
structure TOk (g:Gram) (B C N:Nat) (old:Bool) (x:Work):Prop where
 wf:wfL g.rules.length x.l
 kd:(kdL x.l).Perm (upTo (kids x.right).length)
 sz:fszs x.l≤B
 rl:x.right.length≤C
 ne:old=true→x.right≠[]
 nz:old=true→0≤hdI x.right→nzL x.l
 sym:∀ s∈x.right, -g.terms≤s∧s < (N:Int)
theorem TOk.mono {g:Gram} {B C N B' C' N':Nat} {old:Bool} {x:Work} (h:TOk g B C N old x) (h1:B≤B') (h2:C≤C') (h3:N≤N'):TOk g B' C' N' old x :=
 ⟨h.wf,h.kd,Nat.le_trans h.sz h1,Nat.le_trans h.rl h2,h.ne,h.nz,fun s hs=>by have:=h.sym s hs;omega⟩
theorem TOk.small {g:Gram} {B C N:Nat} {old:Bool} {x:Work} (h:TOk g B C N old x) (B' C':Nat) (h1:fszs x.l≤B') (h2:x.right.length≤C'):TOk g B' C' N old x:=⟨h.wf,h.kd,h1,h2,h.ne,h.nz,h.sym⟩
theorem TOk.nb {g:Gram} (hg:g.ok) {B C N:Nat} {old:Bool} {x:Work} (h:TOk g B C N old x) (hC:C≤1000000):NbL 1000000000 x.l:=by
 have:=hg.rules
 refine Zo9 (m:=g.rules.length) (by omega) (by omega) _ h.wf fun n hn=>?_
 have h1:=upTo_mem.1 (h.kd.mem_iff.1 hn)
 have h2:=Za3 x.right
 have h3:=h.rl
 omega
theorem TOk.kd0 {g:Gram} {B C N:Nat} {old:Bool} {x:Work} (h:TOk g B C N old x):∀ n∈kdL x.l,0≤n:=fun n hn=>(upTo_mem.1 (h.kd.mem_iff.1 hn)).1
theorem ZtQ {l:List Int} {u:Int} (hne:l≠[]) (h:hdI l=u):l=u::l.tail:=by
 cases l with
 | nil=>exact absurd rfl hne
 | cons a l=>simp only[hdI,List.headD_cons] at h;rw[h];rfl
theorem ZtR {g:Gram} {B C N B' C':Nat} {x y:Work} {u:Int} (hx:TOk g B C N true x) (hy:TOk g B' C' N true y) (hu:hdI x.right=u) (h0:0≤u):TOk g (B+B') (C+C') N true (mixW x y):=by
 have hne:=hx.ne rfl
 have hc:=ZtQ hne hu
 have hz:=hx.nz rfl (by omega)
 have hkx:(kids x.right).length=(kids x.right.tail).length+1:=by
  conv=>lhs;rw[hc]
  rw[show kids (u::x.right.tail)=u::kids x.right.tail from List.filter_cons_of_pos (by simpa using h0)];rfl
 have hkm:(kids (mixW x y).right).length=(kids y.right).length+(kids x.right.tail).length:=by
  show (kids (y.right++x.right.tail)).length=_
  simp[kids]
 have hl:(mixW x y).l=ptL 0 y.l (((kids y.right).length:Int) - 1) x.l:=by
  show Zgq x.l 0 y.l _=_
  unfold Zgq
  rw[Zco]
 have hxk:=hx.kd
 rw[hkx] at hxk
 refine⟨?_,?_,?_,?_,fun _=>?_,fun _ hh=>?_,fun s hs=>?_⟩
 ·rw[hl];exact ZhV hy.wf x.l hx.wf hz
 ·rw[hl,ZhU x.l hx.wf hz,hkm]
  exact Zpa hxk hy.kd
 ·rw[hl]
  have h1:=Zgs (b:=((kids y.right).length:Int) - 1) (inn:=y.l) x.l hx.wf hz
  have h2:=ZjA _ _ hx.kd
  have h3:(kdL x.l).count 0 * fszs y.l≤1 * fszs y.l:=Nat.mul_le_mul_right _ h2
  have:=hx.sz
  have:=hy.sz
  omega
 ·show (y.right++x.right.tail).length≤_
  have:=hx.rl
  have:=hy.rl
  rw[List.length_append,List.length_tail];omega
 ·show y.right++x.right.tail≠[]
  have:=hy.ne rfl
  intro q
  exact this (List.append_eq_nil_iff.1 q).1
 ·have hyn:=hy.ne rfl
  have hh2:hdI (mixW x y).right=hdI y.right:=by
   show hdI (y.right++x.right.tail)=_
   cases hq:y.right with
   | nil=>exact absurd hq hyn
   | cons a r=>rfl
  rw[hh2] at hh
  rw[hl]
  have hk1:1≤(kids y.right).length:=by
   cases hq:y.right with
   | nil=>exact absurd hq hyn
   | cons a r =>
    rw[hq] at hh
    simp only[hdI,List.headD_cons] at hh
    rw[show kids (a::r)=a::kids r from List.filter_cons_of_pos (by simpa using hh)]
    simp
  exact Zkv (hy.nz rfl hh) (by omega) x.l hx.wf hz hx.kd0
 ·rcases List.mem_append.1 (show s∈y.right++x.right.tail from hs) with h|h
  ·exact hy.sym s h
  ·exact hx.sym s (List.mem_of_mem_tail h)
theorem ZtS {g:Gram} (hg:g.ok) {B C N:Nat} {old:Bool} {x:Work} (hx:TOk g B C N old x):∀ y∈Zcb (N:Int) x,TOk g (B+1) (C+1) (N+1) old y:=fun y hy=>by
 simp only[Zcb,List.mem_cons,List.not_mem_nil,or_false] at hy
 rcases hy with rfl|rfl
 ·exact hx.mono (by omega) (by omega) (by omega)
 ·have ht:=hg.terms0
  have hk:(kids (x.right++[(N:Int)])).length=(kids x.right).length+1:=by
   simp[kids]
  refine⟨⟨.inr (.inr (.inr ⟨rfl,hx.wf⟩)),trivial⟩,?_,?_,?_,fun _=>by simp,fun ho hh=>?_,fun s hs=>?_⟩
  ·rw[hk,ZlV]
   have e:kdL [Frag.mk 4 ((kids x.right).length:Int) x.l]=((kids x.right).length:Int)::kdL x.l:=by
    rw[kdL,kdF,if_neg (by decide),if_neg (by decide),if_pos rfl,kdL,List.append_nil]
   rw[e]
   exact (hx.kd.cons _).trans (List.perm_append_singleton _ _).symm
  ·have:=hx.sz
   simp only[fszs,fsz];omega
  ·have:=hx.rl
   show (x.right++[(N:Int)]).length≤_
   rw[List.length_append,List.length_singleton];omega
  ·have hne:=hx.ne ho
   have hh2:hdI (x.right++[(N:Int)])=hdI x.right:=by
    cases hq:x.right with
    | nil=>exact absurd hq hne
    | cons a r=>rfl
   rw[hh2] at hh
   refine⟨⟨fun q=>?_,hx.nz ho hh⟩,trivial⟩
   have hk1:1≤(kids x.right).length:=by
    cases hq:x.right with
    | nil=>exact absurd hq hne
    | cons a r =>
     rw[hq] at hh
     simp only[hdI,List.headD_cons] at hh
     rw[show kids (a::r)=a::kids r from List.filter_cons_of_pos (by simpa using hh)]
     simp
   have:=q.2
   omega
  ·rcases List.mem_append.1 (show s∈x.right++[(N:Int)] from hs) with h|h
   ·have:=hx.sym s h;omega
   ·rw[List.mem_singleton.1 h];omega
def ZgR (x:Work):Work:=⟨x.right.tail,Zgq x.l 0 [gapF] 0⟩
theorem Zm1 {g:Gram} {B C N:Nat} {x:Work} (hx:TOk g B C N true x) (h0:0≤hdI x.right):TOk g (B+1) C N false (ZgR x):=by
 have hne:=hx.ne rfl
 have hc:=ZtQ hne rfl
 have hz:=hx.nz rfl h0
 have hkx:(kids x.right).length=(kids x.right.tail).length+1:=by
  conv=>lhs;rw[hc]
  rw[show kids (hdI x.right::x.right.tail)=hdI x.right::kids x.right.tail from List.filter_cons_of_pos (by simpa using h0)];rfl
 have hl:(ZgR x).l=ptL 0 [gapF] (-1) x.l:=by
  show Zgq x.l 0 [gapF] 0=_
  unfold Zgq
  rw[Zco];rfl
 have hxk:=hx.kd
 rw[hkx] at hxk
 refine⟨?_,?_,?_,?_,fun q=>(by cases q),fun q=>(by cases q),fun s hs=>hx.sym s (List.mem_of_mem_tail hs)⟩
 ·rw[hl];exact ZhV (inn:=[gapF]) (show wfL _ [gapF] from ⟨.inr (.inr (.inl ⟨rfl,rfl,rfl⟩)),trivial⟩) x.l hx.wf hz
 ·rw[hl,ZhU x.l hx.wf hz]
  have:=Zpa (k:=(kids x.right.tail).length) (ki:=0) (inn:=[]) hxk (List.Perm.refl _)
  simp only[Nat.zero_add] at this
  exact this
 ·rw[hl]
  have h1:=Zgs (b := -1) (inn:=[gapF]) x.l hx.wf hz
  have h2:=ZjA _ _ hx.kd
  have h3:(kdL x.l).count 0 * fszs [gapF]≤1 * fszs [gapF]:=Nat.mul_le_mul_right _ h2
  have h4:fszs [gapF]=1:=rfl
  have:=hx.sz
  omega
 ·have:=hx.rl
  show x.right.tail.length≤_
  rw[List.length_tail];omega
structure TInv (g:Gram) (all:List (List Work)):Prop where
 vars:g.vars.toNat≤all.length
 len:all.length≤64
 ok:∀ u,∀ w∈all.getD u [],TOk g 60 10 all.length (decide (u < g.vars.toNat)) w
 wide:∀ l∈all,l.length≤160
theorem Zj6 {g:Gram} {B N:Nat} {x:Work} {u:Int} (hx:TOk g B 10 N true x) (hu:hdI x.right=u) (h0:0≤u) {Q:Work→Prop} (hQ:∀ y,TOk g 60 10 N true y→(mixW x y).right.length≤10→Q (mixW x y)):∀ {ys out out':List Work},(∀ y∈ys,TOk g 60 10 N true y)→(∀ w∈out,Q w)→Zcp x ys out=some out'→(∀ w∈out',Q w)∧(out.length≤160→out'.length≤160)
 | [],out,out',_,ho,h=>by rw[Zcp] at h;cases h;exact⟨ho,fun q=>q⟩
 | y::ys,out,out',hy,ho,h=>by
  rw[Zcp] at h
  split at h
  ·cases h
  ·rename_i hn
   simp only[not_or,Nat.not_lt] at hn
   obtain⟨k1,k2⟩:=Zj6 hx hu h0 hQ (fun z hz=>hy z (by simp[hz])) (fun w hw=>by
    rcases List.mem_append.1 hw with hw|hw
    ·exact ho w hw
    ·rw[List.mem_singleton.1 hw];exact hQ y (hy y (by simp)) hn.1) h
   exact⟨k1,fun _=>k2 hn.2⟩
theorem Zgc {g:Gram} {B N:Nat} {A:List Work} {u:Int} (h0:0≤u) (hA:∀ y∈A,TOk g 60 10 N true y):∀ {l out l':List Work},(∀ w∈l,TOk g B 10 N true w)→(∀ w∈out,TOk g (B+60) 10 N true w)→Zcl A u l out=some l'→(∀ w∈l',TOk g (B+60) 10 N true w)∧l'.length≤160
 | [],out,l',_,ho,h=>by
  rw[Zcl] at h
  split at h
  ·cases h
  ·cases h;exact⟨ho,by omega⟩
 | x::l,out,l',hl,ho,h=>by
  have hx:=hl x (by simp)
  rw[Zcl] at h
  split at h
  ·exact Zgc h0 hA (fun w hw=>hl w (by simp[hw])) (fun w hw=>by
    rcases List.mem_append.1 hw with hw|hw
    ·exact ho w hw
    ·rw[List.mem_singleton.1 hw];exact hx.mono (by omega) (Nat.le_refl _) (Nat.le_refl _)) h
  ·rename_i hu
   have hu:hdI x.right=u:=Classical.byContradiction fun q=>hu q
   cases hc:Zcp x A out with
   | none=>rw[hc] at h;cases h
   | some out1 =>
    rw[hc] at h
    obtain⟨k1,_⟩:=Zj6 hx hu h0 (Q:=fun w=>TOk g (B+60) 10 N true w) (fun y hy hr=>(ZtR hx hy hu h0).small _ _ (ZtR hx hy hu h0).sz hr) hA ho hc
    exact Zgc h0 hA (fun w hw=>hl w (by simp[hw])) k1 h
theorem Zm2 {g:Gram} {all:List (List Work)} (hI:TInv g all):∀ (n u:Nat) {B:Nat} {l l':List Work},u+n≤g.vars.toNat→(∀ w∈l,TOk g B 10 all.length true w)→l.length≤160→ZdK all u n l=some l'→(∀ w∈l',TOk g (B+60 * n) 10 all.length true w)∧l'.length≤160
 | 0,u,B,l,l',_,hl,h160,h=>by
  rw[ZdK] at h;cases h
  exact⟨fun w hw=>(hl w hw).mono (by omega) (Nat.le_refl _) (Nat.le_refl _),h160⟩
 | n+1,u,B,l,l',hn,hl,h160,h=>by
  rw[ZdK] at h
  cases hc:Zcl (all.getD u []) u l [] with
  | none=>rw[hc] at h;cases h
  | some l1 =>
   rw[hc] at h
   obtain⟨k1,k2⟩:=Zgc (by omega) (fun y hy=>by
    have:=hI.ok u y hy
    rw[decide_eq_true (show u < g.vars.toNat by omega)] at this;exact this) hl (fun w hw=>by cases hw) hc
   obtain⟨j1,j2⟩:=Zm2 hI n (u+1) (by omega) k1 k2 h
   exact⟨fun w hw=>(j1 w hw).mono (by omega) (Nat.le_refl _) (Nat.le_refl _),j2⟩
theorem fitsT_iff {all:List (List Work)}:Zhl all=true↔(∀ l∈all,∀ w∈l,w.right.length≤10∧fszs w.l≤60)∧(all.map List.length).sum≤160∧all.length≤64:=by
 unfold Zhl
 simp only[Bool.and_eq_true,List.all_eq_true,decide_eq_true_eq,and_assoc]
theorem Zyy {all:List (List Work)} {l:List Work} (h:l∈all):l.length≤(all.map List.length).sum:=by
 induction all with
 | nil=>cases h
 | cons a all ih =>
  rw[List.map_cons,List.sum_cons]
  rcases List.mem_cons.1 h with rfl|h
  ·omega
  ·have:=ih h;omega
theorem Zok {all:List (List Work)} {u:Nat} {w:Work} (h:w∈all.getD u []):u < all.length∧all.getD u []∈all:=by
 by_cases hu:u < all.length
 ·refine⟨hu,?_⟩
  rw[List.getD_eq_getElem?_getD,List.getElem?_eq_getElem hu];exact List.getElem_mem hu
 ·rw[List.getD_eq_getElem?_getD,List.getElem?_eq_none (by omega)] at h;cases h
theorem Zm3 {g:Gram} (hg:g.ok) {all:List (List Work)} (hI:TInv g all) {v B:Nat} (hv:v < g.vars.toNat) {l:List Work} (hl:∀ w∈l,TOk g B 10 all.length true w):∀ u,∀ w∈(Zbk all l v).getD u [],TOk g (B+62) 11 (Zbk all l v).length (decide (u < g.vars.toNat)) w:=by
 have hva:v < all.length:=Nat.lt_of_lt_of_le hv hI.vars
 intro u w hw
 unfold Zbk at hw ⊢
 split at hw
 ·rename_i h0
  rw[if_pos h0,List.length_set]
  by_cases huv:u=v
  ·subst huv
   rw[List.getD_eq_getElem?_getD,List.getElem?_set_self hva,Option.getD_some] at hw
   rw[decide_eq_true hv]
   exact (hl w hw).mono (by omega) (by omega) (Nat.le_refl _)
  ·rw[List.getD_eq_getElem?_getD,List.getElem?_set_ne (fun e=>huv e.symm),←List.getD_eq_getElem?_getD] at hw
   exact (hI.ok u w hw).mono (by omega) (by omega) (Nat.le_refl _)
 ·rename_i h0
  rw[if_neg h0,List.length_set,List.length_append,List.length_singleton]
  by_cases huv:u=v
  ·subst huv
   rw[List.getD_eq_getElem?_getD,List.getElem?_set_self (by simp;omega),Option.getD_some] at hw
   obtain⟨x,hx,hw⟩:=List.mem_flatMap.1 hw
   rw[decide_eq_true hv]
   exact (ZtS hg (hl x (List.mem_filter.1 hx).1) w hw).mono (by omega) (by omega) (Nat.le_refl _)
  ·rw[List.getD_eq_getElem?_getD,List.getElem?_set_ne (fun e=>huv e.symm),←List.getD_eq_getElem?_getD] at hw
   by_cases hua:u < all.length
   ·rw[List.getD_eq_getElem?_getD,List.getElem?_append_left hua,←List.getD_eq_getElem?_getD] at hw
    exact (hI.ok u w hw).mono (by omega) (by omega) (by omega)
   ·by_cases hue:u=all.length
    ·subst hue
     rw[List.getD_eq_getElem?_getD,List.getElem?_append_right (Nat.le_refl _),Nat.sub_self] at hw
     have hw:w∈(ownW v l).flatMap (Zcb all.length):=hw
     obtain⟨x,hx,hw⟩:=List.mem_flatMap.1 hw
     obtain⟨y,hy,rfl⟩:=List.mem_map.1 hx
     obtain⟨hy1,hy2⟩:=List.mem_filter.1 hy
     have hy2:=of_decide_eq_true hy2
     have:=ZtS hg (Zm1 (hl y hy1) (by rw[hy2];omega)) w hw
     rw[decide_eq_false (by have:=hI.vars;omega)]
     exact this.mono (by omega) (by omega) (Nat.le_refl _)
    ·rw[List.getD_eq_getElem?_getD,List.getElem?_eq_none (by simp;omega)] at hw
     cases hw
theorem Zj7 (all:List (List Work)) (l:List Work) (v:Nat):all.length≤(Zbk all l v).length:=by
 unfold Zbk
 split
 ·rw[List.length_set];omega
 ·rw[List.length_set,List.length_append];omega
theorem ZpY {g:Gram} (hg:g.ok) {all:List (List Work)} (hI:TInv g all) {v:Nat} (hv:v < g.vars.toNat) {l:List Work} (hl:ZdK all 0 v (all.getD v [])=some l) (hf:Zhl (Zbk all l v)=true):TInv g (Zbk all l v):=by
 have h0:∀ w∈all.getD v [],TOk g 60 10 all.length true w:=fun w hw=>by
  have:=hI.ok v w hw
  rw[decide_eq_true hv] at this;exact this
 have h160:(all.getD v []).length≤160:=by
  by_cases q:v < all.length
  ·refine hI.wide _ ?_
   rw[List.getD_eq_getElem?_getD,List.getElem?_eq_getElem q];exact List.getElem_mem q
  ·rw[List.getD_eq_getElem?_getD,List.getElem?_eq_none (by omega)];simp
 obtain⟨k1,k2⟩:=Zm2 hI v 0 (by omega) h0 h160 hl
 obtain⟨f1,f2,f3⟩:=fitsT_iff.1 hf
 have hi:=Zm3 hg hI hv k1
 exact⟨Nat.le_trans hI.vars (Zj7 all l v),f3,fun u w hw=>by
  obtain⟨q1,q2⟩:=f1 _ (Zok hw).2 w hw
  exact (hi u w hw).small _ _ q2 q1,fun l hl=>Nat.le_trans (Zyy hl) f2⟩
theorem Zj8 {g:Gram} (hg:g.ok):∀ (n v:Nat) {all z:List (List Work)},v+n=g.vars.toNat→TInv g all→Zcc v n all=.ok z→TInv g z∧(0 < n→Zhl z=true)
 | 0,v,all,z,_,hI,h=>by rw[Zcc] at h;cases h;exact⟨hI,fun q=>by omega⟩
 | n+1,v,all,z,hv,hI,h=>by
  rw[Zcc] at h
  cases hc:ZdK all 0 v (all.getD v []) with
  | none=>rw[hc] at h;cases h
  | some l =>
   rw[hc] at h
   dsimp only at h
   split at h
   ·rename_i hf
    have h1:=ZpY hg hI (by omega) hc hf
    obtain⟨k1,k2⟩:=Zj8 hg n (v+1) (by omega) h1 h
    refine⟨k1,fun _=>?_⟩
    cases n with
    | zero=>rw[Zcc] at h;cases h;exact hf
    | succ n=>exact k2 (by omega)
   ·cases h
theorem Zxt (r:Int) (k:Nat):kdL (ZaQ r k)=upTo k:=by
 unfold ZaQ
 rw[kdL,kdF,if_pos rfl,Zse,kdL,List.append_nil];rfl
theorem Zj9 {g:Gram} (hg:g.ok) (he:∀ r∈g.rules,r.right≠[]):TInv g (Za0 g):=by
 have hlen:=Zbv g
 have hv:=hg.vars
 refine⟨by rw[hlen];exact Nat.le_refl _,by rw[hlen];omega,fun u w hw=>?_,fun l hl=>?_⟩
 ·by_cases hu:u < g.vars.toNat
  ·rw[ZeH hu] at hw
   obtain⟨i,hi,rfl⟩:=List.mem_map.1 hw
   obtain⟨j,hj,rfl,_,e⟩:=Zo5 hi
   rw[e,hlen]
   have hm:=List.getElem_mem hj
   have h10:=hg.right _ hm
   have hkl:=Za3 g.rules[j].right
   refine⟨⟨.inl ⟨rfl,by omega,by omega,Zsf _ _⟩,trivial⟩,?_,?_,h10,fun _=>he _ hm,fun _ _=>?_,fun s hs=>?_⟩
   ·rw[Zxt]
   ·simp only[ZaQ,fszs,fsz,ZdX];omega
   ·exact⟨⟨fun q=>absurd q.1 (by decide),Zsg _⟩,trivial⟩
   ·have:=hg.lo _ hm s hs
    have:=hg.hi _ hm s hs
    omega
  ·rw[Zjv hu] at hw;cases hw
 ·obtain⟨v,_,rfl⟩:=List.mem_map.1 hl
  have h1:(Zdx g v).length=(by_ g v).length:=by unfold Zdx;rw[List.length_map]
  have h2:=ZlA v g.rules 0
  have h3:=hg.rules
  rw[h1]
  show (byR g.rules v 0).length≤160
  omega
def Zfp (g:Gram):Option Nat:=g.rules.findIdx? fun r=>decide (r.right.length=0)
def Ze0 (g:Gram):Step×Fault :=
 if (Zac g).code=0 then
  match Zfp g with
  | some i=>(zeroStep,⟨11,i⟩)
  | none=>if 0 < (cycL g).length then (zeroStep,⟨10, -1⟩) else
   match Zcc 0 g.vars.toNat (Za0 g) with
   | .error v=>(zeroStep,⟨6,(v:Nat)⟩)
   | .ok z=>(⟨⟨(z.length:Nat),g.terms,g.start,Zbq z 0⟩,Zbr z,[]⟩,⟨0,0⟩)
 else (zeroStep,Zac g)
theorem Zhg {g:Gram} (h:Zfp g=none):∀ r∈g.rules,r.right≠[]:=fun r hr q=>by
 unfold Zfp at h
 rw[List.findIdx?_eq_none_iff] at h
 have:=h r hr
 rw[q] at this
 simp at this
theorem ZiH (g:Gram):(¬ (Ze0 g).2.code=0∧(Ze0 g).1=zeroStep)∨∃ z,g.ok∧(∀ r∈g.rules,r.right≠[])∧cycL g=[]∧Zcc 0 g.vars.toNat (Za0 g)=.ok z∧Ze0 g=(⟨⟨(z.length:Nat),g.terms,g.start,Zbq z 0⟩,Zbr z,[]⟩,⟨0,0⟩):=by
 unfold Ze0
 by_cases h:(Zac g).code=0
 ·rw[if_pos h]
  cases he:Zfp g with
  | some i=>exact .inl ⟨by simp,rfl⟩
  | none =>
   dsimp only
   by_cases hc:0 < (cycL g).length
   ·rw[if_pos hc];exact .inl ⟨by simp,rfl⟩
   ·rw[if_neg hc]
    cases ht:Zcc 0 g.vars.toNat (Za0 g) with
    | error v=>exact .inl ⟨by simp,rfl⟩
    | ok z=>exact .inr ⟨z,Za1 h,Zhg he,List.length_eq_zero_iff.1 (by omega),rfl,rfl⟩
 ·rw[if_neg h];exact .inl ⟨h,rfl⟩
theorem Zka:∀ (z:List (List Work)) (v:Nat),(Zbq z v).length=(z.map List.length).sum
 | [],_=>rfl
 | l::r,v=>by rw[Zbq,List.length_append,List.length_map,Zka r (v+1),List.map_cons,List.sum_cons]
section
variable {g:Gram} (hg:g.ok) (he:∀ r∈g.rules,r.right≠[]) {z:List (List Work)} (hz:Zcc 0 g.vars.toNat (Za0 g)=.ok z)
include hg he hz
theorem Zlf:TInv g z∧Zhl z=true:=by
 obtain⟨h1,h2⟩:=Zj8 hg g.vars.toNat 0 (by omega) (Zj9 hg he) hz
 exact⟨h1,h2 (by have:=hg.vars1;omega)⟩
theorem Zlg:(⟨(z.length:Nat),g.terms,g.start,Zbq z 0⟩:Gram).ok:=by
 obtain⟨hI,hf⟩:=Zlf hg he hz
 obtain⟨f1,f2,f3⟩:=fitsT_iff.1 hf
 have h1:=hg.vars1
 have h2:=hg.start
 have h3:=hI.vars
 have hm:∀ r∈Zbq z 0,0≤r.left∧r.left < (z.length:Int)∧r.right.length≤10∧∀ s∈r.right, -g.terms≤s∧s < (z.length:Int):=fun r hr=>by
  obtain⟨b1,b2,w,b3,b4⟩:=Zff hr
  have hw:=hI.ok _ w b3
  rw[b4]
  exact⟨by omega,by omega,hw.rl,hw.sym⟩
 exact⟨by show (1:Int)≤(z.length:Int);omega,by show (z.length:Int)≤64;omega,hg.terms0,hg.terms,hg.start0,by show g.start < (z.length:Int);omega,by rw[Zka];exact f2,fun r hr=>(hm r hr).2.2.1,fun r hr=>(hm r hr).1,fun r hr=>(hm r hr).2.1,fun r hr s hs=>((hm r hr).2.2.2 s hs).1,fun r hr s hs=>((hm r hr).2.2.2 s hs).2⟩
theorem Zrc:Zar g ⟨⟨(z.length:Nat),g.terms,g.start,Zbq z 0⟩,Zbr z,[]⟩=⟨0,0⟩:=by
 obtain⟨hI,hf⟩:=Zlf hg he hz
 refine Zib hg (Zlg hg he hz) rfl (Zkt fun l hl w hw=>?_)
 obtain⟨u,hu,rfl⟩:=List.mem_iff_getElem.1 hl
 have:=hI.ok u w (by rw[List.getD_eq_getElem?_getD,List.getElem?_eq_getElem hu];exact hw)
 exact Zyx this.wf this.kd this.sz
theorem ZtT:(Zbr z).length=(Zbq z 0).length∧∀ l∈Zbr z,fszs l≤60:=by
 obtain⟨hI,hf⟩:=Zlf hg he hz
 obtain⟨f1,f2,f3⟩:=fitsT_iff.1 hf
 have h1:∀ (a:List (List Work)) (v:Nat),(Zbr a).length=(Zbq a v).length:=by
  intro a
  induction a with
  | nil=>intro v;rfl
  | cons l a ih=>intro v;rw[Zbr,Zbq,List.length_append,List.length_append,List.length_map,List.length_map,ih (v+1)]
 refine⟨h1 z 0,fun l hl=>?_⟩
 have h2:∀ a:List (List Work),l∈Zbr a→∃ k∈a,∃ w∈k,l=w.l:=by
  intro a
  induction a with
  | nil=>intro h;simp[Zbr] at h
  | cons k a ih =>
   intro h
   rw[Zbr] at h
   rcases List.mem_append.1 h with h|h
   ·obtain⟨w,hw,rfl⟩:=List.mem_map.1 h
    exact⟨k,by simp,w,hw,rfl⟩
   ·obtain⟨k',q1,w,q2,q3⟩:=ih h
    exact⟨k',by simp[q1],w,q2,q3⟩
 obtain⟨k,hk,w,hw,rfl⟩:=h2 z hl
 exact (f1 k hk w hw).2
end
theorem Zrd {g:Gram} (h:(Ze0 g).2.code=0):Zar g (Ze0 g).1=⟨0,0⟩:=by
 rcases ZiH g with ⟨h1,_⟩|⟨z,hg,he,_,hz,e⟩
 ·exact absurd h h1
 ·rw[e];exact Zrc hg he hz
theorem Zm4 (g:Gram):(Ze0 g).1.fit:=by
 rcases ZiH g with ⟨_,e⟩|⟨z,hg,he,_,hz,e⟩
 ·rw[e];exact⟨⟨by decide,fun r hr=>by simp[zeroStep] at hr⟩,by decide,fun l hl=>by simp[zeroStep] at hl,by decide⟩
 ·rw[e]
  have hk:=Zlg hg he hz
  obtain⟨h1,h2⟩:=ZtT hg he hz
  have:=hk.rules
  exact⟨hk.fit,by show (Zbr z).length≤_;rw[h1];exact Nat.le_trans hk.rules (by decide),fun l hl=>Nat.le_trans (h2 l hl) (by decide),by simp[cnts]⟩
set_option maxRecDepth 100000
set_option maxHeartbeats 4000000 in
theorem Zm5:∀ (N:Nat) {t:Bool} {l:List Frag} {o b:Int},fszs l < N→fszs l≤100000000→NbL 1000000000 l → -1000000000≤b→b≤1000000000→ACalls Tryz.prog 201 [.d (Zah t l),I o,I b] [] (.d (Zah false (movL o b l))) []:=by
 intro N
 induction N with
 | zero=>intro t l o b h;omega
 | succ N ih =>
 intro t l o b hn hN hB hb0 hb1
 have hl:=Nat.le_trans (Zbs l) hN
 refine ACalls.intro (n:=52) Tryz.func201 rfl rfl (by simp) (by rfl) ?_
 simp only[Zal]
 refine VA ?_
 refine Zbi 7 900 102 3 rfl rfl rfl ?_
 refine Zak (X:=Nat) (fun i=>i≤l.length) (fun i=>[(13,I i),(12,I l.length),(11,.d (Zah t l)),(7,.own 900 (movL o b (l.take i)).length),(1,I o),(2,I b)]) (fun i=>[(900,.row 102 3 ((movL o b (l.take i)).map (ZaG false)))]) (fun i=>l.length - i) 0 (Nat.zero_le _) ?_
 intro i h1
 by_cases hlt:i < l.length
 ·have e1:=Zsa (o:=o) (b:=b) hlt
  have e2:=ZwK o b l[i]
  have e3:=Zdt (List.getElem_mem hlt)
  have e4:=Ze8 l[i]
  have hm:=Zo6 o b (l.take i)
  obtain⟨⟨n0,n1⟩,hB2⟩:=Zwo (ZnN hB (List.getElem_mem hlt))
  have hih:=ih (t:=t) (l:=l[i].l) (o:=o) (b:=b) (by omega) (by omega) hB2 hb0 hb1
  have e:(movL o b (l.take i)).map (ZaG false)++[D.agg [iD l[i].op,iD (mvN l[i].op l[i].n o b),Zah false (movL o b l[i].l)]]=(movL o b (l.take (i+1))).map (ZaG false):=by rw[e1,e2,List.map_append];simp only[List.map_cons,List.map_nil,ZbQ];rfl
  have hlen:(movL o b (l.take i)).length≤100000000:=by rw[hm,List.length_take];omega
  by_cases hop:l[i].op=2∨l[i].op=4
  ·by_cases hov:o < l[i].n
   ·rw[show mvN l[i].op l[i].n o b=l[i].n+b from if_pos ⟨hop,hov⟩] at e
    replace e:(movL o b (l.take i)).map (ZaG false)++[D.agg [iD l[i].op,.raw (.int .i64 (l[i].n+b)),Zah false (movL o b l[i].l)]]=(movL o b (l.take (i+1))).map (ZaG false):=e
    rcases hop with hop|hop
    ·refine VA ?_
     refine Zab [] (hA:=hih) (hr:=?_)
     refine VA ?_
     rw[e,List.length_map]
     exact Zae (i+1)
    ·refine VA ?_
     refine Zab [] (hA:=hih) (hr:=?_)
     refine VA ?_
     rw[e,List.length_map]
     exact Zae (i+1)
   ·rw[show mvN l[i].op l[i].n o b=l[i].n from if_neg (fun h=>hov h.2)] at e
    rcases hop with hop|hop
    ·refine VA ?_
     refine Zab [] (hA:=hih) (hr:=?_)
     refine VA ?_
     rw[e,List.length_map]
     exact Zae (i+1)
    ·refine VA ?_
     refine Zab [] (hA:=hih) (hr:=?_)
     refine VA ?_
     rw[e,List.length_map]
     exact Zae (i+1)
  ·rw[show mvN l[i].op l[i].n o b=l[i].n from if_neg (fun h=>hop h.1)] at e
   have h2:¬ l[i].op=2:=fun h=>hop (.inl h)
   have h4:¬ l[i].op=4:=fun h=>hop (.inr h)
   refine VA ?_
   refine Zab [] (hA:=hih) (hr:=?_)
   refine VA ?_
   (repeat (first|refine wkz ?_|refine Zaa (hr:=?_)))
   refine VA ?_
   rw[e,List.length_map]
   exact Zae (i+1)
 ·rw[show l.take i=l from List.take_of_length_le (by omega)]
  refine Zav 900 rfl ?_
  refine VA ?_
  exact fin
set_option maxHeartbeats 4000000 in
theorem Zv5:∀ (N:Nat) {t u:Bool} {l w:List Frag},fszs l < N→fszs l * (1+fszs w)≤100000000→ACalls Tryz.prog 226 [.d (Zah false l),.d (Zah false w)] [] (.d (Zah false (gpL w l))) []:=by
 intro N
 induction N with
 | zero=>intro t u l w h;omega
 | succ N ih =>
 intro t u l w hn hN
 have hcl:fszs l≤fszs l * (1+fszs w):=Nat.le_mul_of_pos_right _ (by omega)
 have hl:=Nat.le_trans (Zbs l) (Nat.le_trans hcl hN)
 refine ACalls.intro (n:=34) Tryz.func226 rfl rfl (by simp) (by rfl) ?_
 simp only[Zal]
 refine VA ?_
 refine Zbi 5 900 102 3 rfl rfl rfl ?_
 refine Zak (X:=Nat) (fun i=>i≤l.length) (fun i=>[(10,I i),(9,I l.length),(8,.d (Zah false l)),(5,.own 900 (gpL w (l.take i)).length),(1,.d (Zah false w))]) (fun i=>[(900,.row 102 3 ((gpL w (l.take i)).map (ZaG false)))]) (fun i=>l.length - i) 0 (Nat.zero_le _) ?_
 intro i h1
 by_cases hlt:i < l.length
 ·have e1:=Zu0 (w:=w) hlt
  have e2:=ZxX w l[i]
  have e3:=Zdt (List.getElem_mem hlt)
  have e4:=Ze8 l[i]
  have e5:=Nat.le_trans (Zbs _) (Zku w (l.take (i+1)))
  have e6:fszs (l.take (i+1))≤fszs l:=by have:=ZdO l (i+1);omega
  have e7:=Nat.le_trans e5 (Nat.mul_le_mul_right (1+fszs w) e6)
  have e8:=congrArg List.length e1
  rw[List.length_append] at e8
  by_cases hr:l[i].op=3
  ·rw[if_pos hr] at e2
   rw[e2] at e1 e8
   have e:=congrArg (List.map (ZaG false)) e1
   rw[List.map_append] at e
   refine VA ?_
   exact Zae (i+1)
  ·rw[if_neg hr] at e2
   rw[e2] at e1 e8
   have e:(gpL w (l.take i)).map (ZaG false)++[D.agg [iD l[i].op,iD l[i].n,Zah false (gpL w l[i].l)]]=(gpL w (l.take (i+1))).map (ZaG false):=by rw[e1,List.map_append];simp only[List.map_cons,List.map_nil,ZbQ];rfl
   have hk:=Nat.mul_le_mul_right (1+fszs w) (show fszs l[i].l≤fszs l by omega)
   refine VA ?_
   refine Zab [] (hA:=ih (t:=false) (u:=false) (l:=l[i].l) (w:=w) (by omega) (by omega)) (hr:=?_)
   refine VA ?_
   rw[e,List.length_map]
   exact Zae (i+1)
 ·rw[show l.take i=l from List.take_of_length_le (by omega)]
  refine Zav 900 rfl ?_
  refine VA ?_
  exact fin
set_option maxHeartbeats 8000000 in
theorem Zxu:∀ (N:Nat) {l inn:List Frag} {k b:Int},fszs l < N→fszs l≤100000000→PtL k inn b l→NbL 1000000000 l → -1000000000≤b→b≤1000000000→fszs inn≤100000000 →
  ∀ t,ACalls Tryz.prog 219 [.d (Zah t l),I k,.d (Zah false inn),I b] [] (.d (Zah false (ptL k inn b l))) []:=by
 intro N
 induction N with
 | zero=>intro l inn k b h;omega
 | succ N ih =>
 intro l inn k b hn hN hP hB hb0 hb1 hi t
 have hl:=Nat.le_trans (Zbs l) hN
 have hil:=Nat.le_trans (Zbs inn) hi
 have hsz:=Zo7 hP
 have hpl:=Nat.le_trans (Zbs _) hsz
 refine ACalls.intro (n:=87) Tryz.func219 rfl rfl (by simp) (by rfl) ?_
 simp only[Zal]
 refine VA ?_
 refine Zbi 9 900 102 3 rfl rfl rfl ?_
 refine Zak (X:=Nat) (fun i=>i≤l.length) (fun i=>[(16,I i),(15,I l.length),(14,.d (Zah t l)),(9,.own 900 (ptL k inn b (l.take i)).length),(1,I k),(2,.d (Zah false inn)),(3,I b)]) (fun i=>[(900,.row 102 3 ((ptL k inn b (l.take i)).map (ZaG false)))]) (fun i=>l.length - i) 0 (Nat.zero_le _) ?_
 intro i h1
 by_cases hlt:i < l.length
 ·have e1:=Zu1 (k:=k) (inn:=inn) (b:=b) hlt
  have e2:=ZxY k inn b l[i]
  have e3:=Zdt (List.getElem_mem hlt)
  have e4:=Ze8 l[i]
  obtain⟨⟨n0,n1⟩,hB2⟩:=Zwo (ZnN hB (List.getElem_mem hlt))
  obtain⟨p1,p2⟩:=ZxZ (Zsd hP (List.getElem_mem hlt))
  have hih:=ih (l:=l[i].l) (inn:=inn) (k:=k) (b:=b) (by omega) (by omega) p1 hB2 hb0 hb1 hi t
  have hlen:(ptL k inn b (l.take (i+1))).length≤100000000:=by
   have:=congrArg List.length (Zgr k inn b (l.take (i+1)) (l.drop (i+1)))
   rw[List.take_append_drop,List.length_append] at this
   omega
  have e8:=congrArg List.length e1
  rw[List.length_append] at e8
  by_cases h2:l[i].op=2
  ·have h4:¬ l[i].op=4:=by omega
   by_cases hk:l[i].n=k
   ·rw[if_pos ⟨h2,hk⟩] at e2
    rw[e2] at e1 e8
    have e:=congrArg (List.map (ZaG false)) e1
    rw[List.map_append] at e
    refine VA ?_
    refine Zab [] (hA:=hih) (hr:=?_)
    refine VA ?_
    exact Zae (i+1)
   ·rw[if_neg (fun h=>hk h.2),if_neg (fun h=>hk h.2)] at e2
    rw[e2] at e1 e8
    by_cases hov:k < l[i].n
    ·have e:(ptL k inn b (l.take i)).map (ZaG false)++[D.agg [iD l[i].op,.raw (.int .i64 (l[i].n+b)),Zah false (ptL k inn b l[i].l)]]=(ptL k inn b (l.take (i+1))).map (ZaG false):=by
      rw[e1,List.map_append,show mvN l[i].op l[i].n k b=l[i].n+b from if_pos ⟨.inl h2,hov⟩];simp only[List.map_cons,List.map_nil,ZbQ];rfl
     refine VA ?_
     refine Zab [] (hA:=hih) (hr:=?_)
     refine VA ?_
     rw[e,List.length_map]
     exact Zae (i+1)
    ·have e:(ptL k inn b (l.take i)).map (ZaG false)++[D.agg [iD l[i].op,iD l[i].n,Zah false (ptL k inn b l[i].l)]]=(ptL k inn b (l.take (i+1))).map (ZaG false):=by
      rw[e1,List.map_append,show mvN l[i].op l[i].n k b=l[i].n from if_neg (fun h=>hov h.2)];simp only[List.map_cons,List.map_nil,ZbQ];rfl
     refine VA ?_
     refine Zab [] (hA:=hih) (hr:=?_)
     refine VA ?_
     rw[e,List.length_map]
     exact Zae (i+1)
  ·by_cases h4:l[i].op=4
   ·by_cases hk:l[i].n=k
    ·rw[if_neg (fun h=>h2 h.1),if_pos ⟨h4,hk⟩] at e2
     rw[e2] at e1 e8
     have e:=congrArg (List.map (ZaG false)) e1
     rw[List.map_append] at e
     have hg:=Zv5 _ (t:=false) (u:=false) (l:=inn) (w:=ptL k inn b l[i].l) (Nat.lt_succ_self _) (p2 ⟨h4,hk⟩)
     refine VA ?_
     refine Zab [] (hA:=hih) (hr:=?_)
     refine VA ?_
     (repeat (first|refine wkz ?_|refine Zaa (hr:=?_)))
     refine VA ?_
     refine Zab [] (hA:=hg) (hr:=?_)
     refine VA ?_
     exact Zae (i+1)
    ·rw[if_neg (fun h=>h2 h.1),if_neg (fun h=>hk h.2)] at e2
     rw[e2] at e1 e8
     by_cases hov:k < l[i].n
     ·have e:(ptL k inn b (l.take i)).map (ZaG false)++[D.agg [iD l[i].op,.raw (.int .i64 (l[i].n+b)),Zah false (ptL k inn b l[i].l)]]=(ptL k inn b (l.take (i+1))).map (ZaG false):=by
       rw[e1,List.map_append,show mvN l[i].op l[i].n k b=l[i].n+b from if_pos ⟨.inr h4,hov⟩];simp only[List.map_cons,List.map_nil,ZbQ];rfl
      refine VA ?_
      refine Zab [] (hA:=hih) (hr:=?_)
      refine VA ?_
      (repeat (first|refine wkz ?_|refine Zaa (hr:=?_)))
      refine VA ?_
      rw[e,List.length_map]
      exact Zae (i+1)
     ·have e:(ptL k inn b (l.take i)).map (ZaG false)++[D.agg [iD l[i].op,iD l[i].n,Zah false (ptL k inn b l[i].l)]]=(ptL k inn b (l.take (i+1))).map (ZaG false):=by
       rw[e1,List.map_append,show mvN l[i].op l[i].n k b=l[i].n from if_neg (fun h=>hov h.2)];simp only[List.map_cons,List.map_nil,ZbQ];rfl
      refine VA ?_
      refine Zab [] (hA:=hih) (hr:=?_)
      refine VA ?_
      (repeat (first|refine wkz ?_|refine Zaa (hr:=?_)))
      refine VA ?_
      rw[e,List.length_map]
      exact Zae (i+1)
   ·rw[if_neg (fun h=>h2 h.1),if_neg (fun h=>h4 h.1)] at e2
    rw[e2] at e1 e8
    have e:(ptL k inn b (l.take i)).map (ZaG false)++[D.agg [iD l[i].op,iD l[i].n,Zah false (ptL k inn b l[i].l)]]=(ptL k inn b (l.take (i+1))).map (ZaG false):=by
     rw[e1,List.map_append,show mvN l[i].op l[i].n k b=l[i].n from if_neg (fun h=>by rcases h.1 with h|h;exact h2 h;exact h4 h)];simp only[List.map_cons,List.map_nil,ZbQ];rfl
    refine VA ?_
    refine Zab [] (hA:=hih) (hr:=?_)
    refine VA ?_
    (repeat (first|refine wkz ?_|refine Zaa (hr:=?_)))
    refine VA ?_
    (repeat (first|refine wkz ?_|refine Zaa (hr:=?_)))
    refine VA ?_
    rw[e,List.length_map]
    exact Zae (i+1)
 ·rw[show l.take i=l from List.take_of_length_le (by omega)]
  refine Zav 900 rfl ?_
  refine VA ?_
  exact fin
theorem Zlh {t:Bool} {l:List Frag} (h1:fszs l≤100000000) (h2:NbL 1000000000 l):ACalls Tryz.prog 133 [.d (Zah t l)] [] (.d (Zah false l)) []:=by
 have hm:=Zm5 _ (t:=t) (l:=l) (o:=0) (b:=0) (Nat.lt_succ_self _) h1 h2 (by decide) (by decide)
 rw[Zco] at hm
 refine ACalls.intro (n:=5) Tryz.func133 rfl rfl (by simp) (by rfl) ?_
 simp only[Zal]
 refine VA ?_
 refine Zab [] (hA:=hm) (hr:=?_)
 refine VA ?_
 exact fin
theorem Zli {t u:Bool} {l inn:List Frag} {k n:Int} (h1:fszs l≤100000000) (h2:fszs inn≤100000000) (h3:PtL k (movL (-1) k inn) (n - 1) l) (h4:NbL 1000000000 l) (h5:NbL 1000000000 inn) (h6:NbL 1000000000 (Zgq l k inn n)) (h7 : -1000000≤k) (h8:k≤1000000) (h9 : -1000000≤n) (h10:n≤1000000) :
  ACalls Tryz.prog 189 [.d (Zah t l),I k,.d (Zah u inn),I n] [] (.d (Zah false (Zgq l k inn n))) []:=by
 have m1:=Zm5 _ (t:=u) (l:=inn) (o := -1) (b:=k) (Nat.lt_succ_self _) h2 h5 (by omega) (by omega)
 have m2:=Zxu _ (l:=l) (inn:=movL (-1) k inn) (k:=k) (b:=n - 1) (Nat.lt_succ_self _) h1 h3 h4 (by omega) (by omega) (by rw[ZhT];exact h2) t
 have m3:=Zlh (t:=false) (l:=Zgq l k inn n) (Zo7 h3) h6
 unfold Zgq at m3 ⊢
 refine ACalls.intro (n:=18) Tryz.func189 rfl rfl (by simp) (by rfl) ?_
 simp only[Zal]
 refine VA ?_
 refine Zab [] (hA:=m1) (hr:=?_)
 refine VA ?_
 refine Zab [] (hA:=m2) (hr:=?_)
 refine VA ?_
 refine Zab [] (hA:=m3) (hr:=?_)
 refine VA ?_
 exact fin
set_option maxRecDepth 100000
def Za8 (t:Bool) (w:Work):D:=.agg [ints t w.right,Zah t w.l]
abbrev Zat (t:Bool) (l:List Work):D:=.sl t 2 (l.map (Za8 t))
abbrev Zxv (t:Bool) (w:Work):Ob:=.box 181 [.d (ints t w.right),.d (Zah t w.l)]
theorem Zm6 {t:Bool} {xs:List Int} (hl:xs.length≤100000000:=by exact Vm) :
  ACalls Tryz.prog 127 [.d (ints t xs)] [] (I (kids xs).length) []:=by
 refine ACalls.intro (n:=7) Tryz.func127 rfl rfl (by simp) (by rfl) ?_
 simp only[Zal]
 refine VA ?_
 refine Zab [] (hA:=Zb5) (hr:=?_)
 refine VA ?_
 exact fin
theorem Zre {a b:List Int} (ha:0 < a.length):ZaX a b=true↔∃ h:0 < b.length,a[0]=b[0]:=by
 cases a with
 | nil=>simp at ha
 | cons x a=>cases b <;> simp[ZaX]
theorem ZiI:∀ (l:List Work) (k:Nat),ZbB [] l k=[]
 | [],_=>rfl
 | y::l,k=>by rw[ZbB,if_neg (by simp[ZaX]),ZiI l (k+1)]
set_option maxHeartbeats 4000000 in
theorem Zm7 {t:Bool} {l:List Work} (hl:l.length≤100000) (hr:∀ w∈l,w.right.length≤100000) :
  ACalls Tryz.prog 193 [.d (Zat t l)] [] (.d (ints false (Zas l 0))) []:=by
 refine ACalls.intro (n:=58) Tryz.func193 rfl rfl (by simp) (by rfl) ?_
 simp only[Zal]
 refine VA ?_
 refine Zak (X:=Nat) (fun i=>i≤l.length∧Zas l 0=Zas (l.drop i) i) (fun i=>[(9,I i),(8,I l.length),(7,.d (Zat t l)),(0,.d (Zat t l))]) (fun _=>[]) (fun i=>l.length - i) 0 ⟨Nat.zero_le _,rfl⟩ ?_
 rintro i ⟨hi,hp⟩
 by_cases hlt:i < l.length
 ·have hs:=Zn2 hlt
  have hri:=hr _ (List.getElem_mem hlt)
  by_cases h0:l[i].right.length=0
  ·have e:l[i].right=[]:=List.eq_nil_of_length_eq_zero h0
   rw[e,ZiI,if_pos rfl] at hs
   refine VA ?_
   exact Zae (i+1) (a:=⟨by omega,hp.trans hs⟩)
  ·refine VA ?_
   obtain⟨gl,hgl⟩:∃ gl:Nat→List Int,∀ k,gl k=(i:Int)::ZbB l[i].right ((l.drop (i+1)).take (k - (i+1))) (i+1):=⟨_,fun _=>rfl⟩
   have e:gl (i+1)=[(i:Int)]:=by rw[hgl];simp[ZbB]
   refine Zak (X:=Nat) (fun k=>i+1≤k∧k≤l.length) (fun k=>[(6,I k),(5,.own 19 (gl k).length),(4,.ptr 4 0),(3,I i),(9,I i),(8,I l.length),(7,.d (Zat t l)),(0,.d (Zat t l))])
    (fun k=>[(19,.row 3 1 ((gl k).map iD)),(4,Zxv t l[i])]) (fun k=>l.length - k) (i+1) (by omega) ?_
   clear e
   rintro k ⟨hk1,hk2⟩
   have hml:(gl k).length≤l.length:=by
    rw[hgl,List.length_cons]
    have:=Zk0 l[i].right ((l.drop (i+1)).take (k - (i+1))) (i+1)
    simp only[List.length_take,List.length_drop] at this
    omega
   by_cases hlk:k < l.length
   ·have hsn:gl (k+1)=gl k++(if ZaX l[i].right l[k].right=true then [(k:Int)] else []):=by rw[hgl,hgl,ZqR hlk hk1];rfl
    have hrk:=hr _ (List.getElem_mem hlk)
    have hal:=Zre (a:=l[i].right) (b:=l[k].right) (by omega)
    by_cases h1:0 < l[k].right.length
    ·by_cases h2:l[k].right[0]=l[i].right[0]
     ·rw[if_pos (hal.2 ⟨h1,h2.symm⟩)] at hsn
      have h2b:decide (l[k].right[0]=l[i].right[0])=true:=decide_eq_true h2
      have e:=hsn
      refine VA ?_
      exact Zae (k+1)
     ·rw[if_neg (fun h=>h2 (hal.1 h).2.symm),List.append_nil] at hsn
      have h2b:decide (l[k].right[0]=l[i].right[0])=false:=decide_eq_false h2
      have e:=hsn
      refine VA ?_
      exact Zae (k+1)
    ·rw[if_neg (fun h=>h1 (hal.1 h).1),List.append_nil] at hsn
     have e:=hsn
     refine VA ?_
     exact Zae (k+1)
   ·obtain rfl:k=l.length:=by omega
    have he:gl l.length=(i:Int)::ZbB l[i].right (l.drop (i+1)) (i+1):=by rw[hgl,List.take_of_length_le (by simp)]
    by_cases hm:ZbB l[i].right (l.drop (i+1)) (i+1)=[]
    ·rw[if_pos hm] at hs
     have hlen:(gl l.length).length=1:=by rw[he,hm];rfl
     refine VA ?_
     exact Zae (i+1) (a:=⟨by omega,hp.trans hs⟩)
    ·rw[if_neg hm,←he] at hs
     have hlen:1 < (gl l.length).length:=by
      rw[he,List.length_cons]
      cases hc:ZbB l[i].right (l.drop (i+1)) (i+1) with
      | nil=>exact absurd hc hm
      | cons _ _=>simp
     rw[hp,hs]
     refine Zav 19 rfl ?_
     refine VA ?_
     exact fin
 ·rw[hp,ZqS hlt]
  refine VA ?_
  exact fin
set_option maxRecDepth 100000
abbrev Zv6 (t:Bool) (w:Work):Ob:=.box 188 [.d (ints t w.right),.d (Zah t w.l)]
theorem ZiJ {t:Bool} {xs:List Int} (hl:xs.length≤100000000:=by exact Vm) :
  ACalls Tryz.prog 129 [.d (ints t xs)] [] (I (kids xs).length) []:=by
 refine ACalls.intro (n:=7) Tryz.func129 rfl rfl (by simp) (by rfl) ?_
 simp only[Zal]
 refine VA ?_
 refine Zab [] (hA:=Zb5) (hr:=?_)
 refine VA ?_
 exact fin
theorem Zrf:∀ (N:Nat) {t:Bool} {l:List Frag},fszs l < N→fszs l≤100000000→ACalls Tryz.prog 200 [.d (Zah t l)] [] (I (fszs l)) []:=by
 intro N
 induction N with
 | zero=>intro t l h;omega
 | succ N ih =>
 intro t l hN hle
 have hl:=Nat.le_trans (Zbs l) hle
 refine ACalls.intro (n:=21) Tryz.func200 rfl rfl (by simp) (by rfl) ?_
 simp only[Zal]
 refine VA ?_
 refine Zak (X:=Nat×Nat) (fun x=>x.1≤l.length∧x.2+x.1=l.length+fszs (l.take x.1)) (fun x=>[(10,I x.1),(9,I l.length),(8,.d (Zah t l)),(3,I x.2)]) (fun _=>[]) (fun x=>l.length - x.1) (0,l.length) ⟨Nat.zero_le _,by simp[fszs]⟩ ?_
 rintro⟨i,v⟩ ⟨h1,h2⟩
 dsimp only at h1 h2 ⊢
 by_cases hlt:i < l.length
 ·have e1:=ZfO hlt
  have e3:=Zdt (List.getElem_mem hlt)
  have e2:=Ze8 l[i]
  have e4:fszs l=fszs (l.take (i+1))+fszs (l.drop (i+1)):=ZdO _ _
  have e5:(l.take i).length≤fszs (l.take i):=Zbs _
  refine VA ?_
  refine Zab [] (hA:=ih (t:=t) (l:=l[i].l) (by omega) (by omega)) (hr:=?_)
  refine VA ?_
  exact Zae (i+1,v+fszs l[i].l) (a:=⟨by omega,by dsimp only;omega⟩) (b:=by dsimp only;omega)
 ·rw[List.take_of_length_le (by omega)] at h2
  obtain rfl:v=fszs l:=by omega
  refine VA ?_
  exact fin
theorem ZtU {t u:Bool} {g:Gram} (hg:g.ok) {B B' C N:Nat} {o:Bool} {x y:Work} {v:Int} (hx:TOk g B C N true x) (hy:TOk g B' C N o y) (hB:B≤4000) (hB':B'≤100) (hC:C≤20) (hu:hdI x.right=v) (h0:0≤v) (hm:TOk g (B+B') 40 N o (mixW x y)) :
  ACalls Tryz.prog 189 [.d (Zah t x.l),I 0,.d (Zah u y.l),I ((kids y.right).length:Nat)] [] (.d (Zah false (mixW x y).l)) []:=by
 have hz:=hx.nz rfl (by omega)
 have s1:=hx.sz
 have s2:=hy.sz
 have r2:=hy.rl
 have hk:=Za3 y.right
 have hmul:fszs x.l * fszs y.l≤4000 * 100:=Nat.mul_le_mul (by omega) (by omega)
 have h3:PtL 0 (movL (-1) 0 y.l) (((kids y.right).length:Int) - 1) x.l:=by rw[Zco];exact ZlT x.l hx.wf hz (by omega)
 exact Zli (t:=t) (u:=u) (l:=x.l) (inn:=y.l) (k:=0) (n:=((kids y.right).length:Nat)) (by omega) (by omega) h3 (hx.nb hg (by omega)) (hy.nb hg (by omega)) (hm.nb hg (by omega)) (by decide) (by decide) (by omega) (by omega)
theorem Zxw (t:Bool):Zah t [gapF]=.sl t 3 [.agg [iD 3,iD 0,.sl t 3 []]]:=by simp[gapF,Zah,ZaG,Zdv]
theorem Zrg {t:Bool} {g:Gram} (hg:g.ok) {B C N:Nat} {x:Work} (hx:TOk g B C N true x) (hB:B≤4000) (hC:C≤20) (h0:0≤hdI x.right) :
  ACalls Tryz.prog 198 [.d (Zah t x.l)] [] (.d (Zah false (ZgR x).l)) []:=by
 have hgo:=Zm1 hx h0
 have hz:=hx.nz rfl h0
 have s1:=hx.sz
 have h3:PtL 0 (movL (-1) 0 [gapF]) ((0:Int) - 1) x.l:=by rw[Zco];exact ZlT x.l hx.wf hz (by have:fszs [gapF]=1:=rfl;rw[this];omega)
 have hp:=Zli (t:=t) (u:=false) (l:=x.l) (inn:=[gapF]) (k:=0) (n:=0) (by omega) (by decide) h3 (hx.nb hg (by omega)) ⟨⟨by decide,trivial⟩,trivial⟩ (hgo.nb hg (by omega)) (by decide) (by decide) (by decide) (by decide)
 rw[Zxw] at hp
 have hp2:ACalls Tryz.prog 189 [.d (Zah t x.l),I 0,.d (.sl false 3 [.agg [iD 3,iD 0,nilT]]),I 0] [] (.d (Zah false (ZgR x).l)) []:=hp.le (args:=[.d (Zah t x.l),I 0,.d (.sl false 3 [.agg [iD 3,iD 0,nilT]]),I 0]) ⟨.refl _,.refl _,.sl (.cons (.agg (.cons (.refl _) (.cons (.refl _) (.cons (.nil _ _) .nil)))) .nil),.refl _,trivial⟩
 refine ACalls.intro (n:=7) Tryz.func198 rfl rfl (by simp) (by rfl) ?_
 simp only[Zal]
 refine VA ?_
 refine Zab [] (hA:=hp2) (hr:=?_)
 refine VA ?_
 exact fin
theorem ZpZ {x:Work} {v:Nat} (h1:x.right.length≤1000) (hv:v≤1000) :
  ACalls Tryz.prog 199 [.d (Za8 false x),I v] [] (.own 22 2) [(22,.row 188 2 ((Zcb (v:Int) x).map (Za8 false)))]:=by
 have hk:=Za3 x.right
 have e1:x.right.map iD++[D.raw (.int .i64 (v:Int))]=(x.right++[(v:Int)]).map iD:=by simp[iD]
 refine ACalls.intro (n:=23) Tryz.func199 rfl rfl (by simp) (by rfl) ?_
 simp only[Zal]
 refine VA ?_
 refine Zab [(5,905)] (hA:=ZbX) (hr:=?_)
 refine VA ?_
 rw[e1]
 refine Zab [] (hA:=ZiJ) (hr:=?_)
 refine VA ?_
 have e2:(Zcb (v:Int) x).map (Za8 false)=[D.agg [ints false x.right,Zah false x.l],D.agg [D.sl false 1 ((x.right++[(v:Int)]).map iD),D.sl false 3 [D.agg [D.raw (.int .i64 4),D.raw (.int .i64 ((kids x.right).length:Int)),Zah false x.l]]]]:=by simp[Zcb,Za8,ints,Zah,ZaG,iD,ZbP]
 rw[e2]
 exact finx
end Go.Proofs.YtbpmepgnjanhnaaGreat
