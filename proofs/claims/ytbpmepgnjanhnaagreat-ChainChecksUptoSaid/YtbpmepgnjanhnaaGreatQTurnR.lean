import Derived.Test.YtbpmepgnjanhnaaGreatQFactorP
import Derived.Test.YtbpmepgnjanhnaaGreatF2
import Derived.Test.YtbpmepgnjanhnaaGreatQFrA
set_option linter.unusedVariables false
set_option linter.unusedSimpArgs false
set_option linter.unusedSectionVars false
namespace Go.Proofs.YtbpmepgnjanhnaaGreat
open Go.RowKit
structure TOk (g:Gram) (B C N:Nat) (old:Bool) (x:Work):Prop where
 wf:wfL g.rules.length x.l
 kd:(kdL x.l).Perm (upTo (kids x.right).length)
 sz:fszs x.l≤B
 rl:x.right.length≤C
 ne:old=true→x.right≠[]
 nz:old=true→0≤hdI x.right→nzL x.l
 sym:∀ s∈x.right, -g.terms≤s∧s < (N:Int)
theorem TOk.mono {g:Gram} {B C N B' C' N':Nat} {old:Bool} {x:Work} (h:TOk g B C N old x) (h1:B≤B') (h2:C≤C') (h3:N≤N'):TOk g B' C' N' old x :=
 ⟨h.wf,h.kd,Nat.le_trans h.sz h1,Nat.le_trans h.rl h2,h.ne,h.nz,fun s hs=>by have:=h.sym s hs;omega⟩
theorem TOk.small {g:Gram} {B C N:Nat} {old:Bool} {x:Work} (h:TOk g B C N old x) (B' C':Nat) (h1:fszs x.l≤B') (h2:x.right.length≤C'):TOk g B' C' N old x:=⟨h.wf,h.kd,h1,h2,h.ne,h.nz,h.sym⟩
theorem TOk.nb {g:Gram} (hg:g.ok) {B C N:Nat} {old:Bool} {x:Work} (h:TOk g B C N old x) (hC:C≤1000000):NbL 1000000000 x.l:=by
 have:=hg.rules
 refine Zoa (m:=g.rules.length) (by omega) (by omega) _ h.wf fun n hn=>?_
 have h1:=upTo_mem.1 (h.kd.mem_iff.1 hn)
 have h2:=Zb6 x.right
 have h3:=h.rl
 omega
theorem TOk.kd0 {g:Gram} {B C N:Nat} {old:Bool} {x:Work} (h:TOk g B C N old x):∀ n∈kdL x.l,0≤n:=fun n hn=>(upTo_mem.1 (h.kd.mem_iff.1 hn)).1
theorem ZrD {l:List Int} {u:Int} (hne:l≠[]) (h:hdI l=u):l=u::l.tail:=by
 cases l with
 | nil=>exact absurd rfl hne
 | cons a l=>simp only[hdI,List.headD_cons] at h;rw[h];rfl
theorem ZrE {g:Gram} {B C N B' C':Nat} {x y:Work} {u:Int} (hx:TOk g B C N true x) (hy:TOk g B' C' N true y) (hu:hdI x.right=u) (h0:0≤u):TOk g (B+B') (C+C') N true (mixW x y):=by
 have hne:=hx.ne rfl
 have hc:=ZrD hne hu
 have hz:=hx.nz rfl (by omega)
 have hkx:(kids x.right).length=(kids x.right.tail).length+1:=by
  conv=>lhs;rw[hc]
  rw[show kids (u::x.right.tail)=u::kids x.right.tail from List.filter_cons_of_pos (by simpa using h0)];rfl
 have hkm:(kids (mixW x y).right).length=(kids y.right).length+(kids x.right.tail).length:=by
  show (kids (y.right++x.right.tail)).length=_
  simp[kids]
 have hl:(mixW x y).l=ptL 0 y.l (((kids y.right).length:Int) - 1) x.l:=by
  show Zhs x.l 0 y.l _=_
  unfold Zhs
  rw[ZcX]
 have hxk:=hx.kd
 rw[hkx] at hxk
 refine⟨?_,?_,?_,?_,fun _=>?_,fun _ hh=>?_,fun s hs=>?_⟩
 ·rw[hl];exact Zhw hy.wf x.l hx.wf hz
 ·rw[hl,Zhv x.l hx.wf hz,hkm]
  exact Zob hxk hy.kd
 ·rw[hl]
  have h1:=ZfZ (b:=((kids y.right).length:Int) - 1) (inn:=y.l) x.l hx.wf hz
  have h2:=ZiZ _ _ hx.kd
  have h3:(kdL x.l).count 0 * fszs y.l≤1 * fszs y.l:=Nat.mul_le_mul_right _ h2
  have:=hx.sz
  have:=hy.sz
  omega
 ·show (y.right++x.right.tail).length≤_
  have:=hx.rl
  have:=hy.rl
  rw[List.length_append,List.length_tail];omega
 ·show y.right++x.right.tail≠[]
  have:=hy.ne rfl
  intro q
  exact this (List.append_eq_nil_iff.1 q).1
 ·have hyn:=hy.ne rfl
  have hh2:hdI (mixW x y).right=hdI y.right:=by
   show hdI (y.right++x.right.tail)=_
   cases hq:y.right with
   | nil=>exact absurd hq hyn
   | cons a r=>rfl
  rw[hh2] at hh
  rw[hl]
  have hk1:1≤(kids y.right).length:=by
   cases hq:y.right with
   | nil=>exact absurd hq hyn
   | cons a r =>
    rw[hq] at hh
    simp only[hdI,List.headD_cons] at hh
    rw[show kids (a::r)=a::kids r from List.filter_cons_of_pos (by simpa using hh)]
    simp
  exact ZjS (hy.nz rfl hh) (by omega) x.l hx.wf hz hx.kd0
 ·rcases List.mem_append.1 (show s∈y.right++x.right.tail from hs) with h|h
  ·exact hy.sym s h
  ·exact hx.sym s (List.mem_of_mem_tail h)
theorem ZrF {g:Gram} (hg:g.ok) {B C N:Nat} {old:Bool} {x:Work} (hx:TOk g B C N old x):∀ y∈ZbR (N:Int) x,TOk g (B+1) (C+1) (N+1) old y:=fun y hy=>by
 simp only[ZbR,List.mem_cons,List.not_mem_nil,or_false] at hy
 rcases hy with rfl|rfl
 ·exact hx.mono (by omega) (by omega) (by omega)
 ·have ht:=hg.terms0
  have hk:(kids (x.right++[(N:Int)])).length=(kids x.right).length+1:=by
   simp[kids]
  refine⟨⟨.inr (.inr (.inr ⟨rfl,hx.wf⟩)),trivial⟩,?_,?_,?_,fun _=>by simp,fun ho hh=>?_,fun s hs=>?_⟩
  ·rw[hk,ZqO]
   have e:kdL [Frag.mk 4 ((kids x.right).length:Int) x.l]=((kids x.right).length:Int)::kdL x.l:=by
    rw[kdL,kdF,if_neg (by decide),if_neg (by decide),if_pos rfl,kdL,List.append_nil]
   rw[e]
   exact (hx.kd.cons _).trans (List.perm_append_singleton _ _).symm
  ·have:=hx.sz
   simp only[fszs,fsz];omega
  ·have:=hx.rl
   show (x.right++[(N:Int)]).length≤_
   rw[List.length_append,List.length_singleton];omega
  ·have hne:=hx.ne ho
   have hh2:hdI (x.right++[(N:Int)])=hdI x.right:=by
    cases hq:x.right with
    | nil=>exact absurd hq hne
    | cons a r=>rfl
   rw[hh2] at hh
   refine⟨⟨fun q=>?_,hx.nz ho hh⟩,trivial⟩
   have hk1:1≤(kids x.right).length:=by
    cases hq:x.right with
    | nil=>exact absurd hq hne
    | cons a r =>
     rw[hq] at hh
     simp only[hdI,List.headD_cons] at hh
     rw[show kids (a::r)=a::kids r from List.filter_cons_of_pos (by simpa using hh)]
     simp
   have:=q.2
   omega
  ·rcases List.mem_append.1 (show s∈x.right++[(N:Int)] from hs) with h|h
   ·have:=hx.sym s h;omega
   ·rw[List.mem_singleton.1 h];omega
def Zgb (x:Work):Work:=⟨x.right.tail,Zhs x.l 0 [gapF] 0⟩
theorem ZlH {g:Gram} {B C N:Nat} {x:Work} (hx:TOk g B C N true x) (h0:0≤hdI x.right):TOk g (B+1) C N false (Zgb x):=by
 have hne:=hx.ne rfl
 have hc:=ZrD hne rfl
 have hz:=hx.nz rfl h0
 have hkx:(kids x.right).length=(kids x.right.tail).length+1:=by
  conv=>lhs;rw[hc]
  rw[show kids (hdI x.right::x.right.tail)=hdI x.right::kids x.right.tail from List.filter_cons_of_pos (by simpa using h0)];rfl
 have hl:(Zgb x).l=ptL 0 [gapF] (-1) x.l:=by
  show Zhs x.l 0 [gapF] 0=_
  unfold Zhs
  rw[ZcX];rfl
 have hxk:=hx.kd
 rw[hkx] at hxk
 refine⟨?_,?_,?_,?_,fun q=>(by cases q),fun q=>(by cases q),fun s hs=>hx.sym s (List.mem_of_mem_tail hs)⟩
 ·rw[hl];exact Zhw (inn:=[gapF]) (show wfL _ [gapF] from ⟨.inr (.inr (.inl ⟨rfl,rfl,rfl⟩)),trivial⟩) x.l hx.wf hz
 ·rw[hl,Zhv x.l hx.wf hz]
  have:=Zob (k:=(kids x.right.tail).length) (ki:=0) (inn:=[]) hxk (List.Perm.refl _)
  simp only[Nat.zero_add] at this
  exact this
 ·rw[hl]
  have h1:=ZfZ (b := -1) (inn:=[gapF]) x.l hx.wf hz
  have h2:=ZiZ _ _ hx.kd
  have h3:(kdL x.l).count 0 * fszs [gapF]≤1 * fszs [gapF]:=Nat.mul_le_mul_right _ h2
  have h4:fszs [gapF]=1:=rfl
  have:=hx.sz
  omega
 ·have:=hx.rl
  show x.right.tail.length≤_
  rw[List.length_tail];omega
structure TInv (g:Gram) (all:List (List Work)):Prop where
 vars:g.vars.toNat≤all.length
 len:all.length≤64
 ok:∀ u,∀ w∈all.getD u [],TOk g 60 10 all.length (decide (u < g.vars.toNat)) w
 wide:∀ l∈all,l.length≤160
theorem Zjp {g:Gram} {B N:Nat} {x:Work} {u:Int} (hx:TOk g B 10 N true x) (hu:hdI x.right=u) (h0:0≤u) {Q:Work→Prop} (hQ:∀ y,TOk g 60 10 N true y→(mixW x y).right.length≤10→Q (mixW x y)):∀ {ys out out':List Work},(∀ y∈ys,TOk g 60 10 N true y)→(∀ w∈out,Q w)→Zb9 x ys out=some out'→(∀ w∈out',Q w)∧(out.length≤160→out'.length≤160)
 | [],out,out',_,ho,h=>by rw[Zb9] at h;cases h;exact⟨ho,fun q=>q⟩
 | y::ys,out,out',hy,ho,h=>by
  rw[Zb9] at h
  split at h
  ·cases h
  ·rename_i hn
   simp only[not_or,Nat.not_lt] at hn
   obtain⟨k1,k2⟩:=Zjp hx hu h0 hQ (fun z hz=>hy z (by simp[hz])) (fun w hw=>by
    rcases List.mem_append.1 hw with hw|hw
    ·exact ho w hw
    ·rw[List.mem_singleton.1 hw];exact hQ y (hy y (by simp)) hn.1) h
   exact⟨k1,fun _=>k2 hn.2⟩
theorem ZfE {g:Gram} {B N:Nat} {A:List Work} {u:Int} (h0:0≤u) (hA:∀ y∈A,TOk g 60 10 N true y):∀ {l out l':List Work},(∀ w∈l,TOk g B 10 N true w)→(∀ w∈out,TOk g (B+60) 10 N true w)→Zb2 A u l out=some l'→(∀ w∈l',TOk g (B+60) 10 N true w)∧l'.length≤160
 | [],out,l',_,ho,h=>by
  rw[Zb2] at h
  split at h
  ·cases h
  ·cases h;exact⟨ho,by omega⟩
 | x::l,out,l',hl,ho,h=>by
  have hx:=hl x (by simp)
  rw[Zb2] at h
  split at h
  ·exact ZfE h0 hA (fun w hw=>hl w (by simp[hw])) (fun w hw=>by
    rcases List.mem_append.1 hw with hw|hw
    ·exact ho w hw
    ·rw[List.mem_singleton.1 hw];exact hx.mono (by omega) (Nat.le_refl _) (Nat.le_refl _)) h
  ·rename_i hu
   have hu:hdI x.right=u:=Classical.byContradiction fun q=>hu q
   cases hc:Zb9 x A out with
   | none=>rw[hc] at h;cases h
   | some out1 =>
    rw[hc] at h
    obtain⟨k1,_⟩:=Zjp hx hu h0 (Q:=fun w=>TOk g (B+60) 10 N true w) (fun y hy hr=>(ZrE hx hy hu h0).small _ _ (ZrE hx hy hu h0).sz hr) hA ho hc
    exact ZfE h0 hA (fun w hw=>hl w (by simp[hw])) k1 h
theorem ZlI {g:Gram} {all:List (List Work)} (hI:TInv g all):∀ (n u:Nat) {B:Nat} {l l':List Work},u+n≤g.vars.toNat→(∀ w∈l,TOk g B 10 all.length true w)→l.length≤160→Zds all u n l=some l'→(∀ w∈l',TOk g (B+60 * n) 10 all.length true w)∧l'.length≤160
 | 0,u,B,l,l',_,hl,h160,h=>by
  rw[Zds] at h;cases h
  exact⟨fun w hw=>(hl w hw).mono (by omega) (Nat.le_refl _) (Nat.le_refl _),h160⟩
 | n+1,u,B,l,l',hn,hl,h160,h=>by
  rw[Zds] at h
  cases hc:Zb2 (all.getD u []) u l [] with
  | none=>rw[hc] at h;cases h
  | some l1 =>
   rw[hc] at h
   obtain⟨k1,k2⟩:=ZfE (by omega) (fun y hy=>by
    have:=hI.ok u y hy
    rw[decide_eq_true (show u < g.vars.toNat by omega)] at this;exact this) hl (fun w hw=>by cases hw) hc
   obtain⟨j1,j2⟩:=ZlI hI n (u+1) (by omega) k1 k2 h
   exact⟨fun w hw=>(j1 w hw).mono (by omega) (Nat.le_refl _) (Nat.le_refl _),j2⟩
theorem fitsT_iff {all:List (List Work)}:ZgL all=true↔(∀ l∈all,∀ w∈l,w.right.length≤10∧fszs w.l≤60)∧(all.map List.length).sum≤160∧all.length≤64:=by
 unfold ZgL
 simp only[Bool.and_eq_true,List.all_eq_true,decide_eq_true_eq,and_assoc]
theorem Zv7 {all:List (List Work)} {l:List Work} (h:l∈all):l.length≤(all.map List.length).sum:=by
 induction all with
 | nil=>cases h
 | cons a all ih =>
  rw[List.map_cons,List.sum_cons]
  rcases List.mem_cons.1 h with rfl|h
  ·omega
  ·have:=ih h;omega
theorem Zm2 {all:List (List Work)} {u:Nat} {w:Work} (h:w∈all.getD u []):u < all.length∧all.getD u []∈all:=by
 by_cases hu:u < all.length
 ·refine⟨hu,?_⟩
  rw[List.getD_eq_getElem?_getD,List.getElem?_eq_getElem hu];exact List.getElem_mem hu
 ·rw[List.getD_eq_getElem?_getD,List.getElem?_eq_none (by omega)] at h;cases h
theorem ZlJ {g:Gram} (hg:g.ok) {all:List (List Work)} (hI:TInv g all) {v B:Nat} (hv:v < g.vars.toNat) {l:List Work} (hl:∀ w∈l,TOk g B 10 all.length true w):∀ u,∀ w∈(Za8 all l v).getD u [],TOk g (B+62) 11 (Za8 all l v).length (decide (u < g.vars.toNat)) w:=by
 have hva:v < all.length:=Nat.lt_of_lt_of_le hv hI.vars
 intro u w hw
 unfold Za8 at hw ⊢
 split at hw
 ·rename_i h0
  rw[if_pos h0,List.length_set]
  by_cases huv:u=v
  ·subst huv
   rw[List.getD_eq_getElem?_getD,List.getElem?_set_self hva,Option.getD_some] at hw
   rw[decide_eq_true hv]
   exact (hl w hw).mono (by omega) (by omega) (Nat.le_refl _)
  ·rw[List.getD_eq_getElem?_getD,List.getElem?_set_ne (fun e=>huv e.symm),←List.getD_eq_getElem?_getD] at hw
   exact (hI.ok u w hw).mono (by omega) (by omega) (Nat.le_refl _)
 ·rename_i h0
  rw[if_neg h0,List.length_set,List.length_append,List.length_singleton]
  by_cases huv:u=v
  ·subst huv
   rw[List.getD_eq_getElem?_getD,List.getElem?_set_self (by simp;omega),Option.getD_some] at hw
   obtain⟨x,hx,hw⟩:=List.mem_flatMap.1 hw
   rw[decide_eq_true hv]
   exact (ZrF hg (hl x (List.mem_filter.1 hx).1) w hw).mono (by omega) (by omega) (Nat.le_refl _)
  ·rw[List.getD_eq_getElem?_getD,List.getElem?_set_ne (fun e=>huv e.symm),←List.getD_eq_getElem?_getD] at hw
   by_cases hua:u < all.length
   ·rw[List.getD_eq_getElem?_getD,List.getElem?_append_left hua,←List.getD_eq_getElem?_getD] at hw
    exact (hI.ok u w hw).mono (by omega) (by omega) (by omega)
   ·by_cases hue:u=all.length
    ·subst hue
     rw[List.getD_eq_getElem?_getD,List.getElem?_append_right (Nat.le_refl _),Nat.sub_self] at hw
     have hw:w∈(ownW v l).flatMap (ZbR all.length):=hw
     obtain⟨x,hx,hw⟩:=List.mem_flatMap.1 hw
     obtain⟨y,hy,rfl⟩:=List.mem_map.1 hx
     obtain⟨hy1,hy2⟩:=List.mem_filter.1 hy
     have hy2:=of_decide_eq_true hy2
     have:=ZrF hg (ZlH (hl y hy1) (by rw[hy2];omega)) w hw
     rw[decide_eq_false (by have:=hI.vars;omega)]
     exact this.mono (by omega) (by omega) (Nat.le_refl _)
    ·rw[List.getD_eq_getElem?_getD,List.getElem?_eq_none (by simp;omega)] at hw
     cases hw
theorem Zjq (all:List (List Work)) (l:List Work) (v:Nat):all.length≤(Za8 all l v).length:=by
 unfold Za8
 split
 ·rw[List.length_set];omega
 ·rw[List.length_set,List.length_append];omega
theorem Zox {g:Gram} (hg:g.ok) {all:List (List Work)} (hI:TInv g all) {v:Nat} (hv:v < g.vars.toNat) {l:List Work} (hl:Zds all 0 v (all.getD v [])=some l) (hf:ZgL (Za8 all l v)=true):TInv g (Za8 all l v):=by
 have h0:∀ w∈all.getD v [],TOk g 60 10 all.length true w:=fun w hw=>by
  have:=hI.ok v w hw
  rw[decide_eq_true hv] at this;exact this
 have h160:(all.getD v []).length≤160:=by
  by_cases q:v < all.length
  ·refine hI.wide _ ?_
   rw[List.getD_eq_getElem?_getD,List.getElem?_eq_getElem q];exact List.getElem_mem q
  ·rw[List.getD_eq_getElem?_getD,List.getElem?_eq_none (by omega)];simp
 obtain⟨k1,k2⟩:=ZlI hI v 0 (by omega) h0 h160 hl
 obtain⟨f1,f2,f3⟩:=fitsT_iff.1 hf
 have hi:=ZlJ hg hI hv k1
 exact⟨Nat.le_trans hI.vars (Zjq all l v),f3,fun u w hw=>by
  obtain⟨q1,q2⟩:=f1 _ (Zm2 hw).2 w hw
  exact (hi u w hw).small _ _ q2 q1,fun l hl=>Nat.le_trans (Zv7 hl) f2⟩
theorem Zjr {g:Gram} (hg:g.ok):∀ (n v:Nat) {all z:List (List Work)},v+n=g.vars.toNat→TInv g all→ZbS v n all=.ok z→TInv g z∧(0 < n→ZgL z=true)
 | 0,v,all,z,_,hI,h=>by rw[ZbS] at h;cases h;exact⟨hI,fun q=>by omega⟩
 | n+1,v,all,z,hv,hI,h=>by
  rw[ZbS] at h
  cases hc:Zds all 0 v (all.getD v []) with
  | none=>rw[hc] at h;cases h
  | some l =>
   rw[hc] at h
   dsimp only at h
   split at h
   ·rename_i hf
    have h1:=Zox hg hI (by omega) hc hf
    obtain⟨k1,k2⟩:=Zjr hg n (v+1) (by omega) h1 h
    refine⟨k1,fun _=>?_⟩
    cases n with
    | zero=>rw[ZbS] at h;cases h;exact hf
    | succ n=>exact k2 (by omega)
   ·cases h
theorem Zu2 (r:Int) (k:Nat):kdL (Zdd r k)=upTo k:=by
 unfold Zdd
 rw[kdL,kdF,if_pos rfl,ZqK,kdL,List.append_nil];rfl
theorem Zjs {g:Gram} (hg:g.ok) (he:∀ r∈g.rules,r.right≠[]):TInv g (ZbI g):=by
 have hlen:=ZdH g
 have hv:=hg.vars
 refine⟨by rw[hlen];exact Nat.le_refl _,by rw[hlen];omega,fun u w hw=>?_,fun l hl=>?_⟩
 ·by_cases hu:u < g.vars.toNat
  ·rw[ZiU hu] at hw
   obtain⟨i,hi,rfl⟩:=List.mem_map.1 hw
   obtain⟨j,hj,rfl,_,e⟩:=Zt2 hi
   rw[e,hlen]
   have hm:=List.getElem_mem hj
   have h10:=hg.right _ hm
   have hkl:=Zb6 g.rules[j].right
   refine⟨⟨.inl ⟨rfl,by omega,by omega,ZqL _ _⟩,trivial⟩,?_,?_,h10,fun _=>he _ hm,fun _ _=>?_,fun s hs=>?_⟩
   ·rw[Zu2]
   ·simp only[Zdd,fszs,fsz,Zhq];omega
   ·exact⟨⟨fun q=>absurd q.1 (by decide),ZqM _⟩,trivial⟩
   ·have:=hg.lo _ hm s hs
    have:=hg.hi _ hm s hs
    omega
  ·rw[Zpo hu] at hw;cases hw
 ·obtain⟨v,_,rfl⟩:=List.mem_map.1 hl
  have h1:(ZfX g v).length=(by_ g v).length:=by unfold ZfX;rw[List.length_map]
  have h2:=Zfl v g.rules 0
  have h3:=hg.rules
  rw[h1]
  show (byR g.rules v 0).length≤160
  omega
def ZeY (g:Gram):Option Nat:=g.rules.findIdx? fun r=>decide (r.right.length=0)
def Zgc (g:Gram):Step×Zb5 :=
 if (Zah g).code=0 then
  match ZeY g with
  | some i=>(zeroStep,⟨11,i⟩)
  | none=>if 0 < (cycL g).length then (zeroStep,⟨10, -1⟩) else
   match ZbS 0 g.vars.toNat (ZbI g) with
   | .error v=>(zeroStep,⟨6,(v:Nat)⟩)
   | .ok z=>(⟨⟨(z.length:Nat),g.terms,g.start,Zb1 z 0⟩,Zcr z,[]⟩,⟨0,0⟩)
 else (zeroStep,Zah g)
theorem Zgy {g:Gram} (h:ZeY g=none):∀ r∈g.rules,r.right≠[]:=fun r hr q=>by
 unfold ZeY at h
 rw[List.findIdx?_eq_none_iff] at h
 have:=h r hr
 rw[q] at this
 simp at this
theorem Zm3 (g:Gram):(¬ (Zgc g).2.code=0∧(Zgc g).1=zeroStep)∨∃ z,g.ok∧(∀ r∈g.rules,r.right≠[])∧cycL g=[]∧ZbS 0 g.vars.toNat (ZbI g)=.ok z∧Zgc g=(⟨⟨(z.length:Nat),g.terms,g.start,Zb1 z 0⟩,Zcr z,[]⟩,⟨0,0⟩):=by
 unfold Zgc
 by_cases h:(Zah g).code=0
 ·rw[if_pos h]
  cases he:ZeY g with
  | some i=>exact .inl ⟨by simp,rfl⟩
  | none =>
   dsimp only
   by_cases hc:0 < (cycL g).length
   ·rw[if_pos hc];exact .inl ⟨by simp,rfl⟩
   ·rw[if_neg hc]
    cases ht:ZbS 0 g.vars.toNat (ZbI g) with
    | error v=>exact .inl ⟨by simp,rfl⟩
    | ok z=>exact .inr ⟨z,Zbr h,Zgy he,List.length_eq_zero_iff.1 (by omega),rfl,rfl⟩
 ·rw[if_neg h];exact .inl ⟨h,rfl⟩
theorem Zjt:∀ (z:List (List Work)) (v:Nat),(Zb1 z v).length=(z.map List.length).sum
 | [],_=>rfl
 | l::r,v=>by rw[Zb1,List.length_append,List.length_map,Zjt r (v+1),List.map_cons,List.sum_cons]
section
variable {g:Gram} (hg:g.ok) (he:∀ r∈g.rules,r.right≠[]) {z:List (List Work)} (hz:ZbS 0 g.vars.toNat (ZbI g)=.ok z)
include hg he hz
theorem Zoy:TInv g z∧ZgL z=true:=by
 obtain⟨h1,h2⟩:=Zjr hg g.vars.toNat 0 (by omega) (Zjs hg he) hz
 exact⟨h1,h2 (by have:=hg.vars1;omega)⟩
theorem Zoz:(⟨(z.length:Nat),g.terms,g.start,Zb1 z 0⟩:Gram).ok:=by
 obtain⟨hI,hf⟩:=Zoy hg he hz
 obtain⟨f1,f2,f3⟩:=fitsT_iff.1 hf
 have h1:=hg.vars1
 have h2:=hg.start
 have h3:=hI.vars
 have hm:∀ r∈Zb1 z 0,0≤r.left∧r.left < (z.length:Int)∧r.right.length≤10∧∀ s∈r.right, -g.terms≤s∧s < (z.length:Int):=fun r hr=>by
  obtain⟨b1,b2,w,b3,b4⟩:=Zhr hr
  have hw:=hI.ok _ w b3
  rw[b4]
  exact⟨by omega,by omega,hw.rl,hw.sym⟩
 exact⟨by show (1:Int)≤(z.length:Int);omega,by show (z.length:Int)≤64;omega,hg.terms0,hg.terms,hg.start0,by show g.start < (z.length:Int);omega,by rw[Zjt];exact f2,fun r hr=>(hm r hr).2.2.1,fun r hr=>(hm r hr).1,fun r hr=>(hm r hr).2.1,fun r hr s hs=>((hm r hr).2.2.2 s hs).1,fun r hr s hs=>((hm r hr).2.2.2 s hs).2⟩
theorem ZrG:(Zcr z).length=(Zb1 z 0).length∧∀ l∈Zcr z,fszs l≤60:=by
 obtain⟨hI,hf⟩:=Zoy hg he hz
 obtain⟨f1,f2,f3⟩:=fitsT_iff.1 hf
 have h1:∀ (a:List (List Work)) (v:Nat),(Zcr a).length=(Zb1 a v).length:=by
  intro a
  induction a with
  | nil=>intro v;rfl
  | cons l a ih=>intro v;rw[Zcr,Zb1,List.length_append,List.length_append,List.length_map,List.length_map,ih (v+1)]
 refine⟨h1 z 0,fun l hl=>?_⟩
 have h2:∀ a:List (List Work),l∈Zcr a→∃ k∈a,∃ w∈k,l=w.l:=by
  intro a
  induction a with
  | nil=>intro h;simp[Zcr] at h
  | cons k a ih =>
   intro h
   rw[Zcr] at h
   rcases List.mem_append.1 h with h|h
   ·obtain⟨w,hw,rfl⟩:=List.mem_map.1 h
    exact⟨k,by simp,w,hw,rfl⟩
   ·obtain⟨k',q1,w,q2,q3⟩:=ih h
    exact⟨k',by simp[q1],w,q2,q3⟩
 obtain⟨k,hk,w,hw,rfl⟩:=h2 z hl
 exact (f1 k hk w hw).2
end
theorem ZrH (g:Gram):(Zgc g).1.fit:=by
 rcases Zm3 g with ⟨_,e⟩|⟨z,hg,he,_,hz,e⟩
 ·rw[e];exact⟨⟨by decide,fun r hr=>by simp[zeroStep] at hr⟩,by decide,fun l hl=>by simp[zeroStep] at hl,by decide⟩
 ·rw[e]
  have hk:=Zoz hg he hz
  obtain⟨h1,h2⟩:=ZrG hg he hz
  have:=hk.rules
  exact⟨hk.fit,by show (Zcr z).length≤_;rw[h1];exact Nat.le_trans hk.rules (by decide),fun l hl=>Nat.le_trans (h2 l hl) (by decide),by simp[cnts]⟩
end Go.Proofs.YtbpmepgnjanhnaaGreat
namespace Go.Proofs.YtbpmepgnjanhnaaGreat
open Go.RowKit
set_option maxRecDepth 100000
set_option maxHeartbeats 4000000 in
theorem ZlK:∀ (N:Nat) {t:Bool} {l:List Frag} {o b:Int},fszs l < N→fszs l≤100000000→NbL 1000000000 l → -1000000000≤b→b≤1000000000→ACalls Tryz.prog 201 [.d (Zam t l),I o,I b] [] (.d (Zam false (movL o b l))) []:=by
 intro N
 induction N with
 | zero=>intro t l o b h;omega
 | succ N ih =>
 intro t l o b hn hN hB hb0 hb1
 have hl:=Nat.le_trans (Zbg l) hN
 refine ACalls.intro (n:=52) Tryz.func201 rfl rfl (by simp) (by rfl) ?_
 simp only[Zak]
 repeat (first|refine wk ?_|refine Zaa (hr:=?_))
 refine ZaU 7 900 102 3 rfl rfl rfl ?_
 refine Zai (X:=Nat) (fun i=>i≤l.length) (fun i=>[(13,I i),(12,I l.length),(11,.d (Zam t l)),(7,.own 900 (movL o b (l.take i)).length),(1,I o),(2,I b)]) (fun i=>[(900,.row 102 3 ((movL o b (l.take i)).map (ZaV false)))]) (fun i=>l.length - i) 0 (Nat.zero_le _) ?_
 intro i h1
 by_cases hlt:i < l.length
 ·have e1:=ZqG (o:=o) (b:=b) hlt
  have e2:=Zuw o b l[i]
  have e3:=Zb8 (List.getElem_mem hlt)
  have e4:=ZdV l[i]
  have hm:=Zn7 o b (l.take i)
  obtain⟨⟨n0,n1⟩,hB2⟩:=Zt3 (ZmG hB (List.getElem_mem hlt))
  have hih:=ih (t:=t) (l:=l[i].l) (o:=o) (b:=b) (by omega) (by omega) hB2 hb0 hb1
  have e:(movL o b (l.take i)).map (ZaV false)++[D.agg [iD l[i].op,iD (mvN l[i].op l[i].n o b),Zam false (movL o b l[i].l)]]=(movL o b (l.take (i+1))).map (ZaV false):=by rw[e1,e2,List.map_append];simp only[List.map_cons,List.map_nil,ZbG];rfl
  have hlen:(movL o b (l.take i)).length≤100000000:=by rw[hm,List.length_take];omega
  by_cases hop:l[i].op=2∨l[i].op=4
  ·by_cases hov:o < l[i].n
   ·rw[show mvN l[i].op l[i].n o b=l[i].n+b from if_pos ⟨hop,hov⟩] at e
    replace e:(movL o b (l.take i)).map (ZaV false)++[D.agg [iD l[i].op,.raw (.int .i64 (l[i].n+b)),Zam false (movL o b l[i].l)]]=(movL o b (l.take (i+1))).map (ZaV false):=e
    rcases hop with hop|hop
    ·repeat (first|refine wk ?_|refine Zaa (hr:=?_))
     refine Zab [] (hA:=hih) (hr:=?_)
     repeat (first|refine wk ?_|refine Zaa (hr:=?_))
     rw[e,List.length_map]
     exact Zad (i+1)
    ·repeat (first|refine wk ?_|refine Zaa (hr:=?_))
     refine Zab [] (hA:=hih) (hr:=?_)
     repeat (first|refine wk ?_|refine Zaa (hr:=?_))
     rw[e,List.length_map]
     exact Zad (i+1)
   ·rw[show mvN l[i].op l[i].n o b=l[i].n from if_neg (fun h=>hov h.2)] at e
    rcases hop with hop|hop
    ·repeat (first|refine wk ?_|refine Zaa (hr:=?_))
     refine Zab [] (hA:=hih) (hr:=?_)
     repeat (first|refine wk ?_|refine Zaa (hr:=?_))
     rw[e,List.length_map]
     exact Zad (i+1)
    ·repeat (first|refine wk ?_|refine Zaa (hr:=?_))
     refine Zab [] (hA:=hih) (hr:=?_)
     repeat (first|refine wk ?_|refine Zaa (hr:=?_))
     rw[e,List.length_map]
     exact Zad (i+1)
  ·rw[show mvN l[i].op l[i].n o b=l[i].n from if_neg (fun h=>hop h.1)] at e
   have h2:¬ l[i].op=2:=fun h=>hop (.inl h)
   have h4:¬ l[i].op=4:=fun h=>hop (.inr h)
   repeat (first|refine wk ?_|refine Zaa (hr:=?_))
   refine Zab [] (hA:=hih) (hr:=?_)
   repeat (first|refine wk ?_|refine Zaa (hr:=?_))
   (repeat (first|refine wkz ?_|refine Zaa (hr:=?_)))
   repeat (first|refine wk ?_|refine Zaa (hr:=?_))
   rw[e,List.length_map]
   exact Zad (i+1)
 ·rw[show l.take i=l from List.take_of_length_le (by omega)]
  refine ZaF 900 rfl ?_
  repeat (first|refine wk ?_|refine Zaa (hr:=?_))
  exact fin
set_option maxHeartbeats 4000000 in
theorem ZtD:∀ (N:Nat) {t u:Bool} {l w:List Frag},fszs l < N→fszs l * (1+fszs w)≤100000000→ACalls Tryz.prog 226 [.d (Zam false l),.d (Zam false w)] [] (.d (Zam false (gpL w l))) []:=by
 intro N
 induction N with
 | zero=>intro t u l w h;omega
 | succ N ih =>
 intro t u l w hn hN
 have hcl:fszs l≤fszs l * (1+fszs w):=Nat.le_mul_of_pos_right _ (by omega)
 have hl:=Nat.le_trans (Zbg l) (Nat.le_trans hcl hN)
 refine ACalls.intro (n:=34) Tryz.func226 rfl rfl (by simp) (by rfl) ?_
 simp only[Zak]
 repeat (first|refine wk ?_|refine Zaa (hr:=?_))
 refine ZaU 5 900 102 3 rfl rfl rfl ?_
 refine Zai (X:=Nat) (fun i=>i≤l.length) (fun i=>[(10,I i),(9,I l.length),(8,.d (Zam false l)),(5,.own 900 (gpL w (l.take i)).length),(1,.d (Zam false w))]) (fun i=>[(900,.row 102 3 ((gpL w (l.take i)).map (ZaV false)))]) (fun i=>l.length - i) 0 (Nat.zero_le _) ?_
 intro i h1
 by_cases hlt:i < l.length
 ·have e1:=Zs3 (w:=w) hlt
  have e2:=ZvA w l[i]
  have e3:=Zb8 (List.getElem_mem hlt)
  have e4:=ZdV l[i]
  have e5:=Nat.le_trans (Zbg _) (ZjR w (l.take (i+1)))
  have e6:fszs (l.take (i+1))≤fszs l:=by have:=Zdp l (i+1);omega
  have e7:=Nat.le_trans e5 (Nat.mul_le_mul_right (1+fszs w) e6)
  have e8:=congrArg List.length e1
  rw[List.length_append] at e8
  by_cases hr:l[i].op=3
  ·rw[if_pos hr] at e2
   rw[e2] at e1 e8
   have e:=congrArg (List.map (ZaV false)) e1
   rw[List.map_append] at e
   repeat (first|refine wk ?_|refine Zaa (hr:=?_))
   exact Zad (i+1)
  ·rw[if_neg hr] at e2
   rw[e2] at e1 e8
   have e:(gpL w (l.take i)).map (ZaV false)++[D.agg [iD l[i].op,iD l[i].n,Zam false (gpL w l[i].l)]]=(gpL w (l.take (i+1))).map (ZaV false):=by rw[e1,List.map_append];simp only[List.map_cons,List.map_nil,ZbG];rfl
   have hk:=Nat.mul_le_mul_right (1+fszs w) (show fszs l[i].l≤fszs l by omega)
   repeat (first|refine wk ?_|refine Zaa (hr:=?_))
   refine Zab [] (hA:=ih (t:=false) (u:=false) (l:=l[i].l) (w:=w) (by omega) (by omega)) (hr:=?_)
   repeat (first|refine wk ?_|refine Zaa (hr:=?_))
   rw[e,List.length_map]
   exact Zad (i+1)
 ·rw[show l.take i=l from List.take_of_length_le (by omega)]
  refine ZaF 900 rfl ?_
  repeat (first|refine wk ?_|refine Zaa (hr:=?_))
  exact fin
set_option maxHeartbeats 8000000 in
theorem Zu3:∀ (N:Nat) {l inn:List Frag} {k b:Int},fszs l < N→fszs l≤100000000→PtL k inn b l→NbL 1000000000 l → -1000000000≤b→b≤1000000000→fszs inn≤100000000 →
  ∀ t,ACalls Tryz.prog 219 [.d (Zam t l),I k,.d (Zam false inn),I b] [] (.d (Zam false (ptL k inn b l))) []:=by
 intro N
 induction N with
 | zero=>intro l inn k b h;omega
 | succ N ih =>
 intro l inn k b hn hN hP hB hb0 hb1 hi t
 have hl:=Nat.le_trans (Zbg l) hN
 have hil:=Nat.le_trans (Zbg inn) hi
 have hsz:=Zn8 hP
 have hpl:=Nat.le_trans (Zbg _) hsz
 refine ACalls.intro (n:=87) Tryz.func219 rfl rfl (by simp) (by rfl) ?_
 simp only[Zak]
 repeat (first|refine wk ?_|refine Zaa (hr:=?_))
 refine ZaU 9 900 102 3 rfl rfl rfl ?_
 refine Zai (X:=Nat) (fun i=>i≤l.length) (fun i=>[(16,I i),(15,I l.length),(14,.d (Zam t l)),(9,.own 900 (ptL k inn b (l.take i)).length),(1,I k),(2,.d (Zam false inn)),(3,I b)]) (fun i=>[(900,.row 102 3 ((ptL k inn b (l.take i)).map (ZaV false)))]) (fun i=>l.length - i) 0 (Nat.zero_le _) ?_
 intro i h1
 by_cases hlt:i < l.length
 ·have e1:=Zs4 (k:=k) (inn:=inn) (b:=b) hlt
  have e2:=ZvB k inn b l[i]
  have e3:=Zb8 (List.getElem_mem hlt)
  have e4:=ZdV l[i]
  obtain⟨⟨n0,n1⟩,hB2⟩:=Zt3 (ZmG hB (List.getElem_mem hlt))
  obtain⟨p1,p2⟩:=ZvC (ZqJ hP (List.getElem_mem hlt))
  have hih:=ih (l:=l[i].l) (inn:=inn) (k:=k) (b:=b) (by omega) (by omega) p1 hB2 hb0 hb1 hi t
  have hlen:(ptL k inn b (l.take (i+1))).length≤100000000:=by
   have:=congrArg List.length (ZfY k inn b (l.take (i+1)) (l.drop (i+1)))
   rw[List.take_append_drop,List.length_append] at this
   omega
  have e8:=congrArg List.length e1
  rw[List.length_append] at e8
  by_cases h2:l[i].op=2
  ·have h4:¬ l[i].op=4:=by omega
   by_cases hk:l[i].n=k
   ·rw[if_pos ⟨h2,hk⟩] at e2
    rw[e2] at e1 e8
    have e:=congrArg (List.map (ZaV false)) e1
    rw[List.map_append] at e
    repeat (first|refine wk ?_|refine Zaa (hr:=?_))
    refine Zab [] (hA:=hih) (hr:=?_)
    repeat (first|refine wk ?_|refine Zaa (hr:=?_))
    exact Zad (i+1)
   ·rw[if_neg (fun h=>hk h.2),if_neg (fun h=>hk h.2)] at e2
    rw[e2] at e1 e8
    by_cases hov:k < l[i].n
    ·have e:(ptL k inn b (l.take i)).map (ZaV false)++[D.agg [iD l[i].op,.raw (.int .i64 (l[i].n+b)),Zam false (ptL k inn b l[i].l)]]=(ptL k inn b (l.take (i+1))).map (ZaV false):=by
      rw[e1,List.map_append,show mvN l[i].op l[i].n k b=l[i].n+b from if_pos ⟨.inl h2,hov⟩];simp only[List.map_cons,List.map_nil,ZbG];rfl
     repeat (first|refine wk ?_|refine Zaa (hr:=?_))
     refine Zab [] (hA:=hih) (hr:=?_)
     repeat (first|refine wk ?_|refine Zaa (hr:=?_))
     rw[e,List.length_map]
     exact Zad (i+1)
    ·have e:(ptL k inn b (l.take i)).map (ZaV false)++[D.agg [iD l[i].op,iD l[i].n,Zam false (ptL k inn b l[i].l)]]=(ptL k inn b (l.take (i+1))).map (ZaV false):=by
      rw[e1,List.map_append,show mvN l[i].op l[i].n k b=l[i].n from if_neg (fun h=>hov h.2)];simp only[List.map_cons,List.map_nil,ZbG];rfl
     repeat (first|refine wk ?_|refine Zaa (hr:=?_))
     refine Zab [] (hA:=hih) (hr:=?_)
     repeat (first|refine wk ?_|refine Zaa (hr:=?_))
     rw[e,List.length_map]
     exact Zad (i+1)
  ·by_cases h4:l[i].op=4
   ·by_cases hk:l[i].n=k
    ·rw[if_neg (fun h=>h2 h.1),if_pos ⟨h4,hk⟩] at e2
     rw[e2] at e1 e8
     have e:=congrArg (List.map (ZaV false)) e1
     rw[List.map_append] at e
     have hg:=ZtD _ (t:=false) (u:=false) (l:=inn) (w:=ptL k inn b l[i].l) (Nat.lt_succ_self _) (p2 ⟨h4,hk⟩)
     repeat (first|refine wk ?_|refine Zaa (hr:=?_))
     refine Zab [] (hA:=hih) (hr:=?_)
     repeat (first|refine wk ?_|refine Zaa (hr:=?_))
     (repeat (first|refine wkz ?_|refine Zaa (hr:=?_)))
     repeat (first|refine wk ?_|refine Zaa (hr:=?_))
     refine Zab [] (hA:=hg) (hr:=?_)
     repeat (first|refine wk ?_|refine Zaa (hr:=?_))
     exact Zad (i+1)
    ·rw[if_neg (fun h=>h2 h.1),if_neg (fun h=>hk h.2)] at e2
     rw[e2] at e1 e8
     by_cases hov:k < l[i].n
     ·have e:(ptL k inn b (l.take i)).map (ZaV false)++[D.agg [iD l[i].op,.raw (.int .i64 (l[i].n+b)),Zam false (ptL k inn b l[i].l)]]=(ptL k inn b (l.take (i+1))).map (ZaV false):=by
       rw[e1,List.map_append,show mvN l[i].op l[i].n k b=l[i].n+b from if_pos ⟨.inr h4,hov⟩];simp only[List.map_cons,List.map_nil,ZbG];rfl
      repeat (first|refine wk ?_|refine Zaa (hr:=?_))
      refine Zab [] (hA:=hih) (hr:=?_)
      repeat (first|refine wk ?_|refine Zaa (hr:=?_))
      (repeat (first|refine wkz ?_|refine Zaa (hr:=?_)))
      repeat (first|refine wk ?_|refine Zaa (hr:=?_))
      rw[e,List.length_map]
      exact Zad (i+1)
     ·have e:(ptL k inn b (l.take i)).map (ZaV false)++[D.agg [iD l[i].op,iD l[i].n,Zam false (ptL k inn b l[i].l)]]=(ptL k inn b (l.take (i+1))).map (ZaV false):=by
       rw[e1,List.map_append,show mvN l[i].op l[i].n k b=l[i].n from if_neg (fun h=>hov h.2)];simp only[List.map_cons,List.map_nil,ZbG];rfl
      repeat (first|refine wk ?_|refine Zaa (hr:=?_))
      refine Zab [] (hA:=hih) (hr:=?_)
      repeat (first|refine wk ?_|refine Zaa (hr:=?_))
      (repeat (first|refine wkz ?_|refine Zaa (hr:=?_)))
      repeat (first|refine wk ?_|refine Zaa (hr:=?_))
      rw[e,List.length_map]
      exact Zad (i+1)
   ·rw[if_neg (fun h=>h2 h.1),if_neg (fun h=>h4 h.1)] at e2
    rw[e2] at e1 e8
    have e:(ptL k inn b (l.take i)).map (ZaV false)++[D.agg [iD l[i].op,iD l[i].n,Zam false (ptL k inn b l[i].l)]]=(ptL k inn b (l.take (i+1))).map (ZaV false):=by
     rw[e1,List.map_append,show mvN l[i].op l[i].n k b=l[i].n from if_neg (fun h=>by rcases h.1 with h|h;exact h2 h;exact h4 h)];simp only[List.map_cons,List.map_nil,ZbG];rfl
    repeat (first|refine wk ?_|refine Zaa (hr:=?_))
    refine Zab [] (hA:=hih) (hr:=?_)
    repeat (first|refine wk ?_|refine Zaa (hr:=?_))
    (repeat (first|refine wkz ?_|refine Zaa (hr:=?_)))
    repeat (first|refine wk ?_|refine Zaa (hr:=?_))
    (repeat (first|refine wkz ?_|refine Zaa (hr:=?_)))
    repeat (first|refine wk ?_|refine Zaa (hr:=?_))
    rw[e,List.length_map]
    exact Zad (i+1)
 ·rw[show l.take i=l from List.take_of_length_le (by omega)]
  refine ZaF 900 rfl ?_
  repeat (first|refine wk ?_|refine Zaa (hr:=?_))
  exact fin
theorem ZoA {t:Bool} {l:List Frag} (h1:fszs l≤100000000) (h2:NbL 1000000000 l):ACalls Tryz.prog 133 [.d (Zam t l)] [] (.d (Zam false l)) []:=by
 have hm:=ZlK _ (t:=t) (l:=l) (o:=0) (b:=0) (Nat.lt_succ_self _) h1 h2 (by decide) (by decide)
 rw[ZcX] at hm
 refine ACalls.intro (n:=5) Tryz.func133 rfl rfl (by simp) (by rfl) ?_
 simp only[Zak]
 repeat (first|refine wk ?_|refine Zaa (hr:=?_))
 refine Zab [] (hA:=hm) (hr:=?_)
 repeat (first|refine wk ?_|refine Zaa (hr:=?_))
 exact fin
theorem ZoB {t u:Bool} {l inn:List Frag} {k n:Int} (h1:fszs l≤100000000) (h2:fszs inn≤100000000) (h3:PtL k (movL (-1) k inn) (n - 1) l) (h4:NbL 1000000000 l) (h5:NbL 1000000000 inn) (h6:NbL 1000000000 (Zhs l k inn n)) (h7 : -1000000≤k) (h8:k≤1000000) (h9 : -1000000≤n) (h10:n≤1000000) :
  ACalls Tryz.prog 189 [.d (Zam t l),I k,.d (Zam u inn),I n] [] (.d (Zam false (Zhs l k inn n))) []:=by
 have m1:=ZlK _ (t:=u) (l:=inn) (o := -1) (b:=k) (Nat.lt_succ_self _) h2 h5 (by omega) (by omega)
 have m2:=Zu3 _ (l:=l) (inn:=movL (-1) k inn) (k:=k) (b:=n - 1) (Nat.lt_succ_self _) h1 h3 h4 (by omega) (by omega) (by rw[Zhu];exact h2) t
 have m3:=ZoA (t:=false) (l:=Zhs l k inn n) (Zn8 h3) h6
 unfold Zhs at m3 ⊢
 refine ACalls.intro (n:=18) Tryz.func189 rfl rfl (by simp) (by rfl) ?_
 simp only[Zak]
 repeat (first|refine wk ?_|refine Zaa (hr:=?_))
 refine Zab [] (hA:=m1) (hr:=?_)
 repeat (first|refine wk ?_|refine Zaa (hr:=?_))
 refine Zab [] (hA:=m2) (hr:=?_)
 repeat (first|refine wk ?_|refine Zaa (hr:=?_))
 refine Zab [] (hA:=m3) (hr:=?_)
 repeat (first|refine wk ?_|refine Zaa (hr:=?_))
 exact fin
end Go.Proofs.YtbpmepgnjanhnaaGreat
