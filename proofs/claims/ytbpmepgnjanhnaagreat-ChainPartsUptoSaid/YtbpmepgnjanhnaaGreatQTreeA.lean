import Derived.Test.YtbpmepgnjanhnaaGreatQGramC
import Derived.Test.YtbpmepgnjanhnaaGreatQP1
import Derived.Test.YtbpmepgnjanhnaaGreatQTab
import Derived.Test.YtbpmepgnjanhnaaGreatS5
set_option linter.unusedVariables false
set_option linter.unusedSimpArgs false
set_option linter.unusedSectionVars false
namespace Go.Proofs.YtbpmepgnjanhnaaGreat
open Go.RowKit
set_option maxRecDepth 100000
theorem ZiD {x:Tree} {N:Nat} (h:cnt x≤N) {i:Nat} (hi:i < x.kids.length):cnt x.kids[i]≤N∧cnt x.kids[i] < cnt x:=by
 have:=ZcY (List.getElem_mem hi)
 rw[Ze4] at h
 have:=Ze4 x
 omega
theorem ZcN {x:Tree} {N:Nat} (h:cnt x≤N):x.kids.length≤N:=by
 have:=ZbC x.kids
 rw[Ze4] at h
 omega
theorem ZvW {t:Bool}:∀ (x:Tree),cnt x≤100000000→∀ {m:Nat},m≤10000→ACalls Tryz.prog 95 [.d (Zbf t x),I m] [] (I (ZeY m (cnt x))) []:=by
 refine Tree.ind fun x ih hN m hm=>?_
 refine ACalls.intro (n:=27) Tryz.func95 rfl rfl (by simp) (by rfl) ?_
 simp only[Zal]
 have hk:=ZcN hN
 have hx:=Ze4 x
 repeat (first|refine wk ?_)
 refine Zak (X:=Nat) (fun i=>i≤x.kids.length) (fun i=>[(5,I i),(1,I (ZeY m (1+cnts (x.kids.take i)))),(2,.ptr 2 0)]) (fun _=>[(2,.box 56 [.d (iD x.rule),.d (Zap t x.kids)])]) (fun i=>x.kids.length - i) 0 (Nat.zero_le _) ?_ (hf:=?_)
 rotate_left
 ·refine⟨.of rfl,ZbT rfl ?_,.of rfl,trivial⟩
  simp only[ZeY,List.take_zero,cnts]
  split <;> omega
 intro i hi
 by_cases hlt:i < x.kids.length
 ·have hm1:=ZcY (List.getElem_mem hlt)
  have hm3:=Zh0 hlt
  have hm4:=Zl4 hlt
  have hm5:cnts x.kids=cnts (x.kids.take i)+cnts (x.kids.drop i):=by rw[←ZbG,List.take_append_drop]
  by_cases hv:1+cnts (x.kids.take i)≤m
  ·have e0:ZeY m (1+cnts (x.kids.take i))=((m - (1+cnts (x.kids.take i)):Nat):Int):=by unfold ZeY;rw[if_pos (by omega)];omega
   rw[e0]
   repeat (first|refine wk ?_)
   refine Zab [] (hA:=ih x.kids[i] (List.getElem_mem hlt) (by omega) (m:=m - (1+cnts (x.kids.take i))) (by omega)) (hr:=?_)
   have e:ZeY ((m - (1+cnts (x.kids.take i)):Nat):Int) (cnt x.kids[i])=ZeY m (1+cnts (x.kids.take (i+1))):=by
    unfold ZeY;rw[hm3];split <;> split <;> omega
   rw[e]
   repeat (first|refine wk ?_)
   exact Zae (i+1)
  ·have e0:ZeY m (1+cnts (x.kids.take i)) = -1:=by unfold ZeY;rw[if_neg (by omega)]
   have e1:ZeY m (cnt x) = -1:=by unfold ZeY;rw[if_neg (by omega)]
   rw[e0,e1]
   repeat (first|refine wk ?_)
   exact fin
 ·rw[show x.kids.take i=x.kids from List.take_of_length_le (by omega),←hx]
  repeat (first|refine wk ?_)
  exact fin
theorem ZtG {g:Gram} {x:Tree} {v:Int} (h:¬ (0≤x.rule∧x.rule < g.rules.length)):fits g x v=false:=by
 rw[Zgz]
 by_cases h0:0≤x.rule
 ·rw[if_pos h0,List.getElem?_eq_none (by omega)]
 ·rw[if_neg h0]
theorem ZvX {g:Gram} {x:Tree} {v:Int} {i:Nat} (hi:i < g.rules.length) (e:x.rule=(i:Int)):fits g x v=(decide (g.rules[i].left=v) && (decide ((kids g.rules[i].right).length=x.kids.length) && fitss g x.kids (kids g.rules[i].right))):=by
 rw[Zgz,if_pos (by omega),e,Int.toNat_natCast,List.getElem?_eq_getElem hi]
set_option maxHeartbeats 4000000 in
theorem ZvY {t u:Bool} {g:Gram} (hl:g.rules.length≤100000000) (hr:∀ r∈g.rules,r.right.length≤100000000):∀ (x:Tree),cnt x≤100000000→∀ {v:Int},ACalls Tryz.prog 96 [.d (Za6 t g),.d (Zbf u x),I v] [] (B (fits g x v)) []:=by
 refine Tree.ind fun x ih hN v=>?_
 refine ACalls.intro (n:=62) Tryz.func96 rfl rfl (by simp) (by rfl) ?_
 simp only[Zal]
 have hk:=ZcN hN
 by_cases h0:x.rule < 0
 ·rw[ZtG (by omega)]
  repeat (first|refine wk ?_)
  exact fin
 by_cases h1:(g.rules.length:Int)≤x.rule
 ·rw[ZtG (by omega)]
  repeat (first|refine wk ?_)
  exact fin
 obtain⟨i,hi⟩:∃ i:Nat,x.rule=i:=⟨x.rule.toNat,by omega⟩
 have hlt:i < g.rules.length:=by omega
 rw[ZvX hlt hi]
 have hrk:=hr _ (List.getElem_mem hlt)
 have hkl:=Za3 g.rules[i].right
 by_cases h2:g.rules[i].left=v
 rotate_left
 ·rw[decide_eq_false h2,Bool.false_and]
  repeat (first|refine wk ?_)
  exact fin
 rw[decide_eq_true h2,Bool.true_and]
 repeat (first|refine wk ?_)
 refine Zab [(3,900)] (hA:=Zb5) (hr:=?_)
 by_cases h3:((kids g.rules[i].right).length:Int)=x.kids.length
 ·rw[decide_eq_true (by omega),Bool.true_and]
  repeat (first|refine wk ?_)
  refine Zak (X:=Nat) (fun j=>j≤x.kids.length∧fitss g x.kids (kids g.rules[i].right)=fitss g (x.kids.drop j) ((kids g.rules[i].right).drop j)) (fun j=>[(48,I j),(47,I x.kids.length),(46,.d (Zap u x.kids)),(7,.own 900 (kids g.rules[i].right).length),(4,.ptr 4 0),(3,.ptr 3 0)]) (fun _=>[(3,Zay t g),(4,.box 56 [.d (iD x.rule),.d (Zap u x.kids)]),(900,.row 3 1 ((kids g.rules[i].right).map iD))]) (fun j=>x.kids.length - j) 0 ⟨Nat.zero_le _,rfl⟩ ?_
  rintro j ⟨hj,hq⟩
  by_cases hjl:j < x.kids.length
  ·have hjl':j < (kids g.rules[i].right).length:=by omega
   have hs:=ZqH (g:=g) (k:=x.kids) (vs:=kids g.rules[i].right) hjl hjl'
   have hkc:=ZiD hN hjl
   repeat (first|refine wk ?_)
   refine Zab [] (hA:=ih x.kids[j] (List.getElem_mem hjl) hkc.1 (v:=(kids g.rules[i].right)[j])) (hr:=?_)
   cases hf:fits g x.kids[j] (kids g.rules[i].right)[j] with
   | true =>
    rw[hf,Bool.true_and] at hs
    repeat (first|refine wk ?_)
    exact Zae (j+1) (a:=⟨by omega,hq.trans hs⟩)
   | false =>
    rw[hf,Bool.false_and] at hs
    rw[hq,hs]
    repeat (first|refine wk ?_)
    exact fin
  ·rw[hq,Zsz hjl]
   repeat (first|refine wk ?_)
   exact fin
 ·rw[decide_eq_false (by omega),Bool.false_and]
  repeat (first|refine wk ?_)
  exact fin
theorem ZmR {a:Int}:ACalls Tryz.prog 166 [I a] [] (B false) []:=by
 refine ACalls.intro (n:=6) Tryz.func166 rfl rfl (by simp) (by rfl) ?_
 simp only[Zal]
 repeat (first|refine wk ?_)
 have e:(!decide (a=a))=false:=by simp
 exact fin
def cmpI (a b:Int):Int:=if a < b then -1 else if b < a then 1 else 0
theorem Zog {a b:Int}:ACalls Tryz.prog 84 [I a,I b] [] (I (cmpI a b)) []:=by
 refine ACalls.intro (n:=20) Tryz.func84 rfl rfl (by simp) (by rfl) ?_
 simp only[Zal]
 repeat (first|refine wk ?_)
 refine Zab [] (hA:=ZmR) (hr:=?_)
 repeat (first|refine wk ?_)
 refine Zab [] (hA:=ZmR) (hr:=?_)
 by_cases h1:a < b
 ·rw[cmpI,if_pos h1]
  repeat (first|refine wk ?_)
  exact fin
 ·by_cases h2:b < a
  ·rw[cmpI,if_neg h1,if_pos h2]
   repeat (first|refine wk ?_)
   exact fin
  ·rw[cmpI,if_neg h1,if_neg h2]
   repeat (first|refine wk ?_)
   exact fin
theorem ZiE {t u:Bool} {clos:Nat} {k l:List Tree} (hc:∀ x∈k,∀ y∈l,ACalls Tryz.prog clos [.d (Zbf t x),.d (Zbf u y)] [] (I (ordT x y)) []) (hk:k.length≤100000000) (hl:l.length≤100000000) :
  ACalls Tryz.prog 85 [.d (Zap t k),.d (Zap u l),.fn (.func clos) [] []] [] (I (ordL k l)) []:=by
 refine ACalls.intro (n:=39) Tryz.func85 rfl rfl (by simp) (by rfl) ?_
 simp only[Zal]
 repeat (first|refine wk ?_)
 refine Zak (X:=Nat) (fun i=>i≤k.length∧i≤l.length∧ordL k l=ordL (k.drop i) (l.drop i)) (fun i=>[(13,I i),(12,I k.length),(11,.d (Zap t k)),(2,.fn (.func clos) [] []),(1,.d (Zap u l)),(0,.d (Zap t k))]) (fun _=>[]) (fun i=>k.length - i) 0 ⟨Nat.zero_le _,Nat.zero_le _,rfl⟩ ?_
 rintro i ⟨h1,h2,h3⟩
 by_cases hlt:i < k.length
 ·by_cases hlt':i < l.length
  ·have hs:=Zl5 hlt hlt'
   repeat (first|refine wk ?_)
   refine Zab [] (hA:=hc k[i] (List.getElem_mem hlt) l[i] (List.getElem_mem hlt')) (hr:=?_)
   by_cases h0:ordT k[i] l[i]=0
   ·rw[if_pos h0] at hs
    repeat (first|refine wk ?_)
    exact Zae (i+1) (a:=⟨by omega,by omega,h3.trans hs⟩)
   ·rw[if_neg h0] at hs
    rw[h3,hs]
    repeat (first|refine wk ?_)
    exact fin
  ·rw[h3,ZsC hlt hlt']
   repeat (first|refine wk ?_)
   exact fin
 ·by_cases hlt':i < l.length
  ·rw[h3,ZsB hlt hlt']
   repeat (first|refine wk ?_)
   exact fin
  ·rw[h3,Zpl hlt hlt']
   repeat (first|refine wk ?_)
   exact fin
theorem ZtH {t u:Bool}:∀ (x:Tree),cnt x≤100000000→∀ (y:Tree),cnt y≤100000000→ACalls Tryz.prog 49 [.d (Zbf t x),.d (Zbf u y)] [] (I (ordT x y)) []:=by
 refine Tree.ind fun x ih hx y hy=>?_
 refine ACalls.intro (n:=19) Tryz.func49 rfl rfl (by simp) (by rfl) ?_
 simp only[Zal]
 rw[ZsA]
 repeat (first|refine wk ?_)
 refine Zab [] (hA:=Zog (a:=x.rule) (b:=y.rule)) (hr:=?_)
 by_cases h1:x.rule < y.rule
 ·rw[if_pos h1,cmpI,if_pos h1]
  repeat (first|refine wk ?_)
  exact fin
 ·by_cases h2:y.rule < x.rule
  ·rw[if_neg h1,if_pos h2,cmpI,if_neg h1,if_pos h2]
   repeat (first|refine wk ?_)
   exact fin
  ·have hih:∀ a∈x.kids,∀ b∈y.kids,ACalls Tryz.prog 49 [.d (Zbf t a),.d (Zbf u b)] [] (I (ordT a b)) []:=fun a ha b hb=>ih a ha (by have:=ZcY ha;have:=Ze4 x;omega) b (by have:=ZcY hb;have:=Ze4 y;omega)
   rw[if_neg h1,if_neg h2,cmpI,if_neg h1,if_neg h2]
   repeat (first|refine wk ?_)
   refine Zab [] (hA:=ZiE hih (ZcN hx) (ZcN hy)) (hr:=?_)
   repeat (first|refine wk ?_)
   exact fin
theorem Zoh {t u:Bool}:∀ (x:Tree),cnt x≤100000000→∀ (y:Tree),cnt y≤100000000→ACalls Tryz.prog 50 [.d (Zbf t x),.d (Zbf u y)] [] (I (ordT x y)) []:=by
 refine Tree.ind fun x ih hx y hy=>?_
 refine ACalls.intro (n:=59) Tryz.func50 rfl rfl (by simp) (by rfl) ?_
 simp only[Zal]
 rw[ZsA]
 have hk:=ZcN hx
 have hl:=ZcN hy
 by_cases h1:x.rule < y.rule
 ·rw[if_pos h1]
  repeat (first|refine wk ?_)
  exact fin
 by_cases h2:y.rule < x.rule
 ·rw[if_neg h1,if_pos h2]
  repeat (first|refine wk ?_)
  exact fin
 rw[if_neg h1,if_neg h2]
 repeat (first|refine wk ?_)
 refine Zak (X:=Nat) (fun i=>i≤x.kids.length∧i≤y.kids.length∧ordL x.kids y.kids=ordL (x.kids.drop i) (y.kids.drop i)) (fun i=>[(5,I i),(3,.ptr 3 0),(2,.ptr 2 0)]) (fun _=>[(2,.box 56 [.d (iD x.rule),.d (Zap t x.kids)]),(3,.box 56 [.d (iD y.rule),.d (Zap u y.kids)])]) (fun i=>x.kids.length - i) 0 ⟨Nat.zero_le _,Nat.zero_le _,rfl⟩ ?_
 rintro i ⟨h1,h2,h3⟩
 by_cases hlt:i < x.kids.length
 ·by_cases hlt':i < y.kids.length
  ·have hs:=Zl5 hlt hlt'
   repeat (first|refine wk ?_)
   refine Zab [] (hA:=ih x.kids[i] (List.getElem_mem hlt) (ZiD hx hlt).1 y.kids[i] (ZiD hy hlt').1) (hr:=?_)
   by_cases h0:ordT x.kids[i] y.kids[i]=0
   ·rw[if_pos h0] at hs
    repeat (first|refine wk ?_)
    exact Zae (i+1) (a:=⟨by omega,by omega,h3.trans hs⟩)
   ·rw[if_neg h0] at hs
    rw[h3,hs]
    repeat (first|refine wk ?_)
    exact fin
  ·rw[h3,ZsC hlt hlt']
   repeat (first|refine wk ?_)
   exact fin
 ·by_cases hlt':i < y.kids.length
  ·rw[h3,ZsB hlt hlt']
   repeat (first|refine wk ?_)
   exact fin
  ·rw[h3,Zpl hlt hlt']
   repeat (first|refine wk ?_)
   exact fin
theorem ZmS {t u:Bool} {x y:Tree} (hx:cnt x≤100000000:=by exact Vm) (hy:cnt y≤100000000:=by exact Vm):ACalls Tryz.prog 34 [.d (Zbf t x),.d (Zbf u y)] [] (B (decide (ordT x y=0))) []:=by
 refine ACalls.intro (n:=9) Tryz.func34 rfl rfl (by simp) (by rfl) ?_
 simp only[Zal]
 repeat (first|refine wk ?_)
 refine Zab [] (hA:=Zoh x hx y hy) (hr:=?_)
 repeat (first|refine wk ?_)
 exact fin
set_option maxRecDepth 100000
theorem ZmT:∀ (n:Nat) {t u:Bool} {l:List Frag},fszs l < n→fszs l≤100000000→ACalls Tryz.prog 42 [.d (Zah t l),.d (Zah u l)] [] (B true) []:=by
 intro n
 induction n with
 | zero=>intro t u l h;omega
 | succ n ih =>
 intro t u l hn hN
 have hl:=Nat.le_trans (Zbs l) hN
 refine ACalls.intro (n:=55) Tryz.func42 rfl rfl (by simp) (by rfl) ?_
 simp only[Zal]
 repeat (first|refine wk ?_)
 refine Zak (X:=Nat) (fun x=>x≤l.length) (fun x=>[(5,I x),(0,.d (Zah t l)),(1,.d (Zah u l))]) (fun _=>[]) (fun x=>l.length - x) 0 (Nat.zero_le _) ?_
 intro i h1
 by_cases hlt:i < l.length
 ·have e3:=Zdt (List.getElem_mem hlt)
  have e4:=Ze8 l[i]
  repeat (first|refine wk ?_)
  refine Zab [] (hA:=ih (t:=t) (u:=u) (l:=l[i].l) (by omega) (by omega)) (hr:=?_)
  repeat (first|refine wk ?_)
  exact Zae (i+1)
 ·repeat (first|refine wk ?_)
  exact fin
theorem ZmU {t u:Bool} {l:List Frag} (h:fszs l≤100000000:=by exact Vm):ACalls Tryz.prog 42 [.d (Zah t l),.d (Zah u l)] [] (B true) [] :=
 ZmT _ (Nat.lt_succ_self _) h
theorem Zla {t u:Bool} {l:List Tree} (hN:cnts l≤100000000):ACalls Tryz.prog 20 [.d (Zap t l),.d (Zap u l)] [] (B true) []:=by
 have hl:=Nat.le_trans (ZbC l) hN
 refine ACalls.intro (n:=27) Tryz.func20 rfl rfl (by simp) (by rfl) ?_
 simp only[Zal]
 repeat (first|refine wk ?_)
 refine Zak (X:=Nat) (fun x=>x≤l.length) (fun x=>[(5,I x),(0,.d (Zap t l)),(1,.d (Zap u l))]) (fun _=>[]) (fun x=>l.length - x) 0 (Nat.zero_le _) ?_
 intro i h1
 by_cases hlt:i < l.length
 ·have e3:=ZcY (List.getElem_mem hlt)
  have s1:=ZmS (t:=t) (u:=u) (x:=l[i]) (y:=l[i]) (by omega) (by omega)
  rw[Zh1,decide_eq_true rfl] at s1
  repeat (first|refine wk ?_)
  refine Zab [] (hA:=s1) (hr:=?_)
  repeat (first|refine wk ?_)
  exact Zae (i+1)
 ·repeat (first|refine wk ?_)
  exact fin
theorem Zj5 (k:Nat):ZaH (k+1)=ZaH k++[.mk 2 k []]:=by simp[ZaH,List.range_succ]
theorem Zfo (t:Bool) (k:Nat):(ZaH (k+1)).map (ZaG t)=(ZaH k).map (ZaG t)++[.agg [iD 2,iD k,.sl t 3 []]]:=by rw[Zj5];simp[ZaG,Zdv]
theorem ZtI (t:Bool) (r:Int) (k:Nat):(ZaQ r k).map (ZaG t)=[.agg [iD 1,iD r,Zah t (ZaH k)]]:=by simp[ZaQ,ZaG,ZbP]
set_option maxRecDepth 100000
theorem ZvZ {u:List Int} {n:Int} (hn:n.toNat < u.length):(u.map iD).set n.toNat (iD (u[n.toNat]+1))=(bump u n).map iD:=by
 rw[bump,List.map_set,List.getD_eq_getElem?_getD,List.getElem?_eq_getElem hn];rfl
set_option maxRecDepth 100000
theorem Zec {t u:Bool} {g:Gram} {x:Tree} {v:Int} (hl:g.rules.length≤100000000) (hr:∀ r∈g.rules,r.right.length≤100000000) (hx:cnt x≤100000000) :
  ACalls Tryz.prog 58 [.d (Za6 t g),.d (Zbf u x),I v] [] (.d (Zba (ZaN g x v))) []:=by
 refine ACalls.intro (n:=25) Tryz.func58 rfl rfl (by simp) (by rfl) ?_
 simp only[Zal]
 repeat (first|refine wk ?_)
 refine Zab [] (hA:=ZaM) (hr:=?_)
 by_cases h0:(Zac g).code=0
 ·rw[show ZaN g x v=if cnt x≤400 then (if fits g x v=true then ⟨0,0⟩ else ⟨13, -1⟩) else ⟨6, -1⟩ by rw[ZaN,if_pos h0]]
  repeat (first|refine wk ?_)
  refine Zab [] (hA:=ZvW x hx (m:=400) (by omega)) (hr:=?_)
  by_cases h4:cnt x≤400
  ·rw[if_pos h4,show ZeY ((400:Nat):Int) (cnt x)=((400 - cnt x:Nat):Int) by unfold ZeY;rw[if_pos (by omega)];omega]
   repeat (first|refine wk ?_)
   refine Zab [] (hA:=ZvY hl hr x hx (v:=v)) (hr:=?_)
   cases hf:fits g x v with
   | true =>
    rw[if_pos rfl]
    repeat (first|refine wk ?_)
    exact fin
   | false =>
    rw[if_neg (by simp)]
    repeat (first|refine wk ?_)
    exact fin
  ·rw[if_neg h4,show ZeY ((400:Nat):Int) (cnt x) = -1 by unfold ZeY;rw[if_neg (by omega)]]
   repeat (first|refine wk ?_)
   exact fin
 ·rw[show ZaN g x v=Zac g by rw[ZaN,if_neg h0]]
  repeat (first|refine wk ?_)
  exact fin
theorem ZiF {t:Bool}:∀ (x:Tree),cnt x≤100000000→ACalls Tryz.prog 47 [.d (Zbf t x)] [] (.d (Zbf false x)) []:=by
 refine Tree.ind fun x ih hx=>?_
 refine ACalls.intro (n:=25) Tryz.func47 rfl rfl (by simp) (by rfl) ?_
 simp only[Zal]
 have hk:=ZcN hx
 repeat (first|refine wk ?_)
 refine ZaB 3 1 900 56 2 rfl rfl rfl rfl ?_
 refine Zak (X:=Nat) (fun i=>i≤x.kids.length) (fun i=>[(12,I i),(11,I x.kids.length),(10,.d (Zap t x.kids)),(3,.ptr 3 0),(2,.ptr 2 0),(1,.ptr 1 0)]) (fun i=>[(1,.box 56 [.d (iD x.rule),.d (Zap t x.kids)]),(2,.box 56 [.d (iD 0),.d (.raw (.slice none 0 0))]),(3,.box 56 [.d (iD x.rule),.own 900 (x.kids.take i).length]),(900,.row 56 2 ((x.kids.take i).map (ZaY false)))]) (fun i=>x.kids.length - i) 0 (Nat.zero_le _) ?_
 intro i hi
 by_cases hlt:i < x.kids.length
 ·have e:(x.kids.take (i+1)).map (ZaY false)=(x.kids.take i).map (ZaY false)++[Zbf false x.kids[i]]:=by
   rw[List.take_succ_eq_append_getElem hlt,List.map_append];simp[ZcM]
  repeat (first|refine wk ?_)
  refine Zab [] (hA:=ih x.kids[i] (List.getElem_mem hlt) (ZiD hx hlt).1) (hr:=?_)
  repeat (first|refine wk ?_)
  exact Zae (i+1)
 ·rw[show x.kids.take i=x.kids from List.take_of_length_le (by omega)]
  refine Zav 900 rfl ?_
  repeat (first|refine wk ?_)
  exact fin
theorem Zv0 {t u:Bool} {g:Gram} (hg:g.ok):∀ (x:Tree) (v:Int),fits g x v=true→cnt x≤400→∀ out:List Int,out.length+10 * cnt x≤1000000 →
  ACalls Tryz.prog 181 [.d (Za6 t g),.d (Zbf u x),.own 1000 out.length] [(1000,.row 3 1 (out.map iD))] (.own 1000 (out++ZcZ g x).length) [(1000,.row 3 1 ((out++ZcZ g x).map iD))]:=by
 refine Tree.ind fun x ih v hf hx out ho=>?_
 refine ACalls.intro (n:=41) Tryz.func181 rfl rfl (by simp) (by rfl) ?_
 simp only[Zal]
 obtain⟨i,hi,e1,e2,e3,e4,e5⟩:=ZeK hf
 have hk:=ZcN hx
 have hlen:=hg.rules
 have hrt:=hg.right _ (List.getElem_mem hi)
 have hwl:=Zhs 10 hg.right x
 repeat (first|refine wk ?_)
 refine Zak (X:=Nat×Nat×List Int) (fun y=>y.1≤g.rules[i].right.length∧y.2.1=(kids (g.rules[i].right.take y.1)).length∧ZcZ g x=y.2.2++wordL g (g.rules[i].right.drop y.1) (x.kids.drop y.2.1)∧y.2.2.length≤y.1+10 * cnts (x.kids.take y.2.1))
  (fun y=>[(18,I y.1),(17,I g.rules[i].right.length),(16,.d (ints t g.rules[i].right)),(7,I y.2.1),(4,.ptr 4 0),(3,.ptr 3 0),(2,.own 1000 (out++y.2.2).length)])
  (fun y=>[(3,Zay t g),(4,.box 56 [.d (iD x.rule),.d (Zap u x.kids)]),(1000,.row 3 1 ((out++y.2.2).map iD))]) (fun y=>g.rules[i].right.length - y.1) (0,0,[]) ⟨Nat.zero_le _,by simp[kids],by simpa using e5,by simp⟩ ?_
 rintro⟨j,q,pre⟩ ⟨h1,h2,h3,h4⟩
 dsimp only at h1 h2 h3 h4 ⊢
 have hpl:(ZcZ g x).length=pre.length+(wordL g (g.rules[i].right.drop j) (x.kids.drop q)).length:=by rw[h3,List.length_append]
 have hol:(out++pre).length=out.length+pre.length:=List.length_append
 by_cases hlt:j < g.rules[i].right.length
 ·have hlo:=hg.lo _ (List.getElem_mem hi) _ (List.getElem_mem hlt)
  have hte:=hg.terms
  by_cases hs:g.rules[i].right[j] < 0
  ·rw[ZsE hlt hs,List.length_cons] at hpl
   rw[ZsE hlt hs] at h3
   have e:=ZfH g.rules[i].right j hlt
   rw[Zkn hs,List.append_nil] at e
   repeat (first|refine wk ?_)
   exact Zae (j+1,q,pre++[-1 - g.rules[i].right[j]]) (a:=⟨by omega,by dsimp only;rw[e];exact h2,by simpa using h3,by simp;omega⟩) (b:=by dsimp only;omega)
  ·have hq:q < x.kids.length:=by have:=Zl9 hlt hs;omega
   have hq2:q < (kids g.rules[i].right).length:=by omega
   have e:=ZfH g.rules[i].right j hlt
   rw[Zkm (by omega)] at e
   have hfk:=ZkB e4 hq hq2
   have hkl:=ZiD hx hq
   rw[ZsF hlt hs hq,List.length_append] at hpl
   rw[ZsF hlt hs hq] at h3
   have hc1:=Ze4 x
   have hc2:=Zh0 hq
   have hc3:=Zl4 hq
   have hc4:cnts x.kids=cnts (x.kids.take q)+cnts (x.kids.drop q):=by rw[←ZbG,List.take_append_drop]
   have hc5:=Zhs 10 hg.right x.kids[q]
   have hol2:(out++pre).length+10 * cnt x.kids[q]≤1000000:=by omega
   repeat (first|refine wk ?_)
   refine Zab [] (hA:=ih x.kids[q] (List.getElem_mem hq) _ hfk hkl.1 (out++pre) hol2) (hr:=?_)
   repeat (first|refine wk ?_)
   exact Zae (j+1,q+1,pre++ZcZ g x.kids[q]) (a:=⟨by omega,by dsimp only;rw[e,List.length_append];simp;omega,by simpa using h3,by simp only[List.length_append];omega⟩) (b:=by dsimp only;omega)
 ·rw[ZsG hlt,List.append_nil] at h3
  repeat (first|refine wk ?_)
  rw[h3]
  exact fin
theorem ZtJ {t u:Bool} {g:Gram} {x:Tree} {v:Int} (hg:g.ok) (hf:fits g x v=true) (hx:cnt x≤400) :
  ACalls Tryz.prog 181 [.d (Za6 t g),.d (Zbf u x),.d (.raw (.slice none 0 0))] [] (.own 900 (ZcZ g x).length) [(900,.row 3 1 ((ZcZ g x).map iD))] :=
 ACalls.nilArg (pre:=[Za6 t g,Zbf u x]) (post:=[]) (Zv0 hg x v hf hx [] (by simp;omega))
set_option maxRecDepth 100000
theorem Zed {r:Int} {k:Nat} (hk:k≤100000000:=by exact Vm):ACalls Tryz.prog 120 [I r,I k] [] (.own 20 1) [(20,.row 102 3 ((ZaQ r k).map (ZaG false)))]:=by
 refine ACalls.intro (n:=21) Tryz.func120 rfl rfl (by simp) (by rfl) ?_
 simp only[Zal]
 repeat (first|refine wk ?_)
 refine Zbi 5 900 102 3 rfl rfl rfl ?_
 refine Zak (X:=Nat) (fun x=>x≤k) (fun x=>[(8,I x),(7,I k),(0,I r),(5,.own 900 (ZaH x).length)]) (fun x=>[(900,.row 102 3 ((ZaH x).map (ZaG false)))]) (fun x=>k - x) 0 (Nat.zero_le _) ?_
 intro i h1
 have hh:(ZaH i).length=i:=by simp[ZaH]
 by_cases hlt:i < k
 ·have e:=Zfo false i
  have e':(ZaH (i+1)).length=(ZaH i).length+1:=by rw[Zj5];simp
  repeat (first|refine wk ?_)
  exact Zae (i+1)
 ·obtain rfl:i=k:=by omega
  rw[ZtI]
  repeat (first|refine wk ?_)
  exact fin
abbrev Zbw (t:Bool) (s:Step):Ob:=.box 39 [.d (iD s.g.vars),.d (iD s.g.terms),.d (iD s.g.start),.d (ZaL t s.g.rules),.d (.sl t 1 (s.frags.map (Zah t))),.d (Zap t s.empty)]
theorem ZmV {t u:Bool} {s:Step} (hs:s.fit):ACalls Tryz.prog 14 [.d (Zcf t s),.d (Zcf u s)] [] (B true) []:=by
 refine ACalls.intro (n:=48) Tryz.func14 rfl rfl (by simp) (by rfl) ?_
 simp only[Zal]
 have hf:=hs.frags
 have s1:=Zl3 (t:=t) (u:=u) hs.g hs.g
 rw[decide_eq_true rfl] at s1
 repeat (first|refine wk ?_)
 refine Zab [] (hA:=s1) (hr:=?_)
 repeat (first|refine wk ?_)
 refine Zab [] (hA:=Zla hs.tree) (hr:=?_)
 repeat (first|refine wk ?_)
 refine Zak (X:=Nat) (fun x=>x≤s.frags.length) (fun x=>[(5,I x),(2,.ptr 2 0),(3,.ptr 3 0)]) (fun _=>[(2,Zbw t s),(3,Zbw u s)]) (fun x=>s.frags.length - x) 0 (Nat.zero_le _) ?_
 intro i h1
 by_cases hlt:i < s.frags.length
 ·have hfi:=hs.frag _ (List.getElem_mem hlt)
  repeat (first|refine wk ?_)
  refine Zab [] (hA:=ZmU) (hr:=?_)
  repeat (first|refine wk ?_)
  exact Zae (i+1)
 ·repeat (first|refine wk ?_)
  exact fin
set_option maxRecDepth 100000
set_option maxRecDepth 100000
theorem ZmW {t u:Bool} {g:Gram} {x:Tree} (hl:g.rules.length≤100000000) (hr:∀ r∈g.rules,r.right.length≤100000000) (hx:cnt x≤100000000) :
  ACalls Tryz.prog 103 [.d (Za6 t g),.d (Zbf u x)] [] (.tup [.d (ints false (ZsH g x)),.d (Zba (ZaN g x g.start))]) []:=by
 refine ACalls.intro (n:=20) Tryz.func103 rfl rfl (by simp) (by rfl) ?_
 simp only[Zal]
 refine VA ?_
 refine Zab [] (hA:=Zec hl hr hx) (hr:=?_)
 by_cases h0:(ZaN g x g.start).code=0
 ·obtain⟨hg,h1,h2,h3⟩:=Ze5 h0
  refine VA ?_
  refine Zab [] (hA:=ZtJ hg h2 h1) (hr:=?_)
  rw[ZsH,if_pos h0,h3]
  repeat (first|refine wkr ?_|refine Zaa (hr:=?_))
  refine Zav 900 rfl ?_
  refine VA ?_
  exact fin
 ·rw[ZsH,if_neg h0]
  refine VA ?_
  exact fin
def againG:Gram:=⟨1,2,0,[⟨0,[0, -1]⟩,⟨0,[-2]⟩]⟩
theorem ZiG:ACalls Tryz.prog 35 [] [] (.d (Za6 false againG)) []:=by
 refine ACalls.intro (n:=7) Tryz.func35 rfl rfl (by simp) (by rfl) ?_
 simp only[Zal]
 repeat (first|refine wkr ?_|refine Zaa (hr:=?_))
 refine Zav 5 rfl ?_
 refine VA ?_
 exact fin
set_option maxRecDepth 100000
abbrev Zy4 (t:Bool) (g:Gram) (k:Nat) (p:Int) (b:Bool):Ob:=.box 144 [.d (iD g.vars),.d (iD g.terms),.d (iD g.start),.d (ZaL t g.rules),.own 1001 k,I p,B b]
abbrev ctH (t:Bool) (g:Gram) (k:Nat) (p:Int) (b:Bool) (u:List Int):Hp:=[(1000,Zy4 t g k p b),(1001,.row 3 1 (u.map iD))]
theorem CS.use_bad {s:CS} {n:Int} (h:s.bad=true∨n < 0∨(s.u.length:Int)≤n):s.use n=⟨s.p,true,s.u⟩:=if_pos (by rcases h with h|h|h <;> simp[h])
theorem CS.use_ok {s:CS} {n:Int} (h1:s.bad=false) (h2:¬ n < 0) (h3:¬ (s.u.length:Int)≤n):s.use n=⟨s.p,false,bump s.u n⟩:=if_neg (by rw[h1,decide_eq_false h2,decide_eq_false h3];decide)
theorem Zv1 {a:Bool} {n m:Int} (h:a=true∨n < 0∨m≤n):(a || (decide (n < 0) || decide (m≤n)))=true:=by rcases h with h|h|h <;> simp[h]
theorem ZtK {a:Bool} {n m:Int} (h1:a=false) (h2:¬ n < 0) (h3:¬ m≤n):(a || (decide (n < 0) || decide (m≤n)))=false:=by simp[h1];omega
set_option maxHeartbeats 40000000 in
theorem ZtL:∀ (N:Nat) {t u:Bool} {l:List Frag} {g:Gram} {s:CS} {Z k m:Nat} {p:Int},fszs l < N→g.rules.length=m→s.u.length=k→Upto Z s.u→Z+fszs l≤100000000→s.p+fszs l≤100000000→k≤100000000→m≤100000000→p=(s.p:Int) →
  ACalls Tryz.prog 105 [.ptr 1000 0,.d (Zah t l)] (ctH u g k p s.bad s.u) (.tup []) (ctH u g k ((clL m l s).p:Int) (clL m l s).bad (clL m l s).u):=by
 intro N
 induction N with
 | zero=>intro t u l g s Z k m p h;omega
 | succ N ih =>
 intro t u l g s Z k m p hn hgm hk hB hN hP hu hm hp
 have hl:=Nat.le_trans (Zbs l) (show fszs l≤100000000 by omega)
 refine ACalls.intro (n:=109) Tryz.func105 rfl rfl (by simp) (by rfl) ?_
 simp only[Zal]
 refine VA ?_
 refine Zak (X:=Nat×Int×CS) (fun x=>x.1≤l.length∧clL m l s=clL m (l.drop x.1) x.2.2∧x.2.2.u.length=k∧Upto (Z+fszs (l.take x.1)) x.2.2.u∧x.2.2.p≤s.p+fszs (l.take x.1)∧x.2.1=(x.2.2.p:Int)) (fun x=>[(8,I x.1),(7,I l.length),(6,.d (Zah t l)),(0,.ptr 1000 0)]) (fun x=>ctH u g k x.2.1 x.2.2.bad x.2.2.u) (fun x=>l.length - x.1) (0,p,s) ⟨Nat.zero_le _,rfl,hk,by simpa[fszs] using hB,by simp,hp⟩ ?_
 rintro⟨i,q,v⟩ ⟨h1,h2,h3,h4,h5,h6⟩
 dsimp only at h1 h2 h3 h4 h5 h6 ⊢
 rw[h2]
 clear h2
 by_cases hlt:i < l.length
 ·have e1:=ZfO hlt
  have e2:=Ze8 l[i]
  have e3:=Zdt (List.getElem_mem hlt)
  have e4:=ZdO l i
  have e5:=ZsO hlt
  have s1:=Zvo (m:=m) (s:=v) hlt
  by_cases h60:60 < v.p+1
  ·rw[if_pos h60] at s1
   rw[s1]
   have e6:((v.p+1:Nat):Int)=q+1:=by omega
   rw[e6]
   refine VA ?_
   exact fin
  rw[if_neg h60] at s1
  have s2:=Zyh m l[i] ⟨v.p+1,v.bad,v.u⟩
  have hq1:q+1=((v.p+1:Nat):Int):=by omega
  by_cases o1:l[i].op=1
  ·rw[if_pos o1] at s2
   by_cases hb:v.bad=true∨l[i].n < 0∨(m:Int)≤l[i].n
   ·rw[Zv1 hb] at s2
    rw[s2] at s1
    have hih:=ih (t:=t) (u:=u) (l:=l[i].l) (g:=g) (s:=⟨v.p+1,true,v.u⟩) (Z:=Z+fszs (l.take i)) (k:=k) (m:=m) (p:=q+1) (by omega) hgm h3 h4 (by omega) (by show v.p+1+fszs l[i].l≤_;omega) hu hm hq1
    have u0:=Zex m l[i].l ⟨v.p+1,true,v.u⟩
    have u1:=Zdu m l[i].l ⟨v.p+1,true,v.u⟩ _ h4
    have u2:=(ZkO m l[i].l ⟨v.p+1,true,v.u⟩).2
    generalize clL m l[i].l ⟨v.p+1,true,v.u⟩=z at *
    dsimp only at u0 u1 u2 hih
    cases hvb:v.bad with
    | true =>
     refine VA ?_
     refine Zab [] (hA:=hih) (hr:=?_)
     refine VA ?_
     exact Zae (i+1,z.p,z) (a:=⟨by omega,s1,by rw[u0];exact h3,u1.mono (by dsimp only;omega),by dsimp only;omega,rfl⟩) (b:=by dsimp only;omega)
    | false =>
     have hb':l[i].n < 0∨(m:Int)≤l[i].n:=hb.resolve_left (by rw[hvb];decide)
     by_cases n1:l[i].n < 0
     ·refine VA ?_
      rw[decide_eq_true n1]
      refine Zab [] (hA:=hih) (hr:=?_)
      refine VA ?_
      exact Zae (i+1,z.p,z) (a:=⟨by omega,s1,by rw[u0];exact h3,u1.mono (by dsimp only;omega),by dsimp only;omega,rfl⟩) (b:=by dsimp only;omega)
     ·have n2:(m:Int)≤l[i].n:=hb'.resolve_left n1
      refine VA ?_
      rw[hgm,decide_eq_true n2]
      refine Zab [] (hA:=hih) (hr:=?_)
      refine VA ?_
      exact Zae (i+1,z.p,z) (a:=⟨by omega,s1,by rw[u0];exact h3,u1.mono (by dsimp only;omega),by dsimp only;omega,rfl⟩) (b:=by dsimp only;omega)
   ·have hvb:v.bad=false:=by cases h:v.bad with|false=>rfl|true=>exact absurd (Or.inl h) hb
    have n1:¬ l[i].n < 0:=fun h=>hb (.inr (.inl h))
    have n2:¬ (m:Int)≤l[i].n:=fun h=>hb (.inr (.inr h))
    rw[ZtK hvb n1 n2] at s2
    rw[s2] at s1
    have hih:=ih (t:=t) (u:=u) (l:=l[i].l) (g:=g) (s:=⟨v.p+1,false,v.u⟩) (Z:=Z+fszs (l.take i)) (k:=k) (m:=m) (p:=q+1) (by omega) hgm h3 h4 (by omega) (by show v.p+1+fszs l[i].l≤_;omega) hu hm hq1
    have u0:=Zex m l[i].l ⟨v.p+1,false,v.u⟩
    have u1:=Zdu m l[i].l ⟨v.p+1,false,v.u⟩ _ h4
    have u2:=(ZkO m l[i].l ⟨v.p+1,false,v.u⟩).2
    generalize clL m l[i].l ⟨v.p+1,false,v.u⟩=z at *
    dsimp only at u0 u1 u2 hih
    rw[hvb]
    refine VA ?_
    rw[hgm,decide_eq_false n2]
    refine Zab [] (hA:=hih) (hr:=?_)
    refine VA ?_
    exact Zae (i+1,z.p,z) (a:=⟨by omega,s1,by rw[u0];exact h3,u1.mono (by dsimp only;omega),by dsimp only;omega,rfl⟩) (b:=by dsimp only;omega)
  ·rw[if_neg o1] at s2
   by_cases o24:l[i].op=2∨l[i].op=4
   ·by_cases hb:v.bad=true∨l[i].n < 0∨(k:Int)≤l[i].n
    ·have hus:CS.use ⟨v.p+1,v.bad,v.u⟩ l[i].n=⟨v.p+1,true,v.u⟩:=CS.use_bad (by rw[←h3] at hb;exact hb)
     rw[hus] at s2
     by_cases o2:l[i].op=2
     ·rw[if_pos o2] at s2
      rw[s2] at s1
      cases hvb:v.bad with
      | true =>
       refine VA ?_
       refine VA ?_
       exact Zae (i+1,q+1,⟨v.p+1,true,v.u⟩) (a:=⟨by omega,s1,h3,h4.mono (by dsimp only;omega),by dsimp only;omega,by dsimp only;omega⟩) (b:=by dsimp only;omega)
      | false =>
       have hb':l[i].n < 0∨(k:Int)≤l[i].n:=hb.resolve_left (by rw[hvb];decide)
       by_cases n1:l[i].n < 0
       ·refine VA ?_
        rw[decide_eq_true n1]
        refine VA ?_
        exact Zae (i+1,q+1,⟨v.p+1,true,v.u⟩) (a:=⟨by omega,s1,h3,h4.mono (by dsimp only;omega),by dsimp only;omega,by dsimp only;omega⟩) (b:=by dsimp only;omega)
       ·have n2:(k:Int)≤l[i].n:=hb'.resolve_left n1
        refine VA ?_
        rw[h3,decide_eq_true n2]
        refine VA ?_
        exact Zae (i+1,q+1,⟨v.p+1,true,v.u⟩) (a:=⟨by omega,s1,h3,h4.mono (by dsimp only;omega),by dsimp only;omega,by dsimp only;omega⟩) (b:=by dsimp only;omega)
     ·have o4:l[i].op=4:=by omega
      rw[if_neg o2,if_pos o4] at s2
      rw[s2] at s1
      have hih:=ih (t:=t) (u:=u) (l:=l[i].l) (g:=g) (s:=⟨v.p+1,true,v.u⟩) (Z:=Z+fszs (l.take i)) (k:=k) (m:=m) (p:=q+1) (by omega) hgm h3 h4 (by omega) (by show v.p+1+fszs l[i].l≤_;omega) hu hm hq1
      have u0:=Zex m l[i].l ⟨v.p+1,true,v.u⟩
      have u1:=Zdu m l[i].l ⟨v.p+1,true,v.u⟩ _ h4
      have u2:=(ZkO m l[i].l ⟨v.p+1,true,v.u⟩).2
      generalize clL m l[i].l ⟨v.p+1,true,v.u⟩=z at *
      dsimp only at u0 u1 u2 hih
      cases hvb:v.bad with
      | true =>
       refine VA ?_
       refine VA ?_
       refine Zab [] (hA:=hih) (hr:=?_)
       refine VA ?_
       exact Zae (i+1,z.p,z) (a:=⟨by omega,s1,by rw[u0];exact h3,u1.mono (by dsimp only;omega),by dsimp only;omega,rfl⟩) (b:=by dsimp only;omega)
      | false =>
       have hb':l[i].n < 0∨(k:Int)≤l[i].n:=hb.resolve_left (by rw[hvb];decide)
       by_cases n1:l[i].n < 0
       ·refine VA ?_
        rw[decide_eq_true n1]
        refine VA ?_
        refine Zab [] (hA:=hih) (hr:=?_)
        refine VA ?_
        exact Zae (i+1,z.p,z) (a:=⟨by omega,s1,by rw[u0];exact h3,u1.mono (by dsimp only;omega),by dsimp only;omega,rfl⟩) (b:=by dsimp only;omega)
       ·have n2:(k:Int)≤l[i].n:=hb'.resolve_left n1
        refine VA ?_
        rw[h3,decide_eq_true n2]
        refine VA ?_
        refine Zab [] (hA:=hih) (hr:=?_)
        refine VA ?_
        exact Zae (i+1,z.p,z) (a:=⟨by omega,s1,by rw[u0];exact h3,u1.mono (by dsimp only;omega),by dsimp only;omega,rfl⟩) (b:=by dsimp only;omega)
    ·have hvb:v.bad=false:=by cases h:v.bad with|false=>rfl|true=>exact absurd (Or.inl h) hb
     have n1:¬ l[i].n < 0:=fun h=>hb (.inr (.inl h))
     have n2:¬ (k:Int)≤l[i].n:=fun h=>hb (.inr (.inr h))
     have hus:CS.use ⟨v.p+1,v.bad,v.u⟩ l[i].n=⟨v.p+1,false,bump v.u l[i].n⟩:=CS.use_ok hvb n1 (by rw[←h3] at n2;exact n2)
     rw[hus] at s2
     have hnk:l[i].n=((l[i].n.toNat:Nat):Int):=by omega
     have hnl:l[i].n.toNat < v.u.length:=by omega
     have hbr:=ZvZ hnl
     have hub:=Zmh (n:=l[i].n) h4
     have hbl:=ZcH v.u l[i].n
     have hvbd:=h4 _ (List.getElem_mem hnl)
     rw[hvb]
     by_cases o2:l[i].op=2
     ·rw[if_pos o2] at s2
      rw[s2] at s1
      refine VA ?_
      rw[h3,decide_eq_false n2]
      exact Zae (i+1,q+1,⟨v.p+1,false,bump v.u l[i].n⟩) (a:=⟨by omega,s1,by rw[ZcH];exact h3,hub.mono (by dsimp only;omega),by dsimp only;omega,by dsimp only;omega⟩) (b:=by dsimp only;omega)
     ·have o4:l[i].op=4:=by omega
      rw[if_neg o2,if_pos o4] at s2
      rw[s2] at s1
      have hih:=ih (t:=t) (u:=u) (l:=l[i].l) (g:=g) (s:=⟨v.p+1,false,bump v.u l[i].n⟩) (Z:=Z+fszs (l.take i)+1) (k:=k) (m:=m) (p:=q+1) (by omega) hgm (hbl.trans h3) hub (by omega) (by show v.p+1+fszs l[i].l≤_;omega) hu hm hq1
      have u0:=Zex m l[i].l ⟨v.p+1,false,bump v.u l[i].n⟩
      have u1:=Zdu m l[i].l ⟨v.p+1,false,bump v.u l[i].n⟩ _ hub
      have u2:=(ZkO m l[i].l ⟨v.p+1,false,bump v.u l[i].n⟩).2
      generalize clL m l[i].l ⟨v.p+1,false,bump v.u l[i].n⟩=z at *
      dsimp only at u0 u1 u2 hih
      unfold ctH at hih
      rw[←hbr] at hih
      refine VA ?_
      rw[h3,decide_eq_false n2]
      refine Zab [] (hA:=hih) (hr:=?_)
      refine VA ?_
      exact Zae (i+1,z.p,z) (a:=⟨by omega,s1,by rw[u0,hbl];exact h3,u1.mono (by dsimp only;omega),by dsimp only;omega,rfl⟩) (b:=by dsimp only;omega)
   ·have o2:¬ l[i].op=2:=fun h=>o24 (Or.inl h)
    have o4:¬ l[i].op=4:=fun h=>o24 (Or.inr h)
    rw[if_neg o2,if_neg o4] at s2
    by_cases o3:l[i].op=3
    ·rw[if_pos o3] at s2
     rw[s2] at s1
     refine VA ?_
     exact Zae (i+1,q+1,⟨v.p+1,v.bad,v.u⟩) (a:=⟨by omega,s1,h3,h4.mono (by dsimp only;omega),by dsimp only;omega,by dsimp only;omega⟩) (b:=by dsimp only;omega)
    ·rw[if_neg o3] at s2
     rw[s2] at s1
     refine VA ?_
     exact Zae (i+1,q+1,⟨v.p+1,true,v.u⟩) (a:=⟨by omega,s1,h3,h4.mono (by dsimp only;omega),by dsimp only;omega,by dsimp only;omega⟩) (b:=by dsimp only;omega)
 ·rw[Zw4 hlt,←h6]
  refine VA ?_
  exact fin
set_option maxRecDepth 100000
theorem Zjb {n:Int}:ACalls Tryz.prog 106 [I n] [] (B (!decide (n=1))) []:=by
 refine ACalls.intro (n:=5) Tryz.func106 rfl rfl (by simp) (by rfl) ?_
 simp only[Zal]
 refine VA ?_
 exact fin
set_option maxHeartbeats 4000000 in
theorem Zf7 {t u:Bool} {old:Gram} {s:Step} (ho:old.fit) (hs:s.fit):ACalls Tryz.prog 63 [.d (Za6 t old),.d (Zcf u s)] [] (.d (Zba (Zar old s))) []:=by
 refine ACalls.intro (n:=109) Tryz.func63 rfl rfl (by simp) (by rfl) ?_
 simp only[Zal]
 have hf:=hs.frags
 have he:=hs.empty
 have hol:=ho.rules
 have hgl:=hs.g.rules
 have hor:=ho.right
 have hgr:=hs.g.right
 refine VA ?_
 refine Zab [] (hA:=ZaM) (hr:=?_)
 by_cases h0:(Zac old).code=0
 rotate_left
 ·rw[show Zar old s=Zac old by rw[Zar,if_neg h0]]
  refine VA ?_
  exact fin
 have hg:=Za1 h0
 refine VA ?_
 refine Zab [] (hA:=ZaM) (hr:=?_)
 by_cases h1:(Zac s.g).code=0
 rotate_left
 ·rw[show Zar old s=Zac s.g by rw[Zar,if_pos h0,if_neg h1]]
  refine VA ?_
  exact fin
 have hsg:=Za1 h1
 by_cases h2:(s.empty.length:Int) > 200
 ·rw[show Zar old s=⟨6, -1⟩ by rw[Zar,if_pos h0,if_pos h1,if_neg (by omega)]]
  refine VA ?_
  exact fin
 rw[show Zar old s=if s.empty.any (ZbD old)=true then ⟨13, -1⟩ else if s.frags.length=s.g.rules.length then Zda old s.frags s.g.rules 0 else ⟨14, -1⟩ by rw[Zar,if_pos h0,if_pos h1,if_pos (by omega)]]
 refine VA ?_
 refine Zak (X:=Nat) (fun i=>i≤s.empty.length∧∀ j,j < i→∀ (hj:j < s.empty.length),ZbD old s.empty[j]=false) (fun i=>[(35,I i),(34,I s.empty.length),(33,.d (Zap u s.empty)),(2,.ptr 2 0),(3,.ptr 3 0),(4,.ptr 4 0)]) (fun _=>[(2,Zay t old),(3,Zbw u s),(4,.box 31 [.d (iD 0),.d (iD 0)])]) (fun i=>s.empty.length - i) 0 ⟨Nat.zero_le _,fun _ h=>by omega⟩ ?_
 ·rintro i ⟨hi,hp⟩
  by_cases hlt:i < s.empty.length
  ·have hc:=hs.trees _ (List.getElem_mem hlt)
   refine VA ?_
   refine Zab [] (hA:=ZmW hol hor hc) (hr:=?_)
   by_cases h3:(ZaN old s.empty[i] old.start).code=0
   ·have hw:ZsH old s.empty[i]=ZcZ old s.empty[i]:=by rw[ZsH,if_pos h3]
    by_cases h4:(0:Int) < (ZcZ old s.empty[i]).length
    ·rw[if_pos (ZrI hlt (by rw[ZbD,decide_eq_true h3,decide_eq_true (show 0 < _ by omega)];rfl)),hw]
     refine VA ?_
     exact fin
    ·rw[hw]
     have hwl:=Zhs 10 hg.right s.empty[i]
     refine VA ?_
     exact Zae (i+1) (a:=⟨by omega,ZhL hp (fun _=>by rw[ZbD,decide_eq_true h3,decide_eq_false (show ¬ 0 < (ZcZ old s.empty[i]).length by omega)];rfl)⟩)
   ·rw[if_pos (ZrI hlt (by simp[ZbD,h3]))]
    refine VA ?_
    exact fin
  ·rw[if_neg (by rw[ZoX (fun j hj=>hp j (by omega) hj)];simp)]
   by_cases h5:s.frags.length=s.g.rules.length
   rotate_left
   ·rw[if_neg h5]
    refine VA ?_
    exact fin
   rw[if_pos h5]
   refine VA ?_
   refine Zak (X:=Nat) (fun i=>i≤s.g.rules.length∧Zda old s.frags s.g.rules 0=Zda old (s.frags.drop i) (s.g.rules.drop i) i) (fun i=>[(68,I i),(67,I s.g.rules.length),(66,.d (ZaL u s.g.rules)),(2,.ptr 2 0),(3,.ptr 3 0),(4,.ptr 4 0)]) (fun _=>[(2,Zay t old),(3,Zbw u s),(4,.box 31 [.d (iD 0),.d (iD 0)])]) (fun i=>s.g.rules.length - i) 0 ⟨Nat.zero_le _,rfl⟩ ?_
   rintro i ⟨hi,hp⟩
   by_cases hlr:i < s.g.rules.length
   ·have hlt:i < s.frags.length:=by omega
    have hfi:=hs.frag _ (List.getElem_mem hlt)
    have hst:=ZnV (old:=old) hlt hlr
    have hgi:=hgr _ (List.getElem_mem hlr)
    have hkl:=Za3 s.g.rules[i].right
    have hcl:=ZtL _ (t:=u) (u:=t) (l:=s.frags[i]) (g:=old) (s:=⟨0,false,List.replicate (kids s.g.rules[i].right).length 0⟩) (Z:=0) (k:=(kids s.g.rules[i].right).length) (m:=old.rules.length) (p:=0) (Nat.lt_succ_self _) rfl (by simp) (fun x hx=>by rw[(List.mem_replicate.1 hx).2];omega) (by omega) (by simpa using hfi) (by omega) hol rfl
    have hcp:=Zw6 old s.frags[i] s.g.rules[i].right _ rfl
    have hcu:=Zdu old.rules.length s.frags[i] ⟨0,false,List.replicate (kids s.g.rules[i].right).length 0⟩ 0 (fun x hx=>by rw[(List.mem_replicate.1 hx).2];omega)
    have hcn:=Zex old.rules.length s.frags[i] ⟨0,false,List.replicate (kids s.g.rules[i].right).length 0⟩
    have hpp:=(ZkO old.rules.length s.frags[i] ⟨0,false,List.replicate (kids s.g.rules[i].right).length 0⟩).2
    generalize clL old.rules.length s.frags[i] ⟨0,false,List.replicate (kids s.g.rules[i].right).length 0⟩=z at *
    unfold ctH at hcl
    dsimp only at hcl hcn hpp
    rw[List.length_replicate] at hcn
    rw[List.map_replicate] at hcl
    refine VA ?_
    refine Zab [(3,900)] (hA:=Zb5) (hr:=?_)
    refine VA ?_
    refine Zab [(1000,79),(1001,77)] (hA:=hcl) (hr:=?_)
    by_cases c1:60 < z.p
    ·rw[if_pos c1] at hcp
     rw[hcp,if_neg (by decide)] at hst
     rw[hp,hst]
     refine VA ?_
     exact fin
    ·rw[if_neg c1] at hcp
     cases hb:z.bad with
     | true =>
      rw[hb,Bool.true_or,if_pos rfl] at hcp
      rw[hcp,if_neg (by decide)] at hst
      rw[hp,hst]
      refine VA ?_
      exact fin
     | false =>
      rw[hb,Bool.false_or] at hcp
      refine VA ?_
      refine Zab [] (hA:=Zbx (t:=false) (clos:=106) (caps:=[]) (H:=[]) (p:=fun n=>!decide (n=1)) Clo.nil (fun x _=>Zjb)) (hr:=?_)
      cases hv:z.u.any (fun n=>!decide (n=1)) with
      | true =>
       rw[hv,if_pos rfl] at hcp
       rw[hcp,if_neg (by decide)] at hst
       rw[hp,hst]
       refine VA ?_
       exact fin
      | false =>
       rw[hv,if_neg (by decide)] at hcp
       rw[hcp,if_pos rfl] at hst
       refine VA ?_
       exact Zae (i+1) (a:=⟨by omega,hp.trans hst⟩)
   ·rw[hp,ZqJ (by omega)]
    refine VA ?_
    exact fin
end Go.Proofs.YtbpmepgnjanhnaaGreat
