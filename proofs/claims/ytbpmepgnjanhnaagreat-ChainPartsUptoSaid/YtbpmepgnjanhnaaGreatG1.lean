import Derived.Test.YtbpmepgnjanhnaaGreatSimW
set_option linter.unusedVariables false
set_option linter.unusedSimpArgs false
set_option linter.unusedSectionVars false
namespace Go.Proofs.YtbpmepgnjanhnaaGreat
open Go.RowKit
set_option maxRecDepth 100000
structure Gram.fit (g:Gram):Prop where
 rules:g.rules.length≤100000000
 right:∀ r∈g.rules,r.right.length≤100000000
def kids (xs:List Int):List Int:=xs.filter (fun x=>decide (0≤x))
theorem ZfH (xs:List Int) (k:Nat) (h:k < xs.length):kids (xs.take (k+1))=kids (xs.take k)++kids [xs[k]]:=by
 rw[List.take_succ_eq_append_getElem h];simp only[kids,List.filter_append]
theorem Zkm {x:Int} (h:0≤x):kids [x]=[x]:=by simp[kids,h]
theorem Zkn {x:Int} (h:x < 0):kids [x]=[]:=by simp[kids];omega
theorem Za3 (xs:List Int):(kids xs).length≤xs.length:=List.length_filter_le _ _
def byR:List Rule→Int→Nat→List Int
 | [],_,_=>[]
 | r::rs,v,i=>if r.left=v then (i:Int)::byR rs v (i+1) else byR rs v (i+1)
def by_ (g:Gram) (v:Int):List Int:=byR g.rules v 0
theorem Zjm (v:Int):∀ (a b:List Rule) (i:Nat),byR (a++b) v i=byR a v i++byR b v (i+a.length)
 | [],b,i=>by simp[byR]
 | r::a,b,i=>by
  simp only[List.cons_append,byR,Zjm v a b (i+1),List.length_cons]
  have:i+1+a.length=i+(a.length+1):=by omega
  rw[this];split <;> rfl
theorem ZuG (rs:List Rule) (v:Int) (k:Nat) (h:k < rs.length):byR (rs.take (k+1)) v 0=byR (rs.take k) v 0++(if rs[k].left=v then [(k:Int)] else []):=by
 rw[List.take_succ_eq_append_getElem h,Zjm]
 simp only[byR,List.length_take,Nat.zero_add]
 rw[Nat.min_eq_left (by omega)]
theorem ZlA (v:Int):∀ (rs:List Rule) (i:Nat),(byR rs v i).length≤rs.length
 | [],i=>by simp[byR]
 | r::rs,i=>by
  have:=ZlA v rs (i+1)
  simp only[byR];split <;> simp <;> omega
def ZgY (g:Gram):Bool:=decide (400 < g.rules.length) || g.rules.any (fun r=>decide (100 < r.right.length))
theorem ZrI {α:Type} {p:α→Bool} {xs:List α} {k:Nat} (h:k < xs.length) (hp:p xs[k]=true):xs.any p=true:=List.any_eq_true.2 ⟨_,List.getElem_mem h,hp⟩
theorem ZoX {α:Type} {p:α→Bool} {xs:List α} (h:∀ j (hj:j < xs.length),p xs[j]=false):xs.any p=false:=by
 rw[List.any_eq_false];intro x hx
 obtain⟨j,hj,rfl⟩:=List.getElem_of_mem hx
 simp[h j hj]
theorem ZhL {P:Nat→Prop} {k:Nat} (h:∀ j,j < k→P j) (hk:P k):∀ j,j < k+1→P j:=fun j hj=>by
 by_cases e:j=k
 ·subst e;exact hk
 ·exact h j (by omega)
theorem ZlB {xs ys:List Int} (hl:xs.length=ys.length) (h:∀ j (hx:j < xs.length) (hy:j < ys.length),xs[j]=ys[j]):xs=ys:=List.ext_getElem hl h
theorem ZlC {t u:Bool} {xs ys:List Int} (hb1:xs.length≤100000000:=by exact Vm) (hb2:ys.length≤100000000:=by exact Vm) :
  ACalls Tryz.prog 41 [.d (ints t xs),.d (ints u ys)] [] (B (decide (xs=ys))) []:=by
 refine ACalls.intro (n:=26) Tryz.func41 rfl rfl (by simp) (by rfl) ?_
 simp only[Zal]
 by_cases hl:(xs.length:Int)=ys.length
 ·repeat (first|refine wk ?_)
  refine Zak (X:=Nat) (fun k=>k≤xs.length∧∀ j (hx:j < xs.length) (hy:j < ys.length),j < k→xs[j]=ys[j]) (fun k=>[(5,I k),(0,V.d (ints t xs)),(1,V.d (ints u ys))]) (fun _=>[]) (fun k=>xs.length - k) 0
   ⟨Nat.zero_le _,by omega⟩ ?_
  rintro k ⟨hk,hp⟩
  by_cases hlt:k < xs.length
  ·have hlt':k < ys.length:=by omega
   by_cases hx:xs[k]=ys[k]
   ·repeat (first|refine wk ?_)
    exact Zae (k+1) (a:=⟨by omega,fun j h1 h2 h3=>by
     by_cases e:j < k
     ·exact hp j h1 h2 e
     ·obtain rfl:j=k:=by omega
      exact hx⟩)
   ·repeat (first|refine wk ?_)
    have e:decide (xs=ys)=false:=by rw[decide_eq_false_iff_not];rintro rfl;exact hx rfl
    rw[e]
    exact fin
  ·repeat (first|refine wk ?_)
   have e:decide (xs=ys)=true:=by rw[decide_eq_true_eq];exact ZlB (by omega) (fun j h1 h2=>hp j h1 h2 (by omega))
   rw[e]
   exact fin
 ·repeat (first|refine wk ?_)
  have e:decide (xs=ys)=false:=by rw[decide_eq_false_iff_not];rintro rfl;exact hl rfl
  rw[e]
  exact fin
theorem ZrJ {t u:Bool} {xs ys:List Int} (hb1:xs.length≤100000000:=by exact Vm) (hb2:ys.length≤100000000:=by exact Vm) :
  ACalls Tryz.prog 119 [.d (ints t xs),.d (ints u ys)] [] (B (decide (xs=ys))) []:=by
 refine ACalls.intro (n:=26) Tryz.func119 rfl rfl (by simp) (by rfl) ?_
 simp only[Zal]
 by_cases hl:(xs.length:Int)=ys.length
 ·repeat (first|refine wk ?_)
  refine Zak (X:=Nat) (fun k=>k≤xs.length∧∀ j (hx:j < xs.length) (hy:j < ys.length),j < k→xs[j]=ys[j]) (fun k=>[(13,I k),(12,I xs.length),(0,V.d (ints t xs)),(1,V.d (ints u ys))]) (fun _=>[]) (fun k=>xs.length - k) 0
   ⟨Nat.zero_le _,by omega⟩ ?_
  rintro k ⟨hk,hp⟩
  by_cases hlt:k < xs.length
  ·have hlt':k < ys.length:=by omega
   by_cases hx:xs[k]=ys[k]
   ·repeat (first|refine wk ?_)
    exact Zae (k+1) (a:=⟨by omega,fun j h1 h2 h3=>by
     by_cases e:j < k
     ·exact hp j h1 h2 e
     ·obtain rfl:j=k:=by omega
      exact hx⟩)
   ·repeat (first|refine wk ?_)
    have e:decide (xs=ys)=false:=by rw[decide_eq_false_iff_not];rintro rfl;exact hx rfl
    rw[e]
    exact fin
  ·repeat (first|refine wk ?_)
   have e:decide (xs=ys)=true:=by rw[decide_eq_true_eq];exact ZlB (by omega) (fun j h1 h2=>hp j h1 h2 (by omega))
   rw[e]
   exact fin
 ·repeat (first|refine wk ?_)
  have e:decide (xs=ys)=false:=by rw[decide_eq_false_iff_not];rintro rfl;exact hl rfl
  rw[e]
  exact fin
theorem Zb5 {t:Bool} {l:Int} {xs:List Int} (hl:xs.length≤100000000:=by exact Vm) :
  ACalls Tryz.prog 104 [.d (.agg [iD l,ints t xs])] [] (.own 3 (kids xs).length) [(3,.row 3 1 ((kids xs).map iD))]:=by
 refine ACalls.intro (n:=21) Tryz.func104 rfl rfl (by simp) (by rfl) ?_
 simp only[Zal]
 repeat (first|refine wk ?_)
 refine Zbi 3 3 3 1 rfl rfl rfl ?_
 refine Zak (fun k=>k≤xs.length) (fun k=>[(9,I k),(8,I xs.length),(7,V.d (ints t xs)),(3,.own 3 (kids (xs.take k)).length)]) (fun k=>[(3,.row 3 1 ((kids (xs.take k)).map iD))]) (fun k=>xs.length - k) 0
  (Nat.zero_le _) ?_
 intro k hk
 have hkl:(kids (xs.take k)).length≤k:=by have:=Za3 (xs.take k);rw[List.length_take] at this;omega
 by_cases hlt:k < xs.length
 ·by_cases hx:0≤xs[k]
  ·repeat (first|refine wk ?_)
   have e:=(ZfH xs k hlt).trans (by rw[Zkm hx])
   exact Zae (k+1)
  ·repeat (first|refine wk ?_)
   have e:=(ZfH xs k hlt).trans (by rw[Zkn (by omega),List.append_nil])
   exact Zae (k+1)
 ·repeat (first|refine wk ?_)
  rw[show xs.take k=xs by rw[show k=xs.length by omega,List.take_length]]
  exact fin
theorem Zjn {t:Bool} {g:Gram} {v:Int} (hl:g.rules.length≤100000000:=by exact Vm) :
  ACalls Tryz.prog 92 [.d (Za6 t g),I v] [] (.own 5 (by_ g v).length) [(5,.row 3 1 ((by_ g v).map iD))]:=by
 refine ACalls.intro (n:=26) Tryz.func92 rfl rfl (by simp) (by rfl) ?_
 simp only[Zal]
 repeat (first|refine wk ?_)
 refine Zbi 5 5 3 1 rfl rfl rfl ?_
 refine Zak (fun k=>k≤g.rules.length) (fun k=>[(11,I k),(10,I g.rules.length),(9,V.d (ZaL t g.rules)),(1,I v),(5,.own 5 (byR (g.rules.take k) v 0).length)]) (fun k=>[(5,.row 3 1 ((byR (g.rules.take k) v 0).map iD))]) (fun k=>g.rules.length - k) 0
  (Nat.zero_le _) ?_
 intro k hk
 have hkl:(byR (g.rules.take k) v 0).length≤k:=by have:=ZlA v (g.rules.take k) 0;rw[List.length_take] at this;omega
 by_cases hlt:k < g.rules.length
 ·have e:=ZuG g.rules v k hlt
  by_cases hx:g.rules[k].left=v
  ·repeat (first|refine wk ?_)
   rw[if_pos hx] at e
   exact Zae (k+1)
  ·repeat (first|refine wk ?_)
   rw[if_neg hx,List.append_nil] at e
   exact Zae (k+1)
 ·repeat (first|refine wk ?_)
  rw[show g.rules.take k=g.rules by rw[show k=g.rules.length by omega,List.take_length]]
  exact fin
set_option maxRecDepth 100000
theorem Zko {t:Bool} {g:Gram} (hl:g.rules.length≤100000000:=by exact Vm) (hr:∀ r∈g.rules,r.right.length≤100000000:=by assumption) :
  ACalls Tryz.prog 9 [.d (Za6 t g)] [] (B (ZgY g)) []:=by
 refine ACalls.intro (n:=23) Tryz.func9 rfl rfl (by simp) (by rfl) ?_
 simp only[Zal]
 by_cases h4:(g.rules.length:Int) > 400
 ·repeat (first|refine wk ?_)
  rw[show ZgY g=true by simp[ZgY];left;omega]
  exact fin
 ·repeat (first|refine wk ?_)
  refine Zak (X:=Nat) (fun k=>k≤g.rules.length∧∀ j,j < k→∀ (hj:j < g.rules.length),decide (100 < g.rules[j].right.length)=false) (fun k=>[(3,I k),(1,.ptr 1 0)]) (fun _=>[(1,.box 24 [.d (iD g.vars),.d (iD g.terms),.d (iD g.start),.d (ZaL t g.rules)])]) (fun k=>g.rules.length - k) 0
   ⟨Nat.zero_le _,by omega⟩ ?_
  rintro k ⟨hk,hp⟩
  by_cases hlt:k < g.rules.length
  ·by_cases hx:(g.rules[k].right.length:Int) > 100
   ·repeat (first|refine wk ?_)
    rw[show ZgY g=true by simp only[ZgY,Bool.or_eq_true];right;exact ZrI hlt (by simp;omega)]
    exact fin
   ·repeat (first|refine wk ?_)
    exact Zae (k+1) (a:=⟨by omega,ZhL hp (fun _=>by simp;omega)⟩)
  ·repeat (first|refine wk ?_)
   rw[show ZgY g=false by simp only[ZgY,Bool.or_eq_false_iff];exact⟨by simp;omega,ZoX (fun j hj=>hp j (by omega) hj)⟩]
   exact fin
def idxR (p:Int→Bool):List Int→Nat→Int
 | [],_ => -1
 | x::xs,i=>bif p x then (i:Int) else idxR p xs (i+1)
theorem Zkp (p:Int→Bool):∀ (xs:List Int) (i:Nat),decide (0≤idxR p xs i)=xs.any p
 | [],_=>by simp[idxR]
 | x::xs,i=>by
  simp only[idxR,List.any_cons]
  by_cases h:p x=true
  ·simp[h]
  ·simp only[Bool.not_eq_true] at h
   simpa[h] using Zkp p xs (i+1)
theorem ZlD {p:Int→Bool} {xs:List Int} {k:Nat} (h:k < xs.length):idxR p (xs.drop k) k=bif p xs[k] then (k:Int) else idxR p (xs.drop (k+1)) (k+1):=by
 rw[List.drop_eq_getElem_cons h,idxR]
theorem ZoY {p:Int→Bool} {xs:List Int} {k:Nat} (h:¬ k < xs.length):idxR p (xs.drop k) k = -1:=by
 rw[List.drop_of_length_le (by omega),idxR]
theorem Zkq {t:Bool} {clos:Nat} {caps:List V} {H:Hp} {xs:List Int} {p:Int→Bool} (hC:Clo H caps) (hc:∀ x∈xs,ACalls Tryz.prog clos (I x::caps) H (B (p x)) H) (hl:xs.length≤100000000:=by exact Vm) :
  ACalls Tryz.prog 111 [.d (ints t xs),.fn (.func clos) [] caps] H (I (idxR p xs 0)) H:=by
 refine ACalls.intro (n:=19) Tryz.func111 rfl rfl (by simp) (by rfl) ?_
 simp only[Zal]
 have h1:=hC.self
 have h2:=hC.inn
 have h3:=hC.caps
 repeat (first|refine wk ?_)
 refine Zak (X:=Nat) (fun k=>k≤xs.length∧idxR p xs 0=idxR p (xs.drop k) k) (fun k=>[(8,I k),(7,I xs.length),(1,.fn (.func clos) [] caps),(0,.d (ints t xs))]) (fun _=>H) (fun k=>xs.length - k) 0 ⟨Nat.zero_le _,rfl⟩ ?_
 rintro k ⟨hk,hp⟩
 by_cases hlt:k < xs.length
 ·have hs:=ZlD (p:=p) hlt
  repeat (first|refine wk ?_)
  refine Zkg hC (hA:=hc xs[k] (List.getElem_mem hlt)) (hr:=?_)
  cases hpx:p xs[k] with
  | true =>
   rw[hpx] at hs
   repeat (first|refine wk ?_)
   rw[hp,hs]
   exact fin
  | false =>
   rw[hpx] at hs
   repeat (first|refine wk ?_)
   exact Zae (k+1) (a:=⟨by omega,hp.trans hs⟩)
 ·repeat (first|refine wk ?_)
  rw[hp,ZoY hlt]
  exact fin
theorem Zbx {t:Bool} {clos:Nat} {caps:List V} {H:Hp} {xs:List Int} {p:Int→Bool} (hC:Clo H caps) (hc:∀ x∈xs,ACalls Tryz.prog clos (I x::caps) H (B (p x)) H) (hl:xs.length≤100000000:=by exact Vm) :
  ACalls Tryz.prog 66 [.d (ints t xs),.fn (.func clos) [] caps] H (B (xs.any p)) H:=by
 refine ACalls.intro (n:=9) Tryz.func66 rfl rfl (by simp) (by rfl) ?_
 simp only[Zal]
 have h1:=hC.self
 have h2:=hC.inn
 have h3:=hC.caps
 repeat (first|refine wk ?_)
 refine Zkg hC.bare (hA:=Zkq hC hc) (hr:=?_)
 repeat (first|refine wk ?_)
 rw[←Zkp p xs 0]
 exact fin
def ZdG (g:Gram) (s:Int):Bool:=decide (g.vars≤s) || decide (s < -g.terms)
def ZaP (g:Gram) (r:Rule):Int:=if 10 < r.right.length then 6 else if r.left < 0∨g.vars≤r.left∨r.right.any (ZdG g)=true then 9 else 0
def Zdr (g:Gram):List Rule→Nat→Fault
 | [],_=>⟨0,0⟩
 | r::rs,i=>if ZaP g r=0 then Zdr g rs (i+1) else ⟨ZaP g r,i⟩
def ZlE (g:Gram):Prop:=1≤g.vars∧g.vars≤64∧0≤g.terms∧g.terms≤16∧0≤g.start∧g.start < g.vars
instance (g:Gram):Decidable (ZlE g):=by unfold ZlE;exact inferInstance
def Zac (g:Gram):Fault:=if ZlE g then (if 160 < g.rules.length then ⟨6, -1⟩ else Zdr g g.rules 0) else ⟨9, -1⟩
theorem Znx {g:Gram} {k:Nat} (h:k < g.rules.length):Zdr g (g.rules.drop k) k=if ZaP g g.rules[k]=0 then Zdr g (g.rules.drop (k+1)) (k+1) else ⟨ZaP g g.rules[k],k⟩:=by
 rw[List.drop_eq_getElem_cons h,Zdr]
theorem Zql {g:Gram} {k:Nat} (h:¬ k < g.rules.length):Zdr g (g.rules.drop k) k=⟨0,0⟩:=by
 rw[List.drop_of_length_le (by omega),Zdr]
abbrev Zay (t:Bool) (g:Gram):Ob:=.box 24 [.d (iD g.vars),.d (iD g.terms),.d (iD g.start),.d (ZaL t g.rules)]
theorem Zqm {t:Bool} {g:Gram} {s:Int} (ht:0≤g.terms∧g.terms≤16) :
  ACalls Tryz.prog 65 [I s,.ptr 1000 0] [(1000,Zay t g)] (B (ZdG g s)) [(1000,Zay t g)]:=by
 refine ACalls.intro (n:=15) Tryz.func65 rfl rfl (by simp) (by rfl) ?_
 simp only[Zal]
 obtain⟨ht1,ht2⟩:=ht
 by_cases h1:g.vars≤s
 ·repeat (first|refine wk ?_)
  rw[show ZdG g s=true by simp[ZdG,h1]]
  exact fin
 ·by_cases h2:s < -g.terms
  ·repeat (first|refine wk ?_)
   rw[show ZdG g s=true by simp[ZdG,h2]]
   exact fin
  ·repeat (first|refine wk ?_)
   rw[show ZdG g s=false by simp[ZdG,h1,h2]]
   exact fin
set_option maxHeartbeats 4000000 in
theorem ZaM {t:Bool} {g:Gram} (hl:g.rules.length≤100000000:=by exact Vm) (hr:∀ r∈g.rules,r.right.length≤100000000:=by assumption) :
  ACalls Tryz.prog 36 [.d (Za6 t g)] [] (.d (Zba (Zac g))) []:=by
 refine ACalls.intro (n:=77) Tryz.func36 rfl rfl (by simp) (by rfl) ?_
 simp only[Zal]
 by_cases hh:ZlE g
 ·have hh':=hh
  obtain⟨a1,a2,a3,a4,a5,a6⟩:=hh'
  by_cases h6:(g.rules.length:Int) > 160
  ·repeat (first|refine wk ?_)
   rw[show Zac g=⟨6, -1⟩ by rw[Zac,if_pos hh,if_pos (by omega)]]
   exact fin
  ·rw[show Zac g=Zdr g g.rules 0 by rw[Zac,if_pos hh,if_neg (by omega)]]
   repeat (first|refine wk ?_)
   refine Zak (X:=Nat) (fun k=>k≤g.rules.length∧Zdr g g.rules 0=Zdr g (g.rules.drop k) k) (fun k=>[(45,I k),(44,I g.rules.length),(43,.d (ZaL t g.rules)),(2,.ptr 2 0),(1,.ptr 1 0)]) (fun _=>[(1,Zay t g),(2,.box 31 [.d (iD 0),.d (iD 0)])]) (fun k=>g.rules.length - k) 0 ⟨Nat.zero_le _,rfl⟩ ?_
   rintro k ⟨hk,hp⟩
   by_cases hlt:k < g.rules.length
   ·have hs:=Znx hlt
    have hrk:=hr _ (List.getElem_mem hlt)
    by_cases b1:(g.rules[k].right.length:Int) > 10
    ·repeat (first|refine wk ?_)
     rw[hp,hs,show ZaP g g.rules[k]=6 by rw[ZaP,if_pos (by omega)],if_neg (by decide)]
     exact fin
    ·by_cases b2:g.rules[k].left < 0
     ·repeat (first|refine wk ?_)
      rw[hp,hs,show ZaP g g.rules[k]=9 by rw[ZaP,if_neg (by omega),if_pos (.inl b2)],if_neg (by decide)]
      exact fin
     ·by_cases b3:g.vars≤g.rules[k].left
      ·repeat (first|refine wk ?_)
       rw[hp,hs,show ZaP g g.rules[k]=9 by rw[ZaP,if_neg (by omega),if_pos (.inr (.inl b3))],if_neg (by decide)]
       exact fin
      ·repeat (first|refine wk ?_)
       refine Zab [(1000,1)] (hA:=Zbx (t:=t) (clos:=65) (caps:=[.ptr 1000 0]) (H:=[(1000,Zay t g)]) (p:=ZdG g) ⟨rfl,rfl,rfl,rfl,trivial⟩ (fun x _=>Zqm ⟨a3,a4⟩)) (hr:=?_)
       cases hb:g.rules[k].right.any (ZdG g) with
       | true =>
        repeat (first|refine wk ?_)
        rw[hp,hs,show ZaP g g.rules[k]=9 by rw[ZaP,if_neg (by omega),if_pos (.inr (.inr hb))],if_neg (by decide)]
        exact fin
       | false =>
        rw[show ZaP g g.rules[k]=0 by rw[ZaP,if_neg (by omega),if_neg (by rw[hb];simp;omega)],if_pos rfl] at hs
        repeat (first|refine wk ?_)
        exact Zae (k+1) (a:=⟨by omega,hp.trans hs⟩)
   ·repeat (first|refine wk ?_)
    rw[hp,Zql hlt]
    exact fin
 ·rw[show Zac g=⟨9, -1⟩ by rw[Zac,if_neg hh]]
  by_cases a1:g.vars < 1
  ·repeat (first|refine wk ?_)
   exact fin
  by_cases a2:64 < g.vars
  ·repeat (first|refine wk ?_)
   exact fin
  by_cases a3:g.terms < 0
  ·repeat (first|refine wk ?_)
   exact fin
  by_cases a4:16 < g.terms
  ·repeat (first|refine wk ?_)
   exact fin
  by_cases a5:g.start < 0
  ·repeat (first|refine wk ?_)
   exact fin
  by_cases a6:g.vars≤g.start
  ·repeat (first|refine wk ?_)
   exact fin
  exact absurd (show ZlE g from ⟨by omega,by omega,by omega,by omega,by omega,by omega⟩) hh
end Go.Proofs.YtbpmepgnjanhnaaGreat
