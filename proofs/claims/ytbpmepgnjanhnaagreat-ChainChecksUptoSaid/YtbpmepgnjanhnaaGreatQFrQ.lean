import Derived.Test.YtbpmepgnjanhnaaGreatP1
import Derived.Test.YtbpmepgnjanhnaaGreatQGramC
set_option linter.unusedVariables false
set_option linter.unusedSimpArgs false
set_option linter.unusedSectionVars false
namespace Go.Proofs.YtbpmepgnjanhnaaGreat
open Go.RowKit
structure CS where
 p:Nat
 bad:Bool
 u:List Int
def CS.use (s:CS) (n:Int):CS:=if (s.bad || (decide (n < 0) || decide ((s.u.length:Int)≤n)))=true then ⟨s.p,true,s.u⟩ else ⟨s.p,false,bump s.u n⟩
mutual
def clF (m:Int):Frag→CS→CS
 | .mk o n l,s=>if o=1 then clL m l ⟨s.p,s.bad || (decide (n < 0) || decide (m≤n)),s.u⟩
  else if o=2 then s.use n
  else if o=4 then clL m l (s.use n)
  else if o=3 then s else ⟨s.p,true,s.u⟩
def clL (m:Int):List Frag→CS→CS
 | [],s=>s
 | x::r,s=>if 60 < s.p+1 then ⟨s.p+1,s.bad,s.u⟩ else clL m r (clF m x ⟨s.p+1,s.bad,s.u⟩)
end
theorem ZvN (m:Int) (x:Frag) (s:CS):clF m x s=if x.op=1 then clL m x.l ⟨s.p,s.bad || (decide (x.n < 0) || decide (m≤x.n)),s.u⟩
  else if x.op=2 then s.use x.n
  else if x.op=4 then clL m x.l (s.use x.n)
  else if x.op=3 then s else ⟨s.p,true,s.u⟩:=by cases x;rw[clF];rfl
theorem Zti {m:Int} {l:List Frag} {i:Nat} {s:CS} (h:i < l.length):clL m (l.drop i) s=if 60 < s.p+1 then ⟨s.p+1,s.bad,s.u⟩ else clL m (l.drop (i+1)) (clF m l[i] ⟨s.p+1,s.bad,s.u⟩):=by
 rw[List.drop_eq_getElem_cons h,clL]
theorem ZuC {m:Int} {l:List Frag} {i:Nat} {s:CS} (h:¬ i < l.length):clL m (l.drop i) s=s:=by
 rw[List.drop_of_length_le (by omega),clL]
theorem CS.use_p (s:CS) (n:Int):(s.use n).p=s.p:=by unfold CS.use;split <;> rfl
theorem CS.use_len (s:CS) (n:Int):(s.use n).u.length=s.u.length:=by unfold CS.use;split <;> simp[bump]
theorem CS.use_upto {s:CS} {n:Int} {B:Nat} (h:Upto B s.u):Upto (B+1) (s.use n).u:=by
 unfold CS.use;split
 ·exact h.mono (by omega)
 ·exact Zd4 h
mutual
theorem ZuD (m:Int):∀ (x:Frag) (s:CS),(clF m x s).u.length=s.u.length
 | .mk o n l,s=>by
  have h1:=Zd7 m l ⟨s.p,s.bad || (decide (n < 0) || decide (m≤n)),s.u⟩
  have h2:=Zd7 m l (s.use n)
  rw[CS.use_len] at h2
  rw[clF]
  repeat' split
  all_goals first|exact h1|exact h2|exact s.use_len n|rfl
theorem Zd7 (m:Int):∀ (l:List Frag) (s:CS),(clL m l s).u.length=s.u.length
 | [],s=>rfl
 | x::r,s=>by
  have h1:=ZuD m x ⟨s.p+1,s.bad,s.u⟩
  have h2:=Zd7 m r (clF m x ⟨s.p+1,s.bad,s.u⟩)
  rw[clL];split
  ·rfl
  ·exact h2.trans h1
end
mutual
theorem Zws (m:Int):∀ (x:Frag) (s:CS),s.p≤(clF m x s).p∧(clF m x s).p+1≤s.p+fsz x
 | .mk o n l,s=>by
  have h1:=ZjX m l ⟨s.p,s.bad || (decide (n < 0) || decide (m≤n)),s.u⟩
  have h2:=ZjX m l (s.use n)
  rw[CS.use_p] at h2
  have h3:=s.use_p n
  rw[clF,fsz]
  repeat' split
  all_goals first|(dsimp only at h1 ⊢;omega)
theorem ZjX (m:Int):∀ (l:List Frag) (s:CS),s.p≤(clL m l s).p∧(clL m l s).p≤s.p+fszs l
 | [],s=>by simp[clL]
 | x::r,s=>by
  have h1:=Zws m x ⟨s.p+1,s.bad,s.u⟩
  have h2:=ZjX m r (clF m x ⟨s.p+1,s.bad,s.u⟩)
  have h3:=Zmn x
  rw[clL,fszs]
  split
  ·dsimp only;omega
  ·dsimp only at h1;omega
end
mutual
theorem Ztj (m:Int):∀ (x:Frag) (s:CS) (B:Nat),Upto B s.u→Upto (B+fsz x) (clF m x s).u
 | .mk o n l,s,B,h=>by
  have h1:=Zdf m l ⟨s.p,s.bad || (decide (n < 0) || decide (m≤n)),s.u⟩ B h
  have h2:=Zdf m l (s.use n) (B+1) (CS.use_upto h)
  have h3:=CS.use_upto (n:=n) h
  rw[clF,fsz]
  repeat' split
  all_goals first|exact h1.mono (by omega)|exact h2.mono (by omega)|exact h3.mono (by omega)|exact h.mono (by omega)
theorem Zdf (m:Int):∀ (l:List Frag) (s:CS) (B:Nat),Upto B s.u→Upto (B+fszs l) (clL m l s).u
 | [],s,B,h=>h
 | x::r,s,B,h=>by
  have h1:=Ztj m x ⟨s.p+1,s.bad,s.u⟩ B h
  have h2:=Zdf m r (clF m x ⟨s.p+1,s.bad,s.u⟩) (B+fsz x) h1
  rw[clL,fszs]
  split
  ·exact h.mono (by omega)
  ·exact h2.mono (by omega)
end
structure Tells (s s':CS) (n:Nat) (r:Bool×List Int):Prop where
 p:s'.p=s.p+n
 bad:s.bad=true→s'.bad=true
 ok:s.bad=false→r.1=true→s'.bad=false∧s'.u=r.2
 no:s.bad=false→r.1=false→s'.bad=true
theorem Zle (s:CS) (n:Int):Tells s (s.use n) 0 (if n < 0∨(s.u.length:Int)≤n then (false,s.u) else (true,bump s.u n)):=by
 unfold CS.use
 by_cases h:n < 0∨(s.u.length:Int)≤n
 ·have h':(decide (n < 0) || decide ((s.u.length:Int)≤n))=true:=by simpa using h
  rw[if_pos h,if_pos (by rw[h'];simp)]
  exact⟨rfl,fun _=>rfl,fun _ h=>by simp at h,fun _ _=>rfl⟩
 ·have h':(decide (n < 0) || decide ((s.u.length:Int)≤n))=false:=by simpa using h
  rw[if_neg h]
  cases hb:s.bad with
  | true =>
   rw[h',if_pos (by simp)]
   exact⟨rfl,fun _=>rfl,fun h=>(by rw[hb] at h;cases h),fun h=>(by rw[hb] at h;cases h)⟩
  | false =>
   rw[h',if_neg (by simp)]
   exact⟨rfl,fun h=>(by rw[hb] at h;cases h),fun _ _=>⟨rfl,rfl⟩,fun _ h=>(by cases h)⟩
theorem Tells.then {s s1 s2:CS} {n1 n2:Nat} {r1 r2:Bool×List Int} (h1:Tells s s1 n1 r1) (h2:s1.bad=false→s1.u=r1.2→Tells s1 s2 n2 r2) (h3:s1.bad=true→s2.p=s1.p+n2∧s2.bad=true) :
  Tells s s2 (n1+n2) (bif r1.1 then r2 else (false,r1.2)):=by
 refine⟨?_,fun hb=>(h3 (h1.bad hb)).2,fun hb hr=>?_,fun hb hr=>?_⟩
 ·cases hb1:s1.bad with
  | true=>have:=(h3 hb1).1;have:=h1.p;omega
  | false =>
   have e:s1.u=r1.2:=by
    cases hs:s.bad with
    | true=>have:=h1.bad hs;rw[hb1] at this;cases this
    | false =>
     cases hr:r1.1 with
     | true=>exact (h1.ok hs hr).2
     | false=>have:=h1.no hs hr;rw[hb1] at this;cases this
   have:=(h2 hb1 e).p;have:=h1.p;omega
 ·cases hr1:r1.1 with
  | true =>
   rw[hr1] at hr
   obtain⟨e1,e2⟩:=h1.ok hb hr1
   exact (h2 e1 e2).ok e1 hr
  | false=>rw[hr1] at hr;cases hr
 ·cases hr1:r1.1 with
  | true =>
   rw[hr1] at hr
   obtain⟨e1,e2⟩:=h1.ok hb hr1
   exact (h2 e1 e2).no e1 hr
  | false=>exact (h3 (h1.no hb hr1)).2
mutual
theorem Zlf (m:Int):∀ (x:Frag) (s:CS),s.p+cpF x≤61→Tells s (clF m x s) (cpF x - 1) (usF m x s.u)
 | .mk o n l,s,h=>by
  rw[cpF] at h ⊢
  rw[clF,usF]
  by_cases h1:o=1
  ·rw[if_pos h1,if_pos h1]
   rw[if_pos (Or.inl h1)] at h ⊢
   have k:=Zft m l ⟨s.p,s.bad || (decide (n < 0) || decide (m≤n)),s.u⟩ (by dsimp only;omega)
   have e:1+cpL l - 1=cpL l:=by omega
   rw[e]
   by_cases hn:n < 0∨m≤n
   ·have hd:(decide (n < 0) || decide (m≤n))=true:=by simpa using hn
    rw[hd,Bool.or_true] at k ⊢
    rw[if_pos hn]
    exact⟨k.p,fun _=>k.bad rfl,fun _ h=>(by cases h),fun _ _=>k.bad rfl⟩
   ·have hd:(decide (n < 0) || decide (m≤n))=false:=by simpa using hn
    rw[hd,Bool.or_false] at k ⊢
    rw[if_neg hn]
    exact⟨k.p,k.bad,k.ok,k.no⟩
  ·rw[if_neg h1,if_neg h1]
   by_cases h2:o=2
   ·rw[if_pos h2,if_pos h2,if_neg (show ¬ (o=1∨o=4) by omega)]
    exact Zle s n
   ·rw[if_neg h2,if_neg h2]
    by_cases h4:o=4
    ·rw[if_pos h4,if_pos h4]
     rw[if_pos (Or.inr h4)] at h ⊢
     have k:=Zft m l (s.use n) (by rw[CS.use_p];omega)
     have e:1+cpL l - 1=0+cpL l:=by omega
     rw[e]
     have u:=Zle s n
     have t:=u.then (r2:=usL m l (bump s.u n)) (s2:=clL m l (s.use n)) (n2:=cpL l) (fun hb hu=>?_) (fun hb=>⟨k.p,k.bad hb⟩)
     ·by_cases hn:n < 0∨(s.u.length:Int)≤n
      ·rw[if_pos hn] at t ⊢;exact t
      ·rw[if_neg hn] at t ⊢;exact t
     ·by_cases hn:n < 0∨(s.u.length:Int)≤n
      ·exfalso
       have hd:(decide (n < 0) || decide ((s.u.length:Int)≤n))=true:=by simpa using hn
       unfold CS.use at hb
       rw[hd,Bool.or_true,if_pos rfl] at hb
       cases hb
      ·rw[if_neg hn] at hu
       rw[hu] at k;exact k
    ·rw[if_neg h4,if_neg h4,if_neg (show ¬ (o=1∨o=4) by omega)]
     by_cases h3:o=3
     ·rw[if_pos h3,if_pos h3];exact⟨rfl,fun h=>h,fun h _=>⟨h,rfl⟩,fun _ h=>(by cases h)⟩
     ·rw[if_neg h3,if_neg h3];exact⟨rfl,fun _=>rfl,fun _ h=>(by cases h),fun _ _=>rfl⟩
theorem Zft (m:Int):∀ (l:List Frag) (s:CS),s.p+cpL l≤60→Tells s (clL m l s) (cpL l) (usL m l s.u)
 | [],s,_=>⟨rfl,fun h=>h,fun h _=>⟨h,rfl⟩,fun _ h=>(by cases h)⟩
 | x::r,s,h=>by
  rw[cpL] at h
  have hx:1≤cpF x:=by rw[ZiJ];omega
  rw[clL,if_neg (by omega),usL]
  have k1:=Zlf m x ⟨s.p+1,s.bad,s.u⟩ (by dsimp only;omega)
  have kp:=k1.p
  dsimp only at kp
  have k2:=Zft m r (clF m x ⟨s.p+1,s.bad,s.u⟩) (by omega)
  have t:=k1.then (r2:=usL m r (usF m x s.u).2) (fun hb hu=>by rw[hu] at k2;exact k2) (fun hb=>⟨k2.p,k2.bad hb⟩)
  refine⟨?_,t.bad,t.ok,t.no⟩
  have:=t.p
  dsimp only at this
  rw[cpL];omega
end
mutual
theorem Ztk (m:Int):∀ (x:Frag) (s:CS),s.p≤60→61 < s.p+cpF x→60 < (clF m x s).p
 | .mk o n l,s,h0,h=>by
  rw[cpF] at h
  rw[clF]
  by_cases h1:o=1
  ·rw[if_pos h1]
   rw[if_pos (Or.inl h1)] at h
   exact ZgU m l _ h0 (by dsimp only;omega)
  ·rw[if_neg h1]
   by_cases h2:o=2
   ·exfalso;rw[if_neg (by omega)] at h;omega
   ·rw[if_neg h2]
    by_cases h4:o=4
    ·rw[if_pos h4]
     rw[if_pos (Or.inr h4)] at h
     exact ZgU m l _ (by rw[CS.use_p];exact h0) (by rw[CS.use_p];omega)
    ·exfalso;rw[if_neg (by omega)] at h;omega
theorem ZgU (m:Int):∀ (l:List Frag) (s:CS),s.p≤60→60 < s.p+cpL l→60 < (clL m l s).p
 | [],s,h0,h=>by simp only[cpL] at h;omega
 | x::r,s,h0,h=>by
  rw[cpL] at h
  rw[clL]
  split
  ·assumption
  ·rename_i h60
   by_cases hx:61 < s.p+1+cpF x
   ·have:=Ztk m x ⟨s.p+1,s.bad,s.u⟩ (by dsimp only;omega) hx
    have k:=(ZjX m r (clF m x ⟨s.p+1,s.bad,s.u⟩)).1
    omega
   ·have k1:=(Zlf m x ⟨s.p+1,s.bad,s.u⟩ (by dsimp only;omega)).p
    dsimp only at k1
    have hx1:1≤cpF x:=by rw[ZiJ];omega
    exact ZgU m r _ (by omega) (by omega)
end
theorem ZuE (old:Gram) (l:List Frag) (right:List Int) (s:CS) (hs:s=clL old.rules.length l ⟨0,false,List.replicate (kids right).length 0⟩) :
  ZaK old l right=if 60 < s.p then 6 else if (s.bad || s.u.any (fun n=>!decide (n=1)))=true then 14 else 0:=by
 rw[ZaK]
 by_cases h:60 < cpL l
 ·have:=ZgU old.rules.length l ⟨0,false,List.replicate (kids right).length 0⟩ (Nat.zero_le _) (by dsimp only;omega)
  rw[if_pos h,hs,if_pos this]
 ·have k:=Zft old.rules.length l ⟨0,false,List.replicate (kids right).length 0⟩ (by dsimp only;omega)
  rw[←hs] at k
  have kp:=k.p
  dsimp only at kp
  rw[if_neg h,if_neg (show ¬ 60 < s.p by omega)]
  unfold Zir
  cases hr:(usL old.rules.length l (List.replicate (kids right).length 0)).1 with
  | true =>
   obtain⟨e1,e2⟩:=k.ok rfl hr
   rw[e1,e2,Bool.true_and,Bool.false_or]
   generalize (usL old.rules.length l (List.replicate (kids right).length 0)).2=u
   have e:(u.any fun n=>!decide (n=1))=!(u.all fun n=>decide (n=1)):=by
    rw[List.all_eq_not_any_not];simp
   rw[e]
   cases u.all (fun n=>decide (n=1)) <;> rfl
  | false=>rw[k.no rfl hr];rfl
end Go.Proofs.YtbpmepgnjanhnaaGreat
namespace Go.Proofs.YtbpmepgnjanhnaaGreat
open Go.RowKit
mutual
def Zps (w:List Tree):Tree→List Tree
 | .mk r ks=>if r = -1 then w else [.mk r (Za6 w ks)]
def Za6 (w:List Tree):List Tree→List Tree
 | []=>[]
 | x::r=>Zps w x++Za6 w r
end
theorem Zog (w:List Tree) (x:Tree):Zps w x=if x.rule = -1 then w else [.mk x.rule (Za6 w x.kids)]:=by cases x;rw[Zps];rfl
theorem Zgs (w:List Tree):∀ (a b:List Tree),Za6 w (a++b)=Za6 w a++Za6 w b
 | [],b=>rfl
 | x::a,b=>by simp[Za6,Zgs w a b]
theorem Zi4 {w l:List Tree} {i:Nat} (h:i < l.length):Za6 w (l.take (i+1))=Za6 w (l.take i)++Zps w l[i]:=by
 rw[List.take_succ_eq_append_getElem h,Zgs];simp[Za6]
mutual
theorem Zq1 (w:List Tree):∀ (x:Tree),cnts (Zps w x)≤cnt x * (1+cnts w)
 | .mk r ks=>by
  have h:=Zd8 w ks
  rw[Zps,cnt]
  split
  ·rw[Nat.add_mul];omega
  ·simp only[cnts,cnt]
   rw[Nat.add_mul];omega
theorem Zd8 (w:List Tree):∀ (l:List Tree),cnts (Za6 w l)≤cnts l * (1+cnts w)
 | []=>by simp[Za6,cnts]
 | x::r=>by
  have h1:=Zq1 w x
  have h2:=Zd8 w r
  rw[Za6,Zbd,cnts,Nat.add_mul];omega
end
def Zco (l:List Tree):Option (List Tree):=if cnts l≤400 then some l else none
mutual
def mkF (kids:List (List Tree)):Frag→Option (List Tree)
 | .mk o n l=>if o=1 then ((mkA kids l).bind Zco).map (fun a=>[.mk n a])
  else if o=2 then some (kids.getD n.toNat [])
  else if o=3 then some [.mk (-1) []]
  else if o=4 then ((mkA kids l).bind Zco).bind (fun a=>Zco (Za6 a (kids.getD n.toNat [])))
  else some []
def mkA (kids:List (List Tree)):List Frag→Option (List Tree)
 | []=>some []
 | x::r=>(mkF kids x).bind fun a=>(mkA kids r).map (a++·)
end
def mkL (kids:List (List Tree)) (l:List Frag):Option (List Tree):=(mkA kids l).bind Zco
theorem Zq2 (kids:List (List Tree)) (x:Frag):mkF kids x=if x.op=1 then (mkL kids x.l).map (fun a=>[.mk x.n a])
  else if x.op=2 then some (kids.getD x.n.toNat [])
  else if x.op=3 then some [.mk (-1) []]
  else if x.op=4 then (mkL kids x.l).bind (fun a=>Zco (Za6 a (kids.getD x.n.toNat [])))
  else some []:=by cases x;rw[mkF];rfl
theorem Zi5 {l a:List Tree} (h:Zco l=some a):a=l∧cnts l≤400:=by
 unfold Zco at h;split at h
 ·cases h;exact⟨rfl,by assumption⟩
 ·cases h
theorem ZjY {kids:List (List Tree)} {l:List Frag} {a:List Tree} (h:mkL kids l=some a):mkA kids l=some a∧cnts a≤400:=by
 unfold mkL at h
 cases hc:mkA kids l with
 | none=>rw[hc] at h;cases h
 | some b=>rw[hc] at h;obtain⟨rfl,h2⟩:=Zi5 h;exact⟨rfl,h2⟩
theorem Zq3 {kids:List (List Tree)} (hk:∀ k∈kids,cnts k≤400) (n:Nat):cnts (kids.getD n [])≤400:=by
 rw[List.getD_eq_getElem?_getD]
 by_cases h:n < kids.length
 ·rw[List.getElem?_eq_getElem h];exact hk _ (List.getElem_mem h)
 ·rw[List.getElem?_eq_none (by omega)];simp[cnts]
theorem ZuF {kids:List (List Tree)} (hk:∀ k∈kids,cnts k≤400) {x:Frag} {a:List Tree} (h:mkF kids x=some a):cnts a≤401:=by
 rw[Zq2] at h
 split at h
 ·cases hc:mkL kids x.l with
  | none=>rw[hc] at h;cases h
  | some b =>
   rw[hc] at h;cases h
   have:=(ZjY hc).2
   simp only[cnts,cnt];omega
 ·split at h
  ·cases h;have:=Zq3 hk x.n.toNat;omega
  ·split at h
   ·cases h;simp[cnts,cnt]
   ·split at h
    ·cases hc:mkL kids x.l with
     | none=>rw[hc] at h;cases h
     | some b=>rw[hc] at h;obtain⟨rfl,h2⟩:=Zi5 h;omega
    ·cases h;simp[cnts]
theorem ZeS {kids:List (List Tree)} (hk:∀ k∈kids,cnts k≤400):∀ {l:List Frag} {a:List Tree},mkA kids l=some a→cnts a≤401 * l.length
 | [],a,h=>by rw[mkA] at h;cases h;simp[cnts]
 | x::r,a,h=>by
  rw[mkA] at h
  cases hc:mkF kids x with
  | none=>rw[hc] at h;cases h
  | some b =>
   cases hd:mkA kids r with
   | none=>rw[hc,hd] at h;cases h
   | some c =>
    rw[hc,hd] at h
    cases h
    have h1:=ZuF hk hc
    have h2:=ZeS hk hd
    rw[Zbd,List.length_cons,Nat.mul_add];omega
theorem ZjZ (kids:List (List Tree)):∀ (l:List Frag) (x:Frag),mkA kids (l++[x])=(mkA kids l).bind fun a=>(mkF kids x).map (a++·)
 | [],x=>by
  simp only[List.nil_append,mkA]
  cases mkF kids x <;> simp
 | y::l,x=>by
  simp only[List.cons_append,mkA,ZjZ kids l x]
  cases mkF kids y with
  | none=>rfl
  | some a =>
   cases mkA kids l with
   | none=>rfl
   | some b =>
    cases mkF kids x with
    | none=>rfl
    | some c=>simp
theorem Zoh {kids:List (List Tree)} {l:List Frag} {i:Nat} (h:i < l.length):mkA kids (l.take (i+1))=(mkA kids (l.take i)).bind fun a=>(mkF kids l[i]).map (a++·):=by
 rw[List.take_succ_eq_append_getElem h,ZjZ]
theorem Zoi {kids:List (List Tree)} {l:List Frag} {i:Nat} (h:mkA kids (l.take i)=none):mkA kids l=none:=by
 rw[←List.take_append_drop i l]
 generalize l.drop i=r
 induction r generalizing i l with
 | nil=>simpa using h
 | cons x r ih =>
  have h2:mkA kids (l.take i++[x])=none:=by rw[ZjZ,h];rfl
  have:=ih (l:=l.take i++[x]) (i:=(l.take i++[x]).length) (by rw[List.take_length];exact h2)
  rw[List.take_length] at this
  simpa using this
mutual
def valT (s:Step):Tree→Option (List Tree)
 | .mk r ks=>(valL s ks).bind fun kids=>mkL kids (s.frags.getD r.toNat [])
def valL (s:Step):List Tree→Option (List (List Tree))
 | []=>some []
 | x::l=>(valT s x).bind fun a=>(valL s l).map (a::·)
end
theorem ZmQ (s:Step) (x:Tree):valT s x=(valL s x.kids).bind fun kids=>mkL kids (s.frags.getD x.rule.toNat []):=by cases x;rw[valT];rfl
theorem Zoj {s:Step} {x:Tree} {a:List Tree} (h:valT s x=some a):cnts a≤400:=by
 rw[ZmQ] at h
 cases hc:valL s x.kids with
 | none=>rw[hc] at h;cases h
 | some ks=>rw[hc] at h;exact (ZjY h).2
theorem Zj0 {s:Step}:∀ {l:List Tree} {ks:List (List Tree)},valL s l=some ks→ks.length=l.length∧∀ k∈ks,cnts k≤400
 | [],ks,h=>by rw[valL] at h;cases h;simp
 | x::l,ks,h=>by
  rw[valL] at h
  cases hc:valT s x with
  | none=>rw[hc] at h;cases h
  | some a =>
   cases hd:valL s l with
   | none=>rw[hc,hd] at h;cases h
   | some b =>
    rw[hc,hd] at h
    cases h
    obtain⟨h1,h2⟩:=Zj0 hd
    refine⟨by simp[h1],fun k hk=>?_⟩
    rcases List.mem_cons.1 hk with rfl|hk
    ·exact Zoj hc
    ·exact h2 k hk
theorem ZhC (s:Step):∀ (l:List Tree) (x:Tree),valL s (l++[x])=(valL s l).bind fun a=>(valT s x).map (fun b=>a++[b])
 | [],x=>by
  simp only[List.nil_append,valL]
  cases valT s x <;> simp
 | y::l,x=>by
  simp only[List.cons_append,valL,ZhC s l x]
  cases valT s y with
  | none=>rfl
  | some a =>
   cases valL s l with
   | none=>rfl
   | some b =>
    cases valT s x with
    | none=>rfl
    | some c=>simp
theorem Zlg {s:Step} {l:List Tree} {i:Nat} (h:i < l.length):valL s (l.take (i+1))=(valL s (l.take i)).bind fun a=>(valT s l[i]).map (fun b=>a++[b]):=by
 rw[List.take_succ_eq_append_getElem h,ZhC]
theorem Zq4 {s:Step} {l:List Tree} {i:Nat} (h:valL s (l.take i)=none):valL s l=none:=by
 rw[←List.take_append_drop i l]
 generalize l.drop i=r
 induction r generalizing i l with
 | nil=>simpa using h
 | cons x r ih =>
  have h2:valL s (l.take i++[x])=none:=by rw[ZhC,h];rfl
  have:=ih (l:=l.take i++[x]) (i:=(l.take i++[x]).length) (by rw[List.take_length];exact h2)
  rw[List.take_length] at this
  simpa using this
def ZaO:Tree:=.mk 0 []
def ZaL (old:Gram) (s:Step) (x:Tree):Tree×Zb5 :=
 if (Zas old s).code=0 then
  if (Zaw s.g x s.g.start).code=0 then
   match valT s x with
   | none=>(ZaO,⟨6, -1⟩)
   | some [y]=>if (Zaw old y old.start).code=0 then (y,⟨0,0⟩) else (ZaO,⟨18, -1⟩)
   | some _=>(ZaO,⟨18, -1⟩)
  else (ZaO,Zaw s.g x s.g.start)
 else (ZaO,Zas old s)
end Go.Proofs.YtbpmepgnjanhnaaGreat
namespace Go.Proofs.YtbpmepgnjanhnaaGreat
open Go.RowKit
set_option maxRecDepth 100000
theorem ZeG {x:Tree} {N:Nat} (h:cnt x≤N) {i:Nat} (hi:i < x.kids.length):cnt x.kids[i]≤N∧cnt x.kids[i] < cnt x:=by
 have:=Zca (List.getElem_mem hi)
 rw[ZdX] at h
 have:=ZdX x
 omega
theorem ZbF {x:Tree} {N:Nat} (h:cnt x≤N):x.kids.length≤N:=by
 have:=ZaR x.kids
 rw[ZdX] at h
 omega
theorem ZhD:∀ (n:Nat) {t:Bool} {l:List Tree} {m:Nat},cnts l < n→cnts l≤100000000→m≤10000→ACalls Tryz.prog 56 [.d (Zal t l),I m] [] (I (capN m (cnts l))) []:=by
 intro n
 induction n with
 | zero=>intro t l m h;omega
 | succ n ih =>
 intro t l m hn hN hm
 have hl:=Nat.le_trans (ZaR l) hN
 refine ACalls.intro (n:=34) Tryz.func56 rfl rfl (by simp) (by rfl) ?_
 simp only[Zak]
 repeat (first|refine wk ?_)
 refine Zai (X:=Nat×Nat) (fun x=>x.1≤l.length∧x.2≤2 * m+2∧(x.2=cnts (l.take x.1)∨(m < x.2∧m < cnts l))) (fun x=>[(6,I x.1),(5,I x.2),(1,I m),(0,.d (Zal t l))]) (fun _=>[]) (fun x=>l.length - x.1) (0,0) ⟨Nat.zero_le _,by simp,.inl (by simp[cnts])⟩ ?_
 rintro⟨i,v⟩ ⟨h1,h2,h3⟩
 dsimp only at h1 h2 h3 ⊢
 by_cases hlt:i < l.length
 ·have hm1:=Zca (List.getElem_mem hlt)
  have hm2:=ZdX l[i]
  have hm3:=Zfu hlt
  have hm4:=ZhG hlt
  have hm5:cnts l=cnts (l.take i)+cnts (l.drop i):=by rw[←Zbd,List.take_append_drop]
  by_cases hv:(v:Int)≤m
  ·repeat (first|refine wk ?_)
   refine Zab [] (hA:=ih (t:=t) (l:=l[i].kids) (m:=m) (by omega) (by omega) hm) (hr:=?_)
   have hc:capN m (cnts l[i].kids)≤m+1:=by unfold capN;split <;> omega
   repeat (first|refine wk ?_)
   refine Zad (i+1,v+(1+capN m (cnts l[i].kids))) (a:=⟨by omega,by dsimp only;omega,?_⟩) (b:=by dsimp only;omega)
   dsimp only
   unfold capN
   split <;> omega
  ·have hgt:m < cnts l:=by omega
   have e:((capN m (cnts l):Nat):Int)=m+1:=by unfold capN;rw[if_neg (by omega)];omega
   repeat (first|refine wk ?_)
   rw[e]
   exact fin
 ·have hz:l.take i=l:=List.take_of_length_le (by omega)
  rw[hz] at h3
  by_cases hv:(v:Int)≤m
  ·have e:((capN m (cnts l):Nat):Int)=v:=by unfold capN;rw[if_pos (by omega)];omega
   repeat (first|refine wk ?_)
   rw[e]
   exact fin
  ·have e:((capN m (cnts l):Nat):Int)=m+1:=by unfold capN;rw[if_neg (by omega)];omega
   repeat (first|refine wk ?_)
   rw[e]
   exact fin
theorem ZeT {t:Bool} {l:List Tree} {m:Nat} (hN:cnts l≤100000000:=by ((try simp only[List.length_map,List.length_append,List.length_cons,List.length_nil,List.length_replicate,List.length_set,List.length_take,List.length_drop]);first|omega|assumption)) (hm:m≤10000:=by ((try simp only[List.length_map,List.length_append,List.length_cons,List.length_nil,List.length_replicate,List.length_set,List.length_take,List.length_drop]);first|omega|assumption)):ACalls Tryz.prog 56 [.d (Zal t l),I m] [] (I (capN m (cnts l))) []:=ZhD _ (Nat.lt_succ_self _) hN hm
theorem Zgt {t:Bool} {x:Tree} {m:Nat} (hN:cnt x≤100000000) (hm:m≤10000):ACalls Tryz.prog 56 [.d (.sl t 2 [ZaE t x]),I m] [] (I (capN m (cnt x))) []:=by
 have:=ZhD _ (t:=t) (l:=[x]) (m:=m) (Nat.lt_succ_self _) (by simpa[cnts] using hN) hm
 simpa[cnts,Zal,Za4] using this
theorem ZdI {t:Bool} {x:Tree} (hN:cnt x≤100000000:=by ((try simp only[List.length_map,List.length_append,List.length_cons,List.length_nil,List.length_replicate,List.length_set,List.length_take,List.length_drop]);first|omega|assumption)):ACalls Tryz.prog 26 [.d (ZaE t x)] [] (B (ZeH x)) []:=by
 refine ACalls.intro (n:=7) Tryz.func26 rfl rfl (by simp) (by rfl) ?_
 simp only[Zak]
 repeat (first|refine wk ?_)
 refine Zab [] (hA:=Zgt (t:=true) (x:=x) (m:=3000) hN (by omega)) (hr:=?_)
 repeat (first|refine wk ?_)
 by_cases h:cnt x≤3000
 ·rw[show ZeH x=false by simp[ZeH];omega,show capN 3000 (cnt x)=cnt x by unfold capN;rw[if_pos h]]
  exact fin
 ·rw[show ZeH x=true by simp[ZeH];omega,show capN 3000 (cnt x)=3001 by unfold capN;rw[if_neg h]]
  exact fin
theorem Ztl {t:Bool}:∀ (x:Tree),cnt x≤100000000→∀ {m:Nat},m≤10000→ACalls Tryz.prog 95 [.d (ZaE t x),I m] [] (I (ZeB m (cnt x))) []:=by
 refine Tree.ind fun x ih hN m hm=>?_
 refine ACalls.intro (n:=27) Tryz.func95 rfl rfl (by simp) (by rfl) ?_
 simp only[Zak]
 have hk:=ZbF hN
 have hx:=ZdX x
 repeat (first|refine wk ?_)
 refine Zai (X:=Nat) (fun i=>i≤x.kids.length) (fun i=>[(5,I i),(1,I (ZeB m (1+cnts (x.kids.take i)))),(2,.ptr 2 0)]) (fun _=>[(2,.box 56 [.d (iD x.rule),.d (Zal t x.kids)])]) (fun i=>x.kids.length - i) 0 (Nat.zero_le _) ?_ (hf:=?_)
 rotate_left
 ·refine⟨.of rfl,Zb4 rfl ?_,.of rfl,trivial⟩
  simp only[ZeB,List.take_zero,cnts]
  split <;> omega
 intro i hi
 by_cases hlt:i < x.kids.length
 ·have hm1:=Zca (List.getElem_mem hlt)
  have hm3:=Zfu hlt
  have hm4:=ZhG hlt
  have hm5:cnts x.kids=cnts (x.kids.take i)+cnts (x.kids.drop i):=by rw[←Zbd,List.take_append_drop]
  by_cases hv:1+cnts (x.kids.take i)≤m
  ·have e0:ZeB m (1+cnts (x.kids.take i))=((m - (1+cnts (x.kids.take i)):Nat):Int):=by unfold ZeB;rw[if_pos (by omega)];omega
   rw[e0]
   repeat (first|refine wk ?_)
   refine Zab [] (hA:=ih x.kids[i] (List.getElem_mem hlt) (by omega) (m:=m - (1+cnts (x.kids.take i))) (by omega)) (hr:=?_)
   have e:ZeB ((m - (1+cnts (x.kids.take i)):Nat):Int) (cnt x.kids[i])=ZeB m (1+cnts (x.kids.take (i+1))):=by
    unfold ZeB;rw[hm3];split <;> split <;> omega
   rw[e]
   repeat (first|refine wk ?_)
   exact Zad (i+1)
  ·have e0:ZeB m (1+cnts (x.kids.take i)) = -1:=by unfold ZeB;rw[if_neg (by omega)]
   have e1:ZeB m (cnt x) = -1:=by unfold ZeB;rw[if_neg (by omega)]
   rw[e0,e1]
   repeat (first|refine wk ?_)
   exact fin
 ·rw[show x.kids.take i=x.kids from List.take_of_length_le (by omega),←hx]
  repeat (first|refine wk ?_)
  exact fin
theorem Zj1 {g:Gram} {x:Tree} {v:Int} (h:¬ (0≤x.rule∧x.rule < g.rules.length)):fits g x v=false:=by
 rw[Zj2]
 by_cases h0:0≤x.rule
 ·rw[if_pos h0,List.getElem?_eq_none (by omega)]
 ·rw[if_neg h0]
theorem Zok {g:Gram} {x:Tree} {v:Int} {i:Nat} (hi:i < g.rules.length) (e:x.rule=(i:Int)):fits g x v=(decide (g.rules[i].left=v) && (decide ((kids g.rules[i].right).length=x.kids.length) && fitss g x.kids (kids g.rules[i].right))):=by
 rw[Zj2,if_pos (by omega),e,Int.toNat_natCast,List.getElem?_eq_getElem hi]
set_option maxHeartbeats 4000000 in
theorem Zpt {t u:Bool} {g:Gram} (hl:g.rules.length≤100000000) (hr:∀ r∈g.rules,r.right.length≤100000000):∀ (x:Tree),cnt x≤100000000→∀ {v:Int},ACalls Tryz.prog 97 [.d (ZaH t g),.d (ZaE u x),I v] [] (B (fits g x v)) []:=by
 refine Tree.ind fun x ih hN v=>?_
 refine ACalls.intro (n:=63) Tryz.func97 rfl rfl (by simp) (by rfl) ?_
 simp only[Zak]
 have hk:=ZbF hN
 by_cases h0:x.rule < 0
 ·rw[Zj1 (by omega)]
  repeat (first|refine wk ?_)
  exact fin
 by_cases h1:(g.rules.length:Int)≤x.rule
 ·rw[Zj1 (by omega)]
  repeat (first|refine wk ?_)
  exact fin
 obtain⟨i,hi⟩:∃ i:Nat,x.rule=i:=⟨x.rule.toNat,by omega⟩
 have hlt:i < g.rules.length:=by omega
 rw[Zok hlt hi]
 have hrk:=hr _ (List.getElem_mem hlt)
 have hkl:=Zb6 g.rules[i].right
 by_cases h2:g.rules[i].left=v
 rotate_left
 ·rw[decide_eq_false h2,Bool.false_and]
  repeat (first|refine wk ?_)
  exact fin
 rw[decide_eq_true h2,Bool.true_and]
 repeat (first|refine wk ?_)
 refine Zab [(3,900)] (hA:=ZiH) (hr:=?_)
 by_cases h3:((kids g.rules[i].right).length:Int)=x.kids.length
 ·rw[decide_eq_true (by omega),Bool.true_and]
  repeat (first|refine wk ?_)
  refine Zai (X:=Nat) (fun j=>j≤x.kids.length∧fitss g x.kids (kids g.rules[i].right)=fitss g (x.kids.drop j) ((kids g.rules[i].right).drop j)) (fun j=>[(8,I j),(7,.own 900 (kids g.rules[i].right).length),(4,.ptr 4 0),(3,.ptr 3 0)]) (fun _=>[(3,Zar t g),(4,.box 56 [.d (iD x.rule),.d (Zal u x.kids)]),(900,.row 3 1 ((kids g.rules[i].right).map iD))]) (fun j=>x.kids.length - j) 0 ⟨Nat.zero_le _,rfl⟩ ?_
  rintro j ⟨hj,hq⟩
  by_cases hjl:j < x.kids.length
  ·have hjl':j < (kids g.rules[i].right).length:=by omega
   have hs:=Zi6 (g:=g) (k:=x.kids) (vs:=kids g.rules[i].right) hjl hjl'
   have hkc:=ZeG hN hjl
   repeat (first|refine wk ?_)
   refine Zab [] (hA:=ih x.kids[j] (List.getElem_mem hjl) hkc.1 (v:=(kids g.rules[i].right)[j])) (hr:=?_)
   cases hf:fits g x.kids[j] (kids g.rules[i].right)[j] with
   | true =>
    rw[hf,Bool.true_and] at hs
    repeat (first|refine wk ?_)
    exact Zad (j+1) (a:=⟨by omega,hq.trans hs⟩)
   | false =>
    rw[hf,Bool.false_and] at hs
    rw[hq,hs]
    repeat (first|refine wk ?_)
    exact fin
  ·rw[hq,Zlj hjl]
   repeat (first|refine wk ?_)
   exact fin
 ·rw[decide_eq_false (by omega),Bool.false_and]
  repeat (first|refine wk ?_)
  exact fin
set_option maxHeartbeats 4000000 in
theorem Ztm {t u:Bool} {g:Gram} (hl:g.rules.length≤100000000) (hr:∀ r∈g.rules,r.right.length≤100000000):∀ (x:Tree),cnt x≤100000000→∀ {v:Int},ACalls Tryz.prog 96 [.d (ZaH t g),.d (ZaE u x),I v] [] (B (fits g x v)) []:=by
 refine Tree.ind fun x ih hN v=>?_
 refine ACalls.intro (n:=62) Tryz.func96 rfl rfl (by simp) (by rfl) ?_
 simp only[Zak]
 have hk:=ZbF hN
 by_cases h0:x.rule < 0
 ·rw[Zj1 (by omega)]
  repeat (first|refine wk ?_)
  exact fin
 by_cases h1:(g.rules.length:Int)≤x.rule
 ·rw[Zj1 (by omega)]
  repeat (first|refine wk ?_)
  exact fin
 obtain⟨i,hi⟩:∃ i:Nat,x.rule=i:=⟨x.rule.toNat,by omega⟩
 have hlt:i < g.rules.length:=by omega
 rw[Zok hlt hi]
 have hrk:=hr _ (List.getElem_mem hlt)
 have hkl:=Zb6 g.rules[i].right
 by_cases h2:g.rules[i].left=v
 rotate_left
 ·rw[decide_eq_false h2,Bool.false_and]
  repeat (first|refine wk ?_)
  exact fin
 rw[decide_eq_true h2,Bool.true_and]
 repeat (first|refine wk ?_)
 refine Zab [(3,900)] (hA:=ZgS) (hr:=?_)
 by_cases h3:((kids g.rules[i].right).length:Int)=x.kids.length
 ·rw[decide_eq_true (by omega),Bool.true_and]
  repeat (first|refine wk ?_)
  refine Zai (X:=Nat) (fun j=>j≤x.kids.length∧fitss g x.kids (kids g.rules[i].right)=fitss g (x.kids.drop j) ((kids g.rules[i].right).drop j)) (fun j=>[(48,I j),(47,I x.kids.length),(46,.d (Zal u x.kids)),(7,.own 900 (kids g.rules[i].right).length),(4,.ptr 4 0),(3,.ptr 3 0)]) (fun _=>[(3,Zar t g),(4,.box 56 [.d (iD x.rule),.d (Zal u x.kids)]),(900,.row 3 1 ((kids g.rules[i].right).map iD))]) (fun j=>x.kids.length - j) 0 ⟨Nat.zero_le _,rfl⟩ ?_
  rintro j ⟨hj,hq⟩
  by_cases hjl:j < x.kids.length
  ·have hjl':j < (kids g.rules[i].right).length:=by omega
   have hs:=Zi6 (g:=g) (k:=x.kids) (vs:=kids g.rules[i].right) hjl hjl'
   have hkc:=ZeG hN hjl
   repeat (first|refine wk ?_)
   refine Zab [] (hA:=ih x.kids[j] (List.getElem_mem hjl) hkc.1 (v:=(kids g.rules[i].right)[j])) (hr:=?_)
   cases hf:fits g x.kids[j] (kids g.rules[i].right)[j] with
   | true =>
    rw[hf,Bool.true_and] at hs
    repeat (first|refine wk ?_)
    exact Zad (j+1) (a:=⟨by omega,hq.trans hs⟩)
   | false =>
    rw[hf,Bool.false_and] at hs
    rw[hq,hs]
    repeat (first|refine wk ?_)
    exact fin
  ·rw[hq,Zlj hjl]
   repeat (first|refine wk ?_)
   exact fin
 ·rw[decide_eq_false (by omega),Bool.false_and]
  repeat (first|refine wk ?_)
  exact fin
theorem Zlh {a:Int}:ACalls Tryz.prog 166 [I a] [] (B false) []:=by
 refine ACalls.intro (n:=6) Tryz.func166 rfl rfl (by simp) (by rfl) ?_
 simp only[Zak]
 repeat (first|refine wk ?_)
 have e:(!decide (a=a))=false:=by simp
 exact fin
def cmpI (a b:Int):Int:=if a < b then -1 else if b < a then 1 else 0
theorem ZmR {a b:Int}:ACalls Tryz.prog 84 [I a,I b] [] (I (cmpI a b)) []:=by
 refine ACalls.intro (n:=20) Tryz.func84 rfl rfl (by simp) (by rfl) ?_
 simp only[Zak]
 repeat (first|refine wk ?_)
 refine Zab [] (hA:=Zlh) (hr:=?_)
 repeat (first|refine wk ?_)
 refine Zab [] (hA:=Zlh) (hr:=?_)
 by_cases h1:a < b
 ·rw[cmpI,if_pos h1]
  repeat (first|refine wk ?_)
  exact fin
 ·by_cases h2:b < a
  ·rw[cmpI,if_neg h1,if_pos h2]
   repeat (first|refine wk ?_)
   exact fin
  ·rw[cmpI,if_neg h1,if_neg h2]
   repeat (first|refine wk ?_)
   exact fin
theorem ZhE {t u:Bool} {clos:Nat} {k l:List Tree} (hc:∀ x∈k,∀ y∈l,ACalls Tryz.prog clos [.d (ZaE t x),.d (ZaE u y)] [] (I (ordT x y)) []) (hk:k.length≤100000000) (hl:l.length≤100000000) :
  ACalls Tryz.prog 85 [.d (Zal t k),.d (Zal u l),.fn (.func clos) [] []] [] (I (ordL k l)) []:=by
 refine ACalls.intro (n:=39) Tryz.func85 rfl rfl (by simp) (by rfl) ?_
 simp only[Zak]
 repeat (first|refine wk ?_)
 refine Zai (X:=Nat) (fun i=>i≤k.length∧i≤l.length∧ordL k l=ordL (k.drop i) (l.drop i)) (fun i=>[(13,I i),(12,I k.length),(11,.d (Zal t k)),(2,.fn (.func clos) [] []),(1,.d (Zal u l)),(0,.d (Zal t k))]) (fun _=>[]) (fun i=>k.length - i) 0 ⟨Nat.zero_le _,Nat.zero_le _,rfl⟩ ?_
 rintro i ⟨h1,h2,h3⟩
 by_cases hlt:i < k.length
 ·by_cases hlt':i < l.length
  ·have hs:=Zlk hlt hlt'
   repeat (first|refine wk ?_)
   refine Zab [] (hA:=hc k[i] (List.getElem_mem hlt) l[i] (List.getElem_mem hlt')) (hr:=?_)
   by_cases h0:ordT k[i] l[i]=0
   ·rw[if_pos h0] at hs
    repeat (first|refine wk ?_)
    exact Zad (i+1) (a:=⟨by omega,by omega,h3.trans hs⟩)
   ·rw[if_neg h0] at hs
    rw[h3,hs]
    repeat (first|refine wk ?_)
    exact fin
  ·rw[h3,Zq8 hlt hlt']
   repeat (first|refine wk ?_)
   exact fin
 ·by_cases hlt':i < l.length
  ·rw[h3,Zq7 hlt hlt']
   repeat (first|refine wk ?_)
   exact fin
  ·rw[h3,Zol hlt hlt']
   repeat (first|refine wk ?_)
   exact fin
theorem Zq5 {t u:Bool}:∀ (x:Tree),cnt x≤100000000→∀ (y:Tree),cnt y≤100000000→ACalls Tryz.prog 49 [.d (ZaE t x),.d (ZaE u y)] [] (I (ordT x y)) []:=by
 refine Tree.ind fun x ih hx y hy=>?_
 refine ACalls.intro (n:=19) Tryz.func49 rfl rfl (by simp) (by rfl) ?_
 simp only[Zak]
 rw[Zq6]
 repeat (first|refine wk ?_)
 refine Zab [] (hA:=ZmR (a:=x.rule) (b:=y.rule)) (hr:=?_)
 by_cases h1:x.rule < y.rule
 ·rw[if_pos h1,cmpI,if_pos h1]
  repeat (first|refine wk ?_)
  exact fin
 ·by_cases h2:y.rule < x.rule
  ·rw[if_neg h1,if_pos h2,cmpI,if_neg h1,if_pos h2]
   repeat (first|refine wk ?_)
   exact fin
  ·have hih:∀ a∈x.kids,∀ b∈y.kids,ACalls Tryz.prog 49 [.d (ZaE t a),.d (ZaE u b)] [] (I (ordT a b)) []:=fun a ha b hb=>ih a ha (by have:=Zca ha;have:=ZdX x;omega) b (by have:=Zca hb;have:=ZdX y;omega)
   rw[if_neg h1,if_neg h2,cmpI,if_neg h1,if_neg h2]
   repeat (first|refine wk ?_)
   refine Zab [] (hA:=ZhE hih (ZbF hx) (ZbF hy)) (hr:=?_)
   repeat (first|refine wk ?_)
   exact fin
theorem ZhF {t u:Bool}:∀ (x:Tree),cnt x≤100000000→∀ (y:Tree),cnt y≤100000000→ACalls Tryz.prog 50 [.d (ZaE t x),.d (ZaE u y)] [] (I (ordT x y)) []:=by
 refine Tree.ind fun x ih hx y hy=>?_
 refine ACalls.intro (n:=59) Tryz.func50 rfl rfl (by simp) (by rfl) ?_
 simp only[Zak]
 rw[Zq6]
 have hk:=ZbF hx
 have hl:=ZbF hy
 by_cases h1:x.rule < y.rule
 ·rw[if_pos h1]
  repeat (first|refine wk ?_)
  exact fin
 by_cases h2:y.rule < x.rule
 ·rw[if_neg h1,if_pos h2]
  repeat (first|refine wk ?_)
  exact fin
 rw[if_neg h1,if_neg h2]
 repeat (first|refine wk ?_)
 refine Zai (X:=Nat) (fun i=>i≤x.kids.length∧i≤y.kids.length∧ordL x.kids y.kids=ordL (x.kids.drop i) (y.kids.drop i)) (fun i=>[(5,I i),(3,.ptr 3 0),(2,.ptr 2 0)]) (fun _=>[(2,.box 56 [.d (iD x.rule),.d (Zal t x.kids)]),(3,.box 56 [.d (iD y.rule),.d (Zal u y.kids)])]) (fun i=>x.kids.length - i) 0 ⟨Nat.zero_le _,Nat.zero_le _,rfl⟩ ?_
 rintro i ⟨h1,h2,h3⟩
 by_cases hlt:i < x.kids.length
 ·by_cases hlt':i < y.kids.length
  ·have hs:=Zlk hlt hlt'
   repeat (first|refine wk ?_)
   refine Zab [] (hA:=ih x.kids[i] (List.getElem_mem hlt) (ZeG hx hlt).1 y.kids[i] (ZeG hy hlt').1) (hr:=?_)
   by_cases h0:ordT x.kids[i] y.kids[i]=0
   ·rw[if_pos h0] at hs
    repeat (first|refine wk ?_)
    exact Zad (i+1) (a:=⟨by omega,by omega,h3.trans hs⟩)
   ·rw[if_neg h0] at hs
    rw[h3,hs]
    repeat (first|refine wk ?_)
    exact fin
  ·rw[h3,Zq8 hlt hlt']
   repeat (first|refine wk ?_)
   exact fin
 ·by_cases hlt':i < y.kids.length
  ·rw[h3,Zq7 hlt hlt']
   repeat (first|refine wk ?_)
   exact fin
  ·rw[h3,Zol hlt hlt']
   repeat (first|refine wk ?_)
   exact fin
theorem Zgu {t u:Bool} {x y:Tree} (hx:cnt x≤100000000:=by ((try simp only[List.length_map,List.length_append,List.length_cons,List.length_nil,List.length_replicate,List.length_set,List.length_take,List.length_drop]);first|omega|assumption)) (hy:cnt y≤100000000:=by ((try simp only[List.length_map,List.length_append,List.length_cons,List.length_nil,List.length_replicate,List.length_set,List.length_take,List.length_drop]);first|omega|assumption)):ACalls Tryz.prog 34 [.d (ZaE t x),.d (ZaE u y)] [] (B (decide (ordT x y=0))) []:=by
 refine ACalls.intro (n:=9) Tryz.func34 rfl rfl (by simp) (by rfl) ?_
 simp only[Zak]
 repeat (first|refine wk ?_)
 refine Zab [] (hA:=ZhF x hx y hy) (hr:=?_)
 repeat (first|refine wk ?_)
 exact fin
end Go.Proofs.YtbpmepgnjanhnaaGreat
