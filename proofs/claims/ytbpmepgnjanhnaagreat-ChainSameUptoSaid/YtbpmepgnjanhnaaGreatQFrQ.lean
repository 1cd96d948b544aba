import Derived.Test.YtbpmepgnjanhnaaGreatP1
set_option linter.unusedVariables false
set_option linter.unusedSimpArgs false
set_option linter.unusedSectionVars false
set_option maxRecDepth 100000
namespace Go.Proofs.YtbpmepgnjanhnaaGreat
open Go.RowKit
structure CS where
 p:Nat
 bad:Bool
 u:List Int
def CS.use (s:CS) (n:Int):CS:=if (s.bad || (decide (n < 0) || decide ((s.u.length:Int)≤n)))=true then ⟨s.p,true,s.u⟩ else ⟨s.p,false,bump s.u n⟩
mutual
def clF (m:Int):Ad→CS→CS
 | .mk o n l,s=>if o=1 then clL m l ⟨s.p,s.bad || (decide (n < 0) || decide (m≤n)),s.u⟩
  else if o=2 then s.use n
  else if o=4 then clL m l (s.use n)
  else if o=3 then s else ⟨s.p,true,s.u⟩
def clL (m:Int):List Ad→CS→CS
 | [],s=>s
 | x::r,s=>if 60 < s.p+1 then ⟨s.p+1,s.bad,s.u⟩ else clL m r (clF m x ⟨s.p+1,s.bad,s.u⟩)
end
theorem ZD7 (m:Int) (x:Ad) (s:CS):clF m x s=if x.op=1 then clL m x.l ⟨s.p,s.bad || (decide (x.n < 0) || decide (m≤x.n)),s.u⟩
  else if x.op=2 then s.use x.n
  else if x.op=4 then clL m x.l (s.use x.n)
  else if x.op=3 then s else ⟨s.p,true,s.u⟩:=by cases x;rw[clF];rfl
theorem ZAx {m:Int} {l:List Ad} {i:Nat} {s:CS} (h:i < l.length):clL m (l.drop i) s=if 60 < s.p+1 then ⟨s.p+1,s.bad,s.u⟩ else clL m (l.drop (i+1)) (clF m l[i] ⟨s.p+1,s.bad,s.u⟩):=by
 rw[Hw h,clL]
theorem ZCE {m:Int} {l:List Ad} {i:Nat} {s:CS} (h:¬ i < l.length):clL m (l.drop i) s=s:=by
 rw[HL (by omega),clL]
theorem CS.use_p (s:CS) (n:Int):(s.use n).p=s.p:=by unfold CS.use;split <;> rfl
theorem CS.use_len (s:CS) (n:Int):(s.use n).u.length=s.u.length:=by unfold CS.use;split <;> simp[bump]
theorem CS.use_upto {s:CS} {n:Int} {B:Nat} (h:Upto B s.u):Upto (B+1) (s.use n).u:=by
 unfold CS.use;split
 ·exact h.mono (by omega)
 ·exact Zpf h
mutual
theorem ZCF (m:Int):∀ (x:Ad) (s:CS),(clF m x s).u.length=s.u.length
 | .mk o n l,s=>by
  have h1:=ZfZ m l ⟨s.p,s.bad || (decide (n < 0) || decide (m≤n)),s.u⟩;have h2:=ZfZ m l (s.use n);rw[CS.use_len] at h2;rw[clF]
  repeat' split
  all_goals first|exact h1|exact h2|exact s.use_len n|rfl
theorem ZfZ (m:Int):∀ (l:List Ad) (s:CS),(clL m l s).u.length=s.u.length
 | [],s=>rfl
 | x::r,s=>by
  have h1:=ZCF m x ⟨s.p+1,s.bad,s.u⟩;have h2:=ZfZ m r (clF m x ⟨s.p+1,s.bad,s.u⟩);rw[clL];split
  ·rfl
  ·exact h2.trans h1
end
mutual
theorem ZEV (m:Int):∀ (x:Ad) (s:CS),s.p≤(clF m x s).p∧(clF m x s).p+1≤s.p+fsz x
 | .mk o n l,s=>by
  have h1:=ZnR m l ⟨s.p,s.bad || (decide (n < 0) || decide (m≤n)),s.u⟩;have h2:=ZnR m l (s.use n);rw[CS.use_p] at h2;have h3:=s.use_p n;rw[clF,fsz]
  repeat' split
  all_goals first|(dsimp only at h1 ⊢;omega)
theorem ZnR (m:Int):∀ (l:List Ad) (s:CS),s.p≤(clL m l s).p∧(clL m l s).p≤s.p+Aj l
 | [],s=>by simp[clL]
 | x::r,s=>by
  have h1:=ZEV m x ⟨s.p+1,s.bad,s.u⟩;have h2:=ZnR m r (clF m x ⟨s.p+1,s.bad,s.u⟩);have h3:=Zre x;rw[clL,Aj];split
  ·dsimp only;omega
  ·dsimp only at h1;omega
end
mutual
theorem ZAy (m:Int):∀ (x:Ad) (s:CS) (B:Nat),Upto B s.u→Upto (B+fsz x) (clF m x s).u
 | .mk o n l,s,B,h=>by
  have h1:=ZeB m l ⟨s.p,s.bad || (decide (n < 0) || decide (m≤n)),s.u⟩ B h;have h2:=ZeB m l (s.use n) (B+1) (CS.use_upto h);have h3:=CS.use_upto (n:=n) h;rw[clF,fsz]
  repeat' split
  all_goals first|exact h1.mono (by omega)|exact h2.mono (by omega)|exact h3.mono (by omega)|exact h.mono (by omega)
theorem ZeB (m:Int):∀ (l:List Ad) (s:CS) (B:Nat),Upto B s.u→Upto (B+Aj l) (clL m l s).u
 | [],s,B,h=>h
 | x::r,s,B,h=>by
  have h1:=ZAy m x ⟨s.p+1,s.bad,s.u⟩ B h;have h2:=ZeB m r (clF m x ⟨s.p+1,s.bad,s.u⟩) (B+fsz x) h1;rw[clL,Aj];split
  ·exact h.mono (by omega)
  ·exact h2.mono (by omega)
end
structure Tells (s s':CS) (n:Nat) (r:Bool×List Int):Prop where
 p:s'.p=s.p+n
 bad:s.bad=true→s'.bad=true
 ok:s.bad=false→r.1=true→s'.bad=false∧s'.u=r.2
 no:s.bad=false→r.1=false→s'.bad=true
theorem ZpK (s:CS) (n:Int):Tells s (s.use n) 0 (if n < 0∨(s.u.length:Int)≤n then (false,s.u) else (true,bump s.u n)):=by
 unfold CS.use;by_cases h:n < 0∨(s.u.length:Int)≤n
 ·have h':(decide (n < 0) || decide ((s.u.length:Int)≤n))=true:=by simpa using h
  rw[Hb h,Hb (by rw[h'];simp)];exact⟨rfl,fun _=>rfl,fun _ h=>by simp at h,fun _ _=>rfl⟩
 ·have h':(decide (n < 0) || decide ((s.u.length:Int)≤n))=false:=by simpa using h
  rw[Ha h];cases hb:s.bad with
  | true =>
   rw[h',Hb (by simp)];exact⟨rfl,fun _=>rfl,fun h=>(by rw[hb] at h;cases h),fun h=>(by rw[hb] at h;cases h)⟩
  | false =>
   rw[h',Ha (by simp)];exact⟨rfl,fun h=>(by rw[hb] at h;cases h),fun _ _=>⟨rfl,rfl⟩,fun _ h=>(by cases h)⟩
theorem Tells.then {s s1 s2:CS} {n1 n2:Nat} {r1 r2:Bool×List Int} (h1:Tells s s1 n1 r1) (h2:s1.bad=false→s1.u=r1.2→Tells s1 s2 n2 r2) (h3:s1.bad=true→s2.p=s1.p+n2∧s2.bad=true) :
  Tells s s2 (n1+n2) (bif r1.1 then r2 else (false,r1.2)):=by
 refine⟨?_,fun hb=>(h3 (h1.bad hb)).2,fun hb hr=>?_,fun hb hr=>?_⟩
 ·cases hb1:s1.bad with
  | true=>have:=(h3 hb1).1;have:=h1.p;omega
  | false =>
   have e:s1.u=r1.2:=by
    cases hs:s.bad with
    | true=>have:=h1.bad hs;rw[hb1] at this;cases this
    | false =>
     cases hr:r1.1 with
     | true=>exact (h1.ok hs hr).2
     | false=>have:=h1.no hs hr;rw[hb1] at this;cases this
   have:=(h2 hb1 e).p;have:=h1.p;omega
 ·cases hr1:r1.1 with
  | true =>
   rw[hr1] at hr;obtain⟨e1,e2⟩:=h1.ok hb hr1;exact (h2 e1 e2).ok e1 hr
  | false=>rw[hr1] at hr;cases hr
 ·cases hr1:r1.1 with
  | true =>
   rw[hr1] at hr;obtain⟨e1,e2⟩:=h1.ok hb hr1;exact (h2 e1 e2).no e1 hr
  | false=>exact (h3 (h1.no hb hr1)).2
mutual
theorem ZpL (m:Int):∀ (x:Ad) (s:CS),s.p+cpF x≤61→Tells s (clF m x s) (cpF x - 1) (usF m x s.u)
 | .mk o n l,s,h=>by
  rw[cpF] at h ⊢;rw[clF,usF];by_cases h1:o=1
  ·rw[Hb h1,Hb h1];rw[Hb (Or.inl h1)] at h ⊢;have k:=ZhN m l ⟨s.p,s.bad || (decide (n < 0) || decide (m≤n)),s.u⟩ (by dsimp only;omega);have e:1+cpL l - 1=cpL l:=by omega
   rw[e];by_cases hn:n < 0∨m≤n
   ·have hd:(decide (n < 0) || decide (m≤n))=true:=(by simpa using hn);rw[hd,Bool.or_true] at k ⊢;rw[Hb hn];exact⟨k.p,fun _=>k.bad rfl,fun _ h=>(by cases h),fun _ _=>k.bad rfl⟩
   ·have hd:(decide (n < 0) || decide (m≤n))=false:=(by simpa using hn);rw[hd,Jk] at k ⊢;rw[Ha hn];exact⟨k.p,k.bad,k.ok,k.no⟩
  ·rw[Ha h1,Ha h1];by_cases h2:o=2
   ·rw[Hb h2,Hb h2,Ha (show ¬ (o=1∨o=4) by omega)];exact ZpK s n
   ·rw[Ha h2,Ha h2];by_cases h4:o=4
    ·rw[Hb h4,Hb h4];rw[Hb (Or.inr h4)] at h ⊢;have k:=ZhN m l (s.use n) (by rw[CS.use_p];omega);have e:1+cpL l - 1=0+cpL l:=(by omega);rw[e];have u:=ZpK s n;have t:=u.then (r2:=usL m l (bump s.u n)) (s2:=clL m l (s.use n)) (n2:=cpL l) (fun hb hu=>?_) (fun hb=>⟨k.p,k.bad hb⟩)
     ·by_cases hn:n < 0∨(s.u.length:Int)≤n
      ·rw[Hb hn] at t ⊢;exact t
      ·rw[Ha hn] at t ⊢;exact t
     ·by_cases hn:n < 0∨(s.u.length:Int)≤n
      ·exfalso;have hd:(decide (n < 0) || decide ((s.u.length:Int)≤n))=true:=(by simpa using hn);unfold CS.use at hb;rw[hd,Bool.or_true,Hb rfl] at hb;cases hb
      ·rw[Ha hn] at hu;rw[hu] at k;exact k
    ·rw[Ha h4,Ha h4,Ha (show ¬ (o=1∨o=4) by omega)];by_cases h3:o=3
     ·rw[Hb h3,Hb h3];exact⟨rfl,fun h=>h,fun h _=>⟨h,rfl⟩,fun _ h=>(by cases h)⟩
     ·rw[Ha h3,Ha h3];exact⟨rfl,fun _=>rfl,fun _ h=>(by cases h),fun _ _=>rfl⟩
theorem ZhN (m:Int):∀ (l:List Ad) (s:CS),s.p+cpL l≤60→Tells s (clL m l s) (cpL l) (usL m l s.u)
 | [],s,_=>⟨rfl,fun h=>h,fun h _=>⟨h,rfl⟩,fun _ h=>(by cases h)⟩
 | x::r,s,h=>by
  rw[cpL] at h;have hx:1≤cpF x:=by rw[ZsN];omega
  rw[clL,Ha (by omega),usL];have k1:=ZpL m x ⟨s.p+1,s.bad,s.u⟩ (by dsimp only;omega);have kp:=k1.p;dsimp only at kp;have k2:=ZhN m r (clF m x ⟨s.p+1,s.bad,s.u⟩) (by omega);have t:=k1.then (r2:=usL m r (usF m x s.u).2) (fun hb hu=>by rw[hu] at k2;exact k2) (fun hb=>⟨k2.p,k2.bad hb⟩);refine⟨?_,t.bad,t.ok,t.no⟩;have:=t.p;dsimp only at this;rw[cpL];omega
end
mutual
theorem ZAz (m:Int):∀ (x:Ad) (s:CS),s.p≤60→61 < s.p+cpF x→60 < (clF m x s).p
 | .mk o n l,s,h0,h=>by
  rw[cpF] at h;rw[clF];by_cases h1:o=1
  ·rw[Hb h1];rw[Hb (Or.inl h1)] at h;exact ZjG m l _ h0 (by dsimp only;omega)
  ·rw[Ha h1];by_cases h2:o=2
   ·exfalso;rw[Ha (by omega)] at h;omega
   ·rw[Ha h2];by_cases h4:o=4
    ·rw[Hb h4];rw[Hb (Or.inr h4)] at h;exact ZjG m l _ (by rw[CS.use_p];exact h0) (by rw[CS.use_p];omega)
    ·exfalso;rw[Ha (by omega)] at h;omega
theorem ZjG (m:Int):∀ (l:List Ad) (s:CS),s.p≤60→60 < s.p+cpL l→60 < (clL m l s).p
 | [],s,h0,h=>by simp only[cpL] at h;omega
 | x::r,s,h0,h=>by
  rw[cpL] at h;rw[clL];split
  ·assumption
  ·rename_i h60;by_cases hx:61 < s.p+1+cpF x
   ·have:=ZAz m x ⟨s.p+1,s.bad,s.u⟩ (by dsimp only;omega) hx;have k:=(ZnR m r (clF m x ⟨s.p+1,s.bad,s.u⟩)).1;omega
   ·have k1:=(ZpL m x ⟨s.p+1,s.bad,s.u⟩ (by dsimp only;omega)).p;dsimp only at k1;have hx1:1≤cpF x:=(by rw[ZsN];omega);exact ZjG m r _ (by omega) (by omega)
end
theorem ZCG (old:Ac) (l:List Ad) (right:List Int) (s:CS) (hs:s=clL old.Aa.length l ⟨0,false,List.replicate (Ab right).length 0⟩) :
  Zay old l right=if 60 < s.p then 6 else if (s.bad || s.u.any (fun n=>!decide (n=1)))=true then 14 else 0:=by
 rw[Zay];by_cases h:60 < cpL l
 ·have:=ZjG old.Aa.length l ⟨0,false,List.replicate (Ab right).length 0⟩ (Hh _) (by dsimp only;omega);rw[Hb h,hs,Hb this]
 ·have k:=ZhN old.Aa.length l ⟨0,false,List.replicate (Ab right).length 0⟩ (by dsimp only;omega);rw[←hs] at k;have kp:=k.p;dsimp only at kp;rw[Ha h,Ha (show ¬ 60 < s.p by omega)];unfold Zhy;cases hr:(usL old.Aa.length l (List.replicate (Ab right).length 0)).1 with
  | true =>
   obtain⟨e1,e2⟩:=k.ok rfl hr;rw[e1,e2,H5,GD];generalize (usL old.Aa.length l (List.replicate (Ab right).length 0)).2=u;have e:(u.any fun n=>!decide (n=1))=!(u.all fun n=>decide (n=1)):=by
    rw[List.all_eq_not_any_not];simp
   rw[e];cases u.all (fun n=>decide (n=1)) <;> rfl
  | false=>rw[k.no rfl hr];rfl
mutual
def Zfs (w:List Tree):Tree→List Tree
 | .mk r ks=>if r = -1 then w else [.mk r (ZaY w ks)]
def ZaY (w:List Tree):List Tree→List Tree
 | []=>[]
 | x::r=>Zfs w x++ZaY w r
end
theorem ZjH (w:List Tree) (x:Tree):Zfs w x=if x.rule = -1 then w else [.mk x.rule (ZaY w x.Ab)]:=by cases x;rw[Zfs];rfl
theorem Zjf (w:List Tree):∀ (a b:List Tree),ZaY w (a++b)=ZaY w a++ZaY w b
 | [],b=>rfl
 | x::a,b=>by simp[ZaY,Zjf w a b]
theorem Zu4 {w l:List Tree} {i:Nat} (h:i < l.length):ZaY w (l.take (i+1))=ZaY w (l.take i)++Zfs w l[i]:=by
 rw[HD h,Zjf];simp[ZaY]
mutual
theorem Zxw (w:List Tree):∀ (x:Tree),cnts (Zfs w x)≤cnt x * (1+cnts w)
 | .mk r ks=>by
  have h:=ZhO w ks;rw[Zfs,cnt];split
  ·rw[Gb];omega
  ·simp only[cnts,cnt];rw[Gb];omega
theorem ZhO (w:List Tree):∀ (l:List Tree),cnts (ZaY w l)≤cnts l * (1+cnts w)
 | []=>by simp[ZaY,cnts]
 | x::r=>by
  have h1:=Zxw w x;have h2:=ZhO w r;rw[ZaY,ZaK,cnts,Gb];omega
end
def ZbV (l:List Tree):Option (List Tree):=if cnts l≤400 then some l else none
mutual
def mkF (Ab:List (List Tree)):Ad→Option (List Tree)
 | .mk o n l=>if o=1 then ((mkA Ab l).bind ZbV).map (fun a=>[.mk n a])
  else if o=2 then some (Ab.getD n.toNat [])
  else if o=3 then some [.mk (-1) []]
  else if o=4 then ((mkA Ab l).bind ZbV).bind (fun a=>ZbV (ZaY a (Ab.getD n.toNat [])))
  else some []
def mkA (Ab:List (List Tree)):List Ad→Option (List Tree)
 | []=>some []
 | x::r=>(mkF Ab x).bind fun a=>(mkA Ab r).map (a++·)
end
def mkL (Ab:List (List Tree)) (l:List Ad):Option (List Tree):=(mkA Ab l).bind ZbV
theorem Zxx (Ab:List (List Tree)) (x:Ad):mkF Ab x=if x.op=1 then (mkL Ab x.l).map (fun a=>[.mk x.n a])
  else if x.op=2 then some (Ab.getD x.n.toNat [])
  else if x.op=3 then some [.mk (-1) []]
  else if x.op=4 then (mkL Ab x.l).bind (fun a=>ZbV (ZaY a (Ab.getD x.n.toNat [])))
  else some []:=by cases x;rw[mkF];rfl
theorem Ze2 {l a:List Tree} (h:ZbV l=some a):a=l∧cnts l≤400:=by
 unfold ZbV at h;split at h
 ·cases h;exact⟨rfl,by assumption⟩
 ·cases h
theorem ZjI {Ab:List (List Tree)} {l:List Ad} {a:List Tree} (h:mkL Ab l=some a):mkA Ab l=some a∧cnts a≤400:=by
 unfold mkL at h;cases hc:mkA Ab l with
 | none=>rw[hc] at h;cases h
 | some b=>rw[hc] at h;obtain⟨rfl,h2⟩:=Ze2 h;exact⟨rfl,h2⟩
theorem Zxy {Ab:List (List Tree)} (hk:∀ k∈Ab,cnts k≤400) (n:Nat):cnts (Ab.getD n [])≤400:=by
 rw[Hf];by_cases h:n < Ab.length
 ·rw[Hj h];exact hk _ (He h)
 ·rw[HI (by omega)];simp[cnts]
theorem ZCH {Ab:List (List Tree)} (hk:∀ k∈Ab,cnts k≤400) {x:Ad} {a:List Tree} (h:mkF Ab x=some a):cnts a≤401:=by
 rw[Zxx] at h;split at h
 ·cases hc:mkL Ab x.l with
  | none=>rw[hc] at h;cases h
  | some b =>
   rw[hc] at h;cases h;have:=(ZjI hc).2;simp only[cnts,cnt];omega
 ·split at h
  ·cases h;have:=Zxy hk x.n.toNat;omega
  ·split at h
   ·cases h;simp[cnts,cnt]
   ·split at h
    ·cases hc:mkL Ab x.l with
     | none=>rw[hc] at h;cases h
     | some b=>rw[hc] at h;obtain⟨rfl,h2⟩:=Ze2 h;omega
    ·cases h;simp[cnts]
theorem ZnS {Ab:List (List Tree)} (hk:∀ k∈Ab,cnts k≤400):∀ {l:List Ad} {a:List Tree},mkA Ab l=some a→cnts a≤401 * l.length
 | [],a,h=>by rw[mkA] at h;cases h;simp[cnts]
 | x::r,a,h=>by
  rw[mkA] at h;cases hc:mkF Ab x with
  | none=>rw[hc] at h;cases h
  | some b =>
   cases hd:mkA Ab r with
   | none=>rw[hc,hd] at h;cases h
   | some c =>
    rw[hc,hd] at h;cases h;have h1:=ZCH hk hc;have h2:=ZnS hk hd;rw[ZaK,Hl,Jj];omega
theorem ZnT (Ab:List (List Tree)):∀ (l:List Ad) (x:Ad),mkA Ab (l++[x])=(mkA Ab l).bind fun a=>(mkF Ab x).map (a++·)
 | [],x=>by
  simp only[H3,mkA];cases mkF Ab x <;> simp
 | y::l,x=>by
  simp only[Hv,mkA,ZnT Ab l x];cases mkF Ab y with
  | none=>rfl
  | some a =>
   cases mkA Ab l with
   | none=>rfl
   | some b =>
    cases mkF Ab x with
    | none=>rfl
    | some c=>simp
theorem ZAA {Ab:List (List Tree)} {l:List Ad} {i:Nat} (h:i < l.length):mkA Ab (l.take (i+1))=(mkA Ab (l.take i)).bind fun a=>(mkF Ab l[i]).map (a++·):=by
 rw[HD h,ZnT]
theorem ZAB {Ab:List (List Tree)} {l:List Ad} {i:Nat} (h:mkA Ab (l.take i)=none):mkA Ab l=none:=by
 rw[←Gh i l];generalize l.drop i=r
 induction r generalizing i l with
 | nil=>simpa using h
 | cons x r ih =>
  have h2:mkA Ab (l.take i++[x])=none:=by rw[ZnT,h];rfl
  have:=ih (l:=l.take i++[x]) (i:=(l.take i++[x]).length) (by rw[HO];exact h2);rw[HO] at this;simpa using this
mutual
def valT (s:Step):Tree→Option (List Tree)
 | .mk r ks=>(valL s ks).bind fun Ab=>mkL Ab (s.frags.getD r.toNat [])
def valL (s:Step):List Tree→Option (List (List Tree))
 | []=>some []
 | x::l=>(valT s x).bind fun a=>(valL s l).map (a::·)
end
theorem Zxz (s:Step) (x:Tree):valT s x=(valL s x.Ab).bind fun Ab=>mkL Ab (s.frags.getD x.rule.toNat []):=by cases x;rw[valT];rfl
theorem ZnU {s:Step} {x:Tree} {a:List Tree} (h:valT s x=some a):cnts a≤400:=by
 rw[Zxz] at h;cases hc:valL s x.Ab with
 | none=>rw[hc] at h;cases h
 | some ks=>rw[hc] at h;exact (ZjI h).2
theorem Ztg {s:Step}:∀ {l:List Tree} {ks:List (List Tree)},valL s l=some ks→ks.length=l.length∧∀ k∈ks,cnts k≤400
 | [],ks,h=>by rw[valL] at h;cases h;simp
 | x::l,ks,h=>by
  rw[valL] at h;cases hc:valT s x with
  | none=>rw[hc] at h;cases h
  | some a =>
   cases hd:valL s l with
   | none=>rw[hc,hd] at h;cases h
   | some b =>
    rw[hc,hd] at h;cases h;obtain⟨h1,h2⟩:=Ztg hd;refine⟨by simp[h1],fun k hk=>?_⟩;rcases List.mem_cons.1 hk with rfl|hk
    ·exact ZnU hc
    ·exact h2 k hk
theorem ZpM (s:Step):∀ (l:List Tree) (x:Tree),valL s (l++[x])=(valL s l).bind fun a=>(valT s x).map (fun b=>a++[b])
 | [],x=>by
  simp only[H3,valL];cases valT s x <;> simp
 | y::l,x=>by
  simp only[Hv,valL,ZpM s l x];cases valT s y with
  | none=>rfl
  | some a =>
   cases valL s l with
   | none=>rfl
   | some b =>
    cases valT s x with
    | none=>rfl
    | some c=>simp
theorem ZxA {s:Step} {l:List Tree} {i:Nat} (h:i < l.length):valL s (l.take (i+1))=(valL s (l.take i)).bind fun a=>(valT s l[i]).map (fun b=>a++[b]):=by
 rw[HD h,ZpM]
def ZcI:Tree:=.mk 0 []
def Zb8 (old:Ac) (s:Step) (x:Tree):Tree×Zcf :=
 if (Zam old s).code=0 then
  if (ZaB s.g x s.g.start).code=0 then
   match valT s x with
   | none=>(ZcI,⟨6, -1⟩)
   | some [y]=>if (ZaB old y old.start).code=0 then (y,⟨0,0⟩) else (ZcI,⟨18, -1⟩)
   | some _=>(ZcI,⟨18, -1⟩)
  else (ZcI,ZaB s.g x s.g.start)
 else (ZcI,Zam old s)
theorem ZkK {x:Tree} {N:Nat} (h:cnt x≤N) {i:Nat} (hi:i < x.Ab.length):cnt x.Ab[i]≤N∧cnt x.Ab[i] < cnt x:=by
 have:=Zbn (He hi);rw[ZcB] at h;have:=ZcB x;omega
theorem Zdx {x:Tree} {N:Nat} (h:cnt x≤N):x.Ab.length≤N:=by
 have:=Zcb x.Ab;rw[ZcB] at h;omega
theorem ZAC {t:Bool}:∀ (x:Tree),cnt x≤100000000→∀ {m:Nat},m≤10000→Af Tryz.prog 95 [.d (Zbz t x),I m] [] (I (ZgD m (cnt x))) []:=by
 refine Tree.ind fun x ih hN m hm=>?_
 refine Af.intro (n:=27) Tryz.func95 (hw:=?_);simp only[Zal];have hk:=Zdx hN;have hx:=ZcB x
 (try refine wk ?_)
 refine Zak (X:=Nat) (fun i=>i≤x.Ab.length) (fun i=>[(5,I i),(1,I (ZgD m (1+cnts (x.Ab.take i)))),(2,.ptr 2 0)]) (fun _=>[(2,.box 56 [.d (iD x.rule),.d (Zan t x.Ab)])]) (fun i=>x.Ab.length - i) 0 (Hh _) ?_ (hf:=?_)
 rotate_left
 ·refine⟨.of rfl,Zcw rfl ?_,.of rfl,trivial⟩;simp only[ZgD,GW,cnts];split <;> omega
 intro i hi;by_cases hlt:i < x.Ab.length
 ·have hm1:=Zbn (He hlt);have hm3:=ZkX hlt;have hm4:=ZpZ hlt;have hm5:cnts x.Ab=cnts (x.Ab.take i)+cnts (x.Ab.drop i):=by rw[←ZaK,Gh]
  by_cases hv:1+cnts (x.Ab.take i)≤m
  ·have e0:ZgD m (1+cnts (x.Ab.take i))=((m - (1+cnts (x.Ab.take i)):Nat):Int):=by unfold ZgD;rw[Hb (by omega)];omega
   rw[e0]
   (try refine wk ?_)
   refine Zab [] (hA:=ih x.Ab[i] (He hlt) (by omega) (m:=m - (1+cnts (x.Ab.take i))) (by omega)) (hr:=?_);have e:ZgD ((m - (1+cnts (x.Ab.take i)):Nat):Int) (cnt x.Ab[i])=ZgD m (1+cnts (x.Ab.take (i+1))):=by
    unfold ZgD;rw[hm3];split <;> split <;> omega
   rw[e]
   (try refine wk ?_)
   exact Zad (i+1)
  ·have e0:ZgD m (1+cnts (x.Ab.take i)) = -1:=by unfold ZgD;rw[Ha (by omega)]
   have e1:ZgD m (cnt x) = -1:=by unfold ZgD;rw[Ha (by omega)]
   rw[e0,e1]
   (try refine wk ?_)
   exact fin
 ·rw[show x.Ab.take i=x.Ab from H6 (by omega),←hx]
  (try refine wk ?_)
  exact fin
theorem ZxB {g:Ac} {x:Tree} {v:Int} (h:¬ (0≤x.rule∧x.rule < g.Aa.length)):fits g x v=false:=by
 rw[Zf1];by_cases h0:0≤x.rule
 ·rw[Hb h0,HI (by omega)]
 ·rw[Ha h0]
theorem ZAD {g:Ac} {x:Tree} {v:Int} {i:Nat} (hi:i < g.Aa.length) (e:x.rule=(i:Int)):fits g x v=(decide (g.Aa[i].left=v) && (decide ((Ab g.Aa[i].right).length=x.Ab.length) && fitss g x.Ab (Ab g.Aa[i].right))):=by
 rw[Zf1,Hb (by omega),e,Hn,Hj hi]
set_option maxHeartbeats 4000000 in
theorem ZAE {t u:Bool} {g:Ac} (hl:g.Aa.length≤100000000) (hr:∀ r∈g.Aa,r.right.length≤100000000):∀ (x:Tree),cnt x≤100000000→∀ {v:Int},Af Tryz.prog 96 [.d (Zbr t g),.d (Zbz u x),I v] [] (B (fits g x v)) []:=by
 refine Tree.ind fun x ih hN v=>?_
 refine Af.intro (n:=62) Tryz.func96 (hw:=?_);simp only[Zal];have hk:=Zdx hN;by_cases h0:x.rule < 0
 ·rw[ZxB (by omega)]
  (try refine wk ?_)
  exact fin
 by_cases h1:(g.Aa.length:Int)≤x.rule
 ·rw[ZxB (by omega)]
  (try refine wk ?_)
  exact fin
 obtain⟨i,hi⟩:∃ i:Nat,x.rule=i:=⟨x.rule.toNat,by omega⟩
 have hlt:i < g.Aa.length:=by omega
 rw[ZAD hlt hi];have hrk:=hr _ (He hlt);have hkl:=Zbj g.Aa[i].right;by_cases h2:g.Aa[i].left=v
 rotate_left
 ·rw[HC h2,Gz]
  (try refine wk ?_)
  exact fin
 rw[Hu h2,H5]
 (try refine wk ?_)
 refine Zab [(3,900)] (hA:=ZcH) (hr:=?_);by_cases h3:((Ab g.Aa[i].right).length:Int)=x.Ab.length
 ·rw[Hu (by omega),H5]
  (try refine wk ?_)
  refine Zak (X:=Nat) (fun j=>j≤x.Ab.length∧fitss g x.Ab (Ab g.Aa[i].right)=fitss g (x.Ab.drop j) ((Ab g.Aa[i].right).drop j)) (fun j=>[(48,I j),(47,I x.Ab.length),(46,.d (Zan u x.Ab)),(7,.own 900 (Ab g.Aa[i].right).length),(4,.ptr 4 0),(3,.ptr 3 0)]) (fun _=>[(3,ZaE t g),(4,.box 56 [.d (iD x.rule),.d (Zan u x.Ab)]),(900,.row 3 1 ((Ab g.Aa[i].right).map iD))]) (fun j=>x.Ab.length - j) 0 ⟨Hh _,rfl⟩ ?_;rintro j ⟨hj,hq⟩;by_cases hjl:j < x.Ab.length
  ·have hjl':j < (Ab g.Aa[i].right).length:=by omega
   have hs:=Zu8 (g:=g) (k:=x.Ab) (vs:=Ab g.Aa[i].right) hjl hjl';have hkc:=ZkK hN hjl
   (try refine wk ?_)
   refine Zab [] (hA:=ih x.Ab[j] (He hjl) hkc.1 (v:=(Ab g.Aa[i].right)[j])) (hr:=?_);cases hf:fits g x.Ab[j] (Ab g.Aa[i].right)[j] with
   | true =>
    rw[hf,H5] at hs
    (try refine wk ?_)
    exact Zad (j+1) (a:=⟨by omega,hq.trans hs⟩)
   | false =>
    rw[hf,Gz] at hs;rw[hq,hs]
    (try refine wk ?_)
    exact fin
  ·rw[hq,ZxO hjl]
   (try refine wk ?_)
   exact fin
 ·rw[HC (by omega),Gz]
  (try refine wk ?_)
  exact fin
theorem ZpN {a:Int}:Af Tryz.prog 166 [I a] [] (B false) []:=by
 refine Af.intro (n:=6) Tryz.func166 (hw:=?_);simp only[Zal]
 (try refine wk ?_)
 have e:(!decide (a=a))=false:=by simp
 exact fin
def cmpI (a b:Int):Int:=if a < b then -1 else if b < a then 1 else 0
theorem ZrL {a b:Int}:Af Tryz.prog 84 [I a,I b] [] (I (cmpI a b)) []:=by
 refine Af.intro (n:=20) Tryz.func84 (hw:=?_);simp only[Zal]
 (try refine wk ?_)
 refine Zab [] (hA:=ZpN) (hr:=?_)
 (try refine wk ?_)
 refine Zab [] (hA:=ZpN) (hr:=?_);by_cases h1:a < b
 ·rw[cmpI,Hb h1]
  (try refine wk ?_)
  exact fin
 ·by_cases h2:b < a
  ·rw[cmpI,Ha h1,Hb h2]
   (try refine wk ?_)
   exact fin
  ·rw[cmpI,Ha h1,Ha h2]
   (try refine wk ?_)
   exact fin
theorem ZkL {t u:Bool} {clos:Nat} {k l:List Tree} (hc:∀ x∈k,∀ y∈l,Af Tryz.prog clos [.d (Zbz t x),.d (Zbz u y)] [] (I (ordT x y)) []) (hk:k.length≤100000000) (hl:l.length≤100000000) :
  Af Tryz.prog 85 [.d (Zan t k),.d (Zan u l),.fn (.func clos) [] []] [] (I (ordL k l)) []:=by
 refine Af.intro (n:=39) Tryz.func85 (hw:=?_);simp only[Zal]
 (try refine wk ?_)
 refine Zak (X:=Nat) (fun i=>i≤k.length∧i≤l.length∧ordL k l=ordL (k.drop i) (l.drop i)) (fun i=>[(13,I i),(12,I k.length),(11,.d (Zan t k)),(2,.fn (.func clos) [] []),(1,.d (Zan u l)),(0,.d (Zan t k))]) (fun _=>[]) (fun i=>k.length - i) 0 ⟨Hh _,Hh _,rfl⟩ ?_;rintro i ⟨h1,h2,h3⟩;by_cases hlt:i < k.length
 ·by_cases hlt':i < l.length
  ·have hs:=Zp0 hlt hlt'
   (try refine wk ?_)
   refine Zab [] (hA:=hc k[i] (He hlt) l[i] (He hlt')) (hr:=?_);by_cases h0:ordT k[i] l[i]=0
   ·rw[Hb h0] at hs
    (try refine wk ?_)
    exact Zad (i+1) (a:=⟨by omega,by omega,h3.trans hs⟩)
   ·rw[Ha h0] at hs;rw[h3,hs]
    (try refine wk ?_)
    exact fin
  ·rw[h3,ZxR hlt hlt']
   (try refine wk ?_)
   exact fin
 ·by_cases hlt':i < l.length
  ·rw[h3,ZxQ hlt hlt']
   (try refine wk ?_)
   exact fin
  ·rw[h3,Zto hlt hlt']
   (try refine wk ?_)
   exact fin
theorem ZxC {t u:Bool}:∀ (x:Tree),cnt x≤100000000→∀ (y:Tree),cnt y≤100000000→Af Tryz.prog 49 [.d (Zbz t x),.d (Zbz u y)] [] (I (ordT x y)) []:=by
 refine Tree.ind fun x ih hx y hy=>?_
 refine Af.intro (n:=19) Tryz.func49 (hw:=?_);simp only[Zal];rw[ZxP]
 (try refine wk ?_)
 refine Zab [] (hA:=ZrL (a:=x.rule) (b:=y.rule)) (hr:=?_);by_cases h1:x.rule < y.rule
 ·rw[Hb h1,cmpI,Hb h1]
  (try refine wk ?_)
  exact fin
 ·by_cases h2:y.rule < x.rule
  ·rw[Ha h1,Hb h2,cmpI,Ha h1,Hb h2]
   (try refine wk ?_)
   exact fin
  ·have hih:∀ a∈x.Ab,∀ b∈y.Ab,Af Tryz.prog 49 [.d (Zbz t a),.d (Zbz u b)] [] (I (ordT a b)) []:=fun a ha b hb=>ih a ha (by have:=Zbn ha;have:=ZcB x;omega) b (by have:=Zbn hb;have:=ZcB y;omega)
   rw[Ha h1,Ha h2,cmpI,Ha h1,Ha h2]
   (try refine wk ?_)
   refine Zab [] (hA:=ZkL hih (Zdx hx) (Zdx hy)) (hr:=?_)
   (try refine wk ?_)
   exact fin
theorem ZkM {t u:Bool}:∀ (x:Tree),cnt x≤100000000→∀ (y:Tree),cnt y≤100000000→Af Tryz.prog 50 [.d (Zbz t x),.d (Zbz u y)] [] (I (ordT x y)) []:=by
 refine Tree.ind fun x ih hx y hy=>?_
 refine Af.intro (n:=59) Tryz.func50 (hw:=?_);simp only[Zal];rw[ZxP];have hk:=Zdx hx;have hl:=Zdx hy;by_cases h1:x.rule < y.rule
 ·rw[Hb h1]
  (try refine wk ?_)
  exact fin
 by_cases h2:y.rule < x.rule
 ·rw[Ha h1,Hb h2]
  (try refine wk ?_)
  exact fin
 rw[Ha h1,Ha h2]
 (try refine wk ?_)
 refine Zak (X:=Nat) (fun i=>i≤x.Ab.length∧i≤y.Ab.length∧ordL x.Ab y.Ab=ordL (x.Ab.drop i) (y.Ab.drop i)) (fun i=>[(5,I i),(3,.ptr 3 0),(2,.ptr 2 0)]) (fun _=>[(2,.box 56 [.d (iD x.rule),.d (Zan t x.Ab)]),(3,.box 56 [.d (iD y.rule),.d (Zan u y.Ab)])]) (fun i=>x.Ab.length - i) 0 ⟨Hh _,Hh _,rfl⟩ ?_;rintro i ⟨h1,h2,h3⟩;by_cases hlt:i < x.Ab.length
 ·by_cases hlt':i < y.Ab.length
  ·have hs:=Zp0 hlt hlt'
   (try refine wk ?_)
   refine Zab [] (hA:=ih x.Ab[i] (He hlt) (ZkK hx hlt).1 y.Ab[i] (ZkK hy hlt').1) (hr:=?_);by_cases h0:ordT x.Ab[i] y.Ab[i]=0
   ·rw[Hb h0] at hs
    (try refine wk ?_)
    exact Zad (i+1) (a:=⟨by omega,by omega,h3.trans hs⟩)
   ·rw[Ha h0] at hs;rw[h3,hs]
    (try refine wk ?_)
    exact fin
  ·rw[h3,ZxR hlt hlt']
   (try refine wk ?_)
   exact fin
 ·by_cases hlt':i < y.Ab.length
  ·rw[h3,ZxQ hlt hlt']
   (try refine wk ?_)
   exact fin
  ·rw[h3,Zto hlt hlt']
   (try refine wk ?_)
   exact fin
theorem ZpO {t u:Bool} {x y:Tree} (hx:cnt x≤100000000:=by exact Vm) (hy:cnt y≤100000000:=by exact Vm):Af Tryz.prog 34 [.d (Zbz t x),.d (Zbz u y)] [] (B (decide (ordT x y=0))) []:=by
 refine Af.intro (n:=9) Tryz.func34 (hw:=?_);simp only[Zal]
 (try refine wk ?_)
 refine Zab [] (hA:=ZkM x hx y hy) (hr:=?_)
 (try refine wk ?_)
 exact fin
theorem ZnV {t u:Bool} {l:List Tree} (hN:cnts l≤100000000):Af Tryz.prog 20 [.d (Zan t l),.d (Zan u l)] [] (B true) []:=by
 have hl:=Hq (Zcb l) hN;refine Af.intro (n:=27) Tryz.func20 (hw:=?_);simp only[Zal]
 (try refine wk ?_)
 refine Zak (X:=Nat) (fun x=>x≤l.length) (fun x=>[(5,I x),(0,.d (Zan t l)),(1,.d (Zan u l))]) (fun _=>[]) (fun x=>l.length - x) 0 (Hh _) ?_;intro i h1;by_cases hlt:i < l.length
 ·have e3:=Zbn (He hlt);have s1:=ZpO (t:=t) (u:=u) (x:=l[i]) (y:=l[i]) (by omega) (by omega);rw[ZkY,Hu rfl] at s1
  (try refine wk ?_)
  refine Zab [] (hA:=s1) (hr:=?_)
  (try refine wk ?_)
  exact Zad (i+1)
 ·(try refine wk ?_)
  exact fin
theorem Zmy (k:Nat):ZaF (k+1)=ZaF k++[.mk 2 k []]:=by simp[ZaF,Gn]
theorem ZgZ (t:Bool) (k:Nat):(ZaF (k+1)).map (ZaN t)=(ZaF k).map (ZaN t)++[.agg [iD 2,iD k,.sl t 3 []]]:=by rw[Zmy];simp[ZaN,ZeD]
theorem ZxD (t:Bool) (r:Int) (k:Nat):(ZaJ r k).map (ZaN t)=[.agg [iD 1,iD r,Zah t (ZaF k)]]:=by simp[ZaJ,ZaN,Zcq]
theorem ZAF {u:List Int} {n:Int} (hn:n.toNat < u.length):(u.map iD).set n.toNat (iD (u[n.toNat]+1))=(bump u n).map iD:=by
 rw[bump,GN,Hf,Hj hn];rfl
theorem Zft {t u:Bool} {g:Ac} {x:Tree} {v:Int} (hl:g.Aa.length≤100000000) (hr:∀ r∈g.Aa,r.right.length≤100000000) (hx:cnt x≤100000000) :
  Af Tryz.prog 58 [.d (Zbr t g),.d (Zbz u x),I v] [] (.d (Zbu (ZaB g x v))) []:=by
 refine Af.intro (n:=25) Tryz.func58 (hw:=?_);simp only[Zal]
 (try refine wk ?_)
 refine Zab [] (hA:=ZaT) (hr:=?_);by_cases h0:(Zac g).code=0
 ·rw[show ZaB g x v=if cnt x≤400 then (if fits g x v=true then ⟨0,0⟩ else ⟨13, -1⟩) else ⟨6, -1⟩ by rw[ZaB,Hb h0]]
  (try refine wk ?_)
  refine Zab [] (hA:=ZAC x hx (m:=400) (by omega)) (hr:=?_);by_cases h4:cnt x≤400
  ·rw[Hb h4,show ZgD ((400:Nat):Int) (cnt x)=((400 - cnt x:Nat):Int) by unfold ZgD;rw[Hb (by omega)];omega]
   (try refine wk ?_)
   refine Zab [] (hA:=ZAE hl hr x hx (v:=v)) (hr:=?_);cases hf:fits g x v with
   | true =>
    rw[Hb rfl]
    (try refine wk ?_)
    exact fin
   | false =>
    rw[Ha (by simp)]
    (try refine wk ?_)
    exact fin
  ·rw[Ha h4,show ZgD ((400:Nat):Int) (cnt x) = -1 by unfold ZgD;rw[Ha (by omega)]]
   (try refine wk ?_)
   exact fin
 ·rw[show ZaB g x v=Zac g by rw[ZaB,Ha h0]]
  (try refine wk ?_)
  exact fin
theorem ZkN {t:Bool}:∀ (x:Tree),cnt x≤100000000→Af Tryz.prog 47 [.d (Zbz t x)] [] (.d (Zbz false x)) []:=by
 refine Tree.ind fun x ih hx=>?_
 refine Af.intro (n:=25) Tryz.func47 (hw:=?_);simp only[Zal];have hk:=Zdx hx
 (try refine wk ?_)
 refine ZaD 3 1 900 56 2 rfl rfl rfl rfl ?_;refine Zak (X:=Nat) (fun i=>i≤x.Ab.length) (fun i=>[(12,I i),(11,I x.Ab.length),(10,.d (Zan t x.Ab)),(3,.ptr 3 0),(2,.ptr 2 0),(1,.ptr 1 0)]) (fun i=>[(1,.box 56 [.d (iD x.rule),.d (Zan t x.Ab)]),(2,.box 56 [.d (iD 0),.d (.raw (.slice none 0 0))]),(3,.box 56 [.d (iD x.rule),.own 900 (x.Ab.take i).length]),(900,.row 56 2 ((x.Ab.take i).map (ZaV false)))]) (fun i=>x.Ab.length - i) 0 (Hh _) ?_;intro i hi;by_cases hlt:i < x.Ab.length
 ·have e:(x.Ab.take (i+1)).map (ZaV false)=(x.Ab.take i).map (ZaV false)++[Zbz false x.Ab[i]]:=by
   rw[HD hlt,Ho];simp[Zdz]
  (try refine wk ?_)
  refine Zab [] (hA:=ih x.Ab[i] (He hlt) (ZkK hx hlt).1) (hr:=?_)
  (try refine wk ?_)
  exact Zad (i+1)
 ·rw[show x.Ab.take i=x.Ab from H6 (by omega)];refine Zaz 900 rfl ?_
  (try refine wk ?_)
  exact fin
theorem ZAG {t u:Bool} {g:Ac} (hg:g.ok):∀ (x:Tree) (v:Int),fits g x v=true→cnt x≤400→∀ out:List Int,out.length+10 * cnt x≤1000000 →
  Af Tryz.prog 181 [.d (Zbr t g),.d (Zbz u x),.own 1000 out.length] [(1000,.row 3 1 (out.map iD))] (.own 1000 (out++Zbo g x).length) [(1000,.row 3 1 ((out++Zbo g x).map iD))]:=by
 refine Tree.ind fun x ih v hf hx out ho=>?_
 refine Af.intro (n:=41) Tryz.func181 (hw:=?_);simp only[Zal];obtain⟨i,hi,e1,e2,e3,e4,e5⟩:=ZaR hf;have hk:=Zdx hx;have hlen:=hg.Aa;have hrt:=hg.right _ (He hi);have hwl:=Zj2 10 hg.right x
 (try refine wk ?_)
 refine Zak (X:=Nat×Nat×List Int) (fun y=>y.1≤g.Aa[i].right.length∧y.2.1=(Ab (g.Aa[i].right.take y.1)).length∧Zbo g x=y.2.2++wordL g (g.Aa[i].right.drop y.1) (x.Ab.drop y.2.1)∧y.2.2.length≤y.1+10 * cnts (x.Ab.take y.2.1))
  (fun y=>[(18,I y.1),(17,I g.Aa[i].right.length),(16,.d (ints t g.Aa[i].right)),(7,I y.2.1),(4,.ptr 4 0),(3,.ptr 3 0),(2,.own 1000 (out++y.2.2).length)])
  (fun y=>[(3,ZaE t g),(4,.box 56 [.d (iD x.rule),.d (Zan u x.Ab)]),(1000,.row 3 1 ((out++y.2.2).map iD))]) (fun y=>g.Aa[i].right.length - y.1) (0,0,[]) ⟨Hh _,by simp[Ab],by simpa using e5,by simp⟩ ?_
 rintro⟨j,q,pre⟩ ⟨h1,h2,h3,h4⟩;dsimp only at h1 h2 h3 h4 ⊢;have hpl:(Zbo g x).length=pre.length+(wordL g (g.Aa[i].right.drop j) (x.Ab.drop q)).length:=by rw[h3,Hk]
 have hol:(out++pre).length=out.length+pre.length:=Hk;by_cases hlt:j < g.Aa[i].right.length
 ·have hlo:=hg.lo _ (He hi) _ (He hlt);have hte:=hg.terms;by_cases hs:g.Aa[i].right[j] < 0
  ·rw[Zzm hlt hs,Hl] at hpl;rw[Zzm hlt hs] at h3;have e:=Zhu g.Aa[i].right j hlt;rw[Zns hs,Ht] at e
   (try refine wk ?_)
   exact Zad (j+1,q,pre++[-1 - g.Aa[i].right[j]]) (a:=⟨by omega,by dsimp only;rw[e];exact h2,by simpa using h3,by simp;omega⟩) (b:=by dsimp only;omega)
  ·have hq:q < x.Ab.length:=by have:=ZqU hlt hs;omega
   have hq2:q < (Ab g.Aa[i].right).length:=by omega
   have e:=Zhu g.Aa[i].right j hlt;rw[Znr (by omega)] at e;have hfk:=Zbv e4 hq hq2;have hkl:=ZkK hx hq;rw[Zzn hlt hs hq,Hk] at hpl;rw[Zzn hlt hs hq] at h3;have hc1:=ZcB x;have hc2:=ZkX hq;have hc3:=ZpZ hq;have hc4:cnts x.Ab=cnts (x.Ab.take q)+cnts (x.Ab.drop q):=by rw[←ZaK,Gh]
   have hc5:=Zj2 10 hg.right x.Ab[q];have hol2:(out++pre).length+10 * cnt x.Ab[q]≤1000000:=by omega
   (try refine wk ?_)
   refine Zab [] (hA:=ih x.Ab[q] (He hq) _ hfk hkl.1 (out++pre) hol2) (hr:=?_)
   (try refine wk ?_)
   exact Zad (j+1,q+1,pre++Zbo g x.Ab[q]) (a:=⟨by omega,by dsimp only;rw[e,Hk];simp;omega,by simpa using h3,by simp only[Hk];omega⟩) (b:=by dsimp only;omega)
 ·rw[Zzo hlt,Ht] at h3
  (try refine wk ?_)
  rw[h3];exact fin
theorem ZxE {t u:Bool} {g:Ac} {x:Tree} {v:Int} (hg:g.ok) (hf:fits g x v=true) (hx:cnt x≤400) :
  Af Tryz.prog 181 [.d (Zbr t g),.d (Zbz u x),.d (.raw (.slice none 0 0))] [] (.own 900 (Zbo g x).length) [(900,.row 3 1 ((Zbo g x).map iD))] :=
 Af.nilArg (pre:=[Zbr t g,Zbz u x]) (post:=[]) (ZAG hg x v hf hx [] (by simp;omega))
theorem Zfu {r:Int} {k:Nat} (hk:k≤100000000:=by exact Vm):Af Tryz.prog 120 [I r,I k] [] (.own 20 1) [(20,.row 102 3 ((ZaJ r k).map (ZaN false)))]:=by
 refine Af.intro (n:=21) Tryz.func120 (hw:=?_);simp only[Zal]
 (try refine wk ?_)
 refine ZbB 5 900 102 3 rfl rfl rfl ?_;refine Zak (X:=Nat) (fun x=>x≤k) (fun x=>[(8,I x),(7,I k),(0,I r),(5,.own 900 (ZaF x).length)]) (fun x=>[(900,.row 102 3 ((ZaF x).map (ZaN false)))]) (fun x=>k - x) 0 (Hh _) ?_;intro i h1;have hh:(ZaF i).length=i:=by simp[ZaF]
 by_cases hlt:i < k
 ·have e:=ZgZ false i;have e':(ZaF (i+1)).length=(ZaF i).length+1:=by rw[Zmy];simp
  (try refine wk ?_)
  exact Zad (i+1)
 ·obtain rfl:i=k:=by omega
  rw[ZxD]
  (try refine wk ?_)
  exact fin
abbrev Zci (t:Bool) (s:Step):Ob:=.box 39 [.d (iD s.g.vars),.d (iD s.g.terms),.d (iD s.g.start),.d (ZaS t s.g.Aa),.d (.sl t 1 (s.frags.map (Zah t))),.d (Zan t s.empty)]
theorem ZpP {t u:Bool} {g:Ac} {x:Tree} (hl:g.Aa.length≤100000000) (hr:∀ r∈g.Aa,r.right.length≤100000000) (hx:cnt x≤100000000) :
  Af Tryz.prog 103 [.d (Zbr t g),.d (Zbz u x)] [] (.tup [.d (ints false (Zzp g x)),.d (Zbu (ZaB g x g.start))]) []:=by
 refine Af.intro (n:=20) Tryz.func103 (hw:=?_);simp only[Zal];refine VA ?_;refine Zab [] (hA:=Zft hl hr hx) (hr:=?_);by_cases h0:(ZaB g x g.start).code=0
 ·obtain⟨hg,h1,h2,h3⟩:=ZgO h0;refine VA ?_;refine Zab [] (hA:=ZxE hg h2 h1) (hr:=?_);rw[Zzp,Hb h0,h3];repeat (first|refine wkr ?_|refine Zaa (hr:=?_))
  refine Zaz 900 rfl ?_;refine VA ?_;exact fin
 ·rw[Zzp,Ha h0];refine VA ?_;exact fin
def againG:Ac:=⟨1,2,0,[⟨0,[0, -1]⟩,⟨0,[-2]⟩]⟩
theorem ZkO:Af Tryz.prog 35 [] [] (.d (Zbr false againG)) []:=by
 refine Af.intro (n:=7) Tryz.func35 (hw:=?_);simp only[Zal];repeat (first|refine wkr ?_|refine Zaa (hr:=?_))
 refine Zaz 5 rfl ?_;refine VA ?_;exact fin
end Go.Proofs.YtbpmepgnjanhnaaGreat
