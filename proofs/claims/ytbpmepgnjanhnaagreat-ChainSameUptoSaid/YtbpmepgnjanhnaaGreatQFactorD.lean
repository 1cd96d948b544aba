import Derived.Test.YtbpmepgnjanhnaaGreatQFactorB
import Derived.Test.YtbpmepgnjanhnaaGreatQConc
set_option linter.unusedVariables false
set_option linter.unusedSimpArgs false
set_option linter.unusedSectionVars false
set_option maxHeartbeats 8000000
set_option maxRecDepth 100000
namespace Go.Proofs.YtbpmepgnjanhnaaGreat
open Go.RowKit
theorem Fac.next_inv {V:Nat} {all:List (List Ae)} {v:Nat} {r:Except Nat (List (List Ae))} (h:Fac V all v r) (hv:v < all.length) (hg:Zas (all.getD v []) 0=[]):Fac V all (v+1) r:=by
 cases h with
 | done h=>exact absurd hv h
 | next _ _ hr=>exact hr
 | many _ h _=>exact absurd hg h
 | one _ h _ _=>exact absurd hg h
theorem Fac.many_inv {V:Nat} {all:List (List Ae)} {v:Nat} {r:Except Nat (List (List Ae))} (h:Fac V all v r) (hv:v < all.length) (hg:Zas (all.getD v []) 0≠[]) (hm:64 < (oneW V all v (Zas (all.getD v []) 0)).length):r=.error v:=by
 cases h with
 | done h=>exact absurd hv h
 | next _ h _=>exact absurd h hg
 | many _ _ _=>rfl
 | one _ _ h _=>exact absurd hm h
theorem Fac.one_inv {V:Nat} {all:List (List Ae)} {v:Nat} {r:Except Nat (List (List Ae))} (h:Fac V all v r) (hv:v < all.length) (hg:Zas (all.getD v []) 0≠[]) (hm:¬ 64 < (oneW V all v (Zas (all.getD v []) 0)).length):Fac V (oneW V all v (Zas (all.getD v []) 0)) v r:=by
 cases h with
 | done h=>exact absurd hv h
 | next _ h _=>exact absurd h hg
 | many _ _ h=>exact absurd h hm
 | one _ _ _ hr=>exact hr
theorem Fac.done_inv {V:Nat} {all:List (List Ae)} {v:Nat} {r:Except Nat (List (List Ae))} (h:Fac V all v r) (hv:¬ v < all.length):r=.ok all:=by
 cases h with
 | done _=>rfl
 | next h _ _=>exact absurd h hv
 | many h _ _=>exact absurd h hv
 | one h _ _ _=>exact absurd h hv
def Wide (all:List (List Ae)):Prop:=∀ l∈all,l.length≤160
theorem Wide.get {all:List (List Ae)} (h:Wide all) (v:Nat):(all.getD v []).length≤160:=by
 rw[Hf];by_cases hv:v < all.length
 ·rw[Hj hv];exact h _ (He hv)
 ·rw[HI (by omega)];simp
theorem Wide.one {V:Nat} {all:List (List Ae)} {v:Nat} {at_:List Int} (h:Wide all):Wide (oneW V all v at_):=by
 intro l hl;have hv:=h.get v;rcases List.mem_append.1 hl with hl|hl
 ·rcases GU hl with hl|rfl
  ·exact h l hl
  ·exact Hq (ZfU _ _) hv
 ·rw[List.mem_singleton.1 hl,Hi];exact Hq (ZfY _ _) hv
theorem Zxg (g:Ac) (v:Int):(by_ g v).length≤g.Aa.length:=Zpb v g.Aa 0
theorem ZuZ {g:Ac} (hg:g.ok):Wide (Za5 g):=by
 intro l hl;obtain⟨v,_,rfl⟩:=List.mem_map.1 hl;have:=Zxg g v;have:=hg.Aa;rw[Zcx,Hi];omega
def finC (z:List (List Ae)) (v:Nat) (l:List Ae) (R:List Rule) (F:List (List Ad)):Except Nat (List Rule×List (List Ad)):=match finL v l R F with
 | none=>.error v
 | some x=>finW (z.drop (v+1)) (v+1) x.1 x.2
theorem ZCy {z:List (List Ae)} {v:Nat} (h:v < z.length) (R:List Rule) (F:List (List Ad)):finW (z.drop v) v R F=finC z v z[v] R F:=by
 rw[Hw h,finW,finC];cases finL v z[v] R F <;> rfl
theorem ZAi (z:List (List Ae)) (v:Nat) (R:List Rule) (F:List (List Ad)):finC z v [] R F=finW (z.drop (v+1)) (v+1) R F:=by rw[finC,finL]
theorem Zxh {z:List (List Ae)} {v:Nat} {l:List Ae} {i:Nat} (h:i < l.length) {R:List Rule} {F:List (List Ad)} (hm:R.length=160∨10 < l[i].right.length):finC z v (l.drop i) R F=.error v:=by
 rw[finC,Hw h,finL,Hb hm]
theorem Zxi {z:List (List Ae)} {v:Nat} {l:List Ae} {i:Nat} (h:i < l.length) {R:List Rule} {F:List (List Ad)} (hm:¬ (R.length=160∨10 < l[i].right.length)):finC z v (l.drop i) R F=finC z v (l.drop (i+1)) (R++[⟨(v:Int),l[i].right⟩]) (F++[l[i].l]):=by
 rw[finC,Hw h,finL,Ha hm,finC]
abbrev ZET (g:Ac) (n:Nat):Ob:=.box 177 [.d (iD g.vars),.d (iD g.terms),.d (iD g.start),.d (ZaS false g.Aa),.own 901 n]
abbrev fmH (g:Ac) (all:List (List Ae)):Hp:=[(1,ZaE false g),(2,Zci false Ag),(3,.box 31 [.d (iD 0),.d (iD 0)]),(25,ZET g all.length),(901,.row 178 1 (all.map (Zat false)))]
abbrev fmF:Fr:=[(1,.ptr 1 0),(2,.ptr 2 0),(3,.ptr 3 0),(5,.ptr 25 0)]
theorem ZlS {g:Ac} (hf:g.fit) {r:Except Nat (List (List Ae))} (hr:(Zac g).code=0→Fac g.vars.toNat (Za5 g) 0 r) :
  Af Tryz.prog 71 [.d (Zbr false g)] [] (.tup [.d (ZdG false (ZbM g r).1),.d (Zbu (ZbM g r).2)]) []:=by
 refine Af.intro (n:=155) Tryz.func71 (hw:=?_);simp only[Zal];have hr1:=hf.Aa;have hr2:=hf.right;refine VA ?_;refine Zab [] (hA:=ZaT) (hr:=?_);by_cases hc:(Zac g).code=0
 rotate_left
 ·rw[show ZbM g r=(Ag,Zac g) by rw[ZbM,Ha hc]];refine VA ?_;exact fin2
 have hr:=hr hc;have hg:=Zbd hc;rw[show ZbM g r=ZbR g r by rw[ZbM,Hb hc]];have hv:=hg.vars;have hv1:=hg.vars1;have hr160:=hg.Aa;have hI:=ZkB hg;have hW:=ZuZ hg;have hSl:=Zbm g;obtain⟨N,hN⟩:∃ N:Nat,g.vars=(N:Int):=⟨g.vars.toNat,by omega⟩
 have hNt:g.vars.toNat=N:=by omega
 rw[hNt] at hSl;refine VA ?_;refine ZaD 25 4 901 178 1 rfl rfl rfl rfl ?_;refine Zak (X:=Nat) (fun v=>v≤N) (fun v=>(28,I v)::(27,.d (iD g.vars))::fmF) (fun v=>fmH g ((Za5 g).take v)) (fun v=>N - v) 0 (Hh _) ?_
 ·intro v hvN;have htl:((Za5 g).take v).length=v:=by simp;omega
  by_cases hvl:v < N
  ·have hsn:(Za5 g).take (v+1)=(Za5 g).take v++[Zcx g v]:=by
    have e:=Zb4 (g:=g) (v:=v) (by omega);rw[Hf,Hj (by omega)] at e;rw[HD (by omega)];congr 2
   have hbl:=Zxg g (v:Int);have hby:=fun r hr=>ZkA (g:=g) (v:=v) (r:=r) hr
   refine VA ?_;refine Zab [(5,933)] (hA:=Zmd) (hr:=?_);refine VA ?_;have hwk:Zcx g v=(by_ g v).map fun r=>⟨(ZdN g r).right,ZaJ r (Ab (ZdN g r).right).length⟩:=rfl
   rw[hwk] at hsn;generalize by_ g v=bs at *;generalize (Za5 g).take v=SW at *;generalize hmk:(fun r=>(⟨(ZdN g r).right,ZaJ r (Ab (ZdN g r).right).length⟩:Ae))=mk at *;refine ZbB 7 907 181 2 rfl rfl rfl ?_;refine Zak (X:=Nat) (fun j=>j≤bs.length) (fun j=>(35,I j)::(34,I bs.length)::(33,.own 933 bs.length)::(7,.own 907 ((bs.take j).map mk).length)::(6,I v)::(28,I v)::(27,.d (iD g.vars))::fmF)
    (fun j=>(933,.row 3 1 (bs.map iD))::(907,.row 181 2 (((bs.take j).map mk).map (Zbq false)))::fmH g SW) (fun j=>bs.length - j) 0 (Hh _) ?_
   intro j hj;have hTl:((bs.take j).map mk).length=j:=by simp;omega
   by_cases hjl:j < bs.length
   ·obtain⟨m,hm,hbm,_,hra⟩:=hby _ (He hjl);have hrm:=hg.right _ (He hm);have hkl:=Zbj g.Aa[m].right;have hfk:=ZpR (t:=false) (xs:=g.Aa[m].right) (by omega);have hno:=Zfu (r:=bs[j]) (k:=(Ab g.Aa[m].right).length) (by omega);have hmkj:mk bs[j]=⟨g.Aa[m].right,ZaJ bs[j] (Ab g.Aa[m].right).length⟩:=(by rw[←hmk];simp only[hra]);have e1:((bs.take j).map mk).map (Zbq false)++[D.agg [ints false g.Aa[m].right,Zah false (ZaJ bs[j] (Ab g.Aa[m].right).length)]]=((bs.take (j+1)).map mk).map (Zbq false):=by
     rw[HD hjl,Ho,Ho];simp[hmkj,Zbq]
    generalize (bs.take j).map mk=WK at *;refine VA ?_;refine ZaW [] (hA:=hfk) (hr:=?_);refine VA ?_;refine ZaW [(20,921)] (hA:=hno) (hr:=?_);refine VA ?_;rw[e1];exact Zad (j+1)
   ·obtain rfl:j=bs.length:=(by omega);rw[HO];have e1:SW.map (Zat false)++[Zat false (bs.map mk)]=((Za5 g).take (v+1)).map (Zat false):=(by rw[hsn];simp);have e2:((Za5 g).take (v+1)).length=SW.length+1:=(by rw[hsn];simp);generalize bs.map mk=WK at *;refine VA ?_;rw[e1,Hi];exact Zad (v+1)
  ·obtain rfl:N=v:=by omega
   have hall:(Za5 g).take N=Za5 g:=H6 (by omega);rw[hall];clear htl hall;rw[hNt] at hr;refine VA ?_;refine Zak (X:=Nat×List (List Ae)) (fun x=>Fac N x.2 x.1 r∧FInv g x.2 x.1∧Wide x.2∧x.1≤x.2.length) (fun x=>(10,I x.1)::fmF) (fun x=>fmH g x.2) (fun x=>65 - x.1) (0,Za5 g) ⟨hr,hI,hW,Hh _⟩ ?_;rintro⟨v,all⟩ ⟨k1,k2,k3,k4⟩;dsimp only at k1 k2 k3 k4 ⊢;have kl:=k2.len;by_cases hva:v < all.length
   ·refine VA ?_;refine Zak (X:=List (List Ae)) (fun x=>Fac N x v r∧FInv g x v∧Wide x∧v < x.length) (fun x=>(10,I v)::fmF) (fun x=>fmH g x) (fun x=>(x.getD v []).length) all ⟨k1,k2,k3,hva⟩ ?_;clear k1 k2 k3 k4 kl hva;rintro all ⟨k1,k2,k3,hva⟩;have kl:=k2.len;by_cases hgr:Zas (all.getD v []) 0=[]
    ·have hone:=ZDZ (v:=v) hva k2 k3 hgr;refine VA ?_;refine Zab [(1000,25),(1001,901)] (hA:=hone) (hr:=?_);refine VA ?_;exact Zad (v+1,all) (a:=⟨k1.next_inv hva hgr,k2.next hgr,k3,by dsimp only;omega⟩) (b:=by dsimp only;omega)
    ·have hone:=ZCx (v:=v) hg hva k2 k3 hgr;have hlen:=ZgW N all v (Zas (all.getD v []) 0);have hwide:=k3.one (V:=N) (v:=v) (at_:=Zas (all.getD v []) 0);rw[hNt] at hone;by_cases hm:64 < (oneW N all v (Zas (all.getD v []) 0)).length
     ·have hre:=k1.many_inv hva hgr hm;rw[hre,show ZbR g (.error v)=(Ag,⟨6,(v:Nat)⟩) from rfl];generalize oneW N all v (Zas (all.getD v []) 0)=A at *;refine VA ?_;refine Zab [(1000,25),(1001,901)] (hA:=hone) (hr:=?_);refine VA ?_;exact fin2
     ·have hf2:=k1.one_inv hva hgr hm;have hi2:=k2.one hg hva hgr (by rw[hNt];exact hm);rw[hNt] at hi2;generalize oneW N all v (Zas (all.getD v []) 0)=A at *;refine VA ?_;refine Zab [(1000,25),(1001,901)] (hA:=hone) (hr:=?_);refine VA ?_;exact Zad A (a:=⟨hf2,hi2.1,hwide,by omega⟩) (b:=hi2.2)
   ·have hre:=k1.done_inv hva;obtain rfl:v=all.length:=(by omega);rw[hre];generalize all=z at *;have hend:∀ x,finW z 0 [] []=x→ZbR g (.ok z)=(match x with
     | .error v=>(Ag,⟨6,(v:Nat)⟩)
     | .ok x=>(⟨⟨(z.length:Nat),g.terms,g.start,x.1⟩,x.2,[]⟩,⟨0,0⟩)):=fun x hx=>by
      rw[ZbR];simp only[hx];cases x <;> rfl
    refine VA ?_;refine ZaD 11 3 903 68 2 rfl rfl rfl rfl ?_;refine ZaD 11 4 904 75 1 rfl rfl rfl rfl ?_;refine Zak (X:=Nat×List Rule×List (List Ad)) (fun x=>x.1≤z.length∧finW z 0 [] []=finW (z.drop x.1) x.1 x.2.1 x.2.2∧x.2.1.length≤160∧x.2.2.length=x.2.1.length)
     (fun x=>[(107,I x.1),(106,I z.length),(105,.own 901 z.length),(11,.ptr 11 0),(2,.ptr 2 0),(3,.ptr 3 0)])
     (fun x=>[(2,Zci false Ag),(3,.box 31 [.d (iD 0),.d (iD 0)]),(901,.row 178 1 (z.map (Zat false))),(11,.box 39 [.d (iD (z.length:Nat)),.d (iD g.terms),.d (iD g.start),.own 903 x.2.1.length,.own 904 x.2.2.length,.d nilT]),(903,.row 68 2 (x.2.1.map (Za3 false))),(904,.row 75 1 (x.2.2.map (Zah false)))])
     (fun x=>z.length - x.1) (0,[],[]) ⟨Hh _,rfl,by simp,rfl⟩ ?_
    rintro⟨v,R,F⟩ ⟨m1,m2,m3,m4⟩;dsimp only at m1 m2 m3 m4 ⊢;by_cases hvz:v < z.length
    ·have hzl:=k3 _ (He hvz);have hzo:=k2.ok _ (He hvz);rw[ZCy hvz] at m2;generalize hl:z[v]=l at *;refine VA ?_;rw[hl];refine VA ?_;refine Zak (X:=Nat×List Rule×List (List Ad)) (fun x=>x.1≤l.length∧finW z 0 [] []=finC z v (l.drop x.1) x.2.1 x.2.2∧x.2.1.length≤160∧x.2.2.length=x.2.1.length)
      (fun x=>[(114,I x.1),(113,I l.length),(112,.d (Zat false l)),(12,I v),(107,I v),(106,I z.length),(105,.own 901 z.length),(11,.ptr 11 0),(2,.ptr 2 0),(3,.ptr 3 0)])
      (fun x=>[(2,Zci false Ag),(3,.box 31 [.d (iD 0),.d (iD 0)]),(901,.row 178 1 (z.map (Zat false))),(11,.box 39 [.d (iD (z.length:Nat)),.d (iD g.terms),.d (iD g.start),.own 903 x.2.1.length,.own 904 x.2.2.length,.d nilT]),(903,.row 68 2 (x.2.1.map (Za3 false))),(904,.row 75 1 (x.2.2.map (Zah false)))])
      (fun x=>l.length - x.1) (0,R,F) ⟨Hh _,m2,m3,m4⟩ ?_
     clear m1 m2 m3 m4;rintro⟨i,R,F⟩ ⟨m1,m2,m3,m4⟩;dsimp only at m1 m2 m3 m4 ⊢;by_cases hil:i < l.length
     ·have hw:=hzo _ (He hil);have hwl:=hw.len;by_cases hmm:R.length=160∨10 < l[i].right.length
      ·rw[Zxh hil hmm] at m2;rw[hend _ m2];dsimp only;by_cases h160:R.length=160
       ·refine VB ?_;exact fin2
       ·have h10:10 < l[i].right.length:=(by omega);refine VB ?_;exact fin2
      ·rw[Zxi hil hmm] at m2;have h160:¬ R.length=160:=(by omega);have h10:¬ 10 < l[i].right.length:=(by omega);have hcl:=ZcA (t:=false) (xs:=l[i].right) (by omega);have e1:R.map (Za3 false)++[D.agg [D.raw (.int .i64 (v:Int)),ints false l[i].right]]=(R++[(⟨(v:Int),l[i].right⟩:Rule)]).map (Za3 false):=(by simp[Za3,iD]);have e2:F.map (Zah false)++[Zah false l[i].l]=(F++[l[i].l]).map (Zah false):=(by simp);refine VA ?_;refine ZaW [(5,920)] (hA:=hcl) (hr:=?_);refine VA ?_;rw[e1,e2,Hi,Hi];exact Zad (i+1,R++[(⟨(v:Int),l[i].right⟩:Rule)],F++[l[i].l]) (a:=⟨by dsimp only;omega,m2,by simp;omega,by simp;omega⟩)
     ·obtain rfl:i=l.length:=(by omega);rw[GM,ZAi] at m2;refine VA ?_;exact Zad (v+1,R,F) (a:=⟨by dsimp only;omega,m2,m3,m4⟩)
    ·obtain rfl:v=z.length:=(by omega);rw[GM,finW] at m2;rw[hend _ m2];dsimp only;refine Zaz 903 rfl ?_;refine Zaz 904 rfl ?_;refine VA ?_;exact fin2
abbrev tnF:Fr:=[(8,.ptr 53 0),(1,.ptr 1 0),(2,.ptr 2 0),(3,.ptr 3 0)]
abbrev tnH (g:Ac) (all:List (List Ae)) (b:Bool):Hp:=[(1,ZaE false g),(2,Zci false Ag),(3,.box 31 [.d (iD 0),.d (iD 0)]),(53,.box 185 [.own 901 all.length,B b]),(901,.row 186 1 (all.map (Zat false)))]
theorem Zu0 {rs:List Rule}:∀ {i:Nat},(∀ (j:Nat) (h:j < rs.length),j < i→¬ rs[j].right.length=0)→∀ h:i < rs.length,rs[i].right.length=0→rs.findIdx? (fun r=>decide (r.right.length=0))=some i:=fun {i} h1 h h2=>by
 rw[List.findIdx?_eq_some_iff_getElem];exact⟨h,Hu h2,fun j hj=>by simpa using h1 j (by omega) hj⟩
theorem ZrC {rs:List Rule} (h1:∀ (j:Nat) (h:j < rs.length),¬ rs[j].right.length=0):rs.findIdx? (fun r=>decide (r.right.length=0))=none:=by
 rw[List.findIdx?_eq_none_iff];intro r hr;obtain⟨j,hj,rfl⟩:=List.mem_iff_getElem.1 hr;simpa using h1 j hj
theorem ZrD {all:List (List Ae)} {u n:Nat} {l:List Ae}:Zca all u (n+1) l=match ZbJ (all.getD u []) u l [] with
  | none=>none
  | some l'=>Zca all (u+1) n l':=rfl
theorem ZrE {all:List (List Ae)} {l:List Ae} {v:Nat} (h:∀ k∈all,k.length≤160) (hl:l.length≤160):∀ k∈Zbf all l v,k.length≤320:=by
 have ho:(Zcv v l).length≤l.length:=Gd _ _;have hw:(ownW v l).length≤l.length:=by rw[ownW,Hi];exact Gd _ _
 intro k hk;unfold Zbf at hk;split at hk
 ·rcases GU hk with hk|rfl
  ·have:=h k hk;omega
  ·omega
 ·rcases GU hk with hk|rfl
  ·rcases List.mem_append.1 hk with hk|hk
   ·have:=h k hk;omega
   ·rw[List.mem_singleton.1 hk,ZfX];omega
  ·rw[ZfX];omega
theorem Zje {g:Ac} (hf:g.fit) :
  Af Tryz.prog 72 [.d (Zbr false g)] [] (.tup [.d (ZdG false (ZfO g).1),.d (Zbu (ZfO g).2)]) []:=by
 refine Af.intro (n:=196) Tryz.func72 (hw:=?_);simp only[Zal];have hr1:=hf.Aa;have hr2:=hf.right;have hcy:=ZeR (t:=false) hf;by_cases hc:(Zac g).code=0
 rotate_left
 ·rw[show ZfO g=(Ag,Zac g) by rw[ZfO,Ha hc]];generalize Zac g=gf at *;generalize cycL g=cl at *;refine VA ?_;refine Zab [] (hA:=hcy) (hr:=?_);refine VA ?_;exact fin2
 have hg:=Zbd hc;have hgf:=hg.fault;rw[hgf] at hcy;have hcl:(cycL g).length≤100000000:=by
  have h1:=hg.vars;unfold cycL ZfT;rw[Hb hc,Hi];have h2:=Gd (fun (v:Nat)=>has (rowM (ledM false g) v) v) (List.range g.vars.toNat);rw[List.length_range] at h2;omega
 have hts:ZfO g=match Zho g with
  | some i=>(Ag,⟨11,i⟩)
  | none=>if 0 < (cycL g).length then (Ag,⟨10, -1⟩) else
   match ZbF 0 g.vars.toNat (Za5 g) with
   | .error v=>(Ag,⟨6,(v:Nat)⟩)
   | .ok z=>(⟨⟨(z.length:Nat),g.terms,g.start,Zbh z 0⟩,ZaU z,[]⟩,⟨0,0⟩):=by rw[ZfO,Hb hc];rfl
 have hv:=hg.vars;have hv1:=hg.vars1;have hr160:=hg.Aa;generalize hcl':cycL g=cl at *;refine VA ?_;refine Zab [] (hA:=hcy) (hr:=?_);refine VA ?_;refine Zak (X:=Nat) (fun i=>i≤g.Aa.length∧∀ (j:Nat) (h:j < g.Aa.length),j < i→¬ g.Aa[j].right.length=0) (fun i=>[(34,I i),(33,I g.Aa.length),(32,.d (ZaS false g.Aa)),(4,.d (ints false cl)),(1,.ptr 1 0),(2,.ptr 2 0),(3,.ptr 3 0)]) (fun _=>[(1,ZaE false g),(2,Zci false Ag),(3,.box 31 [.d (iD 0),.d (iD 0)])]) (fun i=>g.Aa.length - i) 0 ⟨Hh _,fun j h q=>by omega⟩ ?_;rintro i ⟨hi,hne⟩;by_cases hlt:i < g.Aa.length
 ·by_cases h0:g.Aa[i].right.length=0
  ·have he:Zho g=some i:=Zu0 hne hlt h0;rw[he] at hts;rw[hts];refine VA ?_;exact fin2
  ·refine VA ?_;exact Zad (i+1) (a:=⟨by omega,fun j h q=>by
    by_cases e:j=i
    ·subst e;exact h0
    ·exact hne j h (by omega)⟩)
 ·obtain rfl:i=g.Aa.length:=by omega
  have hne':∀ (j:Nat) (h:j < g.Aa.length),¬ g.Aa[j].right.length=0:=fun j h=>hne j h h
  have he:Zho g=none:=ZrC hne';rw[he] at hts;dsimp only at hts;by_cases hn:0 < cl.length
  ·rw[Hb hn] at hts;rw[hts];refine VA ?_;exact fin2
  rw[Ha hn] at hts;have hI0:=ZgC hg fun r hr=>by
   obtain⟨j,hj,rfl⟩:=List.mem_iff_getElem.1 hr;intro q;exact hne' j hj (by rw[q];rfl)
  have hSl:=Zbm g;obtain⟨N,hN⟩:∃ N:Nat,g.vars=(N:Int):=⟨g.vars.toNat,by omega⟩
  have hNt:g.vars.toNat=N:=by omega
  rw[hNt] at hSl hts;generalize hrr:ZbF 0 N (Za5 g)=r at *;refine VA ?_;refine ZaD 53 0 901 186 1 rfl rfl rfl rfl ?_;refine Zak (X:=Nat) (fun v=>v≤N) (fun v=>(56,I v)::(55,.d (iD g.vars))::tnF) (fun v=>tnH g ((Za5 g).take v) false) (fun v=>N - v) 0 (Hh _) ?_;intro v hvN;have htl:((Za5 g).take v).length=v:=by simp;omega
  by_cases hvl:v < N
  ·have hsn:(Za5 g).take (v+1)=(Za5 g).take v++[Zcx g v]:=by
    have e:=Zb4 (g:=g) (v:=v) (by omega);rw[Hf,Hj (by omega)] at e;rw[HD (by omega)];congr 2
   have hbl:=Zxg g (v:Int);have hby:=fun r hr=>ZkA (g:=g) (v:=v) (r:=r) hr
   refine VA ?_;refine Zab [(5,933)] (hA:=Zmd) (hr:=?_);refine VA ?_;have hwk:Zcx g v=(by_ g v).map fun r=>⟨(ZdN g r).right,ZaJ r (Ab (ZdN g r).right).length⟩:=rfl
   rw[hwk] at hsn;generalize by_ g v=bs at *;generalize (Za5 g).take v=SW at *;generalize hmk:(fun r=>(⟨(ZdN g r).right,ZaJ r (Ab (ZdN g r).right).length⟩:Ae))=mk at *;refine ZbB 10 907 188 2 rfl rfl rfl ?_;refine Zak (X:=Nat) (fun j=>j≤bs.length) (fun j=>(63,I j)::(62,I bs.length)::(61,.own 933 bs.length)::(10,.own 907 ((bs.take j).map mk).length)::(9,I v)::(56,I v)::(55,.d (iD g.vars))::tnF)
    (fun j=>(933,.row 3 1 (bs.map iD))::(907,.row 188 2 (((bs.take j).map mk).map (Zbq false)))::tnH g SW false) (fun j=>bs.length - j) 0 (Hh _) ?_
   intro j hj;have hTl:((bs.take j).map mk).length=j:=by simp;omega
   by_cases hjl:j < bs.length
   ·obtain⟨m,hm,hbm,_,hra⟩:=hby _ (He hjl);have hrm:=hg.right _ (He hm);have hkl:=Zbj g.Aa[m].right;have hcl:=ZcA (t:=false) (xs:=g.Aa[m].right) (by omega);have hki:=ZkQ (t:=false) (xs:=g.Aa[m].right) (by omega);have hno:=Zfu (r:=bs[j]) (k:=(Ab g.Aa[m].right).length) (by omega);have hmkj:mk bs[j]=⟨g.Aa[m].right,ZaJ bs[j] (Ab g.Aa[m].right).length⟩:=(by rw[←hmk];simp only[hra]);have e1:((bs.take j).map mk).map (Zbq false)++[D.agg [ints false g.Aa[m].right,Zah false (ZaJ bs[j] (Ab g.Aa[m].right).length)]]=((bs.take (j+1)).map mk).map (Zbq false):=by
     rw[HD hjl,Ho,Ho];simp[hmkj,Zbq]
    generalize (bs.take j).map mk=WK at *;refine VA ?_;refine ZaW [(5,920)] (hA:=hcl) (hr:=?_);refine VA ?_;refine ZaW [] (hA:=hki) (hr:=?_);refine VA ?_;refine ZaW [(20,921)] (hA:=hno) (hr:=?_);refine VA ?_;rw[e1];exact Zad (j+1)
   ·obtain rfl:j=bs.length:=(by omega);rw[HO];have e1:SW.map (Zat false)++[Zat false (bs.map mk)]=((Za5 g).take (v+1)).map (Zat false):=(by rw[hsn];simp);have e2:((Za5 g).take (v+1)).length=SW.length+1:=(by rw[hsn];simp);generalize bs.map mk=WK at *;refine VA ?_;rw[e1,Hi];exact Zad (v+1)
  ·obtain rfl:N=v:=by omega
   have hall:(Za5 g).take N=Za5 g:=H6 (by omega);rw[hall];clear htl hall;refine VA ?_;refine Zak (X:=Nat×List (List Ae)) (fun x=>x.1≤N∧TInv g x.2∧ZbF x.1 (N - x.1) x.2=r) (fun x=>(101,I x.1)::(100,.d (iD g.vars))::tnF) (fun x=>tnH g x.2 false) (fun x=>N - x.1) (0,Za5 g) ⟨Hh _,hI0,hrr⟩ ?_;rintro⟨v,all⟩ ⟨k1,k2,k3⟩;dsimp only at k1 k2 k3 ⊢;have h64:=k2.len;have hvars:=k2.vars;rw[hNt] at hvars;by_cases hva:v < N
   ·obtain⟨n,hn1⟩:∃ n,N - v=n+1:=⟨N - v - 1,by omega⟩
    rw[hn1,ZbF] at k3;have hn2:n=N - (v+1):=(by omega);subst hn2;have hgv:all.getD v []=all[v]:=(by rw[Hf,Hj (by omega)];rfl);have hok0:∀ w∈all[v],TOk g 60 10 all.length true w:=fun w hw=>by
     have:=k2.ok v w (by rw[hgv];exact hw);rw[Hu (by omega)] at this;exact this
    have hw0:=k2.wide _ (He (show v < all.length by omega));have hround:=(fun l hl hf=>Zj7 hg k2 (v:=v) (by omega) (l:=l) hl hf);rw[hgv] at k3 hround;generalize hl0:all[v]=l0 at *;refine VA ?_;rw[hl0];refine Zak (X:=Nat×List Ae×Bool) (fun x=>x.1≤v∧x.2.1.length≤160∧(∀ w∈x.2.1,TOk g (60+60 * x.1) 10 all.length true w)∧Zca all 0 v l0=(if x.2.2=true then none else Zca all x.1 (v - x.1) x.2.1)) (fun x=>(15,I x.1)::(14,.d (Zat false x.2.1))::(13,I v)::(101,I v)::(100,.d (iD g.vars))::tnF) (fun x=>tnH g all x.2.2) (fun x=>v - x.1) (0,l0,false) ⟨Hh _,hw0,hok0,rfl⟩ ?_;rintro⟨u,l,b⟩ ⟨j1,j2,j3,j4⟩;dsimp only at j1 j2 j3 j4 ⊢;by_cases hb:u < v∧b=false
    ·obtain⟨huv,rfl⟩:=hb;have hA:∀ y∈all.getD u [],TOk g 60 10 all.length true y:=fun y hy=>by
      have:=k2.ok u y hy;rw[Hu (by omega)] at this;exact this
     have hA160:(all.getD u []).length≤160:=by
      refine k2.wide _ ?_;rw[Hf,Hj (by omega)];exact He _
     have hah:=Zw9 hg (u:=u) (l:=l) (N:=all.length) (B:=60+60 * u) (by omega) h64 hA hA160 j3 j2 (by omega);have haok:∀ l',ZbJ (all.getD u []) u l []=some l'→(∀ w∈l',TOk g (60+60 * u+60) 10 all.length true w)∧l'.length≤160:=(fun l' hl'=>Zij (by omega) hA j3 (fun w hw=>by cases hw) hl');obtain⟨m,hm⟩:∃ m,v - u=m+1:=⟨v - u - 1,by omega⟩
     rw[Ha (by decide),hm,ZrD] at j4;generalize ZbJ (all.getD u []) u l []=res at *;refine VA ?_;refine Zab [(1000,53),(1001,901)] (hA:=hah) (hr:=?_);cases res with
     | none =>
      refine VA ?_;exact Zad (u+1,[],true) (a:=⟨by omega,by simp,fun w hw=>(by cases hw),j4⟩) (b:=by dsimp only;omega)
     | some l' =>
      obtain⟨q1,q2⟩:=haok l' rfl;obtain rfl:m=v - (u+1):=(by omega);refine VA ?_;exact Zad (u+1,l',false) (a:=⟨by omega,q2,fun w hw=>(q1 w hw).mono (by omega) (Hg _) (Hg _),j4⟩) (b:=by dsimp only;omega)
    ·have hit:=ZuW hg (all:=all) (l:=l) (v:=v) (N:=all.length) (B:=60+60 * u) (b:=b) h64 j3 j2 (by omega);have his:=Zxb all l v;have hsl:((itA all l v).set v (itL all l v)).length=(itA all l v).length:=HJ;have hia:v < (itA all l v).length:=by
      have:=Zng all l v;rw[his,hsl] at this;omega
     have hwd:=ZrE (v:=v) k2.wide j2;have hbd:=Zq4 hg k2 (v:=v) (by omega) (l:=l) (B:=60+60 * u) j3;have hbe:∀ k∈Zbf all l v,∀ w∈k,w.right.length≤1000∧Aj w.l≤100000:=fun k hk w hw=>by
      obtain⟨i,hi,rfl⟩:=List.mem_iff_getElem.1 hk;have:=hbd i w (by rw[Hf,Hj hi];exact hw);exact⟨Hq this.rl (by omega),Hq this.sz (by omega)⟩
     have hlen:(Zbf all l v).length≤65:=by
      unfold Zbf;split
      ·rw[HJ];omega
      ·rw[HJ,Hk,HS];omega
     have hfi:=Zxe (all:=Zbf all l v) (b:=b) (by omega) (fun k hk=>Hq (hwd k hk) (by omega)) hbe;have hset:((itA all l v).map (Zat false)).set v (Zat false (itL all l v))=(Zbf all l v).map (Zat false):=(by rw[his,GN]);have hlw:(itA all l v).length=(Zbf all l v).length:=(by rw[his,hsl]);have hrd:=hround l;have hk3:Zca all 0 v l0=some l→(if Zjx (Zbf all l v)=true then ZbF (v+1) (N - (v+1)) (Zbf all l v) else Except.error v)=r:=(fun e=>by rw[e] at k3;exact k3);clear hwd hbd hbe hsl hround;generalize Zbf all l v=S at *;generalize itA all l v=A at *;generalize itL all l v=L at *;have hvA:v < (A.map (Zat false)).length:=(by rw[Hi];exact hia);cases b with
     | true =>
      rw[Hb rfl] at j4;rw[j4] at k3;dsimp only at k3;subst k3;rw[hts];clear hrr hk3;by_cases huv:u < v
      ·refine VA ?_;refine Zab [(1000,53),(1001,901)] (hA:=hit) (hr:=?_);refine VA ?_;rw[hset,hlw];refine Zab [(1000,53),(1001,901)] (hA:=hfi) (hr:=?_);refine VA ?_;exact fin2
      ·refine VA ?_;refine Zab [(1000,53),(1001,901)] (hA:=hit) (hr:=?_);refine VA ?_;rw[hset,hlw];refine Zab [(1000,53),(1001,901)] (hA:=hfi) (hr:=?_);refine VA ?_;exact fin2
     | false =>
      rw[Ha (by decide)] at j4;obtain rfl:u=v:=HN fun q=>hb ⟨by omega,rfl⟩
      rw[Ga,Zca] at j4;have k3:=hk3 j4;by_cases hft:Zjx S=true
      ·have hrd:=hrd j4 hft;rw[Hb hft] at k3;rw[hft] at hfi;clear hrr hk3;refine VA ?_;refine Zab [(1000,53),(1001,901)] (hA:=hit) (hr:=?_);refine VA ?_;rw[hset,hlw];refine Zab [(1000,53),(1001,901)] (hA:=hfi) (hr:=?_);refine VA ?_;exact Zad (u+1,S) (a:=⟨by dsimp only;omega,hrd,k3⟩)
      ·rw[Ha hft] at k3;rw[Jb] at hft;rw[hft] at hfi;clear hrr hk3;subst k3;rw[hts];refine VA ?_;refine Zab [(1000,53),(1001,901)] (hA:=hit) (hr:=?_);refine VA ?_;rw[hset,hlw];refine Zab [(1000,53),(1001,901)] (hA:=hfi) (hr:=?_);refine VA ?_;exact fin2
   ·obtain rfl:v=N:=(by omega);rw[Ga,ZbF] at k3;subst k3;have hgk:=Zj9 hg (Zjv he) (z:=all) (by rw[hNt];exact hrr);have h160:=hgk.Aa;dsimp only at hts h160;rw[hts];have hw160:∀ i (h:i < all.length),all[i].length≤160:=(fun i h=>k2.wide _ (He h));have hwo:∀ i (h:i < all.length),∀ w∈all[i],w.right.length≤10∧Aj w.l≤100000000∧NbL 1000000000 w.l:=fun i h w hw=>by
     have:=k2.ok i w (by rw[Hf,Hj h];exact hw);exact⟨this.rl,Hq this.sz (by decide),this.nb hg (by decide)⟩
    clear hrr hts hgk hI0 hva hvars;generalize all=z at *;refine VA ?_;refine ZaD 16 3 903 68 2 rfl rfl rfl rfl ?_;refine ZaD 16 4 904 75 1 rfl rfl rfl rfl ?_;refine Zak (X:=Nat×List Rule×List (List Ad)) (fun x=>x.1≤z.length∧Zbh z 0=x.2.1++Zbh (z.drop x.1) x.1∧ZaU z=x.2.2++ZaU (z.drop x.1)∧x.2.2.length=x.2.1.length)
     (fun x=>[(161,I x.1),(160,I z.length),(159,.own 901 z.length),(16,.ptr 16 0),(2,.ptr 2 0),(3,.ptr 3 0)])
     (fun x=>[(2,Zci false Ag),(3,.box 31 [.d (iD 0),.d (iD 0)]),(901,.row 186 1 (z.map (Zat false))),(16,.box 39 [.d (iD (z.length:Nat)),.d (iD g.terms),.d (iD g.start),.own 903 x.2.1.length,.own 904 x.2.2.length,.d nilT]),(903,.row 68 2 (x.2.1.map (Za3 false))),(904,.row 75 1 (x.2.2.map (Zah false)))])
     (fun x=>z.length - x.1) (0,[],[]) ⟨Hh _,rfl,rfl,rfl⟩ ?_
    rintro⟨v,R,F⟩ ⟨m1,m2,m3,m4⟩;dsimp only at m1 m2 m3 m4 ⊢;by_cases hvz:v < z.length
    ·have hzl:=hw160 v hvz;have hzo:=hwo v hvz;rw[Hw hvz,Zbh] at m2;rw[Hw hvz,ZaU] at m3;rw[←HH] at m2 m3;generalize hl:z[v]=l at *;refine VA ?_;rw[hl];refine VA ?_;refine Zak (X:=Nat×List Rule×List (List Ad)) (fun x=>x.1≤l.length∧Zbh z 0=x.2.1++(l.drop x.1).map (fun w=>(⟨(v:Int),w.right⟩:Rule))++Zbh (z.drop (v+1)) (v+1)∧ZaU z=x.2.2++(l.drop x.1).map (·.l)++ZaU (z.drop (v+1))∧x.2.2.length=x.2.1.length)
      (fun x=>[(168,I x.1),(167,I l.length),(166,.d (Zat false l)),(17,I v),(161,I v),(160,I z.length),(159,.own 901 z.length),(16,.ptr 16 0),(2,.ptr 2 0),(3,.ptr 3 0)])
      (fun x=>[(2,Zci false Ag),(3,.box 31 [.d (iD 0),.d (iD 0)]),(901,.row 186 1 (z.map (Zat false))),(16,.box 39 [.d (iD (z.length:Nat)),.d (iD g.terms),.d (iD g.start),.own 903 x.2.1.length,.own 904 x.2.2.length,.d nilT]),(903,.row 68 2 (x.2.1.map (Za3 false))),(904,.row 75 1 (x.2.2.map (Zah false)))])
      (fun x=>l.length - x.1) (0,R,F) ⟨Hh _,m2,m3,m4⟩ ?_
     clear m1 m2 m3 m4;rintro⟨i,R,F⟩ ⟨m1,m2,m3,m4⟩;dsimp only at m1 m2 m3 m4 ⊢;by_cases hil:i < l.length
     ·obtain⟨hwl,hws,hwn⟩:=hzo _ (He hil);rw[Hw hil,Hm,List.append_cons] at m2 m3;have hR:R.length≤160:=(by rw[m2] at h160;simp at h160;omega);have hcl:=ZcA (t:=false) (xs:=l[i].right) (by omega);have how:=ZnW (t:=false) (l:=l[i].l) hws hwn;have e1:R.map (Za3 false)++[D.agg [D.raw (.int .i64 (v:Int)),ints false l[i].right]]=(R++[(⟨(v:Int),l[i].right⟩:Rule)]).map (Za3 false):=(by simp[Za3,iD]);have e2:F.map (Zah false)++[Zah false l[i].l]=(F++[l[i].l]).map (Zah false):=(by simp);refine VA ?_;refine ZaW [(5,920)] (hA:=hcl) (hr:=?_);refine VA ?_;refine Zab [] (hA:=how) (hr:=?_);refine VA ?_;rw[e1,e2,Hi,Hi];exact Zad (i+1,R++[(⟨(v:Int),l[i].right⟩:Rule)],F++[l[i].l]) (a:=⟨by dsimp only;omega,m2,m3,by simp;omega⟩)
     ·obtain rfl:i=l.length:=(by omega);rw[GM,HF,Ht] at m2 m3;refine VA ?_;exact Zad (v+1,R,F) (a:=⟨by dsimp only;omega,m2,m3,m4⟩)
    ·obtain rfl:v=z.length:=(by omega);rw[GM,Zbh,Ht] at m2;rw[GM,ZaU,Ht] at m3;rw[m2,m3];refine Zaz 903 rfl ?_;refine Zaz 904 rfl ?_;refine VA ?_;exact fin2
end Go.Proofs.YtbpmepgnjanhnaaGreat
