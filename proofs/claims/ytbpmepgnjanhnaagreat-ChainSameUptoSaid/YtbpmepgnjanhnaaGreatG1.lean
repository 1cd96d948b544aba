import Derived.Test.YtbpmepgnjanhnaaGreatSimW
set_option linter.unusedVariables false
set_option linter.unusedSimpArgs false
set_option linter.unusedSectionVars false
set_option maxRecDepth 100000
namespace Go.Proofs.YtbpmepgnjanhnaaGreat
open Go.RowKit
structure Ac.fit (g:Ac):Prop where
 Aa:g.Aa.length≤100000000
 right:∀ r∈g.Aa,r.right.length≤100000000
def Ab (xs:List Int):List Int:=xs.filter (fun x=>decide (0≤x))
theorem Zhu (xs:List Int) (k:Nat) (h:k < xs.length):Ab (xs.take (k+1))=Ab (xs.take k)++Ab [xs[k]]:=by
 rw[HD h];simp only[Ab,GS]
theorem Znr {x:Int} (h:0≤x):Ab [x]=[x]:=by simp[Ab,h]
theorem Zns {x:Int} (h:x < 0):Ab [x]=[]:=by simp[Ab];omega
theorem Zbj (xs:List Int):(Ab xs).length≤xs.length:=Gd _ _
def byR:List Rule→Int→Nat→List Int
 | [],_,_=>[]
 | r::rs,v,i=>if r.left=v then (i:Int)::byR rs v (i+1) else byR rs v (i+1)
def by_ (g:Ac) (v:Int):List Int:=byR g.Aa v 0
theorem Zmc (v:Int):∀ (a b:List Rule) (i:Nat),byR (a++b) v i=byR a v i++byR b v (i+a.length)
 | [],b,i=>by simp[byR]
 | r::a,b,i=>by
  simp only[Hv,byR,Zmc v a b (i+1),Hl];have:i+1+a.length=i+(a.length+1):=by omega
  rw[this];split <;> rfl
theorem ZzO (rs:List Rule) (v:Int) (k:Nat) (h:k < rs.length):byR (rs.take (k+1)) v 0=byR (rs.take k) v 0++(if rs[k].left=v then [(k:Int)] else []):=by
 rw[HD h,Zmc];simp only[byR,Hs,HE];rw[Gs (by omega)]
theorem Zpb (v:Int):∀ (rs:List Rule) (i:Nat),(byR rs v i).length≤rs.length
 | [],i=>by simp[byR]
 | r::rs,i=>by
  have:=Zpb v rs (i+1);simp only[byR];split <;> simp <;> omega
def Zhv (g:Ac):Bool:=decide (400 < g.Aa.length) || g.Aa.any (fun r=>decide (100 < r.right.length))
theorem Zwh {α:Type} {p:α→Bool} {xs:List α} {k:Nat} (h:k < xs.length) (hp:p xs[k]=true):xs.any p=true:=List.any_eq_true.2 ⟨_,He h,hp⟩
theorem ZsL {α:Type} {p:α→Bool} {xs:List α} (h:∀ j (hj:j < xs.length),p xs[j]=false):xs.any p=false:=by
 rw[JJ];intro x hx;obtain⟨j,hj,rfl⟩:=List.getElem_of_mem hx;simp[h j hj]
theorem Zpc {P:Nat→Prop} {k:Nat} (h:∀ j,j < k→P j) (hk:P k):∀ j,j < k+1→P j:=fun j hj=>by
 by_cases e:j=k
 ·subst e;exact hk
 ·exact h j (by omega)
theorem Zwi {xs ys:List Int} (hl:xs.length=ys.length) (h:∀ j (hx:j < xs.length) (hy:j < ys.length),xs[j]=ys[j]):xs=ys:=GP hl h
theorem Zwj {t u:Bool} {xs ys:List Int} (hb1:xs.length≤100000000:=by exact Vm) (hb2:ys.length≤100000000:=by exact Vm) :
  Af Tryz.prog 119 [.d (ints t xs),.d (ints u ys)] [] (B (decide (xs=ys))) []:=by
 refine Af.intro (n:=26) Tryz.func119 (hw:=?_);simp only[Zal];by_cases hl:(xs.length:Int)=ys.length
 ·(try refine wk ?_)
  refine Zak (X:=Nat) (fun k=>k≤xs.length∧∀ j (hx:j < xs.length) (hy:j < ys.length),j < k→xs[j]=ys[j]) (fun k=>[(13,I k),(12,I xs.length),(0,V.d (ints t xs)),(1,V.d (ints u ys))]) (fun _=>[]) (fun k=>xs.length - k) 0
   ⟨Hh _,by omega⟩ ?_
  rintro k ⟨hk,hp⟩;by_cases hlt:k < xs.length
  ·have hlt':k < ys.length:=by omega
   by_cases hx:xs[k]=ys[k]
   ·(try refine wk ?_)
    exact Zad (k+1) (a:=⟨by omega,fun j h1 h2 h3=>by
     by_cases e:j < k
     ·exact hp j h1 h2 e
     ·obtain rfl:j=k:=(by omega);exact hx⟩)
   ·(try refine wk ?_)
    have e:decide (xs=ys)=false:=(by rw[G4];rintro rfl;exact hx rfl);rw[e];exact fin
  ·(try refine wk ?_)
   have e:decide (xs=ys)=true:=by rw[HZ];exact Zwi (by omega) (fun j h1 h2=>hp j h1 h2 (by omega))
   rw[e];exact fin
 ·(try refine wk ?_)
  have e:decide (xs=ys)=false:=by rw[G4];rintro rfl;exact hl rfl
  rw[e];exact fin
theorem ZcH {t:Bool} {l:Int} {xs:List Int} (hl:xs.length≤100000000:=by exact Vm) :
  Af Tryz.prog 104 [.d (.agg [iD l,ints t xs])] [] (.own 3 (Ab xs).length) [(3,.row 3 1 ((Ab xs).map iD))]:=by
 refine Af.intro (n:=21) Tryz.func104 (hw:=?_);simp only[Zal]
 (try refine wk ?_)
 refine ZbB 3 3 3 1 rfl rfl rfl ?_;refine Zak (fun k=>k≤xs.length) (fun k=>[(9,I k),(8,I xs.length),(7,V.d (ints t xs)),(3,.own 3 (Ab (xs.take k)).length)]) (fun k=>[(3,.row 3 1 ((Ab (xs.take k)).map iD))]) (fun k=>xs.length - k) 0
  (Hh _) ?_
 intro k hk;have hkl:(Ab (xs.take k)).length≤k:=by have:=Zbj (xs.take k);rw[Hs] at this;omega
 by_cases hlt:k < xs.length
 ·by_cases hx:0≤xs[k]
  ·(try refine wk ?_)
   have e:=(Zhu xs k hlt).trans (by rw[Znr hx]);exact Zad (k+1)
  ·(try refine wk ?_)
   have e:=(Zhu xs k hlt).trans (by rw[Zns (by omega),Ht]);exact Zad (k+1)
 ·(try refine wk ?_)
  rw[show xs.take k=xs by rw[show k=xs.length by omega,HO]];exact fin
theorem Zmd {t:Bool} {g:Ac} {v:Int} (hl:g.Aa.length≤100000000:=by exact Vm) :
  Af Tryz.prog 92 [.d (Zbr t g),I v] [] (.own 5 (by_ g v).length) [(5,.row 3 1 ((by_ g v).map iD))]:=by
 refine Af.intro (n:=26) Tryz.func92 (hw:=?_);simp only[Zal]
 (try refine wk ?_)
 refine ZbB 5 5 3 1 rfl rfl rfl ?_;refine Zak (fun k=>k≤g.Aa.length) (fun k=>[(11,I k),(10,I g.Aa.length),(9,V.d (ZaS t g.Aa)),(1,I v),(5,.own 5 (byR (g.Aa.take k) v 0).length)]) (fun k=>[(5,.row 3 1 ((byR (g.Aa.take k) v 0).map iD))]) (fun k=>g.Aa.length - k) 0
  (Hh _) ?_
 intro k hk;have hkl:(byR (g.Aa.take k) v 0).length≤k:=by have:=Zpb v (g.Aa.take k) 0;rw[Hs] at this;omega
 by_cases hlt:k < g.Aa.length
 ·have e:=ZzO g.Aa v k hlt;by_cases hx:g.Aa[k].left=v
  ·(try refine wk ?_)
   rw[Hb hx] at e;exact Zad (k+1)
  ·(try refine wk ?_)
   rw[Ha hx,Ht] at e;exact Zad (k+1)
 ·(try refine wk ?_)
  rw[show g.Aa.take k=g.Aa by rw[show k=g.Aa.length by omega,HO]];exact fin
theorem Znt {t:Bool} {g:Ac} (hl:g.Aa.length≤100000000:=by exact Vm) (hr:∀ r∈g.Aa,r.right.length≤100000000:=by assumption) :
  Af Tryz.prog 9 [.d (Zbr t g)] [] (B (Zhv g)) []:=by
 refine Af.intro (n:=23) Tryz.func9 (hw:=?_);simp only[Zal];by_cases h4:(g.Aa.length:Int) > 400
 ·(try refine wk ?_)
  rw[show Zhv g=true by simp[Zhv];left;omega];exact fin
 ·(try refine wk ?_)
  refine Zak (X:=Nat) (fun k=>k≤g.Aa.length∧∀ j,j < k→∀ (hj:j < g.Aa.length),decide (100 < g.Aa[j].right.length)=false) (fun k=>[(3,I k),(1,.ptr 1 0)]) (fun _=>[(1,.box 24 [.d (iD g.vars),.d (iD g.terms),.d (iD g.start),.d (ZaS t g.Aa)])]) (fun k=>g.Aa.length - k) 0
   ⟨Hh _,by omega⟩ ?_
  rintro k ⟨hk,hp⟩;by_cases hlt:k < g.Aa.length
  ·by_cases hx:(g.Aa[k].right.length:Int) > 100
   ·(try refine wk ?_)
    rw[show Zhv g=true by simp only[Zhv,Gj];right;exact Zwh hlt (by simp;omega)];exact fin
   ·(try refine wk ?_)
    exact Zad (k+1) (a:=⟨by omega,Zpc hp (fun _=>by simp;omega)⟩)
  ·(try refine wk ?_)
   rw[show Zhv g=false by simp only[Zhv,Ju];exact⟨by simp;omega,ZsL (fun j hj=>hp j (by omega) hj)⟩];exact fin
def idxR (p:Int→Bool):List Int→Nat→Int
 | [],_ => -1
 | x::xs,i=>bif p x then (i:Int) else idxR p xs (i+1)
theorem Znu (p:Int→Bool):∀ (xs:List Int) (i:Nat),decide (0≤idxR p xs i)=xs.any p
 | [],_=>by simp[idxR]
 | x::xs,i=>by
  simp only[idxR,List.any_cons];by_cases h:p x=true
  ·simp[h]
  ·simp only[Jb] at h;simpa[h] using Znu p xs (i+1)
theorem Zpd {p:Int→Bool} {xs:List Int} {k:Nat} (h:k < xs.length):idxR p (xs.drop k) k=bif p xs[k] then (k:Int) else idxR p (xs.drop (k+1)) (k+1):=by
 rw[Hw h,idxR]
theorem ZsM {p:Int→Bool} {xs:List Int} {k:Nat} (h:¬ k < xs.length):idxR p (xs.drop k) k = -1:=by
 rw[HL (by omega),idxR]
theorem Znv {t:Bool} {clos:Nat} {caps:List V} {H:Hp} {xs:List Int} {p:Int→Bool} (hC:Clo H caps) (hc:∀ x∈xs,Af Tryz.prog clos (I x::caps) H (B (p x)) H) (hl:xs.length≤100000000:=by exact Vm) :
  Af Tryz.prog 111 [.d (ints t xs),.fn (.func clos) [] caps] H (I (idxR p xs 0)) H:=by
 refine Af.intro (n:=19) Tryz.func111 (hw:=?_);simp only[Zal];have h1:=hC.self;have h2:=hC.inn;have h3:=hC.caps
 (try refine wk ?_)
 refine Zak (X:=Nat) (fun k=>k≤xs.length∧idxR p xs 0=idxR p (xs.drop k) k) (fun k=>[(8,I k),(7,I xs.length),(1,.fn (.func clos) [] caps),(0,.d (ints t xs))]) (fun _=>H) (fun k=>xs.length - k) 0 ⟨Hh _,rfl⟩ ?_;rintro k ⟨hk,hp⟩;by_cases hlt:k < xs.length
 ·have hs:=Zpd (p:=p) hlt
  (try refine wk ?_)
  refine Znb hC (hA:=hc xs[k] (He hlt)) (hr:=?_);cases hpx:p xs[k] with
  | true =>
   rw[hpx] at hs
   (try refine wk ?_)
   rw[hp,hs];exact fin
  | false =>
   rw[hpx] at hs
   (try refine wk ?_)
   exact Zad (k+1) (a:=⟨by omega,hp.trans hs⟩)
 ·(try refine wk ?_)
  rw[hp,ZsM hlt];exact fin
theorem Zb0 {t:Bool} {clos:Nat} {caps:List V} {H:Hp} {xs:List Int} {p:Int→Bool} (hC:Clo H caps) (hc:∀ x∈xs,Af Tryz.prog clos (I x::caps) H (B (p x)) H) (hl:xs.length≤100000000:=by exact Vm) :
  Af Tryz.prog 66 [.d (ints t xs),.fn (.func clos) [] caps] H (B (xs.any p)) H:=by
 refine Af.intro (n:=9) Tryz.func66 (hw:=?_);simp only[Zal];have h1:=hC.self;have h2:=hC.inn;have h3:=hC.caps
 (try refine wk ?_)
 refine Znb hC.bare (hA:=Znv hC hc) (hr:=?_)
 (try refine wk ?_)
 rw[←Znu p xs 0];exact fin
def ZeT (g:Ac) (s:Int):Bool:=decide (g.vars≤s) || decide (s < -g.terms)
def ZaX (g:Ac) (r:Rule):Int:=if 10 < r.right.length then 6 else if r.left < 0∨g.vars≤r.left∨r.right.any (ZeT g)=true then 9 else 0
def Zey (g:Ac):List Rule→Nat→Zcf
 | [],_=>⟨0,0⟩
 | r::rs,i=>if ZaX g r=0 then Zey g rs (i+1) else ⟨ZaX g r,i⟩
def Zpe (g:Ac):Prop:=1≤g.vars∧g.vars≤64∧0≤g.terms∧g.terms≤16∧0≤g.start∧g.start < g.vars
instance (g:Ac):Decidable (Zpe g):=by unfold Zpe;exact inferInstance
def Zac (g:Ac):Zcf:=if Zpe g then (if 160 < g.Aa.length then ⟨6, -1⟩ else Zey g g.Aa 0) else ⟨9, -1⟩
theorem Zrd {g:Ac} {k:Nat} (h:k < g.Aa.length):Zey g (g.Aa.drop k) k=if ZaX g g.Aa[k]=0 then Zey g (g.Aa.drop (k+1)) (k+1) else ⟨ZaX g g.Aa[k],k⟩:=by
 rw[Hw h,Zey]
theorem ZuB {g:Ac} {k:Nat} (h:¬ k < g.Aa.length):Zey g (g.Aa.drop k) k=⟨0,0⟩:=by
 rw[HL (by omega),Zey]
abbrev ZaE (t:Bool) (g:Ac):Ob:=.box 24 [.d (iD g.vars),.d (iD g.terms),.d (iD g.start),.d (ZaS t g.Aa)]
theorem ZuC {t:Bool} {g:Ac} {s:Int} (ht:0≤g.terms∧g.terms≤16) :
  Af Tryz.prog 65 [I s,.ptr 1000 0] [(1000,ZaE t g)] (B (ZeT g s)) [(1000,ZaE t g)]:=by
 refine Af.intro (n:=15) Tryz.func65 (hw:=?_);simp only[Zal];obtain⟨ht1,ht2⟩:=ht;by_cases h1:g.vars≤s
 ·(try refine wk ?_)
  rw[show ZeT g s=true by simp[ZeT,h1]];exact fin
 ·by_cases h2:s < -g.terms
  ·(try refine wk ?_)
   rw[show ZeT g s=true by simp[ZeT,h2]];exact fin
  ·(try refine wk ?_)
   rw[show ZeT g s=false by simp[ZeT,h1,h2]];exact fin
set_option maxHeartbeats 4000000 in
theorem ZaT {t:Bool} {g:Ac} (hl:g.Aa.length≤100000000:=by exact Vm) (hr:∀ r∈g.Aa,r.right.length≤100000000:=by assumption) :
  Af Tryz.prog 36 [.d (Zbr t g)] [] (.d (Zbu (Zac g))) []:=by
 refine Af.intro (n:=77) Tryz.func36 (hw:=?_);simp only[Zal];by_cases hh:Zpe g
 ·have hh':=hh;obtain⟨a1,a2,a3,a4,a5,a6⟩:=hh';by_cases h6:(g.Aa.length:Int) > 160
  ·(try refine wk ?_)
   rw[show Zac g=⟨6, -1⟩ by rw[Zac,Hb hh,Hb (by omega)]];exact fin
  ·rw[show Zac g=Zey g g.Aa 0 by rw[Zac,Hb hh,Ha (by omega)]]
   (try refine wk ?_)
   refine Zak (X:=Nat) (fun k=>k≤g.Aa.length∧Zey g g.Aa 0=Zey g (g.Aa.drop k) k) (fun k=>[(45,I k),(44,I g.Aa.length),(43,.d (ZaS t g.Aa)),(2,.ptr 2 0),(1,.ptr 1 0)]) (fun _=>[(1,ZaE t g),(2,.box 31 [.d (iD 0),.d (iD 0)])]) (fun k=>g.Aa.length - k) 0 ⟨Hh _,rfl⟩ ?_;rintro k ⟨hk,hp⟩;by_cases hlt:k < g.Aa.length
   ·have hs:=Zrd hlt;have hrk:=hr _ (He hlt);by_cases b1:(g.Aa[k].right.length:Int) > 10
    ·(try refine wk ?_)
     rw[hp,hs,show ZaX g g.Aa[k]=6 by rw[ZaX,Hb (by omega)],Ha (by decide)];exact fin
    ·by_cases b2:g.Aa[k].left < 0
     ·(try refine wk ?_)
      rw[hp,hs,show ZaX g g.Aa[k]=9 by rw[ZaX,Ha (by omega),Hb (.inl b2)],Ha (by decide)];exact fin
     ·by_cases b3:g.vars≤g.Aa[k].left
      ·(try refine wk ?_)
       rw[hp,hs,show ZaX g g.Aa[k]=9 by rw[ZaX,Ha (by omega),Hb (.inr (.inl b3))],Ha (by decide)];exact fin
      ·(try refine wk ?_)
       refine Zab [(1000,1)] (hA:=Zb0 (t:=t) (clos:=65) (caps:=[.ptr 1000 0]) (H:=[(1000,ZaE t g)]) (p:=ZeT g) ⟨rfl,rfl,rfl,rfl,trivial⟩ (fun x _=>ZuC ⟨a3,a4⟩)) (hr:=?_);cases hb:g.Aa[k].right.any (ZeT g) with
       | true =>
        (try refine wk ?_)
        rw[hp,hs,show ZaX g g.Aa[k]=9 by rw[ZaX,Ha (by omega),Hb (.inr (.inr hb))],Ha (by decide)];exact fin
       | false =>
        rw[show ZaX g g.Aa[k]=0 by rw[ZaX,Ha (by omega),Ha (by rw[hb];simp;omega)],Hb rfl] at hs
        (try refine wk ?_)
        exact Zad (k+1) (a:=⟨by omega,hp.trans hs⟩)
   ·(try refine wk ?_)
    rw[hp,ZuB hlt];exact fin
 ·rw[show Zac g=⟨9, -1⟩ by rw[Zac,Ha hh]];by_cases a1:g.vars < 1
  ·(try refine wk ?_)
   exact fin
  by_cases a2:64 < g.vars
  ·(try refine wk ?_)
   exact fin
  by_cases a3:g.terms < 0
  ·(try refine wk ?_)
   exact fin
  by_cases a4:16 < g.terms
  ·(try refine wk ?_)
   exact fin
  by_cases a5:g.start < 0
  ·(try refine wk ?_)
   exact fin
  by_cases a6:g.vars≤g.start
  ·(try refine wk ?_)
   exact fin
  exact absurd (show Zpe g from ⟨by omega,by omega,by omega,by omega,by omega,by omega⟩) hh
end Go.Proofs.YtbpmepgnjanhnaaGreat
