import Derived.Test.YtbpmepgnjanhnaaGreatSimW
set_option linter.unusedVariables false
set_option linter.unusedSimpArgs false
set_option linter.unusedSectionVars false
set_option maxRecDepth 100000
namespace Go.Proofs.YtbpmepgnjanhnaaGreat
variable {P:Program} {n:Nat} {dr:Bool} {ops:Array Oper} {rest:List Oper} {log:List Rec} {K:Exit→Fr→Hp→Prop} {fr:Fr}
open Go.RowKit
structure Ac.fit (g:Ac):Prop where
 Aa:g.Aa.length≤100000000
 right:∀ r∈g.Aa,r.right.length≤100000000
def Ab (xs:List Int):List Int:=xs.filter (fun x=>decide (0≤x))
theorem ZhG (xs:List Int) (k:Nat) (h:k < xs.length):Ab (xs.take (k+1))=Ab (xs.take k)++Ab [xs[k]]:=by
 rw[HE h];simp only[Ab,GR]
theorem ZnG {x:Int} (h:0≤x):Ab [x]=[x]:=by simp[Ab,h]
theorem ZnH {x:Int} (h:x < 0):Ab [x]=[]:=by simp[Ab];omega
theorem Zbi (xs:List Int):(Ab xs).length≤xs.length:=Gc _ _
def byR:List Rule→Int→Nat→List Int
 | [],_,_=>[]
 | r::rs,v,i=>if r.left=v then (i:Int)::byR rs v (i+1) else byR rs v (i+1)
def by_ (g:Ac) (v:Int):List Int:=byR g.Aa v 0
theorem Zms (v:Int):∀ (a b:List Rule) (i:Nat),byR (a++b) v i=byR a v i++byR b v (i+a.length)
 | [],b,i=>by simp[byR]
 | r::a,b,i=>by
  simp only[Hv,byR,Zms v a b (i+1),Hl];have:i+1+a.length=i+(a.length+1):=by omega
  rw[this];split <;> rfl
theorem ZAj (rs:List Rule) (v:Int) (k:Nat) (h:k < rs.length):byR (rs.take (k+1)) v 0=byR (rs.take k) v 0++(if rs[k].left=v then [(k:Int)] else []):=by
 rw[HE h,Zms];simp only[byR,Hs,HD];rw[Gx (by omega)]
theorem Zpx (v:Int):∀ (rs:List Rule) (i:Nat),(byR rs v i).length≤rs.length
 | [],i=>by simp[byR]
 | r::rs,i=>by
  have:=Zpx v rs (i+1);simp only[byR];split <;> simp <;> omega
def ZhH (g:Ac):Bool:=decide (400 < g.Aa.length) || g.Aa.any (fun r=>decide (100 < r.right.length))
theorem Zxm {α:Type} {p:α→Bool} {xs:List α} {k:Nat} (h:k < xs.length) (hp:p xs[k]=true):xs.any p=true:=List.any_eq_true.2 ⟨_,He h,hp⟩
theorem ZsY {α:Type} {p:α→Bool} {xs:List α} (h:∀ j (hj:j < xs.length),p xs[j]=false):xs.any p=false:=by
 rw[JH];intro x hx;obtain⟨j,hj,rfl⟩:=List.getElem_of_mem hx;simp[h j hj]
theorem Zpy {P:Nat→Prop} {k:Nat} (h:∀ j,j < k→P j) (hk:P k):∀ j,j < k+1→P j:=fun j hj=>by
 by_cases e:j=k
 ·subst e;exact hk
 ·exact h j (by omega)
theorem Zxn {xs ys:List Int} (hl:xs.length=ys.length) (h:∀ j (hx:j < xs.length) (hy:j < ys.length),xs[j]=ys[j]):xs=ys:=GM hl h
theorem Zxo {t u:Bool} {xs ys:List Int} (hb1:xs.length≤100000000:=by exact Vm) (hb2:ys.length≤100000000:=by exact Vm) :
  Af Tryz.prog 119 [.d (ints t xs),.d (ints u ys)] [] (B (decide (xs=ys))) []:=by
 refine Af.intro (n:=26) Tryz.func119 (hw:=?_);simp only[Zal];by_cases hl:(xs.length:Int)=ys.length
 ·(try refine wk ?_)
  refine Zak (X:=Nat) (fun k=>k≤xs.length∧∀ j (hx:j < xs.length) (hy:j < ys.length),j < k→xs[j]=ys[j]) (fun k=>[(13,I k),(12,I xs.length),(0,V.d (ints t xs)),(1,V.d (ints u ys))]) (fun _=>[]) (fun k=>xs.length - k) 0
   ⟨Hi _,by omega⟩ ?_
  rintro k ⟨hk,hp⟩;by_cases hlt:k < xs.length
  ·have hlt':k < ys.length:=by omega
   by_cases hx:xs[k]=ys[k]
   ·(try refine wk ?_)
    exact Zad (k+1) (a:=⟨by omega,fun j h1 h2 h3=>by
     by_cases e:j < k
     ·exact hp j h1 h2 e
     ·obtain rfl:j=k:=(by omega);exact hx⟩)
   ·(try refine wk ?_)
    have e:decide (xs=ys)=false:=(by rw[G0];rintro rfl;exact hx rfl);rw[e];exact fin
  ·(try refine wk ?_)
   have e:decide (xs=ys)=true:=by rw[HY];exact Zxn (by omega) (fun j h1 h2=>hp j h1 h2 (by omega))
   rw[e];exact fin
 ·(try refine wk ?_)
  have e:decide (xs=ys)=false:=by rw[G0];rintro rfl;exact hl rfl
  rw[e];exact fin
theorem ZcG {t:Bool} {l:Int} {xs:List Int} (hl:xs.length≤100000000:=by exact Vm) :
  Af Tryz.prog 104 [.d (.agg [iD l,ints t xs])] [] (.own 3 (Ab xs).length) [(3,.row 3 1 ((Ab xs).map iD))]:=by
 refine Af.intro (n:=21) Tryz.func104 (hw:=?_);simp only[Zal]
 (try refine wk ?_)
 refine ZbB 3 3 3 1 rfl rfl rfl ?_;refine Zak (fun k=>k≤xs.length) (fun k=>[(9,I k),(8,I xs.length),(7,V.d (ints t xs)),(3,.own 3 (Ab (xs.take k)).length)]) (fun k=>[(3,.row 3 1 ((Ab (xs.take k)).map iD))]) (fun k=>xs.length - k) 0
  (Hi _) ?_
 intro k hk;have hkl:(Ab (xs.take k)).length≤k:=by have:=Zbi (xs.take k);rw[Hs] at this;omega
 by_cases hlt:k < xs.length
 ·by_cases hx:0≤xs[k]
  ·(try refine wk ?_)
   have e:=(ZhG xs k hlt).trans (by rw[ZnG hx]);exact Zad (k+1)
  ·(try refine wk ?_)
   have e:=(ZhG xs k hlt).trans (by rw[ZnH (by omega),Hu]);exact Zad (k+1)
 ·(try refine wk ?_)
  rw[show xs.take k=xs by rw[show k=xs.length by omega,HP]];exact fin
theorem Zmt {t:Bool} {g:Ac} {v:Int} (hl:g.Aa.length≤100000000:=by exact Vm) :
  Af Tryz.prog 92 [.d (Zbo t g),I v] [] (.own 5 (by_ g v).length) [(5,.row 3 1 ((by_ g v).map iD))]:=by
 refine Af.intro (n:=26) Tryz.func92 (hw:=?_);simp only[Zal]
 (try refine wk ?_)
 refine ZbB 5 5 3 1 rfl rfl rfl ?_;refine Zak (fun k=>k≤g.Aa.length) (fun k=>[(11,I k),(10,I g.Aa.length),(9,V.d (ZaS t g.Aa)),(1,I v),(5,.own 5 (byR (g.Aa.take k) v 0).length)]) (fun k=>[(5,.row 3 1 ((byR (g.Aa.take k) v 0).map iD))]) (fun k=>g.Aa.length - k) 0
  (Hi _) ?_
 intro k hk;have hkl:(byR (g.Aa.take k) v 0).length≤k:=by have:=Zpx v (g.Aa.take k) 0;rw[Hs] at this;omega
 by_cases hlt:k < g.Aa.length
 ·have e:=ZAj g.Aa v k hlt;by_cases hx:g.Aa[k].left=v
  ·(try refine wk ?_)
   rw[Hb hx] at e;exact Zad (k+1)
  ·(try refine wk ?_)
   rw[Ha hx,Hu] at e;exact Zad (k+1)
 ·(try refine wk ?_)
  rw[show g.Aa.take k=g.Aa by rw[show k=g.Aa.length by omega,HP]];exact fin
theorem ZnI {t:Bool} {g:Ac} (hl:g.Aa.length≤100000000:=by exact Vm) (hr:∀ r∈g.Aa,r.right.length≤100000000:=by assumption) :
  Af Tryz.prog 9 [.d (Zbo t g)] [] (B (ZhH g)) []:=by
 refine Af.intro (n:=23) Tryz.func9 (hw:=?_);simp only[Zal];by_cases h4:(g.Aa.length:Int) > 400
 ·(try refine wk ?_)
  rw[show ZhH g=true by simp[ZhH];left;omega];exact fin
 ·(try refine wk ?_)
  refine Zak (X:=Nat) (fun k=>k≤g.Aa.length∧∀ j,j < k→∀ (hj:j < g.Aa.length),decide (100 < g.Aa[j].right.length)=false) (fun k=>[(3,I k),(1,.ptr 1 0)]) (fun _=>[(1,.box 24 [.d (iD g.vars),.d (iD g.terms),.d (iD g.start),.d (ZaS t g.Aa)])]) (fun k=>g.Aa.length - k) 0
   ⟨Hi _,by omega⟩ ?_
  rintro k ⟨hk,hp⟩;by_cases hlt:k < g.Aa.length
  ·by_cases hx:(g.Aa[k].right.length:Int) > 100
   ·(try refine wk ?_)
    rw[show ZhH g=true by simp only[ZhH,Gi];right;exact Zxm hlt (by simp;omega)];exact fin
   ·(try refine wk ?_)
    exact Zad (k+1) (a:=⟨by omega,Zpy hp (fun _=>by simp;omega)⟩)
  ·(try refine wk ?_)
   rw[show ZhH g=false by simp only[ZhH,Ju];exact⟨by simp;omega,ZsY (fun j hj=>hp j (by omega) hj)⟩];exact fin
def idxR (p:Int→Bool):List Int→Nat→Int
 | [],_ => -1
 | x::xs,i=>bif p x then (i:Int) else idxR p xs (i+1)
theorem ZnJ (p:Int→Bool):∀ (xs:List Int) (i:Nat),decide (0≤idxR p xs i)=xs.any p
 | [],_=>by simp[idxR]
 | x::xs,i=>by
  simp only[idxR,List.any_cons];by_cases h:p x=true
  ·simp[h]
  ·simp only[G9] at h;simpa[h] using ZnJ p xs (i+1)
theorem Zpz {p:Int→Bool} {xs:List Int} {k:Nat} (h:k < xs.length):idxR p (xs.drop k) k=bif p xs[k] then (k:Int) else idxR p (xs.drop (k+1)) (k+1):=by
 rw[Hw h,idxR]
theorem ZsZ {p:Int→Bool} {xs:List Int} {k:Nat} (h:¬ k < xs.length):idxR p (xs.drop k) k = -1:=by
 rw[HL (by omega),idxR]
theorem ZnK {t:Bool} {clos:Nat} {caps:List V} {H:Hp} {xs:List Int} {p:Int→Bool} (hC:Clo H caps) (hc:∀ x∈xs,Af Tryz.prog clos (I x::caps) H (B (p x)) H) (hl:xs.length≤100000000:=by exact Vm) :
  Af Tryz.prog 111 [.d (ints t xs),.fn (.func clos) [] caps] H (I (idxR p xs 0)) H:=by
 refine Af.intro (n:=19) Tryz.func111 (hw:=?_);simp only[Zal];have h1:=hC.self;have h2:=hC.inn;have h3:=hC.caps
 (try refine wk ?_)
 refine Zak (X:=Nat) (fun k=>k≤xs.length∧idxR p xs 0=idxR p (xs.drop k) k) (fun k=>[(8,I k),(7,I xs.length),(1,.fn (.func clos) [] caps),(0,.d (ints t xs))]) (fun _=>H) (fun k=>xs.length - k) 0 ⟨Hi _,rfl⟩ ?_;rintro k ⟨hk,hp⟩;by_cases hlt:k < xs.length
 ·have hs:=Zpz (p:=p) hlt
  (try refine wk ?_)
  refine Znb hC (hA:=hc xs[k] (He hlt)) (hr:=?_);cases hpx:p xs[k] with
  | true =>
   rw[hpx] at hs
   (try refine wk ?_)
   rw[hp,hs];exact fin
  | false =>
   rw[hpx] at hs
   (try refine wk ?_)
   exact Zad (k+1) (a:=⟨by omega,hp.trans hs⟩)
 ·(try refine wk ?_)
  rw[hp,ZsZ hlt];exact fin
theorem Zb0 {t:Bool} {clos:Nat} {caps:List V} {H:Hp} {xs:List Int} {p:Int→Bool} (hC:Clo H caps) (hc:∀ x∈xs,Af Tryz.prog clos (I x::caps) H (B (p x)) H) (hl:xs.length≤100000000:=by exact Vm) :
  Af Tryz.prog 66 [.d (ints t xs),.fn (.func clos) [] caps] H (B (xs.any p)) H:=by
 refine Af.intro (n:=9) Tryz.func66 (hw:=?_);simp only[Zal];have h1:=hC.self;have h2:=hC.inn;have h3:=hC.caps
 (try refine wk ?_)
 refine Znb hC.bare (hA:=ZnK hC hc) (hr:=?_)
 (try refine wk ?_)
 rw[←ZnJ p xs 0];exact fin
def Ze0 (g:Ac) (s:Int):Bool:=decide (g.vars≤s) || decide (s < -g.terms)
def ZaX (g:Ac) (r:Rule):Int:=if 10 < r.right.length then 6 else if r.left < 0∨g.vars≤r.left∨r.right.any (Ze0 g)=true then 9 else 0
def ZeA (g:Ac):List Rule→Nat→Zci
 | [],_=>⟨0,0⟩
 | r::rs,i=>if ZaX g r=0 then ZeA g rs (i+1) else ⟨ZaX g r,i⟩
def ZpA (g:Ac):Prop:=1≤g.vars∧g.vars≤64∧0≤g.terms∧g.terms≤16∧0≤g.start∧g.start < g.vars
instance (g:Ac):Decidable (ZpA g):=by unfold ZpA;exact inferInstance
def Zac (g:Ac):Zci:=if ZpA g then (if 160 < g.Aa.length then ⟨6, -1⟩ else ZeA g g.Aa 0) else ⟨9, -1⟩
theorem Zrv {g:Ac} {k:Nat} (h:k < g.Aa.length):ZeA g (g.Aa.drop k) k=if ZaX g g.Aa[k]=0 then ZeA g (g.Aa.drop (k+1)) (k+1) else ⟨ZaX g g.Aa[k],k⟩:=by
 rw[Hw h,ZeA]
theorem ZuJ {g:Ac} {k:Nat} (h:¬ k < g.Aa.length):ZeA g (g.Aa.drop k) k=⟨0,0⟩:=by
 rw[HL (by omega),ZeA]
abbrev ZaD (t:Bool) (g:Ac):Ob:=.box 24 [.d (iD g.vars),.d (iD g.terms),.d (iD g.start),.d (ZaS t g.Aa)]
theorem ZuK {t:Bool} {g:Ac} {s:Int} (ht:0≤g.terms∧g.terms≤16) :
  Af Tryz.prog 65 [I s,.ptr 1000 0] [(1000,ZaD t g)] (B (Ze0 g s)) [(1000,ZaD t g)]:=by
 refine Af.intro (n:=15) Tryz.func65 (hw:=?_);simp only[Zal];obtain⟨ht1,ht2⟩:=ht;by_cases h1:g.vars≤s
 ·(try refine wk ?_)
  rw[show Ze0 g s=true by simp[Ze0,h1]];exact fin
 ·by_cases h2:s < -g.terms
  ·(try refine wk ?_)
   rw[show Ze0 g s=true by simp[Ze0,h2]];exact fin
  ·(try refine wk ?_)
   rw[show Ze0 g s=false by simp[Ze0,h1,h2]];exact fin
set_option maxHeartbeats 4000000 in
theorem ZaU {t:Bool} {g:Ac} (hl:g.Aa.length≤100000000:=by exact Vm) (hr:∀ r∈g.Aa,r.right.length≤100000000:=by assumption) :
  Af Tryz.prog 36 [.d (Zbo t g)] [] (.d (Zbu (Zac g))) []:=by
 refine Af.intro (n:=77) Tryz.func36 (hw:=?_);simp only[Zal];by_cases hh:ZpA g
 ·have hh':=hh;obtain⟨a1,a2,a3,a4,a5,a6⟩:=hh';by_cases h6:(g.Aa.length:Int) > 160
  ·(try refine wk ?_)
   rw[show Zac g=⟨6, -1⟩ by rw[Zac,Hb hh,Hb (by omega)]];exact fin
  ·rw[show Zac g=ZeA g g.Aa 0 by rw[Zac,Hb hh,Ha (by omega)]]
   (try refine wk ?_)
   refine Zak (X:=Nat) (fun k=>k≤g.Aa.length∧ZeA g g.Aa 0=ZeA g (g.Aa.drop k) k) (fun k=>[(45,I k),(44,I g.Aa.length),(43,.d (ZaS t g.Aa)),(2,.ptr 2 0),(1,.ptr 1 0)]) (fun _=>[(1,ZaD t g),(2,.box 31 [.d (iD 0),.d (iD 0)])]) (fun k=>g.Aa.length - k) 0 ⟨Hi _,rfl⟩ ?_;rintro k ⟨hk,hp⟩;by_cases hlt:k < g.Aa.length
   ·have hs:=Zrv hlt;have hrk:=hr _ (He hlt);by_cases b1:(g.Aa[k].right.length:Int) > 10
    ·(try refine wk ?_)
     rw[hp,hs,show ZaX g g.Aa[k]=6 by rw[ZaX,Hb (by omega)],Ha (by decide)];exact fin
    ·by_cases b2:g.Aa[k].left < 0
     ·(try refine wk ?_)
      rw[hp,hs,show ZaX g g.Aa[k]=9 by rw[ZaX,Ha (by omega),Hb (.inl b2)],Ha (by decide)];exact fin
     ·by_cases b3:g.vars≤g.Aa[k].left
      ·(try refine wk ?_)
       rw[hp,hs,show ZaX g g.Aa[k]=9 by rw[ZaX,Ha (by omega),Hb (.inr (.inl b3))],Ha (by decide)];exact fin
      ·(try refine wk ?_)
       refine Zab [(1000,1)] (hA:=Zb0 (t:=t) (clos:=65) (caps:=[.ptr 1000 0]) (H:=[(1000,ZaD t g)]) (p:=Ze0 g) ⟨rfl,rfl,rfl,rfl,trivial⟩ (fun x _=>ZuK ⟨a3,a4⟩)) (hr:=?_);cases hb:g.Aa[k].right.any (Ze0 g) with
       | true =>
        (try refine wk ?_)
        rw[hp,hs,show ZaX g g.Aa[k]=9 by rw[ZaX,Ha (by omega),Hb (.inr (.inr hb))],Ha (by decide)];exact fin
       | false =>
        rw[show ZaX g g.Aa[k]=0 by rw[ZaX,Ha (by omega),Ha (by rw[hb];simp;omega)],Hb rfl] at hs
        (try refine wk ?_)
        exact Zad (k+1) (a:=⟨by omega,hp.trans hs⟩)
   ·(try refine wk ?_)
    rw[hp,ZuJ hlt];exact fin
 ·rw[show Zac g=⟨9, -1⟩ by rw[Zac,Ha hh]];by_cases a1:g.vars < 1
  ·(try refine wk ?_)
   exact fin
  by_cases a2:64 < g.vars
  ·(try refine wk ?_)
   exact fin
  by_cases a3:g.terms < 0
  ·(try refine wk ?_)
   exact fin
  by_cases a4:16 < g.terms
  ·(try refine wk ?_)
   exact fin
  by_cases a5:g.start < 0
  ·(try refine wk ?_)
   exact fin
  by_cases a6:g.vars≤g.start
  ·(try refine wk ?_)
   exact fin
  exact absurd (show ZpA g from ⟨by omega,by omega,by omega,by omega,by omega,by omega⟩) hh
theorem wkr {G K:Prop} (hK:K) (h:Bx K→G:=by intro hK;(first|(refine gOp ?_;first|refine ZEk (hr:=?_)|refine ZBl (hr:=?_)|(refine Zsp ?_;first|refine ZEn TY (hr:=?_)|refine ZDe TY (hr:=?_)|refine ZDd TY (hr:=?_)|refine ZBm TY (hr:=?_))|(refine ZlE ?_;first|refine Zlu TY (hr:=?_)|refine ZqD TY (hr:=?_)|refine ZqE TY (hr:=?_))|(refine ZlF ?_;first|refine ZcN TY (hr:=?_)|refine Zcm TY (hr:=?_))|(refine gBin ?_;first|refine ZEX (hr:=?_)|refine ZEU (hr:=?_)|refine ZEV (hr:=?_)|refine s_cat (hr:=?_)|refine s_eqS (hr:=?_)|refine s_neS (hr:=?_)|refine s_eqA (hr:=?_)|refine s_neA (hr:=?_)|refine s_eqB (hr:=?_)|refine s_neB (hr:=?_)|refine ZEW (hr:=?_)|refine d_or (hr:=?_)|refine ZEJ (hr:=?_)|refine ZEK (hr:=?_)|refine ZEL (hr:=?_)|refine ZEM (hr:=?_)|refine ZEN (hr:=?_))|(refine Zsq ?_;first|refine ZE2 TY (hr:=?_)|refine s_lenS TY (hr:=?_)|refine ZE1 TY (hr:=?_)|refine ZcJ TY (hr:=?_)|refine ZEO (hr:=?_)|refine ZEP (hr:=?_))|(refine Zsr ?_;first|refine ZEl true (hr:=?_)|refine ZEl false (hr:=?_)|refine s_pickB (hr:=?_))|(refine gNil ?_;first|refine Zvr (hr:=?_)|refine s_nilCheckO (hr:=?_))|(refine ZlG ?_;first|refine ZDj TY (hr:=?_)|refine ZBn TY (hr:=?_))|(refine gUn ?_;first|refine ZEY (hr:=?_)|refine ZEZ (hr:=?_))|refine ZE0 (hr:=?_)|refine ZDh TY (hr:=?_)|refine ZqJ TY (hr:=?_)|refine ZDi TY (hr:=?_)|refine Zy3 (hr:=?_)|refine Zvs (hr:=?_)|refine ZDk TY (hr:=?_)|refine ZEi (hr:=?_)|refine Zr7 TY (hr:=?_)|refine s_conv (hr:=?_))|refine Zfa ?_|refine ZoJ ?_|refine Zb1 ?_|refine ZcI ?_|refine ZfI ?_|refine Zhb ?_|refine Zhc ?_|refine ZfH ?_|refine Zel ?_|refine Zem ?_|refine Zen ?_|refine Zeo ?_|refine Zep ?_|refine ZcP ?_|refine Zge ?_|refine Zhm ?_|refine Zhn ?_);(repeat (first|(refine gOp ?_;first|refine ZEk (hr:=?_)|refine ZBl (hr:=?_)|(refine Zsp ?_;first|refine ZEn TY (hr:=?_)|refine ZDe TY (hr:=?_)|refine ZDd TY (hr:=?_)|refine ZBm TY (hr:=?_))|(refine ZlE ?_;first|refine Zlu TY (hr:=?_)|refine ZqD TY (hr:=?_)|refine ZqE TY (hr:=?_))|(refine ZlF ?_;first|refine ZcN TY (hr:=?_)|refine Zcm TY (hr:=?_))|(refine gBin ?_;first|refine ZEX (hr:=?_)|refine ZEU (hr:=?_)|refine ZEV (hr:=?_)|refine s_cat (hr:=?_)|refine s_eqS (hr:=?_)|refine s_neS (hr:=?_)|refine s_eqA (hr:=?_)|refine s_neA (hr:=?_)|refine s_eqB (hr:=?_)|refine s_neB (hr:=?_)|refine ZEW (hr:=?_)|refine d_or (hr:=?_)|refine ZEJ (hr:=?_)|refine ZEK (hr:=?_)|refine ZEL (hr:=?_)|refine ZEM (hr:=?_)|refine ZEN (hr:=?_))|(refine Zsq ?_;first|refine ZE2 TY (hr:=?_)|refine s_lenS TY (hr:=?_)|refine ZE1 TY (hr:=?_)|refine ZcJ TY (hr:=?_)|refine ZEO (hr:=?_)|refine ZEP (hr:=?_))|(refine Zsr ?_;first|refine ZEl true (hr:=?_)|refine ZEl false (hr:=?_)|refine s_pickB (hr:=?_))|(refine gNil ?_;first|refine Zvr (hr:=?_)|refine s_nilCheckO (hr:=?_))|(refine ZlG ?_;first|refine ZDj TY (hr:=?_)|refine ZBn TY (hr:=?_))|(refine gUn ?_;first|refine ZEY (hr:=?_)|refine ZEZ (hr:=?_))|refine ZE0 (hr:=?_)|refine ZDh TY (hr:=?_)|refine ZqJ TY (hr:=?_)|refine ZDi TY (hr:=?_)|refine Zy3 (hr:=?_)|refine Zvs (hr:=?_)|refine ZDk TY (hr:=?_)|refine ZEi (hr:=?_)|refine Zr7 TY (hr:=?_)|refine s_conv (hr:=?_))|refine Zfa ?_|refine ZoJ ?_|refine Zb1 ?_|refine ZcI ?_|refine ZfI ?_|refine Zhb ?_|refine Zhc ?_|refine ZfH ?_|refine Zel ?_|refine Zem ?_|refine Zen ?_|refine Zeo ?_|refine Zep ?_|refine ZcP ?_|refine Zge ?_|refine Zhm ?_|refine Zhn ?_));exact hK.out):G:=h ⟨hK⟩
theorem Zxp:Zgt Tryz.prog 31 0 2 0:=Zoe Tryz.underlying31 rfl rfl rfl Tryz.underlying3 rfl
theorem Zxq:Zgt Tryz.prog 31 1 2 1:=Zoe Tryz.underlying31 rfl rfl rfl Tryz.underlying3 rfl
section
variable {h:Hp}
variable {d:Nat} {ty:TypeId} {pos:String} {after:Array Edge} {g:Option (Nat×Bool)}
end
structure Vz (Q:Prop):Prop where out:Q
theorem VA {P Q:Prop} (q:Q) (k:Vz Q→P:=by intro q;(repeat (first|refine wk ?_|refine ZCJ (hr:=?_)));exact q.out):P:=k ⟨q⟩
section
variable {P:Program} {n:Nat} {Q:Exit→Fr→Hp→Prop} {K:Exit→Fr→Hp→Prop} {fr:Fr} {h:Hp}
theorem Zxr {id c d e st yt cty ty:Nat} {x:Operand} {t:Bool} {sz:Nat} {xs:List D} {pos1 pos2:String} {af1 af2:Array Edge} (hT:xs=[]→Q .normal ((d,B true)::(c,.d (.sl t sz xs))::fr) h) (hF:Q .normal ((d,B false)::(c,.d (.sl t sz xs))::fr) h) (hu:Tryz.prog.underlying st=some (.slice e)) (hcn:Nat.blt c n=true:=by exact rfl) (hdn:Nat.blt d n=true:=by exact rfl) (hx:oev fr x=.d (.sl t sz xs):=by exact rfl) :
  aw Tryz.prog n (.region id #[⟨some c,.move x,cty,pos1,af1,none⟩,⟨some d,.binOp .eql st (.tmp c) (.const (.slice none 0 0)) yt,ty,pos2,af2,none⟩] false) Q fr h:=ZBs hcn hdn hx hu hT hF
theorem finx {G:Prop} (h:G:=by (try refine Fin.norm ?_);first|exact Fin.r1 rfl (.of_tmp rfl) (ZEp (by first|exact rfl|(simp;done)|omega|assumption|exact e|(simp[e];done))) Vc Vr|exact Fin.r1 rfl (.of_tmp rfl) Vo Vc Vr|exact Fin.r0 rfl Vc Vr):G:=h
theorem fin2 {G:Prop} (h:G:=by (try refine Fin.norm ?_);exact Fin.r2 rfl (.aggT TY rfl rfl rfl rfl rfl) (.aggT TY rfl rfl rfl rfl rfl) (Co.tup Vl) Vc rfl):G:=h
end
section
variable {G:Ctx} {E:Env} {fr:Fr} {h:Hp} {a:Act} {w:World}
theorem An.takeOver (C:An G E fr h a w) {k k':Nat} {e sz:Nat} {xs xs':List D} {v':Value} (hk:Ah h k=some (.row e sz xs)) (hk':Ah h k'=none) (hlow:k' < 1000)
  (hr:∀ M,RowAt M w e sz (E.row k) xs→RowAt M w e sz v' xs') (hb:∀ b,obOf v'=some b→obOf (E.row k)=some b) :
  An G ⟨E.blk,fun j=>if j=k' then v' else E.row j,E.fp⟩ fr ((k',.row e sz xs')::(k,.dead xs.length)::h) a w:=by
 have hne:k≠k':=by rintro rfl;rw[hk] at hk';cases hk'
 have hg1:Ah ((k',.row e sz xs')::(k,.dead xs.length)::h) k'=some (.row e sz xs'):=Zai _ _ _;have hg2:Ah ((k',.row e sz xs')::(k,.dead xs.length)::h) k=some (.dead xs.length):=by rw[Zar _ _ hne.symm,Zai]
 have hg3:∀ j,j≠k→j≠k'→Ah ((k',.row e sz xs')::(k,.dead xs.length)::h) j=Ah h j:=fun j h1 h2=>by rw[Zar _ _ h2.symm,Zar _ _ h1.symm]
 generalize ((k',.row e sz xs')::(k,.dead xs.length)::h:Hp)=h2 at hg1 hg2 hg3 ⊢;have hmono:∀ j,(Ah h j).isSome=true→(Ah h2 j).isSome=true:=fun j hj=>by
  by_cases e1:j=k
  ·subst e1;rw[hg2];rfl
  ·by_cases e2:j=k'
   ·subst e2;rw[hg1];rfl
   ·rw[hg3 j e1 e2];exact hj
 have hblk:∀ j b,Ai ⟨E.blk,fun j=>if j=k' then v' else E.row j,E.fp⟩ h2 j b→(j=k'∧Ai E h k b)∨(j≠k∧j≠k'∧Ai E h j b):=fun j b hj=>by
  by_cases e2:j=k'
  ·subst e2;refine .inl ⟨rfl,?_⟩;unfold Ai at hj ⊢;rw[hg1] at hj;rw[hk];exact hb b (by simpa using hj)
  ·by_cases e1:j=k
   ·subst e1;unfold Ai at hj;rw[hg2] at hj;cases hj
   ·refine .inr ⟨e1,e2,?_⟩;unfold Ai at hj ⊢;rw[hg3 j e1 e2] at hj;simpa[e2] using hj
 have hlive:∀ b,Live ⟨E.blk,fun j=>if j=k' then v' else E.row j,E.fp⟩ h2 b→Live E h b:=fun b ⟨j,hj⟩=>by
  rcases hblk j b hj with ⟨_,h1⟩|⟨_,_,h1⟩
  ·exact⟨k,h1⟩
  ·exact⟨j,h1⟩
 have T:Trans E h (bars E h G.o) w ⟨E.blk,fun j=>if j=k' then v' else E.row j,E.fp⟩ h2 (bars ⟨E.blk,fun j=>if j=k' then v' else E.row j,E.fp⟩ h2 G.o) w:=by
  refine⟨fun _ _ _=>rfl,fun j _ m hv=>?_,fun j hj s n hv=>?_,fun t b _ hm=>⟨rfl,?_⟩,Hg _⟩
  ·by_cases e1:j=k
   ·subst e1;refine⟨m,.inr (.inr (.inl ?_)),Hg _,fun _=>by simp[hne]⟩;rw[hg2];rcases hv with ⟨_,_,_,h1,h2⟩|⟨_,_,h1,_⟩|h1|⟨_,_,_,_,h1,_⟩ <;> rw[hk] at h1 <;> cases h1
    rw[h2]
   ·by_cases e2:j=k'
    ·subst e2;exfalso;rcases hv with ⟨_,_,_,h1,_⟩|⟨_,_,h1,_⟩|h1|⟨_,_,_,_,h1,_⟩ <;> rw[hk'] at h1 <;> cases h1
    ·exact⟨m,by unfold verAny;rw[hg3 j e1 e2];exact hv,Hg _,fun _=>by simp[e2]⟩
  ·by_cases e1:j=k
   ·subst e1;rcases hv with ⟨_,_,h1,_⟩|⟨_,_,_,_,h1,_⟩ <;> (rw[hg2] at h1;cases h1)
   ·by_cases e2:j=k'
    ·subst e2;rw[hk'] at hj;cases hj
    ·exact⟨n,by unfold verRow at hv ⊢;rw[hg3 j e1 e2] at hv;exact hv⟩
  ·rintro (hl|ho)
   ·exact hm (.inl (hlive b hl))
   ·exact hm (.inr ho)
 refine⟨C.size,C.defers,fun i=>(C.frame i).move T (C.closed i) (fun j hj=>hmono j (C.closed i j hj)),⟨fun j ob hj=>?_,fun j j' b h1 h2=>?_,fun j ob hj i hi=>?_⟩,fun i j hj=>hmono j (C.closed i j hj),C.ext,fun j b hj=>?_,fun j hj hs=>?_,C.outer,C.sub⟩
 ·by_cases e2:j=k'
  ·subst e2;rw[hg1] at hj;cases hj;simp only[ObRep,if_true];have:=C.heap.obs k _ hk;simp only[ObRep] at this;exact hr _ (this.move T.carry (fun _ _=>rfl))
  ·by_cases e1:j=k
   ·subst e1;rw[hg2] at hj;cases hj;trivial
   ·rw[hg3 j e1 e2] at hj;have hr':=C.heap.obs j _ hj;exact hr'.move T hj rfl (by simp only[Ha e2]) rfl (fun _ _=>rfl) (C.heap.closed j _ hj) (fun i hi=>hmono i (C.heap.closed j _ hj i hi))
 ·rcases hblk j b h1 with ⟨rfl,a1⟩|⟨n1,n2,a1⟩ <;> rcases hblk j' b h2 with ⟨rfl,a2⟩|⟨n3,n4,a2⟩
  ·rfl
  ·exact absurd (C.heap.apart k j' b a1 a2) (Ne.symm n3)
  ·exact absurd (C.heap.apart j k b a1 a2) n1
  ·exact C.heap.apart j j' b a1 a2
 ·by_cases e2:j=k'
  ·subst e2;rw[hg1] at hj;cases hj;simp[Ob.keys] at hi
  ·by_cases e1:j=k
   ·subst e1;rw[hg2] at hj;cases hj;simp[Ob.keys] at hi
   ·rw[hg3 j e1 e2] at hj;exact hmono i (C.heap.closed j _ hj i hi)
 ·rcases hblk j b hj with ⟨_,h1⟩|⟨_,_,h1⟩
  ·exact C.fresh k b h1
  ·exact C.fresh j b h1
 ·have e2:j≠k':=by omega
  have hold:(Ah h j).isSome=true:=by
   by_cases e1:j=k
   ·subst e1;rw[hk];rfl
   ·rw[hg3 j e1 e2] at hs;exact hs
  obtain⟨g0,g1,g2,g3⟩:=C.keep j hj hold;refine⟨g0,g1,fun m hm=>?_,fun s n hv=>?_⟩
  ·obtain⟨m1,k1,k2,k3⟩:=g2 m hm;obtain⟨m2,l1,l2,l3⟩:=T.ver j (hmono j hold) m1 k1;exact⟨m2,l1,by omega,fun e=>(l3 (by omega)).trans (k3 (by omega))⟩
  ·obtain⟨m,hm⟩:=T.verR j hold s n hv;exact g3 s m hm
end
section
variable {P:Program} {n:Nat} {Q:Exit→Fr→Hp→Prop} {fr:Fr} {h:Hp}
theorem ZED {c:Code} (i k':Nat) {k m e sz:Nat} {xs:List D} (hi:fget fr i=.own k m) (hk:Ah h k=some (.row e sz xs)) (hm:xs.length=m) (hk':Ah h k'=none) (hlow:Nat.blt k' 1000=true)
  (hc:aw P n c Q ((i,.own k' m)::fr) ((k',.row e sz xs)::(k,.dead m)::h)):aw P n c Q fr h:=by
 intro G E a w hn C;subst hm;have hne:k≠k':=by rintro rfl;rw[hk] at hk';cases hk'
 have C':=C.takeOver (v':=E.row k) (xs':=xs) hk hk' (by simpa[HT] using hlow) (fun _ h=>h) (fun _ h=>h);refine hc G _ a w hn ⟨C'.size,C'.defers,fun j=>?_,C'.heap,fun j=>?_,C'.ext,C'.fresh,C'.keep,C'.outer,C'.sub⟩
 ·by_cases e1:i=j
  ·subst e1;rw[Zbc];have hf:=C.frame i;rw[hi] at hf;simp only[V.Rep] at hf ⊢;obtain⟨m,h1,h2,h3,h4⟩:=hf;have:=Za7 h1 (.inl ⟨_,_,_,hk,rfl⟩);exact⟨xs.length,.inl ⟨_,_,_,Zai _ _ _,rfl⟩,Hg _,h3,fun _=>by simp only[if_true];exact h4 this.symm⟩
  ·rw[Za6 _ _ e1];exact C'.frame j
 ·by_cases e1:i=j
  ·subst e1;rw[Zbc];intro q hq;simp[V.keys] at hq;subst hq;rw[Zai];rfl
  ·rw[Za6 _ _ e1];exact C'.closed j
end
section
variable {h:Hp}
variable {d:Nat} {ty:TypeId} {pos:String} {after:Array Edge} {g:Option (Nat×Bool)}
variable (T:TT P)
end
section
variable {h:Hp}
variable {ty:TypeId} {pos:String} {after:Array Edge}
theorem LStep.skipU {PS:List PanicEntry→Fr→Hp→Prop} {o:Oper} {j:Nat} {want:Bool} {s:Nat} {v:V} (hd:∀ d,o.dst=some d→Nat.blt d n=true) (hg:o.guard=some (j,want)) (hs:(ops[j]?).bind (·.dst)=some s) (hv:v=.tup []∨v=B !want):LStep P n ops PS o [(s,v)] [] (.tup []) []:=by
 intro G E fr' h' a w K Q hPan hn C hi _ hK;have hf:=C.frame s;rw[hi (s,v) (by simp)] at hf;have hw:¬ Region.wanted o (yielded ops a.tmps)=true:=by
  unfold Region.wanted yielded;rw[hg];simp only[hs,Jd];rcases hv with rfl|rfl
  ·simp only[V.Rep] at hf;obtain⟨us,h1,h2⟩:=hf;simp only[V.Reps] at h2;subst h2;simp only[Ja] at h1;cases hb:a.tmps[s]? with
   | none=>simp
   | some u=>rw[hb] at h1;simp at h1;subst h1;simp
  ·simp only[V.Rep,D.RepV,D.Rep,Hy,HB] at hf;have:=hf.1;simp only[Ja] at this;cases hb:a.tmps[s]? with
   | none=>simp
   | some u=>rw[hb] at this;simp at this;subst this;cases want <;> simp
 unfold wpS;rw[Ha hw];refine hK E _ w ?_;cases hdd:o.dst with
 | none=>exact C
 | some d=>exact C.put (by rw[hn];simpa[HT] using hd d hdd) (by simp only[V.Rep];exact⟨[],rfl,by simp[V.Reps]⟩) (by simp[V.keys,V.keyss])
theorem Zxs {dst:Option Tmp} {op:Op} {j:Nat} {want:Bool} {s:Nat} {b:Bool} (hs:(ops[j]?).bind (·.dst)=some s:=by exact rfl) (hb:fget fr s=.d (.raw (.bool b)):=by exact rfl) (hbw:b=!want:=by exact Vh) (hd:∀ d,dst=some d→Nat.blt d n=true:=by simp) (hr:dops P n dr ops rest (⟨[s],dst.toList,[],[]⟩::log) K (dput dst (.tup []) fr) h):dops P n dr ops (⟨dst,op,ty,pos,after,some (j,want)⟩::rest) log K fr h :=
 Zay (ins:=[(s,.d (.raw (.bool !want)))]) (objs:=[]) (LStep.skipU hd rfl hs (.inr rfl)) (by simp;rw[hb,hbw]) (by simp) hr
theorem Zxt {dst:Option Tmp} {op:Op} {j:Nat} {want:Bool} {s:Nat} (hs:(ops[j]?).bind (·.dst)=some s:=by exact rfl) (hb:fget fr s=.tup []:=by exact rfl) (hd:∀ d,dst=some d→Nat.blt d n=true:=by simp) (hr:dops P n dr ops rest (⟨[s],dst.toList,[],[]⟩::log) K (dput dst (.tup []) fr) h):dops P n dr ops (⟨dst,op,ty,pos,after,some (j,want)⟩::rest) log K fr h :=
 Zay (ins:=[(s,.tup [])]) (objs:=[]) (LStep.skipU hd rfl hs (.inl rfl)) (by simp;rw[hb]) (by simp) hr
end
theorem wkz {G K:Prop} (hK:K) (h:Bx K→G:=by intro hK;(first|(refine gOp ?_;first|refine ZEk (hr:=?_)|refine ZBl (hr:=?_)|(refine Zsp ?_;first|refine ZEn TY (hr:=?_)|refine ZDe TY (hr:=?_)|refine ZDd TY (hr:=?_)|refine ZBm TY (hr:=?_))|(refine ZlE ?_;first|refine Zlu TY (hr:=?_)|refine ZqD TY (hr:=?_)|refine ZqE TY (hr:=?_))|(refine ZlF ?_;first|refine ZcN TY (hr:=?_)|refine Zcm TY (hr:=?_))|(refine gBin ?_;first|refine ZEX (hr:=?_)|refine ZEU (hr:=?_)|refine ZEV (hr:=?_)|refine s_cat (hr:=?_)|refine s_eqS (hr:=?_)|refine s_neS (hr:=?_)|refine s_eqA (hr:=?_)|refine s_neA (hr:=?_)|refine s_eqB (hr:=?_)|refine s_neB (hr:=?_)|refine ZEW (hr:=?_)|refine d_or (hr:=?_)|refine ZEJ (hr:=?_)|refine ZEK (hr:=?_)|refine ZEL (hr:=?_)|refine ZEM (hr:=?_)|refine ZEN (hr:=?_))|(refine Zsq ?_;first|refine ZE2 TY (hr:=?_)|refine s_lenS TY (hr:=?_)|refine ZE1 TY (hr:=?_)|refine ZcJ TY (hr:=?_)|refine ZEO (hr:=?_)|refine ZEP (hr:=?_))|(refine Zsr ?_;first|refine ZEl true (hr:=?_)|refine ZEl false (hr:=?_)|refine s_pickB (hr:=?_))|(refine gNil ?_;first|refine Zvr (hr:=?_)|refine s_nilCheckO (hr:=?_))|(refine ZlG ?_;first|refine ZDj TY (hr:=?_)|refine ZBn TY (hr:=?_))|(refine gUn ?_;first|refine ZEY (hr:=?_)|refine ZEZ (hr:=?_))|refine ZE0 (hr:=?_)|refine ZDh TY (hr:=?_)|refine ZqJ TY (hr:=?_)|refine ZDi TY (hr:=?_)|refine Zy3 (hr:=?_)|refine Zvs (hr:=?_)|refine ZDk TY (hr:=?_)|refine Zxs (hr:=?_)|refine Zxt (hr:=?_)|refine Zr7 TY (hr:=?_)|refine s_conv (hr:=?_))|refine Zfa ?_|refine ZoJ ?_|refine Zb1 ?_|refine ZcI ?_|refine ZfI ?_|refine Zhb ?_|refine Zhc ?_|refine ZqB ?_|refine ZfH ?_|refine Zel ?_|refine Zem ?_|refine Zen ?_|refine Zeo ?_|refine Zep ?_|refine ZcP ?_|refine Zge ?_|refine Zhm ?_|refine Zhn ?_);(repeat (first|(refine gOp ?_;first|refine ZEk (hr:=?_)|refine ZBl (hr:=?_)|(refine Zsp ?_;first|refine ZEn TY (hr:=?_)|refine ZDe TY (hr:=?_)|refine ZDd TY (hr:=?_)|refine ZBm TY (hr:=?_))|(refine ZlE ?_;first|refine Zlu TY (hr:=?_)|refine ZqD TY (hr:=?_)|refine ZqE TY (hr:=?_))|(refine ZlF ?_;first|refine ZcN TY (hr:=?_)|refine Zcm TY (hr:=?_))|(refine gBin ?_;first|refine ZEX (hr:=?_)|refine ZEU (hr:=?_)|refine ZEV (hr:=?_)|refine s_cat (hr:=?_)|refine s_eqS (hr:=?_)|refine s_neS (hr:=?_)|refine s_eqA (hr:=?_)|refine s_neA (hr:=?_)|refine s_eqB (hr:=?_)|refine s_neB (hr:=?_)|refine ZEW (hr:=?_)|refine d_or (hr:=?_)|refine ZEJ (hr:=?_)|refine ZEK (hr:=?_)|refine ZEL (hr:=?_)|refine ZEM (hr:=?_)|refine ZEN (hr:=?_))|(refine Zsq ?_;first|refine ZE2 TY (hr:=?_)|refine s_lenS TY (hr:=?_)|refine ZE1 TY (hr:=?_)|refine ZcJ TY (hr:=?_)|refine ZEO (hr:=?_)|refine ZEP (hr:=?_))|(refine Zsr ?_;first|refine ZEl true (hr:=?_)|refine ZEl false (hr:=?_)|refine s_pickB (hr:=?_))|(refine gNil ?_;first|refine Zvr (hr:=?_)|refine s_nilCheckO (hr:=?_))|(refine ZlG ?_;first|refine ZDj TY (hr:=?_)|refine ZBn TY (hr:=?_))|(refine gUn ?_;first|refine ZEY (hr:=?_)|refine ZEZ (hr:=?_))|refine ZE0 (hr:=?_)|refine ZDh TY (hr:=?_)|refine ZqJ TY (hr:=?_)|refine ZDi TY (hr:=?_)|refine Zy3 (hr:=?_)|refine Zvs (hr:=?_)|refine ZDk TY (hr:=?_)|refine Zxs (hr:=?_)|refine Zxt (hr:=?_)|refine Zr7 TY (hr:=?_)|refine s_conv (hr:=?_))|refine Zfa ?_|refine ZoJ ?_|refine Zb1 ?_|refine ZcI ?_|refine ZfI ?_|refine Zhb ?_|refine Zhc ?_|refine ZqB ?_|refine ZfH ?_|refine Zel ?_|refine Zem ?_|refine Zen ?_|refine Zeo ?_|refine Zep ?_|refine ZcP ?_|refine Zge ?_|refine Zhm ?_|refine Zhn ?_));exact hK.out):G:=h ⟨hK⟩
def Zs0 (off:Nat) (c:V) (ob:Ob):Prop:=∃ bt cs,ob=.box bt cs∧cs[off]? = some c
section
variable {P:Program} {n:Nat} {ops:Array Oper} {K:Exit→Fr→Hp→Prop} {dr:Bool} {rest:List Oper} {log:List Rec} {fr:Fr} {h:Hp} {d:Nat} {ty:TypeId} {pos:String} {after:Array Edge} {g:Option (Nat×Bool)}
variable (T:TT P)
theorem Zxu {x:Operand} {t:TypeId} {y:Ty} {k off:Nat} {bt:TypeId} {cs:List V} {c:V} (hdn:Nat.blt d n=true) (hg:gOk ops fr g) (hx:oev fr x=.ptr k off) (hk:Ah h k=some (.box bt cs)) (ht:T.rows[t]? = some y) (hrow:y.row=false) (hc:cs[off]? = some c) (hlog:(log.all fun r=>r.wk.all fun j=>!Nat.beq j k)=true)
  (hr:dops P n dr ops rest (⟨(gIns ops g++ZaF x (.ptr k off)).map Prod.fst,[d],[],[]⟩::log) (fun e fr' h'=>K e fr' h'∧(e=.normal→∃ u,h'=u++h∧∀ q∈u,q.1=k→Zs0 off c q.2)) ((d,c)::fr) h):dops P n dr ops (⟨some d,.load t x,ty,pos,after,g⟩::rest) log K fr h:=by
 refine .inr ⟨gIns ops g++ZaF x (.ptr k off),k,Zs0 off c,c,?_,fun p hp=>?_,⟨_,hk,bt,cs,rfl,hc⟩,fun r hr hm=>?_,hr⟩
 ·intro G E fr' h' a w K Q hPan hn C hi ho hK;obtain⟨ob,hk',bt',cs',rfl,hc'⟩:=ho;have hgo:gOk ops fr' g:=Zid hg (fun p hp=>hi p (List.mem_append.2 (.inl hp)));obtain⟨r,_⟩:=C.oev (ZcC hx (fun p hp=>hi p (List.mem_append.2 (.inr hp)))) (Zam (Zan hx rfl));simp only[V.Rep] at r;obtain⟨us,g1,g2,_⟩:=C.heap.obs k _ hk';obtain⟨u,q1,q2⟩:=g2.get hc';obtain⟨_,ds,_,h2,_,_,h5,_⟩:=ZaG (T.at ht);have hl:=ZeP (P:=P) h2 (by rw[h5];exact hrow) (w:=w) (b:=E.blk k) (o:=off) (u:=u) (by rw[cell_of_row w _ off _ bt' _ g1];simpa using q1);unfold wpS;rw[Hb (Zct C hgo)];refine .inl ?_;unfold Oper.wp;have he:(execOp a.eval ⟨some d,.load t x,ty,pos,after,g⟩).run P w=.ok (.value u) w:=by
   simp only[execOp,r,Sem.run_bind,hl,Result.andThen_ok,Sem.run_pure]
  rw[he];simp only[Oper.upon];refine hK E _ w ?_;exact C.put (by rw[hn];simpa[HT] using hdn) q2 (fun j hj=>C.heap.closed k _ hk' j (by simp only[Ob.keys];exact V.keyss_mem.2 ⟨c,Jl hc',hj⟩))
 ·rcases List.mem_append.1 hp with hp|hp
  ·exact ZdH hg p hp
  ·exact ZbM hx p hp
 ·rw[HQ] at hlog;have h1:=hlog r hr;rw[HQ] at h1;have h2:=h1 k hm;rw[Gt] at h2;cases h2
end
theorem wk1 {G K:Prop} (hK:K) (h:Bx K→G:=by intro hK;(first|(refine gOp ?_;first|refine ZEk (hr:=?_)|refine ZBl (hr:=?_)|(refine Zsp ?_;first|refine ZEn TY (hr:=?_)|refine ZDe TY (hr:=?_)|refine ZDd TY (hr:=?_)|refine ZBm TY (hr:=?_))|(refine ZlE ?_;first|refine Zlu TY (hr:=?_)|refine ZqD TY (hr:=?_)|refine ZqE TY (hr:=?_))|(refine ZlF ?_;first|refine ZcN TY (hr:=?_)|refine Zcm TY (hr:=?_))|(refine gBin ?_;first|refine ZEX (hr:=?_)|refine ZEU (hr:=?_)|refine ZEV (hr:=?_)|refine s_cat (hr:=?_)|refine s_eqS (hr:=?_)|refine s_neS (hr:=?_)|refine s_eqA (hr:=?_)|refine s_neA (hr:=?_)|refine s_eqB (hr:=?_)|refine s_neB (hr:=?_)|refine ZEW (hr:=?_)|refine d_or (hr:=?_)|refine ZEJ (hr:=?_)|refine ZEK (hr:=?_)|refine ZEL (hr:=?_)|refine ZEM (hr:=?_)|refine ZEN (hr:=?_))|(refine Zsq ?_;first|refine ZE2 TY (hr:=?_)|refine s_lenS TY (hr:=?_)|refine ZE1 TY (hr:=?_)|refine ZcJ TY (hr:=?_)|refine ZEO (hr:=?_)|refine ZEP (hr:=?_))|(refine Zsr ?_;first|refine ZEl true (hr:=?_)|refine ZEl false (hr:=?_)|refine s_pickB (hr:=?_))|(refine gNil ?_;first|refine Zvr (hr:=?_)|refine s_nilCheckO (hr:=?_))|(refine ZlG ?_;first|refine ZDj TY (hr:=?_)|refine ZBn TY (hr:=?_))|(refine gUn ?_;first|refine ZEY (hr:=?_)|refine ZEZ (hr:=?_))|refine ZE0 (hr:=?_)|refine ZDh TY (hr:=?_)|refine ZqJ TY (hr:=?_)|refine ZDi TY (hr:=?_)|refine Zy3 (hr:=?_)|refine Zvs (hr:=?_)|refine ZDk TY (hr:=?_)|refine ZEi (hr:=?_)|refine Zr7 TY (hr:=?_)|refine s_conv (hr:=?_))|refine Zfa ?_|refine ZoJ ?_|refine Zb1 ?_|refine ZcI ?_|refine ZfI ?_|refine Zhb ?_|refine Zhc ?_|refine ZqB ?_|refine ZfH ?_|refine Zel ?_|refine Zem ?_|refine Zen ?_|refine Zeo ?_|refine Zep ?_|refine ZcP ?_|refine Zge ?_|refine Zhm ?_|refine Zhn ?_);exact hK.out):G:=h ⟨hK⟩
theorem Zxv {K:Exit→Fr→Hp→Prop} {k off:Nat} {c:V} {fr:Fr} {h h' u:Hp} (hK:K .normal fr h') (hu:h'=u++h) (hq:∀ q∈u,q.1=k→Zs0 off c q.2):(fun e fr' h'=>K e fr' h'∧(e=.normal→∃ u,h'=u++h∧∀ q∈u,q.1=k→Zs0 off c q.2)) .normal fr h':=⟨hK,fun _=>⟨u,hu,hq⟩⟩
abbrev nilT:D:=.raw (.slice none 0 0)
theorem Zcy {t:Bool} {xs:List Int} (hl:xs.length≤100000000:=by exact Vm) :
  Af Tryz.prog 52 [.d (ints t xs)] [] (.own 5 xs.length) [(5,.row 3 1 (xs.map iD))]:=by
 refine Af.intro (n:=8) Tryz.func52 (hw:=?_);simp only[Zal];refine Zfa ?_;refine ZoJ ?_;refine ZBl (hr:=?_);refine ZcI ?_;refine Zb1 ?_;refine Zfa ?_;refine Zfa ?_;refine Zxr ?_ ?_ ZDl
 ·intro hx;have hx':xs=[]:=by simpa using hx
  subst hx';repeat (first|refine wkr ?_|refine ZCJ (hr:=?_))
  refine ZbB 2 5 3 1 rfl rfl rfl ?_;refine VA ?_;exact fin
 ·refine VA ?_;exact finx
theorem Tree.eta (x:Tree):x=.mk x.rule x.Ab:=by cases x;rfl
theorem Tree.lt {x y:Tree} (h:y∈x.Ab):SizeOf.sizeOf y < SizeOf.sizeOf x:=by
 cases x with
 | mk r k =>
  simp only[Tree.Ab] at h;have:=List.sizeOf_lt_of_mem h;simp;omega
theorem Tree.ind {P:Tree→Prop} (h:∀ x,(∀ y∈x.Ab,P y)→P x):∀ x,P x:=by
 have key:∀ (n:Nat) (x:Tree),SizeOf.sizeOf x < n→P x:=by
  intro n
  induction n with
  | zero=>intro x hx;omega
  | succ n ih=>exact fun x hx=>h x (fun y hy=>ih y (by have:=Tree.lt hy;omega))
 exact fun x=>key _ x (Gj _)
mutual
def cnt:Tree→Nat
 | .mk _ k=>1+cnts k
def cnts:List Tree→Nat
 | []=>0
 | x::r=>cnt x+cnts r
end
theorem Zcz (x:Tree):cnt x=1+cnts x.Ab:=by cases x;rfl
theorem ZfZ (x:Tree):1≤cnt x:=by rw[Zcz];omega
theorem ZaI:∀ (a b:List Tree),cnts (a++b)=cnts a+cnts b
 | [],b=>by simp[cnts]
 | x::a,b=>by simp only[Hv,cnts,ZaI a b];omega
theorem Zbq {x:Tree}:∀ {l:List Tree},x∈l→cnt x≤cnts l
 | y::l,h=>by
  simp only[cnts];rcases List.mem_cons.1 h with rfl|h
  ·omega
  ·have:=Zbq h;omega
theorem Zco:∀ (l:List Tree),l.length≤cnts l
 | []=>by simp
 | x::l=>by have:=Zco l;have:=ZfZ x;simp only[Hl,cnts];omega
theorem ZpB {l:List Tree} {i:Nat} (h:i < l.length):cnts (l.drop i)=cnt l[i]+cnts (l.drop (i+1)):=by
 rw[Hw h,cnts]
theorem ZkJ {l:List Tree} {i:Nat} (h:i < l.length):cnts (l.take (i+1))=cnts (l.take i)+cnt l[i]:=by
 rw[HE h,ZaI];simp[cnts]
def ZgB (l:Int) (n:Nat):Int:=if (n:Int)≤l then l - n else -1
mutual
def fits (g:Ac):Tree→Int→Bool
 | .mk r k,v=>match (if 0≤r then g.Aa[r.toNat]? else none) with
  | none=>false
  | some ru=>decide (ru.left=v) && (decide ((Ab ru.right).length=k.length) && fitss g k (Ab ru.right))
def fitss (g:Ac):List Tree→List Int→Bool
 | x::k,v::vs=>fits g x v && fitss g k vs
 | _,_=>true
end
theorem Zf0 (g:Ac) (x:Tree) (v:Int):fits g x v=match (if 0≤x.rule then g.Aa[x.rule.toNat]? else none) with
  | none=>false
  | some ru=>decide (ru.left=v) && (decide ((Ab ru.right).length=x.Ab.length) && fitss g x.Ab (Ab ru.right)):=by cases x;rw[fits];rfl
theorem ZuL {g:Ac} {k:List Tree} {vs:List Int} {i:Nat} (h1:i < k.length) (h2:i < vs.length):fitss g (k.drop i) (vs.drop i)=(fits g k[i] vs[i] && fitss g (k.drop (i+1)) (vs.drop (i+1))):=by
 rw[Hw h1,Hw h2,fitss]
theorem Zxw {g:Ac} {k:List Tree} {vs:List Int} {i:Nat} (h1:¬ i < k.length):fitss g (k.drop i) (vs.drop i)=true:=by
 rw[HL (by omega)];simp[fitss]
mutual
def Zbm (g:Ac):Tree→List Int
 | .mk r k=>wordL g ((g.Aa[r.toNat]?).getD ⟨0,[]⟩).right k
 termination_by x=>(cnt x,0)
 decreasing_by simp[cnt,Prod.lex_def]
def wordL (g:Ac):List Int→List Tree→List Int
 | [],_=>[]
 | s::ss,k=>if s < 0 then (-1 - s)::wordL g ss k else match k with
  | x::k=>Zbm g x++wordL g ss k
  | []=>wordL g ss []
 termination_by ss k=>(cnts k,ss.length+1)
 decreasing_by all_goals (simp[cnts,Prod.lex_def];try omega)
end
mutual
def ordT:Tree→Tree→Int
 | .mk r k,.mk s l=>if r < s then -1 else if s < r then 1 else ordL k l
def ordL:List Tree→List Tree→Int
 | [],[]=>0
 | [],_::_ => -1
 | _::_,[]=>1
 | a::k,b::l=>if ordT a b=0 then ordL k l else ordT a b
end
theorem ZCo (a b:Tree):ordT a b=if a.rule < b.rule then -1 else if b.rule < a.rule then 1 else ordL a.Ab b.Ab:=by cases a;cases b;rw[ordT];rfl
theorem Zxx {k l:List Tree} {i:Nat} (h1:i < k.length) (h2:i < l.length):ordL (k.drop i) (l.drop i)=if ordT k[i] l[i]=0 then ordL (k.drop (i+1)) (l.drop (i+1)) else ordT k[i] l[i]:=by
 rw[Hw h1,Hw h2,ordL]
theorem ZCp {k l:List Tree} {i:Nat} (h1:¬ i < k.length) (h2:i < l.length):ordL (k.drop i) (l.drop i) = -1:=by
 rw[HL (by omega),Hw h2,ordL]
theorem ZCq {k l:List Tree} {i:Nat} (h1:i < k.length) (h2:¬ i < l.length):ordL (k.drop i) (l.drop i)=1:=by
 rw[Hw h1,HL (show l.length≤i by omega),ordL]
theorem ZAk {k l:List Tree} {i:Nat} (h1:¬ i < k.length) (h2:¬ i < l.length):ordL (k.drop i) (l.drop i)=0:=by
 rw[HL (by omega),HL (by omega),ordL]
mutual
theorem ZdS:∀ (a b:Tree),ordT b a = -ordT a b
 | .mk r k,.mk s l=>by
  have:=Zs1 k l;rw[ordT,ordT];by_cases h1:r < s
  ·have h2:¬ s < r:=by omega
   simp[h1,h2]
  ·by_cases h2:s < r
   ·simp[h1,h2]
   ·simp[h1,h2,this]
theorem Zs1:∀ (a b:List Tree),ordL b a = -ordL a b
 | [],[]=>by simp[ordL]
 | [],_::_=>by simp[ordL]
 | _::_,[]=>by simp[ordL]
 | a::k,b::l=>by
  have h1:=ZdS a b;have h2:=Zs1 k l;rw[ordL,ordL,h1,h2];by_cases h:ordT a b=0
  ·rw[Hb h,Hb (by omega)]
  ·rw[Ha h,Ha (by omega)]
end
mutual
theorem ZpC:∀ (a:Tree),ordT a a=0
 | .mk r k=>by rw[ordT,Ha (by omega),Ha (by omega)];exact ZpD k
theorem ZpD:∀ (a:List Tree),ordL a a=0
 | []=>by simp[ordL]
 | a::k=>by rw[ordL,ZpC a,Hb rfl];exact ZpD k
end
mutual
theorem Ze1:∀ (a b:Tree),ordT a b=0→a=b
 | .mk r k,.mk s l,h=>by
  rw[ordT] at h;by_cases h1:r < s
  ·rw[Hb h1] at h;cases h
  ·by_cases h2:s < r
   ·rw[Ha h1,Hb h2] at h;cases h
   ·rw[Ha h1,Ha h2] at h;obtain rfl:r=s:=(by omega);rw[ZpE k l h]
theorem ZpE:∀ (a b:List Tree),ordL a b=0→a=b
 | [],[],_=>rfl
 | [],_::_,h=>by simp[ordL] at h
 | _::_,[],h=>by simp[ordL] at h
 | a::k,b::l,h=>by
  rw[ordL] at h;by_cases h1:ordT a b=0
  ·rw[Hb h1] at h;rw[Ze1 a b h1,ZpE k l h]
  ·rw[Ha h1] at h;exact absurd h h1
end
mutual
theorem Zgl:∀ (a b c:Tree),ordT a b≤0→ordT b c≤0→ordT a c≤0
 | .mk r k,.mk s l,.mk q m,h1,h2=>by
  rw[ordT] at h1 h2 ⊢;by_cases a1:r < s
  ·by_cases b1:s < q
   ·rw[Hb (by omega)];decide
   ·by_cases b2:q < s
    ·rw[Ha b1,Hb b2] at h2;omega
    ·rw[Hb (by omega)];decide
  ·by_cases a2:s < r
   ·rw[Ha a1,Hb a2] at h1;omega
   ·rw[Ha a1,Ha a2] at h1;by_cases b1:s < q
    ·rw[Hb (by omega)];decide
    ·by_cases b2:q < s
     ·rw[Ha b1,Hb b2] at h2;omega
     ·rw[Ha b1,Ha b2] at h2;rw[Ha (by omega),Ha (by omega)];exact Zmu k l m h1 h2
theorem Zmu:∀ (a b c:List Tree),ordL a b≤0→ordL b c≤0→ordL a c≤0
 | [],_,[],_,_=>by simp[ordL]
 | [],_,_::_,_,_=>by simp[ordL]
 | _::_,[],_,h1,_=>by simp[ordL] at h1
 | _::_,_::_,[],_,h2=>by simp[ordL] at h2
 | a::k,b::l,c::m,h1,h2=>by
  rw[ordL] at h1 h2 ⊢;by_cases a0:ordT a b=0
  ·obtain rfl:=Ze1 a b a0;rw[Hb a0] at h1;by_cases b0:ordT a c=0
   ·rw[Hb b0] at h2 ⊢;exact Zmu k l m h1 h2
   ·rw[Ha b0] at h2 ⊢;exact h2
  ·rw[Ha a0] at h1;by_cases b0:ordT b c=0
   ·obtain rfl:=Ze1 b c b0;rw[Ha a0];exact h1
   ·rw[Ha b0] at h2;have h3:=Zgl a b c h1 h2;by_cases c0:ordT a c=0
    ·exfalso;obtain rfl:=Ze1 a c c0;have:=ZdS a b;omega
    ·rw[Ha c0];exact h3
end
theorem Ao.treeE {h:Hp} {t u:Bool} {sz i off:Nat} {xs:List Tree} (hi:i < xs.length):Ao h (.eptr t sz (xs.map (Zbb u)) i off) (ZbD u xs[i]) off []:=by
 have:=Ao.mapE (h:=h) (t:=t) (sz:=sz) (off:=off) (f:=Zbb u) hi
 rwa [Zdu] at this
theorem Ao.treeO {h:Hp} {u:Bool} {k m sz i off:Nat} {e:TypeId} {xs:List Tree} (hk:Ah h k=some (.row e sz (xs.map (Zbb u)))) (hm:(xs.map (Zbb u)).length=m) (hi:i < xs.length):Ao h (.optr k m i off) (ZbD u xs[i]) off [(k,some (.row e sz (xs.map (Zbb u))))]:=by
 have:=Ao.mapO (f:=Zbb u) (off:=off) hk hm hi
 rwa [Zdu] at this
theorem VB {P Q:Prop} (q:Q) (k:Vz Q→P:=by intro q;(repeat (first|refine wkz ?_|refine ZCJ (hr:=?_)));exact q.out):P:=k ⟨q⟩
end Go.Proofs.YtbpmepgnjanhnaaGreat
