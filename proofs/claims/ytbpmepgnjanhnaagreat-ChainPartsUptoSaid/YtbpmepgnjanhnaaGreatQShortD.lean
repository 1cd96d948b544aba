import Derived.Test.YtbpmepgnjanhnaaGreatQShortB
import Derived.Test.YtbpmepgnjanhnaaGreatQChartJ
import Derived.Test.YtbpmepgnjanhnaaGreatQGramC
import Derived.Test.YtbpmepgnjanhnaaGreatQTreeA
import Derived.Test.YtbpmepgnjanhnaaGreatS5
import Derived.Test.YtbpmepgnjanhnaaGreatQFactorD
import Derived.Test.YtbpmepgnjanhnaaGreatQSpA
import Derived.Test.YtbpmepgnjanhnaaGreatQTrimE
import Derived.Test.YtbpmepgnjanhnaaGreatQFoG
import Derived.Test.YtbpmepgnjanhnaaGreatQTrA
import Derived.Test.YtbpmepgnjanhnaaGreatFrG
import Derived.Test.YtbpmepgnjanhnaaGreatQSaP
import Derived.Test.YtbpmepgnjanhnaaGreatQSimPf
import Derived.Shelf.SlSortCmp.InsertionK
import Derived.Shelf.SlSortCmp.WholeK
import Derived.Shelf.SlSortCmp.NoneTotal
import Derived.Test.YtbpmepgnjanhnaaGreatChecked
set_option linter.unusedVariables false
set_option linter.unusedSimpArgs false
set_option linter.unusedSectionVars false
namespace Go.Proofs.YtbpmepgnjanhnaaGreat
open Go.RowKit
set_option maxRecDepth 100000
set_option maxRecDepth 100000
theorem ZjO:∀ (k:Nat),cpL (ZaH k)=k
 | 0=>rfl
 | k+1=>by
  unfold ZaH at *
  rw[List.range_succ,List.map_append,ZcG]
  have:=ZjO k
  unfold ZaH at this
  rw[this]
  simp[cpL,cpF]
theorem Ztc (g:Gram):∀ w:List Int,cpL (wayF g w)=fszs (wayF g w)
 | []=>rfl
 | [r]=>by simp[wayF,ZaQ,cpL,cpF,fszs,fsz,ZjO,Zgt]
 | r::r2::rest=>by
  rw[wayF]
  simp only[cpL,cpF,fszs,fsz,true_or,if_true,Ztc g (r2::rest)]
theorem Zvy {w:List Int} (h:0 < w.length):ZeX w=w[w.length - 1]'(by omega):=by
 unfold ZeX
 rw[List.getLastD_eq_getLast?,List.getLast?_eq_getElem?,List.getElem?_eq_getElem (by omega)];rfl
theorem Zn6 {g:Gram}:∀ (n:Nat) (v:Int) (w:List Int),w∈wys g n v→∀ x∈w,∃ k,∃ _:k < g.rules.length,x=((k:Nat):Int)
 | 0,v,w,h=>by simp[wys] at h
 | n+1,v,w,h=>by
  rw[wys] at h
  obtain⟨i,hi,hw⟩:=List.mem_flatMap.1 h
  obtain⟨k,hk,e,_⟩:=by_mem.1 hi
  split at hw
  ·rw[List.mem_singleton] at hw;subst hw
   intro x hx
   rw[List.mem_singleton] at hx;subst hx
   exact⟨k,hk,e⟩
  ·obtain⟨y,hy,rfl⟩:=List.mem_map.1 hw
   intro x hx
   rcases List.mem_cons.1 hx with rfl|hx
   ·exact⟨k,hk,e⟩
   ·exact Zn6 n _ y hy x hx
theorem Ztd {w:List Int} (h:w≠[]):ZeX w∈w:=by
 have hl:0 < w.length:=List.length_pos_iff.2 h
 rw[Zvy hl]
 exact List.getElem_mem _
section
variable {g:Gram} (hg:g.ok) (hc:cycL g=[])
include hg hc
theorem Zwv {v:Int} (h0:0≤v) (h1:v < g.vars) {w:List Int} (hw:w∈ways g v):w≠[]:=by
 rw[ZhX hg hc h0 h1] at hw
 obtain⟨k,_,hk⟩:=List.mem_flatMap.1 hw
 exact Zpf hk
theorem Zvz {v:Int} (h0:0≤v) (h1:v < g.vars) {w:List Int} (hw:w∈ways g v):∃ k,∃ h:k < g.rules.length,ZeX w=((k:Nat):Int)∧Zam g (ZeX w)=g.rules[k].right:=by
 have hne:=Zwv hg hc h0 h1 hw
 obtain⟨k,hk,e⟩:=Zn6 _ _ _ hw _ (Ztd hne)
 exact⟨k,hk,e,by rw[e,ZaW hk]⟩
end
theorem ZpE {g:Gram}:∀ (n:Nat) (v:Int) (w:List Int),w∈wys g n v→ZaJ (Zam g (ZeX w)) < 0
 | 0,v,w,h=>by simp[wys] at h
 | n+1,v,w,h=>by
  rw[wys] at h
  obtain⟨i,_,hi⟩:=List.mem_flatMap.1 h
  split at hi
  ·rename_i hu
   rw[List.mem_singleton] at hi;subst hi;exact hu
  ·obtain⟨x,hx,rfl⟩:=List.mem_map.1 hi
   have ih:=ZpE n _ x hx
   have hne:x≠[]:=by
    intro e
    subst e
    cases n with
    | zero=>simp[wys] at hx
    | succ n =>
     rw[wys] at hx
     obtain⟨j,_,hj⟩:=List.mem_flatMap.1 hx
     split at hj
     ·simp at hj
     ·obtain⟨y,_,hy⟩:=List.mem_map.1 hj
      cases hy
   rw[Zgv i hne];exact ih
theorem Zte (m:Int) {g:Gram}:∀ (w:List Int),w≠[]→(∀ x∈w,0≤x∧x < m)→usL m (wayF g w) (List.replicate (kN g (ZeX w)) 0)=(true,List.replicate (kN g (ZeX w)) 1)
 | [],h,_=>absurd rfl h
 | [r],_,h=>by
  have:=h r (by simp)
  rw[wayF,ZaQ,usL,usF,if_pos rfl,if_neg (by omega),show ZeX [r]=r from rfl,Zhy]
  simp[usL]
 | r::r2::rest,_,h=>by
  have h0:=h r (by simp)
  have ih:=Zte m (g:=g) (r2::rest) (by simp) (fun x hx=>h x (List.mem_cons_of_mem _ hx))
  rw[wayF,Zgv r (by simp),usL,usF,if_pos rfl,if_neg (by omega),ih]
  simp[usL]
theorem ZvA {g:Gram} {v:Int} {w:List Int} (hne:w≠[]) (hw:∀ x∈w,∃ k,∃ _:k < g.rules.length,x=((k:Nat):Int)) (hs:fszs (wayF g w)≤60):Zax g (wayF g w) (ZhY g v w).right=0:=by
 have h2:=Zte g.rules.length (g:=g) w hne (fun x hx=>by obtain⟨k,hk,e⟩:=hw x hx;omega)
 rw[Zax,if_neg (by rw[Ztc];omega),if_pos]
 rw[Zia]
 show ((usL _ _ (List.replicate (kN g (ZeX w)) 0)).1 && (usL _ _ (List.replicate (kN g (ZeX w)) 0)).2.all _)=true
 rw[h2];simp
theorem ZjP {g:Gram} {v:Int}:∀ {l:List (List Int)},(∀ w∈l,Zax g (wayF g w) (ZhY g v w).right=0)→Zd3 g (l.map (wayF g)) (l.map (ZhY g v))
 | [],_=>.nil
 | w::l,h=>.cons (h w (by simp)) (ZjP (fun x hx=>h x (by simp[hx])))
theorem Zis {g:Gram} {v:Nat} (h:ZdA g v=true):(Zb0 g v).length+(ways g v).length≤160∧∀ w∈ways g v,fszs (wayF g w)≤60:=by
 rw[ZdA,Bool.and_eq_true,List.all_eq_true] at h
 exact⟨of_decide_eq_true h.1,fun w hw=>of_decide_eq_true (h.2 w hw)⟩
section
variable {g:Gram} (hg:g.ok) (hc:cycL g=[])
include hg hc
theorem Zit:∀ k,k≤g.vars.toNat→(∀ u,u < k→ZdA g u=true)→Zd3 g (ZcW g k) (Zb0 g k)
 | 0,_,_=>.nil
 | k+1,hk,h=>by
  have ih:=Zit k (by omega) (fun u hu=>h u (by omega))
  rw[Zdc,Zd6]
  obtain⟨_,h2⟩:=Zis (h k (by omega))
  refine ih.append (ZjP fun w hw=>ZvA (Zwv hg hc (by omega) (by omega) hw) (Zn6 _ _ _ hw) (h2 w hw))
theorem ZjQ:∀ k,k≤g.vars.toNat→∀ r∈Zb0 g k,(0≤r.left∧r.left < k)∧(∃ q∈g.rules,r.right=q.right)∧ZaJ r.right < 0
 | 0,_,r,h=>by simp[Zb0] at h
 | k+1,hk,r,h=>by
  rw[Zdc] at h
  rcases List.mem_append.1 h with h|h
  ·have:=ZjQ k (by omega) r h
   exact⟨by omega,this.2⟩
  ·obtain⟨w,hw,rfl⟩:=List.mem_map.1 h
   obtain⟨j,hj,_,e⟩:=Zvz hg hc (v:=(k:Int)) (by omega) (by omega) hw
   refine⟨by simp only[ZhY];omega,⟨_,List.getElem_mem hj,e⟩,ZpE _ _ _ hw⟩
theorem ZmB (h:∀ u,u < g.vars.toNat→ZdA g u=true):(Zb0 g g.vars.toNat).length≤160:=by
 have hv:=hg.vars1
 obtain⟨n,hn⟩:∃ n,g.vars.toNat=n+1:=⟨g.vars.toNat - 1,by omega⟩
 have:=(Zis (h n (by omega))).1
 rw[hn,Zdc,List.length_append,List.length_map];omega
theorem ZpF (h:∀ u,u < g.vars.toNat→ZdA g u=true):(Zf1 g).g.ok:=by
 have hm:=ZjQ hg hc g.vars.toNat (Nat.le_refl _)
 have hv:=hg.vars1
 refine⟨hg.vars1,hg.vars,hg.terms0,hg.terms,hg.start0,hg.start,ZmB hg hc h,fun r hr=>?_,fun r hr=>(hm r hr).1.1,fun r hr=>?_,fun r hr s hs=>?_,fun r hr s hs=>?_⟩
 ·obtain⟨q,hq,e⟩:=(hm r hr).2.1
  rw[e];exact hg.right q hq
 ·have:=(hm r hr).1.2
  show r.left < g.vars
  omega
 ·obtain⟨q,hq,e⟩:=(hm r hr).2.1
  rw[e] at hs;exact hg.lo q hq s hs
 ·obtain⟨q,hq,e⟩:=(hm r hr).2.1
  rw[e] at hs;exact hg.hi q hq s hs
theorem ZqT (h:∀ u,u < g.vars.toNat→ZdA g u=true):Zar g (Zf1 g)=⟨0,0⟩ :=
 Zib hg (ZpF hg hc h) rfl (Zit hg hc _ (Nat.le_refl _) h)
theorem Zha:∀ k,k≤g.vars.toNat→(∀ u,u < k→ZdA g u=true)→∀ l∈ZcW g k,fszs l≤60
 | 0,_,_,l,hl=>by simp[ZcW] at hl
 | k+1,hk,h,l,hl=>by
  rw[Zd6] at hl
  rcases List.mem_append.1 hl with hl|hl
  ·exact Zha k (by omega) (fun u hu=>h u (by omega)) l hl
  ·obtain⟨w,hw,rfl⟩:=List.mem_map.1 hl
   exact (Zis (h k (by omega))).2 w hw
end
theorem Zhb (g:Gram):((Zac g).code≠0∧ZbS g=(zeroStep,Zac g))∨(ZbS g=(zeroStep,⟨10, -1⟩))∨(∃ v:Nat,ZbS g=(zeroStep,⟨6,(v:Int)⟩)) ∨
  (g.ok∧cycL g=[]∧(∀ u,u < g.vars.toNat→ZdA g u=true)∧ZbS g=(Zf1 g,⟨0,0⟩)):=by
 by_cases h:(Zac g).code=0
 ·by_cases hcy:0 < (cycL g).length
  ·exact .inr (.inl (by rw[ZbS,if_pos h,if_pos hcy]))
  ·cases hf:(List.range g.vars.toNat).find? (fun v=>!ZdA g v) with
   | some v=>exact .inr (.inr (.inl ⟨v,by rw[ZbS,if_pos h,if_neg hcy,hf]⟩))
   | none =>
    refine .inr (.inr (.inr ⟨Za1 h,List.length_eq_zero_iff.1 (by omega),fun u hu=>?_,by rw[ZbS,if_pos h,if_neg hcy,hf]⟩))
    rw[List.find?_eq_none] at hf
    have:=hf u (List.mem_range.2 hu)
    simpa using this
 ·exact .inl ⟨h,by rw[ZbS,if_neg h]⟩
theorem Zd7:zeroStep.fit:=⟨⟨by decide,fun r hr=>by simp[zeroStep] at hr⟩,by decide,fun l hl=>by simp[zeroStep] at hl,by decide⟩
theorem ZqU (g:Gram):(ZbS g).1.fit:=by
 rcases Zhb g with ⟨_,h⟩|h|⟨v,h⟩|⟨hg,hc,ha,h⟩
 ·rw[h];exact Zd7
 ·rw[h];exact Zd7
 ·rw[h];exact Zd7
 ·rw[h]
  have h1:=ZmB hg hc ha
  have h2:=Zn5 g g.vars.toNat
  exact⟨(ZpF hg hc ha).fit,(by show (ZcW g g.vars.toNat).length≤_;omega),fun l hl=>Nat.le_trans (Zha hg hc _ (Nat.le_refl _) ha l hl) (by decide),by simp[Zf1,cnts]⟩
theorem Zn7 {g:Gram} (h0:(ZbS g).2.code=0):Zar g (ZbS g).1=⟨0,0⟩:=by
 rcases Zhb g with ⟨h1,h⟩|h|⟨v,h⟩|⟨hg,hc,ha,h⟩
 ·rw[h] at h0;exact absurd h0 h1
 ·rw[h] at h0;cases h0
 ·rw[h] at h0;cases h0
 ·rw[h];exact ZqT hg hc ha
set_option maxRecDepth 100000
set_option maxRecDepth 100000
set_option maxRecDepth 100000
set_option maxRecDepth 100000
set_option maxRecDepth 100000
theorem ZjR (g:Gram):∃ r,((Zac g).code=0→Fac g.vars.toNat (Za0 g) 0 r)∧((Zac g).code=0→∀ z,r=.ok z→FInv g z z.length):=by
 by_cases h:(Zac g).code=0
 ·have hg:=Za1 h
  obtain⟨r,h1,h2⟩:=Zkk hg 65 _ (by omega) (Nat.le_refl _) (ZlR hg)
  exact⟨r,fun _=>h1,fun _=>h2⟩
 ·exact⟨.error 0,fun hh=>absurd hh h,fun hh=>absurd hh h⟩
theorem Zd8:zeroStep.fit:=⟨⟨by decide,fun r hr=>by simp[zeroStep] at hr⟩,by decide,fun l hl=>by simp[zeroStep] at hl,by decide⟩
theorem Zf2 {g:Gram} {r:Except Nat (List (List Work))} (hz:(Zac g).code=0→∀ z,r=.ok z→FInv g z z.length) :
  ((Zac g).code≠0∧Zca g r=(zeroStep,Zac g))∨(∃ i:Nat,Zca g r=(zeroStep,⟨6,(i:Int)⟩)) ∨
  ∃ z x,g.ok∧FInv g z z.length∧finW z 0 [] []=.ok x∧Zca g r=(⟨outG g z x,x.2,[]⟩,⟨0,0⟩):=by
 by_cases h:(Zac g).code=0
 ·rw[Zca,if_pos h]
  cases r with
  | error v=>exact .inr (.inl ⟨v,rfl⟩)
  | ok z =>
   cases hc:finW z 0 [] [] with
   | error v=>exact .inr (.inl ⟨v,by rw[Zc8];simp only[hc]⟩)
   | ok x=>exact .inr (.inr ⟨z,x,Za1 h,hz h z rfl,hc,by rw[Zc8];simp only[hc];rfl⟩)
 ·rw[Zca,if_neg h];exact .inl ⟨h,rfl⟩
theorem Zn8 {g:Gram} {r:Except Nat (List (List Work))} (hz:(Zac g).code=0→∀ z,r=.ok z→FInv g z z.length):(Zca g r).1.fit:=by
 rcases Zf2 hz with ⟨_,h⟩|⟨i,h⟩|⟨z,x,hg,hI,hx,h⟩
 ·rw[h];exact Zd8
 ·rw[h];exact Zd8
 ·rw[h]
  have h1:=Zwn hg hI hx
  obtain⟨h2,h3⟩:=ZuZ hI hx
  exact⟨h1.fit,(by show x.2.length≤_;omega),fun l hl=>Nat.le_trans (h3 l hl) (by decide),by simp[cnts]⟩
theorem ZmC {g:Gram} {r:Except Nat (List (List Work))} (hz:(Zac g).code=0→∀ z,r=.ok z→FInv g z z.length) (h0:(Zca g r).2.code=0):Zar g (Zca g r).1=⟨0,0⟩:=by
 rcases Zf2 hz with ⟨h1,h⟩|⟨i,h⟩|⟨z,x,hg,hI,hx,h⟩
 ·rw[h] at h0;exact absurd h0 h1
 ·rw[h] at h0;cases h0
 ·rw[h];exact ZuY hg hI hx
set_option maxRecDepth 100000
noncomputable def facR (g:Gram):Except Nat (List (List Work)):=Classical.choose (ZjR g)
theorem Zn9 (g:Gram):((Zac g).code=0→Fac g.vars.toNat (Za0 g) 0 (facR g))∧((Zac g).code=0→∀ z,facR g=.ok z→FInv g z z.length):=Classical.choose_spec (ZjR g)
noncomputable def pasS (k:Int) (g:Gram):Step×Fault :=
 if k=1 then Zf5 g else if k=2 then ZdR g else if k=3 then ZbS g else if k=4 then ZbZ g else if k=5 then Zca g (facR g) else if k=6 then Ze0 g else (zeroStep,⟨16,0⟩)
theorem Zk2 (k:Int) (g:Gram):(pasS k g).1.fit:=by
 unfold pasS
 split
 ·exact ZtM g
 ·split
  ·exact Zu6
  ·split
   ·exact ZqU g
   ·split
    ·exact Zj4 g
    ·split
     ·exact Zn8 (Zn9 g).2
     ·split
      ·exact Zm4 g
      ·exact Zd8
set_option maxHeartbeats 4000000 in
theorem ZvB {k:Int} {g:Gram} (hf:g.fit):ACalls Tryz.prog 37 [I k,.d (Za6 false g)] [] (.tup [.d (Zcf false (pasS k g).1),.d (Zba (pasS k g).2)]) []:=by
 refine ACalls.intro (n:=45) Tryz.func37 rfl rfl (by simp) (by rfl) ?_
 simp only[Zal]
 have h1:=ZmQ hf
 have h2:=Zns (t:=false) hf
 have h3:=Zk1 hf
 have h4:=Zf4 (t:=false) hf
 have h5:=Zi6 hf (Zn9 g).1
 have h6:=ZgZ hf
 unfold pasS
 by_cases e1:k=1
 ·rw[if_pos e1]
  refine VA ?_
  refine Zab [] (hA:=h1) (hr:=?_)
  refine VA ?_
  exact fin2
 rw[if_neg e1]
 by_cases e2:k=2
 ·rw[if_pos e2]
  refine VA ?_
  refine Zab [] (hA:=h2) (hr:=?_)
  refine VA ?_
  exact fin2
 rw[if_neg e2]
 by_cases e3:k=3
 ·rw[if_pos e3]
  refine VA ?_
  refine Zab [] (hA:=h3) (hr:=?_)
  refine VA ?_
  exact fin2
 rw[if_neg e3]
 by_cases e4:k=4
 ·rw[if_pos e4]
  refine VA ?_
  refine Zab [] (hA:=h4) (hr:=?_)
  refine VA ?_
  exact fin2
 rw[if_neg e4]
 by_cases e5:k=5
 ·rw[if_pos e5]
  refine VA ?_
  refine Zab [] (hA:=h5) (hr:=?_)
  refine VA ?_
  exact fin2
 rw[if_neg e5]
 by_cases e6:k=6
 ·rw[if_pos e6]
  refine VA ?_
  refine Zab [] (hA:=h6) (hr:=?_)
  refine VA ?_
  exact fin2
 rw[if_neg e6]
 refine VA ?_
 exact fin2
theorem Zfk {t u:Bool} {g:Gram} {ks:List Int} (hf:g.fit) (hk:ks.length≤100000000) :
  ACalls Tryz.prog 11 [.d (Za6 t g),.d (ints u ks)] [] (.tup [.d (ZcR false false (Za5 pasS g ks).1),.d (Zba (Za5 pasS g ks).2)]) [] :=
 ZjX hf hk fun k _ g hg=>⟨ZvB hg,Zk2 k g⟩
theorem ZcS (g:Gram):∀ (a b:List Step),ZaE g (a++b)=ZaE (ZaE g a) b
 | [],_=>rfl
 | s::a,b=>by rw[List.cons_append,ZaE,ZaE,ZcS s.g a b]
section
variable {P:Int→Gram→Step×Fault}
theorem Zd9 {g:Gram} {k:Int} {ks:List Int} {i:Nat} {out:List Step} (hc:(P k (ZaE g out)).2.code=0):mkC P g (k::ks) i out=mkC P g ks (i+1) (out++[(P k (ZaE g out)).1]):=by rw[mkC,if_neg (fun q=>q hc)]
theorem Zea {g:Gram} {k:Int} {ks:List Int} {i:Nat} {out:List Step} (hc:¬ (P k (ZaE g out)).2.code=0):mkC P g (k::ks) i out=([],⟨(P k (ZaE g out)).2.code,(i:Int)⟩):=by rw[mkC,if_pos hc]
theorem Ztf {g:Gram}:∀ (ks:List Int) (i:Nat) (out0 out:List Step),mkC P g ks i (out0++out)=(if ¬ (mkC P (ZaE g out0) ks i out).2.code=0 then mkC P (ZaE g out0) ks i out else (out0++(mkC P (ZaE g out0) ks i out).1,(mkC P (ZaE g out0) ks i out).2))
 | [],i,out0,out=>by rw[mkC,mkC,if_neg (fun q=>q rfl)]
 | k::ks,i,out0,out=>by
  by_cases hc:(P k (ZaE (ZaE g out0) out)).2.code=0
  ·have h1:=Ztf (g:=g) ks (i+1) out0 (out++[(P k (ZaE (ZaE g out0) out)).1])
   rw[Zd9 hc,←h1,Zd9 (by rw[ZcS];exact hc),ZcS,List.append_assoc]
  ·rw[Zea hc,if_pos hc,Zea (by rw[ZcS];exact hc),ZcS]
theorem ZmD {g:Gram}:∀ (ks:List Int) (i j:Nat) (out:List Step),mkC P g ks (i+j) out=((mkC P g ks i out).1,if ¬ (mkC P g ks i out).2.code=0 then ⟨(mkC P g ks i out).2.code,(mkC P g ks i out).2.at_+(j:Int)⟩ else (mkC P g ks i out).2)
 | [],i,j,out=>by rw[mkC,mkC,if_neg (fun q=>q rfl)]
 | k::ks,i,j,out=>by
  by_cases hc:(P k (ZaE g out)).2.code=0
  ·rw[Zd9 hc,Zd9 hc,show i+j+1=i+1+j by omega]
   exact ZmD ks (i+1) j _
  ·rw[Zea hc,Zea hc,if_pos hc]
   simp
theorem ZmE {g:Gram}:∀ (a b:List Int) (i:Nat) (out:List Step),mkC P g (a++b) i out=if ¬ (mkC P g a i out).2.code=0 then mkC P g a i out else mkC P g b (i+a.length) (mkC P g a i out).1
 | [],b,i,out=>by rw[mkC,if_neg (fun q=>q rfl)];rfl
 | k::a,b,i,out=>by
  rw[List.cons_append]
  by_cases hc:(P k (ZaE g out)).2.code=0
  ·rw[Zd9 hc,Zd9 hc,ZmE a b (i+1),List.length_cons,show i+1+a.length=i+(a.length+1) by omega]
  ·rw[Zea hc,Zea hc,if_pos hc]
theorem Zww {g:Gram} (hP:∀ k g,(P k g).2.code=0→(P k g).1.g.ok):∀ (ks:List Int) (i:Nat) (out:List Step),(ZaE g out).ok→(mkC P g ks i out).2.code=0→(ZaE g (mkC P g ks i out).1).ok
 | [],i,out,h,_=>h
 | k::ks,i,out,h,hz=>by
  rw[mkC] at hz ⊢
  by_cases hc:(P k (ZaE g out)).2.code=0
  ·rw[if_neg (fun q=>q hc)] at hz ⊢
   refine Zww hP ks (i+1) _ ?_ hz
   rw[ZeO];exact hP _ _ hc
  ·rw[if_pos hc] at hz;exact absurd hz hc
end
theorem Ztg {k:Int} {g:Gram} (h:(pasS k g).2.code=0):Zar g (pasS k g).1=⟨0,0⟩:=by
 unfold pasS at h ⊢
 by_cases e1:k=1
 ·rw[if_pos e1] at h ⊢;exact Zq8 h
 rw[if_neg e1] at h ⊢
 by_cases e2:k=2
 ·rw[if_pos e2] at h ⊢;exact Zsl h
 rw[if_neg e2] at h ⊢
 by_cases e3:k=3
 ·rw[if_pos e3] at h ⊢;exact Zn7 h
 rw[if_neg e3] at h ⊢
 by_cases e4:k=4
 ·rw[if_pos e4] at h ⊢;exact Zof h
 rw[if_neg e4] at h ⊢
 by_cases e5:k=5
 ·rw[if_pos e5] at h ⊢;exact ZmC (Zn9 g).2 h
 rw[if_neg e5] at h ⊢
 by_cases e6:k=6
 ·rw[if_pos e6] at h ⊢;exact Zrd h
 rw[if_neg e6] at h
 cases h
theorem Zth (k:Int) (g:Gram) (h:(pasS k g).2.code=0):(pasS k g).1.g.ok:=(Ze3 (by rw[Ztg h])).2.1
section
variable {P:Int→Gram→Step×Fault} {g:Gram} {ks:List Int} {k:Nat}
theorem Zf3 (h0:(Zac g).code=0) (h8:ks.length≤8):Za5 P g ks=mkC P g ks 0 []:=by
 unfold Za5
 rw[if_neg (fun q=>q h0),if_neg (by omega)]
theorem ZmF (h0:(Zac g).code=0) (h8:ks.length≤8) (hk:k≤ks.length):Za5 P g ks=if ¬ (Za5 P g (ks.take k)).2.code=0 then Za5 P g (ks.take k) else mkC P g (ks.drop k) k (Za5 P g (ks.take k)).1:=by
 have hl:(ks.take k).length=k:=by simp;omega
 rw[Zf3 h0 h8,Zf3 h0 (by omega)]
 have h:=ZmE (P:=P) (g:=g) (ks.take k) (ks.drop k) 0 []
 rw[List.take_append_drop,hl,Nat.zero_add] at h
 exact h
theorem Zti (h8:ks.length≤8) (hk:k≤ks.length) (h:¬ (Za5 P g (ks.take k)).2.code=0):(Za5 P g ks).2=(Za5 P g (ks.take k)).2:=by
 by_cases h0:(Zac g).code=0
 ·rw[ZmF h0 h8 hk,if_pos h]
 ·unfold Za5
  rw[if_pos h0,if_pos h0]
theorem ZjS (hP:∀ k g,(P k g).2.code=0→(P k g).1.g.ok) (h8:ks.length≤8) (h:(Za5 P g (ks.take k)).2.code=0):(Zac g).code=0∧(Zac (ZaE g (Za5 P g (ks.take k)).1)).code=0:=by
 have h0:(Zac g).code=0:=Classical.byContradiction fun q=>by
  unfold Za5 at h;rw[if_pos q] at h;exact q h
 refine⟨h0,?_⟩
 rw[Zf3 h0 (by simp;omega)] at h ⊢
 rw[(Zww hP _ _ _ (show (ZaE g []).ok from Za1 h0) h).fault]
theorem ZqV (hP:∀ k g,(P k g).2.code=0→(P k g).1.g.ok) (h8:ks.length≤8) (hk:k≤ks.length) (h:(Za5 P g (ks.take k)).2.code=0) :
  Za5 P g ks=(if ¬ (Za5 P (ZaE g (Za5 P g (ks.take k)).1) (ks.drop k)).2.code=0 then ((Za5 P (ZaE g (Za5 P g (ks.take k)).1) (ks.drop k)).1,⟨(Za5 P (ZaE g (Za5 P g (ks.take k)).1) (ks.drop k)).2.code,(Za5 P (ZaE g (Za5 P g (ks.take k)).1) (ks.drop k)).2.at_+(k:Int)⟩)
   else ((Za5 P g (ks.take k)).1++(Za5 P (ZaE g (Za5 P g (ks.take k)).1) (ks.drop k)).1,(Za5 P (ZaE g (Za5 P g (ks.take k)).1) (ks.drop k)).2)):=by
 obtain⟨h0,h1⟩:=ZjS hP h8 h
 rw[ZmF h0 h8 hk,if_neg (fun q=>q h),Zf3 h1 (by simp;omega)]
 generalize (Za5 P g (ks.take k)).1=out
 have e1:=Ztf (P:=P) (g:=g) (ks.drop k) k out []
 rw[List.append_nil] at e1
 have e2:=ZmD (P:=P) (g:=ZaE g out) (ks.drop k) 0 k []
 rw[Nat.zero_add] at e2
 rw[e1,e2]
 generalize mkC P (ZaE g out) (ks.drop k) 0 []=b
 by_cases hb:b.2.code=0
 ·simp[hb]
 ·simp[hb]
end
set_option maxRecDepth 100000
set_option maxRecDepth 100000
set_option maxRecDepth 100000
set_option maxRecDepth 100000
set_option maxRecDepth 100000
set_option maxHeartbeats 4000000 in
theorem ZqW {t u:Bool} {g:Gram} {w:List Int} (h0:(ZaK g w).2.code=0):ACalls Tryz.prog 18 [.d (Za6 t g),.d (ints u w)] [] (.tup [.own 900 (ZaK g w).1.length,.d (Zba ⟨0,0⟩)]) [(900,.row 56 2 ((ZaK g w).1.map (ZaY false)))]:=by
 have hc:(opF g w).code=0:=Classical.byContradiction fun q=>by
  unfold ZaK at h0;rw[if_neg q] at h0;exact q h0
 have hm:¬ 200 < cntF g w:=fun q=>by
  unfold ZaK at h0;rw[if_pos hc,if_pos q] at h0;cases h0
 have ho:=ZgM (t:=t) (u:=u) hc
 obtain⟨hC,hz,hlt⟩:=ZmH hc
 obtain⟨s1,s2⟩:=hC.small
 have hct:=ZdH hC.ok hC.cyc s1 s2
 rw[ZfG hC.ok] at hct
 have hat:=fun (L kn:Nat) (h:kn < cntF g w)=>Zoa (t:=t) (u:=u) (L:=L) hC h hlt
 clear hlt
 have hres:ZaK g w=Zdd g w (cntF g w) 0 []:=by unfold ZaK;rw[if_pos hc,if_neg hm]
 generalize hRes:ZaK g w=RS at *
 obtain⟨rl,rf⟩:=RS
 have hm':¬ (200:Int) < (cntF g w:Int):=by omega
 have hrange:∀ k,k < cntF g w→∃ x f L',atF g w k=(x,f,L'):=fun k _=>⟨_,_,_,rfl⟩
 simp only[frH0,frH] at ho hat
 generalize hcc:cntF g w=c at *
 generalize wcns g w Zag=N at *
 generalize nulB g=NB at *
 refine ACalls.intro (n:=55) Tryz.func18 rfl rfl (by simp) (by rfl) ?_
 simp only[Zal]
 refine VA ?_
 refine Zab [(25,925),(962,962),(960,960)] (hA:=ho) (hr:=?_)
 refine VA ?_
 refine Zau [(1000,962),(1001,960)] (hA:=hct) (hr:=?_)
 refine VA ?_
 refine Zau [(1000,962),(1001,960)] (hA:=hct) (hr:=?_)
 refine VA ?_
 refine Zbi 8 900 56 2 rfl rfl rfl ?_
 refine Zak (X:=Nat×List Tree×Nat) (fun y=>y.1≤c∧y.2.1.length=y.1∧(rl,rf)=Zdd g w (c - y.1) y.1 y.2.1) (fun y=>[(34,I y.1),(33,I c),(8,.own 900 y.2.1.length),(6,.ptr 925 0),(5,.ptr 5 0),(1,.d (ints u w))]) (fun y=>[(900,.row 56 2 (y.2.1.map (ZaY false))),(5,.box 31 [I 0,I 0]),(925,frBx t g 962 y.2.2),(962,cxBx g w NB 960),(960,.mp (Zbj N))]) (fun y=>c - y.1) (0,[],0) ⟨Nat.zero_le _,rfl,by rw[Nat.sub_zero];exact hres⟩ ?_
 rintro⟨k,acc,L⟩ ⟨h1,h2,h3⟩
 dsimp only at h1 h2 h3 ⊢
 by_cases hlt:k < c
 ·have ha:=hat L k hlt
  obtain⟨x,⟨fc,fa⟩,L',e⟩:=hrange k hlt
  rw[show c - k=(c - (k+1))+1 by omega,Zdd] at h3
  rw[e] at ha h3
  dsimp only at ha h3
  have ec:acc.map (ZaY false)++[.agg [iD x.rule,Zap false x.kids]]=(acc++[x]).map (ZaY false):=by rw[List.map_append,List.map_cons,List.map_nil,ZeR]
  by_cases hz0:fc=0
  ·rw[if_pos hz0] at h3
   clear hat
   refine VA ?_
   refine Zab [(1000,925),(1001,962),(1002,960)] (hA:=ha) (hr:=?_)
   refine VA ?_
   rw[ec]
   exact Zae (k+1,acc++[x],L') (a:=⟨by omega,by simp[h2],h3⟩) (b:=by dsimp only;omega)
  ·rw[if_neg hz0] at h3
   cases h3
   exact absurd h0 hz0
 ·obtain rfl:k=c:=by omega
  rw[Nat.sub_self,Zdd] at h3
  cases h3
  clear hat
  refine VA ?_
  exact fin
open Go.RowKit Go.Sort
set_option maxRecDepth 100000
theorem Ztj:∀ {a b:World},a.heap=b.heap→a.tape=b.tape→a.drawn=b.drawn→a.os=b.os→a.output=b.output→a=b
 | ⟨_,_,_,_,_⟩,⟨_,_,_,_,_⟩,rfl,rfl,rfl,rfl,rfl=>rfl
theorem ZvC {S:Nat→Prop} {w w':World} (h:Ext S w w') (hS:∀ k,¬ S k):∃ q os,w'=grow (w.drewN q) os:=by
 have hd:=h.drawn
 have hz:=h.size
 refine⟨w'.drawn - w.drawn,w'.heap.extract w.heap.size w'.heap.size,Ztj ?_ h.tape ?_ h.os h.output⟩
 ·show w'.heap=w.heap++_
  apply Array.ext_getElem?
  intro k
  by_cases hk:k < w.heap.size
  ·rw[Array.getElem?_append_left hk];exact h.block k hk (hS k)
  ·rw[Array.getElem?_append_right (by omega),Array.getElem?_extract]
   by_cases hk2:k < w'.heap.size
   ·rw[if_pos (by omega),show w.heap.size+(k - w.heap.size)=k by omega]
   ·rw[if_neg (by omega),Array.getElem?_eq_none (by omega)]
 ·show w'.drawn=w.drawn+(w'.drawn - w.drawn)
  omega
structure TP (M:Bars) (w:World) where
 t:Tree
 c:List Value
 rep:D.Rep M w (Zbf false t) c
 small:cnt t≤100000000
theorem ZvD (M:Bars) (w:World):D.Rep M w (Zbf false (.mk 0 [])) [.int .i64 0,.slice none 0 0]:=by
 simp only[Zbf,D.Rep,D.Reps,iD]
 refine⟨[.int .i64 0],[.slice none 0 0],rfl,⟨rfl,rfl⟩,[.slice none 0 0],[],rfl,?_,rfl⟩
 simp only[Zap,Tree.kids,List.map_nil,D.Rep,D.Reps]
 exact⟨none,0,[],rfl,Nat.le_refl _,by simp[maxLen],by simp,rfl,fun h=>absurd rfl h⟩
instance (M:Bars) (w:World):Inhabited (TP M w):=⟨⟨.mk 0 [],[.int .i64 0,.slice none 0 0],ZvD M w,by decide⟩⟩
def encP {M:Bars} {w:World} (p:TP M w):List Value:=p.c
def treP {M:Bars} {w:World} (p:TP M w):Tree:=p.t
theorem Zk3 {M:Bars} {w:World} (p:TP M w):(encP p).length=2:=D.Rep.length p.rep
theorem ZvE {M:Bars} {w:World} (p:TP M w):∀ v∈encP p,v.oneCell'=true:=D.Rep.one p.rep
def cfP {M:Bars} {w:World} (x y:TP M w):Int:=ordT (treP x) (treP y)
theorem ltP {M:Bars} {w:World} (x y:TP M w):ltOf cfP x y=decide (ordT (treP x) (treP y) < 0):=rfl
theorem swoP {M:Bars} {w:World}:SWO (ltOf (cfP (M:=M) (w:=w))) where
 irrefl x:=by rw[ltP,Zh1];rfl
 trans x y z h1 h2:=by
  rw[ltP,decide_eq_true_eq] at *
  have a:=ZeJ _ _ _ (Int.le_of_lt h1) (Int.le_of_lt h2)
  rcases Int.lt_or_eq_of_le a with a|a
  ·exact a
  ·have e:=ZdL _ _ a
   rw[e,Zc0] at h1
   omega
 ntrans x y z h1 h2:=by
  rw[ltP,decide_eq_false_iff_not] at *
  have n1:=Zc0 (treP x) (treP y)
  have n2:=Zc0 (treP y) (treP z)
  have n3:=Zc0 (treP x) (treP z)
  have:=ZeJ (treP z) (treP y) (treP x) (by omega) (by omega)
  omega
theorem ZpG {M:Bars} {w:World}:∀ {l:List Tree} {cs:List Value},(∀ x∈l,cnt x≤100000000)→D.Reps M w (l.map (Zbf false)) cs→∃ ps:List (TP M w),ps.map treP=l∧ps.flatMap encP=cs
 | [],cs,_,h=>by simp only[List.map_nil,D.Reps] at h;exact⟨[],rfl,h.symm⟩
 | x::l,cs,hc,h=>by
  simp only[List.map_cons,D.Reps] at h
  obtain⟨c,r,rfl,h1,h2⟩:=h
  obtain⟨ps,e1,e2⟩:=ZpG (fun y hy=>hc y (by simp[hy])) h2
  exact⟨(⟨x,c,h1,hc x (by simp)⟩:TP M w)::ps,by rw[List.map_cons,e1];rfl,by rw[List.flatMap_cons,e2];rfl⟩
theorem ZpH {M:Bars} {w:World}:∀ ps:List (TP M w),D.Reps M w ((ps.map treP).map (Zbf false)) (ps.flatMap encP)
 | []=>by simp[D.Reps]
 | p::ps=>by
  simp only[List.map_cons,List.flatMap_cons,D.Reps]
  exact⟨_,_,rfl,p.rep,ZpH ps⟩
theorem ZmG {α:Type} [Inhabited α] (enc:α→List Value) (k:Nat) (hk0:0 < k) (hk:∀ x,(enc x).length=k):∀ (ds:List α),(List.range (ds.length * k)).map (fun t=>(enc ds[t / k]!)[t % k]!)=ds.flatMap enc
 | []=>by simp
 | x::ds=>by
  rw[List.length_cons,Nat.add_mul,Nat.one_mul,Nat.add_comm,List.range_add,List.map_append,List.flatMap_cons,←ZmG enc k hk0 hk ds]
  congr 1
  ·refine List.ext_getElem (by simp[hk]) fun i h1 h2=>?_
   have hi:i < k:=by simpa using h1
   rw[List.getElem_map,List.getElem_range,Nat.div_eq_of_lt hi,Nat.mod_eq_of_lt hi]
   show (enc x)[i]! = _
   rw[getElem!_pos _ i (by rw[hk];exact hi)]
  ·rw[List.map_map]
   refine List.map_congr_left fun t _=>?_
   show (enc (x::ds)[(k+t) / k]!)[(k+t) % k]! = _
   rw[Nat.add_div_left t hk0,Nat.add_mod_left]
   congr 2
theorem ZjT {α:Type} [Inhabited α] (enc:α→List Value) (k:Nat) (hk0:0 < k) (hk:∀ x,(enc x).length=k) (d:Array α):(flatK enc k d).toList=d.toList.flatMap enc:=by
 rw[←ZmG enc k hk0 hk d.toList]
 unfold flatK
 rw[Array.toList_map,Array.toList_range,Array.length_toList]
 refine List.map_congr_left fun t _=>?_
 have e:d.toList[t / k]! = d[t / k]! := Array.getElem!_toList (xs:=d)
 rw[e]
theorem ZvF {α:Type} [Inhabited α] {d d':Array α} (h:PermIn 0 d.size d d'):d'.toList.Perm d.toList:=by
 obtain⟨h1,_,h3⟩:=h
 rw[Array.extract_size] at h3
 have:d'.extract 0 d.size=d':=by rw[←h1,Array.extract_size]
 rw[this] at h3
 exact h3
theorem ZqX {M:Bars} {w:World} {d:Array (TP M w)} {n:Nat} (hn:n=d.size) (h:SortedIn (ltOf cfP) 0 n d):(d.toList.map treP).Pairwise LeT:=by
 rw[List.pairwise_map,List.pairwise_iff_getElem]
 intro i j hi hj hij
 have hi':i < d.size:=by simpa using hi
 have hj':j < d.size:=by simpa using hj
 have h1:=h i j (Nat.zero_le _) hij (by omega)
 rw[getElem!_pos d i hi',getElem!_pos d j hj',ltP,decide_eq_false_iff_not] at h1
 have n1:=Zc0 (treP d[i]) (treP d[j])
 show ordT (treP d.toList[i]) (treP d.toList[j])≤0
 simp only[Array.getElem_toList]
 omega
end Go.Proofs.YtbpmepgnjanhnaaGreat
namespace Go.Proofs
open Go.Shelf
set_option maxRecDepth 100000
def Tryz.sortRen:Go.Shelf.Ren:=⟨fun|6=>48|14=>82|15=>83|20=>156|21=>157|22=>158|23=>159|24=>160|25=>161|26=>162|27=>163|28=>164|29=>165|46=>209|47=>210|48=>211|49=>212|50=>213|57=>224|n=>n,fun|0=>0|3=>3|4=>4|5=>5|9=>9|22=>37|24=>56|25=>84|39=>53|45=>213|46=>214|50=>124|53=>220|55=>117|66=>248|70=>252|76=>259|77=>260|n=>n,fun|n=>n⟩
theorem Tryz.sortLay:SlLaysF0.n6 Tryz.prog Tryz.sortRen:={
 mixed:=by kernel_rfl
 f6:=⟨Tryz.f48.name,by kernel_rfl,Tryz.func48.trans (congrArg some (by kernel_rfl))⟩
 f14:=⟨Tryz.f82.name,by kernel_rfl,Tryz.func82.trans (congrArg some (by kernel_rfl))⟩
 f15:=Tryz.func83.trans (congrArg some (by kernel_rfl))
 f20:=⟨Tryz.f156.name,by kernel_rfl,Tryz.func156.trans (congrArg some (by kernel_rfl))⟩
 f21:=⟨Tryz.f157.name,by kernel_rfl,Tryz.func157.trans (congrArg some (by kernel_rfl))⟩
 f22:=⟨Tryz.f158.name,by kernel_rfl,Tryz.func158.trans (congrArg some (by kernel_rfl))⟩
 f23:=⟨Tryz.f159.name,by kernel_rfl,Tryz.func159.trans (congrArg some (by kernel_rfl))⟩
 f24:=⟨Tryz.f160.name,by kernel_rfl,Tryz.func160.trans (congrArg some (by kernel_rfl))⟩
 f25:=⟨Tryz.f161.name,by kernel_rfl,Tryz.func161.trans (congrArg some (by kernel_rfl))⟩
 f26:=⟨Tryz.f162.name,by kernel_rfl,Tryz.func162.trans (congrArg some (by kernel_rfl))⟩
 f27:=⟨Tryz.f163.name,by kernel_rfl,Tryz.func163.trans (congrArg some (by kernel_rfl))⟩
 f28:=Tryz.func164.trans (congrArg some (by kernel_rfl))
 f29:=Tryz.func165.trans (congrArg some (by kernel_rfl))
 f46:=⟨Tryz.f209.name,by kernel_rfl,Tryz.func209.trans (congrArg some (by kernel_rfl))⟩
 f47:=Tryz.func210.trans (congrArg some (by kernel_rfl))
 f48:=Tryz.func211.trans (congrArg some (by kernel_rfl))
 f49:=⟨Tryz.f212.name,by kernel_rfl,Tryz.func212.trans (congrArg some (by kernel_rfl))⟩
 f50:=⟨Tryz.f213.name,by kernel_rfl,Tryz.func213.trans (congrArg some (by kernel_rfl))⟩
 f57:=⟨Tryz.f224.name,by kernel_rfl,Tryz.func224.trans (congrArg some (by kernel_rfl))⟩
 t0:=Tryz.underlying0
 a0:=Tryz.isAgg0
 z0:=Tryz.sizeOf0
 v0:=Tryz.zeroValue0
 t3:=Tryz.underlying3
 a3:=Tryz.isAgg3
 z3:=Tryz.sizeOf3
 v3:=Tryz.zeroValue3
 t4:=Tryz.underlying4
 a4:=Tryz.isAgg4
 z4:=Tryz.sizeOf4
 v4:=Tryz.zeroValue4
 t5:=Tryz.underlying5
 a5:=Tryz.isAgg5
 z5:=Tryz.sizeOf5
 v5:=Tryz.zeroValue5
 t9:=Tryz.underlying9
 a9:=Tryz.isAgg9
 z9:=Tryz.sizeOf9
 v9:=Tryz.zeroValue9
 t22:=Tryz.underlying37
 a22:=Tryz.isAgg37
 z22:=Tryz.sizeOf37
 v22:=Tryz.zeroValue37
 t25:=Tryz.underlying84
 a25:=Tryz.isAgg84
 z25:=Tryz.sizeOf84
 v25:=Tryz.zeroValue84
 t39:=Tryz.underlying53
 a39:=Tryz.isAgg53
 z39:=Tryz.sizeOf53
 v39:=Tryz.zeroValue53
 t45:=Tryz.underlying213
 a45:=Tryz.isAgg213
 z45:=Tryz.sizeOf213
 v45:=Tryz.zeroValue213
 t46:=Tryz.underlying214
 a46:=Tryz.isAgg214
 z46:=Tryz.sizeOf214
 v46:=Tryz.zeroValue214
 t50:=Tryz.underlying124
 a50:=Tryz.isAgg124
 z50:=Tryz.sizeOf124
 v50:=Tryz.zeroValue124
 t53:=Tryz.underlying220
 a53:=Tryz.isAgg220
 z53:=Tryz.sizeOf220
 v53:=Tryz.zeroValue220
 t55:=Tryz.underlying117
 a55:=Tryz.isAgg117
 z55:=Tryz.sizeOf117
 v55:=Tryz.zeroValue117
 t66:=Tryz.underlying248
 a66:=Tryz.isAgg248
 z66:=Tryz.sizeOf248
 v66:=Tryz.zeroValue248
 t70:=Tryz.underlying252
 a70:=Tryz.isAgg252
 z70:=Tryz.sizeOf252
 v70:=Tryz.zeroValue252
 t76:=Tryz.underlying259
 a76:=Tryz.isAgg259
 z76:=Tryz.sizeOf259
 v76:=Tryz.zeroValue259
 t77:=Tryz.underlying260
 a77:=Tryz.isAgg260
 z77:=Tryz.sizeOf260
 v77:=Tryz.zeroValue260 }
end Go.Proofs
