import Derived.Test.YtbpmepgnjanhnaaGreatQShortB
set_option linter.unusedVariables false
set_option linter.unusedSimpArgs false
set_option linter.unusedSectionVars false
set_option maxRecDepth 100000
namespace Go.Proofs.YtbpmepgnjanhnaaGreat
open Go.RowKit
theorem ZmB:∀ (k:Nat),cpL (ZaF k)=k
 | 0=>rfl
 | k+1=>by
  unfold ZaF at *;rw[Gn,Ho,Zdl];have:=ZmB k;unfold ZaF at this;rw[this];simp[cpL,cpF]
theorem ZxV (g:Ac):∀ w:List Int,cpL (wayF g w)=Aj (wayF g w)
 | []=>rfl
 | [r]=>by simp[wayF,ZaJ,cpL,cpF,Aj,fsz,ZmB,Ziw]
 | r::r2::rest=>by
  rw[wayF];simp only[cpL,cpF,Aj,fsz,true_or,if_true,ZxV g (r2::rest)]
theorem ZAK {w:List Int} (h:0 < w.length):Zdh w=w[w.length - 1]'(by omega):=by
 unfold Zdh;rw[List.getLastD_eq_getLast?,List.getLast?_eq_getElem?,Hj (by omega)];rfl
theorem ZrN {g:Ac}:∀ (n:Nat) (v:Int) (w:List Int),w∈wys g n v→∀ x∈w,∃ k,∃ _:k < g.Aa.length,x=((k:Nat):Int)
 | 0,v,w,h=>by simp[wys] at h
 | n+1,v,w,h=>by
  rw[wys] at h;obtain⟨i,hi,hw⟩:=List.mem_flatMap.1 h;obtain⟨k,hk,e,_⟩:=by_mem.1 hi;split at hw
  ·rw[Gw] at hw;subst hw;intro x hx;rw[Gw] at hx;subst hx;exact⟨k,hk,e⟩
  ·obtain⟨y,hy,rfl⟩:=List.mem_map.1 hw;intro x hx;rcases List.mem_cons.1 hx with rfl|hx
   ·exact⟨k,hk,e⟩
   ·exact ZrN n _ y hy x hx
theorem ZxW {w:List Int} (h:w≠[]):Zdh w∈w:=by
 have hl:0 < w.length:=List.length_pos_iff.2 h;rw[ZAK hl];exact He _
section
variable {g:Ac} (hg:g.ok) (hc:cycL g=[])
include hg hc
theorem Zp3 {v:Int} (h0:0≤v) (h1:v < g.vars) {w:List Int} (hw:w∈ways g v):w≠[]:=by
 rw[Zkq hg hc h0 h1] at hw;obtain⟨k,_,hk⟩:=List.mem_flatMap.1 hw;exact ZsY hk
theorem ZAL {v:Int} (h0:0≤v) (h1:v < g.vars) {w:List Int} (hw:w∈ways g v):∃ k,∃ h:k < g.Aa.length,Zdh w=((k:Nat):Int)∧Zaj g (Zdh w)=g.Aa[k].right:=by
 have hne:=Zp3 hg hc h0 h1 hw;obtain⟨k,hk,e⟩:=ZrN _ _ _ hw _ (ZxW hne);exact⟨k,hk,e,by rw[e,Zax hk]⟩
end
theorem Ztq {g:Ac}:∀ (n:Nat) (v:Int) (w:List Int),w∈wys g n v→ZaC (Zaj g (Zdh w)) < 0
 | 0,v,w,h=>by simp[wys] at h
 | n+1,v,w,h=>by
  rw[wys] at h;obtain⟨i,_,hi⟩:=List.mem_flatMap.1 h;split at hi
  ·rename_i hu;rw[Gw] at hi;subst hi;exact hu
  ·obtain⟨x,hx,rfl⟩:=List.mem_map.1 hi;have ih:=Ztq n _ x hx;have hne:x≠[]:=by
    intro e;subst e;cases n with
    | zero=>simp[wys] at hx
    | succ n =>
     rw[wys] at hx;obtain⟨j,_,hj⟩:=List.mem_flatMap.1 hx;split at hj
     ·simp at hj
     ·obtain⟨y,_,hy⟩:=List.mem_map.1 hj;cases hy
   rw[ZcU i hne];exact ih
theorem ZxX (m:Int) {g:Ac}:∀ (w:List Int),w≠[]→(∀ x∈w,0≤x∧x < m)→usL m (wayF g w) (List.replicate (kN g (Zdh w)) 0)=(true,List.replicate (kN g (Zdh w)) 1)
 | [],h,_=>absurd rfl h
 | [r],_,h=>by
  have:=h r (by simp);rw[wayF,ZaJ,usL,usF,Hb rfl,Ha (by omega),show Zdh [r]=r from rfl,Zjz];simp[usL]
 | r::r2::rest,_,h=>by
  have h0:=h r (by simp);have ih:=ZxX m (g:=g) (r2::rest) (by simp) (fun x hx=>h x (HK _ hx));rw[wayF,ZcU r (by simp),usL,usF,Hb rfl,Ha (by omega),ih];simp[usL]
theorem ZAM {g:Ac} {v:Int} {w:List Int} (hne:w≠[]) (hw:∀ x∈w,∃ k,∃ _:k < g.Aa.length,x=((k:Nat):Int)) (hs:Aj (wayF g w)≤60):Zay g (wayF g w) (ZgS g v w).right=0:=by
 have h2:=ZxX g.Aa.length (g:=g) w hne (fun x hx=>by obtain⟨k,hk,e⟩:=hw x hx;omega);rw[Zay,Ha (by rw[ZxV];omega),Hb];rw[Zhy];show ((usL _ _ (List.replicate (kN g (Zdh w)) 0)).1 && (usL _ _ (List.replicate (kN g (Zdh w)) 0)).2.all _)=true;rw[h2];simp
theorem ZmC {g:Ac} {v:Int}:∀ {l:List (List Int)},(∀ w∈l,Zay g (wayF g w) (ZgS g v w).right=0)→Zfk g (l.map (wayF g)) (l.map (ZgS g v))
 | [],_=>.nil
 | w::l,h=>.cons (h w (by simp)) (ZmC (fun x hx=>h x (by simp[hx])))
theorem ZkZ {g:Ac} {v:Nat} (h:Zed g v=true):(Zcj g v).length+(ways g v).length≤160∧∀ w∈ways g v,Aj (wayF g w)≤60:=by
 rw[Zed,Hr,HR] at h;exact⟨H0 h.1,fun w hw=>H0 (h.2 w hw)⟩
section
variable {g:Ac} (hg:g.ok) (hc:cycL g=[])
include hg hc
theorem Zk0:∀ k,k≤g.vars.toNat→(∀ u,u < k→Zed g u=true)→Zfk g (Zdj g k) (Zcj g k)
 | 0,_,_=>.nil
 | k+1,hk,h=>by
  have ih:=Zk0 k (by omega) (fun u hu=>h u (by omega));rw[Zee,Zfv];obtain⟨_,h2⟩:=ZkZ (h k (by omega));refine ih.append (ZmC fun w hw=>ZAM (Zp3 hg hc (by omega) (by omega) hw) (ZrN _ _ _ hw) (h2 w hw))
theorem ZmD:∀ k,k≤g.vars.toNat→∀ r∈Zcj g k,(0≤r.left∧r.left < k)∧(∃ q∈g.Aa,r.right=q.right)∧ZaC r.right < 0
 | 0,_,r,h=>by simp[Zcj] at h
 | k+1,hk,r,h=>by
  rw[Zee] at h;rcases List.mem_append.1 h with h|h
  ·have:=ZmD k (by omega) r h;exact⟨by omega,this.2⟩
  ·obtain⟨w,hw,rfl⟩:=List.mem_map.1 h;obtain⟨j,hj,_,e⟩:=ZAL hg hc (v:=(k:Int)) (by omega) (by omega) hw;refine⟨by simp only[ZgS];omega,⟨_,He hj,e⟩,Ztq _ _ _ hw⟩
theorem Zp4 (h:∀ u,u < g.vars.toNat→Zed g u=true):(Zcj g g.vars.toNat).length≤160:=by
 have hv:=hg.vars1;obtain⟨n,hn⟩:∃ n,g.vars.toNat=n+1:=⟨g.vars.toNat - 1,by omega⟩
 have:=(ZkZ (h n (by omega))).1;rw[hn,Zee,Hk,Hi];omega
theorem ZjJ (h:∀ u,u < g.vars.toNat→Zed g u=true):(Zbs g).g.ok:=by
 have hm:=ZmD hg hc g.vars.toNat (Hg _);have hv:=hg.vars1;refine⟨hg.vars1,hg.vars,hg.terms0,hg.terms,hg.start0,hg.start,Zp4 hg hc h,fun r hr=>?_,fun r hr=>(hm r hr).1.1,fun r hr=>?_,fun r hr s hs=>?_,fun r hr s hs=>?_⟩
 ·obtain⟨q,hq,e⟩:=(hm r hr).2.1;rw[e];exact hg.right q hq
 ·have:=(hm r hr).1.2;show r.left < g.vars;omega
 ·obtain⟨q,hq,e⟩:=(hm r hr).2.1;rw[e] at hs;exact hg.lo q hq s hs
 ·obtain⟨q,hq,e⟩:=(hm r hr).2.1;rw[e] at hs;exact hg.hi q hq s hs
theorem ZmE (h:∀ u,u < g.vars.toNat→Zed g u=true):Zam g (Zbs g)=⟨0,0⟩ :=
 Zki hg (ZjJ hg hc h) rfl (Zk0 hg hc _ (Hg _) h)
theorem Zjg:∀ k,k≤g.vars.toNat→(∀ u,u < k→Zed g u=true)→∀ l∈Zdj g k,Aj l≤60
 | 0,_,_,l,hl=>by simp[Zdj] at hl
 | k+1,hk,h,l,hl=>by
  rw[Zfv] at hl;rcases List.mem_append.1 hl with hl|hl
  ·exact Zjg k (by omega) (fun u hu=>h u (by omega)) l hl
  ·obtain⟨w,hw,rfl⟩:=List.mem_map.1 hl;exact (ZkZ (h k (by omega))).2 w hw
end
theorem Zf2 (g:Ac):((Zac g).code≠0∧Zb1 g=(Ag,Zac g))∨(Zb1 g=(Ag,⟨10, -1⟩))∨(∃ v:Nat,Zb1 g=(Ag,⟨6,(v:Int)⟩)) ∨
  (g.ok∧cycL g=[]∧(∀ u,u < g.vars.toNat→Zed g u=true)∧Zb1 g=(Zbs g,⟨0,0⟩)):=by
 by_cases h:(Zac g).code=0
 ·by_cases hcy:0 < (cycL g).length
  ·exact .inr (.inl (by rw[Zb1,Hb h,Hb hcy]))
  ·cases hf:(List.range g.vars.toNat).find? (fun v=>!Zed g v) with
   | some v=>exact .inr (.inr (.inl ⟨v,by rw[Zb1,Hb h,Ha hcy,hf]⟩))
   | none =>
    refine .inr (.inr (.inr ⟨Zbd h,List.length_eq_zero_iff.1 (by omega),fun u hu=>?_,by rw[Zb1,Hb h,Ha hcy,hf]⟩));rw[List.find?_eq_none] at hf;have:=hf u (List.mem_range.2 hu);simpa using this
 ·exact .inl ⟨h,by rw[Zb1,Ha h]⟩
theorem Zfw:Ag.fit:=⟨⟨by decide,fun r hr=>by simp[Ag] at hr⟩,by decide,fun l hl=>by simp[Ag] at hl,by decide⟩
theorem Zu9 (g:Ac):(Zb1 g).1.fit:=by
 rcases Zf2 g with ⟨_,h⟩|h|⟨v,h⟩|⟨hg,hc,ha,h⟩
 ·rw[h];exact Zfw
 ·rw[h];exact Zfw
 ·rw[h];exact Zfw
 ·rw[h];have h1:=Zp4 hg hc ha;have h2:=ZrM g g.vars.toNat;exact⟨(ZjJ hg hc ha).fit,(by show (Zdj g g.vars.toNat).length≤_;omega),fun l hl=>Hq (Zjg hg hc _ (Hg _) ha l hl) (by decide),by simp[Zbs,cnts]⟩
theorem ZrO {g:Ac} (h0:(Zb1 g).2.code=0):Zam g (Zb1 g).1=⟨0,0⟩:=by
 rcases Zf2 g with ⟨h1,h⟩|h|⟨v,h⟩|⟨hg,hc,ha,h⟩
 ·rw[h] at h0;exact absurd h0 h1
 ·rw[h] at h0;cases h0
 ·rw[h] at h0;cases h0
 ·rw[h];exact ZmE hg hc ha
theorem ZmF (g:Ac):∃ r,((Zac g).code=0→Fac g.vars.toNat (Za5 g) 0 r)∧((Zac g).code=0→∀ z,r=.ok z→FInv g z z.length):=by
 by_cases h:(Zac g).code=0
 ·have hg:=Zbd h;obtain⟨r,h1,h2⟩:=Znm hg 65 _ (by omega) (Hg _) (ZkB hg);exact⟨r,fun _=>h1,fun _=>h2⟩
 ·exact⟨.error 0,fun hh=>absurd hh h,fun hh=>absurd hh h⟩
theorem Zfx:Ag.fit:=⟨⟨by decide,fun r hr=>by simp[Ag] at hr⟩,by decide,fun l hl=>by simp[Ag] at hl,by decide⟩
theorem ZhQ {g:Ac} {r:Except Nat (List (List Ae))} (hz:(Zac g).code=0→∀ z,r=.ok z→FInv g z z.length) :
  ((Zac g).code≠0∧ZbM g r=(Ag,Zac g))∨(∃ i:Nat,ZbM g r=(Ag,⟨6,(i:Int)⟩)) ∨
  ∃ z x,g.ok∧FInv g z z.length∧finW z 0 [] []=.ok x∧ZbM g r=(⟨outG g z x,x.2,[]⟩,⟨0,0⟩):=by
 by_cases h:(Zac g).code=0
 ·rw[ZbM,Hb h];cases r with
  | error v=>exact .inr (.inl ⟨v,rfl⟩)
  | ok z =>
   cases hc:finW z 0 [] [] with
   | error v=>exact .inr (.inl ⟨v,by rw[ZbR];simp only[hc]⟩)
   | ok x=>exact .inr (.inr ⟨z,x,Zbd h,hz h z rfl,hc,by rw[ZbR];simp only[hc];rfl⟩)
 ·rw[ZbM,Ha h];exact .inl ⟨h,rfl⟩
theorem ZrP {g:Ac} {r:Except Nat (List (List Ae))} (hz:(Zac g).code=0→∀ z,r=.ok z→FInv g z z.length):(ZbM g r).1.fit:=by
 rcases ZhQ hz with ⟨_,h⟩|⟨i,h⟩|⟨z,x,hg,hI,hx,h⟩
 ·rw[h];exact Zfx
 ·rw[h];exact Zfx
 ·rw[h];have h1:=ZBW hg hI hx;obtain⟨h2,h3⟩:=ZAj hI hx;exact⟨h1.fit,(by show x.2.length≤_;omega),fun l hl=>Hq (h3 l hl) (by decide),by simp[cnts]⟩
theorem Zp5 {g:Ac} {r:Except Nat (List (List Ae))} (hz:(Zac g).code=0→∀ z,r=.ok z→FInv g z z.length) (h0:(ZbM g r).2.code=0):Zam g (ZbM g r).1=⟨0,0⟩:=by
 rcases ZhQ hz with ⟨h1,h⟩|⟨i,h⟩|⟨z,x,hg,hI,hx,h⟩
 ·rw[h] at h0;exact absurd h0 h1
 ·rw[h] at h0;cases h0
 ·rw[h];exact Zs6 hg hI hx
noncomputable def facR (g:Ac):Except Nat (List (List Ae)):=Classical.choose (ZmF g)
theorem Zk1 (g:Ac):((Zac g).code=0→Fac g.vars.toNat (Za5 g) 0 (facR g))∧((Zac g).code=0→∀ z,facR g=.ok z→FInv g z z.length):=Classical.choose_spec (ZmF g)
noncomputable def pasS (k:Int) (g:Ac):Step×Zcf :=
 if k=1 then Zf6 g else if k=2 then Zev g else if k=3 then Zb1 g else if k=4 then Zcz g else if k=5 then ZbM g (facR g) else if k=6 then ZfO g else (Ag,⟨16,0⟩)
theorem Ztr (k:Int) (g:Ac):(pasS k g).1.fit:=by
 unfold pasS;split
 ·exact Zys g
 ·split
  ·exact Zz2
  ·split
   ·exact Zu9 g
   ·split
    ·exact ZmT g
    ·split
     ·exact ZrP (Zk1 g).2
     ·split
      ·exact Zq5 g
      ·exact Zfx
set_option maxHeartbeats 4000000 in
theorem ZAN {k:Int} {g:Ac} (hf:g.fit):Af Tryz.prog 37 [I k,.d (Zbr false g)] [] (.tup [.d (ZdG false (pasS k g).1),.d (Zbu (pasS k g).2)]) []:=by
 refine Af.intro (n:=45) Tryz.func37 (hw:=?_);simp only[Zal];have h1:=Zqi hf;have h2:=Zq2 (t:=false) hf;have h3:=Zn4 hf;have h4:=ZhT (t:=false) hf;have h5:=ZlS hf (Zk1 g).1;have h6:=Zje hf;unfold pasS;by_cases e1:k=1
 ·rw[Hb e1];refine VA ?_;refine Zab [] (hA:=h1) (hr:=?_);refine VA ?_;exact fin2
 rw[Ha e1];by_cases e2:k=2
 ·rw[Hb e2];refine VA ?_;refine Zab [] (hA:=h2) (hr:=?_);refine VA ?_;exact fin2
 rw[Ha e2];by_cases e3:k=3
 ·rw[Hb e3];refine VA ?_;refine Zab [] (hA:=h3) (hr:=?_);refine VA ?_;exact fin2
 rw[Ha e3];by_cases e4:k=4
 ·rw[Hb e4];refine VA ?_;refine Zab [] (hA:=h4) (hr:=?_);refine VA ?_;exact fin2
 rw[Ha e4];by_cases e5:k=5
 ·rw[Hb e5];refine VA ?_;refine Zab [] (hA:=h5) (hr:=?_);refine VA ?_;exact fin2
 rw[Ha e5];by_cases e6:k=6
 ·rw[Hb e6];refine VA ?_;refine Zab [] (hA:=h6) (hr:=?_);refine VA ?_;exact fin2
 rw[Ha e6];refine VA ?_;exact fin2
theorem ZrQ {t u:Bool} {g:Ac} {ks:List Int} (hf:g.fit) (hk:ks.length≤100000000) :
  Af Tryz.prog 11 [.d (Zbr t g),.d (ints u ks)] [] (.tup [.d (Zec false false (Zc0 pasS g ks).1),.d (Zbu (Zc0 pasS g ks).2)]) [] :=
 ZmN hf hk fun k _ g hg=>⟨ZAN hg,Ztr k g⟩
section
variable {P:Int→Ac→Step×Zcf}
theorem Zn5 {g:Ac} {k:Int} {ks:List Int} {i:Nat} {out:List Step} (hc:(P k (Za7 g out)).2.code=0):mkC P g (k::ks) i out=mkC P g ks (i+1) (out++[(P k (Za7 g out)).1]):=by rw[mkC,Ha (fun q=>q hc)]
theorem Zn6 {g:Ac} {k:Int} {ks:List Int} {i:Nat} {out:List Step} (hc:¬ (P k (Za7 g out)).2.code=0):mkC P g (k::ks) i out=([],⟨(P k (Za7 g out)).2.code,(i:Int)⟩):=by rw[mkC,Hb hc]
end
theorem ZxY {k:Int} {g:Ac} (h:(pasS k g).2.code=0):Zam g (pasS k g).1=⟨0,0⟩:=by
 unfold pasS at h ⊢;by_cases e1:k=1
 ·rw[Hb e1] at h ⊢;exact Zvr h
 rw[Ha e1] at h ⊢;by_cases e2:k=2
 ·rw[Hb e2] at h ⊢;exact ZpH h
 rw[Ha e2] at h ⊢;by_cases e3:k=3
 ·rw[Hb e3] at h ⊢;exact ZrO h
 rw[Ha e3] at h ⊢;by_cases e4:k=4
 ·rw[Hb e4] at h ⊢;exact Zr0 h
 rw[Ha e4] at h ⊢;by_cases e5:k=5
 ·rw[Hb e5] at h ⊢;exact Zp5 (Zk1 g).2 h
 rw[Ha e5] at h ⊢;by_cases e6:k=6
 ·rw[Hb e6] at h ⊢;exact Znj h
 rw[Ha e6] at h;cases h
section
variable {P:Int→Ac→Step×Zcf} {g:Ac} {ks:List Int} {k:Nat}
theorem ZAO (h0:(Zac g).code=0) (h8:ks.length≤8):Zc0 P g ks=mkC P g ks 0 []:=by
 unfold Zc0;rw[Ha (fun q=>q h0),Ha (by omega)]
end
end Go.Proofs.YtbpmepgnjanhnaaGreat
