import Derived.Test.YtbpmepgnjanhnaaGreatT1
set_option linter.unusedVariables false
set_option linter.unusedSimpArgs false
set_option linter.unusedSectionVars false
set_option maxRecDepth 100000
namespace Go.Proofs.YtbpmepgnjanhnaaGreat
open Go.RowKit
def Al:Nat→(Nat→Nat)→Nat
 | 0,_=>0
 | n+1,f=>Al n f+f n
theorem ZiB {f g:Nat→Nat}:∀ {n:Nat},(∀ x,x < n→f x=g x)→Al n f=Al n g
 | 0,_=>rfl
 | n+1,h=>by simp only[Al];rw[ZiB (fun x hx=>h x (by omega)),h n (by omega)]
theorem ZeZ {f:Nat→Nat}:∀ {n:Nat},(∀ x,x < n→f x=0)→Al n f=0
 | 0,_=>rfl
 | n+1,h=>by simp only[Al];rw[ZeZ (fun x hx=>h x (by omega)),h n (by omega)]
theorem Zfn {f g:Nat→Nat}:∀ {n:Nat},(∀ x,x < n→f x≤g x)→Al n f≤Al n g
 | 0,_=>Hg _
 | n+1,h=>by simp only[Al];exact Nat.add_le_add (Zfn (fun x hx=>h x (by omega))) (h n (by omega))
theorem Zz4 {f:Nat→Nat} {n m:Nat} (h:n≤m) (hz:∀ x,n≤x→x < m→f x=0):Al m f=Al n f:=by
 induction m with
 | zero =>
      obtain rfl:n=0:=(by omega);rfl
 | succ m ih =>
  by_cases e:n=m+1
  ·rw[e]
  ·simp only[Al];rw[ih (by omega) (fun x h1 h2=>hz x h1 (by omega)),hz m (by omega) (by omega)];rfl
theorem Zkr {f:Nat→Nat} {n k:Nat} (hk:k < n) (hz:∀ x,x < n→x≠k→f x=0):Al n f=f k:=by
 rw[Zz4 (n:=k+1) (by omega) (fun x h1 h2=>hz x h2 (by omega))];simp only[Al];rw[ZeZ (fun x hx=>hz x (by omega) (by omega))];omega
theorem Zro {f:Nat→Nat} {n k:Nat} (hk:k < n):f k≤Al n f:=by
 induction n with
 | zero=>omega
 | succ n ih =>
  simp only[Al];by_cases e:k=n
  ·subst e;omega
  ·have:=ih (by omega);omega
theorem Zpq (M a b:Nat):min M (a+min M b)=min M (a+b):=by omega
theorem Zpr (M a b:Nat):min M (min M a+b)=min M (a+b):=by omega
theorem Zks {M a b:Nat}:min M (min M a * b)=min M (a * b):=by
 by_cases h:a≤M
 ·rw[Nat.min_eq_right h]
 ·rw[Gs (by omega:M≤a)];cases b with
  | zero=>rfl
  | succ b =>
   have h1:M * 1≤M * (b+1):=Ji _ (by omega);have h2:a * 1≤a * (b+1):=Ji _ (by omega);omega
theorem ZhE {M a b:Nat}:min M (a * min M b)=min M (a * b):=by rw[Nat.mul_comm,Zks,Nat.mul_comm]
theorem ZnG {M:Nat} {f g:Nat→Nat}:∀ {n:Nat},(∀ x,x < n→min M (f x)=min M (g x))→min M (Al n f)=min M (Al n g)
 | 0,_=>rfl
 | n+1,h=>by
  have h1:=ZnG (n:=n) (fun x hx=>h x (by omega));have h2:=h n (by omega);simp only[Al];omega
abbrev Cube:=Nat→Nat→Nat→Nat
def symN (N:Cube) (w:List Int) (s:Int) (i m:Nat):Nat:=if 0≤s then N s.toNat i m else if m=i+1∧w[i]? = some (-1 - s) then 1 else 0
def wcn (N:Cube) (w:List Int):List Int→Nat→Nat→Nat
 | [],i,j=>if i=j then 1 else 0
 | s::r,i,j=>Al (j+1) fun m=>if i≤m then symN N w s i m * wcn N w r m j else 0
def at0 (i:Nat):Nat→Nat:=fun e=>if e=i then 1 else 0
def CLe (N N':Cube):Prop:=∀ v i j,N v i j≤N' v i j
theorem ZwQ {N N':Cube} (h:CLe N N') (w:List Int) (s:Int) (i m:Nat):symN N w s i m≤symN N' w s i m:=by
 unfold symN;split
 ·exact h _ _ _
 ·exact Hg _
theorem Zs0 {N N':Cube} (h:CLe N N') (w:List Int):∀ (r:List Int) (i j:Nat),wcn N w r i j≤wcn N' w r i j
 | [],_,_=>Hg _
 | s::r,i,j=>by
  simp only[wcn];refine Zfn fun m _=>?_
  split
  ·exact Nat.mul_le_mul (ZwQ h w s i m) (Zs0 h w r m j)
  ·exact Hg _
def allR (g:Ac) (N:Cube) (w:List Int) (v i j:Nat):Nat:=((g.Aa.filter fun r=>decide (r.left=(v:Int))).map fun r=>wcn N w r.right i j).sum
def rnd (g:Ac) (w:List Int) (M:Nat) (N:Cube):Cube:=fun v i j=>if (v:Int) < g.vars∧i≤j∧j≤w.length then min M (allR g N w v i j) else 0
def rnds (g:Ac) (w:List Int) (M:Nat):Nat→Cube
 | 0=>fun _ _ _=>0
 | k+1=>rnd g w M (rnds g w M k)
def many (g:Ac) (w:List Int) (M:Nat):Nat:=g.vars.toNat * ((w.length+1) * ((w.length+1) * M))
def Ak (g:Ac) (w:List Int) (M:Nat):Cube:=rnds g w M (many g w M)
theorem Zmm {α:Type} {f g:α→Nat}:∀ {l:List α},(∀ x∈l,f x≤g x)→(l.map f).sum≤(l.map g).sum
 | [],_=>Hg _
 | a::l,h=>by
  simp only[Hm,List.sum_cons];exact Nat.add_le_add (h a (by simp)) (Zmm (fun x hx=>h x (by simp[hx])))
theorem Zz5 {g:Ac} {w:List Int} {M:Nat} {N N':Cube} (h:CLe N N'):CLe (rnd g w M N) (rnd g w M N'):=fun v i j=>by
 unfold rnd;split
 ·have:allR g N w v i j≤allR g N' w v i j:=Zmm (fun r _=>Zs0 h w r.right i j)
  omega
 ·exact Hg _
theorem ZwR {g:Ac} {w:List Int} {M:Nat}:∀ k,CLe (rnds g w M k) (rnds g w M (k+1))
 | 0=>fun _ _ _=>Hh _
 | k+1=>Zz5 (ZwR k)
theorem ZDR {g:Ac} {w:List Int} {M:Nat} {N:Cube} (v i j:Nat):rnd g w M N v i j≤M:=by unfold rnd;split <;> omega
theorem ZwS {g:Ac} {w:List Int} {M:Nat}:∀ (k v i j:Nat),rnds g w M k v i j≤M
 | 0,_,_,_=>Hh _
 | _+1,v,i,j=>ZDR v i j
def ZuN (g:Ac) (w:List Int) (N:Cube):Nat:=Al g.vars.toNat fun v=>Al (w.length+1) fun i=>Al (w.length+1) fun j=>N v i j
theorem ZiC {n c:Nat}:Al n (fun _=>c)=n * c:=by
 induction n with
 | zero=>simp[Al]
 | succ n ih=>simp only[Al,ih,Gb];omega
theorem Zz6 {g:Ac} {w:List Int} {M:Nat} {N:Cube} (h:∀ v i j,N v i j≤M):ZuN g w N≤many g w M:=by
 unfold ZuN many;rw[←ZiC];refine Zfn fun v _=>?_
 rw[←ZiC];refine Zfn fun i _=>?_
 rw[←ZiC];exact Zfn fun j _=>h v i j
theorem ZhF {g:Ac} {w:List Int} {M:Nat} {k v i j:Nat} (h:¬ ((v:Int) < g.vars∧i≤j∧j≤w.length)):rnds g w M k v i j=0:=by
 cases k with
 | zero=>rfl
 | succ k=>show rnd g w M _ v i j=0;unfold rnd;rw[Ha h]
theorem Zrp {f g:Nat→Nat} {n k:Nat} (hk:k < n) (h:∀ x,x < n→f x≤g x) (hl:f k < g k):Al n f < Al n g:=by
 induction n with
 | zero=>omega
 | succ n ih =>
  simp only[Al];by_cases e:k=n
  ·subst e;have:=Zfn (f:=f) (g:=g) (n:=k) (fun x hx=>h x (by omega));omega
  ·have:=ih (by omega) (fun x hx=>h x (by omega));have:=h n (by omega);omega
theorem Zs1 {g:Ac} {w:List Int} {M k:Nat} (h:rnds g w M (k+1)≠rnds g w M k):ZuN g w (rnds g w M k) < ZuN g w (rnds g w M (k+1)):=by
 have hup:=ZwR (g:=g) (w:=w) (M:=M) k;have:∃ v i j,rnds g w M k v i j≠rnds g w M (k+1) v i j:=HN fun hn=>h (by
  funext v i j;exact HN fun hne=>hn ⟨v,i,j,fun e=>hne e.symm⟩)
 obtain⟨v,i,j,hne⟩:=this;have hlt:rnds g w M k v i j < rnds g w M (k+1) v i j:=by have:=hup v i j;omega
 have hin:(v:Int) < g.vars∧i≤j∧j≤w.length:=HN fun hn=>by
  rw[ZhF hn,ZhF hn] at hlt;omega
 unfold ZuN;refine Zrp (k:=v) (by omega) (fun x _=>Zfn fun y _=>Zfn fun z _=>hup x y z) ?_;refine Zrp (k:=i) (by omega) (fun y _=>Zfn fun z _=>hup v y z) ?_;exact Zrp (k:=j) (by omega) (fun z _=>hup v i z) hlt
theorem ZhG {g:Ac} {w:List Int} {M k:Nat} (h:rnds g w M (k+1)=rnds g w M k):∀ m,rnds g w M (k+m)=rnds g w M k
 | 0=>rfl
 | m+1=>by
  show rnd g w M (rnds g w M (k+m))=_;rw[ZhG h m];exact h
theorem Zmn {g:Ac} {w:List Int} {M:Nat}:∀ k,rnds g w M (k+1)≠rnds g w M k→k < ZuN g w (rnds g w M (k+1))
 | 0,h=>by have:=Zs1 h;omega
 | k+1,h=>by
  have h1:rnds g w M (k+1)≠rnds g w M k:=fun e=>h (by
   show rnd g w M (rnds g w M (k+1))=rnd g w M (rnds g w M k);rw[e])
  have:=Zmn k h1;have:=Zs1 h;omega
theorem ZwT {g:Ac} {w:List Int} {M k:Nat} (h:rnds g w M (k+1)≠rnds g w M k):k < many g w M :=
 Gm (Zmn k h) (Zz6 (fun v i j=>ZwS (k+1) v i j))
theorem ZnH (g:Ac) (w:List Int) (M:Nat):rnd g w M (Ak g w M)=Ak g w M:=HN fun h=>by
 have:=ZwT (g:=g) (w:=w) (M:=M) (k:=many g w M) h;omega
theorem Zz7 {g:Ac} {w:List Int} {M k:Nat} (h:rnds g w M (k+1)=rnds g w M k):rnds g w M k=Ak g w M:=by
 unfold Ak;by_cases hk:k≤many g w M
 ·have:=ZhG h (many g w M - k);rw[show k+(many g w M - k)=many g w M by omega] at this;exact this.symm
 ·have:=ZhG (g:=g) (w:=w) (M:=M) (k:=many g w M) (ZnH g w M) (k - many g w M);rw[show many g w M+(k - many g w M)=k by omega] at this;exact this
theorem ZgT (g:Ac) (w:List Int) (M v i j:Nat):Ak g w M v i j≤M:=ZwS _ v i j
theorem ZwU {g:Ac} {w:List Int} {M v i j:Nat} (h1:(v:Int) < g.vars) (h2:i≤j) (h3:j≤w.length):Ak g w M v i j=min M (allR g (Ak g w M) w v i j):=by
 conv=>lhs;rw[←ZnH]
 unfold rnd;rw[Hb ⟨h1,h2,h3⟩]
def uD (x:Int):D:=.raw (.int .u64 x)
abbrev U (x:Nat):V:=.d (uD (x:Int))
def hasN (s:Nat) (v:Int):Bool:=decide (0≤v) && (decide (v < 64) && s.testBit v.toNat)
def ZlP (s:Nat) (v:Int):Nat:=if 0≤v∧v < 64 then s ||| (1 <<< v.toNat) else s
theorem ZCr (s k:Nat):decide (s >>> k &&& 1=1)=s.testBit k:=by
 rw[Nat.testBit,Nat.and_comm 1,Nat.and_one_is_mod];rcases Nat.mod_two_eq_zero_or_one (s >>> k) with h|h <;> rw[h] <;> rfl
theorem Zkt {s:Nat} {v:Int} (hs:s < 18446744073709551616:=by exact Vm):Af Tryz.prog 88 [U s,I v] [] (B (hasN s v)) []:=by
 refine Af.intro (n:=18) Tryz.func88 (hw:=?_);simp only[Zal];by_cases h1:0≤v
 ·by_cases h2:v < 64
  ·obtain⟨k,rfl⟩:∃ k:Nat,v=(k:Int):=⟨v.toNat,by omega⟩
   have e:hasN s k=s.testBit k:=by simp only[hasN,Hu h1,Hu h2,H5,Hn]
   have e2:s.testBit k=decide (andU (shrU s k) 1=1):=by
    rw[←ZCr];exact decide_eq_decide.2 (by rw[show andU (shrU s k) 1=((s >>> k &&& 1:Nat):Int) from rfl];omega)
   rw[e,e2];refine VA ?_;refine gOp ?_;refine gBin ?_;refine ZE2 (h1:=?_) (h2:=?_) (h3:=?_) (h4:=?_) (hr:=?_)
   ·exact Int.natCast_nonneg _
   ·have:=Nat.shiftRight_le s k;rw[show shrU s k=((s >>> k:Nat):Int) from rfl];omega
   ·omega
   ·omega
   refine VA ?_;exact fin
  ·rw[show hasN s v=false by simp[hasN];omega];refine VA ?_;exact fin
 ·rw[show hasN s v=false by simp[hasN];omega];refine VA ?_;exact fin
theorem ZjE {s:Nat} {v:Int} (hs:s < 18446744073709551616:=by exact Vm):Af Tryz.prog 170 [U s,I v] [] (U (ZlP s v)) []:=by
 refine Af.intro (n:=16) Tryz.func170 (hw:=?_);simp only[Zal];by_cases h1:v < 0
 ·rw[show ZlP s v=s by rw[ZlP,Ha (by omega)]];refine VA ?_;exact fin
 ·by_cases h2:v > 63
  ·rw[show ZlP s v=s by rw[ZlP,Ha (by omega)]];refine VA ?_;exact fin
  ·obtain⟨k,rfl⟩:∃ k:Nat,v=(k:Int):=⟨v.toNat,by omega⟩
   have e:ZlP s k=((s:Int).toNat ||| (shlU 1 k).toNat):=by rw[ZlP,Hb (by omega)];rfl
   rw[show U (ZlP s k)=V.d (.raw (.int .u64 (orU s (shlU 1 k)))) by rw[e];rfl];clear e;refine VA ?_;refine gOp ?_;refine gBin ?_;refine d_or (h1:=?_) (h2:=?_) (h3:=?_) (h4:=?_) (hr:=?_)
   ·omega
   ·omega
   ·exact Int.natCast_nonneg _
   ·have hb:(1 <<< k:Nat) < 18446744073709551616:=by
     rw[Nat.one_shiftLeft];exact Gm (Nat.pow_lt_pow_right (a:=2) (n:=64) (by decide) (by omega)) (by decide)
    rw[show shlU 1 (k:Int)=((1 <<< k:Nat):Int) from rfl];omega
   refine VA ?_;exact fin
def Zfo (s n:Nat):List Int:=((List.range n).filter (fun k=>s.testBit k)).map (fun (k:Nat)=>(k:Int))
theorem Ze0 (s n:Nat):Zfo s (n+1)=Zfo s n++(if s.testBit n=true then [(n:Int)] else []):=by
 unfold Zfo;rw[Gn,GS,Ho];congr 1;by_cases h:s.testBit n=true <;> simp[h]
theorem Zz8 (s n:Nat):(Zfo s n).length≤n:=by
 unfold Zfo;rw[Hi];exact Hq (Gd _ _) (by simp)
theorem Zz9 {s:Nat} (hs:s < 18446744073709551616:=by exact Vm):Af Tryz.prog 90 [U s] [] (.own 900 (Zfo s 64).length) [(900,.row 3 1 ((Zfo s 64).map iD))]:=by
 refine Af.intro (n:=17) Tryz.func90 (hw:=?_);simp only[Zal];refine VA ?_;refine ZbB 3 900 3 1 rfl rfl rfl ?_;refine Zak (X:=Nat) (fun k=>k≤64) (fun k=>[(5,I k),(0,U s),(3,.own 900 (Zfo s k).length)]) (fun k=>[(900,.row 3 1 ((Zfo s k).map iD))]) (fun k=>64 - k) 0 (Hh _) ?_;intro k hk;have hl:=Zz8 s k;by_cases hlt:(k:Int) < 64
 ·have e:=Ze0 s k;have eh:hasN s k=s.testBit k:=by simp only[hasN,Hu hlt,H5,Hn];rw[Hu (by omega)];rfl
  have h1:=Zkt (s:=s) (v:=k) hs;rw[eh] at h1;refine VA ?_;refine Zab [] (hA:=h1) (hr:=?_);cases hb:s.testBit k with
  | true =>
   rw[hb,Hb rfl] at e;refine VA ?_;exact Zad (k+1)
  | false =>
   rw[hb,Ha (by decide),Ht] at e;refine VA ?_;exact Zad (k+1)
 ·obtain rfl:k=64:=by omega
  refine VA ?_;exact fin
theorem ZjF {is:List Bool} (h:is.length≤64) (v:Int):hasN (setN is) v=has is v:=by
 unfold hasN has;rw[Zct];by_cases h1:v < 64
 ·simp[h1]
 ·rw[HC h1,Gz,G6,Hf,HI (by omega)];simp
theorem ZhH {is:List Bool} (h:is.length≤64) {v:Int} (h0:0≤v) (h1:v < is.length):ZlP (setN is) v=setN (put is v):=by
 rw[ZlP,Hb (by omega),put,ZBJ (by omega)]
def Zba (is:List Bool):List Int:=((List.range is.length).filter (fun k=>is.getD k false)).map (fun (k:Nat)=>(k:Int))
theorem ZdS (is:List Bool):(Zba is).length≤is.length:=by
 unfold Zba;rw[Hi];exact Hq (Gd _ _) (by simp)
theorem Zps {is:List Bool}:∀ {n:Nat},is.length≤n→Zfo (setN is) n=Zba is:=by
 intro n hn;obtain⟨d,rfl⟩:∃ d,n=is.length+d:=⟨n - is.length,by omega⟩
 clear hn
 induction d with
 | zero=>simp only[Zfo,Zba,Zct,Gx]
 | succ d ih =>
  rw[←GR,Ze0,ih,Zct,Hf,HI (by omega),Ha (by simp),Ht]
abbrev ZEO (t:Bool) (is:List Bool):D:=.sl t 1 (is.map bD)
def badS (t:Bool) (is:List Bool) (x:Int):Bool:=(decide (x < 0) && !t) || (decide (0≤x) && !has is x)
theorem ZAa (t:Bool) (r:Rule) (is:List Bool):ZaQ (asks t r) is=!(r.right.any (badS t is)):=by
 rw[GX];simp only[ZaQ,Bool.not_eq_true',JJ,HR];cases t with
 | false =>
  simp only[asks,cond_false];refine forall_congr' fun x=>forall_congr' fun _=>?_
  by_cases h:0≤x
  ·simp[badS,h]
  ·have:has is x=false:=by simp[has,h]
   simp[badS,this]
 | true =>
  simp only[asks,Gc];constructor
  ·intro h x hx;by_cases h0:0≤x
   ·simp[badS,h x (by simp[Ab,hx,h0])]
   ·simp[badS,h0]
  ·intro h x hx;have h0:=ZbY x hx;have:=h x (ZdY hx);simpa[badS,h0] using this
abbrev setBox (is:List Bool):Ob:=.box 118 [.d (uD (setN is:Nat))]
abbrev ZgU (b:Bool):Ob:=.box 4 [.d (bD b)]
theorem ZuO {t:Bool} {is:List Bool} {x:Int} (hl:is.length≤64) :
  Af Tryz.prog 214 [I x,.ptr 1000 0,.ptr 1001 0] [(1000,ZgU t),(1001,setBox is)] (B (badS t is x)) [(1000,ZgU t),(1001,setBox is)]:=by
 refine Af.intro (n:=21) Tryz.func214 (hw:=?_);simp only[Zal];have hs:=Zdf hl;have h1:=Zkt (s:=setN is) (v:=x) hs;rw[ZjF hl] at h1;by_cases h0:0≤x
 ·have hx:decide (x < 0)=false:=HC (by omega);have eb:badS t is x=!has is x:=by simp[badS,h0,hx]
  rw[eb]
  (try refine wk ?_)
  refine Zab [] (hA:=h1) (hr:=?_)
  (try refine wk ?_)
  exact fin
 ·cases t with
  | false =>
   rw[show badS false is x=true by simp[badS];omega];refine VB ?_;exact fin
  | true =>
   rw[show badS true is x=false by simp[badS];omega]
   (try refine wk ?_)
   exact fin
theorem Zpt {t u:Bool} {r:Rule} {is:List Bool} (hl:is.length≤64:=by exact Vm) (hr:r.right.length≤100000000:=by exact Vm) :
  Af Tryz.prog 169 [.d (Za3 t r),U (setN is),B u] [] (B (ZaQ (asks u r) is)) []:=by
 refine Af.intro (n:=12) Tryz.func169 (hw:=?_);simp only[Zal];rw[ZAa]
 (try refine wk ?_)
 refine Zab [(1000,5),(1001,4)] (hA:=Zb0 (t:=t) (clos:=214) (caps:=[.ptr 1000 0,.ptr 1001 0]) (H:=[(1000,ZgU u),(1001,setBox is)]) (p:=badS u is) ⟨rfl,rfl,rfl,⟨rfl,rfl,trivial⟩⟩ (fun x _=>ZuO hl)) (hr:=?_)
 (try refine wk ?_)
 exact fin
theorem ZCs {t:Bool} {rs:List Rule} {i:Nat} {is:List Bool} (h:i < rs.length):pass t (rs.drop i) is=pass t (rs.drop (i+1)) (one1 t rs[i] is):=by
 rw[Hw h,pass]
theorem ZAb {t:Bool} {rs:List Rule} {i:Nat} {is:List Bool} (h:¬ i < rs.length):pass t (rs.drop i) is=is:=by
 rw[HL (by omega),pass]
abbrev ZgV (t:Bool) (r:Rule):Ob:=.box 68 [.d (iD r.left),.d (ints t r.right)]
theorem ZuP {t u:Bool} {g:Ac} (hg:g.ok) {is:List Bool} (hl:is.length=g.vars.toNat) :
  Af Tryz.prog 172 [U (setN is),.ptr 1000 0,.ptr 1001 0] [(1000,ZaE t g),(1001,ZgU u)] (U (setN (pass u g.Aa is))) [(1000,ZaE t g),(1001,ZgU u)]:=by
 refine Af.intro (n:=24) Tryz.func172 (hw:=?_);simp only[Zal];have hv:=hg.vars;have hlen:=hg.Aa
 (try refine wk ?_)
 refine Zak (X:=Nat×List Bool) (fun x=>x.1≤g.Aa.length∧pass u g.Aa is=pass u (g.Aa.drop x.1) x.2∧x.2.length=is.length) (fun x=>[(10,I x.1),(9,I g.Aa.length),(8,.d (ZaS t g.Aa)),(0,U (setN x.2)),(1,.ptr 1000 0),(2,.ptr 1001 0)]) (fun _=>[(1000,ZaE t g),(1001,ZgU u)]) (fun x=>g.Aa.length - x.1) (0,is) ⟨Hh _,rfl,rfl⟩ ?_;rintro⟨i,js⟩ ⟨h1,h2,h3⟩;dsimp only at h1 h2 h3 ⊢;by_cases hlt:i < g.Aa.length
 ·have hmem:=He hlt;have a1:=hg.left0 _ hmem;have a2:=hg.left _ hmem;have a3:=hg.right _ hmem;have hp:=ZCs (t:=u) (is:=js) hlt;have hl64:js.length≤64:=by omega
  have hlt64:=Zdf hl64;have hw:=ZjE (s:=setN js) (v:=g.Aa[i].left) hlt64;rw[ZhH hl64 a1 (by omega)] at hw
  (try refine wk ?_)
  refine Zab [] (hA:=Zpt (t:=t) (r:=g.Aa[i])) (hr:=?_);cases hc:ZaQ (asks u g.Aa[i]) js with
  | true =>
   have ho:one1 u g.Aa[i] js=put js g.Aa[i].left:=by rw[one1,hc];rfl
   rw[ho] at hp
   (try refine wk ?_)
   refine Zab [] (hA:=hw) (hr:=?_)
   (try refine wk ?_)
   exact Zad (i+1,put js g.Aa[i].left) (a:=⟨by omega,h2.trans hp,by rw[Zcu];exact h3⟩) (b:=by dsimp only;omega)
  | false =>
   have ho:one1 u g.Aa[i] js=js:=by rw[one1,hc];rfl
   rw[ho] at hp
   (try refine wk ?_)
   exact Zad (i+1,js) (a:=⟨by omega,h2.trans hp,h3⟩) (b:=by dsimp only;omega)
 ·rw[h2,ZAb hlt]
  (try refine wk ?_)
  exact fin
theorem Zs2 {clos:Nat} {caps:List V} {H:Hp} {f:List Bool→List Bool} {is:List Bool} (hC:Clo H caps) (hs:∀ x,Sub x (f x)) (hl:is.length≤64)
  (hc:∀ x:List Bool,x.length=is.length→Af Tryz.prog clos (U (setN x)::caps) H (U (setN (f x))) H) :
  Af Tryz.prog 171 [U (setN is),.fn (.func clos) [] caps] H (U (setN (full f is))) H:=by
 refine Af.intro (n:=17) Tryz.func171 (hw:=?_);simp only[Zal];have h1:=hC.self;have h2:=hC.inn;have h3:=hC.caps
 (try refine wk ?_)
 refine Znb hC (hA:=hc is rfl) (hr:=?_)
 (try refine wk ?_)
 refine Zak (X:=List Bool) (fun x=>x.length=is.length∧full f is=full f x) (fun x=>[(5,U (setN (f x))),(0,U (setN x)),(1,.fn (.func clos) [] caps)]) (fun _=>H) (fun x=>is.length - cntB x) is ⟨rfl,rfl⟩ ?_;rintro x ⟨hx,hf⟩;have hfl:=(hs x).len;by_cases e:f x=x
 ·have e1:(setN (f x):Int)=(setN x:Int):=by rw[e]
  rw[hf,ZBK e]
  (try refine wk ?_)
  exact fin
 ·have e1:¬ ((setN (f x):Int)=(setN x:Int)):=fun h=>e (ZBI hfl.symm (by omega))
  have hgr:=(hs x).grows (Ne.symm e);have hle:=ZsD (f x)
  (try refine wk ?_)
  refine Znb hC (hA:=hc (f x) (by omega)) (hr:=?_)
  (try refine wk ?_)
  exact Zad (f x) (a:=⟨by omega,by rw[hf,Zzr hs]⟩) (b:=by omega)
theorem Zku {t u:Bool} {g:Ac} (hg:g.ok):Af Tryz.prog 89 [.d (Zbr t g),B u] [] (U (setN (Za1 u g))) []:=by
 refine Af.intro (n:=7) Tryz.func89 (hw:=?_);simp only[Zal];have hv:=hg.vars;have h:=Zs2 (clos:=172) (caps:=[.ptr 1000 0,.ptr 1001 0]) (H:=[(1000,ZaE t g),(1001,ZgU u)]) (f:=pass u g.Aa) (is:=Zff g) ⟨rfl,rfl,rfl,⟨rfl,rfl,trivial⟩⟩ (Zid hg.left0) (by rw[Zbl];omega) (fun x hx=>ZuP hg (by rw[hx,Zbl]));rw[show setN (Zff g)=0 from Zj4 _] at h
 (try refine wk ?_)
 refine Zab [(1000,2),(1001,3)] (hA:=h) (hr:=?_)
 (try refine wk ?_)
 exact fin
def ZwV (g:Ac):List Int:=if (Zac g).code=0 then Zba (Za1 false g) else []
def Zrq (g:Ac):List Int:=if (Zac g).code=0 then Zba (Za1 true g) else []
theorem ZnI {is:List Bool} (h:is.length≤64):Af Tryz.prog 90 [U (setN is)] [] (.own 900 (Zba is).length) [(900,.row 3 1 ((Zba is).map iD))]:=by
 have:=Zz9 (s:=setN is) (Zdf h)
 rwa [Zps h] at this
theorem Zpu {t:Bool} {g:Ac} (hf:g.fit):Af Tryz.prog 53 [.d (Zbr t g)] [] (.tup [.d (ints false (ZwV g)),.d (Zbu (Zac g))]) []:=by
 refine Af.intro (n:=15) Tryz.func53 (hw:=?_);simp only[Zal];have hl:=hf.Aa;have hr:=hf.right
 (try refine wk ?_)
 refine Zab [] (hA:=ZaT) (hr:=?_);by_cases h0:(Zac g).code=0
 ·have hg:=Zbd h0;have hz:=Zfd h0;have hv:=hg.vars;have hll:=ZcR (t:=false) hg;rw[ZwV,Hb h0,hz]
  (try refine wk ?_)
  refine Zab [] (hA:=Zku (u:=false) hg) (hr:=?_)
  (try refine wk ?_)
  refine Zab [] (hA:=ZnI (is:=Za1 false g) (by omega)) (hr:=?_);repeat (first|refine wkr ?_|refine Zaa (hr:=?_))
  refine Zaz 900 rfl ?_
  (try refine wk ?_)
  exact fin
 ·rw[ZwV,Ha h0]
  (try refine wk ?_)
  exact fin
theorem ZlQ {t:Bool} {g:Ac} (hf:g.fit):Af Tryz.prog 112 [.d (Zbr t g)] [] (.tup [.d (ints false (Zrq g)),.d (Zbu (Zac g))]) []:=by
 refine Af.intro (n:=15) Tryz.func112 (hw:=?_);simp only[Zal];have hl:=hf.Aa;have hr:=hf.right
 (try refine wk ?_)
 refine Zab [] (hA:=ZaT) (hr:=?_);by_cases h0:(Zac g).code=0
 ·have hg:=Zbd h0;have hz:=Zfd h0;have hv:=hg.vars;have hll:=ZcR (t:=true) hg;rw[Zrq,Hb h0,hz]
  (try refine wk ?_)
  refine Zab [] (hA:=Zku (u:=true) hg) (hr:=?_)
  (try refine wk ?_)
  refine Zab [] (hA:=ZnI (is:=Za1 true g) (by omega)) (hr:=?_);repeat (first|refine wkr ?_|refine Zaa (hr:=?_))
  refine Zaz 900 rfl ?_
  (try refine wk ?_)
  exact fin
 ·rw[Zrq,Ha h0]
  (try refine wk ?_)
  exact fin
end Go.Proofs.YtbpmepgnjanhnaaGreat
