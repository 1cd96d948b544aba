import Derived.Test.YtbpmepgnjanhnaaGreatQT1
import Derived.Shelf.Slices.Delete
set_option linter.unusedVariables false
set_option linter.unusedSimpArgs false
set_option linter.unusedSectionVars false
set_option maxHeartbeats 1000000
set_option maxRecDepth 100000
namespace Go.Proofs.YtbpmepgnjanhnaaGreat
open Go.RowKit
def Al:Nat→(Nat→Nat)→Nat
 | 0,_=>0
 | n+1,f=>Al n f+f n
theorem Ziv {f g:Nat→Nat}:∀ {n:Nat},(∀ x,x < n→f x=g x)→Al n f=Al n g
 | 0,_=>rfl
 | n+1,h=>by simp only[Al];rw[Ziv (fun x hx=>h x (by omega)),h n (by omega)]
theorem ZeU {f:Nat→Nat}:∀ {n:Nat},(∀ x,x < n→f x=0)→Al n f=0
 | 0,_=>rfl
 | n+1,h=>by simp only[Al];rw[ZeU (fun x hx=>h x (by omega)),h n (by omega)]
theorem Zfj {f g:Nat→Nat}:∀ {n:Nat},(∀ x,x < n→f x≤g x)→Al n f≤Al n g
 | 0,_=>Hg _
 | n+1,h=>by simp only[Al];exact Nat.add_le_add (Zfj (fun x hx=>h x (by omega))) (h n (by omega))
theorem Zzu {f:Nat→Nat} {n m:Nat} (h:n≤m) (hz:∀ x,n≤x→x < m→f x=0):Al m f=Al n f:=by
 induction m with
 | zero =>
      obtain rfl:n=0:=(by omega);rfl
 | succ m ih =>
  by_cases e:n=m+1
  ·rw[e]
  ·simp only[Al];rw[ih (by omega) (fun x h1 h2=>hz x h1 (by omega)),hz m (by omega) (by omega)];rfl
theorem Zkl {f:Nat→Nat} {n k:Nat} (hk:k < n) (hz:∀ x,x < n→x≠k→f x=0):Al n f=f k:=by
 rw[Zzu (n:=k+1) (by omega) (fun x h1 h2=>hz x h2 (by omega))];simp only[Al];rw[ZeU (fun x hx=>hz x (by omega) (by omega))];omega
theorem Zq1 {f:Nat→Nat} {n k:Nat} (hk:k < n):f k≤Al n f:=by
 induction n with
 | zero=>omega
 | succ n ih =>
  simp only[Al];by_cases e:k=n
  ·subst e;omega
  ·have:=ih (by omega);omega
theorem Zo1 (M a b:Nat):min M (a+min M b)=min M (a+b):=by omega
theorem Zo2 (M a b:Nat):min M (min M a+b)=min M (a+b):=by omega
theorem Zkm {M a b:Nat}:min M (min M a * b)=min M (a * b):=by
 by_cases h:a≤M
 ·rw[Nat.min_eq_right h]
 ·rw[Gx (by omega:M≤a)];cases b with
  | zero=>rfl
  | succ b =>
   have h1:M * 1≤M * (b+1):=Jo _ (by omega);have h2:a * 1≤a * (b+1):=Jo _ (by omega);omega
theorem Zht {M a b:Nat}:min M (a * min M b)=min M (a * b):=by rw[Nat.mul_comm,Zkm,Nat.mul_comm]
theorem Znq {M:Nat} {f g:Nat→Nat}:∀ {n:Nat},(∀ x,x < n→min M (f x)=min M (g x))→min M (Al n f)=min M (Al n g)
 | 0,_=>rfl
 | n+1,h=>by
  have h1:=Znq (n:=n) (fun x hx=>h x (by omega));have h2:=h n (by omega);simp only[Al];omega
abbrev Cube:=Nat→Nat→Nat→Nat
def symN (N:Cube) (w:List Int) (s:Int) (i m:Nat):Nat:=if 0≤s then N s.toNat i m else if m=i+1∧w[i]? = some (-1 - s) then 1 else 0
def wcn (N:Cube) (w:List Int):List Int→Nat→Nat→Nat
 | [],i,j=>if i=j then 1 else 0
 | s::r,i,j=>Al (j+1) fun m=>if i≤m then symN N w s i m * wcn N w r m j else 0
def at0 (i:Nat):Nat→Nat:=fun e=>if e=i then 1 else 0
def CLe (N N':Cube):Prop:=∀ v i j,N v i j≤N' v i j
theorem Zv9 {N N':Cube} (h:CLe N N') (w:List Int) (s:Int) (i m:Nat):symN N w s i m≤symN N' w s i m:=by
 unfold symN;split
 ·exact h _ _ _
 ·exact Hg _
theorem ZsD {N N':Cube} (h:CLe N N') (w:List Int):∀ (r:List Int) (i j:Nat),wcn N w r i j≤wcn N' w r i j
 | [],_,_=>Hg _
 | s::r,i,j=>by
  simp only[wcn];refine Zfj fun m _=>?_
  split
  ·exact Nat.mul_le_mul (Zv9 h w s i m) (ZsD h w r m j)
  ·exact Hg _
def allR (g:Ac) (N:Cube) (w:List Int) (v i j:Nat):Nat:=((g.Aa.filter fun r=>decide (r.left=(v:Int))).map fun r=>wcn N w r.right i j).sum
def rnd (g:Ac) (w:List Int) (M:Nat) (N:Cube):Cube:=fun v i j=>if (v:Int) < g.vars∧i≤j∧j≤w.length then min M (allR g N w v i j) else 0
def rnds (g:Ac) (w:List Int) (M:Nat):Nat→Cube
 | 0=>fun _ _ _=>0
 | k+1=>rnd g w M (rnds g w M k)
def many (g:Ac) (w:List Int) (M:Nat):Nat:=g.vars.toNat * ((w.length+1) * ((w.length+1) * M))
def Ak (g:Ac) (w:List Int) (M:Nat):Cube:=rnds g w M (many g w M)
theorem Zmb {α:Type} {f g:α→Nat}:∀ {l:List α},(∀ x∈l,f x≤g x)→(l.map f).sum≤(l.map g).sum
 | [],_=>Hg _
 | a::l,h=>by
  simp only[Hm,List.sum_cons];exact Nat.add_le_add (h a (by simp)) (Zmb (fun x hx=>h x (by simp[hx])))
theorem Zzv {g:Ac} {w:List Int} {M:Nat} {N N':Cube} (h:CLe N N'):CLe (rnd g w M N) (rnd g w M N'):=fun v i j=>by
 unfold rnd;split
 ·have:allR g N w v i j≤allR g N' w v i j:=Zmb (fun r _=>ZsD h w r.right i j)
  omega
 ·exact Hg _
theorem Zwa {g:Ac} {w:List Int} {M:Nat}:∀ k,CLe (rnds g w M k) (rnds g w M (k+1))
 | 0=>fun _ _ _=>Hi _
 | k+1=>Zzv (Zwa k)
theorem ZDu {g:Ac} {w:List Int} {M:Nat} {N:Cube} (v i j:Nat):rnd g w M N v i j≤M:=by unfold rnd;split <;> omega
theorem Zwb {g:Ac} {w:List Int} {M:Nat}:∀ (k v i j:Nat),rnds g w M k v i j≤M
 | 0,_,_,_=>Hi _
 | _+1,v,i,j=>ZDu v i j
def Zuf (g:Ac) (w:List Int) (N:Cube):Nat:=Al g.vars.toNat fun v=>Al (w.length+1) fun i=>Al (w.length+1) fun j=>N v i j
theorem Ziw {n c:Nat}:Al n (fun _=>c)=n * c:=by
 induction n with
 | zero=>simp[Al]
 | succ n ih=>simp only[Al,ih,Ga];omega
theorem Zzw {g:Ac} {w:List Int} {M:Nat} {N:Cube} (h:∀ v i j,N v i j≤M):Zuf g w N≤many g w M:=by
 unfold Zuf many;rw[←Ziw];refine Zfj fun v _=>?_
 rw[←Ziw];refine Zfj fun i _=>?_
 rw[←Ziw];exact Zfj fun j _=>h v i j
theorem Zhu {g:Ac} {w:List Int} {M:Nat} {k v i j:Nat} (h:¬ ((v:Int) < g.vars∧i≤j∧j≤w.length)):rnds g w M k v i j=0:=by
 cases k with
 | zero=>rfl
 | succ k=>show rnd g w M _ v i j=0;unfold rnd;rw[Ha h]
theorem Zq2 {f g:Nat→Nat} {n k:Nat} (hk:k < n) (h:∀ x,x < n→f x≤g x) (hl:f k < g k):Al n f < Al n g:=by
 induction n with
 | zero=>omega
 | succ n ih =>
  simp only[Al];by_cases e:k=n
  ·subst e;have:=Zfj (f:=f) (g:=g) (n:=k) (fun x hx=>h x (by omega));omega
  ·have:=ih (by omega) (fun x hx=>h x (by omega));have:=h n (by omega);omega
theorem ZsE {g:Ac} {w:List Int} {M k:Nat} (h:rnds g w M (k+1)≠rnds g w M k):Zuf g w (rnds g w M k) < Zuf g w (rnds g w M (k+1)):=by
 have hup:=Zwa (g:=g) (w:=w) (M:=M) k;have:∃ v i j,rnds g w M k v i j≠rnds g w M (k+1) v i j:=HN fun hn=>h (by
  funext v i j;exact HN fun hne=>hn ⟨v,i,j,fun e=>hne e.symm⟩)
 obtain⟨v,i,j,hne⟩:=this;have hlt:rnds g w M k v i j < rnds g w M (k+1) v i j:=by have:=hup v i j;omega
 have hin:(v:Int) < g.vars∧i≤j∧j≤w.length:=HN fun hn=>by
  rw[Zhu hn,Zhu hn] at hlt;omega
 unfold Zuf;refine Zq2 (k:=v) (by omega) (fun x _=>Zfj fun y _=>Zfj fun z _=>hup x y z) ?_;refine Zq2 (k:=i) (by omega) (fun y _=>Zfj fun z _=>hup v y z) ?_;exact Zq2 (k:=j) (by omega) (fun z _=>hup v i z) hlt
theorem Zhv {g:Ac} {w:List Int} {M k:Nat} (h:rnds g w M (k+1)=rnds g w M k):∀ m,rnds g w M (k+m)=rnds g w M k
 | 0=>rfl
 | m+1=>by
  show rnd g w M (rnds g w M (k+m))=_;rw[Zhv h m];exact h
theorem Zmc {g:Ac} {w:List Int} {M:Nat}:∀ k,rnds g w M (k+1)≠rnds g w M k→k < Zuf g w (rnds g w M (k+1))
 | 0,h=>by have:=ZsE h;omega
 | k+1,h=>by
  have h1:rnds g w M (k+1)≠rnds g w M k:=fun e=>h (by
   show rnd g w M (rnds g w M (k+1))=rnd g w M (rnds g w M k);rw[e])
  have:=Zmc k h1;have:=ZsE h;omega
theorem Zwc {g:Ac} {w:List Int} {M k:Nat} (h:rnds g w M (k+1)≠rnds g w M k):k < many g w M :=
 Gl (Zmc k h) (Zzw (fun v i j=>Zwb (k+1) v i j))
theorem Znr (g:Ac) (w:List Int) (M:Nat):rnd g w M (Ak g w M)=Ak g w M:=HN fun h=>by
 have:=Zwc (g:=g) (w:=w) (M:=M) (k:=many g w M) h;omega
theorem Zzx {g:Ac} {w:List Int} {M k:Nat} (h:rnds g w M (k+1)=rnds g w M k):rnds g w M k=Ak g w M:=by
 unfold Ak;by_cases hk:k≤many g w M
 ·have:=Zhv h (many g w M - k);rw[show k+(many g w M - k)=many g w M by omega] at this;exact this.symm
 ·have:=Zhv (g:=g) (w:=w) (M:=M) (k:=many g w M) (Znr g w M) (k - many g w M);rw[show many g w M+(k - many g w M)=k by omega] at this;exact this
theorem Zfk (g:Ac) (w:List Int) (M v i j:Nat):Ak g w M v i j≤M:=Zwb _ v i j
theorem Zwd {g:Ac} {w:List Int} {M v i j:Nat} (h1:(v:Int) < g.vars) (h2:i≤j) (h3:j≤w.length):Ak g w M v i j=min M (allR g (Ak g w M) w v i j):=by
 conv=>lhs;rw[←Znr]
 unfold rnd;rw[Hb ⟨h1,h2,h3⟩]
def uD (x:Int):D:=.raw (.int .u64 x)
abbrev U (x:Nat):V:=.d (uD (x:Int))
def hasN (s:Nat) (v:Int):Bool:=decide (0≤v) && (decide (v < 64) && s.testBit v.toNat)
def ZlI (s:Nat) (v:Int):Nat:=if 0≤v∧v < 64 then s ||| (1 <<< v.toNat) else s
theorem ZB2 (s k:Nat):decide (s >>> k &&& 1=1)=s.testBit k:=by
 rw[Nat.testBit,Nat.and_comm 1,Nat.and_one_is_mod];rcases Nat.mod_two_eq_zero_or_one (s >>> k) with h|h <;> rw[h] <;> rfl
theorem Zkn {s:Nat} {v:Int} (hs:s < 18446744073709551616:=by exact Vm):Af Tryz.prog 88 [U s,I v] [] (B (hasN s v)) []:=by
 refine Af.intro (n:=18) Tryz.func88 (hw:=?_);simp only[Zal];by_cases h1:0≤v
 ·by_cases h2:v < 64
  ·obtain⟨k,rfl⟩:∃ k:Nat,v=(k:Int):=⟨v.toNat,by omega⟩
   have e:hasN s k=s.testBit k:=by simp only[hasN,Ht h1,Ht h2,H0,Hn]
   have e2:s.testBit k=decide (andU (shrU s k) 1=1):=by
    rw[←ZB2];exact decide_eq_decide.2 (by rw[show andU (shrU s k) 1=((s >>> k &&& 1:Nat):Int) from rfl];omega)
   rw[e,e2];refine VA ?_;refine gOp ?_;refine gBin ?_;refine ZEJ (h1:=?_) (h2:=?_) (h3:=?_) (h4:=?_) (hr:=?_)
   ·exact Int.natCast_nonneg _
   ·have:=Nat.shiftRight_le s k;rw[show shrU s k=((s >>> k:Nat):Int) from rfl];omega
   ·omega
   ·omega
   refine VA ?_;exact fin
  ·rw[show hasN s v=false by simp[hasN];omega];refine VA ?_;exact fin
 ·rw[show hasN s v=false by simp[hasN];omega];refine VA ?_;exact fin
theorem ZjA {s:Nat} {v:Int} (hs:s < 18446744073709551616:=by exact Vm):Af Tryz.prog 170 [U s,I v] [] (U (ZlI s v)) []:=by
 refine Af.intro (n:=16) Tryz.func170 (hw:=?_);simp only[Zal];by_cases h1:v < 0
 ·rw[show ZlI s v=s by rw[ZlI,Ha (by omega)]];refine VA ?_;exact fin
 ·by_cases h2:v > 63
  ·rw[show ZlI s v=s by rw[ZlI,Ha (by omega)]];refine VA ?_;exact fin
  ·obtain⟨k,rfl⟩:∃ k:Nat,v=(k:Int):=⟨v.toNat,by omega⟩
   have e:ZlI s k=((s:Int).toNat ||| (shlU 1 k).toNat):=by rw[ZlI,Hb (by omega)];rfl
   rw[show U (ZlI s k)=V.d (.raw (.int .u64 (orU s (shlU 1 k)))) by rw[e];rfl];clear e;refine VA ?_;refine gOp ?_;refine gBin ?_;refine d_or (h1:=?_) (h2:=?_) (h3:=?_) (h4:=?_) (hr:=?_)
   ·omega
   ·omega
   ·exact Int.natCast_nonneg _
   ·have hb:(1 <<< k:Nat) < 18446744073709551616:=by
     rw[Nat.one_shiftLeft];exact Gl (Nat.pow_lt_pow_right (a:=2) (n:=64) (by decide) (by omega)) (by decide)
    rw[show shlU 1 (k:Int)=((1 <<< k:Nat):Int) from rfl];omega
   refine VA ?_;exact fin
def Zfl (s n:Nat):List Int:=((List.range n).filter (fun k=>s.testBit k)).map (fun (k:Nat)=>(k:Int))
theorem ZeV (s n:Nat):Zfl s (n+1)=Zfl s n++(if s.testBit n=true then [(n:Int)] else []):=by
 unfold Zfl;rw[Gq,GR,Ho];congr 1;by_cases h:s.testBit n=true <;> simp[h]
theorem Zzy (s n:Nat):(Zfl s n).length≤n:=by
 unfold Zfl;rw[Hh];exact Hq (Gc _ _) (by simp)
theorem Zzz {s:Nat} (hs:s < 18446744073709551616:=by exact Vm):Af Tryz.prog 90 [U s] [] (.own 900 (Zfl s 64).length) [(900,.row 3 1 ((Zfl s 64).map iD))]:=by
 refine Af.intro (n:=17) Tryz.func90 (hw:=?_);simp only[Zal];refine VA ?_;refine ZbB 3 900 3 1 rfl rfl rfl ?_;refine Zak (X:=Nat) (fun k=>k≤64) (fun k=>[(5,I k),(0,U s),(3,.own 900 (Zfl s k).length)]) (fun k=>[(900,.row 3 1 ((Zfl s k).map iD))]) (fun k=>64 - k) 0 (Hi _) ?_;intro k hk;have hl:=Zzy s k;by_cases hlt:(k:Int) < 64
 ·have e:=ZeV s k;have eh:hasN s k=s.testBit k:=by simp only[hasN,Ht hlt,H0,Hn];rw[Ht (by omega)];rfl
  have h1:=Zkn (s:=s) (v:=k) hs;rw[eh] at h1;refine VA ?_;refine Zab [] (hA:=h1) (hr:=?_);cases hb:s.testBit k with
  | true =>
   rw[hb,Hb rfl] at e;refine VA ?_;exact Zad (k+1)
  | false =>
   rw[hb,Ha (by decide),Hu] at e;refine VA ?_;exact Zad (k+1)
 ·obtain rfl:k=64:=by omega
  refine VA ?_;exact fin
theorem ZjB {is:List Bool} (h:is.length≤64) (v:Int):hasN (setN is) v=has is v:=by
 unfold hasN has;rw[Zcp];by_cases h1:v < 64
 ·simp[h1]
 ·rw[HA h1,Gy,G5,Hf,HG (by omega)];simp
theorem Zhw {is:List Bool} (h:is.length≤64) {v:Int} (h0:0≤v) (h1:v < is.length):ZlI (setN is) v=setN (put is v):=by
 rw[ZlI,Hb (by omega),put,ZAL (by omega)]
def Za8 (is:List Bool):List Int:=((List.range is.length).filter (fun k=>is.getD k false)).map (fun (k:Nat)=>(k:Int))
theorem ZdQ (is:List Bool):(Za8 is).length≤is.length:=by
 unfold Za8;rw[Hh];exact Hq (Gc _ _) (by simp)
theorem Zo3 {is:List Bool}:∀ {n:Nat},is.length≤n→Zfl (setN is) n=Za8 is:=by
 intro n hn;obtain⟨d,rfl⟩:∃ d,n=is.length+d:=⟨n - is.length,by omega⟩
 clear hn
 induction d with
 | zero=>simp only[Zfl,Za8,Zcp,Gr]
 | succ d ih =>
  rw[←GO,ZeV,ih,Zcp,Hf,HG (by omega),Ha (by simp),Hu]
abbrev ZEu (t:Bool) (is:List Bool):D:=.sl t 1 (is.map bD)
def badS (t:Bool) (is:List Bool) (x:Int):Bool:=(decide (x < 0) && !t) || (decide (0≤x) && !has is x)
theorem ZzA (t:Bool) (r:Rule) (is:List Bool):ZaQ (asks t r) is=!(r.right.any (badS t is)):=by
 rw[GS];simp only[ZaQ,Bool.not_eq_true',JH,HQ];cases t with
 | false =>
  simp only[asks,cond_false];refine forall_congr' fun x=>forall_congr' fun _=>?_
  by_cases h:0≤x
  ·simp[badS,h]
  ·have:has is x=false:=by simp[has,h]
   simp[badS,this]
 | true =>
  simp only[asks,Gb];constructor
  ·intro h x hx;by_cases h0:0≤x
   ·simp[badS,h x (by simp[Ab,hx,h0])]
   ·simp[badS,h0]
  ·intro h x hx;have h0:=ZbW x hx;have:=h x (ZdV hx);simpa[badS,h0] using this
abbrev setBox (is:List Bool):Ob:=.box 118 [.d (uD (setN is:Nat))]
abbrev ZgP (b:Bool):Ob:=.box 4 [.d (bD b)]
theorem Zug {t:Bool} {is:List Bool} {x:Int} (hl:is.length≤64) :
  Af Tryz.prog 214 [I x,.ptr 1000 0,.ptr 1001 0] [(1000,ZgP t),(1001,setBox is)] (B (badS t is x)) [(1000,ZgP t),(1001,setBox is)]:=by
 refine Af.intro (n:=21) Tryz.func214 (hw:=?_);simp only[Zal];have hs:=ZcZ hl;have h1:=Zkn (s:=setN is) (v:=x) hs;rw[ZjB hl] at h1;by_cases h0:0≤x
 ·have hx:decide (x < 0)=false:=HA (by omega);have eb:badS t is x=!has is x:=by simp[badS,h0,hx]
  rw[eb]
  (try refine wk ?_)
  refine Zab [] (hA:=h1) (hr:=?_)
  (try refine wk ?_)
  exact fin
 ·cases t with
  | false =>
   rw[show badS false is x=true by simp[badS];omega];refine VB ?_;exact fin
  | true =>
   rw[show badS true is x=false by simp[badS];omega]
   (try refine wk ?_)
   exact fin
theorem Zo4 {t u:Bool} {r:Rule} {is:List Bool} (hl:is.length≤64:=by exact Vm) (hr:r.right.length≤100000000:=by exact Vm) :
  Af Tryz.prog 169 [.d (Za2 t r),U (setN is),B u] [] (B (ZaQ (asks u r) is)) []:=by
 refine Af.intro (n:=12) Tryz.func169 (hw:=?_);simp only[Zal];rw[ZzA]
 (try refine wk ?_)
 refine Zab [(1000,5),(1001,4)] (hA:=Zb0 (t:=t) (clos:=214) (caps:=[.ptr 1000 0,.ptr 1001 0]) (H:=[(1000,ZgP u),(1001,setBox is)]) (p:=badS u is) ⟨rfl,rfl,rfl,⟨rfl,rfl,trivial⟩⟩ (fun x _=>Zug hl)) (hr:=?_)
 (try refine wk ?_)
 exact fin
theorem ZB3 {t:Bool} {rs:List Rule} {i:Nat} {is:List Bool} (h:i < rs.length):pass t (rs.drop i) is=pass t (rs.drop (i+1)) (one1 t rs[i] is):=by
 rw[Hw h,pass]
theorem ZzB {t:Bool} {rs:List Rule} {i:Nat} {is:List Bool} (h:¬ i < rs.length):pass t (rs.drop i) is=is:=by
 rw[HL (by omega),pass]
abbrev ZgQ (t:Bool) (r:Rule):Ob:=.box 68 [.d (iD r.left),.d (ints t r.right)]
theorem Zuh {t u:Bool} {g:Ac} (hg:g.ok) {is:List Bool} (hl:is.length=g.vars.toNat) :
  Af Tryz.prog 172 [U (setN is),.ptr 1000 0,.ptr 1001 0] [(1000,ZaD t g),(1001,ZgP u)] (U (setN (pass u g.Aa is))) [(1000,ZaD t g),(1001,ZgP u)]:=by
 refine Af.intro (n:=24) Tryz.func172 (hw:=?_);simp only[Zal];have hv:=hg.vars;have hlen:=hg.Aa
 (try refine wk ?_)
 refine Zak (X:=Nat×List Bool) (fun x=>x.1≤g.Aa.length∧pass u g.Aa is=pass u (g.Aa.drop x.1) x.2∧x.2.length=is.length) (fun x=>[(10,I x.1),(9,I g.Aa.length),(8,.d (ZaS t g.Aa)),(0,U (setN x.2)),(1,.ptr 1000 0),(2,.ptr 1001 0)]) (fun _=>[(1000,ZaD t g),(1001,ZgP u)]) (fun x=>g.Aa.length - x.1) (0,is) ⟨Hi _,rfl,rfl⟩ ?_;rintro⟨i,js⟩ ⟨h1,h2,h3⟩;dsimp only at h1 h2 h3 ⊢;by_cases hlt:i < g.Aa.length
 ·have hmem:=He hlt;have a1:=hg.left0 _ hmem;have a2:=hg.left _ hmem;have a3:=hg.right _ hmem;have hp:=ZB3 (t:=u) (is:=js) hlt;have hl64:js.length≤64:=by omega
  have hlt64:=ZcZ hl64;have hw:=ZjA (s:=setN js) (v:=g.Aa[i].left) hlt64;rw[Zhw hl64 a1 (by omega)] at hw
  (try refine wk ?_)
  refine Zab [] (hA:=Zo4 (t:=t) (r:=g.Aa[i])) (hr:=?_);cases hc:ZaQ (asks u g.Aa[i]) js with
  | true =>
   have ho:one1 u g.Aa[i] js=put js g.Aa[i].left:=by rw[one1,hc];rfl
   rw[ho] at hp
   (try refine wk ?_)
   refine Zab [] (hA:=hw) (hr:=?_)
   (try refine wk ?_)
   exact Zad (i+1,put js g.Aa[i].left) (a:=⟨by omega,h2.trans hp,by rw[Zcq];exact h3⟩) (b:=by dsimp only;omega)
  | false =>
   have ho:one1 u g.Aa[i] js=js:=by rw[one1,hc];rfl
   rw[ho] at hp
   (try refine wk ?_)
   exact Zad (i+1,js) (a:=⟨by omega,h2.trans hp,h3⟩) (b:=by dsimp only;omega)
 ·rw[h2,ZzB hlt]
  (try refine wk ?_)
  exact fin
theorem ZsF {clos:Nat} {caps:List V} {H:Hp} {f:List Bool→List Bool} {is:List Bool} (hC:Clo H caps) (hs:∀ x,Sub x (f x)) (hl:is.length≤64)
  (hc:∀ x:List Bool,x.length=is.length→Af Tryz.prog clos (U (setN x)::caps) H (U (setN (f x))) H) :
  Af Tryz.prog 171 [U (setN is),.fn (.func clos) [] caps] H (U (setN (full f is))) H:=by
 refine Af.intro (n:=17) Tryz.func171 (hw:=?_);simp only[Zal];have h1:=hC.self;have h2:=hC.inn;have h3:=hC.caps
 (try refine wk ?_)
 refine Znb hC (hA:=hc is rfl) (hr:=?_)
 (try refine wk ?_)
 refine Zak (X:=List Bool) (fun x=>x.length=is.length∧full f is=full f x) (fun x=>[(5,U (setN (f x))),(0,U (setN x)),(1,.fn (.func clos) [] caps)]) (fun _=>H) (fun x=>is.length - cntB x) is ⟨rfl,rfl⟩ ?_;rintro x ⟨hx,hf⟩;have hfl:=(hs x).len;by_cases e:f x=x
 ·have e1:(setN (f x):Int)=(setN x:Int):=by rw[e]
  rw[hf,ZAM e]
  (try refine wk ?_)
  exact fin
 ·have e1:¬ ((setN (f x):Int)=(setN x:Int)):=fun h=>e (ZAK hfl.symm (by omega))
  have hgr:=(hs x).grows (Ne.symm e);have hle:=ZrP (f x)
  (try refine wk ?_)
  refine Znb hC (hA:=hc (f x) (by omega)) (hr:=?_)
  (try refine wk ?_)
  exact Zad (f x) (a:=⟨by omega,by rw[hf,Zyc hs]⟩) (b:=by omega)
theorem Zko {t u:Bool} {g:Ac} (hg:g.ok):Af Tryz.prog 89 [.d (Zbo t g),B u] [] (U (setN (ZaZ u g))) []:=by
 refine Af.intro (n:=7) Tryz.func89 (hw:=?_);simp only[Zal];have hv:=hg.vars;have h:=ZsF (clos:=172) (caps:=[.ptr 1000 0,.ptr 1001 0]) (H:=[(1000,ZaD t g),(1001,ZgP u)]) (f:=pass u g.Aa) (is:=Ze6 g) ⟨rfl,rfl,rfl,⟨rfl,rfl,trivial⟩⟩ (ZhQ hg.left0) (by rw[Zbk];omega) (fun x hx=>Zuh hg (by rw[hx,Zbk]));rw[show setN (Ze6 g)=0 from ZjQ _] at h
 (try refine wk ?_)
 refine Zab [(1000,2),(1001,3)] (hA:=h) (hr:=?_)
 (try refine wk ?_)
 exact fin
def Zwe (g:Ac):List Int:=if (Zac g).code=0 then Za8 (ZaZ false g) else []
def Zq3 (g:Ac):List Int:=if (Zac g).code=0 then Za8 (ZaZ true g) else []
theorem Zns {is:List Bool} (h:is.length≤64):Af Tryz.prog 90 [U (setN is)] [] (.own 900 (Za8 is).length) [(900,.row 3 1 ((Za8 is).map iD))]:=by
 have:=Zzz (s:=setN is) (ZcZ h)
 rwa [Zo3 h] at this
theorem Zo5 {t:Bool} {g:Ac} (hf:g.fit):Af Tryz.prog 53 [.d (Zbo t g)] [] (.tup [.d (ints false (Zwe g)),.d (Zbu (Zac g))]) []:=by
 refine Af.intro (n:=15) Tryz.func53 (hw:=?_);simp only[Zal];have hl:=hf.Aa;have hr:=hf.right
 (try refine wk ?_)
 refine Zab [] (hA:=ZaU) (hr:=?_);by_cases h0:(Zac g).code=0
 ·have hg:=Zbe h0;have hz:=Ze4 h0;have hv:=hg.vars;have hll:=ZcL (t:=false) hg;rw[Zwe,Hb h0,hz]
  (try refine wk ?_)
  refine Zab [] (hA:=Zko (u:=false) hg) (hr:=?_)
  (try refine wk ?_)
  refine Zab [] (hA:=Zns (is:=ZaZ false g) (by omega)) (hr:=?_);repeat (first|refine wkr ?_|refine ZCJ (hr:=?_))
  refine Zaz 900 rfl ?_
  (try refine wk ?_)
  exact fin
 ·rw[Zwe,Ha h0]
  (try refine wk ?_)
  exact fin
theorem ZlJ {t:Bool} {g:Ac} (hf:g.fit):Af Tryz.prog 112 [.d (Zbo t g)] [] (.tup [.d (ints false (Zq3 g)),.d (Zbu (Zac g))]) []:=by
 refine Af.intro (n:=15) Tryz.func112 (hw:=?_);simp only[Zal];have hl:=hf.Aa;have hr:=hf.right
 (try refine wk ?_)
 refine Zab [] (hA:=ZaU) (hr:=?_);by_cases h0:(Zac g).code=0
 ·have hg:=Zbe h0;have hz:=Ze4 h0;have hv:=hg.vars;have hll:=ZcL (t:=true) hg;rw[Zq3,Hb h0,hz]
  (try refine wk ?_)
  refine Zab [] (hA:=Zko (u:=true) hg) (hr:=?_)
  (try refine wk ?_)
  refine Zab [] (hA:=Zns (is:=ZaZ true g) (by omega)) (hr:=?_);repeat (first|refine wkr ?_|refine ZCJ (hr:=?_))
  refine Zaz 900 rfl ?_
  (try refine wk ?_)
  exact fin
 ·rw[Zq3,Ha h0]
  (try refine wk ?_)
  exact fin
theorem ZzC {rs:List Rule} {i:Nat} {is:List Bool} (h:i < rs.length):ZgZ (rs.drop i) is=ZgZ (rs.drop (i+1)) (ZhT rs[i] is):=by
 rw[Hw h,ZgZ]
theorem Zwf {rs:List Rule} {i:Nat} {is:List Bool} (h:¬ i < rs.length):ZgZ (rs.drop i) is=is:=by
 rw[HL (by omega),ZgZ]
theorem Zwg {vs:List Int} {i:Nat} {is:List Bool} (h:i < vs.length):Zed (vs.drop i) is=Zed (vs.drop (i+1)) (put is vs[i]):=by
 rw[Hw h,Zed]
theorem Zui {vs:List Int} {i:Nat} {is:List Bool} (h:¬ i < vs.length):Zed (vs.drop i) is=is:=by
 rw[HL (by omega),Zed]
theorem Zuj {t:Bool} {g:Ac} (hg:g.ok) {is:List Bool} (hl:is.length=g.vars.toNat) :
  Af Tryz.prog 183 [U (setN is),.ptr 1000 0] [(1000,ZaD t g)] (U (setN (ZgZ g.Aa is))) [(1000,ZaD t g)]:=by
 refine Af.intro (n:=32) Tryz.func183 (hw:=?_);simp only[Zal];have hv:=hg.vars;have hlen:=hg.Aa
 (try refine wk ?_)
 refine Zak (X:=Nat×List Bool) (fun x=>x.1≤g.Aa.length∧ZgZ g.Aa is=ZgZ (g.Aa.drop x.1) x.2∧x.2.length=is.length) (fun x=>[(11,I x.1),(10,I g.Aa.length),(9,.d (ZaS t g.Aa)),(0,U (setN x.2)),(1,.ptr 1000 0)]) (fun _=>[(1000,ZaD t g)]) (fun x=>g.Aa.length - x.1) (0,is) ⟨Hi _,rfl,rfl⟩ ?_;rintro⟨i,js⟩ ⟨h1,h2,h3⟩;dsimp only at h1 h2 h3 ⊢;by_cases hlt:i < g.Aa.length
 ·have hmem:=He hlt;have a3:=hg.right _ hmem;have a4:=hg.hi _ hmem;have hkl:=Zbi g.Aa[i].right;have hp:=ZzC (is:=js) hlt;have hl64:js.length≤64:=by omega
  have hh:=Zkn (s:=setN js) (v:=g.Aa[i].left) (ZcZ hl64);rw[ZjB hl64] at hh
  (try refine wk ?_)
  refine Zab [] (hA:=hh) (hr:=?_);cases hc:has js g.Aa[i].left with
  | true =>
   have ho:ZhT g.Aa[i] js=Zed (Ab g.Aa[i].right) js:=by rw[ZhT,hc];rfl
   rw[ho] at hp
   (try refine wk ?_)
   refine Zab [(3,900)] (hA:=ZcG) (hr:=?_)
   (try refine wk ?_)
   refine Zak (X:=Nat×List Bool) (fun x=>x.1≤(Ab g.Aa[i].right).length∧Zed (Ab g.Aa[i].right) js=Zed ((Ab g.Aa[i].right).drop x.1) x.2∧x.2.length=is.length) (fun x=>[(22,I x.1),(21,I (Ab g.Aa[i].right).length),(20,.own 900 (Ab g.Aa[i].right).length),(11,I i),(10,I g.Aa.length),(9,.d (ZaS t g.Aa)),(0,U (setN x.2)),(1,.ptr 1000 0)]) (fun _=>[(900,.row 3 1 ((Ab g.Aa[i].right).map iD)),(1000,ZaD t g)]) (fun x=>(Ab g.Aa[i].right).length - x.1) (0,js) ⟨Hi _,rfl,h3⟩ ?_;rintro⟨k,ks⟩ ⟨k1,k2,k3⟩;dsimp only at k1 k2 k3 ⊢;by_cases hkt:k < (Ab g.Aa[i].right).length
   ·have hkm:=He hkt;have b1:=ZbW _ hkm;have b2:=a4 _ (ZdV hkm);have hq:=Zwg (is:=ks) hkt;have hl65:ks.length≤64:=(by omega);have hw:=ZjA (s:=setN ks) (v:=(Ab g.Aa[i].right)[k]) (ZcZ hl65);rw[Zhw hl65 b1 (by omega)] at hw
    (try refine wk ?_)
    refine Zab [] (hA:=hw) (hr:=?_)
    (try refine wk ?_)
    exact Zad (k+1,put ks (Ab g.Aa[i].right)[k]) (a:=⟨by omega,k2.trans hq,by rw[Zcq];exact k3⟩) (b:=by dsimp only;omega)
   ·rw[Zui hkt] at k2
    (try refine wk ?_)
    exact Zad (i+1,ks) (a:=⟨by omega,by dsimp only;rw[h2,hp,k2],k3⟩) (b:=by dsimp only;omega)
  | false =>
   have ho:ZhT g.Aa[i] js=js:=by rw[ZhT,hc];rfl
   rw[ho] at hp
   (try refine wk ?_)
   exact Zad (i+1,js) (a:=⟨by omega,h2.trans hp,h3⟩) (b:=by dsimp only;omega)
 ·rw[h2,Zwf hlt]
  (try refine wk ?_)
  exact fin
def Zo6 (g:Ac):List Int:=if (Zac g).code=0 then Za8 (Zc0 g) else []
theorem Znt {t:Bool} {g:Ac} (hf:g.fit):Af Tryz.prog 114 [.d (Zbo t g)] [] (.tup [.d (ints false (Zo6 g)),.d (Zbu (Zac g))]) []:=by
 refine Af.intro (n:=20) Tryz.func114 (hw:=?_);simp only[Zal];have hl:=hf.Aa;have hr:=hf.right
 (try refine wk ?_)
 refine Zab [] (hA:=ZaU) (hr:=?_);by_cases h0:(Zac g).code=0
 ·have hg:=Zbe h0;have hz:=Ze4 h0;have hv:=hg.vars;have hv1:=hg.vars1;have hs:=hg.start;have hrl:=Zfz g;have hnl:=Zbk g;have hn64:(Ze6 g).length≤64:=by omega
  have hw:=ZjA (s:=0) (v:=g.start) (by decide);rw[show 0=setN (Ze6 g) from (ZjQ _).symm,Zhw hn64 hg.start0 (by omega),show setN (Ze6 g)=0 from ZjQ _] at hw;have h:=ZsF (clos:=183) (caps:=[.ptr 1000 0]) (H:=[(1000,ZaD t g)]) (f:=ZgZ g.Aa) (is:=put (Ze6 g) g.start) ⟨rfl,rfl,rfl,⟨rfl,trivial⟩⟩ (Ze7 _) (by rw[Zcq];omega) (fun x hx=>Zuj hg (by rw[hx,Zcq,Zbk]));rw[Zo6,Hb h0,hz]
  (try refine wk ?_)
  refine Zab [] (hA:=hw) (hr:=?_)
  (try refine wk ?_)
  refine Zab [(1000,1)] (hA:=h) (hr:=?_)
  (try refine wk ?_)
  refine Zab [] (hA:=Zns (is:=Zc0 g) (by omega)) (hr:=?_);repeat (first|refine wkr ?_|refine ZCJ (hr:=?_))
  refine Zaz 900 rfl ?_
  (try refine wk ?_)
  exact fin
 ·rw[Zo6,Ha h0]
  (try refine wk ?_)
  exact fin
def setD (r:List Bool):D:=uD (setN r:Nat)
abbrev matD (M:Mat):List D:=M.map setD
theorem ZB4:Tryz.prog.underlying 114=some (.slice 118):=Tryz.underlying114
theorem Zuk {t:Bool} {M:Mat} (hl:M.length≤100000000:=by exact Vm) :
  Af Tryz.prog 167 [.d (.sl t 1 (matD M))] [] (.own 5 M.length) [(5,.row 118 1 (matD M))]:=by
 refine Af.intro (n:=8) Tryz.func167 (hw:=?_);simp only[Zal];refine Zfa ?_;refine ZoJ ?_;refine ZBl (hr:=?_);refine ZcI ?_;refine Zb1 ?_;refine Zfa ?_;refine Zfa ?_;refine Zxr ?_ ?_ ZB4
 ·intro hx;have hx':M=[]:=by simpa using hx
  subst hx';repeat (first|refine wkr ?_|refine ZCJ (hr:=?_))
  refine ZbB 2 5 118 1 rfl rfl rfl ?_
  (try refine wk ?_)
  exact fin
 ·(try refine wk ?_)
  exact finx
def mixK (k i:Nat) (M:Mat):Mat:=(M.take i).map (rowK (rowM M k) k)++M.drop i
theorem Zwh (k:Nat) (M:Mat):mixK k 0 M=M:=by simp[mixK]
theorem ZzD {k i:Nat} {M:Mat} (h:¬ i < M.length):mixK k i M=stepK k M:=by
 rw[mixK,H5 (by omega),HL (by omega),Hu];rfl
theorem Zq4 (k i:Nat) (M:Mat):(mixK k i M).length=M.length:=by simp[mixK];omega
theorem ZB5 {k i:Nat} {M:Mat} (h:i < M.length) (h':i < (mixK k i M).length):(mixK k i M)[i]=M[i]:=by
 simp only[mixK];rw[JM (by simp;omega)];simp[Gx (Nat.le_of_lt h)]
theorem Zwi {k i:Nat} {M:Mat} (h:i < M.length):mixK k (i+1) M=(mixK k i M).set i (rowK (rowM M k) k M[i]):=by
 rw[mixK,mixK,HE h,Ho,Jr _ _ (by simp;omega)];have e:i - ((M.take i).map (rowK (rowM M k) k)).length=0:=by simp;omega
 rw[e,Hw h];simp only[Hm,HH,HJ,Hv,H6,List.set_cons_zero]
theorem ZzE {k i:Nat} {M:Mat} (h:k < M.length) (h':k < (mixK k i M).length):(mixK k i M)[k]=rowM M k:=by
 have hr:rowM M k=M[k]:=by simp[rowM,Hf,h]
 simp only[mixK];by_cases hk:k < i
 ·rw[JB (by simp;omega)];simp only[Gu,List.getElem_take];rw[←hr,rowK];cases has (rowM M k) k with
  | true=>rw[Gb,ZAO]
  | false=>rfl
 ·rw[JM (by simp;omega)];refine Eq.trans ?_ hr.symm;rw[Js];congr 1;simp only[Hh,Hs];omega
theorem ZB6 {V k i:Nat} {M:Mat} (h:Sq V M) (hk:k < V):Sq V (mixK k i M):=by
 refine⟨by rw[Zq4];exact h.len,fun r hr=>?_⟩;rw[mixK] at hr;rcases List.mem_append.1 hr with hr|hr
 ·exact (h.stepK hk).row r (by
   obtain⟨q,hq,rfl⟩:=List.mem_map.1 hr;exact List.mem_map.2 ⟨q,Gm hq,rfl⟩)
 ·exact h.row r (Jh hr)
theorem Zul {t:Bool} {M:Mat} {N:Nat} (hq:Sq N M) (hN:N≤64) :
  Af Tryz.prog 86 [.d (.sl t 1 (matD M))] [] (.own 900 N) [(900,.row 118 1 (matD (closeK N M)))]:=by
 refine Af.intro (n:=37) Tryz.func86 (hw:=?_);simp only[Zal];have hl:=hq.len
 (try refine wk ?_)
 refine Zab [(5,900)] (hA:=Zuk (t:=t) (M:=M)) (hr:=?_)
 (try refine wk ?_)
 have e0:(matD M).length=N:=by simp[hl]
 refine Zak (X:=Nat) (fun k=>k≤N) (fun k=>[(10,I k),(9,I N),(3,.own 900 N)]) (fun k=>[(900,.row 118 1 (matD (closeK k M)))]) (fun k=>N - k) 0 (Hi _) ?_;intro k hk;have hQ:=hq.closeK k hk;generalize hQe:closeK k M=Q at hQ;have hQl:=hQ.len;by_cases hkN:k < N
 ·have hnx:closeK (k+1) M=stepK k Q:=by rw[closeK,hQe]
  have hpl:(rowM Q k).length=N:=hQ.at (by omega) (by omega)
  (try refine wk ?_)
  refine Zak (X:=Nat×Mat) (fun x=>x.1≤N∧x.2=mixK k x.1 Q) (fun x=>[(15,I x.1),(14,I N),(4,I k),(10,I k),(9,I N),(3,.own 900 N)]) (fun x=>[(900,.row 118 1 (matD x.2))]) (fun x=>N - x.1) (0,Q) ⟨Hi _,(Zwh k Q).symm⟩ ?_;rintro⟨i,A⟩ ⟨hi,hA⟩;dsimp only at hi hA ⊢;have hAq:Sq N A:=by rw[hA];exact ZB6 hQ hkN
  have hAl:=hAq.len;by_cases hiN:i < N
  ·have hiQ:i < Q.length:=by omega
   have hsu:=Zwi (k:=k) hiQ;have hAi:A[i]=Q[i]:=by subst hA;exact ZB5 hiQ (by omega)
   have hAk:A[k]=rowM Q k:=by subst hA;exact ZzE (by omega) (by omega)
   have hri:=hQ.row _ (He hiQ);have hl64:Q[i].length≤64:=by omega
   have hs1:=ZcZ hl64;have hs2:=ZcZ (l:=rowM Q k) (by omega);have hh:=Zkn (s:=setN Q[i]) (v:=k) hs1;rw[ZjB hl64,←hAi] at hh;rw[←hA] at hsu;rw[←hAi] at hsu hs1;rw[←hAk] at hs2
   (try refine wk ?_)
   refine Zab [] (hA:=hh) (hr:=?_);cases hb:has A[i] k with
   | true =>
    have hro:rowK (rowM Q k) k A[i]=orL A[i] A[k]:=(by rw[rowK,hb,Gb,hAk]);rw[hro] at hsu;have e:(matD A).set i (.raw (.int .u64 (orU (setN A[i]:Nat) (setN A[k]:Nat))))=matD (mixK k (i+1) Q):=by
     rw[hsu,matD,matD,Je];congr 1;show _=uD (setN (orL A[i] A[k]):Nat);rw[ZCI (by rw[hAi,hAk,hri,hpl])];rfl
    (try refine wk ?_)
    exact Zad (i+1,mixK k (i+1) Q) (a:=⟨by omega,rfl⟩) (b:=by dsimp only;omega)
   | false =>
    have hro:rowK (rowM Q k) k A[i]=A[i]:=(by rw[rowK,hb];rfl);rw[hro,List.set_getElem_self] at hsu
    (try refine wk ?_)
    exact Zad (i+1,A) (a:=⟨by omega,hsu.symm⟩) (b:=by dsimp only;omega)
  ·rw[ZzD (by omega),←hnx] at hA;subst hA
   (try refine wk ?_)
   exact Zad (k+1)
 ·have hkN':k=N:=by omega
  have e:matD Q=matD (closeK N M):=by rw[←hQe,hkN']
  rw[←e]
  (try refine wk ?_)
  exact fin
end Go.Proofs.YtbpmepgnjanhnaaGreat
namespace Go.Proofs
open Go.Shelf
def Tryz.delRen:Go.Shelf.Ren:=⟨fun|23=>168|n=>n,fun|0=>0|3=>3|4=>4|22=>25|n=>n,fun|n=>n⟩
theorem Tryz.delLay:Go.Proofs.Lays2.n23 Tryz.prog Tryz.delRen:={
 mixed:=by kernel_rfl
 f23:=Tryz.func168.trans (congrArg some (by kernel_rfl))
 t0:=Tryz.underlying0
 a0:=Tryz.isAgg0
 z0:=Tryz.sizeOf0
 v0:=Tryz.zeroValue0
 t3:=Tryz.underlying3
 a3:=Tryz.isAgg3
 z3:=Tryz.sizeOf3
 v3:=Tryz.zeroValue3
 t4:=Tryz.underlying4
 a4:=Tryz.isAgg4
 z4:=Tryz.sizeOf4
 v4:=Tryz.zeroValue4
 t22:=Tryz.underlying25
 a22:=Tryz.isAgg25
 z22:=Tryz.sizeOf25
 v22:=Tryz.zeroValue25
 i3:=by kernel_rfl }
end Go.Proofs
namespace Go.Proofs.YtbpmepgnjanhnaaGreat
open Go.RowKit Go.Sort
theorem Zmd:∀ (xs:List Int),ZoG (xs.map iD)=some (xs.map fun x=>Value.int .i64 x)
 | []=>rfl
 | x::xs=>by simp[ZoG,iD,Zmd xs]
theorem Zo7 {M:Bars} {w:World}:∀ (xs:List Int),D.Reps M w (xs.map iD) (xs.map fun x=>Value.int .i64 x)
 | []=>by simp[D.Reps]
 | x::xs=>by
  simp only[Hm,D.Reps];exact⟨[_],_,rfl,by simp[iD,D.Rep,Value.oneCell'],Zo7 xs⟩
theorem Znu {E:Env} {n k b:Nat} (hb:Ai E [(1000,.dead n)] k b):False:=by
 unfold Ai at hb;simp only[Ah] at hb;cases hk:Nat.beq 1000 k <;> rw[hk] at hb <;> cases hb
theorem Zum {xs:List Int} {i:Nat} (hi:i < xs.length) (hl:xs.length≤100000000:=by exact Vm) :
  Af Tryz.prog 168 [.own 1000 xs.length,I i,I ((i:Int)+1)] [(1000,.row 3 1 (xs.map iD))] (.d (ints false (xs.take i++xs.drop (i+1)))) [(1000,.dead xs.length)]:=by
 refine⟨⟨_,Tryz.func168,rfl,rfl⟩,fun E w us o H hr hk ho hs=>?_⟩;simp only[V.Reps,V.Rep,D.RepV,D.Rep,Hy,HB] at hr;obtain⟨u,_,rfl,⟨m,v1,v2,v3,v4⟩,_,_,rfl,⟨rfl,_⟩,_,_,rfl,⟨rfl,_⟩,rfl⟩:=hr;have hk1:Ah [(1000,Ob.row 3 1 (xs.map iD))] 1000=some (.row 3 1 (xs.map iD)):=rfl;have e1:m=xs.length:=Za7 v1 (.inl ⟨_,_,_,hk1,by simp⟩);have hu:=v4 e1.symm;subst hu;have hrow:=H.obs 1000 _ hk1;simp only[ObRep] at hrow;obtain⟨_,⟨a,_,hn⟩|⟨g,off,cap,cur,hv,h0,hg,hlc,hcm,hcs,hreps⟩⟩:=hrow
 ·have:xs=[]:=by simpa using hn
  subst this;simp at hi
 rw[Hh] at hv hlc;have hcells:=ZlB hreps (Zmd xs);simp only[Hh,Nat.mul_one] at hcells;have hH:Go.Sort.Holds encI w g off xs.toArray:=fun j hj=>by
  have hj':j < xs.length:=by simpa using hj
  constructor
  ·simp only[World.cell?,hg];have h1:((cur.toList.drop off).take xs.length)[j]? = (xs.map fun x=>Value.int .i64 x)[j]? := by rw[hcells]
   rw[GK,Hb hj',Gz] at h1;simp only[JN] at h1;rw[h1];simp[hj']
  ·simp only[World.frozen?,hg];simp
 have hc:=Go.Proofs.Any.slices_Delete_int Tryz.delLay g off cap i (i+1) xs w hH hlc (by unfold maxLen at hcm;omega) (by omega) (by omega);have hlive:Live E [(1000,Ob.row 3 1 (xs.map iD))] g:=⟨1000,by unfold Ai;rw[hk1,hv];simp[obOf];omega⟩
 rw[hv];refine hc.mono ?_;rintro e w' ⟨rfl,q,rfl⟩;have hH2:=holds_putRow encI (Sort.ahead w q) g off xs.toArray (xs.take i++xs.drop (i+1)++List.replicate (i+1 - i) 0).toArray (Go.Sort.holds_ahead encI w q g off _ hH) (by simp;omega);have hsz:g < w.heap.size:=(Array.getElem?_eq_some_iff.1 hg).1;have hll:(xs.take i++xs.drop (i+1)).length=xs.length - 1:=by simp;omega
 refine⟨E,_,rfl,⟨?_,?_,?_⟩,?_,by simp[V.keys],⟨rfl,rfl,rfl,?_,?_,Nat.le_add_right _ _⟩,?_,?_⟩
 ·intro k ob hk;simp only[Ah] at hk;split at hk
  ·cases hk;trivial
  ·cases hk
 ·intro k k' b h1;exact (Znu h1).elim
 ·intro k ob hk j hj;simp only[Ah] at hk;split at hk
  ·cases hk;simp[Ob.keys] at hj
  ·cases hk
 ·simp only[V.Rep,D.RepV,D.Rep];refine⟨_,cap,(xs.take i++xs.drop (i+1)).map fun x=>Value.int .i64 x,?_,?_,hcm,?_,Zo7 _,fun _=>⟨g,off,rfl,?_,by simpa[putRow,mapBlock,Sort.ahead] using hsz,fun j hj=>?_⟩⟩
  ·rw[Hh,hll,show xs.length - (i+1 - i)=xs.length - 1 by omega]
  ·rw[Hh,hll];omega
  ·intro x hx;obtain⟨y,_,rfl⟩:=List.mem_map.1 hx;rfl
  ·rintro (⟨k,hk⟩|hob)
   ·exact (Znu hk).elim
   ·exact (ho _ _ hob).2 hlive
  ·have hj':j < (xs.take i++xs.drop (i+1)).length:=by simpa using hj
   have:=(hH2 j (by simp at hj' ⊢;omega)).1;rw[this];have hj2:j < (xs.take i++xs.drop (i+1)++List.replicate (i+1 - i) 0).length:=by simp at hj' ⊢;omega
   rw[getElem!_pos _ _ (by simpa using hj2)];simp only[Gf];rw[Hj hj'];simp only[H9,List.getElem_toArray];rw[JB hj']
 ·simp[putRow,mapBlock,Sort.ahead]
 ·intro k hk hn;have hne:g≠k:=fun e=>hn (e ▸ hlive)
  simp only[putRow,mapBlock,Sort.ahead,JI];rw[Ha hne]
 ·intro k hk1000 hks;simp only[Ah] at hks;split at hks
  ·rename_i hb;have:=HR hb;subst this;refine⟨rfl,rfl,fun m hm=>⟨m,.inr (.inr ?_),Hg _,fun _=>rfl⟩,fun sz n hv=>?_⟩
   ·have:m=xs.length:=Za7 hm (.inl ⟨_,_,_,hk1,by simp⟩)
    rw[this];simp[Ah]
   ·rcases hv with ⟨_,_,h1,_⟩|⟨_,_,_,_,h1,_⟩ <;> simp[Ah] at h1
  ·cases hks
 ·intro k b hb;exact (Znu hb).elim
open Go.RowKit
theorem Zo8 (a b:List Int) (is:List Bool):ZaQ (a++b) is=(ZaQ a is && ZaQ b is):=by simp[ZaQ,List.all_append]
theorem Zwj {g:Ac} {N:Nat} (h:g.vars.toNat=N):List.replicate N (ZlW (.int .u64 0))=matD (Zp8 g):=by
 rw[matD,Zp8,h,List.map_replicate,setD,Ze6,ZjQ];rfl
theorem ZzF {M:Mat} {u w:Int} {k:Nat} (hk:u=(k:Int)) (h:k < M.length):(matD M).set k (uD (setN (put M[k] w):Nat))=matD (addM u w M):=by
 subst hk;have hr:rowM M k=M[k]:=by simp[rowM,Hf,h]
 rw[addM,hr,matD,matD,Je];rfl
theorem ZB7 {null:List Bool} {c:Bool} {rs:List Rule} {i:Nat} {M:Mat} (h:i < rs.length):matM null c (rs.drop i) M=matM null c (rs.drop (i+1)) (Zk6 null c rs[i] rs[i].right.length M):=by
 rw[Hw h,matM]
theorem ZzG {null:List Bool} {c:Bool} {rs:List Rule} {i:Nat} {M:Mat} (h:¬ i < rs.length):matM null c (rs.drop i) M=M:=by
 rw[HL (by omega),matM]
theorem ZzH {xs:List Int} {k:Nat} (h:k < xs.length):xs.getD k 0=xs[k]:=by simp[Hf,h]
theorem Zwk {t:Bool} {g:Ac} (hg:g.ok):Af Tryz.prog 87 [.d (Zbo t g)] [] (.own 14 g.vars.toNat) [(14,.row 118 1 (matD (oneM false g)))]:=by
 refine Af.intro (n:=59) Tryz.func87 (hw:=?_);simp only[Zal];have hv:=hg.vars;have hv1:=hg.vars1;have hlen:=hg.Aa;have hnl:=ZcL (t:=false) hg;obtain⟨N,hN⟩:∃ N:Nat,g.vars=(N:Int):=⟨g.vars.toNat,by omega⟩
 have hNt:g.vars.toNat=N:=by omega
 have hsq:=Zn8 g;rw[hNt] at hsq hnl ⊢;have e:=Zwj hNt
 (try refine wk ?_)
 refine Zab [] (hA:=Zko (u:=false) hg) (hr:=?_)
 (try refine wk ?_)
 refine Zak (X:=Nat×Mat) (fun x=>x.1≤g.Aa.length∧oneM false g=matM (ZaZ false g) false (g.Aa.drop x.1) x.2∧Sq N x.2) (fun x=>[(18,I x.1),(17,I g.Aa.length),(16,.d (ZaS t g.Aa)),(4,.own 14 N),(3,U (setN (ZaZ false g))),(1,.ptr 1 0)]) (fun x=>[(14,.row 118 1 (matD x.2)),(1,ZaD t g)]) (fun x=>g.Aa.length - x.1) (0,Zp8 g) ⟨Hi _,rfl,hsq⟩ ?_;clear e;rintro⟨i,A⟩ ⟨h1,h2,h3⟩;dsimp only at h1 h2 h3 ⊢;by_cases hlt:i < g.Aa.length
 ·have hmem:=He hlt;obtain⟨a1,a2,a5⟩:=Zn9 hg _ hmem;rw[hNt] at a2 a5;have a3:=hg.right _ hmem;have hp:=ZB7 (null:=ZaZ false g) (c:=false) (M:=A) hlt;obtain⟨l,hlk⟩:∃ l:Nat,g.Aa[i].left=(l:Int):=⟨g.Aa[i].left.toNat,by omega⟩
  (try refine wk ?_)
  refine Zak (X:=Nat×Mat) (fun x=>x.1≤g.Aa[i].right.length∧x.2=Zk6 (ZaZ false g) false g.Aa[i] x.1 A) (fun x=>[(25,I x.1),(24,I g.Aa[i].right.length),(23,.d (ints t g.Aa[i].right)),(6,.ptr 6 0),(18,I i),(17,I g.Aa.length),(16,.d (ZaS t g.Aa)),(4,.own 14 N),(3,U (setN (ZaZ false g))),(1,.ptr 1 0)]) (fun x=>[(6,ZgQ t g.Aa[i]),(14,.row 118 1 (matD x.2)),(1,ZaD t g)]) (fun x=>g.Aa[i].right.length - x.1) (0,A) ⟨Hi _,rfl⟩ ?_;rintro⟨k,C⟩ ⟨k1,k2⟩;dsimp only at k1 k2 ⊢;by_cases hkt:k < g.Aa[i].right.length
  ·obtain⟨hCq,_⟩:=Zgp (null:=ZaZ false g) (c:=false) h3 a1 a2 a5 k (by omega);rw[←k2] at hCq;have hCl:=hCq.len;have hlC:l < C.length:=by omega
   have hCr:=hCq.row _ (He hlC);have hgd:=ZzH hkt;have hx:=a5 _ (He hkt);have hrs:Zk6 (ZaZ false g) false g.Aa[i] (k+1) A=bif ZdN (ZaZ false g) false g.Aa[i].right k then addM g.Aa[i].left g.Aa[i].right[k] C else C:=by rw[Zk6,hgd,←k2]
   have hpk:ZdN (ZaZ false g) false g.Aa[i].right k=(decide (0≤g.Aa[i].right[k]) && ZaQ (g.Aa[i].right.take k++g.Aa[i].right.drop (k+1)) (ZaZ false g)):=by
    rw[ZdN,hgd,GD,Zo8]
   have hdl:=Zum (xs:=g.Aa[i].right) hkt (by omega);have htl:(g.Aa[i].right.take k++g.Aa[i].right.drop (k+1)).length≤100:=by simp;omega
   (try refine wk ?_)
   refine Zab [(5,900)] (hA:=Zcy) (hr:=?_)
   (try refine wk ?_)
   refine Zab [(1000,900)] (hA:=hdl) (hr:=?_);by_cases h0:0≤g.Aa[i].right[k]
   ·have hwh:=Zo4 (t:=false) (u:=false) (r:=⟨0,g.Aa[i].right.take k++g.Aa[i].right.drop (k+1)⟩) (is:=ZaZ false g) (by omega) (by show (g.Aa[i].right.take k++g.Aa[i].right.drop (k+1)).length≤100000000;omega)
    (try refine wk ?_)
    refine Zab [] (hA:=hwh) (hr:=?_);cases hb:ZaQ (g.Aa[i].right.take k++g.Aa[i].right.drop (k+1)) (ZaZ false g) with
    | true =>
     rw[hpk,hb,Ht h0,Bool.and_true,Gb] at hrs;have hw:=ZjA (s:=setN C[l]) (v:=g.Aa[i].right[k]) (ZcZ (by omega));rw[Zhw (by omega) h0 (by omega)] at hw;have e:=ZzF (M:=C) (w:=g.Aa[i].right[k]) hlk hlC
     (try refine wk ?_)
     refine Zab [] (hA:=hw) (hr:=?_)
     (try refine wk ?_)
     exact Zad (k+1,addM g.Aa[i].left g.Aa[i].right[k] C) (a:=⟨by omega,hrs.symm⟩) (b:=by dsimp only;omega)
    | false =>
     rw[hpk,hb,G5,cond_false] at hrs
     (try refine wk ?_)
     exact Zad (k+1,C) (a:=⟨by omega,hrs.symm⟩) (b:=by dsimp only;omega)
   ·rw[hpk,HA h0,Gy,cond_false] at hrs
    (try refine wk ?_)
    exact Zad (k+1,C) (a:=⟨by omega,hrs.symm⟩) (b:=by dsimp only;omega)
  ·obtain rfl:k=g.Aa[i].right.length:=by omega
   have hCs:=(Zgp (null:=ZaZ false g) (c:=false) h3 a1 a2 a5 _ (Hg _)).1;rw[←k2] at hCs hp
   (try refine wk ?_)
   exact Zad (i+1,C) (a:=⟨by omega,h2.trans hp,hCs⟩) (b:=by dsimp only;omega)
 ·rw[ZzG hlt] at h2;rw[h2]
  (try refine wk ?_)
  exact fin
def ZfU (M:Mat) (n:Nat):List Int:=((List.range n).filter (fun (v:Nat)=>has (rowM M v) v)).map (fun (k:Nat)=>(k:Int))
theorem Zun (M:Mat) (n:Nat):ZfU M (n+1)=ZfU M n++(if has (rowM M n) n=true then [(n:Int)] else []):=by
 unfold ZfU;rw[Gq,GR,Ho];congr 1;by_cases h:has (rowM M n) n=true <;> simp[h]
theorem ZzI (M:Mat) (n:Nat):(ZfU M n).length≤n:=by
 unfold ZfU;rw[Hh];exact Hq (Gc _ _) (by simp)
def cycL (g:Ac):List Int:=if (Zac g).code=0 then ZfU (ledM false g) g.vars.toNat else []
theorem Zq5 {M:Mat} {k:Nat} (h:k < M.length):rowM M k=M[k]:=by simp[rowM,Hf,h]
theorem ZeW {t:Bool} {g:Ac} (hf:g.fit):Af Tryz.prog 51 [.d (Zbo t g)] [] (.tup [.d (ints false (cycL g)),.d (Zbu (Zac g))]) []:=by
 refine Af.intro (n:=33) Tryz.func51 (hw:=?_);simp only[Zal];have hl:=hf.Aa;have hr:=hf.right
 (try refine wk ?_)
 refine Zab [] (hA:=ZaU) (hr:=?_);by_cases h0:(Zac g).code=0
 ·have hg:=Zbe h0;have hz:=Ze4 h0;have hv:=hg.vars;have hsq:=ZrQ (c:=false) hg;have hlq:=Zg1 (c:=false) hg;have hlql:=hlq.len;have hol:=hsq.len;obtain⟨N,hN⟩:∃ N:Nat,g.vars.toNat=N:=⟨_,rfl⟩
  have hal:=Zwk (t:=t) hg;have hcl:=Zul (t:=false) hsq (by omega);rw[show closeK g.vars.toNat (oneM false g)=ledM false g from rfl] at hcl;rw[cycL,Hb h0,hz];rw[hN] at hal hcl hlql hol ⊢
  (try refine wk ?_)
  refine Zab [(14,902)] (hA:=hal) (hr:=?_)
  (try refine wk ?_)
  refine ZaV [] (hA:=hcl) (hr:=?_)
  (try refine wk ?_)
  refine ZbB 5 901 3 1 rfl rfl rfl ?_;refine Zak (X:=Nat) (fun k=>k≤N) (fun k=>[(18,I k),(17,I N),(16,.own 900 N),(5,.own 901 (ZfU (ledM false g) k).length),(3,.ptr 3 0)]) (fun k=>[(901,.row 3 1 ((ZfU (ledM false g) k).map iD)),(900,.row 118 1 (matD (ledM false g))),(3,.box 31 [.d (iD 0),.d (iD 0)])]) (fun k=>N - k) 0 (Hi _) ?_;intro k hk;have hsl:=ZzI (ledM false g) k;by_cases hkN:k < N
  ·have hkL:k < (ledM false g).length:=by omega
   have hr64:(ledM false g)[k].length≤64:=by have:=hlq.row _ (He hkL);omega
   have e:=Zun (ledM false g) k;have hh:=Zkn (s:=setN (ledM false g)[k]) (v:=k) (ZcZ hr64);rw[ZjB hr64,←Zq5 hkL] at hh;rw[←Zq5 hkL] at hr64;have hrow:=Zq5 hkL;cases hb:has (rowM (ledM false g) k) k with
   | true =>
    rw[hb,Hb rfl] at e;rw[hb,hrow] at hh
    (try refine wk ?_)
    refine Zab [] (hA:=hh) (hr:=?_)
    (try refine wk ?_)
    exact Zad (k+1)
   | false =>
    rw[hb,Ha (by decide),Hu] at e;rw[hb,hrow] at hh
    (try refine wk ?_)
    refine Zab [] (hA:=hh) (hr:=?_)
    (try refine wk ?_)
    exact Zad (k+1)
  ·obtain rfl:k=N:=by omega
   refine Zaz 901 rfl ?_
   (try refine wk ?_)
   exact fin
 ·rw[cycL,Ha h0]
  (try refine wk ?_)
  exact fin
theorem listB_mem {is:List Bool} {x:Int}:x∈Za8 is↔has is x=true:=by
 unfold Za8;rw[Gv];constructor
 ·rintro⟨k,hk,rfl⟩;rw[List.mem_filter] at hk;rw[ZbH];exact hk.2
 ·intro h;obtain⟨h0,h1⟩:=Ze5 h;obtain⟨k,rfl⟩:∃ k:Nat,x=(k:Int):=⟨x.toNat,by omega⟩
  rw[ZbH] at h;exact⟨k,List.mem_filter.2 ⟨List.mem_range.2 (by omega),h⟩,rfl⟩
def more (g:Ac) (r:Rule):Ac:=⟨g.vars,g.terms,g.start,g.Aa++[r]⟩
section
variable {g:Ac} {r:Rule} (hg:g.ok) (hh:(more g r).ok)
include hh
include hg
end
end Go.Proofs.YtbpmepgnjanhnaaGreat
