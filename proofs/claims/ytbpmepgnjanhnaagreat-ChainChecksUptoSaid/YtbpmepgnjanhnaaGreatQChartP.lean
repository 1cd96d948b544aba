import Derived.Test.YtbpmepgnjanhnaaGreatT1
import Derived.Test.YtbpmepgnjanhnaaGreatG1
import Derived.Test.YtbpmepgnjanhnaaGreatS5
import Derived.Test.YtbpmepgnjanhnaaGreatQGramC
set_option linter.unusedVariables false
set_option linter.unusedSimpArgs false
set_option linter.unusedSectionVars false
namespace Go.Proofs.YtbpmepgnjanhnaaGreat
open Go.RowKit
def sumN:Nat→(Nat→Nat)→Nat
 | 0,_=>0
 | n+1,f=>sumN n f+f n
theorem Zcs {f g:Nat→Nat}:∀ {n:Nat},(∀ x,x < n→f x=g x)→sumN n f=sumN n g
 | 0,_=>rfl
 | n+1,h=>by simp only[sumN];rw[Zcs (fun x hx=>h x (by omega)),h n (by omega)]
theorem Zbw {f:Nat→Nat}:∀ {n:Nat},(∀ x,x < n→f x=0)→sumN n f=0
 | 0,_=>rfl
 | n+1,h=>by simp only[sumN];rw[Zbw (fun x hx=>h x (by omega)),h n (by omega)]
theorem ZdF {f g:Nat→Nat}:∀ {n:Nat},(∀ x,x < n→f x≤g x)→sumN n f≤sumN n g
 | 0,_=>Nat.le_refl _
 | n+1,h=>by simp only[sumN];exact Nat.add_le_add (ZdF (fun x hx=>h x (by omega))) (h n (by omega))
theorem ZjK {f g:Nat→Nat}:∀ {n:Nat},sumN n (fun x=>f x+g x)=sumN n f+sumN n g
 | 0=>rfl
 | n+1=>by simp only[sumN];rw[ZjK];omega
theorem ZnT {f:Nat→Nat} {c:Nat}:∀ {n:Nat},sumN n (fun x=>c * f x)=c * sumN n f
 | 0=>rfl
 | n+1=>by simp only[sumN];rw[ZnT,Nat.mul_add]
theorem ZkO {f:Nat→Nat} {c:Nat}:∀ {n:Nat},sumN n (fun x=>f x * c)=sumN n f * c
 | 0=>by simp[sumN]
 | n+1=>by simp only[sumN];rw[ZkO,Nat.add_mul]
theorem ZkP {f:Nat→Nat→Nat} {m:Nat}:∀ {n:Nat},sumN n (fun x=>sumN m (fun y=>f x y))=sumN m (fun y=>sumN n (fun x=>f x y))
 | 0=>by simp only[sumN];exact (Zbw (fun _ _=>rfl)).symm
 | n+1=>by
  simp only[sumN]
  rw[ZkP (n:=n),←ZjK]
theorem ZsN {f:Nat→Nat} {n m:Nat} (h:n≤m) (hz:∀ x,n≤x→x < m→f x=0):sumN m f=sumN n f:=by
 induction m with
 | zero =>
      obtain rfl:n=0:=by omega
      rfl
 | succ m ih =>
  by_cases e:n=m+1
  ·rw[e]
  ·simp only[sumN]
   rw[ih (by omega) (fun x h1 h2=>hz x h1 (by omega)),hz m (by omega) (by omega)];rfl
theorem Zct {f:Nat→Nat} {n k:Nat} (hk:k < n) (hz:∀ x,x < n→x≠k→f x=0):sumN n f=f k:=by
 rw[ZsN (n:=k+1) (by omega) (fun x h1 h2=>hz x h2 (by omega))]
 simp only[sumN]
 rw[Zbw (fun x hx=>hz x (by omega) (by omega))];omega
theorem ZjL {f:Nat→Nat} {n k:Nat} (hk:k < n):f k≤sumN n f:=by
 induction n with
 | zero=>omega
 | succ n ih =>
  simp only[sumN]
  by_cases e:k=n
  ·subst e;omega
  ·have:=ih (by omega);omega
theorem Zfp (M a b:Nat):min M (a+min M b)=min M (a+b):=by omega
theorem ZkQ (M a b:Nat):min M (min M a+b)=min M (a+b):=by omega
theorem ZkR {M a b:Nat}:min M (min M a * b)=min M (a * b):=by
 by_cases h:a≤M
 ·rw[Nat.min_eq_right h]
 ·rw[Nat.min_eq_left (by omega:M≤a)]
  cases b with
  | zero=>rfl
  | succ b =>
   have h1:M * 1≤M * (b+1):=Nat.mul_le_mul_left _ (by omega)
   have h2:a * 1≤a * (b+1):=Nat.mul_le_mul_left _ (by omega)
   omega
theorem ZkS {M a b:Nat}:min M (a * min M b)=min M (a * b):=by rw[Nat.mul_comm,ZkR,Nat.mul_comm]
theorem ZnU {M:Nat} {f g:Nat→Nat}:∀ {n:Nat},(∀ x,x < n→min M (f x)=min M (g x))→min M (sumN n f)=min M (sumN n g)
 | 0,_=>rfl
 | n+1,h=>by
  have h1:=ZnU (n:=n) (fun x hx=>h x (by omega))
  have h2:=h n (by omega)
  simp only[sumN]
  omega
abbrev Cube:=Nat→Nat→Nat→Nat
def symN (N:Cube) (w:List Int) (s:Int) (i m:Nat):Nat:=if 0≤s then N s.toNat i m else if m=i+1∧w[i]?=some (-1 - s) then 1 else 0
def wcn (N:Cube) (w:List Int):List Int→Nat→Nat→Nat
 | [],i,j=>if i=j then 1 else 0
 | s::r,i,j=>sumN (j+1) fun m=>if i≤m then symN N w s i m * wcn N w r m j else 0
def stp (N:Cube) (w:List Int) (i j:Nat) (a:Nat→Nat) (s:Int):Nat→Nat:=fun e=>if e≤j then sumN (j+1) fun x=>if i≤x∧x≤e then a x * symN N w s x e else 0 else 0
def stpS (M:Nat) (N:Cube) (w:List Int) (i j:Nat) (a:Nat→Nat) (s:Int):Nat→Nat:=fun e=>min M (stp N w i j a s e)
def at0 (i:Nat):Nat→Nat:=fun e=>if e=i then 1 else 0
theorem Zqn {N:Cube} {w:List Int} {i j:Nat} (hij:i≤j):∀ (r:List Int) (a:Nat→Nat),(r.foldl (stp N w i j) a) j=sumN (j+1) fun x=>if i≤x then a x * wcn N w r x j else 0
 | [],a=>by
  simp only[List.foldl_nil,wcn]
  rw[Zct (k:=j) (by omega) (fun x h1 h2=>by rw[if_neg (show ¬ x=j by omega),Nat.mul_zero];split <;> rfl)]
  simp[hij]
 | s::r,a=>by
  simp only[List.foldl_cons]
  rw[Zqn hij r]
  have e1:(fun y=>if i≤y then stp N w i j a s y * wcn N w r y j else 0)=fun y=>sumN (j+1) fun x=>if i≤x∧x≤y∧y≤j then a x * symN N w s x y * wcn N w r y j else 0:=by
   funext y
   by_cases hy:i≤y
   ·rw[if_pos hy]
    unfold stp
    by_cases hyj:y≤j
    ·rw[if_pos hyj,←ZkO]
     refine Zcs fun x hx=>?_
     by_cases hc:i≤x∧x≤y
     ·rw[if_pos hc,if_pos ⟨hc.1,hc.2,hyj⟩]
     ·rw[if_neg hc,if_neg (fun h=>hc ⟨h.1,h.2.1⟩),Nat.zero_mul]
    ·rw[if_neg hyj,Nat.zero_mul,Zbw (fun x hx=>by rw[if_neg (fun h=>hyj h.2.2)])]
   ·rw[if_neg hy,Zbw (fun x hx=>by rw[if_neg (fun h=>hy (by omega))])]
  rw[e1,ZkP]
  refine Zcs fun x hx=>?_
  by_cases hi:i≤x
  ·rw[if_pos hi,wcn,←ZnT]
   refine Zcs fun y hy=>?_
   by_cases hxy:x≤y
   ·rw[if_pos ⟨hi,hxy,by omega⟩,if_pos hxy,Nat.mul_assoc]
   ·rw[if_neg (fun h=>hxy h.2.1),if_neg hxy,Nat.mul_zero]
  ·rw[if_neg hi]
   exact Zbw (fun y hy=>by rw[if_neg (fun h=>hi h.1)])
theorem ZnV {M:Nat} {N:Cube} {w:List Int} {i j:Nat}:∀ (r:List Int) (a b:Nat→Nat),(∀ x,b x=min M (a x))→∀ x,(r.foldl (stpS M N w i j) b) x=min M ((r.foldl (stp N w i j) a) x)
 | [],a,b,h,x=>h x
 | s::r,a,b,h,x=>by
  simp only[List.foldl_cons]
  refine ZnV r _ _ (fun y=>?_) x
  unfold stpS stp
  split
  ·refine ZnU fun z hz=>?_
   split
   ·rw[h z,ZkR]
   ·rfl
  ·rfl
theorem ZgT {M:Nat} {N:Cube} {w:List Int} {i j:Nat} (hM:1≤M) (hij:i≤j) (r:List Int):(r.foldl (stpS M N w i j) (at0 i)) j=min M (wcn N w r i j):=by
 rw[ZnV r (at0 i) (at0 i) (fun x=>by unfold at0;split <;> omega) j,Zqn hij]
 congr 1
 rw[Zct (k:=i) (by omega) (fun x h1 h2=>by simp[at0,h2])]
 simp[at0]
def CLe (N N':Cube):Prop:=∀ v i j,N v i j≤N' v i j
theorem Zqo {N N':Cube} (h:CLe N N') (w:List Int) (s:Int) (i m:Nat):symN N w s i m≤symN N' w s i m:=by
 unfold symN;split
 ·exact h _ _ _
 ·exact Nat.le_refl _
theorem ZnW {N N':Cube} (h:CLe N N') (w:List Int):∀ (r:List Int) (i j:Nat),wcn N w r i j≤wcn N' w r i j
 | [],_,_=>Nat.le_refl _
 | s::r,i,j=>by
  simp only[wcn]
  refine ZdF fun m _=>?_
  split
  ·exact Nat.mul_le_mul (Zqo h w s i m) (ZnW h w r m j)
  ·exact Nat.le_refl _
def allR (g:Gram) (N:Cube) (w:List Int) (v i j:Nat):Nat:=((g.rules.filter fun r=>decide (r.left=(v:Int))).map fun r=>wcn N w r.right i j).sum
def rnd (g:Gram) (w:List Int) (M:Nat) (N:Cube):Cube:=fun v i j=>if (v:Int) < g.vars∧i≤j∧j≤w.length then min M (allR g N w v i j) else 0
def rnds (g:Gram) (w:List Int) (M:Nat):Nat→Cube
 | 0=>fun _ _ _=>0
 | k+1=>rnd g w M (rnds g w M k)
def many (g:Gram) (w:List Int) (M:Nat):Nat:=g.vars.toNat * ((w.length+1) * ((w.length+1) * M))
def wcns (g:Gram) (w:List Int) (M:Nat):Cube:=rnds g w M (many g w M)
theorem ZiO {α:Type} {f g:α→Nat}:∀ {l:List α},(∀ x∈l,f x≤g x)→(l.map f).sum≤(l.map g).sum
 | [],_=>Nat.le_refl _
 | a::l,h=>by
  simp only[List.map_cons,List.sum_cons]
  exact Nat.add_le_add (h a (by simp)) (ZiO (fun x hx=>h x (by simp[hx])))
theorem ZsO {g:Gram} {w:List Int} {M:Nat} {N N':Cube} (h:CLe N N'):CLe (rnd g w M N) (rnd g w M N'):=fun v i j=>by
 unfold rnd
 split
 ·have:allR g N w v i j≤allR g N' w v i j:=ZiO (fun r _=>ZnW h w r.right i j)
  omega
 ·exact Nat.le_refl _
theorem Zqp {g:Gram} {w:List Int} {M:Nat}:∀ k,CLe (rnds g w M k) (rnds g w M (k+1))
 | 0=>fun _ _ _=>Nat.zero_le _
 | k+1=>ZsO (Zqp k)
theorem Zvy {g:Gram} {w:List Int} {M:Nat} {N:Cube} (v i j:Nat):rnd g w M N v i j≤M:=by unfold rnd;split <;> omega
theorem Zmx {g:Gram} {w:List Int} {M:Nat}:∀ (k v i j:Nat),rnds g w M k v i j≤M
 | 0,_,_,_=>Nat.zero_le _
 | _+1,v,i,j=>Zvy v i j
def Zpc (g:Gram) (w:List Int) (N:Cube):Nat:=sumN g.vars.toNat fun v=>sumN (w.length+1) fun i=>sumN (w.length+1) fun j=>N v i j
theorem ZfW {n c:Nat}:sumN n (fun _=>c)=n * c:=by
 induction n with
 | zero=>simp[sumN]
 | succ n ih=>simp only[sumN,ih,Nat.add_mul];omega
theorem ZsP {g:Gram} {w:List Int} {M:Nat} {N:Cube} (h:∀ v i j,N v i j≤M):Zpc g w N≤many g w M:=by
 unfold Zpc many
 rw[←ZfW]
 refine ZdF fun v _=>?_
 rw[←ZfW]
 refine ZdF fun i _=>?_
 rw[←ZfW]
 exact ZdF fun j _=>h v i j
theorem ZdG {g:Gram} {w:List Int} {M:Nat} {k v i j:Nat} (h:¬ ((v:Int) < g.vars∧i≤j∧j≤w.length)):rnds g w M k v i j=0:=by
 cases k with
 | zero=>rfl
 | succ k=>show rnd g w M _ v i j=0;unfold rnd;rw[if_neg h]
theorem Zmy {f g:Nat→Nat} {n k:Nat} (hk:k < n) (h:∀ x,x < n→f x≤g x) (hl:f k < g k):sumN n f < sumN n g:=by
 induction n with
 | zero=>omega
 | succ n ih =>
  simp only[sumN]
  by_cases e:k=n
  ·subst e
   have:=ZdF (f:=f) (g:=g) (n:=k) (fun x hx=>h x (by omega))
   omega
  ·have:=ih (by omega) (fun x hx=>h x (by omega))
   have:=h n (by omega)
   omega
theorem ZnX {g:Gram} {w:List Int} {M k:Nat} (h:rnds g w M (k+1)≠rnds g w M k):Zpc g w (rnds g w M k) < Zpc g w (rnds g w M (k+1)):=by
 have hup:=Zqp (g:=g) (w:=w) (M:=M) k
 have:∃ v i j,rnds g w M k v i j≠rnds g w M (k+1) v i j:=Classical.byContradiction fun hn=>h (by
  funext v i j
  exact Classical.byContradiction fun hne=>hn ⟨v,i,j,fun e=>hne e.symm⟩)
 obtain⟨v,i,j,hne⟩:=this
 have hlt:rnds g w M k v i j < rnds g w M (k+1) v i j:=by have:=hup v i j;omega
 have hin:(v:Int) < g.vars∧i≤j∧j≤w.length:=Classical.byContradiction fun hn=>by
  rw[ZdG hn,ZdG hn] at hlt;omega
 unfold Zpc
 refine Zmy (k:=v) (by omega) (fun x _=>ZdF fun y _=>ZdF fun z _=>hup x y z) ?_
 refine Zmy (k:=i) (by omega) (fun y _=>ZdF fun z _=>hup v y z) ?_
 exact Zmy (k:=j) (by omega) (fun z _=>hup v i z) hlt
theorem Zhk {g:Gram} {w:List Int} {M k:Nat} (h:rnds g w M (k+1)=rnds g w M k):∀ m,rnds g w M (k+m)=rnds g w M k
 | 0=>rfl
 | m+1=>by
  show rnd g w M (rnds g w M (k+m))=_
  rw[Zhk h m];exact h
theorem ZiP {g:Gram} {w:List Int} {M:Nat}:∀ k,rnds g w M (k+1)≠rnds g w M k→k < Zpc g w (rnds g w M (k+1))
 | 0,h=>by have:=ZnX h;omega
 | k+1,h=>by
  have h1:rnds g w M (k+1)≠rnds g w M k:=fun e=>h (by
   show rnd g w M (rnds g w M (k+1))=rnd g w M (rnds g w M k)
   rw[e])
  have:=ZiP k h1
  have:=ZnX h
  omega
theorem ZkT {g:Gram} {w:List Int} {M k:Nat} (h:rnds g w M (k+1)≠rnds g w M k):k < many g w M :=
 Nat.lt_of_lt_of_le (ZiP k h) (ZsP (fun v i j=>Zmx (k+1) v i j))
theorem ZnY (g:Gram) (w:List Int) (M:Nat):rnd g w M (wcns g w M)=wcns g w M:=Classical.byContradiction fun h=>by
 have:=ZkT (g:=g) (w:=w) (M:=M) (k:=many g w M) h
 omega
theorem ZnZ {g:Gram} {w:List Int} {M k:Nat} (h:rnds g w M (k+1)=rnds g w M k):rnds g w M k=wcns g w M:=by
 unfold wcns
 by_cases hk:k≤many g w M
 ·have:=Zhk h (many g w M - k)
  rw[show k+(many g w M - k)=many g w M by omega] at this
  exact this.symm
 ·have:=Zhk (g:=g) (w:=w) (M:=M) (k:=many g w M) (ZnY g w M) (k - many g w M)
  rw[show many g w M+(k - many g w M)=k by omega] at this
  exact this
theorem Zd5 (g:Gram) (w:List Int) (M v i j:Nat):wcns g w M v i j≤M:=Zmx _ v i j
theorem Zqq {g:Gram} {w:List Int} {M v i j:Nat} (h1:(v:Int) < g.vars) (h2:i≤j) (h3:j≤w.length):wcns g w M v i j=min M (allR g (wcns g w M) w v i j):=by
 conv=>lhs;rw[←ZnY]
 unfold rnd;rw[if_pos ⟨h1,h2,h3⟩]
end Go.Proofs.YtbpmepgnjanhnaaGreat
namespace Go.Proofs.YtbpmepgnjanhnaaGreat
open Go.RowKit
set_option maxRecDepth 100000
def uD (x:Int):D:=.raw (.int .u64 x)
abbrev U (x:Nat):V:=.d (uD (x:Int))
def hasN (s:Nat) (v:Int):Bool:=decide (0≤v) && (decide (v < 64) && s.testBit v.toNat)
def Zit (s:Nat) (v:Int):Nat:=if 0≤v∧v < 64 then s ||| (1 <<< v.toNat) else s
theorem Zus (s k:Nat):decide (s >>> k &&& 1=1)=s.testBit k:=by
 rw[Nat.testBit,Nat.and_comm 1,Nat.and_one_is_mod]
 rcases Nat.mod_two_eq_zero_or_one (s >>> k) with h|h <;> rw[h] <;> rfl
theorem ZjM {s:Nat} {v:Int} (hs:s < 18446744073709551616:=by ((try simp only[List.length_map,List.length_append,List.length_cons,List.length_nil,List.length_replicate,List.length_set,List.length_take,List.length_drop]);first|omega|assumption)):ACalls Tryz.prog 88 [U s,I v] [] (B (hasN s v)) []:=by
 refine ACalls.intro (n:=18) Tryz.func88 rfl rfl (by simp) (by rfl) ?_
 simp only[Zak]
 by_cases h1:0≤v
 ·by_cases h2:v < 64
  ·obtain⟨k,rfl⟩:∃ k:Nat,v=(k:Int):=⟨v.toNat,by omega⟩
   have e:hasN s k=s.testBit k:=by simp only[hasN,decide_eq_true h1,decide_eq_true h2,Bool.true_and,Int.toNat_natCast]
   have e2:s.testBit k=decide (andU (shrU s k) 1=1):=by
    rw[←Zus];exact decide_eq_decide.2 (by rw[show andU (shrU s k) 1=((s >>> k &&& 1:Nat):Int) from rfl];omega)
   rw[e,e2]
   repeat (first|refine wk ?_|refine Zaa (hr:=?_))
   refine gOp ?_
   refine gBin ?_
   refine Zl3 (h1:=?_) (h2:=?_) (h3:=?_) (h4:=?_) (hr:=?_)
   ·exact Int.natCast_nonneg _
   ·have:=Nat.shiftRight_le s k
    rw[show shrU s k=((s >>> k:Nat):Int) from rfl]
    omega
   ·omega
   ·omega
   repeat (first|refine wk ?_|refine Zaa (hr:=?_))
   exact fin
  ·rw[show hasN s v=false by simp[hasN];omega]
   repeat (first|refine wk ?_|refine Zaa (hr:=?_))
   exact fin
 ·rw[show hasN s v=false by simp[hasN];omega]
  repeat (first|refine wk ?_|refine Zaa (hr:=?_))
  exact fin
theorem Zn0 {s:Nat} {v:Int} (hs:s < 18446744073709551616:=by ((try simp only[List.length_map,List.length_append,List.length_cons,List.length_nil,List.length_replicate,List.length_set,List.length_take,List.length_drop]);first|omega|assumption)):ACalls Tryz.prog 170 [U s,I v] [] (U (Zit s v)) []:=by
 refine ACalls.intro (n:=16) Tryz.func170 rfl rfl (by simp) (by rfl) ?_
 simp only[Zak]
 by_cases h1:v < 0
 ·rw[show Zit s v=s by rw[Zit,if_neg (by omega)]]
  repeat (first|refine wk ?_|refine Zaa (hr:=?_))
  exact fin
 ·by_cases h2:v > 63
  ·rw[show Zit s v=s by rw[Zit,if_neg (by omega)]]
   repeat (first|refine wk ?_|refine Zaa (hr:=?_))
   exact fin
  ·obtain⟨k,rfl⟩:∃ k:Nat,v=(k:Int):=⟨v.toNat,by omega⟩
   have e:Zit s k=((s:Int).toNat ||| (shlU 1 k).toNat):=by rw[Zit,if_pos (by omega)];rfl
   rw[show U (Zit s k)=V.d (.raw (.int .u64 (orU s (shlU 1 k)))) by rw[e];rfl]
   clear e
   repeat (first|refine wk ?_|refine Zaa (hr:=?_))
   refine gOp ?_
   refine gBin ?_
   refine s_or (h1:=?_) (h2:=?_) (h3:=?_) (h4:=?_) (hr:=?_)
   ·omega
   ·omega
   ·exact Int.natCast_nonneg _
   ·have hb:(1 <<< k:Nat) < 18446744073709551616:=by
     rw[Nat.one_shiftLeft]
     exact Nat.lt_of_lt_of_le (Nat.pow_lt_pow_right (a:=2) (n:=64) (by decide) (by omega)) (by decide)
    rw[show shlU 1 (k:Int)=((1 <<< k:Nat):Int) from rfl]
    omega
   repeat (first|refine wk ?_|refine Zaa (hr:=?_))
   exact fin
def Zhl (s n:Nat):List Int:=((List.range n).filter (fun k=>s.testBit k)).map (fun (k:Nat)=>(k:Int))
theorem ZiQ (s n:Nat):Zhl s (n+1)=Zhl s n++(if s.testBit n=true then [(n:Int)] else []):=by
 unfold Zhl
 rw[List.range_succ,List.filter_append,List.map_append]
 congr 1
 by_cases h:s.testBit n=true <;> simp[h]
theorem ZsQ (s n:Nat):(Zhl s n).length≤n:=by
 unfold Zhl
 rw[List.length_map]
 exact Nat.le_trans (List.length_filter_le _ _) (by simp)
theorem ZsR {s:Nat} (hs:s < 18446744073709551616:=by ((try simp only[List.length_map,List.length_append,List.length_cons,List.length_nil,List.length_replicate,List.length_set,List.length_take,List.length_drop]);first|omega|assumption)):ACalls Tryz.prog 90 [U s] [] (.own 900 (Zhl s 64).length) [(900,.row 3 1 ((Zhl s 64).map iD))]:=by
 refine ACalls.intro (n:=17) Tryz.func90 rfl rfl (by simp) (by rfl) ?_
 simp only[Zak]
 repeat (first|refine wk ?_|refine Zaa (hr:=?_))
 refine ZaU 3 900 3 1 rfl rfl rfl ?_
 refine Zai (X:=Nat) (fun k=>k≤64) (fun k=>[(5,I k),(0,U s),(3,.own 900 (Zhl s k).length)]) (fun k=>[(900,.row 3 1 ((Zhl s k).map iD))]) (fun k=>64 - k) 0 (Nat.zero_le _) ?_
 intro k hk
 have hl:=ZsQ s k
 by_cases hlt:(k:Int) < 64
 ·have e:=ZiQ s k
  have eh:hasN s k=s.testBit k:=by simp only[hasN,decide_eq_true hlt,Bool.true_and,Int.toNat_natCast];rw[decide_eq_true (by omega)];rfl
  have h1:=ZjM (s:=s) (v:=k) hs
  rw[eh] at h1
  repeat (first|refine wk ?_|refine Zaa (hr:=?_))
  refine Zab [] (hA:=h1) (hr:=?_)
  cases hb:s.testBit k with
  | true =>
   rw[hb,if_pos rfl] at e
   repeat (first|refine wk ?_|refine Zaa (hr:=?_))
   exact Zad (k+1)
  | false =>
   rw[hb,if_neg (by decide),List.append_nil] at e
   repeat (first|refine wk ?_|refine Zaa (hr:=?_))
   exact Zad (k+1)
 ·obtain rfl:k=64:=by omega
  repeat (first|refine wk ?_|refine Zaa (hr:=?_))
  exact fin
end Go.Proofs.YtbpmepgnjanhnaaGreat
namespace Go.Proofs.YtbpmepgnjanhnaaGreat
open Go.RowKit
set_option maxRecDepth 100000
theorem ZjN {is:List Bool} (h:is.length≤64) (v:Int):hasN (setN is) v=has is v:=by
 unfold hasN has
 rw[Zcn]
 by_cases h1:v < 64
 ·simp[h1]
 ·rw[decide_eq_false h1,Bool.false_and,Bool.and_false,List.getD_eq_getElem?_getD,List.getElem?_eq_none (by omega)]
  simp
theorem ZkU {is:List Bool} (h:is.length≤64) {v:Int} (h0:0≤v) (h1:v < is.length):Zit (setN is) v=setN (put is v):=by
 rw[Zit,if_pos (by omega),put,ZtR (by omega)]
def Zdr (is:List Bool):List Int:=((List.range is.length).filter (fun k=>is.getD k false)).map (fun (k:Nat)=>(k:Int))
theorem ZsS (is:List Bool):(Zdr is).length≤is.length:=by
 unfold Zdr
 rw[List.length_map]
 exact Nat.le_trans (List.length_filter_le _ _) (by simp)
theorem Zqr {is:List Bool}:∀ {n:Nat},is.length≤n→Zhl (setN is) n=Zdr is:=by
 intro n hn
 obtain⟨d,rfl⟩:∃ d,n=is.length+d:=⟨n - is.length,by omega⟩
 clear hn
 induction d with
 | zero=>simp only[Zhl,Zdr,Zcn,Nat.add_zero]
 | succ d ih =>
  rw[←Nat.add_assoc,ZiQ,ih,Zcn,List.getD_eq_getElem?_getD,List.getElem?_eq_none (by omega),if_neg (by simp),List.append_nil]
abbrev ZjO (t:Bool) (is:List Bool):D:=.sl t 1 (is.map bD)
def badS (t:Bool) (is:List Bool) (x:Int):Bool:=(decide (x < 0) && !t) || (decide (0≤x) && !has is x)
theorem ZsT (t:Bool) (r:Rule) (is:List Bool):Zbn (asks t r) is=!(r.right.any (badS t is)):=by
 rw[Bool.eq_iff_iff]
 simp only[Zbn,Bool.not_eq_true',List.any_eq_false,List.all_eq_true]
 cases t with
 | false =>
  simp only[asks,cond_false]
  refine forall_congr' fun x=>forall_congr' fun _=>?_
  by_cases h:0≤x
  ·simp[badS,h]
  ·have:has is x=false:=by simp[has,h]
   simp[badS,this]
 | true =>
  simp only[asks,cond_true]
  constructor
  ·intro h x hx
   by_cases h0:0≤x
   ·simp[badS,h x (by simp[kids,hx,h0])]
   ·simp[badS,h0]
  ·intro h x hx
   have h0:=ZnI x hx
   have:=h x (ZtU hx)
   simpa[badS,h0] using this
abbrev setBox (is:List Bool):Ob:=.box 118 [.d (uD (setN is:Nat))]
abbrev ZeP (b:Bool):Ob:=.box 4 [.d (bD b)]
theorem Zpd {t:Bool} {is:List Bool} {x:Int} (hl:is.length≤64) :
  ACalls Tryz.prog 214 [I x,.ptr 1000 0,.ptr 1001 0] [(1000,ZeP t),(1001,setBox is)] (B (badS t is x)) [(1000,ZeP t),(1001,setBox is)]:=by
 refine ACalls.intro (n:=21) Tryz.func214 rfl rfl (by simp) (by rfl) ?_
 simp only[Zak]
 have hs:=Zdb hl
 have h1:=ZjM (s:=setN is) (v:=x) hs
 rw[ZjN hl] at h1
 by_cases h0:0≤x
 ·have hx:decide (x < 0)=false:=decide_eq_false (by omega)
  have eb:badS t is x=!has is x:=by simp[badS,h0,hx]
  rw[eb]
  repeat (first|refine wk ?_)
  refine Zab [] (hA:=h1) (hr:=?_)
  repeat (first|refine wk ?_)
  exact fin
 ·cases t with
  | false =>
   rw[show badS false is x=true by simp[badS];omega]
   repeat (first|refine wkz ?_|refine Zaa (hr:=?_))
   exact fin
  | true =>
   rw[show badS true is x=false by simp[badS];omega]
   repeat (first|refine wk ?_)
   exact fin
theorem ZkV {t u:Bool} {r:Rule} {is:List Bool} (hl:is.length≤64:=by ((try simp only[List.length_map,List.length_append,List.length_cons,List.length_nil,List.length_replicate,List.length_set,List.length_take,List.length_drop]);first|omega|assumption)) (hr:r.right.length≤100000000:=by ((try simp only[List.length_map,List.length_append,List.length_cons,List.length_nil,List.length_replicate,List.length_set,List.length_take,List.length_drop]);first|omega|assumption)) :
  ACalls Tryz.prog 169 [.d (Zbu t r),U (setN is),B u] [] (B (Zbn (asks u r) is)) []:=by
 refine ACalls.intro (n:=12) Tryz.func169 rfl rfl (by simp) (by rfl) ?_
 simp only[Zak]
 rw[ZsT]
 repeat (first|refine wk ?_)
 refine Zab [(1000,5),(1001,4)] (hA:=ZbO (t:=t) (clos:=214) (caps:=[.ptr 1000 0,.ptr 1001 0]) (H:=[(1000,ZeP u),(1001,setBox is)]) (p:=badS u is) ⟨rfl,rfl,rfl,⟨rfl,rfl,trivial⟩⟩ (fun x _=>Zpd hl)) (hr:=?_)
 repeat (first|refine wk ?_)
 exact fin
end Go.Proofs.YtbpmepgnjanhnaaGreat
namespace Go.Proofs.YtbpmepgnjanhnaaGreat
open Go.RowKit
set_option maxRecDepth 100000
theorem Zqs {t:Bool} {rs:List Rule} {i:Nat} {is:List Bool} (h:i < rs.length):pass t (rs.drop i) is=pass t (rs.drop (i+1)) (one1 t rs[i] is):=by
 rw[List.drop_eq_getElem_cons h,pass]
theorem Zn1 {t:Bool} {rs:List Rule} {i:Nat} {is:List Bool} (h:¬ i < rs.length):pass t (rs.drop i) is=is:=by
 rw[List.drop_of_length_le (by omega),pass]
abbrev Zut (t:Bool) (r:Rule):Ob:=.box 68 [.d (iD r.left),.d (ints t r.right)]
theorem Zpe {t u:Bool} {g:Gram} (hg:g.ok) {is:List Bool} (hl:is.length=g.vars.toNat) :
  ACalls Tryz.prog 172 [U (setN is),.ptr 1000 0,.ptr 1001 0] [(1000,Zar t g),(1001,ZeP u)] (U (setN (pass u g.rules is))) [(1000,Zar t g),(1001,ZeP u)]:=by
 refine ACalls.intro (n:=24) Tryz.func172 rfl rfl (by simp) (by rfl) ?_
 simp only[Zak]
 have hv:=hg.vars
 have hlen:=hg.rules
 repeat (first|refine wk ?_)
 refine Zai (X:=Nat×List Bool) (fun x=>x.1≤g.rules.length∧pass u g.rules is=pass u (g.rules.drop x.1) x.2∧x.2.length=is.length) (fun x=>[(10,I x.1),(9,I g.rules.length),(8,.d (ZaT t g.rules)),(0,U (setN x.2)),(1,.ptr 1000 0),(2,.ptr 1001 0)]) (fun _=>[(1000,Zar t g),(1001,ZeP u)]) (fun x=>g.rules.length - x.1) (0,is) ⟨Nat.zero_le _,rfl,rfl⟩ ?_
 rintro⟨i,js⟩ ⟨h1,h2,h3⟩
 dsimp only at h1 h2 h3 ⊢
 by_cases hlt:i < g.rules.length
 ·have hmem:=List.getElem_mem hlt
  have a1:=hg.left0 _ hmem
  have a2:=hg.left _ hmem
  have a3:=hg.right _ hmem
  have hp:=Zqs (t:=u) (is:=js) hlt
  have hl64:js.length≤64:=by omega
  have hlt64:=Zdb hl64
  have hw:=Zn0 (s:=setN js) (v:=g.rules[i].left) hlt64
  rw[ZkU hl64 a1 (by omega)] at hw
  repeat (first|refine wk ?_)
  refine Zab [] (hA:=ZkV (t:=t) (r:=g.rules[i])) (hr:=?_)
  cases hc:Zbn (asks u g.rules[i]) js with
  | true =>
   have ho:one1 u g.rules[i] js=put js g.rules[i].left:=by rw[one1,hc];rfl
   rw[ho] at hp
   repeat (first|refine wk ?_)
   refine Zab [] (hA:=hw) (hr:=?_)
   repeat (first|refine wk ?_)
   exact Zad (i+1,put js g.rules[i].left) (a:=⟨by omega,h2.trans hp,by rw[ZdD];exact h3⟩) (b:=by dsimp only;omega)
  | false =>
   have ho:one1 u g.rules[i] js=js:=by rw[one1,hc];rfl
   rw[ho] at hp
   repeat (first|refine wk ?_)
   exact Zad (i+1,js) (a:=⟨by omega,h2.trans hp,h3⟩) (b:=by dsimp only;omega)
 ·rw[h2,Zn1 hlt]
  repeat (first|refine wk ?_)
  exact fin
theorem ZsU {clos:Nat} {caps:List V} {H:Hp} {f:List Bool→List Bool} {is:List Bool} (hC:Clo H caps) (hs:∀ x,Sub x (f x)) (hl:is.length≤64)
  (hc:∀ x:List Bool,x.length=is.length→ACalls Tryz.prog clos (U (setN x)::caps) H (U (setN (f x))) H) :
  ACalls Tryz.prog 171 [U (setN is),.fn (.func clos) [] caps] H (U (setN (full f is))) H:=by
 refine ACalls.intro (n:=17) Tryz.func171 rfl rfl (by simp) (by rfl) ?_
 simp only[Zak]
 have h1:=hC.self
 have h2:=hC.inn
 have h3:=hC.caps
 repeat (first|refine wk ?_)
 refine ZoG hC (hA:=hc is rfl) (hr:=?_)
 repeat (first|refine wk ?_)
 refine Zai (X:=List Bool) (fun x=>x.length=is.length∧full f is=full f x) (fun x=>[(5,U (setN (f x))),(0,U (setN x)),(1,.fn (.func clos) [] caps)]) (fun _=>H) (fun x=>is.length - cntB x) is ⟨rfl,rfl⟩ ?_
 rintro x ⟨hx,hf⟩
 have hfl:=(hs x).len
 by_cases e:f x=x
 ·have e1:(setN (f x):Int)=(setN x:Int):=by rw[e]
  rw[hf,ZtS e]
  repeat (first|refine wk ?_)
  exact fin
 ·have e1:¬ ((setN (f x):Int)=(setN x:Int)):=fun h=>e (ZtQ hfl.symm (by omega))
  have hgr:=(hs x).grows (Ne.symm e)
  have hle:=Zkq (f x)
  repeat (first|refine wk ?_)
  refine ZoG hC (hA:=hc (f x) (by omega)) (hr:=?_)
  repeat (first|refine wk ?_)
  exact Zad (f x) (a:=⟨by omega,by rw[hf,Zsg hs]⟩) (b:=by omega)
theorem ZkW {t u:Bool} {g:Gram} (hg:g.ok):ACalls Tryz.prog 89 [.d (ZaH t g),B u] [] (U (setN (ZaJ u g))) []:=by
 refine ACalls.intro (n:=7) Tryz.func89 rfl rfl (by simp) (by rfl) ?_
 simp only[Zak]
 have hv:=hg.vars
 have h:=ZsU (clos:=172) (caps:=[.ptr 1000 0,.ptr 1001 0]) (H:=[(1000,Zar t g),(1001,ZeP u)]) (f:=pass u g.rules) (is:=Zin g) ⟨rfl,rfl,rfl,⟨rfl,rfl,trivial⟩⟩ (ZfM hg.left0) (by rw[Zdc];omega) (fun x hx=>Zpe hg (by rw[hx,Zdc]))
 rw[show setN (Zin g)=0 from ZoL _] at h
 repeat (first|refine wk ?_)
 refine Zab [(1000,2),(1001,3)] (hA:=h) (hr:=?_)
 repeat (first|refine wk ?_)
 exact fin
def Zqt (g:Gram):List Int:=if (Zah g).code=0 then Zdr (ZaJ false g) else []
theorem ZsV {is:List Bool} (h:is.length≤64):ACalls Tryz.prog 90 [U (setN is)] [] (.own 900 (Zdr is).length) [(900,.row 3 1 ((Zdr is).map iD))]:=by
 have:=ZsR (s:=setN is) (Zdb h)
 rwa [Zqr h] at this
theorem ZkX {t:Bool} {g:Gram} (hf:g.fit):ACalls Tryz.prog 53 [.d (ZaH t g)] [] (.tup [.d (ints false (Zqt g)),.d (ZaN (Zah g))]) []:=by
 refine ACalls.intro (n:=15) Tryz.func53 rfl rfl (by simp) (by rfl) ?_
 simp only[Zak]
 have hl:=hf.rules
 have hr:=hf.right
 repeat (first|refine wk ?_)
 refine Zab [] (hA:=ZaY) (hr:=?_)
 by_cases h0:(Zah g).code=0
 ·have hg:=Zbr h0
  have hz:=ZjA h0
  have hv:=hg.vars
  have hll:=ZbZ (t:=false) hg
  rw[Zqt,if_pos h0,hz]
  repeat (first|refine wk ?_)
  refine Zab [] (hA:=ZkW (u:=false) hg) (hr:=?_)
  repeat (first|refine wk ?_)
  refine Zab [] (hA:=ZsV (is:=ZaJ false g) (by omega)) (hr:=?_)
  repeat (first|refine wkr ?_|refine Zaa (hr:=?_))
  refine ZaF 900 rfl ?_
  repeat (first|refine wk ?_)
  exact fin
 ·rw[Zqt,if_neg h0]
  repeat (first|refine wk ?_)
  exact fin
end Go.Proofs.YtbpmepgnjanhnaaGreat
namespace Go.Proofs.YtbpmepgnjanhnaaGreat
open Go.RowKit
set_option maxRecDepth 100000
theorem Zmz {is:List Bool} {x:Int} {k:Nat} (e:x=(k:Int)) (h:k < is.length):has is x=is[k]:=by
 subst e;rw[Zbl,List.getD_eq_getElem?_getD,List.getElem?_eq_getElem h];rfl
theorem Zhm {t u:Bool} {xs:List Int} {is:List Bool} (hx:∀ x∈xs,x < is.length) (hl:xs.length≤100000000:=by ((try simp only[List.length_map,List.length_append,List.length_cons,List.length_nil,List.length_replicate,List.length_set,List.length_take,List.length_drop]);first|omega|assumption)) (hi:is.length≤100000000:=by ((try simp only[List.length_map,List.length_append,List.length_cons,List.length_nil,List.length_replicate,List.length_set,List.length_take,List.length_drop]);first|omega|assumption)) :
  ACalls Tryz.prog 136 [.d (ints t xs),.d (ZjO u is)] [] (B (Zbn xs is)) []:=by
 refine ACalls.intro (n:=27) Tryz.func136 rfl rfl (by simp) (by rfl) ?_
 simp only[Zak]
 repeat (first|refine wk ?_)
 refine Zai (X:=Nat) (fun k=>k≤xs.length∧∀ j,j < k→∀ (hj:j < xs.length),has is xs[j]=true) (fun k=>[(5,I k),(0,.d (ints t xs)),(1,.d (ZjO u is))]) (fun _=>[]) (fun k=>xs.length - k) 0 ⟨Nat.zero_le _,by omega⟩ ?_
 rintro k ⟨hk,hp⟩
 by_cases hlt:k < xs.length
 ·have hm:=hx _ (List.getElem_mem hlt)
  have hno:has is xs[k]=false→Zbn xs is=false:=fun h=>by
   rw[Zbn,List.all_eq_false];exact⟨_,List.getElem_mem hlt,by simp[h]⟩
  by_cases h0:xs[k] < 0
  ·rw[hno (by simp[has];omega)]
   repeat (first|refine wk ?_)
   exact fin
  ·obtain⟨m,hmk⟩:∃ m:Nat,xs[k]=(m:Int):=⟨xs[k].toNat,by omega⟩
   have hml:m < is.length:=by omega
   have hg:=Zmz hmk hml
   cases hb:is[m] with
   | true =>
    repeat (first|refine wk ?_)
    exact Zad (k+1) (a:=⟨by omega,Zdo hp (fun _=>by rw[hg,hb])⟩)
   | false =>
    rw[hno (by rw[hg,hb])]
    repeat (first|refine wk ?_)
    exact fin
 ·rw[show Zbn xs is=true by
   rw[Zbn,List.all_eq_true];intro x h
   obtain⟨j,hj,rfl⟩:=List.getElem_of_mem h
   exact hp j (by omega) hj]
  repeat (first|refine wk ?_)
  exact fin
theorem Zqu {is:List Bool} {v:Int}:(is.map bD).set v.toNat (bD true)=(put is v).map bD:=by rw[put,List.map_set]
set_option maxHeartbeats 400000 in
theorem Zpf {t:Bool} {g:Gram} (hg:g.ok):ACalls Tryz.prog 202 [.d (ZaH t g)] [] (.own 8 g.vars.toNat) [(8,.row 4 1 ((ZaJ false g).map bD))]:=by
 refine ACalls.intro (n:=39) Tryz.func202 rfl rfl (by simp) (by rfl) ?_
 simp only[Zak]
 have hv:=hg.vars
 have hv1:=hg.vars1
 have hlen:=hg.rules
 obtain⟨N,hN⟩:∃ N:Nat,g.vars=(N:Int):=⟨g.vars.toNat,by omega⟩
 have hNt:g.vars.toNat=N:=by omega
 rw[hNt]
 have hnl:=Zdc g
 have e:List.replicate N (ZgN (.bool false))=(List.replicate N false).map bD:=by rw[List.map_replicate];rfl
 repeat (first|refine wk ?_)
 refine Zai (X:=Nat×List Bool) (fun x=>x.1≤N∧ZaJ false g=iter (pass false g.rules) (N - x.1) x.2∧x.2.length=N) (fun x=>[(4,I x.1),(3,.own 8 N),(1,.ptr 1 0)]) (fun x=>[(1,Zar t g),(8,.row 4 1 (x.2.map bD))]) (fun x=>N - x.1) (0,List.replicate N false) ⟨Nat.zero_le _,by rw[ZaJ,full,hnl,hNt,Zin,hNt];rfl,by simp⟩ ?_
 clear e
 rintro⟨n,is⟩ ⟨h1,h2,h3⟩
 dsimp only at h1 h2 h3 ⊢
 by_cases hn:n < N
 ·rw[show N - n=(N - (n+1))+1 by omega,iter] at h2
  repeat (first|refine wk ?_)
  refine Zai (X:=Nat×List Bool) (fun x=>x.1≤g.rules.length∧pass false g.rules is=pass false (g.rules.drop x.1) x.2∧x.2.length=N) (fun x=>[(5,I x.1),(4,I n),(3,.own 8 N),(1,.ptr 1 0)]) (fun x=>[(1,Zar t g),(8,.row 4 1 (x.2.map bD))]) (fun x=>g.rules.length - x.1) (0,is) ⟨Nat.zero_le _,rfl,h3⟩ ?_
  rintro⟨i,js⟩ ⟨k1,k2,k3⟩
  dsimp only at k1 k2 k3 ⊢
  by_cases hlt:i < g.rules.length
  ·have hmem:=List.getElem_mem hlt
   have a1:=hg.left0 _ hmem
   have a2:=hg.left _ hmem
   have a3:=hg.right _ hmem
   have a4:=hg.hi _ hmem
   have hp:=Zqs (t:=false) (is:=js) hlt
   have e:=Zqu (is:=js) (v:=g.rules[i].left)
   have hlk:g.rules[i].left=((g.rules[i].left.toNat:Nat):Int):=by omega
   have hin:∀ x∈g.rules[i].right,x < js.length:=fun x hx=>by have:=a4 x hx;omega
   repeat (first|refine wk ?_)
   refine Zab [] (hA:=Zhm (t:=t) (u:=true) (xs:=g.rules[i].right) (is:=js) hin) (hr:=?_)
   cases hc:Zbn g.rules[i].right js with
   | true =>
    have ho:one1 false g.rules[i] js=put js g.rules[i].left:=by rw[one1,asks,cond_false,hc];rfl
    rw[ho] at hp
    repeat (first|refine wk ?_)
    exact Zad (i+1,put js g.rules[i].left) (a:=⟨by omega,k2.trans hp,by rw[ZdD];exact k3⟩) (b:=by dsimp only;omega)
   | false =>
    have ho:one1 false g.rules[i] js=js:=by rw[one1,asks,cond_false,hc];rfl
    rw[ho] at hp
    repeat (first|refine wk ?_)
    exact Zad (i+1,js) (a:=⟨by omega,k2.trans hp,k3⟩) (b:=by dsimp only;omega)
  ·rw[Zn1 hlt] at k2
   repeat (first|refine wk ?_)
   exact Zad (n+1,js) (a:=⟨by omega,by dsimp only;rw[h2,k2],k3⟩) (b:=by dsimp only;omega)
 ·rw[show N - n=0 by omega,iter] at h2
  rw[h2]
  repeat (first|refine wk ?_)
  exact fin
end Go.Proofs.YtbpmepgnjanhnaaGreat
