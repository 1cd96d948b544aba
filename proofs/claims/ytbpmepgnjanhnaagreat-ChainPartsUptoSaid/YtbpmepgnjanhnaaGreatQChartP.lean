import Derived.Test.YtbpmepgnjanhnaaGreatQGramC
import Derived.Test.YtbpmepgnjanhnaaGreatG1
import Derived.Test.YtbpmepgnjanhnaaGreatS5
set_option linter.unusedVariables false
set_option linter.unusedSimpArgs false
set_option linter.unusedSectionVars false
namespace Go.Proofs.YtbpmepgnjanhnaaGreat
open Go.RowKit
def sumN:Nat→(Nat→Nat)→Nat
 | 0,_=>0
 | n+1,f=>sumN n f+f n
theorem ZdI {f:Nat→Nat}:∀ {n:Nat},(∀ x,x < n→f x=0)→sumN n f=0
 | 0,_=>rfl
 | n+1,h=>by simp only[sumN];rw[ZdI (fun x hx=>h x (by omega)),h n (by omega)]
theorem ZdY {f g:Nat→Nat}:∀ {n:Nat},(∀ x,x < n→f x≤g x)→sumN n f≤sumN n g
 | 0,_=>Nat.le_refl _
 | n+1,h=>by simp only[sumN];exact Nat.add_le_add (ZdY (fun x hx=>h x (by omega))) (h n (by omega))
theorem ZuM {f:Nat→Nat} {n m:Nat} (h:n≤m) (hz:∀ x,n≤x→x < m→f x=0):sumN m f=sumN n f:=by
 induction m with
 | zero =>
      obtain rfl:n=0:=by omega
      rfl
 | succ m ih =>
  by_cases e:n=m+1
  ·rw[e]
  ·simp only[sumN]
   rw[ih (by omega) (fun x h1 h2=>hz x h1 (by omega)),hz m (by omega) (by omega)];rfl
theorem ZhM {f:Nat→Nat} {n k:Nat} (hk:k < n) (hz:∀ x,x < n→x≠k→f x=0):sumN n f=f k:=by
 rw[ZuM (n:=k+1) (by omega) (fun x h1 h2=>hz x h2 (by omega))]
 simp only[sumN]
 rw[ZdI (fun x hx=>hz x (by omega) (by omega))];omega
theorem ZnC {f:Nat→Nat} {n k:Nat} (hk:k < n):f k≤sumN n f:=by
 induction n with
 | zero=>omega
 | succ n ih =>
  simp only[sumN]
  by_cases e:k=n
  ·subst e;omega
  ·have:=ih (by omega);omega
theorem ZlH (M a b:Nat):min M (a+min M b)=min M (a+b):=by omega
theorem ZlI (M a b:Nat):min M (min M a+b)=min M (a+b):=by omega
theorem ZrS {M a b:Nat}:min M (min M a * b)=min M (a * b):=by
 by_cases h:a≤M
 ·rw[Nat.min_eq_right h]
 ·rw[Nat.min_eq_left (by omega:M≤a)]
  cases b with
  | zero=>rfl
  | succ b =>
   have h1:M * 1≤M * (b+1):=Nat.mul_le_mul_left _ (by omega)
   have h2:a * 1≤a * (b+1):=Nat.mul_le_mul_left _ (by omega)
   omega
theorem ZlJ {M a b:Nat}:min M (a * min M b)=min M (a * b):=by rw[Nat.mul_comm,ZrS,Nat.mul_comm]
abbrev Cube:=Nat→Nat→Nat→Nat
def symN (N:Cube) (w:List Int) (s:Int) (i m:Nat):Nat:=if 0≤s then N s.toNat i m else if m=i+1∧w[i]? = some (-1 - s) then 1 else 0
def wcn (N:Cube) (w:List Int):List Int→Nat→Nat→Nat
 | [],i,j=>if i=j then 1 else 0
 | s::r,i,j=>sumN (j+1) fun m=>if i≤m then symN N w s i m * wcn N w r m j else 0
def at0 (i:Nat):Nat→Nat:=fun e=>if e=i then 1 else 0
def CLe (N N':Cube):Prop:=∀ v i j,N v i j≤N' v i j
theorem ZrT {N N':Cube} (h:CLe N N') (w:List Int) (s:Int) (i m:Nat):symN N w s i m≤symN N' w s i m:=by
 unfold symN;split
 ·exact h _ _ _
 ·exact Nat.le_refl _
theorem Zo0 {N N':Cube} (h:CLe N N') (w:List Int):∀ (r:List Int) (i j:Nat),wcn N w r i j≤wcn N' w r i j
 | [],_,_=>Nat.le_refl _
 | s::r,i,j=>by
  simp only[wcn]
  refine ZdY fun m _=>?_
  split
  ·exact Nat.mul_le_mul (ZrT h w s i m) (Zo0 h w r m j)
  ·exact Nat.le_refl _
def allR (g:Gram) (N:Cube) (w:List Int) (v i j:Nat):Nat:=((g.rules.filter fun r=>decide (r.left=(v:Int))).map fun r=>wcn N w r.right i j).sum
def rnd (g:Gram) (w:List Int) (M:Nat) (N:Cube):Cube:=fun v i j=>if (v:Int) < g.vars∧i≤j∧j≤w.length then min M (allR g N w v i j) else 0
def rnds (g:Gram) (w:List Int) (M:Nat):Nat→Cube
 | 0=>fun _ _ _=>0
 | k+1=>rnd g w M (rnds g w M k)
def many (g:Gram) (w:List Int) (M:Nat):Nat:=g.vars.toNat * ((w.length+1) * ((w.length+1) * M))
def wcns (g:Gram) (w:List Int) (M:Nat):Cube:=rnds g w M (many g w M)
theorem Zjr {α:Type} {f g:α→Nat}:∀ {l:List α},(∀ x∈l,f x≤g x)→(l.map f).sum≤(l.map g).sum
 | [],_=>Nat.le_refl _
 | a::l,h=>by
  simp only[List.map_cons,List.sum_cons]
  exact Nat.add_le_add (h a (by simp)) (Zjr (fun x hx=>h x (by simp[hx])))
theorem ZuN {g:Gram} {w:List Int} {M:Nat} {N N':Cube} (h:CLe N N'):CLe (rnd g w M N) (rnd g w M N'):=fun v i j=>by
 unfold rnd
 split
 ·have:allR g N w v i j≤allR g N' w v i j:=Zjr (fun r _=>Zo0 h w r.right i j)
  omega
 ·exact Nat.le_refl _
theorem ZrU {g:Gram} {w:List Int} {M:Nat}:∀ k,CLe (rnds g w M k) (rnds g w M (k+1))
 | 0=>fun _ _ _=>Nat.zero_le _
 | k+1=>ZuN (ZrU k)
theorem ZxU {g:Gram} {w:List Int} {M:Nat} {N:Cube} (v i j:Nat):rnd g w M N v i j≤M:=by unfold rnd;split <;> omega
theorem ZrV {g:Gram} {w:List Int} {M:Nat}:∀ (k v i j:Nat),rnds g w M k v i j≤M
 | 0,_,_,_=>Nat.zero_le _
 | _+1,v,i,j=>ZxU v i j
def Zqr (g:Gram) (w:List Int) (N:Cube):Nat:=sumN g.vars.toNat fun v=>sumN (w.length+1) fun i=>sumN (w.length+1) fun j=>N v i j
theorem Zgo {n c:Nat}:sumN n (fun _=>c)=n * c:=by
 induction n with
 | zero=>simp[sumN]
 | succ n ih=>simp only[sumN,ih,Nat.add_mul];omega
theorem ZuO {g:Gram} {w:List Int} {M:Nat} {N:Cube} (h:∀ v i j,N v i j≤M):Zqr g w N≤many g w M:=by
 unfold Zqr many
 rw[←Zgo]
 refine ZdY fun v _=>?_
 rw[←Zgo]
 refine ZdY fun i _=>?_
 rw[←Zgo]
 exact ZdY fun j _=>h v i j
theorem ZfJ {g:Gram} {w:List Int} {M:Nat} {k v i j:Nat} (h:¬ ((v:Int) < g.vars∧i≤j∧j≤w.length)):rnds g w M k v i j=0:=by
 cases k with
 | zero=>rfl
 | succ k=>show rnd g w M _ v i j=0;unfold rnd;rw[if_neg h]
theorem ZnD {f g:Nat→Nat} {n k:Nat} (hk:k < n) (h:∀ x,x < n→f x≤g x) (hl:f k < g k):sumN n f < sumN n g:=by
 induction n with
 | zero=>omega
 | succ n ih =>
  simp only[sumN]
  by_cases e:k=n
  ·subst e
   have:=ZdY (f:=f) (g:=g) (n:=k) (fun x hx=>h x (by omega))
   omega
  ·have:=ih (by omega) (fun x hx=>h x (by omega))
   have:=h n (by omega)
   omega
theorem Zo1 {g:Gram} {w:List Int} {M k:Nat} (h:rnds g w M (k+1)≠rnds g w M k):Zqr g w (rnds g w M k) < Zqr g w (rnds g w M (k+1)):=by
 have hup:=ZrU (g:=g) (w:=w) (M:=M) k
 have:∃ v i j,rnds g w M k v i j≠rnds g w M (k+1) v i j:=Classical.byContradiction fun hn=>h (by
  funext v i j
  exact Classical.byContradiction fun hne=>hn ⟨v,i,j,fun e=>hne e.symm⟩)
 obtain⟨v,i,j,hne⟩:=this
 have hlt:rnds g w M k v i j < rnds g w M (k+1) v i j:=by have:=hup v i j;omega
 have hin:(v:Int) < g.vars∧i≤j∧j≤w.length:=Classical.byContradiction fun hn=>by
  rw[ZfJ hn,ZfJ hn] at hlt;omega
 unfold Zqr
 refine ZnD (k:=v) (by omega) (fun x _=>ZdY fun y _=>ZdY fun z _=>hup x y z) ?_
 refine ZnD (k:=i) (by omega) (fun y _=>ZdY fun z _=>hup v y z) ?_
 exact ZnD (k:=j) (by omega) (fun z _=>hup v i z) hlt
theorem ZhN {g:Gram} {w:List Int} {M k:Nat} (h:rnds g w M (k+1)=rnds g w M k):∀ m,rnds g w M (k+m)=rnds g w M k
 | 0=>rfl
 | m+1=>by
  show rnd g w M (rnds g w M (k+m))=_
  rw[ZhN h m];exact h
theorem Zjs {g:Gram} {w:List Int} {M:Nat}:∀ k,rnds g w M (k+1)≠rnds g w M k→k < Zqr g w (rnds g w M (k+1))
 | 0,h=>by have:=Zo1 h;omega
 | k+1,h=>by
  have h1:rnds g w M (k+1)≠rnds g w M k:=fun e=>h (by
   show rnd g w M (rnds g w M (k+1))=rnd g w M (rnds g w M k)
   rw[e])
  have:=Zjs k h1
  have:=Zo1 h
  omega
theorem ZrW {g:Gram} {w:List Int} {M k:Nat} (h:rnds g w M (k+1)≠rnds g w M k):k < many g w M :=
 Nat.lt_of_lt_of_le (Zjs k h) (ZuO (fun v i j=>ZrV (k+1) v i j))
theorem Zo2 (g:Gram) (w:List Int) (M:Nat):rnd g w M (wcns g w M)=wcns g w M:=Classical.byContradiction fun h=>by
 have:=ZrW (g:=g) (w:=w) (M:=M) (k:=many g w M) h
 omega
theorem ZuP {g:Gram} {w:List Int} {M k:Nat} (h:rnds g w M (k+1)=rnds g w M k):rnds g w M k=wcns g w M:=by
 unfold wcns
 by_cases hk:k≤many g w M
 ·have:=ZhN h (many g w M - k)
  rw[show k+(many g w M - k)=many g w M by omega] at this
  exact this.symm
 ·have:=ZhN (g:=g) (w:=w) (M:=M) (k:=many g w M) (Zo2 g w M) (k - many g w M)
  rw[show many g w M+(k - many g w M)=k by omega] at this
  exact this
theorem Zgp (g:Gram) (w:List Int) (M v i j:Nat):wcns g w M v i j≤M:=ZrV _ v i j
theorem ZrX {g:Gram} {w:List Int} {M v i j:Nat} (h1:(v:Int) < g.vars) (h2:i≤j) (h3:j≤w.length):wcns g w M v i j=min M (allR g (wcns g w M) w v i j):=by
 conv=>lhs;rw[←Zo2]
 unfold rnd;rw[if_pos ⟨h1,h2,h3⟩]
set_option maxRecDepth 100000
def uD (x:Int):D:=.raw (.int .u64 x)
abbrev U (x:Nat):V:=.d (uD (x:Int))
def hasN (s:Nat) (v:Int):Bool:=decide (0≤v) && (decide (v < 64) && s.testBit v.toNat)
def Zi4 (s:Nat) (v:Int):Nat:=if 0≤v∧v < 64 then s ||| (1 <<< v.toNat) else s
theorem ZwG (s k:Nat):decide (s >>> k &&& 1=1)=s.testBit k:=by
 rw[Nat.testBit,Nat.and_comm 1,Nat.and_one_is_mod]
 rcases Nat.mod_two_eq_zero_or_one (s >>> k) with h|h <;> rw[h] <;> rfl
theorem ZhO {s:Nat} {v:Int} (hs:s < 18446744073709551616:=by exact Vm):ACalls Tryz.prog 88 [U s,I v] [] (B (hasN s v)) []:=by
 refine ACalls.intro (n:=18) Tryz.func88 rfl rfl (by simp) (by rfl) ?_
 simp only[Zal]
 by_cases h1:0≤v
 ·by_cases h2:v < 64
  ·obtain⟨k,rfl⟩:∃ k:Nat,v=(k:Int):=⟨v.toNat,by omega⟩
   have e:hasN s k=s.testBit k:=by simp only[hasN,decide_eq_true h1,decide_eq_true h2,Bool.true_and,Int.toNat_natCast]
   have e2:s.testBit k=decide (andU (shrU s k) 1=1):=by
    rw[←ZwG];exact decide_eq_decide.2 (by rw[show andU (shrU s k) 1=((s >>> k &&& 1:Nat):Int) from rfl];omega)
   rw[e,e2]
   refine VA ?_
   refine gOp ?_
   refine gBin ?_
   refine ZyX (h1:=?_) (h2:=?_) (h3:=?_) (h4:=?_) (hr:=?_)
   ·exact Int.natCast_nonneg _
   ·have:=Nat.shiftRight_le s k
    rw[show shrU s k=((s >>> k:Nat):Int) from rfl]
    omega
   ·omega
   ·omega
   refine VA ?_
   exact fin
  ·rw[show hasN s v=false by simp[hasN];omega]
   refine VA ?_
   exact fin
 ·rw[show hasN s v=false by simp[hasN];omega]
  refine VA ?_
  exact fin
theorem Zhp {s:Nat} {v:Int} (hs:s < 18446744073709551616:=by exact Vm):ACalls Tryz.prog 170 [U s,I v] [] (U (Zi4 s v)) []:=by
 refine ACalls.intro (n:=16) Tryz.func170 rfl rfl (by simp) (by rfl) ?_
 simp only[Zal]
 by_cases h1:v < 0
 ·rw[show Zi4 s v=s by rw[Zi4,if_neg (by omega)]]
  refine VA ?_
  exact fin
 ·by_cases h2:v > 63
  ·rw[show Zi4 s v=s by rw[Zi4,if_neg (by omega)]]
   refine VA ?_
   exact fin
  ·obtain⟨k,rfl⟩:∃ k:Nat,v=(k:Int):=⟨v.toNat,by omega⟩
   have e:Zi4 s k=((s:Int).toNat ||| (shlU 1 k).toNat):=by rw[Zi4,if_pos (by omega)];rfl
   rw[show U (Zi4 s k)=V.d (.raw (.int .u64 (orU s (shlU 1 k)))) by rw[e];rfl]
   clear e
   refine VA ?_
   refine gOp ?_
   refine gBin ?_
   refine d_or (h1:=?_) (h2:=?_) (h3:=?_) (h4:=?_) (hr:=?_)
   ·omega
   ·omega
   ·exact Int.natCast_nonneg _
   ·have hb:(1 <<< k:Nat) < 18446744073709551616:=by
     rw[Nat.one_shiftLeft]
     exact Nat.lt_of_lt_of_le (Nat.pow_lt_pow_right (a:=2) (n:=64) (by decide) (by omega)) (by decide)
    rw[show shlU 1 (k:Int)=((1 <<< k:Nat):Int) from rfl]
    omega
   refine VA ?_
   exact fin
def ZdZ (s n:Nat):List Int:=((List.range n).filter (fun k=>s.testBit k)).map (fun (k:Nat)=>(k:Int))
theorem ZdJ (s n:Nat):ZdZ s (n+1)=ZdZ s n++(if s.testBit n=true then [(n:Int)] else []):=by
 unfold ZdZ
 rw[List.range_succ,List.filter_append,List.map_append]
 congr 1
 by_cases h:s.testBit n=true <;> simp[h]
theorem ZuQ (s n:Nat):(ZdZ s n).length≤n:=by
 unfold ZdZ
 rw[List.length_map]
 exact Nat.le_trans (List.length_filter_le _ _) (by simp)
theorem ZuR {s:Nat} (hs:s < 18446744073709551616:=by exact Vm):ACalls Tryz.prog 90 [U s] [] (.own 900 (ZdZ s 64).length) [(900,.row 3 1 ((ZdZ s 64).map iD))]:=by
 refine ACalls.intro (n:=17) Tryz.func90 rfl rfl (by simp) (by rfl) ?_
 simp only[Zal]
 refine VA ?_
 refine Zbi 3 900 3 1 rfl rfl rfl ?_
 refine Zak (X:=Nat) (fun k=>k≤64) (fun k=>[(5,I k),(0,U s),(3,.own 900 (ZdZ s k).length)]) (fun k=>[(900,.row 3 1 ((ZdZ s k).map iD))]) (fun k=>64 - k) 0 (Nat.zero_le _) ?_
 intro k hk
 have hl:=ZuQ s k
 by_cases hlt:(k:Int) < 64
 ·have e:=ZdJ s k
  have eh:hasN s k=s.testBit k:=by simp only[hasN,decide_eq_true hlt,Bool.true_and,Int.toNat_natCast];rw[decide_eq_true (by omega)];rfl
  have h1:=ZhO (s:=s) (v:=k) hs
  rw[eh] at h1
  refine VA ?_
  refine Zab [] (hA:=h1) (hr:=?_)
  cases hb:s.testBit k with
  | true =>
   rw[hb,if_pos rfl] at e
   refine VA ?_
   exact Zae (k+1)
  | false =>
   rw[hb,if_neg (by decide),List.append_nil] at e
   refine VA ?_
   exact Zae (k+1)
 ·obtain rfl:k=64:=by omega
  refine VA ?_
  exact fin
set_option maxRecDepth 100000
theorem Zhq {is:List Bool} (h:is.length≤64) (v:Int):hasN (setN is) v=has is v:=by
 unfold hasN has
 rw[ZbM]
 by_cases h1:v < 64
 ·simp[h1]
 ·rw[decide_eq_false h1,Bool.false_and,Bool.and_false,List.getD_eq_getElem?_getD,List.getElem?_eq_none (by omega)]
  simp
theorem ZfK {is:List Bool} (h:is.length≤64) {v:Int} (h0:0≤v) (h1:v < is.length):Zi4 (setN is) v=setN (put is v):=by
 rw[Zi4,if_pos (by omega),put,Zvg (by omega)]
def Za2 (is:List Bool):List Int:=((List.range is.length).filter (fun k=>is.getD k false)).map (fun (k:Nat)=>(k:Int))
theorem ZcX (is:List Bool):(Za2 is).length≤is.length:=by
 unfold Za2
 rw[List.length_map]
 exact Nat.le_trans (List.length_filter_le _ _) (by simp)
theorem ZlK {is:List Bool}:∀ {n:Nat},is.length≤n→ZdZ (setN is) n=Za2 is:=by
 intro n hn
 obtain⟨d,rfl⟩:∃ d,n=is.length+d:=⟨n - is.length,by omega⟩
 clear hn
 induction d with
 | zero=>simp only[ZdZ,Za2,ZbM,Nat.add_zero]
 | succ d ih =>
  rw[←Nat.add_assoc,ZdJ,ih,ZbM,List.getD_eq_getElem?_getD,List.getElem?_eq_none (by omega),if_neg (by simp),List.append_nil]
abbrev ZyM (t:Bool) (is:List Bool):D:=.sl t 1 (is.map bD)
def badS (t:Bool) (is:List Bool) (x:Int):Bool:=(decide (x < 0) && !t) || (decide (0≤x) && !has is x)
theorem ZuS (t:Bool) (r:Rule) (is:List Bool):Zcn (asks t r) is=!(r.right.any (badS t is)):=by
 rw[Bool.eq_iff_iff]
 simp only[Zcn,Bool.not_eq_true',List.any_eq_false,List.all_eq_true]
 cases t with
 | false =>
  simp only[asks,cond_false]
  refine forall_congr' fun x=>forall_congr' fun _=>?_
  by_cases h:0≤x
  ·simp[badS,h]
  ·have:has is x=false:=by simp[has,h]
   simp[badS,this]
 | true =>
  simp only[asks,cond_true]
  constructor
  ·intro h x hx
   by_cases h0:0≤x
   ·simp[badS,h x (by simp[kids,hx,h0])]
   ·simp[badS,h0]
  ·intro h x hx
   have h0:=Zd1 x hx
   have:=h x (ZkG hx)
   simpa[badS,h0] using this
abbrev setBox (is:List Bool):Ob:=.box 118 [.d (uD (setN is:Nat))]
abbrev Zfd (b:Bool):Ob:=.box 4 [.d (bD b)]
theorem Zqs {t:Bool} {is:List Bool} {x:Int} (hl:is.length≤64) :
  ACalls Tryz.prog 214 [I x,.ptr 1000 0,.ptr 1001 0] [(1000,Zfd t),(1001,setBox is)] (B (badS t is x)) [(1000,Zfd t),(1001,setBox is)]:=by
 refine ACalls.intro (n:=21) Tryz.func214 rfl rfl (by simp) (by rfl) ?_
 simp only[Zal]
 have hs:=Zcq hl
 have h1:=ZhO (s:=setN is) (v:=x) hs
 rw[Zhq hl] at h1
 by_cases h0:0≤x
 ·have hx:decide (x < 0)=false:=decide_eq_false (by omega)
  have eb:badS t is x=!has is x:=by simp[badS,h0,hx]
  rw[eb]
  repeat (first|refine wk ?_)
  refine Zab [] (hA:=h1) (hr:=?_)
  repeat (first|refine wk ?_)
  exact fin
 ·cases t with
  | false =>
   rw[show badS false is x=true by simp[badS];omega]
   repeat (first|refine wkz ?_|refine Zaa (hr:=?_))
   exact fin
  | true =>
   rw[show badS true is x=false by simp[badS];omega]
   repeat (first|refine wk ?_)
   exact fin
theorem ZlL {t u:Bool} {r:Rule} {is:List Bool} (hl:is.length≤64:=by exact Vm) (hr:r.right.length≤100000000:=by exact Vm) :
  ACalls Tryz.prog 169 [.d (ZaR t r),U (setN is),B u] [] (B (Zcn (asks u r) is)) []:=by
 refine ACalls.intro (n:=12) Tryz.func169 rfl rfl (by simp) (by rfl) ?_
 simp only[Zal]
 rw[ZuS]
 repeat (first|refine wk ?_)
 refine Zab [(1000,5),(1001,4)] (hA:=Zbx (t:=t) (clos:=214) (caps:=[.ptr 1000 0,.ptr 1001 0]) (H:=[(1000,Zfd u),(1001,setBox is)]) (p:=badS u is) ⟨rfl,rfl,rfl,⟨rfl,rfl,trivial⟩⟩ (fun x _=>Zqs hl)) (hr:=?_)
 repeat (first|refine wk ?_)
 exact fin
set_option maxRecDepth 100000
theorem ZwH {t:Bool} {rs:List Rule} {i:Nat} {is:List Bool} (h:i < rs.length):pass t (rs.drop i) is=pass t (rs.drop (i+1)) (one1 t rs[i] is):=by
 rw[List.drop_eq_getElem_cons h,pass]
theorem ZuT {t:Bool} {rs:List Rule} {i:Nat} {is:List Bool} (h:¬ i < rs.length):pass t (rs.drop i) is=is:=by
 rw[List.drop_of_length_le (by omega),pass]
abbrev Zfe (t:Bool) (r:Rule):Ob:=.box 68 [.d (iD r.left),.d (ints t r.right)]
theorem Zqt {t u:Bool} {g:Gram} (hg:g.ok) {is:List Bool} (hl:is.length=g.vars.toNat) :
  ACalls Tryz.prog 172 [U (setN is),.ptr 1000 0,.ptr 1001 0] [(1000,Zay t g),(1001,Zfd u)] (U (setN (pass u g.rules is))) [(1000,Zay t g),(1001,Zfd u)]:=by
 refine ACalls.intro (n:=24) Tryz.func172 rfl rfl (by simp) (by rfl) ?_
 simp only[Zal]
 have hv:=hg.vars
 have hlen:=hg.rules
 repeat (first|refine wk ?_)
 refine Zak (X:=Nat×List Bool) (fun x=>x.1≤g.rules.length∧pass u g.rules is=pass u (g.rules.drop x.1) x.2∧x.2.length=is.length) (fun x=>[(10,I x.1),(9,I g.rules.length),(8,.d (ZaL t g.rules)),(0,U (setN x.2)),(1,.ptr 1000 0),(2,.ptr 1001 0)]) (fun _=>[(1000,Zay t g),(1001,Zfd u)]) (fun x=>g.rules.length - x.1) (0,is) ⟨Nat.zero_le _,rfl,rfl⟩ ?_
 rintro⟨i,js⟩ ⟨h1,h2,h3⟩
 dsimp only at h1 h2 h3 ⊢
 by_cases hlt:i < g.rules.length
 ·have hmem:=List.getElem_mem hlt
  have a1:=hg.left0 _ hmem
  have a2:=hg.left _ hmem
  have a3:=hg.right _ hmem
  have hp:=ZwH (t:=u) (is:=js) hlt
  have hl64:js.length≤64:=by omega
  have hlt64:=Zcq hl64
  have hw:=Zhp (s:=setN js) (v:=g.rules[i].left) hlt64
  rw[ZfK hl64 a1 (by omega)] at hw
  repeat (first|refine wk ?_)
  refine Zab [] (hA:=ZlL (t:=t) (r:=g.rules[i])) (hr:=?_)
  cases hc:Zcn (asks u g.rules[i]) js with
  | true =>
   have ho:one1 u g.rules[i] js=put js g.rules[i].left:=by rw[one1,hc];rfl
   rw[ho] at hp
   repeat (first|refine wk ?_)
   refine Zab [] (hA:=hw) (hr:=?_)
   repeat (first|refine wk ?_)
   exact Zae (i+1,put js g.rules[i].left) (a:=⟨by omega,h2.trans hp,by rw[ZbN];exact h3⟩) (b:=by dsimp only;omega)
  | false =>
   have ho:one1 u g.rules[i] js=js:=by rw[one1,hc];rfl
   rw[ho] at hp
   repeat (first|refine wk ?_)
   exact Zae (i+1,js) (a:=⟨by omega,h2.trans hp,h3⟩) (b:=by dsimp only;omega)
 ·rw[h2,ZuT hlt]
  repeat (first|refine wk ?_)
  exact fin
theorem Zo3 {clos:Nat} {caps:List V} {H:Hp} {f:List Bool→List Bool} {is:List Bool} (hC:Clo H caps) (hs:∀ x,Sub x (f x)) (hl:is.length≤64)
  (hc:∀ x:List Bool,x.length=is.length→ACalls Tryz.prog clos (U (setN x)::caps) H (U (setN (f x))) H) :
  ACalls Tryz.prog 171 [U (setN is),.fn (.func clos) [] caps] H (U (setN (full f is))) H:=by
 refine ACalls.intro (n:=17) Tryz.func171 rfl rfl (by simp) (by rfl) ?_
 simp only[Zal]
 have h1:=hC.self
 have h2:=hC.inn
 have h3:=hC.caps
 repeat (first|refine wk ?_)
 refine Zkg hC (hA:=hc is rfl) (hr:=?_)
 repeat (first|refine wk ?_)
 refine Zak (X:=List Bool) (fun x=>x.length=is.length∧full f is=full f x) (fun x=>[(5,U (setN (f x))),(0,U (setN x)),(1,.fn (.func clos) [] caps)]) (fun _=>H) (fun x=>is.length - cntB x) is ⟨rfl,rfl⟩ ?_
 rintro x ⟨hx,hf⟩
 have hfl:=(hs x).len
 by_cases e:f x=x
 ·have e1:(setN (f x):Int)=(setN x:Int):=by rw[e]
  rw[hf,Zvh e]
  repeat (first|refine wk ?_)
  exact fin
 ·have e1:¬ ((setN (f x):Int)=(setN x:Int)):=fun h=>e (Zvf hfl.symm (by omega))
  have hgr:=(hs x).grows (Ne.symm e)
  have hle:=ZnR (f x)
  repeat (first|refine wk ?_)
  refine Zkg hC (hA:=hc (f x) (by omega)) (hr:=?_)
  repeat (first|refine wk ?_)
  exact Zae (f x) (a:=⟨by omega,by rw[hf,ZsK hs]⟩) (b:=by omega)
theorem ZhP {t u:Bool} {g:Gram} (hg:g.ok):ACalls Tryz.prog 89 [.d (Za6 t g),B u] [] (U (setN (ZaT u g))) []:=by
 refine ACalls.intro (n:=7) Tryz.func89 rfl rfl (by simp) (by rfl) ?_
 simp only[Zal]
 have hv:=hg.vars
 have h:=Zo3 (clos:=172) (caps:=[.ptr 1000 0,.ptr 1001 0]) (H:=[(1000,Zay t g),(1001,Zfd u)]) (f:=pass u g.rules) (is:=Zd0 g) ⟨rfl,rfl,rfl,⟨rfl,rfl,trivial⟩⟩ (ZfM hg.left0) (by rw[Zbb];omega) (fun x hx=>Zqt hg (by rw[hx,Zbb]))
 rw[show setN (Zd0 g)=0 from Zhu _] at h
 repeat (first|refine wk ?_)
 refine Zab [(1000,2),(1001,3)] (hA:=h) (hr:=?_)
 repeat (first|refine wk ?_)
 exact fin
def ZrY (g:Gram):List Int:=if (Zac g).code=0 then Za2 (ZaT false g) else []
def ZnE (g:Gram):List Int:=if (Zac g).code=0 then Za2 (ZaT true g) else []
theorem Zkr {is:List Bool} (h:is.length≤64):ACalls Tryz.prog 90 [U (setN is)] [] (.own 900 (Za2 is).length) [(900,.row 3 1 ((Za2 is).map iD))]:=by
 have:=ZuR (s:=setN is) (Zcq h)
 rwa [ZlK h] at this
theorem ZlM {t:Bool} {g:Gram} (hf:g.fit):ACalls Tryz.prog 53 [.d (Za6 t g)] [] (.tup [.d (ints false (ZrY g)),.d (Zba (Zac g))]) []:=by
 refine ACalls.intro (n:=15) Tryz.func53 rfl rfl (by simp) (by rfl) ?_
 simp only[Zal]
 have hl:=hf.rules
 have hr:=hf.right
 repeat (first|refine wk ?_)
 refine Zab [] (hA:=ZaM) (hr:=?_)
 by_cases h0:(Zac g).code=0
 ·have hg:=Za1 h0
  have hz:=ZdM h0
  have hv:=hg.vars
  have hll:=Zcd (t:=false) hg
  rw[ZrY,if_pos h0,hz]
  repeat (first|refine wk ?_)
  refine Zab [] (hA:=ZhP (u:=false) hg) (hr:=?_)
  repeat (first|refine wk ?_)
  refine Zab [] (hA:=Zkr (is:=ZaT false g) (by omega)) (hr:=?_)
  repeat (first|refine wkr ?_|refine Zaa (hr:=?_))
  refine Zav 900 rfl ?_
  repeat (first|refine wk ?_)
  exact fin
 ·rw[ZrY,if_neg h0]
  repeat (first|refine wk ?_)
  exact fin
theorem Zi5 {t:Bool} {g:Gram} (hf:g.fit):ACalls Tryz.prog 112 [.d (Za6 t g)] [] (.tup [.d (ints false (ZnE g)),.d (Zba (Zac g))]) []:=by
 refine ACalls.intro (n:=15) Tryz.func112 rfl rfl (by simp) (by rfl) ?_
 simp only[Zal]
 have hl:=hf.rules
 have hr:=hf.right
 repeat (first|refine wk ?_)
 refine Zab [] (hA:=ZaM) (hr:=?_)
 by_cases h0:(Zac g).code=0
 ·have hg:=Za1 h0
  have hz:=ZdM h0
  have hv:=hg.vars
  have hll:=Zcd (t:=true) hg
  rw[ZnE,if_pos h0,hz]
  repeat (first|refine wk ?_)
  refine Zab [] (hA:=ZhP (u:=true) hg) (hr:=?_)
  repeat (first|refine wk ?_)
  refine Zab [] (hA:=Zkr (is:=ZaT true g) (by omega)) (hr:=?_)
  repeat (first|refine wkr ?_|refine Zaa (hr:=?_))
  refine Zav 900 rfl ?_
  repeat (first|refine wk ?_)
  exact fin
 ·rw[ZnE,if_neg h0]
  repeat (first|refine wk ?_)
  exact fin
set_option maxRecDepth 100000
end Go.Proofs.YtbpmepgnjanhnaaGreat
