import Derived.Test.YtbpmepgnjanhnaaGreatQFoG
set_option linter.unusedVariables false
set_option linter.unusedSimpArgs false
set_option linter.unusedSectionVars false
set_option maxHeartbeats 4000000
set_option maxRecDepth 100000
namespace Go.Proofs.YtbpmepgnjanhnaaGreat
open Go.RowKit
def ZsU (g:Ac) (w:List Int):Bool:=Zhv g || decide (300 < w.length) || (decide (w.length≤12) && decide (7 < w.length) && decide (40 < g.Aa.length)) || (decide (w.length≤12) && decide (5 < w.length) && decide (100 < g.Aa.length))
theorem Zpm {t u:Bool} {g:Ac} {w:List Int} (hf:g.fit) (hw:w.length≤100000000):Af Tryz.prog 17 [.d (Zbr t g),.d (ints u w)] [] (B (ZsU g w)) []:=by
 have hgg:=Znt (t:=t) (g:=g) hf.Aa hf.right;have hrl:=hf.Aa;unfold ZsU;refine Af.intro (n:=44) Tryz.func17 (hw:=?_);simp only[Zal];refine VA ?_;refine Zab [] (hA:=hgg) (hr:=?_);cases Zhv g with
 | true =>
  simp only[Bool.true_or]
  ((repeat (first|refine wkz ?_|refine Zaa (hr:=?_)));(repeat (first|refine wk ?_|refine Zaa (hr:=?_)));(repeat (first|refine wkz ?_|refine Zaa (hr:=?_)));exact fin)
 | false =>
  by_cases h1:300 < w.length
  ·rw[Hu h1];simp only[Bool.or_true,Bool.true_or]
   ((repeat (first|refine wkz ?_|refine Zaa (hr:=?_)));(repeat (first|refine wk ?_|refine Zaa (hr:=?_)));(repeat (first|refine wkz ?_|refine Zaa (hr:=?_)));exact fin)
  ·rw[HC h1];by_cases h2:w.length≤12
   ·rw[Hu h2];by_cases h3:7 < w.length
    ·have h3b:5 < w.length:=(by omega);rw[Hu h3,Hu h3b];by_cases h4:40 < g.Aa.length
     ·rw[Hu h4];simp only[H5,Bool.or_true,Bool.true_or,GD]
      ((repeat (first|refine wkz ?_|refine Zaa (hr:=?_)));(repeat (first|refine wk ?_|refine Zaa (hr:=?_)));(repeat (first|refine wkz ?_|refine Zaa (hr:=?_)));exact fin)
     ·have h5:¬ 100 < g.Aa.length:=(by omega);rw[HC h4,HC h5];simp only[H5,G6,Jk]
      ((repeat (first|refine wkz ?_|refine Zaa (hr:=?_)));(repeat (first|refine wk ?_|refine Zaa (hr:=?_)));(repeat (first|refine wkz ?_|refine Zaa (hr:=?_)));exact fin)
    ·rw[HC h3];by_cases h3b:5 < w.length
     ·rw[Hu h3b];by_cases h4:100 < g.Aa.length
      ·rw[Hu h4];simp only[H5,G6,Gz,Jk,GD]
       ((repeat (first|refine wkz ?_|refine Zaa (hr:=?_)));(repeat (first|refine wk ?_|refine Zaa (hr:=?_)));(repeat (first|refine wkz ?_|refine Zaa (hr:=?_)));exact fin)
      ·rw[HC h4];simp only[H5,G6,Gz,Jk,GD]
       ((repeat (first|refine wkz ?_|refine Zaa (hr:=?_)));(repeat (first|refine wk ?_|refine Zaa (hr:=?_)));(repeat (first|refine wkz ?_|refine Zaa (hr:=?_)));exact fin)
     ·rw[HC h3b];simp only[H5,G6,Gz,Jk,GD]
      ((repeat (first|refine wkz ?_|refine Zaa (hr:=?_)));(repeat (first|refine wk ?_|refine Zaa (hr:=?_)));(repeat (first|refine wkz ?_|refine Zaa (hr:=?_)));exact fin)
   ·rw[HC h2];simp only[H5,G6,Gz,Jk,GD]
    ((repeat (first|refine wkz ?_|refine Zaa (hr:=?_)));(repeat (first|refine wk ?_|refine Zaa (hr:=?_)));(repeat (first|refine wkz ?_|refine Zaa (hr:=?_)));exact fin)
def ZDP (g:Ac) (w:List Int) (M k:Nat):Bool:=(List.range g.vars.toNat).all fun v=>(List.range (w.length+1)).all fun i=>(List.range (w.length+1)).all fun j=>decide (rnds g w M (k+1) v i j=rnds g w M k v i j)
theorem ZCn {g:Ac} {w:List Int} {M k:Nat} (h:ZDP g w M k=true):Ak g w M=rnds g w M k:=by
 refine (Zz7 ?_).symm;funext v i j;by_cases hin:(v:Int) < g.vars∧i≤j∧j≤w.length
 ·simp only[ZDP,HR,Jc,HZ] at h;exact h v (by omega) i (by omega) j (by omega)
 ·rw[ZhF hin,ZhF hin]
theorem Zz2 {g:Ac}:(Zev g).1.fit:=by
 rcases ZgY g with ⟨_,h⟩|⟨nl,S,hg,hc,hn,hA,e⟩
 ·rw[h];exact⟨⟨by decide,fun r hr=>by simp[Ag] at hr⟩,by decide,fun l hl=>by simp[Ag] at hl,by simp[Ag,cnts]⟩
 ·rw[e];have hS:=ZhM hg hc hn hA;obtain⟨h1,h2⟩:=ZgJ hn;have hst:=hg.start;have hsn:=hg.stN;obtain⟨q1,q2⟩:=h2 (stN g) (by omega);refine⟨(hS.ok hg).fit,?_,fun l hl=>Hq (hS.small l hl) (by decide),?_⟩
  ·have:=hS.parts.len;have:=hS.Aa;show S.frags.length≤_;omega
  ·show cnts (nl.getD (stN g) [])≤_;rw[q2];have k1:∀ (l:List Tree),(∀ x∈l,cnt x≤400)→cnts l≤400 * l.length:=by
    intro l
    induction l with
    | nil=>intro _;simp[cnts]
    | cons x l ih =>
     intro h;have a1:=h x (by simp);have a2:=ih (fun y hy=>h y (by simp[hy]));simp only[cnts,Hl,Jj];omega
   have k2:=k1 _ (fun x hx=>((Zbg q1).mem hx).2);have k3:=(Zbg q1).len;have k4:=(Zbg q1).few;have k5:400 * (Zaw (stG g (stN g)) []).1.length≤400 * 200:=Ji _ (by omega);omega
def ZaC (right:List Int):Int:=if right.length=1 then (if 0≤right.getD 0 0 then right.getD 0 0 else -1) else -1
theorem Zpn (r:List Int) : -1≤ZaC r:=by
 unfold ZaC;split
 ·split <;> omega
 ·omega
theorem Zeb {g:Ac} {v i:Int} (hi:i∈by_ g v) (hu:0≤ZaC (Zaj g i)):ZaC (Zaj g i)∈ZiL g v:=by
 unfold ZiL Zi7 Zuj;refine List.mem_flatMap.2 ⟨i,hi,?_⟩;generalize Zaj g i=r at *;unfold ZaC at hu ⊢;by_cases h1:r.length=1
 ·rw[Hb h1] at hu ⊢;by_cases h0:0≤r.getD 0 0
  ·rw[Hb h0];unfold ZbZ;refine picks_mem.2 ⟨0,by omega,?_,rfl⟩;unfold ZdQ;have hd:r.drop (0+1)=[]:=HL (by omega);rw[hd,GW,Hu h0];rfl
  ·rw[Ha h0] at hu;omega
 ·rw[Ha h1] at hu;omega
def wys (g:Ac):Nat→Int→List (List Int)
 | 0,_=>[]
 | n+1,v=>(by_ g v).flatMap fun i=>if ZaC (Zaj g i) < 0 then [[i]] else (wys g n (ZaC (Zaj g i))).map (i::·)
def ways (g:Ac) (v:Int):List (List Int):=wys g (rnk g v+1) v
def Zdo (g:Ac) (i:Int):List (List Int):=if ZaC (Zaj g i) < 0 then [[i]] else (ways g (ZaC (Zaj g i))).map (i::·)
section
variable {g:Ac} (hg:g.ok) (hc:cycL g=[])
include hg hc
theorem ZDQ:∀ (n:Nat) (v:Int),0≤v→v < g.vars→rnk g v < n→wys g n v=wys g (rnk g v+1) v:=by
 intro n
 induction n using Nat.strongRecOn with
 | _ n ih =>
 intro v h0 h1 hn;obtain⟨n,rfl⟩:∃ m,n=m+1:=⟨n - 1,by omega⟩
 rw[wys,wys];have key:∀ i∈by_ g v,(if ZaC (Zaj g i) < 0 then [[i]] else (wys g n (ZaC (Zaj g i))).map (i::·))=(if ZaC (Zaj g i) < 0 then [[i]] else (wys g (rnk g v) (ZaC (Zaj g i))).map (i::·)):=fun i hi=>by
  by_cases hu:ZaC (Zaj g i) < 0
  ·rw[Hb hu,Hb hu]
  ·have hs:=Zeb hi (by omega);obtain⟨u0,u1⟩:=ZeM hg h0 h1 hs;have hr:=ZdO hg hc h0 h1 hs;rw[Ha hu,Ha hu,ih n (by omega) _ u0 u1 (by omega)];by_cases he:rnk g v < n+1
   ·rw[ih (rnk g v) (by omega) _ u0 u1 (by omega)]
   ·omega
 rw[List.flatMap_def,List.flatMap_def,GL key]
theorem Zkq {v:Int} (h0:0≤v) (h1:v < g.vars):ways g v=(by_ g v).flatMap (Zdo g):=by
 unfold ways;rw[wys];have key:∀ i∈by_ g v,(if ZaC (Zaj g i) < 0 then [[i]] else (wys g (rnk g v) (ZaC (Zaj g i))).map (i::·))=Zdo g i:=fun i hi=>by
  unfold Zdo ways;by_cases hu:ZaC (Zaj g i) < 0
  ·rw[Hb hu,Hb hu]
  ·have hs:=Zeb hi (by omega);obtain⟨u0,u1⟩:=ZeM hg h0 h1 hs;have hr:=ZdO hg hc h0 h1 hs;rw[Ha hu,Ha hu,ZDQ hg hc (rnk g v) _ u0 u1 hr]
 rw[List.flatMap_def,List.flatMap_def,GL key]
end
def kN (g:Ac) (i:Int):Nat:=(Ab (Zaj g i)).length
def wayF (g:Ac):List Int→List Ad
 | []=>[]
 | [r]=>ZaJ r (kN g r)
 | r::r2::rest=>[.mk 1 r (wayF g (r2::rest))]
def Zdh (w:List Int):Int:=w.getLastD 0
def Zce:List Int→List Ad→List Ad
 | [],l=>l
 | r::p,l=>[.mk 1 r (Zce p l)]
theorem Zmk:∀ (p:List Int) (r:Int) (l:List Ad),Zce (p++[r]) l=Zce p [.mk 1 r l]
 | [],r,l=>rfl
 | a::p,r,l=>by simp only[Hv,Zce,Zmk p r l]
theorem ZwL (g:Ac) (r:Int) {w:List Int} (h:w≠[]):wayF g (r::w)=[.mk 1 r (wayF g w)]:=by
 cases w with
 | nil=>exact absurd rfl h
 | cons a b=>rw[wayF]
theorem Zgn:∀ (p:List Int) (l:List Ad),Aj (Zce p l)=p.length+Aj l
 | [],l=>by simp[Zce]
 | r::p,l=>by simp only[Zce,Aj,fsz,Zgn p l,Hl];omega
theorem Ziw:∀ (k:Nat),Aj (ZaF k)=k
 | 0=>rfl
 | k+1=>by
  unfold ZaF at *;rw[Gn,Ho,Zbw];have:=Ziw k;unfold ZaF at this;rw[this];simp[Aj,fsz]
theorem Zix (r:Int) (k:Nat):Aj (ZaJ r k)=1+k:=by simp[ZaJ,Aj,fsz,Ziw]
theorem ZCo {g:Ac} {i:Int} (hu:0≤ZaC (Zaj g i)):kN g i=1:=by
 unfold kN;generalize Zaj g i=r at *;unfold ZaC at hu;by_cases h1:r.length=1
 ·rw[Hb h1] at hu
  match r,h1 with
  | [x],_ =>
   by_cases h0:0≤x
   ·simp[Ab,h0]
   ·simp[h0] at hu
 ·rw[Ha h1] at hu;omega
theorem ZjD (inn:List Ad) (b:Int):∀ (p:List Int) (r:Int),ptL 0 inn b (Zce p (ZaJ r 1))=Zce (p++[r]) inn
 | [],r=>by
  simp[Zce,ZaJ,ZaF,ptL,ptF,mvN]
 | a::p,r=>by
  simp only[Hv,Zce,ptL,ptF,ZjD inn b p r];simp[mvN]
theorem Zpo (p:List Int) (r k:Int) (n:Nat):ZeL (Zce p (ZaJ r 1)) 0 (ZaJ k n) n=Zce (p++[r]) (ZaJ k n):=by
 unfold ZeL;rw[ZbS,ZjD]
theorem Zml {B:Int}:∀ {a b:List Ad},NbL B a→NbL B b→NbL B (a++b)
 | [],_,_,h=>h
 | x::a,b,h,h2=>⟨h.1,Zml h.2 h2⟩
theorem ZsV {B:Int}:∀ (k:Nat),(k:Int)≤B→NbL B (ZaF k)
 | 0,_=>trivial
 | k+1,h=>by
  have ih:=ZsV (B:=B) k (by omega);unfold ZaF at *;rw[Gn,Ho];refine Zml ih ?_;simp only[Hm,HF,NbL,NbF,HA];omega
theorem ZsW {B r:Int} {k:Nat} (h0:0≤r) (h1:r≤B) (hk:(k:Int)≤B):NbL B (ZaJ r k):=by
 simp only[ZaJ,NbL,NbF,HA];exact⟨by omega,ZsV k hk⟩
theorem ZnD {B:Int} {l:List Ad} (hl:NbL B l):∀ {p:List Int},(∀ x∈p,0≤x∧x≤B)→NbL B (Zce p l)
 | [],_=>hl
 | r::p,h=>by
  have h1:=h r (by simp);simp only[Zce,NbL,NbF,HA];exact⟨by omega,ZnD hl (fun x hx=>h x (by simp[hx]))⟩
theorem ZsX {inn:List Ad} {b:Int} (hi:Aj inn≤1000000):∀ {p:List Int} {r:Int},p.length≤1000000→PtL 0 inn b (Zce p (ZaJ r 1))
 | [],r,_=>by
  have h1:ptL 0 inn b (ZaJ r 1)=[.mk 1 r inn]:=ZjD inn b [] r;have h2:ptL 0 inn b (ZaF 1)=inn:=by simp[ZaF,ptL,ptF]
  have h3:ZaJ r 1=[.mk 1 r (ZaF 1)]:=rfl;simp only[Zce];rw[h3,PtL,←h3,h1];refine⟨?_,trivial,by simp only[Aj,fsz];omega⟩;rw[PtF];refine⟨?_,fun h=>absurd h.1 (by decide)⟩;have h4:ZaF 1=[.mk 2 0 []]:=rfl;rw[h4] at h2 ⊢;rw[PtL,h2];refine⟨?_,trivial,by omega⟩;rw[PtF];exact⟨trivial,fun h=>absurd h.1 (by decide)⟩
 | a::p,r,h=>by
  simp only[Hl] at h;have ih:=ZsX (inn:=inn) (b:=b) hi (p:=p) (r:=r) (by omega);have h1:=ZjD inn b (a::p) r;have hs:=Zgn (p++[r]) inn;simp only[Hk,HS] at hs;simp only[Zce,Hv] at h1 ⊢;rw[PtL,h1];refine⟨?_,trivial,by simp only[Aj,fsz,hs];omega⟩;rw[PtF];exact⟨ih,fun h=>absurd h.1 (by decide)⟩
def cw (g:Ac) (v:Int):Int:=min ((ways g v).length:Int) 161
def GOk (g:Ac) (gv:List Int):Prop:=gv.length=g.vars.toNat∧∀ (k:Nat) (h:k < gv.length),gv[k] = -1∨gv[k]=cw g k
theorem GOk.set {g:Ac} {gv:List Int} (h:GOk g gv) (k:Nat):GOk g (gv.set k (cw g k)):=by
 refine⟨by rw[HJ];exact h.1,fun j hj=>?_⟩;rw[List.getElem_set];split
 ·rename_i e;subst e;exact .inr rfl
 ·exact h.2 j _
def ZgS (g:Ac) (v:Int) (w:List Int):Rule:=⟨v,Zaj g (Zdh w)⟩
theorem ZcU (i:Int) {w:List Int} (h:w≠[]):Zdh (i::w)=Zdh w:=by
 cases w with
 | nil=>exact absurd rfl h
 | cons a b=>simp[Zdh]
theorem ZsY {g:Ac} {i:Int} {w:List Int} (h:w∈Zdo g i):w≠[]:=by
 unfold Zdo at h;split at h
 ·rw[Gw] at h;subst h;simp
 ·obtain⟨x,_,rfl⟩:=List.mem_map.1 h;simp
theorem ZsZ {t:Bool} {l:Int} {right:List Int} (hl:right.length≤100000000):Af Tryz.prog 187 [.d (.agg [iD l,ints t right])] [] (I (ZaC right)) []:=by
 refine Af.intro (n:=12) Tryz.func187 (hw:=?_);simp only[Zal];unfold ZaC;by_cases h1:right.length=1
 ·rw[Hb h1]
  match right,h1 with
  | [x],_ =>
   by_cases h0:0≤x
   ·rw[show (if 0≤[x].getD 0 0 then [x].getD 0 0 else -1)=x from Hb h0];have e:maxI ([x][0]) (-1)=x:=(by show maxI x (-1)=x;unfold maxI;split <;> omega);refine VA ?_;rw[e];exact fin
   ·rw[show (if 0≤[x].getD 0 0 then [x].getD 0 0 else -1) = -1 from Ha h0];have e:maxI ([x][0]) (-1) = -1:=(by show maxI x (-1) = -1;unfold maxI;split <;> omega);refine VA ?_;rw[e];exact fin
 ·rw[Ha h1];refine VA ?_;exact fin
theorem ZuL:∀ (N:Nat) {t:Bool} {l:List Ad},Aj l < N→Aj l≤100000000→Af Tryz.prog 188 [.d (Zah t l)] [] (I (Aj l)) []:=by
 intro N
 induction N with
 | zero=>intro t l h;omega
 | succ N ih =>
 intro t l hn hN;have hl:=Hq (ZbW l) hN;refine Af.intro (n:=21) Tryz.func188 (hw:=?_);simp only[Zal];refine VA ?_;refine Zak (X:=Nat×Nat) (fun x=>x.1≤l.length∧x.2+x.1=l.length+Aj (l.take x.1)) (fun x=>[(10,I x.1),(9,I l.length),(8,.d (Zah t l)),(3,I x.2)]) (fun _=>[]) (fun x=>l.length - x.1) (0,l.length) ⟨Hh _,by simp[Aj]⟩ ?_;rintro⟨i,v⟩ ⟨h1,h2⟩;dsimp only at h1 h2 ⊢;by_cases hlt:i < l.length
 ·have e1:=Zhx hlt;have e3:=Zfj (He hlt);have e2:=Zhw l[i];have e4:Aj l=Aj (l.take (i+1))+Aj (l.drop (i+1)):=ZeU _ _;have e5:(l.take i).length≤Aj (l.take i):=ZbW _;refine VA ?_;refine Zab [] (hA:=ih (t:=t) (l:=l[i].l) (by omega) (by omega)) (hr:=?_);refine VA ?_;exact Zad (i+1,v+Aj l[i].l) (a:=⟨by omega,by dsimp only;omega⟩) (b:=by dsimp only;omega)
 ·rw[H6 (by omega)] at h2;obtain rfl:v=Aj l:=by omega
  refine VA ?_;exact fin
abbrev shH (t:Bool) (g:Ac) (gv:List Int) (R:List Rule) (F:List (List Ad)):Hp :=
 [(1000,.box 166 [I g.vars,I g.terms,I g.start,.d (ZaS t g.Aa),.own 1001 g.vars.toNat,I g.vars,I g.terms,I g.start,.own 1002 R.length,.own 1003 F.length,.d (.raw (.slice none 0 0))]),(1001,.row 3 1 (gv.map iD)),(1002,.row 68 2 (R.map (Za3 false))),(1003,.row 75 1 (F.map (Zah false)))]
def cwp (g:Ac) (bl:List Int) (i:Nat):Int:=min ((((bl.take i).flatMap (Zdo g)).length:Nat):Int) 161
theorem Zz3 {g:Ac} {bl:List Int} {i:Nat} (h:i < bl.length):cwp g bl (i+1)=minI (cwp g bl i+min ((Zdo g bl[i]).length:Int) 161) 161:=by
 unfold cwp minI;rw[HD h,JL,Hk];simp only[HP,List.flatMap_nil,Ht];split <;> omega
theorem ZwM {g:Ac} {i:Int}:min ((Zdo g i).length:Int) 161=if ZaC (Zaj g i) < 0 then 1 else cw g (ZaC (Zaj g i)):=by
 unfold Zdo cw;by_cases h:ZaC (Zaj g i) < 0
 ·rw[Hb h,Hb h];rfl
 ·rw[Ha h,Ha h,Hi]
theorem ZwN (g:Ac) (bl:List Int) (i:Nat):0≤cwp g bl i∧cwp g bl i≤161:=by unfold cwp;omega
theorem ZnE (g:Ac) (v:Int):0≤cw g v∧cw g v≤161:=by unfold cw;omega
def cntM (g:Ac):Nat→Nat→List Int→List Int
 | 0,_,gv=>gv
 | n+1,v,gv=>if 0≤gv.getD v 0 then gv else ((by_ g v).foldl (fun gw i=>if ZaC (Zaj g i) < 0 then gw else cntM g n (ZaC (Zaj g i)).toNat gw) gv).set v (cw g v)
def cntS (g:Ac) (n:Nat) (gw:List Int) (i:Int):List Int:=if ZaC (Zaj g i) < 0 then gw else cntM g n (ZaC (Zaj g i)).toNat gw
theorem ZwO (g:Ac) (n v:Nat) (gv:List Int):cntM g (n+1) v gv=if 0≤gv.getD v 0 then gv else ((by_ g v).foldl (cntS g n) gv).set v (cw g v):=by rw[cntM];rfl
theorem ZnF {g:Ac} {f:List Int→Int→List Int} (h:∀ gw i,GOk g gw→GOk g (f gw i)):∀ (l:List Int) (gv:List Int),GOk g gv→GOk g (l.foldl f gv)
 | [],_,hg=>hg
 | x::l,gv,hg=>ZnF h l _ (h _ x hg)
theorem Ziy {g:Ac}:∀ (n v:Nat) (gv:List Int),GOk g gv→GOk g (cntM g n v gv)
 | 0,_,_,h=>by rw[cntM];exact h
 | n+1,v,gv,h=>by
  rw[ZwO];split
  ·exact h
  ·exact (ZnF (fun gw i hw=>by unfold cntS;split;exact hw;exact Ziy n _ _ hw) _ _ h).set v
theorem ZCp {g:Ac} {n:Nat} {gw:List Int} {i:Int} (h:GOk g gw):GOk g (cntS g n gw i):=by
 unfold cntS;split
 ·exact h
 ·exact Ziy _ _ _ h
theorem ZuM {f:List Int→Int→List Int} {l:List Int} {gv:List Int} {i:Nat} (h:i < l.length):(l.take (i+1)).foldl f gv=f ((l.take i).foldl f gv) l[i]:=by
 rw[HD h,List.foldl_append];rfl
theorem ZwP (g:Ac) (v:Int):(by_ g v).length≤g.Aa.length:=by
 have key:∀ (v:Int) (rs:List Rule) (i:Nat),(byR rs v i).length≤rs.length:=fun v rs=>by
  induction rs with
  | nil=>intro i;simp[byR]
  | cons r rs ih=>intro i;have:=ih (i+1);rw[byR];split <;> simp <;> omega
 exact key v g.Aa 0
theorem Zpp {g:Ac} (hg:g.ok) (hc:cycL g=[]) {t:Bool} {R:List Rule} {F:List (List Ad)}:∀ (n:Nat) (v:Nat) (gv:List Int),rnk g v < n→(v:Int) < g.vars→GOk g gv →
  Af Tryz.prog 123 [.ptr 1000 0,I v] (shH t g gv R F) (I (cw g v)) (shH t g (cntM g n v gv) R F):=by
 intro n
 induction n with
 | zero=>intro v gv h;omega
 | succ n ih =>
 intro v gv hn hv hgv;have hvl:=hgv.1;have hvv:=hg.vars;have hlt:v < gv.length:=by omega
 have hgd:gv.getD v 0=gv[v]:=by simp[Hf,hlt]
 rw[ZwO,hgd];by_cases hpos:0≤gv[v]
 ·have hval:gv[v]=cw g v:=by
   rcases hgv.2 v hlt with h|h
   ·omega
   ·exact h
  rw[Hb hpos,←hval];refine Af.intro (n:=63) Tryz.func123 (hw:=?_);simp only[Zal];refine VA ?_;exact fin
 ·rw[Ha hpos];have hby:=Zmd (t:=t) (g:=g) (v:=(v:Int)) (by have:=hg.Aa;omega);have hw:=Zkq hg hc (v:=(v:Int)) (by omega) hv;have hbll:=ZwP g v;have hrl:=hg.Aa;have hin:∀ i (h:i < (by_ g v).length),∃ k,∃ hk:k < g.Aa.length,(by_ g v)[i]=(k:Int)∧(by_ g v)[i]∈by_ g v:=fun i h=>by
   obtain⟨k,hk,e1,e2⟩:=by_mem.1 (He h);exact⟨k,hk,e1,He h⟩
  have step:∀ i (h:i < (by_ g v).length) (gw:List Int),GOk g gw→ZaC (Zaj g (by_ g v)[i]) < 0∨∃ u:Nat,ZaC (Zaj g (by_ g v)[i])=(u:Int)∧Af Tryz.prog 123 [.ptr 1000 0,I u] (shH t g gw R F) (I (cw g u)) (shH t g (cntM g n u gw) R F):=fun i h gw hgw=>by
   by_cases hu:ZaC (Zaj g (by_ g v)[i]) < 0
   ·exact .inl hu
   ·obtain⟨k,hk,e1,hm⟩:=hin i h;have hs:=Zeb hm (by omega);obtain⟨u0,u1⟩:=ZeM hg (by omega) hv hs;have hr:=ZdO hg hc (by omega) hv hs;obtain⟨u,hu2⟩:∃ u:Nat,ZaC (Zaj g (by_ g v)[i])=(u:Int):=⟨(ZaC (Zaj g (by_ g v)[i])).toNat,by omega⟩
    rw[hu2] at hr u1;exact .inr ⟨u,hu2,ih u gw (by omega) u1 hgw⟩
  have hend:cwp g (by_ g v) (by_ g v).length=cw g v:=by unfold cwp cw;rw[hw,HO]
  generalize by_ g v=bl at *;refine Af.intro (n:=63) Tryz.func123 (hw:=?_);simp only[Zal];refine VA ?_;refine Zab [] (hA:=hby) (hr:=?_);refine VA ?_;have e:(0:Int)=cwp g bl 0:=by show (0:Int)=min ((0:Nat):Int) 161;decide
  refine Zak (X:=Nat) (fun i=>i≤bl.length) (fun i=>[(32,I i),(31,I bl.length),(30,.own 5 bl.length),(5,I (cwp g bl i)),(1,I v),(0,.ptr 1000 0)]) (fun i=>(5,.row 3 1 (bl.map iD))::shH t g ((bl.take i).foldl (cntS g n) gv) R F) (fun i=>bl.length - i) 0 (Hh _) ?_;intro i hi;have hgw:=ZnF (g:=g) (f:=cntS g n) (fun gw i hw=>ZCp (n:=n) (i:=i) hw) (bl.take i) gv hgv;have hgwl:=hgw.1;by_cases hlt2:i < bl.length
  ·obtain⟨k,hk,e1,hm⟩:=hin i hlt2;have hft:=ZuM (f:=cntS g n) (gv:=gv) hlt2;have hcn:=Zz3 (g:=g) hlt2;have hwl:=ZwM (g:=g) (i:=bl[i]);have hcr:=ZwN g bl i;have hrk:Zaj g bl[i]=g.Aa[k].right:=by rw[e1];exact Zax hk
   have hrr:=hg.right _ (He hk);have hun:Af Tryz.prog 187 [.d (.agg [iD g.Aa[k].left,ints t g.Aa[k].right])] [] (I (ZaC (Zaj g bl[i]))) []:=by rw[hrk];exact ZsZ (by omega)
   generalize (bl.take i).foldl (cntS g n) gv=gw at *;rcases step i hlt2 gw hgw with hu|⟨u,hu,hih⟩
   ·rw[Hb hu] at hwl;rw[hwl] at hcn;have e:cntS g n gw bl[i]=gw:=(by unfold cntS;rw[Hb hu]);rw[e] at hft;clear e;have e:gw.map iD=((bl.take (i+1)).foldl (cntS g n) gv).map iD:=(by rw[hft]);have hge:=Zpn (Zaj g bl[i]);generalize ZaC (Zaj g bl[i])=un at *;refine VA ?_;refine Zab [] (hA:=hun) (hr:=?_);refine VA ?_;exact Zad (i+1) (c:=⟨.of rfl,.of rfl,.of rfl,Zcw rfl hcn.symm,.of rfl,.of rfl,trivial⟩)
   ·rw[hu] at hun hwl;rw[Ha (by omega)] at hwl;rw[hwl] at hcn;have e:cntS g n gw bl[i]=cntM g n u gw:=(by unfold cntS;rw[hu,Ha (by omega)];rfl);rw[e] at hft;have hcu:=ZnE g u;clear e;generalize cntM g n u gw=gz at *;have e:gz.map iD=((bl.take (i+1)).foldl (cntS g n) gv).map iD:=(by rw[hft]);refine VA ?_;refine Zab [] (hA:=hun) (hr:=?_);refine VA ?_;refine Zab [] (hA:=hih) (hr:=?_);refine VA ?_;exact Zad (i+1) (c:=⟨.of rfl,.of rfl,.of rfl,Zcw rfl hcn.symm,.of rfl,.of rfl,trivial⟩)
  ·have hie:i=bl.length:=by omega
   have hfl:bl.take i=bl:=H6 (by omega);rw[hfl] at hgw hgwl;rw[hfl,show cwp g bl i=cw g v by rw[hie,hend]];have hvl2:v < (bl.foldl (cntS g n) gv).length:=by omega
   generalize bl.foldl (cntS g n) gv=gw at *;have e:(gw.map iD).set v (iD (cw g v))=(gw.set v (cw g v)).map iD:=by rw[GN]
   refine VA ?_;exact fin
structure SS where
 gv:List Int
 R:List Rule
 F:List (List Ad)
def rulL (f:Int→SS→Bool×SS):List Int→SS→Bool×SS
 | [],s=>(true,s)
 | x::l,s=>if (f x s).1=true then rulL f l (f x s).2 else (false,(f x s).2)
def rulM (g:Ac) (v:Int):Nat→List Int→Int→SS→Bool×SS
 | 0,_,_,s=>(true,s)
 | n+1,p,i,s=>if ZaC (Zaj g i) < 0 then (decide (Aj (Zce p (ZaJ i (kN g i)))≤60),⟨s.gv,s.R++[⟨v,Zaj g i⟩],s.F++[Zce p (ZaJ i (kN g i))]⟩)
  else if cw g (ZaC (Zaj g i))=0 then (true,⟨cntM g 65 (ZaC (Zaj g i)).toNat s.gv,s.R,s.F⟩)
  else rulL (fun k s=>rulM g v n (p++[i]) k s) (by_ g (ZaC (Zaj g i))) ⟨cntM g 65 (ZaC (Zaj g i)).toNat s.gv,s.R,s.F⟩
structure ZCq (g:Ac) (v:Int) (p:List Int) (E:List (List Int)) (s:SS) (r:Bool×SS):Prop where
 gv:GOk g s.gv→GOk g r.2.gv
 len:s.F.length=s.R.length→r.2.F.length=r.2.R.length
 le:r.2.R.length≤s.R.length+E.length
 all:r.1=true→r.2.R=s.R++E.map (ZgS g v)∧r.2.F=s.F++E.map (fun w=>Zce p (wayF g w))∧∀ w∈E,Aj (Zce p (wayF g w))≤60
 one:r.1=false→∃ w∈E,60 < Aj (Zce p (wayF g w))
theorem Ziz {g:Ac} {v:Int} {p:List Int} {f:Int→SS→Bool×SS}:∀ (l:List Int) (s:SS),(∀ k∈l,∀ s,ZCq g v p (Zdo g k) s (f k s))→ZCq g v p (l.flatMap (Zdo g)) s (rulL f l s)
 | [],s,_=>⟨id,id,by simp[rulL],fun _=>by simp[rulL],fun h=>by cases h⟩
 | x::l,s,h=>by
  have h1:=h x (by simp) s;have h2:=Ziz l (f x s).2 (fun k hk=>h k (by simp[hk]));rw[rulL,HP];cases hb:(f x s).1 with
  | true =>
   rw[Hb rfl];obtain⟨a1,a2,a3⟩:=h1.all hb;refine⟨fun q=>h2.gv (h1.gv q),fun q=>h2.len (h1.len q),?_,fun hr=>?_,fun hr=>?_⟩
   ·have:=h2.le;rw[a1,Hk,Hi] at this;rw[Hk];omega
   ·obtain⟨b1,b2,b3⟩:=h2.all hr;rw[b1,b2,a1,a2,Ho,Ho];refine⟨by simp,by simp,fun w hw=>?_⟩;rcases List.mem_append.1 hw with hw|hw
    ·exact a3 w hw
    ·exact b3 w hw
   ·obtain⟨w,hw,hs⟩:=h2.one hr;exact⟨w,List.mem_append.2 (.inr hw),hs⟩
  | false =>
   rw[Ha (by decide)];obtain⟨w,hw,hs⟩:=h1.one hb;refine⟨h1.gv,h1.len,?_,fun h=>(by cases h),fun _=>⟨w,List.mem_append.2 (.inl hw),hs⟩⟩;have:=h1.le;rw[Hk];dsimp only;omega
section
variable {g:Ac} (hg:g.ok) (hc:cycL g=[])
include hg hc
theorem ZiA (v:Int):∀ (n:Nat) (v0:Int) (p:List Int) (i:Int) (s:SS),0≤v0→v0 < g.vars→i∈by_ g v0→rnk g v0 < n→ZCq g v p (Zdo g i) s (rulM g v n p i s):=by
 intro n
 induction n with
 | zero=>intro v0 p i s _ _ _ h;omega
 | succ n ih =>
 intro v0 p i s h0 h1 hi hn;rw[rulM];by_cases hu:ZaC (Zaj g i) < 0
 ·rw[Hb hu];have hE:Zdo g i=[[i]]:=by unfold Zdo;rw[Hb hu]
  have hw:wayF g [i]=ZaJ i (kN g i):=by rw[wayF]
  rw[hE];refine⟨id,fun h=>by simp[h],by simp,fun hr=>?_,fun hr=>?_⟩
  ·refine⟨by simp[ZgS,Zdh],by simp[hw],fun w hm=>?_⟩;rw[Gw] at hm;subst hm;rw[hw];exact H0 hr
  ·refine⟨[i],by simp,?_⟩;rw[hw];have:=of_decide_eq_false hr;omega
 ·rw[Ha hu];have hs:=Zeb hi (by omega);obtain⟨u0,u1⟩:=ZeM hg h0 h1 hs;have hr:=ZdO hg hc h0 h1 hs;have hwe:=Zkq hg hc u0 u1;have hE:Zdo g i=(ways g (ZaC (Zaj g i))).map (i::·):=by unfold Zdo;rw[Ha hu]
  generalize ZaC (Zaj g i)=u at *;by_cases h0c:cw g u=0
  ·rw[Hb h0c];have hz:ways g u=[]:=List.length_eq_zero_iff.1 (by unfold cw at h0c;omega);rw[hE,hz];exact⟨fun h=>Ziy _ _ _ h,id,by simp,fun _=>by simp,fun h=>by cases h⟩
  ·rw[Ha h0c];have hL:=Ziz (g:=g) (v:=v) (p:=p++[i]) (f:=fun k s=>rulM g v n (p++[i]) k s) (by_ g u) ⟨cntM g 65 u.toNat s.gv,s.R,s.F⟩ (fun k hk s=>ih u (p++[i]) k s u0 u1 hk (by omega));rw[←hwe] at hL;have hne:∀ w∈ways g u,w≠[]:=fun w hw=>by
    rw[hwe] at hw;obtain⟨k,_,hk⟩:=List.mem_flatMap.1 hw;exact ZsY hk
   have hF:∀ w∈ways g u,Zce (p++[i]) (wayF g w)=Zce p (wayF g (i::w)):=fun w hw=>by rw[Zmk,ZwL g i (hne w hw)]
   have hR:∀ w∈ways g u,ZgS g v w=ZgS g v (i::w):=fun w hw=>by unfold ZgS;rw[ZcU i (hne w hw)]
   rw[hE];refine⟨fun h=>hL.gv (Ziy _ _ _ h),hL.len,by have:=hL.le;simpa using this,fun hr=>?_,fun hr=>?_⟩
   ·obtain⟨a1,a2,a3⟩:=hL.all hr;refine⟨?_,?_,fun w hw=>?_⟩
    ·rw[a1,H8];congr 1;exact GL hR
    ·rw[a2,H8];congr 1;exact GL hF
    ·obtain⟨x,hx,rfl⟩:=List.mem_map.1 hw;rw[←hF x hx];exact a3 x hx
   ·obtain⟨w,hw,hs⟩:=hL.one hr;exact⟨i::w,List.mem_map.2 ⟨w,hw,rfl⟩,by rw[←hF w hw];exact hs⟩
end
end Go.Proofs.YtbpmepgnjanhnaaGreat
