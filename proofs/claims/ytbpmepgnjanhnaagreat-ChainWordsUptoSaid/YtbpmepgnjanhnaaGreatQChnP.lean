import Derived.Test.YtbpmepgnjanhnaaGreatQFrE
import Derived.Test.YtbpmepgnjanhnaaGreatQSimPf
set_option linter.unusedVariables false
set_option linter.unusedSimpArgs false
set_option linter.unusedSectionVars false
set_option maxHeartbeats 4000000
set_option maxRecDepth 100000
namespace Go.Proofs.YtbpmepgnjanhnaaGreat
open Go.RowKit
def Zbf:Ac→List Step→Ac
 | g,[]=>g
 | _,s::r=>Zbf s.g r
def chnL (g:Ac):List Step→Nat→Zci
 | [],_=>⟨0,0⟩
 | s::r,i=>if ¬ (Zap g s).code=0 then ⟨(Zap g s).code,(i:Int)⟩ else chnL s.g r (i+1)
def chnF (g:Ac) (ss:List Step):Zci:=if ¬ (Zac g).code=0 then Zac g else if 8 < ss.length then ⟨6, -1⟩ else chnL g ss 0
def mkC (P:Int→Ac→Step×Zci) (g:Ac):List Int→Nat→List Step→List Step×Zci
 | [],_,out=>(out,⟨0,0⟩)
 | k::r,i,out=>if ¬ (P k (Zbf g out)).2.code=0 then ([],⟨(P k (Zbf g out)).2.code,(i:Int)⟩) else mkC P g r (i+1) (out++[(P k (Zbf g out)).1])
def ZdR (P:Int→Ac→Step×Zci) (g:Ac) (ks:List Int):List Step×Zci:=if ¬ (Zac g).code=0 then ([],Zac g) else if 8 < ks.length then ([],⟨6, -1⟩) else mkC P g ks 0 []
def ZsI (ss:List Step) (i:Nat):Step:=ss.getD i Ag
def ledA (old:Ac) (s:Step):List Tree→List Tree→Except Int (List Tree)
 | [],out=>.ok out
 | x::l,out=>if ¬ (Zb7 old s x).2.code=0 then .error (Zb7 old s x).2.code else ledA old s l (out++[(Zb7 old s x).1])
def trN (g:Ac) (ss:List Step) (w:List Int):Nat→List Tree→List Tree×Zci
 | 0,l=>(ZdG l,⟨0,0⟩)
 | i+1,l=>match ledA (Zbf g (ss.take i)) (ZsI ss i) l [] with
  | .error c=>([],⟨c,(i:Int)⟩)
  | .ok out=>trN g ss w i (out++if w.length=0 then (ZsI ss i).empty else [])
def Zmf (g:Ac) (ss:List Step) (w:List Int):List Tree×Zci :=
 if ¬ (chnF g ss).code=0 then ([],chnF g ss) else
 if ¬ (ZaL (Zbf g ss) w).2.code=0 then ([],(ZaL (Zbf g ss) w).2) else trN g ss w ss.length (ZaL (Zbf g ss) w).1
theorem ZeX (g:Ac) (s:Step):∀ ss:List Step,Zbf g (ss++[s])=s.g
 | []=>rfl
 | [_]=>rfl
 | _::y::r=>by rw[Hv,Zbf];exact ZeX _ s (y::r)
theorem ZsJ (g:Ac) {ss:List Step} {n:Nat} (h:ss.length=n+1):Zbf g ss=(ss[n]'(by omega)).g:=by
 have e:ss=ss.take n++[ss[n]'(by omega)]:=by
  rw[←HE,H5 (by omega)]
 conv=>lhs;rw[e]
 exact ZeX _ _ _
theorem Zur (g:Ac) {ss:List Step} {i:Nat} (h:i < ss.length):Zbf g (ss.take (i+1))=ss[i].g:=by
 rw[HE h];exact ZeX _ _ _
theorem Zwq {ss:List Step} {i:Nat} (h:i < ss.length):ZsI ss i=ss[i]:=by
 unfold ZsI;rw[Hf,Hj h];rfl
theorem ZeY {g:Ac} (hf:g.fit):∀ {ss:List Step},(∀ s∈ss,s.fit)→(Zbf g ss).fit
 | [],_=>hf
 | s::r,h=>ZeY (h s (by simp)).g fun x hx=>h x (by simp[hx])
theorem Zwr (g:Ac):∀ (ss:List Step) (i:Nat),(chnL g ss i).code=0→∀ (k:Nat) (h:k < ss.length),(Zap (Zbf g (ss.take k)) ss[k]).code=0
 | [],_,_,k,h=>by simp at h
 | s::r,i,hc,0,_=>by
  rw[chnL] at hc;split at hc
  ·rename_i q;exact absurd hc q
  ·rename_i q;exact HN q
 | s::r,i,hc,k+1,h=>by
  rw[chnL] at hc;split at hc
  ·rename_i q;exact absurd hc q
  ·exact Zwr s.g r (i+1) hc k (by simpa using h)
theorem ZB9 {g:Ac} {ss:List Step} (h:(chnF g ss).code=0):g.ok∧ss.length≤8∧∀ (k:Nat) (h:k < ss.length),(Zap (Zbf g (ss.take k)) ss[k]).code=0:=by
 unfold chnF at h;split at h
 ·rename_i q;exact absurd h q
 ·rename_i q;split at h
  ·cases h
  ·exact⟨Zbe (HN q),by omega,Zwr g ss 0 h⟩
theorem Zws {old:Ac} {s:Step} {x:Tree}:cnt (Zb7 old s x).1≤400:=by
 have hz:cnt ZcF≤400:=by decide
 unfold Zb7;split
 ·split
  ·split
   ·exact hz
   ·split
    ·rename_i y _ q;unfold ZaA at q;split at q
     ·split at q
      ·rename_i h;exact h
      ·cases q
     ·rename_i h;exact absurd q h
    ·exact hz
   ·exact hz
  ·exact hz
 ·exact hz
theorem Zus {old:Ac} {s:Step} (h:(Zap old s).code=0):s.empty.length≤200∧∀ x∈s.empty,cnt x≤400:=by
 rw[Zap] at h;by_cases h0:(Zac old).code=0
 ·rw[Hb h0] at h;by_cases h1:(Zac s.g).code=0
  ·rw[Hb h1] at h;by_cases h2:s.empty.length≤200
   ·rw[Hb h2] at h;by_cases h3:s.empty.any (ZbZ old)=true
    ·rw[Hb h3] at h;cases h
    ·refine⟨h2,fun x hx=>?_⟩;rw[Jj] at h3;have h4:ZbZ old x=false:=by
      cases q:ZbZ old x with
      | false=>rfl
      | true=>exact absurd ⟨x,hx,q⟩ h3
     unfold ZbZ at h4;rw[Ju] at h4;have h5:(ZaA old x old.start).code=0:=(by simpa using h4.1);refine HN fun hc=>?_
     unfold ZaA at h5;rw[Hb h0,Ha hc] at h5;cases h5
   ·rw[Ha h2] at h;cases h
  ·rw[Ha h1] at h;exact absurd h h1
 ·rw[Ha h0] at h;exact absurd h h0
theorem Zwt {old:Ac} {s:Step}:∀ {l out z:List Tree},ledA old s l out=.ok z→(∀ x∈out,cnt x≤400)→z.length=out.length+l.length∧∀ x∈z,cnt x≤400
 | [],out,z,h,ho=>by rw[ledA] at h;cases h;exact⟨by simp,ho⟩
 | x::l,out,z,h,ho=>by
  rw[ledA] at h;split at h
  ·cases h
  ·obtain⟨h1,h2⟩:=Zwt h (fun y hy=>by
    rcases List.mem_append.1 hy with hy|hy
    ·exact ho y hy
    ·rw[List.mem_singleton.1 hy];exact Zws)
   refine⟨?_,h2⟩;rw[h1,Hk,HZ,Hl];omega
abbrev ZdJ (u v:Bool) (ss:List Step):D:=.sl u 6 (ss.map (ZdB v))
theorem Ao.stpP {h:Hp} {t u:Bool} {sz i:Nat} {l:List Step} (hi:i < l.length):Ao h (.eptr t sz (l.map (ZdB u)) i 0) (.agg ([]++([iD l[i].g.vars,iD l[i].g.terms,iD l[i].g.start,ZaS u l[i].g.Aa]++[.sl u 1 (l[i].frags.map (Zah u)),Zao u l[i].empty]))) 0 []:=by
 have:=Ao.e (h:=h) (t:=t) (sz:=sz) (off:=0) (i:=i) (es:=l.map (ZdB u)) (x:=ZdB u l[i]) (by simp[hi]);exact this
theorem Ao.stpO {h:Hp} {u:Bool} {k m sz i:Nat} {e:TypeId} {l:List Step} (hk:Ah h k=some (.row e sz (l.map (ZdB u)))) (hm:(l.map (ZdB u)).length=m) (hi:i < l.length):Ao h (.optr k m i 0) (.agg ([]++([iD l[i].g.vars,iD l[i].g.terms,iD l[i].g.start,ZaS u l[i].g.Aa]++[.sl u 1 (l[i].frags.map (Zah u)),Zao u l[i].empty]))) 0 [(k,some (.row e sz (l.map (ZdB u))))]:=by
 have:=Ao.mapO (off:=0) hk hm hi;exact this
theorem Zhx {t u v:Bool} {g:Ac} {ss:List Step} (hf:g.fit) (hs:∀ s∈ss,s.fit) (hl:ss.length≤100000000) :
  Af Tryz.prog 15 [.d (Zbo t g),.d (ZdJ u v ss)] [] (.d (Zbo false (Zbf g ss))) []:=by
 refine Af.intro (n:=17) Tryz.func15 (hw:=?_);simp only[Zal];by_cases h0:0 < ss.length
 ·obtain⟨n,hn⟩:∃ n,ss.length=n+1:=⟨ss.length - 1,by omega⟩
  have hlt:n < ss.length:=by omega
  have e:=ZsJ g hn;have hsf:=(hs _ (He hlt)).g;have ho:=Zhr (t:=v) hsf;have ei:(ss.length:Int) - 1=(n:Int):=by omega
  rw[e];refine VA ?_;rw[ei];refine VA ?_;refine ZtW TY rfl Zag rfl (Ao.stpP hlt) rfl rfl rfl rfl ?_;refine VA ?_;refine Zab [] (hA:=ho) (hr:=?_);repeat (first|refine Zaz 900 rfl ?_|refine wk1 ?_|refine ZCJ (hr:=?_))
  exact fin
 ·have:ss=[]:=HW (by omega)
  subst this;have ho:=Zhr (t:=t) hf;rw[show Zbf g []=g from rfl];refine VA ?_;refine Zab [] (hA:=ho) (hr:=?_);repeat (first|refine Zaz 900 rfl ?_|refine wk1 ?_|refine ZCJ (hr:=?_))
  exact fin
abbrev stpV (v:Bool) (s:Step):D:=.agg [iD s.g.vars,iD s.g.terms,iD s.g.start,ZaS v s.g.Aa,.sl v 1 (s.frags.map (Zah v)),Zao v s.empty]
theorem Zwu {g:Ac} {ss:List Step} {i:Nat} (h:i < ss.length):chnL (Zbf g (ss.take i)) (ss.drop i) i=if ¬ (Zap (Zbf g (ss.take i)) ss[i]).code=0 then ⟨(Zap (Zbf g (ss.take i)) ss[i]).code,(i:Int)⟩ else chnL (Zbf g (ss.take (i+1))) (ss.drop (i+1)) (i+1):=by
 conv=>lhs;rw[Hw h,chnL,←Zur g h]
theorem Zds {u v:Bool} {ss:List Step} {i:Nat}:D.sl u 6 (List.drop 0 (List.take i (ss.map (ZdB v))))=ZdJ u v (ss.take i):=by rw[Gk,←List.map_take]
theorem Zrb {t u v:Bool} {g:Ac} {ss:List Step} (hf:g.fit) (hs:∀ s∈ss,s.fit) (hl:ss.length≤100000000) :
  Af Tryz.prog 32 [.d (Zbo t g),.d (ZdJ u v ss)] [] (.d (Zbu (chnF g ss))) []:=by
 refine Af.intro (n:=42) Tryz.func32 (hw:=?_);simp only[Zal];have hgc:=ZaU (t:=t) hf.Aa hf.right;have hr:∃ r,chnF g ss=r:=⟨_,rfl⟩
 obtain⟨r,hr⟩:=hr;rw[hr];unfold chnF at hr;by_cases h0:(Zac g).code=0
 ·rw[Ha (fun q=>q h0)] at hr;by_cases h8:8 < ss.length
  ·rw[Hb h8] at hr;subst hr;refine VA ?_;refine Zab [] (hA:=hgc) (hr:=?_);refine VA ?_;exact fin
  ·rw[Ha h8] at hr;refine VA ?_;refine Zab [] (hA:=hgc) (hr:=?_);refine VA ?_;refine Zak (X:=Nat) (fun i=>i≤ss.length∧chnL (Zbf g (ss.take i)) (ss.drop i) i=r) (fun i=>[(21,I i),(20,I ss.length),(19,.d (ZdJ u v ss)),(2,.ptr 2 0),(4,.ptr 4 0),(0+1,.d (ZdJ u v ss))]) (fun _=>[(2,ZaD t g),(4,.box 31 [.d (iD 0),.d (iD 0)])]) (fun i=>ss.length - i) 0 ⟨Hi _,hr⟩ ?_;rintro i ⟨hi,hri⟩;by_cases hlt:i < ss.length
   ·have hla:=Zhx (t:=t) (u:=u) (v:=v) (ss:=ss.take i) hf (fun s hs'=>hs s (Gm hs')) (by rw[Hs];omega);have hsi:=hs _ (He hlt);have hlf:=ZeY hf (ss:=ss.take i) (fun s hs'=>hs s (Gm hs'));have hck:Af Tryz.prog 63 [.d (Zbo false (Zbf g (ss.take i))),.d (stpV v ss[i])] [] (.d (Zbu (Zap (Zbf g (ss.take i)) ss[i]))) []:=ZhD hlf hsi;rw[Zwu hlt] at hri;by_cases hc:(Zap (Zbf g (ss.take i)) ss[i]).code=0
    ·rw[Ha (fun q=>q hc)] at hri;refine VA ?_;rw[Zds];refine Zab [] (hA:=hla) (hr:=?_);refine VA ?_;refine Zab [] (hA:=hck) (hr:=?_);refine VA ?_;exact Zad (i+1) (a:=⟨by omega,hri⟩)
    ·rw[Hb hc] at hri;subst hri;refine VA ?_;rw[Zds];refine Zab [] (hA:=hla) (hr:=?_);refine VA ?_;refine Zab [] (hA:=hck) (hr:=?_);refine VA ?_;exact fin
   ·have hi:i=ss.length:=(by omega);subst hi;rw[GT,chnL] at hri;subst hri;refine VA ?_;exact fin
 ·rw[Hb h0] at hr;subst hr;refine VA ?_;refine Zab [] (hA:=hgc) (hr:=?_);refine VA ?_;exact fin
structure Ae where
 right:List Int
 l:List Ad
instance:Inhabited Ae:=⟨⟨[],[]⟩⟩
def Za9 (a b:List Int):Bool:=match a,b with
 | x::_,y::_=>decide (x=y)
 | _,_=>false
def Zbn:List Int→List Int→Nat
 | x::a,y::b=>if x=y then Zbn a b+1 else 0
 | _,_=>0
theorem Zut:∀ (a b:List Int),decide (0 < Zbn a b)=Za9 a b
 | x::a,y::b=>by rw[Zbn,Za9];split <;> simp[*]
 | [],b=>by simp[Zbn,Za9]
 | x::a,[]=>by simp[Zbn,Za9]
theorem Zpc:∀ (a b:List Int),Zbn a b≤a.length∧Zbn a b≤b.length
 | x::a,y::b=>by
  rw[Zbn];have:=Zpc a b;split <;> simp <;> omega
 | [],b=>by simp[Zbn]
 | x::a,[]=>by simp[Zbn]
theorem Zix:∀ (a b:List Int) (n:Nat),n < Zbn a b→∃ h1:n < a.length,∃ h2:n < b.length,a[n]=b[n]
 | x::a,y::b,n,h=>by
  rw[Zbn] at h;split at h
  ·rename_i e;cases n with
   | zero=>exact⟨by simp,by simp,e⟩
   | succ n =>
    obtain⟨h1,h2,h3⟩:=Zix a b n (by omega);exact⟨by simp;omega,by simp;omega,by simpa using h3⟩
  ·omega
 | [],b,n,h=>by simp[Zbn] at h
 | x::a,[],n,h=>by simp[Zbn] at h
theorem Zkp:∀ (a b:List Int),Zbn a b=a.length∨Zbn a b=b.length∨∃ h1:Zbn a b < a.length,∃ h2:Zbn a b < b.length,a[Zbn a b]≠b[Zbn a b]
 | x::a,y::b=>by
  rw[Zbn];split
  ·rcases Zkp a b with h|h|⟨h1,h2,h3⟩
   ·exact .inl (by simp[h])
   ·exact .inr (.inl (by simp[h]))
   ·exact .inr (.inr ⟨by simp;omega,by simp;omega,by simpa using h3⟩)
  ·rename_i e;exact .inr (.inr ⟨by simp,by simp,by simpa using e⟩)
 | [],b=>.inl rfl
 | x::a,[]=>.inr (.inl rfl)
def Zdj (a:List Int):List Ae→Nat
 | []=>a.length
 | x::r=>min (Zbn a x.right) (Zdj a r)
theorem Ziy (a:List Int):∀ (l:List Ae),Zdj a l≤a.length
 | []=>Hg _
 | x::r=>Hq (Nat.min_le_right _ _) (Ziy a r)
theorem Zfm {a:List Int}:∀ {l:List Ae} {x:Ae},x∈l→Zdj a l≤Zbn a x.right
 | y::r,x,h=>by
  rw[Zdj];rcases List.mem_cons.1 h with rfl|h
  ·exact Jq _ _
  ·exact Hq (Nat.min_le_right _ _) (Zfm h)
theorem Ziz {a:List Int} {n:Nat} (hn:n≤a.length):∀ {l:List Ae},(∀ x∈l,n≤Zbn a x.right)→n≤Zdj a l
 | [],_=>hn
 | y::r,h=>by
  rw[Zdj];exact Nat.le_min.2 ⟨h y (by simp),Ziz hn (fun x hx=>h x (by simp[hx]))⟩
def Zb6 (a:List Int):List Ae→Nat→List Int
 | [],_=>[]
 | y::r,k=>if Za9 a y.right=true then (k:Int)::Zb6 a r (k+1) else Zb6 a r (k+1)
def Zas:List Ae→Nat→List Int
 | [],_=>[]
 | x::r,i=>if Zb6 x.right r (i+1)=[] then Zas r (i+1) else (i:Int)::Zb6 x.right r (i+1)
theorem Zi5 (a:List Int):∀ (b c:List Ae) (k:Nat),Zb6 a (b++c) k=Zb6 a b k++Zb6 a c (k+b.length)
 | [],c,k=>by simp[Zb6]
 | y::b,c,k=>by
  simp only[Hv,Zb6,Zi5 a b c (k+1),Hl];rw[show k+1+b.length=k+(b.length+1) by omega];split <;> rfl
theorem Zuu {a:List Int} {l:List Ae} {j i:Nat} (h:j < l.length) (hi:i≤j):Zb6 a ((l.drop i).take (j+1 - i)) i=Zb6 a ((l.drop i).take (j - i)) i++(if Za9 a l[j].right=true then [(j:Int)] else []):=by
 have e:(l.drop i).take (j+1 - i)=(l.drop i).take (j - i)++[l[j]]:=by
  rw[show j+1 - i=(j - i)+1 by omega,HE (by simp;omega)];congr 2;rw[Js];congr 1;omega
 rw[e,Zi5];simp only[Zb6,Hs,HF];rw[Gx (by omega),show i+(j - i)=j by omega]
theorem Znw (a:List Int):∀ (l:List Ae) (k:Nat),(Zb6 a l k).length≤l.length
 | [],k=>by simp[Zb6]
 | y::l,k=>by
  have:=Znw a l (k+1);rw[Zb6];split <;> simp <;> omega
theorem Zrc {l:List Ae} {i:Nat} (h:i < l.length):Zas (l.drop i) i=if Zb6 l[i].right (l.drop (i+1)) (i+1)=[] then Zas (l.drop (i+1)) (i+1) else (i:Int)::Zb6 l[i].right (l.drop (i+1)) (i+1):=by
 rw[Hw h,Zas]
theorem Zuv {l:List Ae} {i:Nat} (h:¬ i < l.length):Zas (l.drop i) i=[]:=by
 rw[HL (by omega),Zas]
theorem Zhy {a:List Int}:∀ {l:List Ae} {k:Nat} {z:Int},z∈Zb6 a l k→∃ j:Nat,z=(j:Int)∧k≤j∧∃ h:j - k < l.length,Za9 a l[j - k].right=true
 | [],k,z,h=>by simp[Zb6] at h
 | y::l,k,z,h=>by
  rw[Zb6] at h;have ih:=fun h=>Zhy (a:=a) (l:=l) (k:=k+1) (z:=z) h
  have next:z∈Zb6 a l (k+1)→∃ j:Nat,z=(j:Int)∧k≤j∧∃ h:j - k < (y::l).length,Za9 a (y::l)[j - k].right=true:=fun h=>by
   obtain⟨j,h1,h2,h3,h4⟩:=ih h;refine⟨j,h1,by omega,by simp;omega,?_⟩;have e:j - k=(j - (k+1))+1:=by omega
   simp only[e,GQ];exact h4
  split at h
  ·rcases List.mem_cons.1 h with rfl|h
   ·exact⟨k,rfl,Hg _,by simp,by simpa⟩
   ·exact next h
  ·exact next h
theorem Zkq {a:List Int}:∀ {l:List Ae} {k j:Nat} (hj:j < l.length),Za9 a l[j].right=true→((k+j:Nat):Int)∈Zb6 a l k
 | y::l,k,0,_,h=>by rw[Zb6,Hb (by simpa using h)];simp
 | y::l,k,j+1,hj,h=>by
  have:=Zkq (a:=a) (l:=l) (k:=k+1) (j:=j) (by simpa using hj) (by simpa using h);rw[Zb6,show k+(j+1)=k+1+j by omega];split
  ·exact HK _ this
  ·exact this
def gapL (gap:Bool):List Ad:=bif gap then [.mk 3 0 []] else []
def Znx (r:Int) (n:Nat):List Ad:=[.mk 1 r (.mk 3 0 []::ZaE n)]
def ZcU (n:Nat) (gap:Bool):List Ad:=[.mk 4 n (gapL gap++ZaE n)]
def Zb8 (r:Int) (k:Nat) (gap:Bool):List Ad:=[.mk 1 r (gapL gap++ZaE k)]
def inL (at_:List Int) (i:Nat):Bool:=at_.any fun y=>decide ((i:Int)=y)
def ZaM (at_:List Int):List Ae→Nat→List Ae
 | [],_=>[]
 | x::r,i=>if inL at_ i=true then x::ZaM at_ r (i+1) else ZaM at_ r (i+1)
def Za3 (at_:List Int) (hd:Ae):List Ae→Nat→List Ae
 | [],_=>[]
 | x::r,i=>if ((i:Int)=at_.getD 0 0) then hd::Za3 at_ hd r (i+1) else if inL at_ i=true then Za3 at_ hd r (i+1) else x::Za3 at_ hd r (i+1)
theorem Zhz (at_:List Int):∀ (b c:List Ae) (k:Nat),ZaM at_ (b++c) k=ZaM at_ b k++ZaM at_ c (k+b.length)
 | [],c,k=>by simp[ZaM]
 | y::b,c,k=>by
  simp only[Hv,ZaM,Zhz at_ b c (k+1),Hl];rw[show k+1+b.length=k+(b.length+1) by omega];split <;> rfl
theorem Zrd {at_:List Int} {l:List Ae} {i:Nat} (h:i < l.length):ZaM at_ (l.take (i+1)) 0=ZaM at_ (l.take i) 0++(if inL at_ i=true then [l[i]] else []):=by
 rw[HE h,Zhz];simp only[ZaM,Hs,HD];rw[Gx (by omega)]
theorem ZhA (at_:List Int) (hd:Ae):∀ (b c:List Ae) (k:Nat),Za3 at_ hd (b++c) k=Za3 at_ hd b k++Za3 at_ hd c (k+b.length)
 | [],c,k=>by simp[Za3]
 | y::b,c,k=>by
  simp only[Hv,Za3,ZhA at_ hd b c (k+1),Hl];rw[show k+1+b.length=k+(b.length+1) by omega];split
  ·rfl
  ·split <;> rfl
theorem Zre {at_:List Int} {hd:Ae} {l:List Ae} {i:Nat} (h:i < l.length):Za3 at_ hd (l.take (i+1)) 0=Za3 at_ hd (l.take i) 0++(if (i:Int)=at_.getD 0 0 then [hd] else if inL at_ i=true then [] else [l[i]]):=by
 rw[HE h,ZhA];simp only[Za3,Hs,HD];rw[Gx (by omega)]
def ZfQ (l:List Ae) (at_:List Int):List Int:=(l.getD (at_.getD 0 0).toNat default).right
def comW (l:List Ae) (at_:List Int):Nat:=Zdj (ZfQ l at_) (ZaM at_ l 0)
def Zrf (V:Nat) (N:Nat) (v:Nat) (l:List Ae) (at_:List Int):Ae:=⟨(ZfQ l at_).take (comW l at_)++[(N:Int)],ZcU (Ab ((ZfQ l at_).take (comW l at_))).length (decide (V≤v))⟩
def ZcW (n k:Nat) (x:Ae):Ae:=⟨x.right.drop n,Znx (x.l.getD 0 default).n ((Ab x.right).length - k)⟩
def oneW (V:Nat) (all:List (List Ae)) (v:Nat) (at_:List Int):List (List Ae) :=
 all.set v (Za3 at_ (Zrf V all.length v (all.getD v []) at_) (all.getD v []) 0) ++
  [(ZaM at_ (all.getD v []) 0).map (ZcW (comW (all.getD v []) at_) (Ab ((ZfQ (all.getD v []) at_).take (comW (all.getD v []) at_))).length)]
inductive Fac (V:Nat):List (List Ae)→Nat→Except Nat (List (List Ae))→Prop
 | done {all:List (List Ae)} {v:Nat} (h:¬ v < all.length):Fac V all v (.ok all)
 | next {all:List (List Ae)} {v:Nat} {r:Except Nat (List (List Ae))} (h:v < all.length) (hg:Zas (all.getD v []) 0=[]) (hr:Fac V all (v+1) r):Fac V all v r
 | many {all:List (List Ae)} {v:Nat} (h:v < all.length) (hg:Zas (all.getD v []) 0≠[]) (hm:64 < (oneW V all v (Zas (all.getD v []) 0)).length):Fac V all v (.error v)
 | one {all:List (List Ae)} {v:Nat} {r:Except Nat (List (List Ae))} (h:v < all.length) (hg:Zas (all.getD v []) 0≠[]) (hm:¬ 64 < (oneW V all v (Zas (all.getD v []) 0)).length)
  (hr:Fac V (oneW V all v (Zas (all.getD v []) 0)) v r):Fac V all v r
theorem ZgT (V:Nat) (all:List (List Ae)) (v:Nat) (at_:List Int):(oneW V all v at_).length=all.length+1:=by simp[oneW]
theorem ZgU:∀ {l:List Ae} {i:Nat},Zas l i≠[]→∃ (k:Nat) (h:k < l.length),Zas l i=((i+k:Nat):Int)::Zb6 l[k].right (l.drop (k+1)) (i+k+1)∧Zb6 l[k].right (l.drop (k+1)) (i+k+1)≠[] ∧
  ∀ (j:Nat) (hj:j < k),Zb6 (l[j]'(by omega)).right (l.drop (j+1)) (i+j+1)=[]
 | [],i,h=>by simp[Zas] at h
 | x::r,i,h=>by
  rw[Zas] at h ⊢;by_cases hm:Zb6 x.right r (i+1)=[]
  ·rw[Hb hm] at h ⊢;obtain⟨k,h1,h2,h3,h4⟩:=ZgU h;refine⟨k+1,by simp;omega,?_,?_,?_⟩
   ·rw[h2];simp only[GQ,GV];rw[show i+1+k=i+(k+1) by omega]
   ·simp only[GQ,GV];rw[show i+(k+1)+1=i+1+k+1 by omega];exact h3
   ·intro j hj;cases j with
    | zero=>simpa using hm
    | succ j =>
     have:=h4 j (by omega);simp only[GQ,GV];rw[show i+(j+1)+1=i+1+j+1 by omega];exact this
  ·rw[Ha hm];exact⟨0,by simp,by simp,by simpa using hm,fun j hj=>by omega⟩
theorem Zfn (a b:List Int):Za9 a b=Za9 b a:=by
 unfold Za9;cases a <;> cases b <;> simp[eq_comm]
theorem Zpd {a b c:List Int} (h1:Za9 a b=true) (h2:Za9 b c=true):Za9 a c=true:=by
 unfold Za9 at *;cases a <;> cases b <;> cases c <;> simp_all
theorem Zwv {a:List Int} {l:List Ae} {k j:Nat} (h:Zb6 a l k=[]) (hj:j < l.length):Za9 a l[j].right=false:=by
 cases hc:Za9 a l[j].right with
 | false=>rfl
 | true=>have:=Zkq (k:=k) hj hc;rw[h] at this;cases this
structure Grp (l:List Ae) (at_:List Int):Prop where
 first:∃ (k:Nat) (h:k < l.length),at_.getD 0 0=(k:Int)∧(∀ j (hj:j < l.length),inL at_ j=Za9 l[k].right l[j].right)∧Za9 l[k].right l[k].right=true
 two:2≤at_.length
 pair:∀ j,j < l.length→inL at_ j=true→∃ j',∃ h:j' < l.length,∃ h2:j < l.length,j'≠j∧Za9 l[j].right l[j'].right=true
theorem Zww {l:List Ae} (h:Zas l 0≠[]):Grp l (Zas l 0):=by
 obtain⟨k,h1,h2,h3,h4⟩:=ZgU h;simp only[HD] at h2 h3 h4;obtain⟨z,hz⟩:=List.exists_mem_of_ne_nil _ h3;obtain⟨j1,e1,e2,e3,e4⟩:=Zhy hz;have hj1:j1 < l.length:=by simp only[HF] at e3;omega
 have e5:(l.drop (k+1))[j1 - (k+1)]=l[j1]:=by rw[Js];congr 1;omega
 rw[e5] at e4;have hkk:Za9 l[k].right l[k].right=true:=Zpd e4 (by rw[Zfn];exact e4);have hin:∀ j (hj:j < l.length),inL (Zas l 0) j=Za9 l[k].right l[j].right:=by
  intro j hj;rw[h2,inL,List.any_cons];rw[GS];simp only[Gi,HY,Jj];constructor
  ·rintro (h|⟨x,hx,e⟩)
   ·obtain rfl:j=k:=(by omega);exact hkk
   ·obtain⟨j2,d1,d2,d3,d4⟩:=Zhy hx;obtain rfl:j=j2:=(by omega);have d5:(l.drop (k+1))[j - (k+1)]=l[j]:=by rw[Js];congr 1;omega
    rwa [d5] at d4
  ·intro ha;rcases G3 j k with hlt|rfl|hgt
   ·exfalso;have:=Zwv (h4 j hlt) (j:=k - (j+1)) (by simp;omega);have d5:(l.drop (j+1))[k - (j+1)]'(by simp;omega)=l[k]:=(by rw[Js];congr 1;omega);rw[d5,Zfn,ha] at this;cases this
   ·exact .inl rfl
   ·refine .inr ⟨(j:Int),?_,rfl⟩;have d5:(l.drop (k+1))[j - (k+1)]'(by simp;omega)=l[j]:=(by rw[Js];congr 1;omega);have:=Zkq (a:=l[k].right) (l:=l.drop (k+1)) (k:=k+1) (j:=j - (k+1)) (by simp;omega) (by rw[d5];exact ha)
    rwa [show k+1+(j - (k+1))=j by omega] at this
 refine⟨⟨k,h1,by rw[h2];rfl,hin,hkk⟩,?_,fun j hj hi=>?_⟩
 ·rw[h2];cases hm:Zb6 l[k].right (l.drop (k+1)) (k+1) with
  | nil=>exact absurd hm h3
  | cons _ _=>simp
 ·rw[hin j hj] at hi;by_cases hjk:j=k
  ·subst hjk;exact⟨j1,hj1,hj,by omega,e4⟩
  ·exact⟨k,h1,hj,fun e=>hjk e.symm,by rw[Zfn];exact hi⟩
theorem ZiA (m:Int):∀ (a b:List Ad) (u:List Int),usL m (a++b) u=bif (usL m a u).1 then usL m b (usL m a u).2 else (false,(usL m a u).2)
 | [],b,u=>by simp[usL]
 | x::a,b,u=>by
  simp only[Hv,usL,ZiA m a b];cases (usF m x u).1 with
  | true=>simp
  | false=>simp
theorem Zmg (m:Int) (t:List Int):∀ (n i:Nat),usL m ((List.range' i n).map fun (j:Nat)=>Ad.mk 2 (j:Int) []) (List.replicate i 1++(List.replicate n 0++t))=(true,List.replicate (i+n) 1++t)
 | 0,i=>by simp[usL]
 | n+1,i=>by
  rw[JF,Hm,usL];have e:usF m (.mk 2 (i:Int) []) (List.replicate i 1++(List.replicate (n+1) 0++t))=(true,List.replicate (i+1) 1++(List.replicate n 0++t)):=by
   rw[usF,Ha (by decide),Hb rfl,Ha (by simp;omega)];congr 1;rw[bump];simp only[Hn];rw[G6,Hf,Gn (by simp),Jr _ _ (by simp)];simp[Jv]
  rw[e];simp only[Gb];rw[Zmg m t n (i+1)];congr 2;congr 1;omega
theorem Zwx (m:Int) (k:Nat) (t:List Int):usL m (ZaE k) (List.replicate k 0++t)=(true,List.replicate k 1++t):=by
 have:=Zmg m t k 0;rw[ZaE,List.range_eq_range'];simpa using this
theorem Zwy (m:Int) (b:Bool) (u:List Int):usL m (gapL b) u=(true,u):=by
 cases b <;> simp[gapL,usL,usF]
theorem Zwz (b:Bool):cpL (gapL b)≤1:=by cases b <;> simp[gapL,cpL,cpF]
theorem ZsK (b:Bool):Aj (gapL b)≤1:=by cases b <;> simp[gapL,Aj,fsz]
theorem Zfo:∀ (k:Nat),Aj (ZaE k)=k
 | 0=>rfl
 | k+1=>by rw[show ZaE (k+1)=ZaE k++[.mk 2 k []] by simp[ZaE,Gq],Zbv,Zfo k];simp[Aj,fsz]
theorem Zkr (a b:List Int):Ab (a++b)=Ab a++Ab b:=by simp[Ab]
theorem ZsL {old:Ac} {l:List Ad} {right:List Int} (h:usL old.Aa.length l (List.replicate (Ab right).length 0)=(true,List.replicate (Ab right).length 1)) (hc:cpL l≤60):Zax old l right=0:=by
 rw[Zax,Ha (by omega),Hb];rw[ZhX,h];simp
theorem Zuw {old:Ac} {r:Nat} {right:List Int} {gap:Bool} (hr:r < old.Aa.length) (hk:right.length≤11):Zax old (Zb8 r (Ab right).length gap) right=0:=by
 have hkl:=Zbi right;have hg:=Zwz gap;refine ZsL ?_ ?_
 ·rw[Zb8,usL,usF,Hb rfl,Ha (by omega),ZiA,Zwy];simp only[Gb];rw[ZjT];simp[usL]
 ·simp only[Zb8,cpL,cpF,Hb (Or.inl rfl),Zdo,ZhZ,true_or,if_true];omega
theorem Zux {r:Nat} {right:List Int} {gap:Bool} (hk:right.length≤11):Aj (Zb8 r (Ab right).length gap)≤100:=by
 have hkl:=Zbi right;have hg:=ZsK gap;simp only[Zb8,Aj,fsz,Zbv,Zfo];omega
theorem ZwA {old:Ac} {p:List Int} {N:Nat} {gap:Bool} (hk:p.length≤11):Zax old (ZcU (Ab p).length gap) (p++[(N:Int)])=0:=by
 have hkl:=Zbi p;have hg:=Zwz gap;have hkk:(Ab (p++[(N:Int)])).length=(Ab p).length+1:=by
  rw[Zkr,ZnG (Int.natCast_nonneg N)];simp
 refine ZsL ?_ ?_
 ·rw[hkk,ZcU,usL,usF,Ha (by decide),Ha (by decide),Hb rfl,Ha (by simp;omega)];have e:bump (List.replicate ((Ab p).length+1) 0) (Ab p).length=List.replicate (Ab p).length 0++[1]:=by
   rw[bump,Jv,Hf];simp
  rw[e,ZiA,Zwy];simp only[Gb];rw[Zwx,Jv];simp[usL]
 ·simp only[ZcU,cpL,cpF,Zdo,ZhZ,or_true,if_true];omega
theorem ZwB {p:List Int} {gap:Bool} (hk:p.length≤11):Aj (ZcU (Ab p).length gap)≤100:=by
 have hkl:=Zbi p;have hg:=ZsK gap;simp only[ZcU,Aj,fsz,Zbv,Zfo];omega
structure WOk (g:Ac) (N:Nat) (w:Ae):Prop where
 sym:∀ s∈w.right, -g.terms≤s∧s < (N:Int)
 len:w.right.length≤11
 part:Zax g w.l w.right=0
 slim:Aj w.l≤100
def Zrg (g:Ac) (gap:Bool) (w:Ae):Prop:=∃ r:Nat,r < g.Aa.length∧w.l=Zb8 r (Ab w.right).length gap∧w.right.length≤10
def PairQ (g:Ac) (gap:Bool) (a b:Ae):Prop:=(Zrg g gap a∧Zrg g gap b)∨Za9 a.right b.right=false
theorem PairQ.symm {g:Ac} {gap:Bool} {a b:Ae} (h:PairQ g gap a b):PairQ g gap b a:=by
 rcases h with ⟨h1,h2⟩|h
 ·exact .inl ⟨h2,h1⟩
 ·exact .inr (by rw[Zfn];exact h)
def Zbx (g:Ac) (u:Nat):Bool:=decide (g.vars.toNat≤u)
structure FInv (g:Ac) (all:List (List Ae)) (v:Nat):Prop where
 len:all.length≤64
 vars:g.vars.toNat≤all.length
 ok:∀ l∈all,∀ w∈l,WOk g all.length w
 form:∀ u,v≤u→(all.getD u []).Pairwise (PairQ g (Zbx g u))
 none:∀ u,u < v→Zas (all.getD u []) 0=[]
theorem Zpe {all:List (List Ae)} {v:Nat} {w:Ae} (h:w∈all.getD v []):all.getD v []∈all:=by
 rw[Hf] at h ⊢;by_cases hv:v < all.length
 ·rw[Hj hv];exact He hv
 ·rw[HG (by omega)] at h;simp at h
theorem ZdZ {at_:List Int}:∀ {l:List Ae} {i:Nat} {w:Ae},w∈ZaM at_ l i→∃ j,∃ h:j < l.length,w=l[j]∧inL at_ (i+j)=true
 | [],i,w,h=>by simp[ZaM] at h
 | x::r,i,w,h=>by
  rw[ZaM] at h;have next:w∈ZaM at_ r (i+1)→∃ j,∃ h:j < (x::r).length,w=(x::r)[j]∧inL at_ (i+j)=true:=fun h=>by
   obtain⟨j,h1,h2,h3⟩:=ZdZ h;exact⟨j+1,by simp;omega,by simpa using h2,by rw[show i+(j+1)=i+1+j by omega];exact h3⟩
  split at h
  ·rename_i hi;rcases List.mem_cons.1 h with rfl|h
   ·exact⟨0,by simp,rfl,hi⟩
   ·exact next h
  ·exact next h
theorem Zdk {at_:List Int} {hd:Ae} {k:Nat} (hk:at_.getD 0 0=(k:Int)):∀ {l:List Ae} {i:Nat} {w:Ae},w∈Za3 at_ hd l i→(w=hd∧i≤k)∨∃ j,∃ h:j < l.length,w=l[j]∧inL at_ (i+j)=false∧i+j≠k
 | [],i,w,h=>by simp[Za3] at h
 | x::r,i,w,h=>by
  rw[Za3,hk] at h;have next:w∈Za3 at_ hd r (i+1)→(w=hd∧i≤k)∨∃ j,∃ h:j < (x::r).length,w=(x::r)[j]∧inL at_ (i+j)=false∧i+j≠k:=fun h=>by
   rcases Zdk hk h with ⟨h1,h2⟩|⟨j,h1,h2,h3,h4⟩
   ·exact .inl ⟨h1,by omega⟩
   ·exact .inr ⟨j+1,by simp;omega,by simpa using h2,by rw[show i+(j+1)=i+1+j by omega];exact h3,by omega⟩
  split at h
  ·rename_i e;rcases List.mem_cons.1 h with rfl|h
   ·exact .inl ⟨rfl,by omega⟩
   ·exact next h
  ·rename_i e;split at h
   ·exact next h
   ·rename_i hi;rcases List.mem_cons.1 h with rfl|h
    ·exact .inr ⟨0,by simp,rfl,by simpa using hi,fun hh=>e (by rw[←hh];rfl)⟩
    ·exact next h
theorem Zks {at_:List Int} {hd:Ae} {k:Nat} {g:Ac} {gap:Bool} (hk:at_.getD 0 0=(k:Int)):∀ {l:List Ae} {i:Nat},l.Pairwise (PairQ g gap)→(∀ j (h:j < l.length),inL at_ (i+j)=false→i+j≠k→Za9 hd.right l[j].right=false)→(Za3 at_ hd l i).Pairwise (PairQ g gap)
 | [],i,_,_=>by simp[Za3]
 | x::r,i,hp,hn=>by
  rw[List.pairwise_cons] at hp;have hn':∀ j (h:j < r.length),inL at_ (i+1+j)=false→i+1+j≠k→Za9 hd.right r[j].right=false:=fun j h h1 h2=>by
   have:=hn (j+1) (by simp;omega) (by rw[show i+(j+1)=i+1+j by omega];exact h1) (by omega);simpa using this
  have ih:=Zks hk (i:=i+1) hp.2 hn';rw[Za3,hk];split
  ·rename_i e;refine List.pairwise_cons.2 ⟨fun w hw=>?_,ih⟩;rcases Zdk hk hw with ⟨_,h2⟩|⟨j,h1,rfl,h3,h4⟩
   ·omega
   ·exact .inr (hn' j h1 h3 h4)
  ·rename_i e;split
   ·exact ih
   ·rename_i hi;refine List.pairwise_cons.2 ⟨fun w hw=>?_,ih⟩;rcases Zdk hk hw with ⟨rfl,_⟩|⟨j,h1,rfl,h3,h4⟩
    ·have:=hn 0 (by simp) (by simpa using hi) (fun hh=>e (by rw[←hh];rfl));exact (PairQ.symm (.inr this))
    ·exact hp.1 _ (He h1)
theorem ZfV {at_:List Int} {hd:Ae}:∀ (l:List Ae) (i:Nat),(Za3 at_ hd l i).length≤l.length
 | [],i=>by simp[Za3]
 | x::r,i=>by
  have ih:=ZfV (at_:=at_) (hd:=hd) r (i+1);rw[Za3];split
  ·simp only[Hl];omega
  ·split <;> simp only[Hl] <;> omega
theorem Zpf {at_:List Int} {hd:Ae} {k:Nat} (hk:at_.getD 0 0=(k:Int)):∀ {l:List Ae} {i:Nat} (j:Nat),j < l.length→i+j≠k→inL at_ (i+j)=true→(Za3 at_ hd l i).length < l.length
 | x::r,i,0,_,h1,h2=>by
  have ih:=ZfV (at_:=at_) (hd:=hd) r (i+1);rw[Za3,hk,Ha (by omega),Hb (by simpa using h2)];simp only[Hl];omega
 | x::r,i,j+1,h,h1,h2=>by
  have ih:=Zpf (hd:=hd) hk (l:=r) (i:=i+1) j (by simpa using h) (by omega) (by rw[show i+1+j=i+(j+1) by omega];exact h2);rw[Za3];split
  ·simp only[Hl];omega
  ·split <;> simp only[Hl] <;> omega
theorem Zrh {a b:List Int} {n:Nat} (hn:1≤n) (c:List Int) (ha:Za9 a a=true):Za9 (a.take n++c) b=Za9 a b:=by
 cases a with
 | nil=>simp[Za9] at ha
 | cons x a =>
  obtain⟨m,rfl⟩:∃ m,n=m+1:=⟨n - 1,by omega⟩
  cases b <;> simp[Za9]
theorem Zmh:∀ (a b:List Int) (n:Nat),n≤Zbn a b→b.take n=a.take n
 | _,_,0,_=>by simp
 | x::a,y::b,n+1,h=>by
  rw[Zbn] at h;split at h
  ·rename_i e;subst e;simp only[G7];rw[Zmh a b n (by omega)]
  ·omega
 | [],b,n+1,h=>by simp[Zbn] at h
 | x::a,[],n+1,h=>by simp[Zbn] at h
structure GrpK (g:Ac) (gap:Bool) (l:List Ae) (at_:List Int) (k n:Nat):Prop where
 hk:k < l.length
 at0:at_.getD 0 0=(k:Int)
 inn:∀ j (hj:j < l.length),inL at_ j=Za9 l[k].right l[j].right
 self:Za9 l[k].right l[k].right=true
 first:ZfQ l at_=l[k].right
 n1:1≤n
 nl:n≤l[k].right.length
 plain:∀ j (hj:j < l.length),inL at_ j=true→Zrg g gap l[j]∧l[j].right.take n=l[k].right.take n
 other:∃ j,∃ _:j < l.length,j≠k∧inL at_ j=true
theorem ZDv {g:Ac} {gap:Bool} {l:List Ae} (hp:l.Pairwise (PairQ g gap)) (h:Zas l 0≠[]):∃ k,GrpK g gap l (Zas l 0) k (comW l (Zas l 0)):=by
 have G:=Zww h;obtain⟨k,h1,h2,h3,h4⟩:=G.first
 have hf:ZfQ l (Zas l 0)=l[k].right:=by
  rw[ZfQ,h2];simp only[Hn];rw[Hf,Hj h1];rfl
 have hne:1≤l[k].right.length:=by
  cases hc:l[k].right with
  | nil=>rw[hc] at h4;simp[Za9] at h4
  | cons x r=>simp
 have hplain:∀ j (hj:j < l.length),inL (Zas l 0) j=true→Zrg g gap l[j]:=fun j hj hi=>by
  obtain⟨j',e1,e2,e3,e4⟩:=G.pair j hj hi;have hQ:PairQ g gap l[j] l[j']:=by
   rw[JL] at hp;rcases Jk j j' with hlt|hge
   ·exact hp j j' hj e1 hlt
   ·exact (hp j' j e1 hj (by omega)).symm
  rcases hQ with ⟨q,_⟩|q
  ·exact q
  ·rw[e4] at q;cases q
 have hkin:inL (Zas l 0) k=true:=by rw[h3 k h1];exact h4
 obtain⟨j',e1,e2,e3,e4⟩:=G.pair k h1 hkin;refine⟨k,h1,h2,h3,h4,hf,?_,?_,fun j hj hi=>⟨hplain j hj hi,?_⟩,⟨j',e1,e3,by rw[h3 j' e1];exact e4⟩⟩
 ·rw[comW,hf];refine Ziz hne fun x hx=>?_
  obtain⟨j,d1,rfl,d3⟩:=ZdZ hx;rw[HD,h3 j d1,←Zut] at d3;have:=H3 d3;omega
 ·rw[comW,hf];exact Ziy _ _
 ·refine Zmh _ _ _ ?_;rw[comW,hf];refine Zfm ?_;have:∀ (l:List Ae) (i:Nat) (hj:j < l.length),inL (Zas l 0) j=true→True:=fun _ _ _ _=>trivial
  clear this;have hm:∀ (at_:List Int) (l:List Ae) (i j:Nat) (hj:j < l.length),inL at_ (i+j)=true→l[j]∈ZaM at_ l i:=by
   intro at_ l
   induction l with
   | nil=>intro i j hj;simp at hj
   | cons x r ih =>
    intro i j hj hi;rw[ZaM];cases j with
    | zero=>rw[Hb (by simpa using hi)];simp
    | succ j =>
     have:=ih (i+1) j (by simpa using hj) (by rw[show i+1+j=i+(j+1) by omega];exact hi);split
     ·exact HK _ this
     ·exact this
  exact hm _ _ 0 j hj (by rwa [HD])
theorem Zmi (a:List Int) (n:Nat):(Ab a).length=(Ab (a.take n)).length+(Ab (a.drop n)).length:=by
 rw[←Hk,←Zkr,Ge]
theorem Zfp {all:List (List Ae)} {v:Nat} (h:v < all.length) (x:List Ae) (r:List (List Ae)):(all.set v x++r).getD v []=x:=by
 rw[Hf,GL (by simpa using h),G8 h];rfl
theorem ZeI {all:List (List Ae)} {v u:Nat} (h:u < all.length) (hne:u≠v) (x:List Ae) (r:List (List Ae)):(all.set v x++r).getD u []=all.getD u []:=by
 rw[Hf,GL (by simpa using h),GN (fun e=>hne e.symm),←Hf]
theorem ZhB {all:List (List Ae)} {v:Nat} (x y:List Ae):(all.set v x++[y]).getD all.length []=y:=by
 rw[Hf,Gn (by simp)];simp
theorem Zi6 {all:List (List Ae)} {v u:Nat} (h:all.length < u) (x y:List Ae):(all.set v x++[y]).getD u []=[]:=by
 rw[Hf,HG (by simp;omega)];rfl
theorem WOk.mono {g:Ac} {N M:Nat} {w:Ae} (h:WOk g N w) (hN:N≤M):WOk g M w:=⟨fun s hs=>by have:=h.sym s hs;omega,h.len,h.part,h.slim⟩
theorem WOk.plain {g:Ac} {N:Nat} {w:Ae} {gap:Bool} (hs:∀ s∈w.right, -g.terms≤s∧s < (N:Int)) (hp:Zrg g gap w):WOk g N w:=by
 obtain⟨r,h1,h2,h3⟩:=hp;refine⟨hs,by omega,?_,?_⟩
 ·rw[h2];exact Zuw h1 (by omega)
 ·rw[h2];exact Zux (by omega)
section
variable {g:Ac} {all:List (List Ae)} {v:Nat}
theorem FInv.grp (h:FInv g all v) (hne:Zas (all.getD v []) 0≠[]):∃ k,GrpK g (Zbx g v) (all.getD v []) (Zas (all.getD v []) 0) k (comW (all.getD v []) (Zas (all.getD v []) 0)):=ZDv (h.form v (Hg _)) hne
theorem FInv.mem (h:FInv g all v) {w:Ae} (hw:w∈all.getD v []):WOk g all.length w:=h.ok _ (Zpe hw) w hw
theorem ZiB (hg:g.ok) (h:FInv g all v) {k n:Nat} {at_:List Int} (G:GrpK g (Zbx g v) (all.getD v []) at_ k n) {x:Ae} (hx:x∈ZaM at_ (all.getD v []) 0) :
  Zrg g true (ZcW n (Ab (((all.getD v [])[k]'G.hk).right.take n)).length x)∧∀ s∈x.right.drop n, -g.terms≤s∧s < (all.length:Int):=by
 obtain⟨j,h1,rfl,h3⟩:=ZdZ hx;rw[HD] at h3;obtain⟨⟨r,p1,p2,p3⟩,p4⟩:=G.plain j h1 h3;refine⟨⟨r,p1,?_,?_⟩,fun s hs=>(h.mem (He h1)).sym s (Jh hs)⟩
 ·have e:=Zmi ((all.getD v [])[j]).right n;rw[p4] at e;simp only[ZcW];rw[p2];simp only[Zb8,Znx,gapL,Gb,GF,Ad.n,Jn];rw[show (Ab ((all.getD v [])[j]).right).length - (Ab (((all.getD v [])[k]'G.hk).right.take n)).length=(Ab (((all.getD v [])[j]).right.drop n)).length by omega]
 ·simp only[ZcW,HF];omega
theorem FInv.one (hg:g.ok) (h:FInv g all v) (hv:v < all.length) (hne:Zas (all.getD v []) 0≠[]) (hm:¬ 64 < (oneW g.vars.toNat all v (Zas (all.getD v []) 0)).length) :
  FInv g (oneW g.vars.toNat all v (Zas (all.getD v []) 0)) v∧((oneW g.vars.toNat all v (Zas (all.getD v []) 0)).getD v []).length < (all.getD v []).length:=by
 obtain⟨k,G⟩:=h.grp hne;generalize hat:Zas (all.getD v []) 0=at_ at *;have hN:=ZgT g.vars.toNat all v at_;have hvars:=h.vars;have hf:=G.first
 generalize hn:comW (all.getD v []) at_=n at *;have hhd:Zrf g.vars.toNat all.length v (all.getD v []) at_=⟨((all.getD v [])[k]'G.hk).right.take n++[(all.length:Int)],ZcU (Ab (((all.getD v [])[k]'G.hk).right.take n)).length (Zbx g v)⟩:=by
  rw[Zrf,hf,hn];rfl
 have hone:oneW g.vars.toNat all v at_=all.set v (Za3 at_ ⟨((all.getD v [])[k]'G.hk).right.take n++[(all.length:Int)],ZcU (Ab (((all.getD v [])[k]'G.hk).right.take n)).length (Zbx g v)⟩ (all.getD v []) 0) ++
   [(ZaM at_ (all.getD v []) 0).map (ZcW n (Ab (((all.getD v [])[k]'G.hk).right.take n)).length)]:=by
  rw[oneW,hhd,hf,hn]
 have hkp:=G.plain k G.hk (by rw[G.inn k G.hk];exact G.self);obtain⟨⟨rk',pk1,pk2,pk3⟩,_⟩:=hkp;have hkok:=h.mem (He G.hk);have hnl:=G.nl;have htl:(((all.getD v [])[k]'G.hk).right.take n).length≤10:=by simp;omega
 have hdok:WOk g (all.length+1) ⟨((all.getD v [])[k]'G.hk).right.take n++[(all.length:Int)],ZcU (Ab (((all.getD v [])[k]'G.hk).right.take n)).length (Zbx g v)⟩:=by
  have hterms:=hg.terms0;refine⟨fun s hs=>?_,by simp;omega,ZwA (by omega),ZwB (by omega)⟩;rcases List.mem_append.1 hs with hs|hs
  ·have:=hkok.sym s (Gm hs);omega
  ·rw[List.mem_singleton.1 hs];omega
 have hself:=G.self;have hnew:∀ j (hj:j < (all.getD v []).length),inL at_ (0+j)=false→0+j≠k→Za9 (((all.getD v [])[k]'G.hk).right.take n++[(all.length:Int)]) ((all.getD v [])[j]).right=false:=fun j hj hi _=>by
  rw[Zrh G.n1 _ hself,←G.inn j hj]
  rwa [HD] at hi
 have hlen:(oneW g.vars.toNat all v at_).length≤64:=by omega
 constructor
 ·refine⟨hlen,by omega,?_,?_,?_⟩
  ·rw[hN];intro l hl w hw;rw[hone] at hl;rcases List.mem_append.1 hl with hl|hl
   ·rcases GW hl with hl|rfl
    ·exact (h.ok l hl w hw).mono (by omega)
    ·rcases Zdk G.at0 hw with ⟨rfl,_⟩|⟨j,j1,rfl,_,_⟩
     ·exact hdok
     ·exact (h.mem (He j1)).mono (by omega)
   ·rw[List.mem_singleton.1 hl] at hw;obtain⟨x,hx,rfl⟩:=List.mem_map.1 hw;obtain⟨q1,q2⟩:=ZiB hg h G hx;exact (WOk.plain (N:=all.length) (fun s hs=>q2 s hs) q1).mono (by omega)
  ·intro u hu;rw[hone];rcases G3 u all.length with h1|rfl|h1
   ·by_cases huv:u=v
    ·subst huv;rw[Zfp h1];exact Zks G.at0 (h.form u hu) hnew
    ·rw[ZeI h1 huv];exact h.form u hu
   ·rw[ZhB];have hgt:Zbx g all.length=true:=Ht hvars;rw[hgt,Gd];refine GB (R:=fun _ _=>True) (fun ha hb _=>.inl ⟨(ZiB hg h G ha).1,(ZiB hg h G hb).1⟩) ?_;exact List.pairwise_of_forall (fun _ _=>trivial)
   ·rw[Zi6 h1];exact H7
  ·intro u hu;rw[hone,ZeI (by omega) (by omega)];exact h.none u hu
 ·rw[hone,Zfp hv];obtain⟨j,j1,j2,j3⟩:=G.other;exact Zpf G.at0 j j1 (by omega) (by rwa [HD])
theorem FInv.next (h:FInv g all v) (hne:Zas (all.getD v []) 0=[]):FInv g all (v+1) :=
 ⟨h.len,h.vars,h.ok,fun u hu=>h.form u (by omega),fun u hu=>by
  by_cases e:u=v
  ·subst e;exact hne
  ·exact h.none u (by omega)⟩
theorem Zny (hg:g.ok):∀ (a b:Nat) {all:List (List Ae)} {v:Nat},65 - v≤a→(all.getD v []).length≤b→FInv g all v→∃ r,Fac g.vars.toNat all v r∧∀ z,r=.ok z→FInv g z z.length
 | 0,_,all,v,ha,_,h=>by
  have:=h.len;refine⟨.ok all,.done (by omega),fun z e=>?_⟩;cases e;exact⟨h.len,h.vars,h.ok,fun u hu=>by
   rw[Hf,HG (by omega)];exact H7,fun u hu=>h.none u (by omega)⟩
 | a+1,b,all,v,ha,hb,h=>by
  by_cases hv:v < all.length
  ·by_cases hne:Zas (all.getD v []) 0=[]
   ·obtain⟨r,h1,h2⟩:=Zny hg a ((all.getD (v+1) []).length) (by omega) (Hg _) (h.next hne);exact⟨r,.next hv hne h1,h2⟩
   ·by_cases hm:64 < (oneW g.vars.toNat all v (Zas (all.getD v []) 0)).length
    ·exact⟨.error v,.many hv hne hm,fun z e=>by cases e⟩
    ·obtain⟨h1,h2⟩:=h.one hg hv hne hm
     match b with
     | 0=>omega
     | b+1 =>
      obtain⟨r,h3,h4⟩:=Zny hg (a+1) b (by omega) (by omega) h1;exact⟨r,.one hv hne hm h3,h4⟩
  ·refine⟨.ok all,.done hv,fun z e=>?_⟩;cases e;exact⟨h.len,h.vars,h.ok,fun u hu=>by
    rw[Hf,HG (by omega)];exact H7,fun u hu=>h.none u (by omega)⟩
termination_by a b=>(a,b)
end
end Go.Proofs.YtbpmepgnjanhnaaGreat
