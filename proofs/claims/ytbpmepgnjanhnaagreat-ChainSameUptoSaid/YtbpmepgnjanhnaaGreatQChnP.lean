import Derived.Test.YtbpmepgnjanhnaaGreatFrG
import Derived.Test.YtbpmepgnjanhnaaGreatSaP
set_option linter.unusedVariables false
set_option linter.unusedSimpArgs false
set_option linter.unusedSectionVars false
set_option maxHeartbeats 4000000
set_option maxRecDepth 100000
namespace Go.Proofs.YtbpmepgnjanhnaaGreat
open Go.RowKit
def Za7:Ac→List Step→Ac
 | g,[]=>g
 | _,s::r=>Za7 s.g r
def chnL (g:Ac):List Step→Nat→Zcf
 | [],_=>⟨0,0⟩
 | s::r,i=>if ¬ (Zam g s).code=0 then ⟨(Zam g s).code,(i:Int)⟩ else chnL s.g r (i+1)
def chnF (g:Ac) (ss:List Step):Zcf:=if ¬ (Zac g).code=0 then Zac g else if 8 < ss.length then ⟨6, -1⟩ else chnL g ss 0
def mkC (P:Int→Ac→Step×Zcf) (g:Ac):List Int→Nat→List Step→List Step×Zcf
 | [],_,out=>(out,⟨0,0⟩)
 | k::r,i,out=>if ¬ (P k (Za7 g out)).2.code=0 then ([],⟨(P k (Za7 g out)).2.code,(i:Int)⟩) else mkC P g r (i+1) (out++[(P k (Za7 g out)).1])
def Zc0 (P:Int→Ac→Step×Zcf) (g:Ac) (ks:List Int):List Step×Zcf:=if ¬ (Zac g).code=0 then ([],Zac g) else if 8 < ks.length then ([],⟨6, -1⟩) else mkC P g ks 0 []
def Zs3 (ss:List Step) (i:Nat):Step:=ss.getD i Ag
def ledA (old:Ac) (s:Step):List Tree→List Tree→Except Int (List Tree)
 | [],out=>.ok out
 | x::l,out=>if ¬ (Zb8 old s x).2.code=0 then .error (Zb8 old s x).2.code else ledA old s l (out++[(Zb8 old s x).1])
def trN (g:Ac) (ss:List Step) (w:List Int):Nat→List Tree→List Tree×Zcf
 | 0,l=>(Zcg l,⟨0,0⟩)
 | i+1,l=>match ledA (Za7 g (ss.take i)) (Zs3 ss i) l [] with
  | .error c=>([],⟨c,(i:Int)⟩)
  | .ok out=>trN g ss w i (out++if w.length=0 then (Zs3 ss i).empty else [])
def ZfP (g:Ac) (ss:List Step) (w:List Int):List Tree×Zcf :=
 if ¬ (chnF g ss).code=0 then ([],chnF g ss) else
 if ¬ (Zaw (Za7 g ss) w).2.code=0 then ([],(Zaw (Za7 g ss) w).2) else trN g ss w ss.length (Zaw (Za7 g ss) w).1
theorem ZiD (g:Ac) (s:Step):∀ ss:List Step,Za7 g (ss++[s])=s.g
 | []=>rfl
 | [_]=>rfl
 | _::y::r=>by rw[Hv,Za7];exact ZiD _ s (y::r)
theorem Zs4 (g:Ac) {ss:List Step} {n:Nat} (h:ss.length=n+1):Za7 g ss=(ss[n]'(by omega)).g:=by
 have e:ss=ss.take n++[ss[n]'(by omega)]:=by
  rw[←HD,H6 (by omega)]
 conv=>lhs;rw[e]
 exact ZiD _ _ _
theorem ZiE (g:Ac) {ss:List Step} {i:Nat} (h:i < ss.length):Za7 g (ss.take (i+1))=ss[i].g:=by
 rw[HD h];exact ZiD _ _ _
theorem Zpv {ss:List Step} {i:Nat} (h:i < ss.length):Zs3 ss i=ss[i]:=by
 unfold Zs3;rw[Hf,Hj h];rfl
theorem Ze1 {g:Ac} (hf:g.fit):∀ {ss:List Step},(∀ s∈ss,s.fit)→(Za7 g ss).fit
 | [],_=>hf
 | s::r,h=>Ze1 (h s (by simp)).g fun x hx=>h x (by simp[hx])
theorem Zw2 (g:Ac):∀ (ss:List Step) (i:Nat),(chnL g ss i).code=0→∀ (k:Nat) (h:k < ss.length),(Zam (Za7 g (ss.take k)) ss[k]).code=0
 | [],_,_,k,h=>by simp at h
 | s::r,i,hc,0,_=>by
  rw[chnL] at hc;split at hc
  ·rename_i q;exact absurd hc q
  ·rename_i q;exact HN q
 | s::r,i,hc,k+1,h=>by
  rw[chnL] at hc;split at hc
  ·rename_i q;exact absurd hc q
  ·exact Zw2 s.g r (i+1) hc k (by simpa using h)
theorem ZCw {g:Ac} {ss:List Step} (h:(chnF g ss).code=0):g.ok∧ss.length≤8∧∀ (k:Nat) (h:k < ss.length),(Zam (Za7 g (ss.take k)) ss[k]).code=0:=by
 unfold chnF at h;split at h
 ·rename_i q;exact absurd h q
 ·rename_i q;split at h
  ·cases h
  ·exact⟨Zbd (HN q),by omega,Zw2 g ss 0 h⟩
theorem Zw3 {old:Ac} {s:Step} {x:Tree}:cnt (Zb8 old s x).1≤400:=by
 have hz:cnt ZcI≤400:=by decide
 unfold Zb8;split
 ·split
  ·split
   ·exact hz
   ·split
    ·rename_i y _ q;unfold ZaB at q;split at q
     ·split at q
      ·rename_i h;exact h
      ·cases q
     ·rename_i h;exact absurd q h
    ·exact hz
   ·exact hz
  ·exact hz
 ·exact hz
theorem ZuQ {old:Ac} {s:Step} (h:(Zam old s).code=0):s.empty.length≤200∧∀ x∈s.empty,cnt x≤400:=by
 rw[Zam] at h;by_cases h0:(Zac old).code=0
 ·rw[Hb h0] at h;by_cases h1:(Zac s.g).code=0
  ·rw[Hb h1] at h;by_cases h2:s.empty.length≤200
   ·rw[Hb h2] at h;by_cases h3:s.empty.any (ZbX old)=true
    ·rw[Hb h3] at h;cases h
    ·refine⟨h2,fun x hx=>?_⟩;rw[Jm] at h3;have h4:ZbX old x=false:=by
      cases q:ZbX old x with
      | false=>rfl
      | true=>exact absurd ⟨x,hx,q⟩ h3
     unfold ZbX at h4;rw[Ju] at h4;have h5:(ZaB old x old.start).code=0:=(by simpa using h4.1);refine HN fun hc=>?_
     unfold ZaB at h5;rw[Hb h0,Ha hc] at h5;cases h5
   ·rw[Ha h2] at h;cases h
  ·rw[Ha h1] at h;exact absurd h h1
 ·rw[Ha h0] at h;exact absurd h h0
theorem Zw4 {old:Ac} {s:Step}:∀ {l out z:List Tree},ledA old s l out=.ok z→(∀ x∈out,cnt x≤400)→z.length=out.length+l.length∧∀ x∈z,cnt x≤400
 | [],out,z,h,ho=>by rw[ledA] at h;cases h;exact⟨by simp,ho⟩
 | x::l,out,z,h,ho=>by
  rw[ledA] at h;split at h
  ·cases h
  ·obtain⟨h1,h2⟩:=Zw4 h (fun y hy=>by
    rcases List.mem_append.1 hy with hy|hy
    ·exact ho y hy
    ·rw[List.mem_singleton.1 hy];exact Zw3)
   refine⟨?_,h2⟩;rw[h1,Hk,HS,Hl];omega
abbrev Zec (u v:Bool) (ss:List Step):D:=.sl u 6 (ss.map (ZdG v))
theorem Ao.stpP {h:Hp} {t u:Bool} {sz i:Nat} {l:List Step} (hi:i < l.length):Ao h (.eptr t sz (l.map (ZdG u)) i 0) (.agg ([]++([iD l[i].g.vars,iD l[i].g.terms,iD l[i].g.start,ZaS u l[i].g.Aa]++[.sl u 1 (l[i].frags.map (Zah u)),Zan u l[i].empty]))) 0 []:=by
 have:=Ao.e (h:=h) (t:=t) (sz:=sz) (off:=0) (i:=i) (es:=l.map (ZdG u)) (x:=ZdG u l[i]) (by simp[hi]);exact this
theorem Ao.stpO {h:Hp} {u:Bool} {k m sz i:Nat} {e:TypeId} {l:List Step} (hk:Ah h k=some (.row e sz (l.map (ZdG u)))) (hm:(l.map (ZdG u)).length=m) (hi:i < l.length):Ao h (.optr k m i 0) (.agg ([]++([iD l[i].g.vars,iD l[i].g.terms,iD l[i].g.start,ZaS u l[i].g.Aa]++[.sl u 1 (l[i].frags.map (Zah u)),Zan u l[i].empty]))) 0 [(k,some (.row e sz (l.map (ZdG u))))]:=by
 have:=Ao.mapO (off:=0) hk hm hi;exact this
theorem ZhI {t u v:Bool} {g:Ac} {ss:List Step} (hf:g.fit) (hs:∀ s∈ss,s.fit) (hl:ss.length≤100000000) :
  Af Tryz.prog 15 [.d (Zbr t g),.d (Zec u v ss)] [] (.d (Zbr false (Za7 g ss))) []:=by
 refine Af.intro (n:=17) Tryz.func15 (hw:=?_);simp only[Zal];by_cases h0:0 < ss.length
 ·obtain⟨n,hn⟩:∃ n,ss.length=n+1:=⟨ss.length - 1,by omega⟩
  have hlt:n < ss.length:=by omega
  have e:=Zs4 g hn;have hsf:=(hs _ (He hlt)).g;have ho:=ZhD (t:=v) hsf;have ei:(ss.length:Int) - 1=(n:Int):=by omega
  rw[e];refine VA ?_;rw[ei];refine VA ?_;refine Zt0 TY rfl Zag rfl (Ao.stpP hlt) rfl rfl rfl rfl ?_;refine VA ?_;refine Zab [] (hA:=ho) (hr:=?_);repeat (first|refine Zaz 900 rfl ?_|refine wk1 ?_|refine Zaa (hr:=?_))
  exact fin
 ·have:ss=[]:=HX (by omega)
  subst this;have ho:=ZhD (t:=t) hf;rw[show Za7 g []=g from rfl];refine VA ?_;refine Zab [] (hA:=ho) (hr:=?_);repeat (first|refine Zaz 900 rfl ?_|refine wk1 ?_|refine Zaa (hr:=?_))
  exact fin
abbrev stpV (v:Bool) (s:Step):D:=.agg [iD s.g.vars,iD s.g.terms,iD s.g.start,ZaS v s.g.Aa,.sl v 1 (s.frags.map (Zah v)),Zan v s.empty]
theorem Zw5 {g:Ac} {ss:List Step} {i:Nat} (h:i < ss.length):chnL (Za7 g (ss.take i)) (ss.drop i) i=if ¬ (Zam (Za7 g (ss.take i)) ss[i]).code=0 then ⟨(Zam (Za7 g (ss.take i)) ss[i]).code,(i:Int)⟩ else chnL (Za7 g (ss.take (i+1))) (ss.drop (i+1)) (i+1):=by
 conv=>lhs;rw[Hw h,chnL,←ZiE g h]
theorem Zdw {u v:Bool} {ss:List Step} {i:Nat}:D.sl u 6 (List.drop 0 (List.take i (ss.map (ZdG v))))=Zec u v (ss.take i):=by rw[Gl,←List.map_take]
theorem Zrs {t u v:Bool} {g:Ac} {ss:List Step} (hf:g.fit) (hs:∀ s∈ss,s.fit) (hl:ss.length≤100000000) :
  Af Tryz.prog 32 [.d (Zbr t g),.d (Zec u v ss)] [] (.d (Zbu (chnF g ss))) []:=by
 refine Af.intro (n:=42) Tryz.func32 (hw:=?_);simp only[Zal];have hgc:=ZaT (t:=t) hf.Aa hf.right;have hr:∃ r,chnF g ss=r:=⟨_,rfl⟩
 obtain⟨r,hr⟩:=hr;rw[hr];unfold chnF at hr;by_cases h0:(Zac g).code=0
 ·rw[Ha (fun q=>q h0)] at hr;by_cases h8:8 < ss.length
  ·rw[Hb h8] at hr;subst hr;refine VA ?_;refine Zab [] (hA:=hgc) (hr:=?_);refine VA ?_;exact fin
  ·rw[Ha h8] at hr;refine VA ?_;refine Zab [] (hA:=hgc) (hr:=?_);refine VA ?_;refine Zak (X:=Nat) (fun i=>i≤ss.length∧chnL (Za7 g (ss.take i)) (ss.drop i) i=r) (fun i=>[(21,I i),(20,I ss.length),(19,.d (Zec u v ss)),(2,.ptr 2 0),(4,.ptr 4 0),(0+1,.d (Zec u v ss))]) (fun _=>[(2,ZaE t g),(4,.box 31 [.d (iD 0),.d (iD 0)])]) (fun i=>ss.length - i) 0 ⟨Hh _,hr⟩ ?_;rintro i ⟨hi,hri⟩;by_cases hlt:i < ss.length
   ·have hla:=ZhI (t:=t) (u:=u) (v:=v) (ss:=ss.take i) hf (fun s hs'=>hs s (Gf hs')) (by rw[Hs];omega);have hsi:=hs _ (He hlt);have hlf:=Ze1 hf (ss:=ss.take i) (fun s hs'=>hs s (Gf hs'));have hck:Af Tryz.prog 63 [.d (Zbr false (Za7 g (ss.take i))),.d (stpV v ss[i])] [] (.d (Zbu (Zam (Za7 g (ss.take i)) ss[i]))) []:=Zht hlf hsi;rw[Zw5 hlt] at hri;by_cases hc:(Zam (Za7 g (ss.take i)) ss[i]).code=0
    ·rw[Ha (fun q=>q hc)] at hri;refine VA ?_;rw[Zdw];refine Zab [] (hA:=hla) (hr:=?_);refine VA ?_;refine Zab [] (hA:=hck) (hr:=?_);refine VA ?_;exact Zad (i+1) (a:=⟨by omega,hri⟩)
    ·rw[Hb hc] at hri;subst hri;refine VA ?_;rw[Zdw];refine Zab [] (hA:=hla) (hr:=?_);refine VA ?_;refine Zab [] (hA:=hck) (hr:=?_);refine VA ?_;exact fin
   ·have hi:i=ss.length:=(by omega);subst hi;rw[GM,chnL] at hri;subst hri;refine VA ?_;exact fin
 ·rw[Hb h0] at hr;subst hr;refine VA ?_;refine Zab [] (hA:=hgc) (hr:=?_);refine VA ?_;exact fin
structure Ae where
 right:List Int
 l:List Ad
instance:Inhabited Ae:=⟨⟨[],[]⟩⟩
def Zbb (a b:List Int):Bool:=match a,b with
 | x::_,y::_=>decide (x=y)
 | _,_=>false
def Zbp:List Int→List Int→Nat
 | x::a,y::b=>if x=y then Zbp a b+1 else 0
 | _,_=>0
theorem ZuR:∀ (a b:List Int),decide (0 < Zbp a b)=Zbb a b
 | x::a,y::b=>by rw[Zbp,Zbb];split <;> simp[*]
 | [],b=>by simp[Zbp,Zbb]
 | x::a,[]=>by simp[Zbp,Zbb]
theorem Zpw:∀ (a b:List Int),Zbp a b≤a.length∧Zbp a b≤b.length
 | x::a,y::b=>by
  rw[Zbp];have:=Zpw a b;split <;> simp <;> omega
 | [],b=>by simp[Zbp]
 | x::a,[]=>by simp[Zbp]
theorem ZiF:∀ (a b:List Int) (n:Nat),n < Zbp a b→∃ h1:n < a.length,∃ h2:n < b.length,a[n]=b[n]
 | x::a,y::b,n,h=>by
  rw[Zbp] at h;split at h
  ·rename_i e;cases n with
   | zero=>exact⟨by simp,by simp,e⟩
   | succ n =>
    obtain⟨h1,h2,h3⟩:=ZiF a b n (by omega);exact⟨by simp;omega,by simp;omega,by simpa using h3⟩
  ·omega
 | [],b,n,h=>by simp[Zbp] at h
 | x::a,[],n,h=>by simp[Zbp] at h
theorem Zkw:∀ (a b:List Int),Zbp a b=a.length∨Zbp a b=b.length∨∃ h1:Zbp a b < a.length,∃ h2:Zbp a b < b.length,a[Zbp a b]≠b[Zbp a b]
 | x::a,y::b=>by
  rw[Zbp];split
  ·rcases Zkw a b with h|h|⟨h1,h2,h3⟩
   ·exact .inl (by simp[h])
   ·exact .inr (.inl (by simp[h]))
   ·exact .inr (.inr ⟨by simp;omega,by simp;omega,by simpa using h3⟩)
  ·rename_i e;exact .inr (.inr ⟨by simp,by simp,by simpa using e⟩)
 | [],b=>.inl rfl
 | x::a,[]=>.inr (.inl rfl)
def Zdp (a:List Int):List Ae→Nat
 | []=>a.length
 | x::r=>min (Zbp a x.right) (Zdp a r)
theorem ZiG (a:List Int):∀ (l:List Ae),Zdp a l≤a.length
 | []=>Hg _
 | x::r=>Hq (Nat.min_le_right _ _) (ZiG a r)
theorem Zfp {a:List Int}:∀ {l:List Ae} {x:Ae},x∈l→Zdp a l≤Zbp a x.right
 | y::r,x,h=>by
  rw[Zdp];rcases List.mem_cons.1 h with rfl|h
  ·exact Jx _ _
  ·exact Hq (Nat.min_le_right _ _) (Zfp h)
theorem ZiH {a:List Int} {n:Nat} (hn:n≤a.length):∀ {l:List Ae},(∀ x∈l,n≤Zbp a x.right)→n≤Zdp a l
 | [],_=>hn
 | y::r,h=>by
  rw[Zdp];exact Nat.le_min.2 ⟨h y (by simp),ZiH hn (fun x hx=>h x (by simp[hx]))⟩
def Zb7 (a:List Int):List Ae→Nat→List Int
 | [],_=>[]
 | y::r,k=>if Zbb a y.right=true then (k:Int)::Zb7 a r (k+1) else Zb7 a r (k+1)
def Zas:List Ae→Nat→List Int
 | [],_=>[]
 | x::r,i=>if Zb7 x.right r (i+1)=[] then Zas r (i+1) else (i:Int)::Zb7 x.right r (i+1)
theorem Zjd (a:List Int):∀ (b c:List Ae) (k:Nat),Zb7 a (b++c) k=Zb7 a b k++Zb7 a c (k+b.length)
 | [],c,k=>by simp[Zb7]
 | y::b,c,k=>by
  simp only[Hv,Zb7,Zjd a b c (k+1),Hl];rw[show k+1+b.length=k+(b.length+1) by omega];split <;> rfl
theorem ZuS {a:List Int} {l:List Ae} {j i:Nat} (h:j < l.length) (hi:i≤j):Zb7 a ((l.drop i).take (j+1 - i)) i=Zb7 a ((l.drop i).take (j - i)) i++(if Zbb a l[j].right=true then [(j:Int)] else []):=by
 have e:(l.drop i).take (j+1 - i)=(l.drop i).take (j - i)++[l[j]]:=by
  rw[show j+1 - i=(j - i)+1 by omega,HD (by simp;omega)];congr 2;rw[Jq];congr 1;omega
 rw[e,Zjd];simp only[Zb7,Hs,HG];rw[Gs (by omega),show i+(j - i)=j by omega]
theorem ZnJ (a:List Int):∀ (l:List Ae) (k:Nat),(Zb7 a l k).length≤l.length
 | [],k=>by simp[Zb7]
 | y::l,k=>by
  have:=ZnJ a l (k+1);rw[Zb7];split <;> simp <;> omega
theorem Zrt {l:List Ae} {i:Nat} (h:i < l.length):Zas (l.drop i) i=if Zb7 l[i].right (l.drop (i+1)) (i+1)=[] then Zas (l.drop (i+1)) (i+1) else (i:Int)::Zb7 l[i].right (l.drop (i+1)) (i+1):=by
 rw[Hw h,Zas]
theorem ZuT {l:List Ae} {i:Nat} (h:¬ i < l.length):Zas (l.drop i) i=[]:=by
 rw[HL (by omega),Zas]
theorem ZhJ {a:List Int}:∀ {l:List Ae} {k:Nat} {z:Int},z∈Zb7 a l k→∃ j:Nat,z=(j:Int)∧k≤j∧∃ h:j - k < l.length,Zbb a l[j - k].right=true
 | [],k,z,h=>by simp[Zb7] at h
 | y::l,k,z,h=>by
  rw[Zb7] at h;have ih:=fun h=>ZhJ (a:=a) (l:=l) (k:=k+1) (z:=z) h
  have next:z∈Zb7 a l (k+1)→∃ j:Nat,z=(j:Int)∧k≤j∧∃ h:j - k < (y::l).length,Zbb a (y::l)[j - k].right=true:=fun h=>by
   obtain⟨j,h1,h2,h3,h4⟩:=ih h;refine⟨j,h1,by omega,by simp;omega,?_⟩;have e:j - k=(j - (k+1))+1:=by omega
   simp only[e,GQ];exact h4
  split at h
  ·rcases List.mem_cons.1 h with rfl|h
   ·exact⟨k,rfl,Hg _,by simp,by simpa⟩
   ·exact next h
  ·exact next h
theorem Zkx {a:List Int}:∀ {l:List Ae} {k j:Nat} (hj:j < l.length),Zbb a l[j].right=true→((k+j:Nat):Int)∈Zb7 a l k
 | y::l,k,0,_,h=>by rw[Zb7,Hb (by simpa using h)];simp
 | y::l,k,j+1,hj,h=>by
  have:=Zkx (a:=a) (l:=l) (k:=k+1) (j:=j) (by simpa using hj) (by simpa using h);rw[Zb7,show k+(j+1)=k+1+j by omega];split
  ·exact HK _ this
  ·exact this
def gapL (gap:Bool):List Ad:=bif gap then [.mk 3 0 []] else []
def ZnK (r:Int) (n:Nat):List Ad:=[.mk 1 r (.mk 3 0 []::ZaF n)]
def ZcX (n:Nat) (gap:Bool):List Ad:=[.mk 4 n (gapL gap++ZaF n)]
def Zb9 (r:Int) (k:Nat) (gap:Bool):List Ad:=[.mk 1 r (gapL gap++ZaF k)]
def inL (at_:List Int) (i:Nat):Bool:=at_.any fun y=>decide ((i:Int)=y)
def ZaM (at_:List Int):List Ae→Nat→List Ae
 | [],_=>[]
 | x::r,i=>if inL at_ i=true then x::ZaM at_ r (i+1) else ZaM at_ r (i+1)
def Za4 (at_:List Int) (hd:Ae):List Ae→Nat→List Ae
 | [],_=>[]
 | x::r,i=>if ((i:Int)=at_.getD 0 0) then hd::Za4 at_ hd r (i+1) else if inL at_ i=true then Za4 at_ hd r (i+1) else x::Za4 at_ hd r (i+1)
theorem ZhK (at_:List Int):∀ (b c:List Ae) (k:Nat),ZaM at_ (b++c) k=ZaM at_ b k++ZaM at_ c (k+b.length)
 | [],c,k=>by simp[ZaM]
 | y::b,c,k=>by
  simp only[Hv,ZaM,ZhK at_ b c (k+1),Hl];rw[show k+1+b.length=k+(b.length+1) by omega];split <;> rfl
theorem Zru {at_:List Int} {l:List Ae} {i:Nat} (h:i < l.length):ZaM at_ (l.take (i+1)) 0=ZaM at_ (l.take i) 0++(if inL at_ i=true then [l[i]] else []):=by
 rw[HD h,ZhK];simp only[ZaM,Hs,HE];rw[Gs (by omega)]
theorem ZhL (at_:List Int) (hd:Ae):∀ (b c:List Ae) (k:Nat),Za4 at_ hd (b++c) k=Za4 at_ hd b k++Za4 at_ hd c (k+b.length)
 | [],c,k=>by simp[Za4]
 | y::b,c,k=>by
  simp only[Hv,Za4,ZhL at_ hd b c (k+1),Hl];rw[show k+1+b.length=k+(b.length+1) by omega];split
  ·rfl
  ·split <;> rfl
theorem Zrv {at_:List Int} {hd:Ae} {l:List Ae} {i:Nat} (h:i < l.length):Za4 at_ hd (l.take (i+1)) 0=Za4 at_ hd (l.take i) 0++(if (i:Int)=at_.getD 0 0 then [hd] else if inL at_ i=true then [] else [l[i]]):=by
 rw[HD h,ZhL];simp only[Za4,Hs,HE];rw[Gs (by omega)]
def ZfQ (l:List Ae) (at_:List Int):List Int:=(l.getD (at_.getD 0 0).toNat default).right
def comW (l:List Ae) (at_:List Int):Nat:=Zdp (ZfQ l at_) (ZaM at_ l 0)
def Zrw (V:Nat) (N:Nat) (v:Nat) (l:List Ae) (at_:List Int):Ae:=⟨(ZfQ l at_).take (comW l at_)++[(N:Int)],ZcX (Ab ((ZfQ l at_).take (comW l at_))).length (decide (V≤v))⟩
def Zc1 (n k:Nat) (x:Ae):Ae:=⟨x.right.drop n,ZnK (x.l.getD 0 default).n ((Ab x.right).length - k)⟩
def oneW (V:Nat) (all:List (List Ae)) (v:Nat) (at_:List Int):List (List Ae) :=
 all.set v (Za4 at_ (Zrw V all.length v (all.getD v []) at_) (all.getD v []) 0) ++
  [(ZaM at_ (all.getD v []) 0).map (Zc1 (comW (all.getD v []) at_) (Ab ((ZfQ (all.getD v []) at_).take (comW (all.getD v []) at_))).length)]
inductive Fac (V:Nat):List (List Ae)→Nat→Except Nat (List (List Ae))→Prop
 | done {all:List (List Ae)} {v:Nat} (h:¬ v < all.length):Fac V all v (.ok all)
 | next {all:List (List Ae)} {v:Nat} {r:Except Nat (List (List Ae))} (h:v < all.length) (hg:Zas (all.getD v []) 0=[]) (hr:Fac V all (v+1) r):Fac V all v r
 | many {all:List (List Ae)} {v:Nat} (h:v < all.length) (hg:Zas (all.getD v []) 0≠[]) (hm:64 < (oneW V all v (Zas (all.getD v []) 0)).length):Fac V all v (.error v)
 | one {all:List (List Ae)} {v:Nat} {r:Except Nat (List (List Ae))} (h:v < all.length) (hg:Zas (all.getD v []) 0≠[]) (hm:¬ 64 < (oneW V all v (Zas (all.getD v []) 0)).length)
  (hr:Fac V (oneW V all v (Zas (all.getD v []) 0)) v r):Fac V all v r
theorem ZgW (V:Nat) (all:List (List Ae)) (v:Nat) (at_:List Int):(oneW V all v at_).length=all.length+1:=by simp[oneW]
theorem ZgX:∀ {l:List Ae} {i:Nat},Zas l i≠[]→∃ (k:Nat) (h:k < l.length),Zas l i=((i+k:Nat):Int)::Zb7 l[k].right (l.drop (k+1)) (i+k+1)∧Zb7 l[k].right (l.drop (k+1)) (i+k+1)≠[] ∧
  ∀ (j:Nat) (hj:j < k),Zb7 (l[j]'(by omega)).right (l.drop (j+1)) (i+j+1)=[]
 | [],i,h=>by simp[Zas] at h
 | x::r,i,h=>by
  rw[Zas] at h ⊢;by_cases hm:Zb7 x.right r (i+1)=[]
  ·rw[Hb hm] at h ⊢;obtain⟨k,h1,h2,h3,h4⟩:=ZgX h;refine⟨k+1,by simp;omega,?_,?_,?_⟩
   ·rw[h2];simp only[GQ,GZ];rw[show i+1+k=i+(k+1) by omega]
   ·simp only[GQ,GZ];rw[show i+(k+1)+1=i+1+k+1 by omega];exact h3
   ·intro j hj;cases j with
    | zero=>simpa using hm
    | succ j =>
     have:=h4 j (by omega);simp only[GQ,GZ];rw[show i+(j+1)+1=i+1+j+1 by omega];exact this
  ·rw[Ha hm];exact⟨0,by simp,by simp,by simpa using hm,fun j hj=>by omega⟩
theorem Zfq (a b:List Int):Zbb a b=Zbb b a:=by
 unfold Zbb;cases a <;> cases b <;> simp[eq_comm]
theorem Zpx {a b c:List Int} (h1:Zbb a b=true) (h2:Zbb b c=true):Zbb a c=true:=by
 unfold Zbb at *;cases a <;> cases b <;> cases c <;> simp_all
theorem Zw6 {a:List Int} {l:List Ae} {k j:Nat} (h:Zb7 a l k=[]) (hj:j < l.length):Zbb a l[j].right=false:=by
 cases hc:Zbb a l[j].right with
 | false=>rfl
 | true=>have:=Zkx (k:=k) hj hc;rw[h] at this;cases this
structure Grp (l:List Ae) (at_:List Int):Prop where
 first:∃ (k:Nat) (h:k < l.length),at_.getD 0 0=(k:Int)∧(∀ j (hj:j < l.length),inL at_ j=Zbb l[k].right l[j].right)∧Zbb l[k].right l[k].right=true
 two:2≤at_.length
 pair:∀ j,j < l.length→inL at_ j=true→∃ j',∃ h:j' < l.length,∃ h2:j < l.length,j'≠j∧Zbb l[j].right l[j'].right=true
theorem Zw7 {l:List Ae} (h:Zas l 0≠[]):Grp l (Zas l 0):=by
 obtain⟨k,h1,h2,h3,h4⟩:=ZgX h;simp only[HE] at h2 h3 h4;obtain⟨z,hz⟩:=List.exists_mem_of_ne_nil _ h3;obtain⟨j1,e1,e2,e3,e4⟩:=ZhJ hz;have hj1:j1 < l.length:=by simp only[HG] at e3;omega
 have e5:(l.drop (k+1))[j1 - (k+1)]=l[j1]:=by rw[Jq];congr 1;omega
 rw[e5] at e4;have hkk:Zbb l[k].right l[k].right=true:=Zpx e4 (by rw[Zfq];exact e4);have hin:∀ j (hj:j < l.length),inL (Zas l 0) j=Zbb l[k].right l[j].right:=by
  intro j hj;rw[h2,inL,List.any_cons];rw[GX];simp only[Gj,HZ,Jm];constructor
  ·rintro (h|⟨x,hx,e⟩)
   ·obtain rfl:j=k:=(by omega);exact hkk
   ·obtain⟨j2,d1,d2,d3,d4⟩:=ZhJ hx;obtain rfl:j=j2:=(by omega);have d5:(l.drop (k+1))[j - (k+1)]=l[j]:=by rw[Jq];congr 1;omega
    rwa [d5] at d4
  ·intro ha;rcases G9 j k with hlt|rfl|hgt
   ·exfalso;have:=Zw6 (h4 j hlt) (j:=k - (j+1)) (by simp;omega);have d5:(l.drop (j+1))[k - (j+1)]'(by simp;omega)=l[k]:=(by rw[Jq];congr 1;omega);rw[d5,Zfq,ha] at this;cases this
   ·exact .inl rfl
   ·refine .inr ⟨(j:Int),?_,rfl⟩;have d5:(l.drop (k+1))[j - (k+1)]'(by simp;omega)=l[j]:=(by rw[Jq];congr 1;omega);have:=Zkx (a:=l[k].right) (l:=l.drop (k+1)) (k:=k+1) (j:=j - (k+1)) (by simp;omega) (by rw[d5];exact ha)
    rwa [show k+1+(j - (k+1))=j by omega] at this
 refine⟨⟨k,h1,by rw[h2];rfl,hin,hkk⟩,?_,fun j hj hi=>?_⟩
 ·rw[h2];cases hm:Zb7 l[k].right (l.drop (k+1)) (k+1) with
  | nil=>exact absurd hm h3
  | cons _ _=>simp
 ·rw[hin j hj] at hi;by_cases hjk:j=k
  ·subst hjk;exact⟨j1,hj1,hj,by omega,e4⟩
  ·exact⟨k,h1,hj,fun e=>hjk e.symm,by rw[Zfq];exact hi⟩
end Go.Proofs.YtbpmepgnjanhnaaGreat
