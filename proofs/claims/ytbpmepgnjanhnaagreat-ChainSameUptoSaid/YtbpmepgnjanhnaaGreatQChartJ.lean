import Derived.Test.YtbpmepgnjanhnaaGreatQChF
set_option linter.unusedVariables false
set_option linter.unusedSimpArgs false
set_option linter.unusedSectionVars false
set_option maxHeartbeats 8000000
set_option maxRecDepth 100000
namespace Go.Proofs.YtbpmepgnjanhnaaGreat
open Go.RowKit
theorem ZhD {t:Bool} {g:Ac} (hg:g.fit):Af Tryz.prog 43 [.d (Zbr t g)] [] (.agg [.d (iD g.vars),.d (iD g.terms),.d (iD g.start),.own 900 g.Aa.length]) [(900,.row 68 2 (g.Aa.map (Za3 false)))]:=by
 refine Af.intro (n:=28) Tryz.func43 (hw:=?_);simp only[Zal];have hl:=hg.Aa;refine VA ?_;refine ZaD 3 3 900 68 2 rfl rfl rfl rfl ?_;refine Zak (X:=Nat) (fun k=>k≤g.Aa.length) (fun k=>[(11,I k),(10,I g.Aa.length),(9,.d (ZaS t g.Aa)),(3,.ptr 3 0),(2,.ptr 2 0),(1,.ptr 1 0)]) (fun k=>[(1,ZaE t g),(2,.box 24 [.d (iD 0),.d (iD 0),.d (iD 0),.d (.raw (.slice none 0 0))]),(3,.box 24 [.d (iD g.vars),.d (iD g.terms),.d (iD g.start),.own 900 k]),(900,.row 68 2 ((g.Aa.take k).map (Za3 false)))]) (fun k=>g.Aa.length - k) 0 (Hh _) ?_;intro k hk;by_cases hlt:k < g.Aa.length
 ·have hrk:=hg.right _ (He hlt);have hcl:=ZcA (t:=t) (xs:=g.Aa[k].right) (by omega);have hlk:(g.Aa.take k).length=k:=by rw[Hs];omega
  have e:(g.Aa.take k).map (Za3 false)++[.agg [iD g.Aa[k].left,.sl false 1 (g.Aa[k].right.map iD)]]=(g.Aa.take (k+1)).map (Za3 false):=by
   rw[HD hlt,Ho];rfl
  refine VA ?_;refine Zab [(5,905)] (hA:=hcl) (hr:=?_);refine VA ?_;rw[e];exact Zad (k+1)
 ·obtain rfl:k=g.Aa.length:=by omega
  rw[HO];refine VA ?_;exact fin
section
variable {g:Ac} {w:List Int}
theorem ZwG (hg:g.ok) (hcy:cycL g=[]) (hw:w.length≤100000) (hwr:∀ x∈w,0≤x∧x≤1000000) (v i j:Int) :
  Af Tryz.prog 54 [.ptr 1000 0,I v,I i,I j] (cxH g w (nulB g) (Ak g w Zae)) (I ((ofC g w (Ak g w Zae) v i j:Nat):Int)) (cxH g w (nulB g) (Ak g w Zae)):=by
 by_cases hin:0≤v∧v < g.vars∧0≤i∧i≤j∧j≤w.length
 ·have e:ofC g w (Ak g w Zae) v i j=Ak g w Zae v.toNat i.toNat j.toNat:=by unfold ofC;rw[Hb hin]
  rw[e];obtain⟨h1,h2,h3,h4,h5⟩:=hin;have:=ZwF hg hcy hw hwr (muC g v.toNat i.toNat j.toNat+1) v.toNat i.toNat j.toNat (by omega) (by omega) (by omega) (by omega);rw[show ((v.toNat:Nat):Int)=v by omega,show ((i.toNat:Nat):Int)=i by omega,show ((j.toNat:Nat):Int)=j by omega] at this;exact this
 ·have e:ofC g w (Ak g w Zae) v i j=0:=by unfold ofC;rw[Ha hin]
  rw[e];have hwt:=Zea (g:=g) (w:=w) (nl:=nulB g) (N:=Ak g w Zae) hw i j;have hb:0≤v→v < g.vars→Zb6 w i j=false:=fun h1 h2=>HC (fun h=>hin ⟨h1,h2,h⟩)
  generalize Ak g w Zae=N at *;generalize nulB g=NB at *;generalize Zb6 w i j=wb at *;refine Af.intro (n:=82) Tryz.func54 (hw:=?_);simp only[Zal];by_cases h1:v < 0
  ·((repeat (first|refine wk ?_|refine Zaa (hr:=?_)));(repeat (first|refine wkz ?_|refine Zaa (hr:=?_)));(repeat (first|refine wk ?_|refine Zaa (hr:=?_)));exact fin)
  ·by_cases h2:g.vars≤v
   ·((repeat (first|refine wk ?_|refine Zaa (hr:=?_)));(repeat (first|refine wkz ?_|refine Zaa (hr:=?_)));(repeat (first|refine wk ?_|refine Zaa (hr:=?_)));exact fin)
   ·have h3:=hb (by omega) (by omega);subst h3;refine VA ?_;refine Zau [(1000,1000),(1001,1001)] (hA:=hwt) (hr:=?_);refine VA ?_;exact fin
theorem ZDO (hg:g.ok) (hcy:cycL g=[]) (hw:w.length≤100000) (hwr:∀ x∈w,0≤x∧x≤1000000) {j:Nat} (hj:j≤w.length) :
  OkC Tryz.prog g w (Ak g w Zae) j (fun suf _=>∃ r∈g.Aa,∃ pre,r.right=pre++suf):=by
 refine⟨fun s rest i' hq=>?_,fun l i' hq=>?_,fun s rest i' hq x hx=>?_,fun s rest i' m hq him hmj hall=>?_,fun s rest i' m hq him hs=>?_⟩
 ·obtain⟨r,hr,pre,e2⟩:=hq;have h1:=hg.hi r hr s (by rw[e2];simp);have h2:=hg.lo r hr s (by rw[e2];simp);have:=hg.terms;exact⟨h1,by omega⟩
 ·obtain⟨r,hr,pre,e2⟩:=hq;have h1:=hg.right r hr;have:=Hy List.length e2;simp at this;omega
 ·obtain⟨r,hr,pre,e2⟩:=hq;exact hg.hi r hr x (by rw[e2];simp[hx])
 ·obtain⟨r,hr,pre,e2⟩:=hq;have h1:=hg.hi r hr (s:Int) (by rw[e2];simp);exact ZwF hg hcy hw hwr (muC g s i' m+1) s i' m (by omega) h1 him (by omega)
 ·obtain⟨r,hr,pre,e2⟩:=hq;exact⟨r,hr,pre++[s],by rw[e2];simp⟩
theorem ZwH (hg:g.ok) (hcy:cycL g=[]) (hw:w.length≤100000) (hwr:∀ x∈w,0≤x∧x≤1000000) (r i j:Int) :
  Af Tryz.prog 153 [.ptr 1000 0,I r,I i,I j] (cxH g w (nulB g) (Ak g w Zae)) (I ((ruC g w Zae (Ak g w Zae) r i j:Nat):Int)) (cxH g w (nulB g) (Ak g w Zae)):=by
 have hrl:=hg.Aa;have hwt:=Zea (g:=g) (w:=w) (nl:=nulB g) (N:=Ak g w Zae) hw i j;by_cases hin:0≤r∧r < g.Aa.length∧0≤i∧i≤j∧j≤w.length
 ·have e:ruC g w Zae (Ak g w Zae) r i j=min Zae (wcn (Ak g w Zae) w (Zaj g r) i.toNat j.toNat):=by unfold ruC;rw[Hb hin]
  rw[e];obtain⟨h1,h2,h3⟩:=hin;rw[show Zb6 w i j=true from Hu h3] at hwt;obtain⟨h3,h4,h5⟩:=h3;obtain⟨rn,rfl⟩:∃ rn:Nat,r=(rn:Int):=⟨r.toNat,by omega⟩
  obtain⟨a,rfl⟩:∃ a:Nat,i=(a:Int):=⟨i.toNat,by omega⟩
  obtain⟨b,rfl⟩:∃ b:Nat,j=(b:Int):=⟨j.toNat,by omega⟩
  have hrn:rn < g.Aa.length:=by omega
  simp only[Hn];rw[Zax hrn];have hrow:=Zrm hg hw hwr (fun v i j=>ZgT g w Zae v i j) (fun v i h=>Ze3 hg h) (by omega) (ZDO hg hcy hw hwr (j:=b) (by omega)) g.Aa[rn].right a false ⟨_,He hrn,[],rfl⟩ (by omega);have hn1:¬ ((rn:Nat):Int) < 0:=by omega
  have hn2:¬ (g.Aa.length:Int)≤((rn:Nat):Int):=by omega
  generalize min Zae (wcn (Ak g w Zae) w g.Aa[rn].right a b)=res at *;generalize Ak g w Zae=N at *;generalize nulB g=NB at *;refine Af.intro (n:=41) Tryz.func153 (hw:=?_);simp only[Zal];refine VA ?_;refine Zau [(1000,1000),(1001,1001)] (hA:=hwt) (hr:=?_);refine VA ?_;refine Zau [(1000,1000),(1001,1001)] (hA:=hrow) (hr:=?_);refine VA ?_;exact fin
 ·have e:ruC g w Zae (Ak g w Zae) r i j=0:=by unfold ruC;rw[Ha hin]
  rw[e];have hb:0≤r→r < g.Aa.length→Zb6 w i j=false:=fun h1 h2=>HC (fun h=>hin ⟨h1,h2,h⟩)
  generalize Ak g w Zae=N at *;generalize nulB g=NB at *;generalize Zb6 w i j=wb at *;refine Af.intro (n:=41) Tryz.func153 (hw:=?_);simp only[Zal];by_cases h1:r < 0
  ·((repeat (first|refine wk ?_|refine Zaa (hr:=?_)));(repeat (first|refine wkz ?_|refine Zaa (hr:=?_)));(repeat (first|refine wk ?_|refine Zaa (hr:=?_)));exact fin)
  ·by_cases h2:(g.Aa.length:Int)≤r
   ·((repeat (first|refine wk ?_|refine Zaa (hr:=?_)));(repeat (first|refine wkz ?_|refine Zaa (hr:=?_)));(repeat (first|refine wk ?_|refine Zaa (hr:=?_)));exact fin)
   ·have h3:=hb (by omega) (by omega);subst h3;refine VA ?_;refine Zau [(1000,1000),(1001,1001)] (hA:=hwt) (hr:=?_);refine VA ?_;exact fin
theorem ZeY (hg:g.ok) (hcy:cycL g=[]) (hw:w.length≤100000) (hwr:∀ x∈w,0≤x∧x≤1000000) :
  Af Tryz.prog 23 [.ptr 1000 0] (cxH g w (nulB g) (Ak g w Zae)) (I ((ofC g w (Ak g w Zae) g.start 0 w.length:Nat):Int)) (cxH g w (nulB g) (Ak g w Zae)):=by
 have hof:=ZwG hg hcy hw hwr g.start 0 w.length;generalize ofC g w (Ak g w Zae) g.start 0 w.length=res at *;generalize Ak g w Zae=N at *;generalize nulB g=NB at *;refine Af.intro (n:=15) Tryz.func23 (hw:=?_);simp only[Zal];refine VA ?_;refine Zau [(1000,1000),(1001,1001)] (hA:=hof) (hr:=?_);refine VA ?_;exact fin
theorem ZuK (hg:g.ok) (hcy:cycL g=[]) (hw:w.length≤100000) (hwr:∀ x∈w,0≤x∧x≤1000000) (r k i m j:Int) :
  Af Tryz.prog 206 [.ptr 1000 0,I r,I k,I i,I m,I j] (cxH g w (nulB g) (Ak g w Zae)) (I ((spC g w Zae (Ak g w Zae) r k i m j:Nat):Int)) (cxH g w (nulB g) (Ak g w Zae)):=by
 have hrl:=hg.Aa;have hwt1:=Zea (g:=g) (w:=w) (nl:=nulB g) (N:=Ak g w Zae) hw i m;have hwt2:=Zea (g:=g) (w:=w) (nl:=nulB g) (N:=Ak g w Zae) hw m j;by_cases hin:0≤r∧r < g.Aa.length∧0≤k∧k < (Zaj g r).length∧0≤i∧i≤m∧m≤j∧j≤w.length
 ·have e:spC g w Zae (Ak g w Zae) r k i m j=min Zae (symN (Ak g w Zae) w ((Zaj g r).getD k.toNat 0) i.toNat m.toNat * wcn (Ak g w Zae) w ((Zaj g r).drop (k.toNat+1)) m.toNat j.toNat):=by unfold spC;rw[Hb hin]
  rw[e];obtain⟨h1,h2,h3,h4,h5,h6,h7,h8⟩:=hin;rw[show Zb6 w i m=true from Hu ⟨by omega,by omega,by omega⟩] at hwt1;rw[show Zb6 w m j=true from Hu ⟨by omega,by omega,by omega⟩] at hwt2;obtain⟨rn,rfl⟩:∃ rn:Nat,r=(rn:Int):=⟨r.toNat,by omega⟩
  obtain⟨kn,rfl⟩:∃ kn:Nat,k=(kn:Int):=⟨k.toNat,by omega⟩
  obtain⟨a,rfl⟩:∃ a:Nat,i=(a:Int):=⟨i.toNat,by omega⟩
  obtain⟨b,rfl⟩:∃ b:Nat,m=(b:Int):=⟨m.toNat,by omega⟩
  obtain⟨c,rfl⟩:∃ c:Nat,j=(c:Int):=⟨j.toNat,by omega⟩
  have hrn:rn < g.Aa.length:=by omega
  simp only[Hn];rw[Zax hrn] at *;have hrr:=hg.right _ (He hrn);have hkn:kn < g.Aa[rn].right.length:=by omega
  have e1:g.Aa[rn].right.drop kn=g.Aa[rn].right[kn]::g.Aa[rn].right.drop (kn+1):=Hw hkn;have e2:g.Aa[rn].right.getD kn 0=g.Aa[rn].right[kn]:=by rw[Hf,Hj hkn];rfl
  have hq:∃ r∈g.Aa,∃ pre,r.right=pre++(g.Aa[rn].right[kn]::g.Aa[rn].right.drop (kn+1)):=⟨_,He hrn,g.Aa[rn].right.take kn,by rw[←e1,Gh]⟩
  have hOk:=ZDO hg hcy hw hwr (j:=c) (by omega);have hfirst:=Zmi (t:=false) hg hw hwr (fun v i j=>ZgT g w Zae v i j) (fun v i h=>Ze3 hg h) (by omega) hOk (right:=g.Aa[rn].right.drop kn) e1 (i:=a) (m:=b) hq (by omega) (by omega)
   (fun hqr=>Zrm hg hw hwr (fun v i j=>ZgT g w Zae v i j) (fun v i h=>Ze3 hg h) (by omega) hOk _ b false hqr (by omega))
  rw[←e2] at hfirst;simp only[ints,List.map_drop] at hfirst;have hn1:¬ ((rn:Nat):Int) < 0:=by omega
  have hn2:¬ (g.Aa.length:Int)≤((rn:Nat):Int):=by omega
  have hn3:¬ ((kn:Nat):Int) < 0:=by omega
  have hn4:¬ (g.Aa[rn].right.length:Int)≤((kn:Nat):Int):=by omega
  generalize min Zae (symN (Ak g w Zae) w (g.Aa[rn].right.getD kn 0) a b * wcn (Ak g w Zae) w (g.Aa[rn].right.drop (kn+1)) b c)=res at *;generalize Ak g w Zae=N at *;generalize nulB g=NB at *;refine Af.intro (n:=73) Tryz.func206 (hw:=?_);simp only[Zal];refine VA ?_;refine Zau [(1000,1000),(1001,1001)] (hA:=hwt1) (hr:=?_);refine VA ?_;refine Zau [(1000,1000),(1001,1001)] (hA:=hwt2) (hr:=?_);refine VA ?_;rw[HO];refine Zau [(1000,1000),(1001,1001)] (hA:=hfirst) (hr:=?_);refine VA ?_;exact fin
 ·have e:spC g w Zae (Ak g w Zae) r k i m j=0:=by unfold spC;rw[Ha hin]
  rw[e];have hb1:0≤r→r < g.Aa.length→0≤k→k < (Zaj g r).length→Zb6 w i m=true→Zb6 w m j=false:=fun h1 h2 h3 h4 h5=>HC (fun h=>by
   unfold Zb6 at h5;rw[HZ] at h5;exact hin ⟨h1,h2,h3,h4,h5.1,h5.2.1,h.2.1,h.2.2⟩)
  generalize Ak g w Zae=N at *;generalize nulB g=NB at *;generalize hwa:Zb6 w i m=wa at *;generalize Zb6 w m j=wb at *;refine Af.intro (n:=73) Tryz.func206 (hw:=?_);simp only[Zal];by_cases h1:r < 0
  ·((repeat (first|refine wk ?_|refine Zaa (hr:=?_)));(repeat (first|refine wkz ?_|refine Zaa (hr:=?_)));(repeat (first|refine wk ?_|refine Zaa (hr:=?_)));exact fin)
  ·by_cases h2:(g.Aa.length:Int)≤r
   ·((repeat (first|refine wk ?_|refine Zaa (hr:=?_)));(repeat (first|refine wkz ?_|refine Zaa (hr:=?_)));(repeat (first|refine wk ?_|refine Zaa (hr:=?_)));exact fin)
   ·obtain⟨rn,rfl⟩:∃ rn:Nat,r=(rn:Int):=⟨r.toNat,by omega⟩
    have hrn:rn < g.Aa.length:=(by omega);have hrr:=hg.right _ (He hrn);rw[Zax hrn] at hb1 hin;by_cases h3:k < 0
    ·((repeat (first|refine wk ?_|refine Zaa (hr:=?_)));(repeat (first|refine wkz ?_|refine Zaa (hr:=?_)));(repeat (first|refine wk ?_|refine Zaa (hr:=?_)));exact fin)
    ·by_cases h4:(g.Aa[rn].right.length:Int)≤k
     ·((repeat (first|refine wk ?_|refine Zaa (hr:=?_)));(repeat (first|refine wkz ?_|refine Zaa (hr:=?_)));(repeat (first|refine wk ?_|refine Zaa (hr:=?_)));exact fin)
     ·cases wa with
      | false =>
       refine VA ?_;refine Zau [(1000,1000),(1001,1001)] (hA:=hwt1) (hr:=?_);refine VA ?_;refine VB ?_;refine VA ?_;exact fin
      | true =>
       have h5:=hb1 (by omega) (by omega) (by omega) (by omega) rfl;subst h5;refine VA ?_;refine Zau [(1000,1000),(1001,1001)] (hA:=hwt1) (hr:=?_);refine VA ?_;refine Zau [(1000,1000),(1001,1001)] (hA:=hwt2) (hr:=?_);refine VA ?_;exact fin
end
section
variable {P:Program} {n:Nat} {Q:Exit→Fr→Hp→Prop} {fr:Fr} {h:Hp}
theorem Ziv {c0:Code} (k j k0:Nat) {n0 e sz:Nat} {xs:List D} {ty:TypeId} {cs:List V} (hk:Ah h k=some (.box ty cs)) (hj:cs[j]? = some (.own k0 n0)) (h0:Ah h k0=some (.row e sz xs)) (hn:xs.length=n0)
  (hc:aw P n c0 Q fr ((k,.box ty (cs.set j (.d (.sl false sz xs))))::(k0,.froz sz xs)::h)):aw P n c0 Q fr h:=by
 have hne:k0≠k:=by rintro rfl;rw[hk] at h0;cases h0
 exact Zaz k0 h0 (ZoO k j _ (by rw[Zar _ _ hne];exact hk) hj (Co.froz (Zai _ _ _) hn.symm) rfl hc)
theorem ZzY {c0:Code} (k:Nat) (l:ML) (p:ML→Prop) (hk:Ah h k=some (.mp (Eq l))) (hp:p l) (hc:aw P n c0 Q fr ((k,.mp p)::h)):aw P n c0 Q fr h:=fun G E a w hn C=>by
 obtain⟨es,clock,l',h1,h2,rfl⟩:=C.heap.obs k _ hk;exact hc G E a w hn (C.setMap hk (Ext.refl _ _) ⟨es,clock,_,h1,h2,hp⟩)
end
def wBad (t:Int):List Int→Nat→Option Nat
 | [],_=>none
 | x::r,i=>if x < 0∨t≤x then some i else wBad t r (i+1)
theorem ZwI {t:Int} {w:List Int} {k:Nat} (h:k < w.length):wBad t (w.drop k) k=if w[k] < 0∨t≤w[k] then some k else wBad t (w.drop (k+1)) (k+1):=by
 rw[Hw h,wBad]
theorem Zpl {t:Int}:∀ {w:List Int} {i:Nat},wBad t w i=none→∀ x∈w,0≤x∧x < t
 | [],_,_,x,hx=>by cases hx
 | y::r,i,h,x,hx=>by
  rw[wBad] at h;split at h
  ·cases h
  ·rename_i hn;rcases List.mem_cons.1 hx with rfl|hx
   ·omega
   ·exact Zpl h x hx
def chF (g:Ac) (w:List Int):Zcf:=if (Zac g).code=0 then (if 12 < w.length then ⟨15, -1⟩ else match wBad g.terms w 0 with
  | some i=>⟨15,(i:Int)⟩
  | none=>if cycL g=[] then ⟨0,0⟩ else ⟨10, -1⟩) else Zac g
structure ChOk (g:Ac) (w:List Int):Prop where
 ok:g.ok
 cyc:cycL g=[]
 len:w.length≤12
 syms:∀ x∈w,0≤x∧x < g.terms
theorem ZsS {g:Ac} {w:List Int} (h:(chF g w).code=0):ChOk g w∧chF g w=⟨0,0⟩:=by
 have h':=h;unfold chF at h ⊢;split at h
 ·rename_i hf;split at h
  ·cases h
  ·rename_i hl;split at h
   ·cases h
   ·rename_i hb;split at h
    ·rename_i hc;exact⟨⟨Zbd hf,hc,by omega,Zpl hb⟩,by rw[Hb hf,Ha hl];simp[hb,hc]⟩
    ·cases h
 ·rename_i hf;exact absurd h hf
theorem ChOk.small {g:Ac} {w:List Int} (h:ChOk g w):w.length≤100000∧∀ x∈w,0≤x∧x≤1000000:=⟨by have:=h.len;omega,fun x hx=>by have:=h.syms x hx;have:=h.ok.terms;omega⟩
theorem Zrn {g:Ac} (hg:g.ok):cycL g=ZfT (ledM false g) g.vars.toNat:=by unfold cycL;rw[Hb (by rw[hg.fault])]
theorem ZwJ (M:Mat) (V:Nat):(ZfT M V).length≤V:=by unfold ZfT;simp only[Hi];exact Hq (Gd _ _) (by simp)
theorem ne_nil {l:List Int}:l=[]↔¬ (0:Int) < (l.length:Nat):=by
 cases l <;> simp
theorem ZzZ {t u:Bool} {g:Ac} {w:List Int} (hf:g.fit) (hw:w.length≤100000000) (hn:(chF g w).code≠0):Af Tryz.prog 22 [.d (Zbr t g),.d (ints u w)] [] (.tup [.d (.raw (.pointer none)),.d (Zbu (chF g w))]) []:=by
 have hgf:=ZaT (t:=t) (g:=g) hf.Aa hf.right;refine Af.intro (n:=83) Tryz.func22 (hw:=?_);simp only[Zal];refine VA ?_;refine Zab [] (hA:=hgf) (hr:=?_);by_cases h0:(Zac g).code=0
 ·have hg:=Zbd h0;have hcy:=ZeR (t:=t) hf;rw[hg.fault] at hcy;have hv:=hg.vars;have hcl:=ZwJ (ledM false g) g.vars.toNat;rw[←Zrn hg] at hcl;by_cases h1:12 < w.length
  ·have e:chF g w=⟨15, -1⟩:=by unfold chF;rw[Hb h0,Hb h1]
   rw[e];refine VA ?_;exact fin
  ·have e:chF g w=match wBad g.terms w 0 with|some i=>⟨15,(i:Int)⟩|none=>if cycL g=[] then ⟨0,0⟩ else ⟨10, -1⟩:=by unfold chF;rw[Hb h0,Ha h1]
   rw[e] at hn ⊢;refine VA ?_;refine Zak (X:=Nat) (fun k=>k≤w.length∧wBad g.terms w 0=wBad g.terms (w.drop k) k) (fun k=>[(28,I k),(27,I w.length),(26,.d (ints u w)),(5,.ptr 5 0),(2,.ptr 2 0),(1,.d (ints u w))]) (fun k=>[(2,ZaE t g),(5,.box 31 [.d (iD 0),.d (iD 0)])]) (fun k=>w.length - k) 0 ⟨Hh _,rfl⟩ ?_;rintro k ⟨k1,k2⟩;by_cases hlt:k < w.length
   ·rw[ZwI hlt] at k2;by_cases hb1:w[k] < 0
    ·rw[Hb (.inl hb1)] at k2;rw[k2];refine VA ?_;refine VB ?_;refine VA ?_;exact fin
    ·by_cases hb2:g.terms≤w[k]
     ·rw[Hb (.inr hb2)] at k2;rw[k2];refine VA ?_;exact fin
     ·rw[Ha (by omega)] at k2;refine VA ?_;exact Zad (k+1) (a:=⟨by omega,k2⟩)
   ·rw[HL (by omega),wBad] at k2;rw[k2] at hn ⊢;dsimp only at hn ⊢;by_cases hc:cycL g=[]
    ·rw[Hb hc] at hn;exact absurd rfl hn
    ·rw[Ha hc];have hc':(0:Int) < ((cycL g).length:Nat):=HN fun h=>hc (ne_nil.2 h)
     generalize cycL g=CY at *;refine VA ?_;refine Zab [] (hA:=hcy) (hr:=?_);refine VA ?_;exact fin
 ·have e:chF g w=Zac g:=by unfold chF;rw[Ha h0]
  rw[e];refine VA ?_;exact fin
theorem listB_memC {is:List Bool} {x:Int}:x∈Zba is↔has is x=true:=by
 unfold Zba has;simp only[Gv,List.mem_filter,Jc,Hr,HZ];constructor
 ·rintro⟨k,⟨h1,h2⟩,rfl⟩;exact⟨by omega,by simpa using h2⟩
 ·rintro⟨h1,h2⟩;refine⟨x.toNat,⟨?_,h2⟩,by omega⟩;refine HN fun h=>?_
  rw[Hf,HI (by omega)] at h2;cases h2
def flg (V:Nat) (l:List Int) (k:Nat):List Bool:=(List.range V).map fun (x:Nat)=>decide ((x:Int)∈l.take k)
theorem Zz0 (V:Nat) (l:List Int):flg V l 0=List.replicate V false:=by
 refine GP (by simp[flg]) fun k h1 h2=>?_
 simp[flg]
theorem Zz1 {V:Nat} {l:List Int} {k:Nat} {v:Nat} (hk:k < l.length) (hv:l[k]=(v:Int)):(flg V l k).set v true=flg V l (k+1):=by
 refine GP (by simp[flg]) fun x h1 h2=>?_
 rw[List.getElem_set];simp only[flg,Gu,List.getElem_range];rw[HD hk,hv];by_cases e:v=x
 ·subst e;simp
 ·rw[Ha e];congr 1;simp only[HV,Gw,eq_iff_iff];exact⟨.inl,fun h=>h.elim id (fun h=>by omega)⟩
theorem ZCm {is:List Bool}:flg is.length (Zba is) (Zba is).length=is:=by
 refine GP (by simp[flg]) fun x h1 h2=>?_
 simp only[flg,Gu,List.getElem_range,HO];have:(x:Int)∈Zba is↔is[x]=true:=by
  rw[listB_memC,ZbH,Hf,Hj h2,HW]
 cases hb:is[x] with
 | true=>exact Hu (this.2 hb)
 | false=>exact HC (fun h=>by rw[this.1 h] at hb;cases hb)
abbrev cxH2 (g:Ac) (w:List Int) (nl:List Bool) (N:Cube):Hp:=[(62,cxBx g w nl 60),(60,.mp (ZbD N))]
theorem ZwK (N:Cube):ZbD N []:=fun x hx=>by cases hx
theorem ZsT {t u:Bool} {g:Ac} {w:List Int} (hC:ChOk g w):Af Tryz.prog 22 [.d (Zbr t g),.d (ints u w)] [] (.tup [.ptr 62 0,.d (Zbu ⟨0,0⟩)]) (cxH2 g w (nulB g) (Ak g w Zae)):=by
 have hg:=hC.ok;have hf:=hg.fit;have hgf:=ZaT (t:=t) (g:=g) hf.Aa hf.right;rw[hg.fault] at hgf;have hcy:=ZeR (t:=t) hf;rw[hg.fault,hC.cyc] at hcy;have hnu:=Zpu (t:=t) hf;rw[hg.fault,show ZwV g=Zba (nulB g) by unfold ZwV;rw[Hb (by rw[hg.fault])]] at hnu;have hv:=hg.vars;have hv1:=hg.vars1;have hrl:=hg.Aa;have hnl:(nulB g).length=g.vars.toNat:=ZcR hg;have hll:=ZdS (nulB g);have hlin:∀ k (h:k < (Zba (nulB g)).length),∃ v:Nat,(Zba (nulB g))[k]=(v:Int)∧v < g.vars.toNat:=fun k h=>by
  have h1:=listB_memC.1 (He h);have h2:=Zfe h1;exact⟨((Zba (nulB g))[k]).toNat,by omega,by omega⟩
 have hown:=ZhD (t:=t) hf;have hcl:=ZcA (t:=u) (xs:=w) (by have:=hC.len;omega);have hlen:=hC.len;have hsy:=hC.syms;have hend:=ZCm (is:=nulB g);rw[hnl] at hend hll;have hst:=fun k v=>Zz1 (V:=g.vars.toNat) (l:=Zba (nulB g)) (k:=k) (v:=v)
 have hz:=Zz0 g.vars.toNat (Zba (nulB g));have hgd:=ZwK (Ak g w Zae);have hfl:∀ k,(flg g.vars.toNat (Zba (nulB g)) k).length=g.vars.toNat:=fun k=>by simp[flg]
 obtain⟨V,hVe⟩:∃ V:Nat,g.vars.toNat=V:=⟨_,rfl⟩
 have hVi:g.vars=(V:Int):=by omega
 generalize Ak g w Zae=N at *;generalize Zba (nulB g)=NL at *;generalize nulB g=NB at *;rw[hVe] at *;refine Af.intro (n:=83) Tryz.func22 (hw:=?_);simp only[Zal];refine VA ?_;refine Zab [] (hA:=hgf) (hr:=?_);refine VA ?_;refine Zak (X:=Nat) (fun k=>k≤w.length) (fun k=>[(28,I k),(27,I w.length),(26,.d (ints u w)),(5,.ptr 5 0),(2,.ptr 2 0),(1,.d (ints u w))]) (fun k=>[(2,ZaE t g),(5,.box 31 [.d (iD 0),.d (iD 0)])]) (fun k=>w.length - k) 0 (Hh _) ?_;intro k hk;by_cases hlt:k < w.length
 ·have h1:=hsy _ (He hlt);have h2:¬ w[k] < 0:=by omega
  have h3:¬ g.terms≤w[k]:=by omega
  refine VA ?_;exact Zad (k+1)
 ·refine VA ?_;refine Zab [] (hA:=hcy) (hr:=?_);refine VA ?_;refine Zab [(900,954)] (hA:=hown) (hr:=?_);refine VA ?_;refine Zab [(5,956)] (hA:=hcl) (hr:=?_);refine VA ?_;refine Zzj rfl rfl Zag rfl ?_;refine VA ?_;refine Zab [] (hA:=hnu) (hr:=?_);refine VA ?_;refine Ziv 62 3 954 rfl rfl rfl (by simp) ?_;refine Ziv 62 4 956 rfl rfl rfl (by simp) ?_;refine ZzY 60 [] (ZbD N) rfl hgd ?_;have e:List.replicate V (bD false)=(flg V NL 0).map bD:=by rw[hz,List.map_replicate]
  refine Zak (X:=Nat) (fun k=>k≤NL.length) (fun k=>[(70,I k),(69,I NL.length),(68,.d (ints false NL)),(11,.ptr 62 0),(5,.ptr 5 0)]) (fun k=>[(5,.box 31 [.d (iD 0),.d (iD 0)]),(62,.box 91 [.d (iD g.vars),.d (iD g.terms),.d (iD g.start),.d (ZaS false g.Aa),.d (ints false w),.own 59 V,.mapv 60]),(59,.row 4 1 ((flg V NL k).map bD)),(60,.mp (ZbD N))]) (fun k=>NL.length - k) 0 (Hh _) ?_;clear e;intro k hk;have hfk:=hfl k;by_cases hlt2:k < NL.length
  ·obtain⟨v,hv1,hv2⟩:=hlin k hlt2;have e:((flg V NL k).map bD).set v (bD true)=(flg V NL (k+1)).map bD:=by rw[←GN,hst k v hlt2 hv1]
   generalize flg V NL k=F1 at *;refine VA ?_;exact Zad (k+1)
  ·obtain rfl:k=NL.length:=by omega
   rw[hend];rw[hend] at hfk;repeat (first|refine Ziv 62 5 59 rfl rfl rfl (by simp[hfk]) ?_|refine wk1 ?_)
   exact fin
end Go.Proofs.YtbpmepgnjanhnaaGreat
