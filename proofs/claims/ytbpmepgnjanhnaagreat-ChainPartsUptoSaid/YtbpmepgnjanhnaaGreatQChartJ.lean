import Derived.Test.YtbpmepgnjanhnaaGreatQChF
import Derived.Test.YtbpmepgnjanhnaaGreatF2
set_option linter.unusedVariables false
set_option linter.unusedSimpArgs false
set_option linter.unusedSectionVars false
namespace Go.Proofs.YtbpmepgnjanhnaaGreat
open Go.RowKit
set_option maxRecDepth 100000
theorem ZfI {t:Bool} {g:Gram} (hg:g.fit):ACalls Tryz.prog 43 [.d (Za6 t g)] [] (.agg [.d (iD g.vars),.d (iD g.terms),.d (iD g.start),.own 900 g.rules.length]) [(900,.row 68 2 (g.rules.map (ZaR false)))]:=by
 refine ACalls.intro (n:=28) Tryz.func43 rfl rfl (by simp) (by rfl) ?_
 simp only[Zal]
 have hl:=hg.rules
 refine VA ?_
 refine ZaB 3 3 900 68 2 rfl rfl rfl rfl ?_
 refine Zak (X:=Nat) (fun k=>k≤g.rules.length) (fun k=>[(11,I k),(10,I g.rules.length),(9,.d (ZaL t g.rules)),(3,.ptr 3 0),(2,.ptr 2 0),(1,.ptr 1 0)]) (fun k=>[(1,Zay t g),(2,.box 24 [.d (iD 0),.d (iD 0),.d (iD 0),.d (.raw (.slice none 0 0))]),(3,.box 24 [.d (iD g.vars),.d (iD g.terms),.d (iD g.start),.own 900 k]),(900,.row 68 2 ((g.rules.take k).map (ZaR false)))]) (fun k=>g.rules.length - k) 0 (Nat.zero_le _) ?_
 intro k hk
 by_cases hlt:k < g.rules.length
 ·have hrk:=hg.right _ (List.getElem_mem hlt)
  have hcl:=ZbX (t:=t) (xs:=g.rules[k].right) (by omega)
  have hlk:(g.rules.take k).length=k:=by rw[List.length_take];omega
  have e:(g.rules.take k).map (ZaR false)++[.agg [iD g.rules[k].left,.sl false 1 (g.rules[k].right.map iD)]]=(g.rules.take (k+1)).map (ZaR false):=by
   rw[List.take_succ_eq_append_getElem hlt,List.map_append];rfl
  refine VA ?_
  refine Zab [(5,905)] (hA:=hcl) (hr:=?_)
  refine VA ?_
  rw[e]
  exact Zae (k+1)
 ·obtain rfl:k=g.rules.length:=by omega
  rw[List.take_length]
  refine VA ?_
  exact fin
section
variable {g:Gram} {w:List Int}
set_option maxHeartbeats 4000000 in
theorem ZrN (hg:g.ok) (hcy:cycL g=[]) (hw:w.length≤100000) (hwr:∀ x∈w,0≤x∧x≤1000000) (v i j:Int) :
  ACalls Tryz.prog 54 [.ptr 1000 0,I v,I i,I j] (cxH g w (nulB g) (wcns g w Zag)) (I ((ofC g w (wcns g w Zag) v i j:Nat):Int)) (cxH g w (nulB g) (wcns g w Zag)):=by
 by_cases hin:0≤v∧v < g.vars∧0≤i∧i≤j∧j≤w.length
 ·have e:ofC g w (wcns g w Zag) v i j=wcns g w Zag v.toNat i.toNat j.toNat:=by unfold ofC;rw[if_pos hin]
  rw[e]
  obtain⟨h1,h2,h3,h4,h5⟩:=hin
  have:=ZrM hg hcy hw hwr (muC g v.toNat i.toNat j.toNat+1) v.toNat i.toNat j.toNat (by omega) (by omega) (by omega) (by omega)
  rw[show ((v.toNat:Nat):Int)=v by omega,show ((i.toNat:Nat):Int)=i by omega,show ((j.toNat:Nat):Int)=j by omega] at this
  exact this
 ·have e:ofC g w (wcns g w Zag) v i j=0:=by unfold ofC;rw[if_neg hin]
  rw[e]
  have hwt:=Zc7 (g:=g) (w:=w) (nl:=nulB g) (N:=wcns g w Zag) hw i j
  have hb:0≤v→v < g.vars→ZbA w i j=false:=fun h1 h2=>decide_eq_false (fun h=>hin ⟨h1,h2,h⟩)
  generalize wcns g w Zag=N at *
  generalize nulB g=NB at *
  generalize ZbA w i j=wb at *
  refine ACalls.intro (n:=82) Tryz.func54 rfl rfl (by simp) (by rfl) ?_
  simp only[Zal]
  by_cases h1:v < 0
  ·((repeat (first|refine wk ?_|refine Zaa (hr:=?_)));(repeat (first|refine wkz ?_|refine Zaa (hr:=?_)));(repeat (first|refine wk ?_|refine Zaa (hr:=?_)));exact fin)
  ·by_cases h2:g.vars≤v
   ·((repeat (first|refine wk ?_|refine Zaa (hr:=?_)));(repeat (first|refine wkz ?_|refine Zaa (hr:=?_)));(repeat (first|refine wk ?_|refine Zaa (hr:=?_)));exact fin)
   ·have h3:=hb (by omega) (by omega)
    subst h3
    refine VA ?_
    refine Zau [(1000,1000),(1001,1001)] (hA:=hwt) (hr:=?_)
    refine VA ?_
    exact fin
theorem ZxT (hg:g.ok) (hcy:cycL g=[]) (hw:w.length≤100000) (hwr:∀ x∈w,0≤x∧x≤1000000) {j:Nat} (hj:j≤w.length) :
  OkC Tryz.prog g w (wcns g w Zag) j (fun suf _=>∃ r∈g.rules,∃ pre,r.right=pre++suf):=by
 refine⟨fun s rest i' hq=>?_,fun l i' hq=>?_,fun s rest i' hq x hx=>?_,fun s rest i' m hq him hmj hall=>?_,fun s rest i' m hq him hs=>?_⟩
 ·obtain⟨r,hr,pre,e2⟩:=hq
  have h1:=hg.hi r hr s (by rw[e2];simp)
  have h2:=hg.lo r hr s (by rw[e2];simp)
  have:=hg.terms
  exact⟨h1,by omega⟩
 ·obtain⟨r,hr,pre,e2⟩:=hq
  have h1:=hg.right r hr
  have:=congrArg List.length e2
  simp at this;omega
 ·obtain⟨r,hr,pre,e2⟩:=hq
  exact hg.hi r hr x (by rw[e2];simp[hx])
 ·obtain⟨r,hr,pre,e2⟩:=hq
  have h1:=hg.hi r hr (s:Int) (by rw[e2];simp)
  exact ZrM hg hcy hw hwr (muC g s i' m+1) s i' m (by omega) h1 him (by omega)
 ·obtain⟨r,hr,pre,e2⟩:=hq
  exact⟨r,hr,pre++[s],by rw[e2];simp⟩
set_option maxHeartbeats 4000000 in
theorem ZrO (hg:g.ok) (hcy:cycL g=[]) (hw:w.length≤100000) (hwr:∀ x∈w,0≤x∧x≤1000000) (r i j:Int) :
  ACalls Tryz.prog 153 [.ptr 1000 0,I r,I i,I j] (cxH g w (nulB g) (wcns g w Zag)) (I ((ruC g w Zag (wcns g w Zag) r i j:Nat):Int)) (cxH g w (nulB g) (wcns g w Zag)):=by
 have hrl:=hg.rules
 have hwt:=Zc7 (g:=g) (w:=w) (nl:=nulB g) (N:=wcns g w Zag) hw i j
 by_cases hin:0≤r∧r < g.rules.length∧0≤i∧i≤j∧j≤w.length
 ·have e:ruC g w Zag (wcns g w Zag) r i j=min Zag (wcn (wcns g w Zag) w (Zam g r) i.toNat j.toNat):=by unfold ruC;rw[if_pos hin]
  rw[e]
  obtain⟨h1,h2,h3⟩:=hin
  rw[show ZbA w i j=true from decide_eq_true h3] at hwt
  obtain⟨h3,h4,h5⟩:=h3
  obtain⟨rn,rfl⟩:∃ rn:Nat,r=(rn:Int):=⟨r.toNat,by omega⟩
  obtain⟨a,rfl⟩:∃ a:Nat,i=(a:Int):=⟨i.toNat,by omega⟩
  obtain⟨b,rfl⟩:∃ b:Nat,j=(b:Int):=⟨j.toNat,by omega⟩
  have hrn:rn < g.rules.length:=by omega
  simp only[Int.toNat_natCast]
  rw[ZaW hrn]
  have hrow:=ZnA hg hw hwr (fun v i j=>Zgp g w Zag v i j) (fun v i h=>ZfS hg h) (by omega) (ZxT hg hcy hw hwr (j:=b) (by omega)) g.rules[rn].right a false ⟨_,List.getElem_mem hrn,[],rfl⟩ (by omega)
  have hn1:¬ ((rn:Nat):Int) < 0:=by omega
  have hn2:¬ (g.rules.length:Int)≤((rn:Nat):Int):=by omega
  generalize min Zag (wcn (wcns g w Zag) w g.rules[rn].right a b)=res at *
  generalize wcns g w Zag=N at *
  generalize nulB g=NB at *
  refine ACalls.intro (n:=41) Tryz.func153 rfl rfl (by simp) (by rfl) ?_
  simp only[Zal]
  refine VA ?_
  refine Zau [(1000,1000),(1001,1001)] (hA:=hwt) (hr:=?_)
  refine VA ?_
  refine Zau [(1000,1000),(1001,1001)] (hA:=hrow) (hr:=?_)
  refine VA ?_
  exact fin
 ·have e:ruC g w Zag (wcns g w Zag) r i j=0:=by unfold ruC;rw[if_neg hin]
  rw[e]
  have hb:0≤r→r < g.rules.length→ZbA w i j=false:=fun h1 h2=>decide_eq_false (fun h=>hin ⟨h1,h2,h⟩)
  generalize wcns g w Zag=N at *
  generalize nulB g=NB at *
  generalize ZbA w i j=wb at *
  refine ACalls.intro (n:=41) Tryz.func153 rfl rfl (by simp) (by rfl) ?_
  simp only[Zal]
  by_cases h1:r < 0
  ·((repeat (first|refine wk ?_|refine Zaa (hr:=?_)));(repeat (first|refine wkz ?_|refine Zaa (hr:=?_)));(repeat (first|refine wk ?_|refine Zaa (hr:=?_)));exact fin)
  ·by_cases h2:(g.rules.length:Int)≤r
   ·((repeat (first|refine wk ?_|refine Zaa (hr:=?_)));(repeat (first|refine wkz ?_|refine Zaa (hr:=?_)));(repeat (first|refine wk ?_|refine Zaa (hr:=?_)));exact fin)
   ·have h3:=hb (by omega) (by omega)
    subst h3
    refine VA ?_
    refine Zau [(1000,1000),(1001,1001)] (hA:=hwt) (hr:=?_)
    refine VA ?_
    exact fin
theorem ZdH (hg:g.ok) (hcy:cycL g=[]) (hw:w.length≤100000) (hwr:∀ x∈w,0≤x∧x≤1000000) :
  ACalls Tryz.prog 23 [.ptr 1000 0] (cxH g w (nulB g) (wcns g w Zag)) (I ((ofC g w (wcns g w Zag) g.start 0 w.length:Nat):Int)) (cxH g w (nulB g) (wcns g w Zag)):=by
 have hof:=ZrN hg hcy hw hwr g.start 0 w.length
 generalize ofC g w (wcns g w Zag) g.start 0 w.length=res at *
 generalize wcns g w Zag=N at *
 generalize nulB g=NB at *
 refine ACalls.intro (n:=15) Tryz.func23 rfl rfl (by simp) (by rfl) ?_
 simp only[Zal]
 refine VA ?_
 refine Zau [(1000,1000),(1001,1001)] (hA:=hof) (hr:=?_)
 refine VA ?_
 exact fin
set_option maxHeartbeats 4000000 in
theorem Zqq (hg:g.ok) (hcy:cycL g=[]) (hw:w.length≤100000) (hwr:∀ x∈w,0≤x∧x≤1000000) (r k i m j:Int) :
  ACalls Tryz.prog 206 [.ptr 1000 0,I r,I k,I i,I m,I j] (cxH g w (nulB g) (wcns g w Zag)) (I ((spC g w Zag (wcns g w Zag) r k i m j:Nat):Int)) (cxH g w (nulB g) (wcns g w Zag)):=by
 have hrl:=hg.rules
 have hwt1:=Zc7 (g:=g) (w:=w) (nl:=nulB g) (N:=wcns g w Zag) hw i m
 have hwt2:=Zc7 (g:=g) (w:=w) (nl:=nulB g) (N:=wcns g w Zag) hw m j
 by_cases hin:0≤r∧r < g.rules.length∧0≤k∧k < (Zam g r).length∧0≤i∧i≤m∧m≤j∧j≤w.length
 ·have e:spC g w Zag (wcns g w Zag) r k i m j=min Zag (symN (wcns g w Zag) w ((Zam g r).getD k.toNat 0) i.toNat m.toNat * wcn (wcns g w Zag) w ((Zam g r).drop (k.toNat+1)) m.toNat j.toNat):=by unfold spC;rw[if_pos hin]
  rw[e]
  obtain⟨h1,h2,h3,h4,h5,h6,h7,h8⟩:=hin
  rw[show ZbA w i m=true from decide_eq_true ⟨by omega,by omega,by omega⟩] at hwt1
  rw[show ZbA w m j=true from decide_eq_true ⟨by omega,by omega,by omega⟩] at hwt2
  obtain⟨rn,rfl⟩:∃ rn:Nat,r=(rn:Int):=⟨r.toNat,by omega⟩
  obtain⟨kn,rfl⟩:∃ kn:Nat,k=(kn:Int):=⟨k.toNat,by omega⟩
  obtain⟨a,rfl⟩:∃ a:Nat,i=(a:Int):=⟨i.toNat,by omega⟩
  obtain⟨b,rfl⟩:∃ b:Nat,m=(b:Int):=⟨m.toNat,by omega⟩
  obtain⟨c,rfl⟩:∃ c:Nat,j=(c:Int):=⟨j.toNat,by omega⟩
  have hrn:rn < g.rules.length:=by omega
  simp only[Int.toNat_natCast]
  rw[ZaW hrn] at *
  have hrr:=hg.right _ (List.getElem_mem hrn)
  have hkn:kn < g.rules[rn].right.length:=by omega
  have e1:g.rules[rn].right.drop kn=g.rules[rn].right[kn]::g.rules[rn].right.drop (kn+1):=List.drop_eq_getElem_cons hkn
  have e2:g.rules[rn].right.getD kn 0=g.rules[rn].right[kn]:=by rw[List.getD_eq_getElem?_getD,List.getElem?_eq_getElem hkn];rfl
  have hq:∃ r∈g.rules,∃ pre,r.right=pre++(g.rules[rn].right[kn]::g.rules[rn].right.drop (kn+1)):=⟨_,List.getElem_mem hrn,g.rules[rn].right.take kn,by rw[←e1,List.take_append_drop]⟩
  have hOk:=ZxT hg hcy hw hwr (j:=c) (by omega)
  have hfirst:=Zjp (t:=false) hg hw hwr (fun v i j=>Zgp g w Zag v i j) (fun v i h=>ZfS hg h) (by omega) hOk (right:=g.rules[rn].right.drop kn) e1 (i:=a) (m:=b) hq (by omega) (by omega)
   (fun hqr=>ZnA hg hw hwr (fun v i j=>Zgp g w Zag v i j) (fun v i h=>ZfS hg h) (by omega) hOk _ b false hqr (by omega))
  rw[←e2] at hfirst
  simp only[ints,List.map_drop] at hfirst
  have hn1:¬ ((rn:Nat):Int) < 0:=by omega
  have hn2:¬ (g.rules.length:Int)≤((rn:Nat):Int):=by omega
  have hn3:¬ ((kn:Nat):Int) < 0:=by omega
  have hn4:¬ (g.rules[rn].right.length:Int)≤((kn:Nat):Int):=by omega
  generalize min Zag (symN (wcns g w Zag) w (g.rules[rn].right.getD kn 0) a b * wcn (wcns g w Zag) w (g.rules[rn].right.drop (kn+1)) b c)=res at *
  generalize wcns g w Zag=N at *
  generalize nulB g=NB at *
  refine ACalls.intro (n:=73) Tryz.func206 rfl rfl (by simp) (by rfl) ?_
  simp only[Zal]
  refine VA ?_
  refine Zau [(1000,1000),(1001,1001)] (hA:=hwt1) (hr:=?_)
  refine VA ?_
  refine Zau [(1000,1000),(1001,1001)] (hA:=hwt2) (hr:=?_)
  refine VA ?_
  rw[List.take_length]
  refine Zau [(1000,1000),(1001,1001)] (hA:=hfirst) (hr:=?_)
  refine VA ?_
  exact fin
 ·have e:spC g w Zag (wcns g w Zag) r k i m j=0:=by unfold spC;rw[if_neg hin]
  rw[e]
  have hb1:0≤r→r < g.rules.length→0≤k→k < (Zam g r).length→ZbA w i m=true→ZbA w m j=false:=fun h1 h2 h3 h4 h5=>decide_eq_false (fun h=>by
   unfold ZbA at h5
   rw[decide_eq_true_eq] at h5
   exact hin ⟨h1,h2,h3,h4,h5.1,h5.2.1,h.2.1,h.2.2⟩)
  generalize wcns g w Zag=N at *
  generalize nulB g=NB at *
  generalize hwa:ZbA w i m=wa at *
  generalize ZbA w m j=wb at *
  refine ACalls.intro (n:=73) Tryz.func206 rfl rfl (by simp) (by rfl) ?_
  simp only[Zal]
  by_cases h1:r < 0
  ·((repeat (first|refine wk ?_|refine Zaa (hr:=?_)));(repeat (first|refine wkz ?_|refine Zaa (hr:=?_)));(repeat (first|refine wk ?_|refine Zaa (hr:=?_)));exact fin)
  ·by_cases h2:(g.rules.length:Int)≤r
   ·((repeat (first|refine wk ?_|refine Zaa (hr:=?_)));(repeat (first|refine wkz ?_|refine Zaa (hr:=?_)));(repeat (first|refine wk ?_|refine Zaa (hr:=?_)));exact fin)
   ·obtain⟨rn,rfl⟩:∃ rn:Nat,r=(rn:Int):=⟨r.toNat,by omega⟩
    have hrn:rn < g.rules.length:=by omega
    have hrr:=hg.right _ (List.getElem_mem hrn)
    rw[ZaW hrn] at hb1 hin
    by_cases h3:k < 0
    ·((repeat (first|refine wk ?_|refine Zaa (hr:=?_)));(repeat (first|refine wkz ?_|refine Zaa (hr:=?_)));(repeat (first|refine wk ?_|refine Zaa (hr:=?_)));exact fin)
    ·by_cases h4:(g.rules[rn].right.length:Int)≤k
     ·((repeat (first|refine wk ?_|refine Zaa (hr:=?_)));(repeat (first|refine wkz ?_|refine Zaa (hr:=?_)));(repeat (first|refine wk ?_|refine Zaa (hr:=?_)));exact fin)
     ·cases wa with
      | false =>
       refine VA ?_
       refine Zau [(1000,1000),(1001,1001)] (hA:=hwt1) (hr:=?_)
       (repeat (first|refine wk ?_|refine Zaa (hr:=?_)))
       (repeat (first|refine wkz ?_|refine Zaa (hr:=?_)))
       refine VA ?_
       exact fin
      | true =>
       have h5:=hb1 (by omega) (by omega) (by omega) (by omega) rfl
       subst h5
       refine VA ?_
       refine Zau [(1000,1000),(1001,1001)] (hA:=hwt1) (hr:=?_)
       refine VA ?_
       refine Zau [(1000,1000),(1001,1001)] (hA:=hwt2) (hr:=?_)
       refine VA ?_
       exact fin
end
set_option maxRecDepth 100000
set_option maxRecDepth 100000
set_option maxRecDepth 100000
section
variable {P:Program} {n:Nat} {Q:Exit→Fr→Hp→Prop} {fr:Fr} {h:Hp}
theorem Zgn {c0:Code} (k j k0:Nat) {n0 e sz:Nat} {xs:List D} {ty:TypeId} {cs:List V} (hk:hget h k=some (.box ty cs)) (hj:cs[j]? = some (.own k0 n0)) (h0:hget h k0=some (.row e sz xs)) (hn:xs.length=n0)
  (hc:aw P n c0 Q fr ((k,.box ty (cs.set j (.d (.sl false sz xs))))::(k0,.froz sz xs)::h)):aw P n c0 Q fr h:=by
 have hne:k0≠k:=by rintro rfl;rw[hk] at h0;cases h0
 exact Zav k0 h0 (Zlr k j _ (by rw[Zaq _ _ hne];exact hk) hj (Co.froz (Zai _ _ _) hn.symm) rfl hc)
theorem ZuI {c0:Code} (k:Nat) (l:ML) (p:ML→Prop) (hk:hget h k=some (.mp (Eq l))) (hp:p l) (hc:aw P n c0 Q fr ((k,.mp p)::h)):aw P n c0 Q fr h:=fun G E a w hn C=>by
 obtain⟨es,clock,l',h1,h2,rfl⟩:=C.heap.obs k _ hk
 exact hc G E a w hn (C.setMap hk (Ext.refl _ _) ⟨es,clock,_,h1,h2,hp⟩)
end
def wBad (t:Int):List Int→Nat→Option Nat
 | [],_=>none
 | x::r,i=>if x < 0∨t≤x then some i else wBad t r (i+1)
theorem ZrP {t:Int} {w:List Int} {k:Nat} (h:k < w.length):wBad t (w.drop k) k=if w[k] < 0∨t≤w[k] then some k else wBad t (w.drop (k+1)) (k+1):=by
 rw[List.drop_eq_getElem_cons h,wBad]
theorem ZlG {t:Int}:∀ {w:List Int} {i:Nat},wBad t w i=none→∀ x∈w,0≤x∧x < t
 | [],_,_,x,hx=>by cases hx
 | y::r,i,h,x,hx=>by
  rw[wBad] at h
  split at h
  ·cases h
  ·rename_i hn
   rcases List.mem_cons.1 hx with rfl|hx
   ·omega
   ·exact ZlG h x hx
def chF (g:Gram) (w:List Int):Fault:=if (Zac g).code=0 then (if 12 < w.length then ⟨15, -1⟩ else match wBad g.terms w 0 with
  | some i=>⟨15,(i:Int)⟩
  | none=>if cycL g=[] then ⟨0,0⟩ else ⟨10, -1⟩) else Zac g
structure ChOk (g:Gram) (w:List Int):Prop where
 ok:g.ok
 cyc:cycL g=[]
 len:w.length≤12
 syms:∀ x∈w,0≤x∧x < g.terms
theorem Zwk {g:Gram} {w:List Int} (h:(chF g w).code=0):ChOk g w∧chF g w=⟨0,0⟩:=by
 have h':=h
 unfold chF at h ⊢
 split at h
 ·rename_i hf
  split at h
  ·cases h
  ·rename_i hl
   split at h
   ·cases h
   ·rename_i hb
    split at h
    ·rename_i hc
     exact⟨⟨Za1 hf,hc,by omega,ZlG hb⟩,by rw[if_pos hf,if_neg hl];simp[hb,hc]⟩
    ·cases h
 ·rename_i hf;exact absurd h hf
theorem ChOk.small {g:Gram} {w:List Int} (h:ChOk g w):w.length≤100000∧∀ x∈w,0≤x∧x≤1000000:=⟨by have:=h.len;omega,fun x hx=>by have:=h.syms x hx;have:=h.ok.terms;omega⟩
theorem ZnB {g:Gram} (hg:g.ok):cycL g=Zfc (ledM false g) g.vars.toNat:=by unfold cycL;rw[if_pos (by rw[hg.fault])]
theorem ZrQ (M:Mat) (V:Nat):(Zfc M V).length≤V:=by unfold Zfc;simp only[List.length_map];exact Nat.le_trans (List.length_filter_le _ _) (by simp)
theorem ne_nil {l:List Int}:l=[]↔¬ (0:Int) < (l.length:Nat):=by
 cases l <;> simp
set_option maxHeartbeats 8000000 in
theorem ZuJ {t u:Bool} {g:Gram} {w:List Int} (hf:g.fit) (hw:w.length≤100000000) (hn:(chF g w).code≠0):ACalls Tryz.prog 22 [.d (Za6 t g),.d (ints u w)] [] (.tup [.d (.raw (.pointer none)),.d (Zba (chF g w))]) []:=by
 have hgf:=ZaM (t:=t) (g:=g) hf.rules hf.right
 refine ACalls.intro (n:=83) Tryz.func22 rfl rfl (by simp) (by rfl) ?_
 simp only[Zal]
 refine VA ?_
 refine Zab [] (hA:=hgf) (hr:=?_)
 by_cases h0:(Zac g).code=0
 ·have hg:=Za1 h0
  have hcy:=ZdE (t:=t) hf
  rw[hg.fault] at hcy
  have hv:=hg.vars
  have hcl:=ZrQ (ledM false g) g.vars.toNat
  rw[←ZnB hg] at hcl
  by_cases h1:12 < w.length
  ·have e:chF g w=⟨15, -1⟩:=by unfold chF;rw[if_pos h0,if_pos h1]
   rw[e]
   refine VA ?_
   exact fin
  ·have e:chF g w=match wBad g.terms w 0 with|some i=>⟨15,(i:Int)⟩|none=>if cycL g=[] then ⟨0,0⟩ else ⟨10, -1⟩:=by unfold chF;rw[if_pos h0,if_neg h1]
   rw[e] at hn ⊢
   refine VA ?_
   refine Zak (X:=Nat) (fun k=>k≤w.length∧wBad g.terms w 0=wBad g.terms (w.drop k) k) (fun k=>[(28,I k),(27,I w.length),(26,.d (ints u w)),(5,.ptr 5 0),(2,.ptr 2 0),(1,.d (ints u w))]) (fun k=>[(2,Zay t g),(5,.box 31 [.d (iD 0),.d (iD 0)])]) (fun k=>w.length - k) 0 ⟨Nat.zero_le _,rfl⟩ ?_
   rintro k ⟨k1,k2⟩
   by_cases hlt:k < w.length
   ·rw[ZrP hlt] at k2
    by_cases hb1:w[k] < 0
    ·rw[if_pos (.inl hb1)] at k2
     rw[k2]
     (repeat (first|refine wk ?_|refine Zaa (hr:=?_)))
     (repeat (first|refine wkz ?_|refine Zaa (hr:=?_)))
     refine VA ?_
     exact fin
    ·by_cases hb2:g.terms≤w[k]
     ·rw[if_pos (.inr hb2)] at k2
      rw[k2]
      refine VA ?_
      exact fin
     ·rw[if_neg (by omega)] at k2
      refine VA ?_
      exact Zae (k+1) (a:=⟨by omega,k2⟩)
   ·rw[List.drop_of_length_le (by omega),wBad] at k2
    rw[k2] at hn ⊢
    dsimp only at hn ⊢
    by_cases hc:cycL g=[]
    ·rw[if_pos hc] at hn;exact absurd rfl hn
    ·rw[if_neg hc]
     have hc':(0:Int) < ((cycL g).length:Nat):=Classical.byContradiction fun h=>hc (ne_nil.2 h)
     generalize cycL g=CY at *
     refine VA ?_
     refine Zab [] (hA:=hcy) (hr:=?_)
     refine VA ?_
     exact fin
 ·have e:chF g w=Zac g:=by unfold chF;rw[if_neg h0]
  rw[e]
  refine VA ?_
  exact fin
set_option maxRecDepth 100000
theorem listB_memC {is:List Bool} {x:Int}:x∈Za2 is↔has is x=true:=by
 unfold Za2 has
 simp only[List.mem_map,List.mem_filter,List.mem_range,Bool.and_eq_true,decide_eq_true_eq]
 constructor
 ·rintro⟨k,⟨h1,h2⟩,rfl⟩;exact⟨by omega,by simpa using h2⟩
 ·rintro⟨h1,h2⟩
  refine⟨x.toNat,⟨?_,h2⟩,by omega⟩
  refine Classical.byContradiction fun h=>?_
  rw[List.getD_eq_getElem?_getD,List.getElem?_eq_none (by omega)] at h2
  cases h2
def flg (V:Nat) (l:List Int) (k:Nat):List Bool:=(List.range V).map fun (x:Nat)=>decide ((x:Int)∈l.take k)
theorem ZuK (V:Nat) (l:List Int):flg V l 0=List.replicate V false:=by
 refine List.ext_getElem (by simp[flg]) fun k h1 h2=>?_
 simp[flg]
theorem ZuL {V:Nat} {l:List Int} {k:Nat} {v:Nat} (hk:k < l.length) (hv:l[k]=(v:Int)):(flg V l k).set v true=flg V l (k+1):=by
 refine List.ext_getElem (by simp[flg]) fun x h1 h2=>?_
 rw[List.getElem_set]
 simp only[flg,List.getElem_map,List.getElem_range]
 rw[List.take_succ_eq_append_getElem hk,hv]
 by_cases e:v=x
 ·subst e;simp
 ·rw[if_neg e]
  congr 1
  simp only[List.mem_append,List.mem_singleton,eq_iff_iff]
  exact⟨.inl,fun h=>h.elim id (fun h=>by omega)⟩
theorem ZwF {is:List Bool}:flg is.length (Za2 is) (Za2 is).length=is:=by
 refine List.ext_getElem (by simp[flg]) fun x h1 h2=>?_
 simp only[flg,List.getElem_map,List.getElem_range,List.take_length]
 have:(x:Int)∈Za2 is↔is[x]=true:=by
  rw[listB_memC,Zbl,List.getD_eq_getElem?_getD,List.getElem?_eq_getElem h2,Option.getD_some]
 cases hb:is[x] with
 | true=>exact decide_eq_true (this.2 hb)
 | false=>exact decide_eq_false (fun h=>by rw[this.1 h] at hb;cases hb)
abbrev cxH2 (g:Gram) (w:List Int) (nl:List Bool) (N:Cube):Hp:=[(62,cxBx g w nl 60),(60,.mp (Zbj N))]
theorem ZrR (N:Cube):Zbj N []:=fun x hx=>by cases hx
set_option maxHeartbeats 8000000 in
theorem ZoZ {t u:Bool} {g:Gram} {w:List Int} (hC:ChOk g w):ACalls Tryz.prog 22 [.d (Za6 t g),.d (ints u w)] [] (.tup [.ptr 62 0,.d (Zba ⟨0,0⟩)]) (cxH2 g w (nulB g) (wcns g w Zag)):=by
 have hg:=hC.ok
 have hf:=hg.fit
 have hgf:=ZaM (t:=t) (g:=g) hf.rules hf.right
 rw[hg.fault] at hgf
 have hcy:=ZdE (t:=t) hf
 rw[hg.fault,hC.cyc] at hcy
 have hnu:=ZlM (t:=t) hf
 rw[hg.fault,show ZrY g=Za2 (nulB g) by unfold ZrY;rw[if_pos (by rw[hg.fault])]] at hnu
 have hv:=hg.vars
 have hv1:=hg.vars1
 have hrl:=hg.rules
 have hnl:(nulB g).length=g.vars.toNat:=Zcd hg
 have hll:=ZcX (nulB g)
 have hlin:∀ k (h:k < (Za2 (nulB g)).length),∃ v:Nat,(Za2 (nulB g))[k]=(v:Int)∧v < g.vars.toNat:=fun k h=>by
  have h1:=listB_memC.1 (List.getElem_mem h)
  have h2:=Ze6 h1
  exact⟨((Za2 (nulB g))[k]).toNat,by omega,by omega⟩
 have hown:=ZfI (t:=t) hf
 have hcl:=ZbX (t:=u) (xs:=w) (by have:=hC.len;omega)
 have hlen:=hC.len
 have hsy:=hC.syms
 have hend:=ZwF (is:=nulB g)
 rw[hnl] at hend hll
 have hst:=fun k v=>ZuL (V:=g.vars.toNat) (l:=Za2 (nulB g)) (k:=k) (v:=v)
 have hz:=ZuK g.vars.toNat (Za2 (nulB g))
 have hgd:=ZrR (wcns g w Zag)
 have hfl:∀ k,(flg g.vars.toNat (Za2 (nulB g)) k).length=g.vars.toNat:=fun k=>by simp[flg]
 obtain⟨V,hVe⟩:∃ V:Nat,g.vars.toNat=V:=⟨_,rfl⟩
 have hVi:g.vars=(V:Int):=by omega
 generalize wcns g w Zag=N at *
 generalize Za2 (nulB g)=NL at *
 generalize nulB g=NB at *
 rw[hVe] at *
 refine ACalls.intro (n:=83) Tryz.func22 rfl rfl (by simp) (by rfl) ?_
 simp only[Zal]
 refine VA ?_
 refine Zab [] (hA:=hgf) (hr:=?_)
 refine VA ?_
 refine Zak (X:=Nat) (fun k=>k≤w.length) (fun k=>[(28,I k),(27,I w.length),(26,.d (ints u w)),(5,.ptr 5 0),(2,.ptr 2 0),(1,.d (ints u w))]) (fun k=>[(2,Zay t g),(5,.box 31 [.d (iD 0),.d (iD 0)])]) (fun k=>w.length - k) 0 (Nat.zero_le _) ?_
 intro k hk
 by_cases hlt:k < w.length
 ·have h1:=hsy _ (List.getElem_mem hlt)
  have h2:¬ w[k] < 0:=by omega
  have h3:¬ g.terms≤w[k]:=by omega
  refine VA ?_
  exact Zae (k+1)
 ·refine VA ?_
  refine Zab [] (hA:=hcy) (hr:=?_)
  refine VA ?_
  refine Zab [(900,954)] (hA:=hown) (hr:=?_)
  refine VA ?_
  refine Zab [(5,956)] (hA:=hcl) (hr:=?_)
  refine VA ?_
  refine Zus rfl rfl Zaf rfl ?_
  refine VA ?_
  refine Zab [] (hA:=hnu) (hr:=?_)
  refine VA ?_
  refine Zgn 62 3 954 rfl rfl rfl (by simp) ?_
  refine Zgn 62 4 956 rfl rfl rfl (by simp) ?_
  refine ZuI 60 [] (Zbj N) rfl hgd ?_
  have e:List.replicate V (bD false)=(flg V NL 0).map bD:=by rw[hz,List.map_replicate]
  refine Zak (X:=Nat) (fun k=>k≤NL.length) (fun k=>[(70,I k),(69,I NL.length),(68,.d (ints false NL)),(11,.ptr 62 0),(5,.ptr 5 0)]) (fun k=>[(5,.box 31 [.d (iD 0),.d (iD 0)]),(62,.box 91 [.d (iD g.vars),.d (iD g.terms),.d (iD g.start),.d (ZaL false g.rules),.d (ints false w),.own 59 V,.mapv 60]),(59,.row 4 1 ((flg V NL k).map bD)),(60,.mp (Zbj N))]) (fun k=>NL.length - k) 0 (Nat.zero_le _) ?_
  clear e
  intro k hk
  have hfk:=hfl k
  by_cases hlt2:k < NL.length
  ·obtain⟨v,hv1,hv2⟩:=hlin k hlt2
   have e:((flg V NL k).map bD).set v (bD true)=(flg V NL (k+1)).map bD:=by rw[←List.map_set,hst k v hlt2 hv1]
   generalize flg V NL k=F1 at *
   refine VA ?_
   exact Zae (k+1)
  ·obtain rfl:k=NL.length:=by omega
   rw[hend]
   rw[hend] at hfk
   repeat (first|refine Zgn 62 5 59 rfl rfl rfl (by simp[hfk]) ?_|refine wk1 ?_)
   exact fin
end Go.Proofs.YtbpmepgnjanhnaaGreat
