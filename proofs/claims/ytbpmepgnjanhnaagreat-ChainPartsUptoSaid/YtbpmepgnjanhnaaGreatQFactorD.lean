import Derived.Test.YtbpmepgnjanhnaaGreatQFactorB
import Derived.Test.YtbpmepgnjanhnaaGreatQConc
import Derived.Test.YtbpmepgnjanhnaaGreatQChartJ
set_option linter.unusedVariables false
set_option linter.unusedSimpArgs false
set_option linter.unusedSectionVars false
namespace Go.Proofs.YtbpmepgnjanhnaaGreat
open Go.RowKit
set_option maxRecDepth 100000
theorem Fac.next_inv {V:Nat} {all:List (List Work)} {v:Nat} {r:Except Nat (List (List Work))} (h:Fac V all v r) (hv:v < all.length) (hg:Zas (all.getD v []) 0=[]):Fac V all (v+1) r:=by
 cases h with
 | done h=>exact absurd hv h
 | next _ _ hr=>exact hr
 | many _ h _=>exact absurd hg h
 | one _ h _ _=>exact absurd hg h
theorem Fac.many_inv {V:Nat} {all:List (List Work)} {v:Nat} {r:Except Nat (List (List Work))} (h:Fac V all v r) (hv:v < all.length) (hg:Zas (all.getD v []) 0≠[]) (hm:64 < (oneW V all v (Zas (all.getD v []) 0)).length):r=.error v:=by
 cases h with
 | done h=>exact absurd hv h
 | next _ h _=>exact absurd h hg
 | many _ _ _=>rfl
 | one _ _ h _=>exact absurd hm h
theorem Fac.one_inv {V:Nat} {all:List (List Work)} {v:Nat} {r:Except Nat (List (List Work))} (h:Fac V all v r) (hv:v < all.length) (hg:Zas (all.getD v []) 0≠[]) (hm:¬ 64 < (oneW V all v (Zas (all.getD v []) 0)).length):Fac V (oneW V all v (Zas (all.getD v []) 0)) v r:=by
 cases h with
 | done h=>exact absurd hv h
 | next _ h _=>exact absurd h hg
 | many _ _ h=>exact absurd h hm
 | one _ _ _ hr=>exact hr
theorem Fac.done_inv {V:Nat} {all:List (List Work)} {v:Nat} {r:Except Nat (List (List Work))} (h:Fac V all v r) (hv:¬ v < all.length):r=.ok all:=by
 cases h with
 | done _=>rfl
 | next h _ _=>exact absurd h hv
 | many h _ _=>exact absurd h hv
 | one h _ _ _=>exact absurd h hv
def Wide (all:List (List Work)):Prop:=∀ l∈all,l.length≤160
theorem Wide.get {all:List (List Work)} (h:Wide all) (v:Nat):(all.getD v []).length≤160:=by
 rw[List.getD_eq_getElem?_getD]
 by_cases hv:v < all.length
 ·rw[List.getElem?_eq_getElem hv];exact h _ (List.getElem_mem hv)
 ·rw[List.getElem?_eq_none (by omega)];simp
theorem Wide.one {V:Nat} {all:List (List Work)} {v:Nat} {at_:List Int} (h:Wide all):Wide (oneW V all v at_):=by
 intro l hl
 have hv:=h.get v
 rcases List.mem_append.1 hl with hl|hl
 ·rcases List.mem_or_eq_of_mem_set hl with hl|rfl
  ·exact h l hl
  ·exact Nat.le_trans (Zes _ _) hv
 ·rw[List.mem_singleton.1 hl,List.length_map]
  exact Nat.le_trans (Zeu _ _) hv
theorem Zr7 (g:Gram) (v:Int):(by_ g v).length≤g.rules.length:=ZlA v g.rules 0
theorem Zqz {g:Gram} (hg:g.ok):Wide (Za0 g):=by
 intro l hl
 obtain⟨v,_,rfl⟩:=List.mem_map.1 hl
 have:=Zr7 g v
 have:=hg.rules
 rw[Zdx,List.length_map];omega
def finC (z:List (List Work)) (v:Nat) (l:List Work) (R:List Rule) (F:List (List Frag)):Except Nat (List Rule×List (List Frag)):=match finL v l R F with
 | none=>.error v
 | some x=>finW (z.drop (v+1)) (v+1) x.1 x.2
theorem ZwJ {z:List (List Work)} {v:Nat} (h:v < z.length) (R:List Rule) (F:List (List Frag)):finW (z.drop v) v R F=finC z v z[v] R F:=by
 rw[List.drop_eq_getElem_cons h,finW,finC]
 cases finL v z[v] R F <;> rfl
theorem ZuX (z:List (List Work)) (v:Nat) (R:List Rule) (F:List (List Frag)):finC z v [] R F=finW (z.drop (v+1)) (v+1) R F:=by rw[finC,finL]
theorem Zr8 {z:List (List Work)} {v:Nat} {l:List Work} {i:Nat} (h:i < l.length) {R:List Rule} {F:List (List Frag)} (hm:R.length=160∨10 < l[i].right.length):finC z v (l.drop i) R F=.error v:=by
 rw[finC,List.drop_eq_getElem_cons h,finL,if_pos hm]
theorem Zr9 {z:List (List Work)} {v:Nat} {l:List Work} {i:Nat} (h:i < l.length) {R:List Rule} {F:List (List Frag)} (hm:¬ (R.length=160∨10 < l[i].right.length)):finC z v (l.drop i) R F=finC z v (l.drop (i+1)) (R++[⟨(v:Int),l[i].right⟩]) (F++[l[i].l]):=by
 rw[finC,List.drop_eq_getElem_cons h,finL,if_neg hm,finC]
abbrev ZyN (g:Gram) (n:Nat):Ob:=.box 177 [.d (iD g.vars),.d (iD g.terms),.d (iD g.start),.d (ZaL false g.rules),.own 901 n]
abbrev fmH (g:Gram) (all:List (List Work)):Hp:=[(1,Zay false g),(2,Zbw false zeroStep),(3,.box 31 [.d (iD 0),.d (iD 0)]),(25,ZyN g all.length),(901,.row 178 1 (all.map (Zat false)))]
abbrev fmF:Fr:=[(1,.ptr 1 0),(2,.ptr 2 0),(3,.ptr 3 0),(5,.ptr 25 0)]
set_option maxHeartbeats 8000000 in
theorem Zi6 {g:Gram} (hf:g.fit) {r:Except Nat (List (List Work))} (hr:(Zac g).code=0→Fac g.vars.toNat (Za0 g) 0 r) :
  ACalls Tryz.prog 71 [.d (Za6 false g)] [] (.tup [.d (Zcf false (Zca g r).1),.d (Zba (Zca g r).2)]) []:=by
 refine ACalls.intro (n:=155) Tryz.func71 rfl rfl (by simp) (by rfl) ?_
 simp only[Zal]
 have hr1:=hf.rules
 have hr2:=hf.right
 refine VA ?_
 refine Zab [] (hA:=ZaM) (hr:=?_)
 by_cases hc:(Zac g).code=0
 rotate_left
 ·rw[show Zca g r=(zeroStep,Zac g) by rw[Zca,if_neg hc]]
  refine VA ?_
  exact fin2
 have hr:=hr hc
 have hg:=Za1 hc
 rw[show Zca g r=Zc8 g r by rw[Zca,if_pos hc]]
 have hv:=hg.vars
 have hv1:=hg.vars1
 have hr160:=hg.rules
 have hI:=ZlR hg
 have hW:=Zqz hg
 have hSl:=Zbv g
 obtain⟨N,hN⟩:∃ N:Nat,g.vars=(N:Int):=⟨g.vars.toNat,by omega⟩
 have hNt:g.vars.toNat=N:=by omega
 rw[hNt] at hSl
 refine VA ?_
 refine ZaB 25 4 901 178 1 rfl rfl rfl rfl ?_
 refine Zak (X:=Nat) (fun v=>v≤N) (fun v=>(28,I v)::(27,.d (iD g.vars))::fmF) (fun v=>fmH g ((Za0 g).take v)) (fun v=>N - v) 0 (Nat.zero_le _) ?_
 ·intro v hvN
  have htl:((Za0 g).take v).length=v:=by simp;omega
  by_cases hvl:v < N
  ·have hsn:(Za0 g).take (v+1)=(Za0 g).take v++[Zdx g v]:=by
    have e:=ZeH (g:=g) (v:=v) (by omega)
    rw[List.getD_eq_getElem?_getD,List.getElem?_eq_getElem (by omega)] at e
    rw[List.take_succ_eq_append_getElem (by omega)]
    congr 2
   have hbl:=Zr7 g (v:Int)
   have hby:=fun r hr=>Zo5 (g:=g) (v:=v) (r:=r) hr
   refine VA ?_
   refine Zab [(5,933)] (hA:=Zjn) (hr:=?_)
   refine VA ?_
   have hwk:Zdx g v=(by_ g v).map fun r=>⟨(Zeo g r).right,ZaQ r (kids (Zeo g r).right).length⟩:=rfl
   rw[hwk] at hsn
   generalize by_ g v=bs at *
   generalize (Za0 g).take v=SW at *
   generalize hmk:(fun r=>(⟨(Zeo g r).right,ZaQ r (kids (Zeo g r).right).length⟩:Work))=mk at *
   refine Zbi 7 907 181 2 rfl rfl rfl ?_
   refine Zak (X:=Nat) (fun j=>j≤bs.length) (fun j=>(35,I j)::(34,I bs.length)::(33,.own 933 bs.length)::(7,.own 907 ((bs.take j).map mk).length)::(6,I v)::(28,I v)::(27,.d (iD g.vars))::fmF)
    (fun j=>(933,.row 3 1 (bs.map iD))::(907,.row 181 2 (((bs.take j).map mk).map (Za8 false)))::fmH g SW) (fun j=>bs.length - j) 0 (Nat.zero_le _) ?_
   intro j hj
   have hTl:((bs.take j).map mk).length=j:=by simp;omega
   by_cases hjl:j < bs.length
   ·obtain⟨m,hm,hbm,_,hra⟩:=hby _ (List.getElem_mem hjl)
    have hrm:=hg.right _ (List.getElem_mem hm)
    have hkl:=Za3 g.rules[m].right
    have hfk:=Zm6 (t:=false) (xs:=g.rules[m].right) (by omega)
    have hno:=Zed (r:=bs[j]) (k:=(kids g.rules[m].right).length) (by omega)
    have hmkj:mk bs[j]=⟨g.rules[m].right,ZaQ bs[j] (kids g.rules[m].right).length⟩:=by rw[←hmk];simp only[hra]
    have e1:((bs.take j).map mk).map (Za8 false)++[D.agg [ints false g.rules[m].right,Zah false (ZaQ bs[j] (kids g.rules[m].right).length)]]=((bs.take (j+1)).map mk).map (Za8 false):=by
     rw[List.take_succ_eq_append_getElem hjl,List.map_append,List.map_append];simp[hmkj,Za8]
    generalize (bs.take j).map mk=WK at *
    refine VA ?_
    refine ZaO [] (hA:=hfk) (hr:=?_)
    refine VA ?_
    refine ZaO [(20,921)] (hA:=hno) (hr:=?_)
    refine VA ?_
    rw[e1]
    exact Zae (j+1)
   ·obtain rfl:j=bs.length:=by omega
    rw[List.take_length]
    have e1:SW.map (Zat false)++[Zat false (bs.map mk)]=((Za0 g).take (v+1)).map (Zat false):=by rw[hsn];simp
    have e2:((Za0 g).take (v+1)).length=SW.length+1:=by rw[hsn];simp
    generalize bs.map mk=WK at *
    refine VA ?_
    rw[e1,List.length_map]
    exact Zae (v+1)
  ·obtain rfl:N=v:=by omega
   have hall:(Za0 g).take N=Za0 g:=List.take_of_length_le (by omega)
   rw[hall]
   clear htl hall
   rw[hNt] at hr
   refine VA ?_
   refine Zak (X:=Nat×List (List Work)) (fun x=>Fac N x.2 x.1 r∧FInv g x.2 x.1∧Wide x.2∧x.1≤x.2.length) (fun x=>(10,I x.1)::fmF) (fun x=>fmH g x.2) (fun x=>65 - x.1) (0,Za0 g) ⟨hr,hI,hW,Nat.zero_le _⟩ ?_
   rintro⟨v,all⟩ ⟨k1,k2,k3,k4⟩
   dsimp only at k1 k2 k3 k4 ⊢
   have kl:=k2.len
   by_cases hva:v < all.length
   ·refine VA ?_
    refine Zak (X:=List (List Work)) (fun x=>Fac N x v r∧FInv g x v∧Wide x∧v < x.length) (fun x=>(10,I v)::fmF) (fun x=>fmH g x) (fun x=>(x.getD v []).length) all ⟨k1,k2,k3,hva⟩ ?_
    clear k1 k2 k3 k4 kl hva
    rintro all ⟨k1,k2,k3,hva⟩
    have kl:=k2.len
    by_cases hgr:Zas (all.getD v []) 0=[]
    ·have hone:=ZxW (v:=v) hva k2 k3 hgr
     refine VA ?_
     refine Zab [(1000,25),(1001,901)] (hA:=hone) (hr:=?_)
     refine VA ?_
     exact Zae (v+1,all) (a:=⟨k1.next_inv hva hgr,k2.next hgr,k3,by dsimp only;omega⟩) (b:=by dsimp only;omega)
    ·have hone:=ZwI (v:=v) hg hva k2 k3 hgr
     have hlen:=Zir N all v (Zas (all.getD v []) 0)
     have hwide:=k3.one (V:=N) (v:=v) (at_:=Zas (all.getD v []) 0)
     rw[hNt] at hone
     by_cases hm:64 < (oneW N all v (Zas (all.getD v []) 0)).length
     ·have hre:=k1.many_inv hva hgr hm
      rw[hre,show Zc8 g (.error v)=(zeroStep,⟨6,(v:Nat)⟩) from rfl]
      generalize oneW N all v (Zas (all.getD v []) 0)=A at *
      refine VA ?_
      refine Zab [(1000,25),(1001,901)] (hA:=hone) (hr:=?_)
      refine VA ?_
      exact fin2
     ·have hf2:=k1.one_inv hva hgr hm
      have hi2:=k2.one hg hva hgr (by rw[hNt];exact hm)
      rw[hNt] at hi2
      generalize oneW N all v (Zas (all.getD v []) 0)=A at *
      refine VA ?_
      refine Zab [(1000,25),(1001,901)] (hA:=hone) (hr:=?_)
      refine VA ?_
      exact Zae A (a:=⟨hf2,hi2.1,hwide,by omega⟩) (b:=hi2.2)
   ·have hre:=k1.done_inv hva
    obtain rfl:v=all.length:=by omega
    rw[hre]
    generalize all=z at *
    have hend:∀ x,finW z 0 [] []=x→Zc8 g (.ok z)=(match x with
     | .error v=>(zeroStep,⟨6,(v:Nat)⟩)
     | .ok x=>(⟨⟨(z.length:Nat),g.terms,g.start,x.1⟩,x.2,[]⟩,⟨0,0⟩)):=fun x hx=>by
      rw[Zc8];simp only[hx];cases x <;> rfl
    refine VA ?_
    refine ZaB 11 3 903 68 2 rfl rfl rfl rfl ?_
    refine ZaB 11 4 904 75 1 rfl rfl rfl rfl ?_
    refine Zak (X:=Nat×List Rule×List (List Frag)) (fun x=>x.1≤z.length∧finW z 0 [] []=finW (z.drop x.1) x.1 x.2.1 x.2.2∧x.2.1.length≤160∧x.2.2.length=x.2.1.length)
     (fun x=>[(107,I x.1),(106,I z.length),(105,.own 901 z.length),(11,.ptr 11 0),(2,.ptr 2 0),(3,.ptr 3 0)])
     (fun x=>[(2,Zbw false zeroStep),(3,.box 31 [.d (iD 0),.d (iD 0)]),(901,.row 178 1 (z.map (Zat false))),(11,.box 39 [.d (iD (z.length:Nat)),.d (iD g.terms),.d (iD g.start),.own 903 x.2.1.length,.own 904 x.2.2.length,.d nilT]),(903,.row 68 2 (x.2.1.map (ZaR false))),(904,.row 75 1 (x.2.2.map (Zah false)))])
     (fun x=>z.length - x.1) (0,[],[]) ⟨Nat.zero_le _,rfl,by simp,rfl⟩ ?_
    rintro⟨v,R,F⟩ ⟨m1,m2,m3,m4⟩
    dsimp only at m1 m2 m3 m4 ⊢
    by_cases hvz:v < z.length
    ·have hzl:=k3 _ (List.getElem_mem hvz)
     have hzo:=k2.ok _ (List.getElem_mem hvz)
     rw[ZwJ hvz] at m2
     generalize hl:z[v]=l at *
     refine VA ?_
     rw[hl]
     refine VA ?_
     refine Zak (X:=Nat×List Rule×List (List Frag)) (fun x=>x.1≤l.length∧finW z 0 [] []=finC z v (l.drop x.1) x.2.1 x.2.2∧x.2.1.length≤160∧x.2.2.length=x.2.1.length)
      (fun x=>[(114,I x.1),(113,I l.length),(112,.d (Zat false l)),(12,I v),(107,I v),(106,I z.length),(105,.own 901 z.length),(11,.ptr 11 0),(2,.ptr 2 0),(3,.ptr 3 0)])
      (fun x=>[(2,Zbw false zeroStep),(3,.box 31 [.d (iD 0),.d (iD 0)]),(901,.row 178 1 (z.map (Zat false))),(11,.box 39 [.d (iD (z.length:Nat)),.d (iD g.terms),.d (iD g.start),.own 903 x.2.1.length,.own 904 x.2.2.length,.d nilT]),(903,.row 68 2 (x.2.1.map (ZaR false))),(904,.row 75 1 (x.2.2.map (Zah false)))])
      (fun x=>l.length - x.1) (0,R,F) ⟨Nat.zero_le _,m2,m3,m4⟩ ?_
     clear m1 m2 m3 m4
     rintro⟨i,R,F⟩ ⟨m1,m2,m3,m4⟩
     dsimp only at m1 m2 m3 m4 ⊢
     by_cases hil:i < l.length
     ·have hw:=hzo _ (List.getElem_mem hil)
      have hwl:=hw.len
      by_cases hmm:R.length=160∨10 < l[i].right.length
      ·rw[Zr8 hil hmm] at m2
       rw[hend _ m2]
       dsimp only
       by_cases h160:R.length=160
       ·(repeat (first|refine wkz ?_|refine Zaa (hr:=?_)))
        exact fin2
       ·have h10:10 < l[i].right.length:=by omega
        (repeat (first|refine wkz ?_|refine Zaa (hr:=?_)))
        exact fin2
      ·rw[Zr9 hil hmm] at m2
       have h160:¬ R.length=160:=by omega
       have h10:¬ 10 < l[i].right.length:=by omega
       have hcl:=ZbX (t:=false) (xs:=l[i].right) (by omega)
       have e1:R.map (ZaR false)++[D.agg [D.raw (.int .i64 (v:Int)),ints false l[i].right]]=(R++[(⟨(v:Int),l[i].right⟩:Rule)]).map (ZaR false):=by simp[ZaR,iD]
       have e2:F.map (Zah false)++[Zah false l[i].l]=(F++[l[i].l]).map (Zah false):=by simp
       refine VA ?_
       refine ZaO [(5,920)] (hA:=hcl) (hr:=?_)
       refine VA ?_
       rw[e1,e2,List.length_map,List.length_map]
       exact Zae (i+1,R++[(⟨(v:Int),l[i].right⟩:Rule)],F++[l[i].l]) (a:=⟨by dsimp only;omega,m2,by simp;omega,by simp;omega⟩)
     ·obtain rfl:i=l.length:=by omega
      rw[List.drop_length,ZuX] at m2
      refine VA ?_
      exact Zae (v+1,R,F) (a:=⟨by dsimp only;omega,m2,m3,m4⟩)
    ·obtain rfl:v=z.length:=by omega
     rw[List.drop_length,finW] at m2
     rw[hend _ m2]
     dsimp only
     refine Zav 903 rfl ?_
     refine Zav 904 rfl ?_
     refine VA ?_
     exact fin2
set_option maxRecDepth 100000
abbrev tnF:Fr:=[(8,.ptr 53 0),(1,.ptr 1 0),(2,.ptr 2 0),(3,.ptr 3 0)]
abbrev tnH (g:Gram) (all:List (List Work)) (b:Bool):Hp:=[(1,Zay false g),(2,Zbw false zeroStep),(3,.box 31 [.d (iD 0),.d (iD 0)]),(53,.box 185 [.own 901 all.length,B b]),(901,.row 186 1 (all.map (Zat false)))]
theorem ZqA {rs:List Rule}:∀ {i:Nat},(∀ (j:Nat) (h:j < rs.length),j < i→¬ rs[j].right.length=0)→∀ h:i < rs.length,rs[i].right.length=0→rs.findIdx? (fun r=>decide (r.right.length=0))=some i:=fun {i} h1 h h2=>by
 rw[List.findIdx?_eq_some_iff_getElem]
 exact⟨h,decide_eq_true h2,fun j hj=>by simpa using h1 j (by omega) hj⟩
theorem ZnK {rs:List Rule} (h1:∀ (j:Nat) (h:j < rs.length),¬ rs[j].right.length=0):rs.findIdx? (fun r=>decide (r.right.length=0))=none:=by
 rw[List.findIdx?_eq_none_iff]
 intro r hr
 obtain⟨j,hj,rfl⟩:=List.mem_iff_getElem.1 hr
 simpa using h1 j hj
theorem ZnL {all:List (List Work)} {u n:Nat} {l:List Work}:ZdK all u (n+1) l=match Zcl (all.getD u []) u l [] with
  | none=>none
  | some l'=>ZdK all (u+1) n l':=rfl
theorem ZnM {all:List (List Work)} {l:List Work} {v:Nat} (h:∀ k∈all,k.length≤160) (hl:l.length≤160):∀ k∈Zbk all l v,k.length≤320:=by
 have ho:(Zds v l).length≤l.length:=List.length_filter_le _ _
 have hw:(ownW v l).length≤l.length:=by rw[ownW,List.length_map];exact List.length_filter_le _ _
 intro k hk
 unfold Zbk at hk
 split at hk
 ·rcases List.mem_or_eq_of_mem_set hk with hk|rfl
  ·have:=h k hk;omega
  ·omega
 ·rcases List.mem_or_eq_of_mem_set hk with hk|rfl
  ·rcases List.mem_append.1 hk with hk|hk
   ·have:=h k hk;omega
   ·rw[List.mem_singleton.1 hk,Zet];omega
  ·rw[Zet];omega
set_option maxHeartbeats 8000000 in
theorem ZgZ {g:Gram} (hf:g.fit) :
  ACalls Tryz.prog 72 [.d (Za6 false g)] [] (.tup [.d (Zcf false (Ze0 g).1),.d (Zba (Ze0 g).2)]) []:=by
 refine ACalls.intro (n:=196) Tryz.func72 rfl rfl (by simp) (by rfl) ?_
 simp only[Zal]
 have hr1:=hf.rules
 have hr2:=hf.right
 have hcy:=ZdE (t:=false) hf
 by_cases hc:(Zac g).code=0
 rotate_left
 ·rw[show Ze0 g=(zeroStep,Zac g) by rw[Ze0,if_neg hc]]
  generalize Zac g=gf at *
  generalize cycL g=cl at *
  refine VA ?_
  refine Zab [] (hA:=hcy) (hr:=?_)
  refine VA ?_
  exact fin2
 have hg:=Za1 hc
 have hgf:=hg.fault
 rw[hgf] at hcy
 have hcl:(cycL g).length≤100000000:=by
  have h1:=hg.vars
  unfold cycL Zfc
  rw[if_pos hc,List.length_map]
  have h2:=List.length_filter_le (fun (v:Nat)=>has (rowM (ledM false g) v) v) (List.range g.vars.toNat)
  rw[List.length_range] at h2
  omega
 have hts:Ze0 g=match Zfp g with
  | some i=>(zeroStep,⟨11,i⟩)
  | none=>if 0 < (cycL g).length then (zeroStep,⟨10, -1⟩) else
   match Zcc 0 g.vars.toNat (Za0 g) with
   | .error v=>(zeroStep,⟨6,(v:Nat)⟩)
   | .ok z=>(⟨⟨(z.length:Nat),g.terms,g.start,Zbq z 0⟩,Zbr z,[]⟩,⟨0,0⟩):=by rw[Ze0,if_pos hc];rfl
 have hv:=hg.vars
 have hv1:=hg.vars1
 have hr160:=hg.rules
 generalize hcl':cycL g=cl at *
 refine VA ?_
 refine Zab [] (hA:=hcy) (hr:=?_)
 refine VA ?_
 refine Zak (X:=Nat) (fun i=>i≤g.rules.length∧∀ (j:Nat) (h:j < g.rules.length),j < i→¬ g.rules[j].right.length=0) (fun i=>[(34,I i),(33,I g.rules.length),(32,.d (ZaL false g.rules)),(4,.d (ints false cl)),(1,.ptr 1 0),(2,.ptr 2 0),(3,.ptr 3 0)]) (fun _=>[(1,Zay false g),(2,Zbw false zeroStep),(3,.box 31 [.d (iD 0),.d (iD 0)])]) (fun i=>g.rules.length - i) 0 ⟨Nat.zero_le _,fun j h q=>by omega⟩ ?_
 rintro i ⟨hi,hne⟩
 by_cases hlt:i < g.rules.length
 ·by_cases h0:g.rules[i].right.length=0
  ·have he:Zfp g=some i:=ZqA hne hlt h0
   rw[he] at hts
   rw[hts]
   refine VA ?_
   exact fin2
  ·refine VA ?_
   exact Zae (i+1) (a:=⟨by omega,fun j h q=>by
    by_cases e:j=i
    ·subst e;exact h0
    ·exact hne j h (by omega)⟩)
 ·obtain rfl:i=g.rules.length:=by omega
  have hne':∀ (j:Nat) (h:j < g.rules.length),¬ g.rules[j].right.length=0:=fun j h=>hne j h h
  have he:Zfp g=none:=ZnK hne'
  rw[he] at hts
  dsimp only at hts
  by_cases hn:0 < cl.length
  ·rw[if_pos hn] at hts
   rw[hts]
   refine VA ?_
   exact fin2
  rw[if_neg hn] at hts
  have hI0:=Zj9 hg fun r hr=>by
   obtain⟨j,hj,rfl⟩:=List.mem_iff_getElem.1 hr
   intro q
   exact hne' j hj (by rw[q];rfl)
  have hSl:=Zbv g
  obtain⟨N,hN⟩:∃ N:Nat,g.vars=(N:Int):=⟨g.vars.toNat,by omega⟩
  have hNt:g.vars.toNat=N:=by omega
  rw[hNt] at hSl hts
  generalize hrr:Zcc 0 N (Za0 g)=r at *
  refine VA ?_
  refine ZaB 53 0 901 186 1 rfl rfl rfl rfl ?_
  refine Zak (X:=Nat) (fun v=>v≤N) (fun v=>(56,I v)::(55,.d (iD g.vars))::tnF) (fun v=>tnH g ((Za0 g).take v) false) (fun v=>N - v) 0 (Nat.zero_le _) ?_
  intro v hvN
  have htl:((Za0 g).take v).length=v:=by simp;omega
  by_cases hvl:v < N
  ·have hsn:(Za0 g).take (v+1)=(Za0 g).take v++[Zdx g v]:=by
    have e:=ZeH (g:=g) (v:=v) (by omega)
    rw[List.getD_eq_getElem?_getD,List.getElem?_eq_getElem (by omega)] at e
    rw[List.take_succ_eq_append_getElem (by omega)]
    congr 2
   have hbl:=Zr7 g (v:Int)
   have hby:=fun r hr=>Zo5 (g:=g) (v:=v) (r:=r) hr
   refine VA ?_
   refine Zab [(5,933)] (hA:=Zjn) (hr:=?_)
   refine VA ?_
   have hwk:Zdx g v=(by_ g v).map fun r=>⟨(Zeo g r).right,ZaQ r (kids (Zeo g r).right).length⟩:=rfl
   rw[hwk] at hsn
   generalize by_ g v=bs at *
   generalize (Za0 g).take v=SW at *
   generalize hmk:(fun r=>(⟨(Zeo g r).right,ZaQ r (kids (Zeo g r).right).length⟩:Work))=mk at *
   refine Zbi 10 907 188 2 rfl rfl rfl ?_
   refine Zak (X:=Nat) (fun j=>j≤bs.length) (fun j=>(63,I j)::(62,I bs.length)::(61,.own 933 bs.length)::(10,.own 907 ((bs.take j).map mk).length)::(9,I v)::(56,I v)::(55,.d (iD g.vars))::tnF)
    (fun j=>(933,.row 3 1 (bs.map iD))::(907,.row 188 2 (((bs.take j).map mk).map (Za8 false)))::tnH g SW false) (fun j=>bs.length - j) 0 (Nat.zero_le _) ?_
   intro j hj
   have hTl:((bs.take j).map mk).length=j:=by simp;omega
   by_cases hjl:j < bs.length
   ·obtain⟨m,hm,hbm,_,hra⟩:=hby _ (List.getElem_mem hjl)
    have hrm:=hg.right _ (List.getElem_mem hm)
    have hkl:=Za3 g.rules[m].right
    have hcl:=ZbX (t:=false) (xs:=g.rules[m].right) (by omega)
    have hki:=ZiJ (t:=false) (xs:=g.rules[m].right) (by omega)
    have hno:=Zed (r:=bs[j]) (k:=(kids g.rules[m].right).length) (by omega)
    have hmkj:mk bs[j]=⟨g.rules[m].right,ZaQ bs[j] (kids g.rules[m].right).length⟩:=by rw[←hmk];simp only[hra]
    have e1:((bs.take j).map mk).map (Za8 false)++[D.agg [ints false g.rules[m].right,Zah false (ZaQ bs[j] (kids g.rules[m].right).length)]]=((bs.take (j+1)).map mk).map (Za8 false):=by
     rw[List.take_succ_eq_append_getElem hjl,List.map_append,List.map_append];simp[hmkj,Za8]
    generalize (bs.take j).map mk=WK at *
    refine VA ?_
    refine ZaO [(5,920)] (hA:=hcl) (hr:=?_)
    refine VA ?_
    refine ZaO [] (hA:=hki) (hr:=?_)
    refine VA ?_
    refine ZaO [(20,921)] (hA:=hno) (hr:=?_)
    refine VA ?_
    rw[e1]
    exact Zae (j+1)
   ·obtain rfl:j=bs.length:=by omega
    rw[List.take_length]
    have e1:SW.map (Zat false)++[Zat false (bs.map mk)]=((Za0 g).take (v+1)).map (Zat false):=by rw[hsn];simp
    have e2:((Za0 g).take (v+1)).length=SW.length+1:=by rw[hsn];simp
    generalize bs.map mk=WK at *
    refine VA ?_
    rw[e1,List.length_map]
    exact Zae (v+1)
  ·obtain rfl:N=v:=by omega
   have hall:(Za0 g).take N=Za0 g:=List.take_of_length_le (by omega)
   rw[hall]
   clear htl hall
   refine VA ?_
   refine Zak (X:=Nat×List (List Work)) (fun x=>x.1≤N∧TInv g x.2∧Zcc x.1 (N - x.1) x.2=r) (fun x=>(101,I x.1)::(100,.d (iD g.vars))::tnF) (fun x=>tnH g x.2 false) (fun x=>N - x.1) (0,Za0 g) ⟨Nat.zero_le _,hI0,hrr⟩ ?_
   rintro⟨v,all⟩ ⟨k1,k2,k3⟩
   dsimp only at k1 k2 k3 ⊢
   have h64:=k2.len
   have hvars:=k2.vars
   rw[hNt] at hvars
   by_cases hva:v < N
   ·obtain⟨n,hn1⟩:∃ n,N - v=n+1:=⟨N - v - 1,by omega⟩
    rw[hn1,Zcc] at k3
    have hn2:n=N - (v+1):=by omega
    subst hn2
    have hgv:all.getD v []=all[v]:=by rw[List.getD_eq_getElem?_getD,List.getElem?_eq_getElem (by omega)];rfl
    have hok0:∀ w∈all[v],TOk g 60 10 all.length true w:=fun w hw=>by
     have:=k2.ok v w (by rw[hgv];exact hw)
     rw[decide_eq_true (by omega)] at this;exact this
    have hw0:=k2.wide _ (List.getElem_mem (show v < all.length by omega))
    have hround:=fun l hl hf=>ZpY hg k2 (v:=v) (by omega) (l:=l) hl hf
    rw[hgv] at k3 hround
    generalize hl0:all[v]=l0 at *
    refine VA ?_
    rw[hl0]
    refine Zak (X:=Nat×List Work×Bool) (fun x=>x.1≤v∧x.2.1.length≤160∧(∀ w∈x.2.1,TOk g (60+60 * x.1) 10 all.length true w)∧ZdK all 0 v l0=(if x.2.2=true then none else ZdK all x.1 (v - x.1) x.2.1)) (fun x=>(15,I x.1)::(14,.d (Zat false x.2.1))::(13,I v)::(101,I v)::(100,.d (iD g.vars))::tnF) (fun x=>tnH g all x.2.2) (fun x=>v - x.1) (0,l0,false) ⟨Nat.zero_le _,hw0,hok0,rfl⟩ ?_
    rintro⟨u,l,b⟩ ⟨j1,j2,j3,j4⟩
    dsimp only at j1 j2 j3 j4 ⊢
    by_cases hb:u < v∧b=false
    ·obtain⟨huv,rfl⟩:=hb
     have hA:∀ y∈all.getD u [],TOk g 60 10 all.length true y:=fun y hy=>by
      have:=k2.ok u y hy
      rw[decide_eq_true (by omega)] at this;exact this
     have hA160:(all.getD u []).length≤160:=by
      refine k2.wide _ ?_
      rw[List.getD_eq_getElem?_getD,List.getElem?_eq_getElem (by omega)];exact List.getElem_mem _
     have hah:=Zr0 hg (u:=u) (l:=l) (N:=all.length) (B:=60+60 * u) (by omega) h64 hA hA160 j3 j2 (by omega)
     have haok:∀ l',Zcl (all.getD u []) u l []=some l'→(∀ w∈l',TOk g (60+60 * u+60) 10 all.length true w)∧l'.length≤160:=fun l' hl'=>Zgc (by omega) hA j3 (fun w hw=>by cases hw) hl'
     obtain⟨m,hm⟩:∃ m,v - u=m+1:=⟨v - u - 1,by omega⟩
     rw[if_neg (by decide),hm,ZnL] at j4
     generalize Zcl (all.getD u []) u l []=res at *
     refine VA ?_
     refine Zab [(1000,53),(1001,901)] (hA:=hah) (hr:=?_)
     cases res with
     | none =>
      refine VA ?_
      exact Zae (u+1,[],true) (a:=⟨by omega,by simp,fun w hw=>(by cases hw),j4⟩) (b:=by dsimp only;omega)
     | some l' =>
      obtain⟨q1,q2⟩:=haok l' rfl
      obtain rfl:m=v - (u+1):=by omega
      refine VA ?_
      exact Zae (u+1,l',false) (a:=⟨by omega,q2,fun w hw=>(q1 w hw).mono (by omega) (Nat.le_refl _) (Nat.le_refl _),j4⟩) (b:=by dsimp only;omega)
    ·have hit:=Zqw hg (all:=all) (l:=l) (v:=v) (N:=all.length) (B:=60+60 * u) (b:=b) h64 j3 j2 (by omega)
     have his:=Zr2 all l v
     have hsl:((itA all l v).set v (itL all l v)).length=(itA all l v).length:=List.length_set
     have hia:v < (itA all l v).length:=by
      have:=Zj7 all l v
      rw[his,hsl] at this;omega
     have hwd:=ZnM (v:=v) k2.wide j2
     have hbd:=Zm3 hg k2 (v:=v) (by omega) (l:=l) (B:=60+60 * u) j3
     have hbe:∀ k∈Zbk all l v,∀ w∈k,w.right.length≤1000∧fszs w.l≤100000:=fun k hk w hw=>by
      obtain⟨i,hi,rfl⟩:=List.mem_iff_getElem.1 hk
      have:=hbd i w (by rw[List.getD_eq_getElem?_getD,List.getElem?_eq_getElem hi];exact hw)
      exact⟨Nat.le_trans this.rl (by omega),Nat.le_trans this.sz (by omega)⟩
     have hlen:(Zbk all l v).length≤65:=by
      unfold Zbk
      split
      ·rw[List.length_set];omega
      ·rw[List.length_set,List.length_append,List.length_singleton];omega
     have hfi:=Zr5 (all:=Zbk all l v) (b:=b) (by omega) (fun k hk=>Nat.le_trans (hwd k hk) (by omega)) hbe
     have hset:((itA all l v).map (Zat false)).set v (Zat false (itL all l v))=(Zbk all l v).map (Zat false):=by rw[his,List.map_set]
     have hlw:(itA all l v).length=(Zbk all l v).length:=by rw[his,hsl]
     have hrd:=hround l
     have hk3:ZdK all 0 v l0=some l→(if Zhl (Zbk all l v)=true then Zcc (v+1) (N - (v+1)) (Zbk all l v) else Except.error v)=r:=fun e=>by rw[e] at k3;exact k3
     clear hwd hbd hbe hsl hround
     generalize Zbk all l v=S at *
     generalize itA all l v=A at *
     generalize itL all l v=L at *
     have hvA:v < (A.map (Zat false)).length:=by rw[List.length_map];exact hia
     cases b with
     | true =>
      rw[if_pos rfl] at j4
      rw[j4] at k3
      dsimp only at k3
      subst k3
      rw[hts]
      clear hrr hk3
      by_cases huv:u < v
      ·refine VA ?_
       refine Zab [(1000,53),(1001,901)] (hA:=hit) (hr:=?_)
       refine VA ?_
       rw[hset,hlw]
       refine Zab [(1000,53),(1001,901)] (hA:=hfi) (hr:=?_)
       refine VA ?_
       exact fin2
      ·refine VA ?_
       refine Zab [(1000,53),(1001,901)] (hA:=hit) (hr:=?_)
       refine VA ?_
       rw[hset,hlw]
       refine Zab [(1000,53),(1001,901)] (hA:=hfi) (hr:=?_)
       refine VA ?_
       exact fin2
     | false =>
      rw[if_neg (by decide)] at j4
      obtain rfl:u=v:=Classical.byContradiction fun q=>hb ⟨by omega,rfl⟩
      rw[Nat.sub_self,ZdK] at j4
      have k3:=hk3 j4
      by_cases hft:Zhl S=true
      ·have hrd:=hrd j4 hft
       rw[if_pos hft] at k3
       rw[hft] at hfi
       clear hrr hk3
       refine VA ?_
       refine Zab [(1000,53),(1001,901)] (hA:=hit) (hr:=?_)
       refine VA ?_
       rw[hset,hlw]
       refine Zab [(1000,53),(1001,901)] (hA:=hfi) (hr:=?_)
       refine VA ?_
       exact Zae (u+1,S) (a:=⟨by dsimp only;omega,hrd,k3⟩)
      ·rw[if_neg hft] at k3
       rw[Bool.not_eq_true] at hft
       rw[hft] at hfi
       clear hrr hk3
       subst k3
       rw[hts]
       refine VA ?_
       refine Zab [(1000,53),(1001,901)] (hA:=hit) (hr:=?_)
       refine VA ?_
       rw[hset,hlw]
       refine Zab [(1000,53),(1001,901)] (hA:=hfi) (hr:=?_)
       refine VA ?_
       exact fin2
   ·obtain rfl:v=N:=by omega
    rw[Nat.sub_self,Zcc] at k3
    subst k3
    have hgk:=Zlg hg (Zhg he) (z:=all) (by rw[hNt];exact hrr)
    have h160:=hgk.rules
    dsimp only at hts h160
    rw[hts]
    have hw160:∀ i (h:i < all.length),all[i].length≤160:=fun i h=>k2.wide _ (List.getElem_mem h)
    have hwo:∀ i (h:i < all.length),∀ w∈all[i],w.right.length≤10∧fszs w.l≤100000000∧NbL 1000000000 w.l:=fun i h w hw=>by
     have:=k2.ok i w (by rw[List.getD_eq_getElem?_getD,List.getElem?_eq_getElem h];exact hw)
     exact⟨this.rl,Nat.le_trans this.sz (by decide),this.nb hg (by decide)⟩
    clear hrr hts hgk hI0 hva hvars
    generalize all=z at *
    refine VA ?_
    refine ZaB 16 3 903 68 2 rfl rfl rfl rfl ?_
    refine ZaB 16 4 904 75 1 rfl rfl rfl rfl ?_
    refine Zak (X:=Nat×List Rule×List (List Frag)) (fun x=>x.1≤z.length∧Zbq z 0=x.2.1++Zbq (z.drop x.1) x.1∧Zbr z=x.2.2++Zbr (z.drop x.1)∧x.2.2.length=x.2.1.length)
     (fun x=>[(161,I x.1),(160,I z.length),(159,.own 901 z.length),(16,.ptr 16 0),(2,.ptr 2 0),(3,.ptr 3 0)])
     (fun x=>[(2,Zbw false zeroStep),(3,.box 31 [.d (iD 0),.d (iD 0)]),(901,.row 186 1 (z.map (Zat false))),(16,.box 39 [.d (iD (z.length:Nat)),.d (iD g.terms),.d (iD g.start),.own 903 x.2.1.length,.own 904 x.2.2.length,.d nilT]),(903,.row 68 2 (x.2.1.map (ZaR false))),(904,.row 75 1 (x.2.2.map (Zah false)))])
     (fun x=>z.length - x.1) (0,[],[]) ⟨Nat.zero_le _,rfl,rfl,rfl⟩ ?_
    rintro⟨v,R,F⟩ ⟨m1,m2,m3,m4⟩
    dsimp only at m1 m2 m3 m4 ⊢
    by_cases hvz:v < z.length
    ·have hzl:=hw160 v hvz
     have hzo:=hwo v hvz
     rw[List.drop_eq_getElem_cons hvz,Zbq] at m2
     rw[List.drop_eq_getElem_cons hvz,Zbr] at m3
     rw[←List.append_assoc] at m2 m3
     generalize hl:z[v]=l at *
     refine VA ?_
     rw[hl]
     refine VA ?_
     refine Zak (X:=Nat×List Rule×List (List Frag)) (fun x=>x.1≤l.length∧Zbq z 0=x.2.1++(l.drop x.1).map (fun w=>(⟨(v:Int),w.right⟩:Rule))++Zbq (z.drop (v+1)) (v+1)∧Zbr z=x.2.2++(l.drop x.1).map (·.l)++Zbr (z.drop (v+1))∧x.2.2.length=x.2.1.length)
      (fun x=>[(168,I x.1),(167,I l.length),(166,.d (Zat false l)),(17,I v),(161,I v),(160,I z.length),(159,.own 901 z.length),(16,.ptr 16 0),(2,.ptr 2 0),(3,.ptr 3 0)])
      (fun x=>[(2,Zbw false zeroStep),(3,.box 31 [.d (iD 0),.d (iD 0)]),(901,.row 186 1 (z.map (Zat false))),(16,.box 39 [.d (iD (z.length:Nat)),.d (iD g.terms),.d (iD g.start),.own 903 x.2.1.length,.own 904 x.2.2.length,.d nilT]),(903,.row 68 2 (x.2.1.map (ZaR false))),(904,.row 75 1 (x.2.2.map (Zah false)))])
      (fun x=>l.length - x.1) (0,R,F) ⟨Nat.zero_le _,m2,m3,m4⟩ ?_
     clear m1 m2 m3 m4
     rintro⟨i,R,F⟩ ⟨m1,m2,m3,m4⟩
     dsimp only at m1 m2 m3 m4 ⊢
     by_cases hil:i < l.length
     ·obtain⟨hwl,hws,hwn⟩:=hzo _ (List.getElem_mem hil)
      rw[List.drop_eq_getElem_cons hil,List.map_cons,List.append_cons] at m2 m3
      have hR:R.length≤160:=by rw[m2] at h160;simp at h160;omega
      have hcl:=ZbX (t:=false) (xs:=l[i].right) (by omega)
      have how:=Zlh (t:=false) (l:=l[i].l) hws hwn
      have e1:R.map (ZaR false)++[D.agg [D.raw (.int .i64 (v:Int)),ints false l[i].right]]=(R++[(⟨(v:Int),l[i].right⟩:Rule)]).map (ZaR false):=by simp[ZaR,iD]
      have e2:F.map (Zah false)++[Zah false l[i].l]=(F++[l[i].l]).map (Zah false):=by simp
      refine VA ?_
      refine ZaO [(5,920)] (hA:=hcl) (hr:=?_)
      refine VA ?_
      refine Zab [] (hA:=how) (hr:=?_)
      refine VA ?_
      rw[e1,e2,List.length_map,List.length_map]
      exact Zae (i+1,R++[(⟨(v:Int),l[i].right⟩:Rule)],F++[l[i].l]) (a:=⟨by dsimp only;omega,m2,m3,by simp;omega⟩)
     ·obtain rfl:i=l.length:=by omega
      rw[List.drop_length,List.map_nil,List.append_nil] at m2 m3
      refine VA ?_
      exact Zae (v+1,R,F) (a:=⟨by dsimp only;omega,m2,m3,m4⟩)
    ·obtain rfl:v=z.length:=by omega
     rw[List.drop_length,Zbq,List.append_nil] at m2
     rw[List.drop_length,Zbr,List.append_nil] at m3
     rw[m2,m3]
     refine Zav 903 rfl ?_
     refine Zav 904 rfl ?_
     refine VA ?_
     exact fin2
end Go.Proofs.YtbpmepgnjanhnaaGreat
