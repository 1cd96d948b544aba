import Derived.Test.YtbpmepgnjanhnaaGreatP1
import Derived.Test.YtbpmepgnjanhnaaGreatQFrQ
import Derived.Test.YtbpmepgnjanhnaaGreatT1
import Derived.Test.YtbpmepgnjanhnaaGreatQTab
set_option linter.unusedVariables false
set_option linter.unusedSimpArgs false
set_option linter.unusedSectionVars false
namespace Go.Proofs.YtbpmepgnjanhnaaGreat
open Go.RowKit
set_option maxRecDepth 100000
theorem ZgM:∀ (n:Nat) {t:Bool} {l:List Frag},fszs l < n→fszs l≤100000000→ACalls Tryz.prog 108 [.d (Zam t l)] [] (I (cpL l)) []:=by
 intro n
 induction n with
 | zero=>intro t l h;omega
 | succ n ih =>
 intro t l hn hN
 have hl:=Nat.le_trans (Zbg l) hN
 have hcl:=ZkF l
 refine ACalls.intro (n:=36) Tryz.func108 rfl rfl (by simp) (by rfl) ?_
 simp only[Zak]
 repeat (first|refine wk ?_)
 refine Zai (X:=Nat×Nat) (fun x=>x.1≤l.length∧x.2+x.1=l.length+cpL (l.take x.1)) (fun x=>[(4,I x.1),(3,I x.2),(0,.d (Zam t l))]) (fun _=>[]) (fun x=>l.length - x.1) (0,l.length) ⟨Nat.zero_le _,by simp[cpL]⟩ ?_
 rintro⟨i,v⟩ ⟨h1,h2⟩
 dsimp only at h1 h2 ⊢
 by_cases hlt:i < l.length
 ·have e1:=ZjH hlt
  have e2:=ZiJ l[i]
  have e3:=Zb8 (List.getElem_mem hlt)
  have e4:=ZdV l[i]
  have e5:=ZkF l[i].l
  have e6:cpL l=cpL (l.take (i+1))+cpL (l.drop (i+1)):=by rw[←ZcT,List.take_append_drop]
  by_cases o1:l[i].op=1
  ·rw[if_pos (Or.inl o1)] at e2
   repeat (first|refine wk ?_)
   refine Zab [] (hA:=ih (t:=t) (l:=l[i].l) (by omega) (by omega)) (hr:=?_)
   repeat (first|refine wk ?_)
   exact Zad (i+1,v+cpL l[i].l) (a:=⟨by omega,by dsimp only;omega⟩) (b:=by dsimp only;omega)
  ·by_cases o4:l[i].op=4
   ·rw[if_pos (Or.inr o4)] at e2
    repeat (first|refine wk ?_)
    refine Zab [] (hA:=ih (t:=t) (l:=l[i].l) (by omega) (by omega)) (hr:=?_)
    repeat (first|refine wk ?_)
    exact Zad (i+1,v+cpL l[i].l) (a:=⟨by omega,by dsimp only;omega⟩) (b:=by dsimp only;omega)
   ·rw[if_neg (fun h=>h.elim o1 o4)] at e2
    repeat (first|refine wk ?_)
    exact Zad (i+1,v) (a:=⟨by omega,by dsimp only;omega⟩) (b:=by dsimp only;omega)
 ·rw[List.take_of_length_le (by omega)] at h2
  obtain rfl:v=cpL l:=by omega
  repeat (first|refine wk ?_)
  exact fin
theorem ZdW {t:Bool} {l:List Frag} (h:fszs l≤100000000:=by ((try simp only[List.length_map,List.length_append,List.length_cons,List.length_nil,List.length_replicate,List.length_set,List.length_take,List.length_drop]);first|omega|assumption)):ACalls Tryz.prog 108 [.d (Zam t l)] [] (I (cpL l)) [] :=
 ZgM _ (Nat.lt_succ_self _) h
theorem Zla:∀ (n:Nat) {t u:Bool} {l:List Frag},fszs l < n→fszs l≤100000000→ACalls Tryz.prog 42 [.d (Zam t l),.d (Zam u l)] [] (B true) []:=by
 intro n
 induction n with
 | zero=>intro t u l h;omega
 | succ n ih =>
 intro t u l hn hN
 have hl:=Nat.le_trans (Zbg l) hN
 refine ACalls.intro (n:=55) Tryz.func42 rfl rfl (by simp) (by rfl) ?_
 simp only[Zak]
 repeat (first|refine wk ?_)
 refine Zai (X:=Nat) (fun x=>x≤l.length) (fun x=>[(5,I x),(0,.d (Zam t l)),(1,.d (Zam u l))]) (fun _=>[]) (fun x=>l.length - x) 0 (Nat.zero_le _) ?_
 intro i h1
 by_cases hlt:i < l.length
 ·have e3:=Zb8 (List.getElem_mem hlt)
  have e4:=ZdV l[i]
  repeat (first|refine wk ?_)
  refine Zab [] (hA:=ih (t:=t) (u:=u) (l:=l[i].l) (by omega) (by omega)) (hr:=?_)
  repeat (first|refine wk ?_)
  exact Zad (i+1)
 ·repeat (first|refine wk ?_)
  exact fin
theorem Zlb {t u:Bool} {l:List Frag} (h:fszs l≤100000000:=by ((try simp only[List.length_map,List.length_append,List.length_cons,List.length_nil,List.length_replicate,List.length_set,List.length_take,List.length_drop]);first|omega|assumption)):ACalls Tryz.prog 42 [.d (Zam t l),.d (Zam u l)] [] (B true) [] :=
 Zla _ (Nat.lt_succ_self _) h
theorem Zfq {t u:Bool} {l:List Tree} (hN:cnts l≤100000000):ACalls Tryz.prog 20 [.d (Zal t l),.d (Zal u l)] [] (B true) []:=by
 have hl:=Nat.le_trans (ZaR l) hN
 refine ACalls.intro (n:=27) Tryz.func20 rfl rfl (by simp) (by rfl) ?_
 simp only[Zak]
 repeat (first|refine wk ?_)
 refine Zai (X:=Nat) (fun x=>x≤l.length) (fun x=>[(5,I x),(0,.d (Zal t l)),(1,.d (Zal u l))]) (fun _=>[]) (fun x=>l.length - x) 0 (Nat.zero_le _) ?_
 intro i h1
 by_cases hlt:i < l.length
 ·have e3:=Zca (List.getElem_mem hlt)
  have s1:=Zgu (t:=t) (u:=u) (x:=l[i]) (y:=l[i]) (by omega) (by omega)
  rw[Zfv,decide_eq_true rfl] at s1
  repeat (first|refine wk ?_)
  refine Zab [] (hA:=s1) (hr:=?_)
  repeat (first|refine wk ?_)
  exact Zad (i+1)
 ·repeat (first|refine wk ?_)
  exact fin
theorem Zi3 (k:Nat):ZbD (k+1)=ZbD k++[.mk 2 k []]:=by simp[ZbD,List.range_succ]
theorem ZmP (t:Bool) (k:Nat):(ZbD (k+1)).map (ZaV t)=(ZbD k).map (ZaV t)++[.agg [iD 2,iD k,.sl t 3 []]]:=by rw[Zi3];simp[ZaV,Zed]
theorem ZqW (t:Bool) (r:Int) (k:Nat):(Zdd r k).map (ZaV t)=[.agg [iD 1,iD r,Zam t (ZbD k)]]:=by simp[Zdd,ZaV,ZcU]
end Go.Proofs.YtbpmepgnjanhnaaGreat
namespace Go.Proofs.YtbpmepgnjanhnaaGreat
open Go.RowKit
set_option maxRecDepth 100000
theorem Zoe {u:List Int} {n:Int} (hn:n.toNat < u.length):(u.map iD).set n.toNat (iD (u[n.toNat]+1))=(bump u n).map iD:=by
 rw[bump,List.map_set,List.getD_eq_getElem?_getD,List.getElem?_eq_getElem hn];rfl
set_option maxHeartbeats 2000000 in
theorem Ztf:∀ (N:Nat) {t:Bool} {l:List Frag} {m:Nat} {u:List Int} {Z k:Nat},fszs l < N→u.length=k→Upto Z u→Z+fszs l≤100000000→k≤100000000→m≤100000000 →
  ACalls Tryz.prog 110 [.d (Zam t l),I m,.own 1000 k] [(1000,.row 3 1 (u.map iD))] (B (usL m l u).1) [(1000,.row 3 1 ((usL m l u).2.map iD))]:=by
 intro N
 induction N with
 | zero=>intro t l m u Z k h;omega
 | succ N ih =>
 intro t l m u Z k hn hk hB hN hu hm
 have hl:=Nat.le_trans (Zbg l) (show fszs l≤100000000 by omega)
 refine ACalls.intro (n:=73) Tryz.func110 rfl rfl (by simp) (by rfl) ?_
 simp only[Zak]
 repeat (first|refine wk ?_)
 refine Zai (X:=Nat×List Int) (fun x=>x.1≤l.length∧usL m l u=usL m (l.drop x.1) x.2∧x.2.length=k∧Upto (Z+fszs (l.take x.1)) x.2) (fun x=>[(7,I x.1),(0,.d (Zam t l)),(1,I m),(2,.own 1000 k)]) (fun x=>[(1000,.row 3 1 (x.2.map iD))]) (fun x=>l.length - x.1) (0,u) ⟨Nat.zero_le _,rfl,hk,by simpa[fszs] using hB⟩ ?_
 rintro⟨i,v⟩ ⟨h1,h2,h3,h4⟩
 dsimp only at h1 h2 h3 h4 ⊢
 by_cases hlt:i < l.length
 ·have e1:=Zfm hlt
  have e2:=ZdV l[i]
  have e3:=Zb8 (List.getElem_mem hlt)
  have e4:=Zdp l i
  have e5:=ZkE hlt
  have s1:=ZnR (m:=m) (u:=v) hlt
  rw[←h2] at s1
  have s2:=Zp8 m l[i] v
  by_cases o1:l[i].op=1
  ·rw[if_pos o1] at s2
   by_cases n1:l[i].n < 0
   ·rw[if_pos (Or.inl n1)] at s2
    rw[s2] at s1
    rw[s1]
    repeat (first|refine wk ?_)
    exact fin
   by_cases n2:(m:Int)≤l[i].n
   ·rw[if_pos (Or.inr n2)] at s2
    rw[s2] at s1
    rw[s1]
    repeat (first|refine wk ?_)
    exact fin
   rw[if_neg (fun h=>h.elim n1 n2)] at s2
   rw[s2] at s1
   repeat (first|refine wk ?_)
   refine Zab [] (hA:=ih (t:=t) (l:=l[i].l) (m:=m) (u:=v) (Z:=Z+fszs (l.take i)) (k:=k) (by omega) h3 h4 (by omega) (by omega) hm) (hr:=?_)
   have u1:=ZfU m l[i].l v
   have u2:=Zfn m l[i].l v _ h4
   cases hc:(usL m l[i].l v).1 with
   | true =>
    rw[hc] at s1
    simp only[cond_true] at s1
    repeat (first|refine wk ?_)
    exact Zad (i+1,(usL m l[i].l v).2) (a:=⟨by omega,s1,by dsimp only;omega,u2.mono (by dsimp only;omega)⟩) (b:=by dsimp only;omega)
   | false =>
    rw[hc] at s1
    simp only[cond_false] at s1
    rw[s1]
    repeat (first|refine wk ?_)
    exact fin
  ·rw[if_neg o1] at s2
   by_cases o24:l[i].op=2∨l[i].op=4
   ·by_cases n1:l[i].n < 0
    ·have s3:usF m l[i] v=(false,v):=by
      rcases o24 with o2|o4
      ·rw[if_pos o2,if_pos (Or.inl n1)] at s2;exact s2
      ·rw[if_neg (by omega),if_pos o4,if_pos (Or.inl n1)] at s2;exact s2
     rw[s3] at s1
     simp only[cond_false] at s1
     rw[s1]
     by_cases o2:l[i].op=2
     ·repeat (first|refine wk ?_)
      exact fin
     ·have o4:l[i].op=4:=by omega
      repeat (first|refine wk ?_)
      exact fin
    by_cases n2:(k:Int)≤l[i].n
    ·have s3:usF m l[i] v=(false,v):=by
      rcases o24 with o2|o4
      ·rw[if_pos o2,if_pos (Or.inr (by omega))] at s2;exact s2
      ·rw[if_neg (by omega),if_pos o4,if_pos (Or.inr (by omega))] at s2;exact s2
     rw[s3] at s1
     simp only[cond_false] at s1
     rw[s1]
     by_cases o2:l[i].op=2
     ·repeat (first|refine wk ?_)
      exact fin
     ·have o4:l[i].op=4:=by omega
      repeat (first|refine wk ?_)
      exact fin
    have hnk:l[i].n=((l[i].n.toNat:Nat):Int):=by omega
    have hnl:l[i].n.toNat < v.length:=by omega
    have hbr:=Zoe hnl
    have hub:=Zd4 (n:=l[i].n) h4
    have hbl:=ZbQ v l[i].n
    have hvb:=h4 _ (List.getElem_mem hnl)
    by_cases o2:l[i].op=2
    ·rw[if_pos o2,if_neg (fun h=>h.elim n1 (by omega))] at s2
     rw[s2] at s1
     simp only[cond_true] at s1
     repeat (first|refine wk ?_)
     exact Zad (i+1,bump v l[i].n) (a:=⟨by omega,s1,by dsimp only;omega,hub.mono (by dsimp only;omega)⟩) (b:=by dsimp only;omega)
    ·have o4:l[i].op=4:=by omega
     rw[if_neg o2,if_pos o4,if_neg (fun h=>h.elim n1 (by omega))] at s2
     rw[s2] at s1
     have u1:=ZfU m l[i].l (bump v l[i].n)
     have u2:=Zfn m l[i].l (bump v l[i].n) _ hub
     have hih:=ih (t:=t) (l:=l[i].l) (m:=m) (u:=bump v l[i].n) (k:=k) (by omega) (by omega) hub (by omega) (by omega) hm
     rw[←hbr] at hih
     repeat (first|refine wk ?_)
     refine Zab [] (hA:=hih) (hr:=?_)
     cases hc:(usL m l[i].l (bump v l[i].n)).1 with
     | true =>
      rw[hc] at s1
      simp only[cond_true] at s1
      repeat (first|refine wk ?_)
      exact Zad (i+1,(usL m l[i].l (bump v l[i].n)).2) (a:=⟨by omega,s1,by dsimp only;omega,u2.mono (by dsimp only;omega)⟩) (b:=by dsimp only;omega)
     | false =>
      rw[hc] at s1
      simp only[cond_false] at s1
      rw[s1]
      repeat (first|refine wk ?_)
      exact fin
   ·have o2:¬ l[i].op=2:=fun h=>o24 (Or.inl h)
    have o4:¬ l[i].op=4:=fun h=>o24 (Or.inr h)
    rw[if_neg o2,if_neg o4] at s2
    by_cases o3:l[i].op=3
    ·rw[if_pos o3] at s2
     rw[s2] at s1
     simp only[cond_true] at s1
     repeat (first|refine wk ?_)
     exact Zad (i+1,v) (a:=⟨by omega,s1,h3,h4.mono (by dsimp only;omega)⟩) (b:=by dsimp only;omega)
    ·rw[if_neg o3] at s2
     rw[s2] at s1
     simp only[cond_false] at s1
     rw[s1]
     repeat (first|refine wk ?_)
     exact fin
 ·rw[h2,Zum hlt]
  repeat (first|refine wk ?_)
  exact fin
end Go.Proofs.YtbpmepgnjanhnaaGreat
namespace Go.Proofs.YtbpmepgnjanhnaaGreat
open Go.RowKit
set_option maxRecDepth 100000
theorem ZcM {t u:Bool} {g:Gram} {x:Tree} {v:Int} (hl:g.rules.length≤100000000) (hr:∀ r∈g.rules,r.right.length≤100000000) (hx:cnt x≤100000000) :
  ACalls Tryz.prog 58 [.d (ZaH t g),.d (ZaE u x),I v] [] (.d (ZaN (Zaw g x v))) []:=by
 refine ACalls.intro (n:=25) Tryz.func58 rfl rfl (by simp) (by rfl) ?_
 simp only[Zak]
 repeat (first|refine wk ?_)
 refine Zab [] (hA:=ZaY) (hr:=?_)
 by_cases h0:(Zah g).code=0
 ·rw[show Zaw g x v=if cnt x≤400 then (if fits g x v=true then ⟨0,0⟩ else ⟨13, -1⟩) else ⟨6, -1⟩ by rw[Zaw,if_pos h0]]
  repeat (first|refine wk ?_)
  refine Zab [] (hA:=Ztl x hx (m:=400) (by omega)) (hr:=?_)
  by_cases h4:cnt x≤400
  ·rw[if_pos h4,show ZeB ((400:Nat):Int) (cnt x)=((400 - cnt x:Nat):Int) by unfold ZeB;rw[if_pos (by omega)];omega]
   repeat (first|refine wk ?_)
   refine Zab [] (hA:=Ztm hl hr x hx (v:=v)) (hr:=?_)
   cases hf:fits g x v with
   | true =>
    rw[if_pos rfl]
    repeat (first|refine wk ?_)
    exact fin
   | false =>
    rw[if_neg (by simp)]
    repeat (first|refine wk ?_)
    exact fin
  ·rw[if_neg h4,show ZeB ((400:Nat):Int) (cnt x) = -1 by unfold ZeB;rw[if_neg (by omega)]]
   repeat (first|refine wk ?_)
   exact fin
 ·rw[show Zaw g x v=Zah g by rw[Zaw,if_neg h0]]
  repeat (first|refine wk ?_)
  exact fin
theorem ZcN {t u:Bool} {g:Gram} {x:Tree} {v:Int} (hl:g.rules.length≤100000000) (hr:∀ r∈g.rules,r.right.length≤100000000) (hx:cnt x≤100000000) :
  ACalls Tryz.prog 59 [.d (ZaH t g),.d (ZaE u x),I v] [] (.d (ZaN (Zaw g x v))) []:=by
 refine ACalls.intro (n:=26) Tryz.func59 rfl rfl (by simp) (by rfl) ?_
 simp only[Zak]
 repeat (first|refine wk ?_)
 refine Zab [] (hA:=Zb7) (hr:=?_)
 by_cases h0:(Zah g).code=0
 ·rw[show Zaw g x v=if cnt x≤400 then (if fits g x v=true then ⟨0,0⟩ else ⟨13, -1⟩) else ⟨6, -1⟩ by rw[Zaw,if_pos h0]]
  repeat (first|refine wk ?_)
  refine Zab [] (hA:=Zgt (t:=true) (x:=x) (m:=400) hx (by omega)) (hr:=?_)
  by_cases h4:cnt x≤400
  ·rw[if_pos h4,show capN 400 (cnt x)=cnt x by unfold capN;rw[if_pos h4]]
   repeat (first|refine wk ?_)
   refine Zab [] (hA:=Zpt hl hr x hx (v:=v)) (hr:=?_)
   cases hf:fits g x v with
   | true =>
    rw[if_pos rfl]
    repeat (first|refine wk ?_)
    exact fin
   | false =>
    rw[if_neg (by simp)]
    repeat (first|refine wk ?_)
    refine Zab [] (hA:=ZbC) (hr:=?_)
    repeat (first|refine wk ?_)
    exact fin
  ·rw[if_neg h4,show capN 400 (cnt x)=401 by unfold capN;rw[if_neg h4]]
   repeat (first|refine wk ?_)
   refine Zab [] (hA:=ZbC) (hr:=?_)
   repeat (first|refine wk ?_)
   exact fin
 ·rw[show Zaw g x v=Zah g by rw[Zaw,if_neg h0]]
  repeat (first|refine wk ?_)
  exact fin
theorem ZhA {t:Bool}:∀ (x:Tree),cnt x≤100000000→ACalls Tryz.prog 29 [.d (ZaE t x)] [] (.d (ZaE false x)) []:=by
 refine Tree.ind fun x ih hx=>?_
 refine ACalls.intro (n:=27) Tryz.func29 rfl rfl (by simp) (by rfl) ?_
 simp only[Zak]
 have hk:=ZbF hx
 repeat (first|refine wk ?_)
 refine Za9 3 1 900 56 2 rfl rfl rfl rfl ?_
 refine Zai (X:=Nat) (fun i=>i≤x.kids.length) (fun i=>[(4,I i),(3,.ptr 3 0),(2,.ptr 2 0),(1,.ptr 1 0)]) (fun i=>[(1,.box 56 [.d (iD x.rule),.d (Zal t x.kids)]),(2,.box 56 [.d (iD 0),.d (.raw (.slice none 0 0))]),(3,.box 56 [.d (iD x.rule),.own 900 (x.kids.take i).length]),(900,.row 56 2 ((x.kids.take i).map (Zat false)))]) (fun i=>x.kids.length - i) 0 (Nat.zero_le _) ?_
 intro i hi
 by_cases hlt:i < x.kids.length
 ·have e:(x.kids.take (i+1)).map (Zat false)=(x.kids.take i).map (Zat false)++[ZaE false x.kids[i]]:=by
   rw[List.take_succ_eq_append_getElem hlt,List.map_append];simp[Za4]
  repeat (first|refine wk ?_)
  refine Zab [] (hA:=ih x.kids[i] (List.getElem_mem hlt) (ZeG hx hlt).1) (hr:=?_)
  repeat (first|refine wk ?_)
  exact Zad (i+1)
 ·rw[show x.kids.take i=x.kids from List.take_of_length_le (by omega)]
  refine ZaF 900 rfl ?_
  repeat (first|refine wk ?_)
  exact fin
theorem ZeR {t:Bool}:∀ (x:Tree),cnt x≤100000000→ACalls Tryz.prog 47 [.d (ZaE t x)] [] (.d (ZaE false x)) []:=by
 refine Tree.ind fun x ih hx=>?_
 refine ACalls.intro (n:=25) Tryz.func47 rfl rfl (by simp) (by rfl) ?_
 simp only[Zak]
 have hk:=ZbF hx
 repeat (first|refine wk ?_)
 refine Za9 3 1 900 56 2 rfl rfl rfl rfl ?_
 refine Zai (X:=Nat) (fun i=>i≤x.kids.length) (fun i=>[(12,I i),(11,I x.kids.length),(10,.d (Zal t x.kids)),(3,.ptr 3 0),(2,.ptr 2 0),(1,.ptr 1 0)]) (fun i=>[(1,.box 56 [.d (iD x.rule),.d (Zal t x.kids)]),(2,.box 56 [.d (iD 0),.d (.raw (.slice none 0 0))]),(3,.box 56 [.d (iD x.rule),.own 900 (x.kids.take i).length]),(900,.row 56 2 ((x.kids.take i).map (Zat false)))]) (fun i=>x.kids.length - i) 0 (Nat.zero_le _) ?_
 intro i hi
 by_cases hlt:i < x.kids.length
 ·have e:(x.kids.take (i+1)).map (Zat false)=(x.kids.take i).map (Zat false)++[ZaE false x.kids[i]]:=by
   rw[List.take_succ_eq_append_getElem hlt,List.map_append];simp[Za4]
  repeat (first|refine wk ?_)
  refine Zab [] (hA:=ih x.kids[i] (List.getElem_mem hlt) (ZeG hx hlt).1) (hr:=?_)
  repeat (first|refine wk ?_)
  exact Zad (i+1)
 ·rw[show x.kids.take i=x.kids from List.take_of_length_le (by omega)]
  refine ZaF 900 rfl ?_
  repeat (first|refine wk ?_)
  exact fin
theorem Ztg {t u:Bool} {g:Gram} (hg:g.ok):∀ (x:Tree) (v:Int),fits g x v=true→cnt x≤400→∀ out:List Int,out.length+10 * cnt x≤1000000 →
  ACalls Tryz.prog 181 [.d (ZaH t g),.d (ZaE u x),.own 1000 out.length] [(1000,.row 3 1 (out.map iD))] (.own 1000 (out++ZbT g x).length) [(1000,.row 3 1 ((out++ZbT g x).map iD))]:=by
 refine Tree.ind fun x ih v hf hx out ho=>?_
 refine ACalls.intro (n:=41) Tryz.func181 rfl rfl (by simp) (by rfl) ?_
 simp only[Zak]
 obtain⟨i,hi,e1,e2,e3,e4,e5⟩:=Zey hf
 have hk:=ZbF hx
 have hlen:=hg.rules
 have hrt:=hg.right _ (List.getElem_mem hi)
 have hwl:=Zez 10 hg.right x
 repeat (first|refine wk ?_)
 refine Zai (X:=Nat×Nat×List Int) (fun y=>y.1≤g.rules[i].right.length∧y.2.1=(kids (g.rules[i].right.take y.1)).length∧ZbT g x=y.2.2++wordL g (g.rules[i].right.drop y.1) (x.kids.drop y.2.1)∧y.2.2.length≤y.1+10 * cnts (x.kids.take y.2.1))
  (fun y=>[(18,I y.1),(17,I g.rules[i].right.length),(16,.d (ints t g.rules[i].right)),(7,I y.2.1),(4,.ptr 4 0),(3,.ptr 3 0),(2,.own 1000 (out++y.2.2).length)])
  (fun y=>[(3,Zar t g),(4,.box 56 [.d (iD x.rule),.d (Zal u x.kids)]),(1000,.row 3 1 ((out++y.2.2).map iD))]) (fun y=>g.rules[i].right.length - y.1) (0,0,[]) ⟨Nat.zero_le _,by simp[kids],by simpa using e5,by simp⟩ ?_
 rintro⟨j,q,pre⟩ ⟨h1,h2,h3,h4⟩
 dsimp only at h1 h2 h3 h4 ⊢
 have hpl:(ZbT g x).length=pre.length+(wordL g (g.rules[i].right.drop j) (x.kids.drop q)).length:=by rw[h3,List.length_append]
 have hol:(out++pre).length=out.length+pre.length:=List.length_append
 by_cases hlt:j < g.rules[i].right.length
 ·have hlo:=hg.lo _ (List.getElem_mem hi) _ (List.getElem_mem hlt)
  have hte:=hg.terms
  by_cases hs:g.rules[i].right[j] < 0
  ·rw[Zko hlt hs,List.length_cons] at hpl
   rw[Zko hlt hs] at h3
   have e:=ZcE g.rules[i].right j hlt
   rw[Zfk hs,List.append_nil] at e
   repeat (first|refine wk ?_)
   exact Zad (j+1,q,pre++[-1 - g.rules[i].right[j]]) (a:=⟨by omega,by dsimp only;rw[e];exact h2,by simpa using h3,by simp;omega⟩) (b:=by dsimp only;omega)
  ·have hq:q < x.kids.length:=by have:=ZgE hlt hs;omega
   have hq2:q < (kids g.rules[i].right).length:=by omega
   have e:=ZcE g.rules[i].right j hlt
   rw[ZgQ (by omega)] at e
   have hfk:=ZfL e4 hq hq2
   have hkl:=ZeG hx hq
   rw[Zkp hlt hs hq,List.length_append] at hpl
   rw[Zkp hlt hs hq] at h3
   have hc1:=ZdX x
   have hc2:=Zfu hq
   have hc3:=ZhG hq
   have hc4:cnts x.kids=cnts (x.kids.take q)+cnts (x.kids.drop q):=by rw[←Zbd,List.take_append_drop]
   have hc5:=Zez 10 hg.right x.kids[q]
   have hol2:(out++pre).length+10 * cnt x.kids[q]≤1000000:=by omega
   repeat (first|refine wk ?_)
   refine Zab [] (hA:=ih x.kids[q] (List.getElem_mem hq) _ hfk hkl.1 (out++pre) hol2) (hr:=?_)
   repeat (first|refine wk ?_)
   exact Zad (j+1,q+1,pre++ZbT g x.kids[q]) (a:=⟨by omega,by dsimp only;rw[e,List.length_append];simp;omega,by simpa using h3,by simp only[List.length_append];omega⟩) (b:=by dsimp only;omega)
 ·rw[Zl6 hlt,List.append_nil] at h3
  repeat (first|refine wk ?_)
  rw[h3]
  exact fin
theorem ZqX {t u:Bool} {g:Gram} {x:Tree} {v:Int} (hg:g.ok) (hf:fits g x v=true) (hx:cnt x≤400) :
  ACalls Tryz.prog 181 [.d (ZaH t g),.d (ZaE u x),.d (.raw (.slice none 0 0))] [] (.own 900 (ZbT g x).length) [(900,.row 3 1 ((ZbT g x).map iD))] :=
 ACalls.nilArg (pre:=[ZaH t g,ZaE u x]) (post:=[]) (Ztg hg x v hf hx [] (by simp;omega))
theorem Zpr {t u:Bool} {g:Gram} (hg:g.ok):∀ (x:Tree) (v:Int),fits g x v=true→cnt x≤400 →
  ACalls Tryz.prog 107 [.d (ZaH t g),.d (ZaE u x)] [] (.own 900 (ZbT g x).length) [(900,.row 3 1 ((ZbT g x).map iD))]:=by
 refine Tree.ind fun x ih v hf hx=>?_
 refine ACalls.intro (n:=47) Tryz.func107 rfl rfl (by simp) (by rfl) ?_
 simp only[Zak]
 obtain⟨i,hi,e1,e2,e3,e4,e5⟩:=Zey hf
 have hk:=ZbF hx
 have hlen:=hg.rules
 have hrt:=hg.right _ (List.getElem_mem hi)
 have hwl:=Zez 10 hg.right x
 repeat (first|refine wk ?_)
 refine ZaU 5 900 3 1 rfl rfl rfl ?_
 refine Zai (X:=Nat×Nat×List Int) (fun y=>y.1≤g.rules[i].right.length∧y.2.1=(kids (g.rules[i].right.take y.1)).length∧ZbT g x=y.2.2++wordL g (g.rules[i].right.drop y.1) (x.kids.drop y.2.1))
  (fun y=>[(8,I y.1),(7,.d (ints t g.rules[i].right)),(6,I y.2.1),(3,.ptr 3 0),(2,.ptr 2 0),(5,.own 900 y.2.2.length)])
  (fun y=>[(2,Zar t g),(3,.box 56 [.d (iD x.rule),.d (Zal u x.kids)]),(900,.row 3 1 (y.2.2.map iD))]) (fun y=>g.rules[i].right.length - y.1) (0,0,[]) ⟨Nat.zero_le _,by simp[kids],by simpa using e5⟩ ?_
 rintro⟨j,q,pre⟩ ⟨h1,h2,h3⟩
 dsimp only at h1 h2 h3 ⊢
 have hpl:(ZbT g x).length=pre.length+(wordL g (g.rules[i].right.drop j) (x.kids.drop q)).length:=by rw[h3,List.length_append]
 by_cases hlt:j < g.rules[i].right.length
 ·have hlo:=hg.lo _ (List.getElem_mem hi) _ (List.getElem_mem hlt)
  have hte:=hg.terms
  by_cases hs:g.rules[i].right[j] < 0
  ·rw[Zko hlt hs,List.length_cons] at hpl
   rw[Zko hlt hs] at h3
   have e:=ZcE g.rules[i].right j hlt
   rw[Zfk hs,List.append_nil] at e
   repeat (first|refine wk ?_)
   exact Zad (j+1,q,pre++[-1 - g.rules[i].right[j]]) (a:=⟨by omega,by dsimp only;rw[e];exact h2,by simpa using h3⟩) (b:=by dsimp only;omega)
  ·have hq:q < x.kids.length:=by have:=ZgE hlt hs;omega
   have hq2:q < (kids g.rules[i].right).length:=by omega
   have e:=ZcE g.rules[i].right j hlt
   rw[ZgQ (by omega)] at e
   have hfk:=ZfL e4 hq hq2
   have hkl:=ZeG hx hq
   rw[Zkp hlt hs hq,List.length_append] at hpl
   rw[Zkp hlt hs hq] at h3
   repeat (first|refine wk ?_)
   refine Zab [(900,800)] (hA:=ih x.kids[q] (List.getElem_mem hq) _ hfk hkl.1) (hr:=?_)
   repeat (first|refine wk ?_)
   exact Zad (j+1,q+1,pre++ZbT g x.kids[q]) (a:=⟨by omega,by dsimp only;rw[e,List.length_append];simp;omega,by simpa using h3⟩) (b:=by dsimp only;omega)
 ·rw[Zl6 hlt,List.append_nil] at h3
  repeat (first|refine wk ?_)
  rw[h3]
  exact fin
end Go.Proofs.YtbpmepgnjanhnaaGreat
