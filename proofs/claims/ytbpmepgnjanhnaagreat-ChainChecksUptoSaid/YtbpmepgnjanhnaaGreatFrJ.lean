import Derived.Test.YtbpmepgnjanhnaaGreatFrG
import Derived.Test.YtbpmepgnjanhnaaGreatQFrC
set_option linter.unusedVariables false
set_option linter.unusedSimpArgs false
set_option linter.unusedSectionVars false
namespace Go.Proofs.YtbpmepgnjanhnaaGreat
open Go.RowKit
set_option maxRecDepth 100000
theorem ZsC:∀ (N:Nat) {l w:List Tree},cnts l < N→cnts l * (1+cnts w)≤100000000→cnts w≤100000000→ACalls Tryz.prog 218 [.d (Zal false l),.d (Zal false w)] [] (.d (Zal false (Za6 w l))) []:=by
 intro N
 induction N with
 | zero=>intro l w h;omega
 | succ N ih =>
 intro l w hn hN hwN
 have hcl:cnts l≤cnts l * (1+cnts w):=Nat.le_mul_of_pos_right _ (by omega)
 have hl:=Nat.le_trans (ZaR l) (Nat.le_trans hcl hN)
 have hwl:=Nat.le_trans (ZaR w) hwN
 refine ACalls.intro (n:=50) Tryz.func218 rfl rfl (by simp) (by rfl) ?_
 simp only[Zak]
 repeat (first|refine wk ?_|refine Zaa (hr:=?_))
 refine ZaU 5 900 56 2 rfl rfl rfl ?_
 refine Zai (X:=Nat) (fun i=>i≤l.length) (fun i=>[(6,I i),(5,.own 900 (Za6 w (l.take i)).length),(0,.d (Zal false l)),(1,.d (Zal false w))]) (fun i=>[(900,.row 56 2 ((Za6 w (l.take i)).map (Zat false)))]) (fun i=>l.length - i) 0 (Nat.zero_le _) ?_
 intro i h1
 by_cases hlt:i < l.length
 ·have e1:=Zi4 (w:=w) hlt
  have e2:=Zog w l[i]
  have e3:=Zca (List.getElem_mem hlt)
  have e4:=ZdX l[i]
  have e5:=Nat.le_trans (ZaR _) (Zd8 w (l.take (i+1)))
  have e6:cnts (l.take (i+1))≤cnts l:=by have:=Zbd (l.take (i+1)) (l.drop (i+1));rw[List.take_append_drop] at this;omega
  have e7:=Nat.le_trans e5 (Nat.mul_le_mul_right (1+cnts w) e6)
  have e8:=congrArg List.length e1
  rw[List.length_append] at e8
  by_cases hr:l[i].rule = -1
  ·rw[if_pos hr] at e2
   rw[e2] at e1 e8
   generalize Za6 w (l.take i)=A at *
   repeat (first|refine wk ?_|refine Zaa (hr:=?_))
   refine Zai (X:=Nat) (fun k=>k≤w.length) (fun k=>[(7,I k),(6,I i),(5,.own 900 (A++w.take k).length),(0,.d (Zal false l)),(1,.d (Zal false w))]) (fun k=>[(900,.row 56 2 ((A++w.take k).map (Zat false)))]) (fun k=>w.length - k) 0 (Nat.zero_le _) ?_
   intro k hk
   by_cases hkt:k < w.length
   ·have e:(A++w.take k).map (Zat false)++[ZaE false w[k]]=(A++w.take (k+1)).map (Zat false):=by
     rw[List.take_succ_eq_append_getElem hkt,←List.append_assoc,List.map_append (l₂:=[w[k]])];simp[Za4]
    have hwt:(w.take k).length≤w.length:=by simp;omega
    repeat (first|refine wk ?_|refine Zaa (hr:=?_))
    rw[e,List.length_map]
    exact Zad (k+1)
   ·rw[List.take_of_length_le (by omega),←e1]
    repeat (first|refine wk ?_|refine Zaa (hr:=?_))
    exact Zad (i+1)
  ·rw[if_neg hr] at e2
   rw[e2] at e1 e8
   have e:(Za6 w (l.take i)).map (Zat false)++[D.agg [iD l[i].rule,Zal false (Za6 w l[i].kids)]]=(Za6 w (l.take (i+1))).map (Zat false):=by rw[e1,List.map_append];simp only[List.map_cons,List.map_nil,Za4];rfl
   have hk:=Nat.mul_le_mul_right (1+cnts w) (show cnts l[i].kids≤cnts l by omega)
   repeat (first|refine wk ?_|refine Zaa (hr:=?_))
   refine Zab [] (hA:=ih (l:=l[i].kids) (w:=w) (by omega) (by omega) hwN) (hr:=?_)
   repeat (first|refine wk ?_|refine Zaa (hr:=?_))
   rw[e,List.length_map]
   exact Zad (i+1)
 ·rw[show l.take i=l from List.take_of_length_le (by omega)]
  refine ZaF 900 rfl ?_
  repeat (first|refine wk ?_|refine Zaa (hr:=?_))
  exact fin
theorem ZsD {l w:List Tree} (h1:cnts l≤400) (h2:cnts w≤400):ACalls Tryz.prog 218 [.d (Zal false l),.d (Zal false w)] [] (.d (Zal false (Za6 w l))) [] :=
 ZsC _ (Nat.lt_succ_self _) (Nat.le_trans (Nat.mul_le_mul h1 (show 1+cnts w≤401 by omega)) (by decide)) (by omega)
def ZgI (kids:List (List Tree)) (l:List Frag):List Tree×Bool:=match mkA kids l with
 | none=>([],false)
 | some a=>(a,decide (cnts a≤400))
theorem ZjE {kids:List (List Tree)} {l:List Frag}:(mkL kids l=none∧(ZgI kids l).2=false)∨∃ a,mkL kids l=some a∧ZgI kids l=(a,true)∧cnts a≤400:=by
 unfold ZgI mkL
 cases mkA kids l with
 | none=>exact .inl ⟨rfl,rfl⟩
 | some a =>
  by_cases h:cnts a≤400
  ·exact .inr ⟨a,by show Zco a=_;unfold Zco;rw[if_pos h],(by show (a,decide (cnts a≤400))=(a,true);rw[decide_eq_true h]),h⟩
  ·exact .inl ⟨by show Zco a=_;unfold Zco;rw[if_neg h],decide_eq_false h⟩
theorem Zo1 {kids:List (List Tree)} {l:List Frag} (h:mkA kids l=none):ZgI kids l=([],false):=by unfold ZgI;rw[h]
set_option maxHeartbeats 4000000 in
theorem ZsE:∀ (N:Nat) {t:Bool} {l:List Frag} {kids:List (List Tree)} {m:Int} {u:List Int},cpL l < N→cpL l≤60→(usL m l u).1=true→u.length=kids.length→(∀ k∈kids,cnts k≤400)→kids.length≤100000000 →
  ACalls Tryz.prog 180 [.d (Zam t l),.d (ZsA kids)] [] (.tup [.d (Zal false (ZgI kids l).1),B (ZgI kids l).2]) []:=by
 intro N
 induction N with
 | zero=>intro t l kids m u h;omega
 | succ N ih =>
 intro t l kids m u hn h60 hus hk hk4 hkN
 have hl:l.length≤cpL l:=Zmi l
 refine ACalls.intro (n:=87) Tryz.func180 rfl rfl (by simp) (by rfl) ?_
 simp only[Zak]
 repeat (first|refine wk ?_|refine Zaa (hr:=?_))
 refine ZaU 6 900 56 2 rfl rfl rfl ?_
 refine Zai (X:=Nat×List Tree×List Int) (fun x=>x.1≤l.length∧mkA kids (l.take x.1)=some x.2.1∧(usL m (l.drop x.1) x.2.2).1=true∧x.2.2.length=kids.length) (fun x=>[(7,I x.1),(6,.own 900 x.2.1.length),(0,.d (Zam t l)),(1,.d (ZsA kids))]) (fun x=>[(900,.row 56 2 (x.2.1.map (Zat false)))]) (fun x=>l.length - x.1) (0,[],u) ⟨Nat.zero_le _,rfl,hus,hk⟩ ?_
 rintro⟨i,A,v⟩ ⟨h1,h2,h3,h4⟩
 dsimp only at h1 h2 h3 h4 ⊢
 by_cases hlt:i < l.length
 ·have e1:=Zoh (kids:=kids) hlt
  have e2:=Zq2 kids l[i]
  have e3:=ZjH hlt
  have e4:=ZiJ l[i]
  have e5:cpL l=cpL (l.take (i+1))+cpL (l.drop (i+1)):=by rw[←ZcT,List.take_append_drop]
  obtain⟨g1,g2⟩:=ZnN hlt h3
  have g3:=Zp8 m l[i] v
  have g4:=Zmo m l[i] v
  have hA:=Nat.le_trans (ZaR A) (ZeS hk4 h2)
  have hti:(l.take i).length≤60:=by rw[List.length_take];omega
  rw[h2] at e1
  have hmany:mkA kids (l.take (i+1))=none→ZgI kids l=([],false):=fun h=>Zo1 (Zoi h)
  by_cases o1:l[i].op=1
  ·rw[if_pos (Or.inl o1)] at e4
   rw[if_pos o1] at e2 g3
   have g5:(usL m l[i].l v).1=true:=by
    rw[g3] at g1
    split at g1
    ·cases g1
    ·exact g1
   have hih:=ih (t:=t) (l:=l[i].l) (kids:=kids) (m:=m) (u:=v) (by omega) (by omega) g5 h4 hk4 hkN
   rcases ZjE (kids:=kids) (l:=l[i].l) with ⟨c1,c2⟩|⟨a,c1,c2,c3⟩
   ·rw[c2] at hih
    rw[c1] at e2
    rw[e2] at e1
    rw[hmany e1]
    repeat (first|refine wk ?_|refine Zaa (hr:=?_))
    refine Zab [] (hA:=hih) (hr:=?_)
    repeat (first|refine wk ?_|refine Zaa (hr:=?_))
    exact Fin.r2 rfl (.of_tmp rfl) (.of_tmp rfl) (Co.tup (by repeat' (first|exact trivial|(refine⟨?_,?_⟩)|exact Co.refl _|exact Co.froz rfl rfl|exact Co.froz rfl (by simp)|exact Co.nil _ _))) (by repeat' (first|exact trivial|exact HElt.of rfl)) rfl
   ·rw[c2] at hih
    rw[c1] at e2
    rw[e2] at e1
    have e:A.map (Zat false)++[D.agg [iD l[i].n,Zal false a]]=(A++[Tree.mk l[i].n a]).map (Zat false):=by rw[List.map_append];simp only[List.map_cons,List.map_nil,Za4];rfl
    repeat (first|refine wk ?_|refine Zaa (hr:=?_))
    refine Zab [] (hA:=hih) (hr:=?_)
    repeat (first|refine wk ?_|refine Zaa (hr:=?_))
    rw[e,List.length_map]
    exact Zad (i+1,A++[Tree.mk l[i].n a],(usF m l[i] v).2) (a:=⟨by omega,e1,g2,g4.trans h4⟩) (b:=by dsimp only;omega)
  ·rw[if_neg o1] at e2 g3
   by_cases o2:l[i].op=2
   ·rw[if_pos o2] at e2 g3
    have hn0:¬ (l[i].n < 0∨(v.length:Int)≤l[i].n):=fun h=>by rw[g3,if_pos h] at g1;cases g1
    have hnk:l[i].n=((l[i].n.toNat:Nat):Int):=by omega
    have hnl:l[i].n.toNat < kids.length:=by omega
    have hget:kids.getD l[i].n.toNat []=kids[l[i].n.toNat]:=by rw[List.getD_eq_getElem?_getD,List.getElem?_eq_getElem hnl];rfl
    have hkc:=hk4 _ (List.getElem_mem hnl)
    rw[hget] at e2
    have hkl:=ZaR kids[l[i].n.toNat]
    rw[e2] at e1
    have e:A.map (Zat false)++kids[l[i].n.toNat].map (Zat false)=(A++kids[l[i].n.toNat]).map (Zat false):=by rw[List.map_append]
    repeat (first|refine wk ?_|refine Zaa (hr:=?_))
    rw[e,List.length_map]
    exact Zad (i+1,A++kids[l[i].n.toNat],(usF m l[i] v).2) (a:=⟨by omega,e1,g2,g4.trans h4⟩) (b:=by dsimp only;omega)
   ·rw[if_neg o2] at e2 g3
    by_cases o3:l[i].op=3
    ·rw[if_pos o3] at e2
     rw[e2] at e1
     have e:(A++[Tree.mk (-1) []]).map (Zat false)=A.map (Zat false)++[D.agg [iD (-1),Zal false []]]:=by rw[List.map_append];simp only[List.map_cons,List.map_nil,Za4];rfl
     repeat (first|refine wk ?_|refine Zaa (hr:=?_))
     exact Zad (i+1,A++[Tree.mk (-1) []],(usF m l[i] v).2) (a:=⟨by omega,e1,g2,g4.trans h4⟩) (b:=by dsimp only;omega)
    ·rw[if_neg o3] at e2
     by_cases o4:l[i].op=4
     ·rw[if_pos o4] at e2 g3
      rw[if_pos (Or.inr o4)] at e4
      have hn0:¬ (l[i].n < 0∨(v.length:Int)≤l[i].n):=fun h=>by rw[g3,if_pos h] at g1;cases g1
      have hnk:l[i].n=((l[i].n.toNat:Nat):Int):=by omega
      have hnl:l[i].n.toNat < kids.length:=by omega
      have hget:kids.getD l[i].n.toNat []=kids[l[i].n.toNat]:=by rw[List.getD_eq_getElem?_getD,List.getElem?_eq_getElem hnl];rfl
      have hkc:=hk4 _ (List.getElem_mem hnl)
      rw[hget] at e2
      have g5:(usL m l[i].l (bump v l[i].n)).1=true:=by rw[g3,if_neg hn0] at g1;exact g1
      have hih:=ih (t:=t) (l:=l[i].l) (kids:=kids) (m:=m) (u:=bump v l[i].n) (by omega) (by omega) g5 (by rw[ZbQ];exact h4) hk4 hkN
      rcases ZjE (kids:=kids) (l:=l[i].l) with ⟨c1,c2⟩|⟨a,c1,c2,c3⟩
      ·rw[c2] at hih
       rw[c1] at e2
       rw[e2] at e1
       rw[hmany e1]
       repeat (first|refine wk ?_|refine Zaa (hr:=?_))
       refine Zab [] (hA:=hih) (hr:=?_)
       repeat (first|refine wk ?_|refine Zaa (hr:=?_))
       exact Fin.r2 rfl (.of_tmp rfl) (.of_tmp rfl) (Co.tup (by repeat' (first|exact trivial|(refine⟨?_,?_⟩)|exact Co.refl _|exact Co.froz rfl rfl|exact Co.froz rfl (by simp)|exact Co.nil _ _))) (by repeat' (first|exact trivial|exact HElt.of rfl)) rfl
      ·rw[c2] at hih
       rw[c1] at e2
       have hf:=ZsD (l:=kids[l[i].n.toNat]) (w:=a) hkc c3
       have hfc:=Zhd (l:=kids[l[i].n.toNat]) (w:=a) hkc c3
       have hfl:=ZaR (Za6 a kids[l[i].n.toNat])
       have hbind:(some a).bind (fun a=>Zco (Za6 a kids[l[i].n.toNat]))=Zco (Za6 a kids[l[i].n.toNat]):=rfl
       rw[hbind] at e2
       generalize Za6 a kids[l[i].n.toNat]=z at *
       by_cases hbig:cnts z≤400
       ·have e3':Zco z=some z:=by unfold Zco;rw[if_pos hbig]
        rw[e3'] at e2
        rw[e2] at e1
        have hcap:capN 400 (cnts z)=cnts z:=if_pos hbig
        have e:A.map (Zat false)++z.map (Zat false)=(A++z).map (Zat false):=by rw[List.map_append]
        repeat (first|refine wk ?_|refine Zaa (hr:=?_))
        refine Zab [] (hA:=hih) (hr:=?_)
        repeat (first|refine wk ?_|refine Zaa (hr:=?_))
        refine Zab [] (hA:=hf) (hr:=?_)
        repeat (first|refine wk ?_|refine Zaa (hr:=?_))
        refine Zab [] (hA:=ZeT (m:=400)) (hr:=?_)
        rw[hcap]
        repeat (first|refine wk ?_|refine Zaa (hr:=?_))
        rw[e,List.length_map]
        exact Zad (i+1,A++z,(usF m l[i] v).2) (a:=⟨by omega,e1,g2,g4.trans h4⟩) (b:=by dsimp only;omega)
       ·have e3':Zco z=none:=by unfold Zco;rw[if_neg hbig]
        rw[e3'] at e2
        rw[e2] at e1
        have hcap:capN 400 (cnts z)=401:=if_neg hbig
        rw[hmany e1]
        repeat (first|refine wk ?_|refine Zaa (hr:=?_))
        refine Zab [] (hA:=hih) (hr:=?_)
        repeat (first|refine wk ?_|refine Zaa (hr:=?_))
        refine Zab [] (hA:=hf) (hr:=?_)
        repeat (first|refine wk ?_|refine Zaa (hr:=?_))
        refine Zab [] (hA:=ZeT (m:=400)) (hr:=?_)
        rw[hcap]
        repeat (first|refine wk ?_|refine Zaa (hr:=?_))
        exact Fin.r2 rfl (.of_tmp rfl) (.of_tmp rfl) (Co.tup (by repeat' (first|exact trivial|(refine⟨?_,?_⟩)|exact Co.refl _|exact Co.froz rfl rfl|exact Co.froz rfl (by simp)|exact Co.nil _ _))) (by repeat' (first|exact trivial|exact HElt.of rfl)) rfl
     ·rw[if_neg o4] at e2
      rw[e2] at e1
      have e1':mkA kids (l.take (i+1))=some A:=by rw[e1];show some (A++[])=some A;rw[List.append_nil]
      repeat (first|refine wk ?_|refine Zaa (hr:=?_))
      exact Zad (i+1,A,(usF m l[i] v).2) (a:=⟨by omega,e1',g2,g4.trans h4⟩) (b:=by dsimp only;omega)
 ·have e0:l.take i=l:=List.take_of_length_le (by omega)
  rw[e0] at h2
  have hA:=Nat.le_trans (ZaR A) (ZeS hk4 h2)
  have hAc:=ZeS hk4 h2
  have hm:ZgI kids l=(A,decide (cnts A≤400)):=by unfold ZgI;rw[h2]
  have hcap:decide (((capN 400 (cnts A):Nat):Int)≤400)=decide (cnts A≤400):=by
   unfold capN;split
   ·rw[decide_eq_true (by omega),decide_eq_true (by omega)]
   ·rw[decide_eq_false (by omega),decide_eq_false (by omega)]
  rw[hm,←hcap]
  refine ZaF 900 rfl ?_
  repeat (first|refine wk ?_|refine Zaa (hr:=?_))
  refine ZdQ [] (hA:=ZeT (l:=A) (m:=400)) (hr:=?_)
  repeat (first|refine wk ?_|refine Zaa (hr:=?_))
  exact Fin.r2 rfl (.of_tmp rfl) (.of_tmp rfl) (Co.tup (by repeat' (first|exact trivial|(refine⟨?_,?_⟩)|exact Co.refl _|exact Co.froz rfl rfl|exact Co.froz rfl (by simp)|exact Co.nil _ _))) (by repeat' (first|exact trivial|exact HElt.of rfl)) rfl
end Go.Proofs.YtbpmepgnjanhnaaGreat
namespace Go.Proofs.YtbpmepgnjanhnaaGreat
open Go.RowKit
set_option maxRecDepth 100000
theorem Zmj:∀ (n:Nat) {t:Bool} {l:List Frag},fszs l < n→fszs l≤100000000→ACalls Tryz.prog 57 [.d (Zam t l)] [] (.d (Zam false l)) []:=by
 intro n
 induction n with
 | zero=>intro t l h;omega
 | succ n ih =>
 intro t l hn hN
 have hl:=Nat.le_trans (Zbg l) hN
 refine ACalls.intro (n:=32) Tryz.func57 rfl rfl (by simp) (by rfl) ?_
 simp only[Zak]
 repeat (first|refine wk ?_|refine Zaa (hr:=?_))
 refine ZaU 3 900 102 3 rfl rfl rfl ?_
 refine Zai (X:=Nat) (fun i=>i≤l.length) (fun i=>[(4,I i),(3,.own 900 (l.take i).length),(0,.d (Zam t l))]) (fun i=>[(900,.row 102 3 ((l.take i).map (ZaV false)))]) (fun i=>l.length - i) 0 (Nat.zero_le _) ?_
 intro i h1
 have htk:(l.take i).length=i:=by simp;omega
 by_cases hlt:i < l.length
 ·have e3:=Zb8 (List.getElem_mem hlt)
  have e4:=ZdV l[i]
  have e:(l.take i).map (ZaV false)++[D.agg [iD l[i].op,iD l[i].n,Zam false l[i].l]]=(l.take (i+1)).map (ZaV false):=by
   rw[List.take_succ_eq_append_getElem hlt,List.map_append];simp only[List.map_cons,List.map_nil,ZbG]
  repeat (first|refine wk ?_|refine Zaa (hr:=?_))
  refine Zab [] (hA:=ih (t:=t) (l:=l[i].l) (by omega) (by omega)) (hr:=?_)
  repeat (first|refine wk ?_|refine Zaa (hr:=?_))
  rw[e,List.length_map]
  exact Zad (i+1)
 ·rw[show l.take i=l from List.take_of_length_le (by omega)]
  refine ZaF 900 rfl ?_
  repeat (first|refine wk ?_|refine Zaa (hr:=?_))
  exact fin
theorem Zmk {t:Bool} {l:List Frag} (h:fszs l≤100000000:=by ((try simp only[List.length_map,List.length_append,List.length_cons,List.length_nil,List.length_replicate,List.length_set,List.length_take,List.length_drop]);first|omega|assumption)):ACalls Tryz.prog 57 [.d (Zam t l)] [] (.d (Zam false l)) []:=Zmj _ (Nat.lt_succ_self _) h
set_option maxHeartbeats 2000000 in
theorem Zml {t:Bool} {s:Step} (hs:s.fit):ACalls Tryz.prog 27 [.d (Zbv t s)] [] (.d (Zbv false s)) []:=by
 refine ACalls.intro (n:=47) Tryz.func27 rfl rfl (by simp) (by rfl) ?_
 simp only[Zak]
 have hf:=hs.frags
 have he:=hs.empty
 repeat (first|refine wk ?_|refine Zaa (hr:=?_))
 refine Zab [] (hA:=ZmS hs.g) (hr:=?_)
 repeat (first|refine wk ?_|refine Zaa (hr:=?_))
 refine Za9 3 4 910 75 1 rfl rfl rfl rfl ?_
 refine Zai (X:=Nat) (fun i=>i≤s.frags.length) (fun i=>[(4,I i),(3,.ptr 3 0),(2,.ptr 2 0),(1,.ptr 1 0)])
  (fun i=>[(1,Zbh t s),(2,.box 39 [.d (iD 0),.d (iD 0),.d (iD 0),.d (.raw (.slice none 0 0)),.d (.raw (.slice none 0 0)),.d (.raw (.slice none 0 0))]),(3,.box 39 [.d (iD s.g.vars),.d (iD s.g.terms),.d (iD s.g.start),.own 900 s.g.rules.length,.own 910 (s.frags.take i).length,.d (.raw (.slice none 0 0))]),(900,.row 68 2 (s.g.rules.map (Zbu false))),(910,.row 75 1 ((s.frags.take i).map (Zam false)))]) (fun i=>s.frags.length - i) 0 (Nat.zero_le _) ?_
 intro i hi
 have htk:(s.frags.take i).length=i:=by simp;omega
 by_cases hlt:i < s.frags.length
 ·have hfi:=hs.frag _ (List.getElem_mem hlt)
  have e:(s.frags.take i).map (Zam false)++[Zam false s.frags[i]]=(s.frags.take (i+1)).map (Zam false):=by
   rw[List.take_succ_eq_append_getElem hlt,List.map_append];rfl
  repeat (first|refine wk ?_|refine Zaa (hr:=?_))
  refine Zab [] (hA:=Zmk hfi) (hr:=?_)
  repeat (first|refine wk ?_|refine Zaa (hr:=?_))
  rw[e,List.length_map]
  exact Zad (i+1)
 ·rw[show s.frags.take i=s.frags from List.take_of_length_le (by omega)]
  repeat (first|refine wk ?_|refine Zaa (hr:=?_))
  refine Za9 3 5 911 56 2 rfl rfl rfl rfl ?_
  refine Zai (X:=Nat) (fun i=>i≤s.empty.length) (fun i=>[(5,I i),(3,.ptr 3 0),(2,.ptr 2 0),(1,.ptr 1 0)])
   (fun i=>[(1,Zbh t s),(2,.box 39 [.d (iD 0),.d (iD 0),.d (iD 0),.d (.raw (.slice none 0 0)),.d (.raw (.slice none 0 0)),.d (.raw (.slice none 0 0))]),(3,.box 39 [.d (iD s.g.vars),.d (iD s.g.terms),.d (iD s.g.start),.own 900 s.g.rules.length,.own 910 s.frags.length,.own 911 (s.empty.take i).length]),(900,.row 68 2 (s.g.rules.map (Zbu false))),(910,.row 75 1 (s.frags.map (Zam false))),(911,.row 56 2 ((s.empty.take i).map (Zat false)))]) (fun i=>s.empty.length - i) 0 (Nat.zero_le _) ?_
  intro i hi
  have htk:(s.empty.take i).length=i:=by simp;omega
  by_cases hlt:i < s.empty.length
  ·have hc:=hs.trees _ (List.getElem_mem hlt)
   have e:(s.empty.take i).map (Zat false)++[ZaE false s.empty[i]]=(s.empty.take (i+1)).map (Zat false):=by
    rw[List.take_succ_eq_append_getElem hlt,List.map_append];simp[Za4]
   repeat (first|refine wk ?_|refine Zaa (hr:=?_))
   refine Zab [] (hA:=ZhA s.empty[i] hc) (hr:=?_)
   repeat (first|refine wk ?_|refine Zaa (hr:=?_))
   rw[e,List.length_map]
   exact Zad (i+1)
  ·rw[show s.empty.take i=s.empty from List.take_of_length_le (by omega)]
   refine ZaF 900 rfl ?_
   refine ZaF 910 rfl ?_
   refine ZaF 911 rfl ?_
   repeat (first|refine wk ?_|refine Zaa (hr:=?_))
   exact fin
theorem Zp3 (m n:Nat):capN m n≤m+1:=by unfold capN;split <;> omega
theorem ZkB:∀ (N:Nat) {t:Bool} {l:List Frag} {m:Nat},fszs l < N→fszs l≤100000000→m≤10000→ACalls Tryz.prog 94 [.d (Zam t l),I m] [] (I (capN m (fszs l))) []:=by
 intro N
 induction N with
 | zero=>intro t l m h;omega
 | succ N ih =>
 intro t l m hn hN hm
 have hl:=Nat.le_trans (Zbg l) hN
 refine ACalls.intro (n:=34) Tryz.func94 rfl rfl (by simp) (by rfl) ?_
 simp only[Zak]
 repeat (first|refine wk ?_|refine Zaa (hr:=?_))
 refine Zai (X:=Nat×Nat) (fun x=>x.1≤l.length∧(x.2≤m→x.2=fszs (l.take x.1))∧(m < x.2→m < fszs (l.take x.1))∧x.2≤30000) (fun x=>[(6,I x.1),(5,I x.2),(0,.d (Zam t l)),(1,I m)]) (fun _=>[]) (fun x=>l.length - x.1) (0,0) ⟨Nat.zero_le _,fun _=>by simp[fszs],fun h=>by omega,by omega⟩ ?_
 rintro⟨i,v⟩ ⟨h1,h2,h3,h4⟩
 dsimp only at h1 h2 h3 h4 ⊢
 have e4:=Zdp l i
 by_cases hv:v≤m
 ·have h2':=h2 hv
  by_cases hlt:i < l.length
  ·have e1:=Zfm hlt
   have e2:=ZdV l[i]
   have e3:=Zb8 (List.getElem_mem hlt)
   have hc:=Zp3 m (fszs l[i].l)
   have hc2:capN m (fszs l[i].l)=fszs l[i].l∨(capN m (fszs l[i].l)=m+1∧m < fszs l[i].l):=by unfold capN;split <;> omega
   have hih:=ih (t:=t) (l:=l[i].l) (m:=m) (by omega) (by omega) hm
   generalize capN m (fszs l[i].l)=c at *
   repeat (first|refine wk ?_|refine Zaa (hr:=?_))
   refine Zab [] (hA:=hih) (hr:=?_)
   repeat (first|refine wk ?_|refine Zaa (hr:=?_))
   exact Zad (i+1,v+(1+c)) (a:=⟨by omega,fun h=>by dsimp only at h ⊢;omega,fun h=>by dsimp only at h ⊢;omega,by dsimp only;omega⟩) (b:=by dsimp only;omega)
  ·have e5:fszs (l.drop i)=0:=by rw[List.drop_of_length_le (by omega)];rfl
   rw[show capN m (fszs l)=v by unfold capN;rw[if_pos (by omega)];omega]
   repeat (first|refine wk ?_|refine Zaa (hr:=?_))
   exact fin
 ·have h3':=h3 (by omega)
  rw[show capN m (fszs l)=m+1 by unfold capN;rw[if_neg (by omega)]]
  by_cases hlt:i < l.length
  ·repeat (first|refine wk ?_|refine Zaa (hr:=?_))
   exact fin
  ·repeat (first|refine wk ?_|refine Zaa (hr:=?_))
   exact fin
theorem ZkC {t:Bool} {l:List Frag} {m:Nat} (h:fszs l≤100000000:=by ((try simp only[List.length_map,List.length_append,List.length_cons,List.length_nil,List.length_replicate,List.length_set,List.length_take,List.length_drop]);first|omega|assumption)) (hm:m≤10000:=by ((try simp only[List.length_map,List.length_append,List.length_cons,List.length_nil,List.length_replicate,List.length_set,List.length_take,List.length_drop]);first|omega|assumption)):ACalls Tryz.prog 94 [.d (Zam t l),I m] [] (I (capN m (fszs l))) []:=ZkB _ (Nat.lt_succ_self _) h hm
def gsum:List (List Frag)→Nat
 | []=>0
 | x::r=>capN 2000 (fszs x)+gsum r
theorem ZeO:∀ (a b:List (List Frag)),gsum (a++b)=gsum a+gsum b
 | [],b=>by simp[gsum]
 | x::a,b=>by simp only[List.cons_append,gsum,ZeO a b];omega
theorem Zp4 {l:List (List Frag)} {i:Nat} (h:i < l.length):gsum (l.take (i+1))=gsum (l.take i)+capN 2000 (fszs l[i]):=by
 rw[List.take_succ_eq_append_getElem h,ZeO];simp[gsum]
theorem Zo2 (l:List (List Frag)) (i:Nat):gsum l=gsum (l.take i)+gsum (l.drop i):=by rw[←ZeO,List.take_append_drop]
def Zd3 (s:Step):Bool:=(Zdn s.g || decide (400 < s.frags.length) || decide (300 < s.empty.length)) || (decide (20000 < gsum s.frags) || s.empty.any ZeH)
set_option maxHeartbeats 1000000 in
theorem ZjF {t:Bool} {s:Step} (hs:s.fit):ACalls Tryz.prog 55 [.d (Zbv t s)] [] (B (Zd3 s)) []:=by
 refine ACalls.intro (n:=51) Tryz.func55 rfl rfl (by simp) (by rfl) ?_
 simp only[Zak]
 have hf:=hs.frags
 have he:=hs.empty
 have hgl:=hs.g.rules
 have hgr:=hs.g.right
 cases hA:(Zdn s.g || decide (400 < s.frags.length) || decide (300 < s.empty.length)) with
 | true =>
  rw[show Zd3 s=true by unfold Zd3;rw[hA];rfl]
  simp only[Bool.or_eq_true,decide_eq_true_eq] at hA
  repeat (first|refine wk ?_|refine Zaa (hr:=?_))
  refine Zab [] (hA:=ZcL hgl hgr) (hr:=?_)
  cases hgg:Zdn s.g with
  | true =>
   repeat (first|refine wk ?_|refine Zaa (hr:=?_))
   exact fin
  | false =>
   by_cases h4:400 < s.frags.length
   ·repeat (first|refine wk ?_|refine Zaa (hr:=?_))
    exact fin
   ·have h5:300 < s.empty.length:=by
                       rcases hA with (h|h)|h;· rw[hgg] at h;cases h
                       ·omega
                       ·exact h
    repeat (first|refine wk ?_|refine Zaa (hr:=?_))
    exact fin
 | false =>
  have hB:Zd3 s=(decide (20000 < gsum s.frags) || s.empty.any ZeH):=by unfold Zd3;rw[hA];rfl
  simp only[Bool.or_eq_false_iff,decide_eq_false_iff_not] at hA
  obtain⟨⟨a1,a2⟩,a3⟩:=hA
  rw[hB]
  repeat (first|refine wk ?_|refine Zaa (hr:=?_))
  refine Zab [] (hA:=ZcL hgl hgr) (hr:=?_)
  rw[a1]
  repeat (first|refine wk ?_|refine Zaa (hr:=?_))
  refine Zai (X:=Nat×Nat) (fun x=>x.1≤s.frags.length∧x.2=gsum (s.frags.take x.1)∧x.2≤20000) (fun x=>[(4,I x.1),(3,I x.2),(1,.ptr 1 0)]) (fun _=>[(1,Zbh t s)]) (fun x=>s.frags.length - x.1) (0,0) ⟨Nat.zero_le _,by simp[gsum],by omega⟩ ?_
  rintro⟨i,v⟩ ⟨h1,h2,h3⟩
  dsimp only at h1 h2 h3 ⊢
  by_cases hlt:i < s.frags.length
  ·have hfi:=hs.frag _ (List.getElem_mem hlt)
   have e1:=Zp4 hlt
   have e2:=Zo2 s.frags (i+1)
   have hc:=Zp3 2000 (fszs s.frags[i])
   have hfs:=ZkC (t:=t) (l:=s.frags[i]) (m:=2000) hfi
   generalize capN 2000 (fszs s.frags[i])=c at *
   by_cases hbig:20000 < v+c
   ·rw[decide_eq_true (show 20000 < gsum s.frags by omega),Bool.true_or]
    repeat (first|refine wk ?_|refine Zaa (hr:=?_))
    refine Zab [] (hA:=hfs) (hr:=?_)
    repeat (first|refine wk ?_|refine Zaa (hr:=?_))
    exact fin
   ·repeat (first|refine wk ?_|refine Zaa (hr:=?_))
    refine Zab [] (hA:=hfs) (hr:=?_)
    repeat (first|refine wk ?_|refine Zaa (hr:=?_))
    exact Zad (i+1,v+c) (a:=⟨by omega,by dsimp only;omega,by dsimp only;omega⟩) (b:=by dsimp only;omega)
  ·rw[List.take_of_length_le (by omega)] at h2
   rw[decide_eq_false (show ¬ 20000 < gsum s.frags by omega),Bool.false_or]
   repeat (first|refine wk ?_|refine Zaa (hr:=?_))
   refine Zai (X:=Nat) (fun i=>i≤s.empty.length∧∀ j,j < i→∀ (hj:j < s.empty.length),ZeH s.empty[j]=false) (fun i=>[(5,I i),(1,.ptr 1 0)]) (fun _=>[(1,Zbh t s)]) (fun i=>s.empty.length - i) 0 ⟨Nat.zero_le _,fun _ h=>by omega⟩ ?_
   rintro i ⟨hi,hp⟩
   by_cases hlt:i < s.empty.length
   ·have hc:=hs.trees _ (List.getElem_mem hlt)
    cases hg3:ZeH s.empty[i] with
    | true =>
     rw[ZiG hlt hg3]
     repeat (first|refine wk ?_|refine Zaa (hr:=?_))
     refine Zab [] (hA:=ZdI hc) (hr:=?_)
     repeat (first|refine wk ?_|refine Zaa (hr:=?_))
     exact fin
    | false =>
     repeat (first|refine wk ?_|refine Zaa (hr:=?_))
     refine Zab [] (hA:=ZdI hc) (hr:=?_)
     repeat (first|refine wk ?_|refine Zaa (hr:=?_))
     exact Zad (i+1) (a:=⟨by omega,Zdo hp (fun _=>hg3)⟩)
   ·rw[ZgR (fun j hj=>hp j (by omega) hj)]
    repeat (first|refine wk ?_|refine Zaa (hr:=?_))
    exact fin
end Go.Proofs.YtbpmepgnjanhnaaGreat
namespace Go.Proofs.YtbpmepgnjanhnaaGreat
open Go.RowKit
set_option maxRecDepth 100000
def Zfj (s:Step) (x:Tree):List Tree×Bool:=match valL s x.kids with
 | none=>([],false)
 | some ks=>ZgI ks (s.frags.getD x.rule.toNat [])
theorem ZkD {s:Step} {x:Tree}:(valT s x=none∧(Zfj s x).2=false)∨∃ a,valT s x=some a∧Zfj s x=(a,true)∧cnts a≤400:=by
 rw[ZmQ];unfold Zfj
 cases valL s x.kids with
 | none=>exact .inl ⟨rfl,rfl⟩
 | some ks=>exact ZjE
theorem Zmm {s:Step} {x:Tree} (h:valL s x.kids=none):Zfj s x=([],false):=by unfold Zfj;rw[h]
set_option maxHeartbeats 4000000 in
theorem Zp5 {t u:Bool} {m:Int} {s:Step} (hs:s.fit) (hok:Zp1 m s):∀ (x:Tree) (v:Int),fits s.g x v=true→cnt x≤400 →
  ACalls Tryz.prog 102 [.d (Zbv t s),.d (ZaE u x)] [] (.tup [.d (Zal false (Zfj s x).1),B (Zfj s x).2]) []:=by
 refine Tree.ind fun x ih v hf hx=>?_
 refine ACalls.intro (n:=43) Tryz.func102 rfl rfl (by simp) (by rfl) ?_
 simp only[Zak]
 obtain⟨r,hr,e1,e2,e3,e4,e5⟩:=Zey hf
 have hkl:=ZbF (Nat.le_trans hx (show 400≤100000000 by decide))
 have hfl:=hs.frags
 have hgl:=hs.g.rules
 repeat (first|refine wk ?_|refine Zaa (hr:=?_))
 refine ZaU 6 900 37 1 rfl rfl rfl ?_
 refine Zai (X:=Nat×List (List Tree)) (fun y=>y.1≤x.kids.length∧y.2.length=y.1∧valL s (x.kids.take y.1)=some y.2) (fun y=>[(7,I y.1),(6,.own 900 y.2.length),(2,.ptr 2 0),(3,.ptr 3 0)])
  (fun y=>[(900,.row 37 1 (y.2.map (Zal false))),(2,Zbh t s),(3,.box 56 [.d (iD x.rule),.d (Zal u x.kids)])]) (fun y=>x.kids.length - y.1) (0,[]) ⟨Nat.zero_le _,rfl,by simp[valL]⟩ ?_
 rintro⟨i,K⟩ ⟨h1,h2,h3⟩
 dsimp only at h1 h2 h3 ⊢
 by_cases hlt:i < x.kids.length
 ·have hki:=ZfL e4 hlt (show i < (kids s.g.rules[r].right).length by omega)
  have hih:=ih x.kids[i] (List.getElem_mem hlt) _ hki (ZeG hx hlt).1
  have hvl:=Zlg (s:=s) hlt
  rw[h3] at hvl
  rcases ZkD (s:=s) (x:=x.kids[i]) with ⟨c1,c2⟩|⟨a,c1,c2,c3⟩
  ·rw[c2] at hih
   rw[c1] at hvl
   rw[Zmm (Zq4 hvl)]
   repeat (first|refine wk ?_|refine Zaa (hr:=?_))
   refine Zab [] (hA:=hih) (hr:=?_)
   repeat (first|refine wk ?_|refine Zaa (hr:=?_))
   exact Fin.r2 rfl (.of_tmp rfl) (.of_tmp rfl) (Co.tup (by repeat' (first|exact trivial|(refine⟨?_,?_⟩)|exact Co.refl _|exact Co.froz rfl rfl|exact Co.froz rfl (by simp)|exact Co.nil _ _))) (by repeat' (first|exact trivial|exact HElt.of rfl)) rfl
  ·rw[c2] at hih
   rw[c1] at hvl
   have e:K.map (Zal false)++[Zal false a]=(K++[a]).map (Zal false):=by rw[List.map_append];rfl
   repeat (first|refine wk ?_|refine Zaa (hr:=?_))
   refine Zab [] (hA:=hih) (hr:=?_)
   repeat (first|refine wk ?_|refine Zaa (hr:=?_))
   rw[e,List.length_map]
   exact Zad (i+1,K++[a]) (a:=⟨by omega,by simp[h2],hvl⟩) (b:=by dsimp only;omega)
 ·have e0:x.kids.take i=x.kids:=List.take_of_length_le (by omega)
  rw[e0] at h3
  have hrf:r < s.frags.length:=by rw[hok.1];exact hr
  have hgd:s.frags.getD x.rule.toNat []=s.frags[r]:=by rw[e1,Int.toNat_natCast,List.getD_eq_getElem?_getD,List.getElem?_eq_getElem hrf];rfl
  obtain⟨k1,k2⟩:=hok.2 r hrf hr
  have hap:=ZsE _ (t:=t) (l:=s.frags[r]) (kids:=K) (m:=m) (u:=List.replicate (kids s.g.rules[r].right).length 0) (Nat.lt_succ_self _) k1 k2 (by rw[List.length_replicate];omega) (Zj0 h3).2 (by omega)
  rw[show Zfj s x=ZgI K s.frags[r] by unfold Zfj;rw[h3,hgd]]
  repeat (first|refine wk ?_|refine Zaa (hr:=?_))
  refine ZdQ [] (hA:=hap) (hr:=?_)
  repeat (first|refine wk ?_|refine Zaa (hr:=?_))
  exact Fin.r2 rfl (.of_tmp rfl) (.of_tmp rfl) (Co.tup (by repeat' (first|exact trivial|(refine⟨?_,?_⟩)|exact Co.refl _|exact Co.froz rfl rfl|exact Co.froz rfl (by simp)|exact Co.nil _ _))) (by repeat' (first|exact trivial|exact HElt.of rfl)) rfl
set_option maxHeartbeats 4000000 in
theorem Zhf {t1 t2 t3:Bool} {old:Gram} {s:Step} {x:Tree} (ho:old.fit) (hs:s.fit) (hx:cnt x≤100000000) :
  ACalls Tryz.prog 62 [.d (ZaH t1 old),.d (Zbv t2 s),.d (ZaE t3 x)] [] (.tup [.d (ZaE false (ZaL old s x).1),.d (ZaN (ZaL old s x).2)]) []:=by
 refine ACalls.intro (n:=62) Tryz.func62 rfl rfl (by simp) (by rfl) ?_
 simp only[Zak]
 have hol:=ho.rules
 have hgl:=hs.g.rules
 have hor:=ho.right
 have hgr:=hs.g.right
 repeat (first|refine wk ?_|refine Zaa (hr:=?_))
 refine Zab [] (hA:=Zfr ho hs) (hr:=?_)
 by_cases h0:(Zas old s).code=0
 rotate_left
 ·rw[show ZaL old s x=(ZaO,Zas old s) by unfold ZaL;rw[if_neg h0]]
  repeat (first|refine wk ?_|refine Zaa (hr:=?_))
  exact fin2
 obtain⟨hg,hsg,hok⟩:=ZeE h0
 repeat (first|refine wk ?_|refine Zaa (hr:=?_))
 refine Zab [] (hA:=ZcN hgl hgr hx) (hr:=?_)
 by_cases h1:(Zaw s.g x s.g.start).code=0
 rotate_left
 ·rw[show ZaL old s x=(ZaO,Zaw s.g x s.g.start) by unfold ZaL;rw[if_pos h0,if_neg h1]]
  repeat (first|refine wk ?_|refine Zaa (hr:=?_))
  exact fin2
 obtain⟨_,k1,k2,k3⟩:=ZcC h1
 have hv:=Zp5 (t:=t2) (u:=t3) hs hok x _ k2 k1
 rcases ZkD (s:=s) (x:=x) with ⟨c1,c2⟩|⟨l,c1,c2,c3⟩
 ·rw[c2] at hv
  rw[show ZaL old s x=(ZaO,⟨6, -1⟩) by unfold ZaL;rw[if_pos h0,if_pos h1,c1]]
  repeat (first|refine wk ?_|refine Zaa (hr:=?_))
  refine Zab [] (hA:=hv) (hr:=?_)
  repeat (first|refine wk ?_|refine Zaa (hr:=?_))
  refine Zab [] (hA:=ZbC) (hr:=?_)
  repeat (first|refine wk ?_|refine Zaa (hr:=?_))
  exact fin2
 ·rw[c2] at hv
  have hll:=ZaR l
  match l,c1,c3,hll,hv with
  | [],c1,c3,hll,hv =>
   rw[show ZaL old s x=(ZaO,⟨18, -1⟩) by unfold ZaL;rw[if_pos h0,if_pos h1,c1]]
   repeat (first|refine wk ?_|refine Zaa (hr:=?_))
   refine Zab [] (hA:=hv) (hr:=?_)
   repeat (first|refine wk ?_|refine Zaa (hr:=?_))
   refine Zab [] (hA:=ZbC) (hr:=?_)
   repeat (first|refine wk ?_|refine Zaa (hr:=?_))
   exact fin2
  | [y],c1,c3,hll,hv =>
   have hyc:cnt y≤400:=by simp only[cnts] at c3;omega
   have hv:ACalls Tryz.prog 102 [.d (Zbv t2 s),.d (ZaE t3 x)] [] (.tup [.d (.sl false 2 [ZaE false y]),B true]) []:=by
    have e:[ZaE false y]=[y].map (Zat false):=by simp[Za4]
    rw[e];exact hv
   repeat (first|refine wk ?_|refine Zaa (hr:=?_))
   refine Zab [] (hA:=hv) (hr:=?_)
   repeat (first|refine wk ?_|refine Zaa (hr:=?_))
   refine Zab [] (hA:=ZcN (t:=t1) (u:=false) (x:=y) hol hor (Nat.le_trans hyc (by decide))) (hr:=?_)
   by_cases h2:(Zaw old y old.start).code=0
   ·rw[show ZaL old s x=(y,⟨0,0⟩) by unfold ZaL;rw[if_pos h0,if_pos h1,c1];show (if _ then _ else _)=_;rw[if_pos h2]]
    repeat (first|refine wk ?_|refine Zaa (hr:=?_))
    exact fin2
   ·rw[show ZaL old s x=(ZaO,⟨18, -1⟩) by unfold ZaL;rw[if_pos h0,if_pos h1,c1];show (if _ then _ else _)=_;rw[if_neg h2]]
    repeat (first|refine wk ?_|refine Zaa (hr:=?_))
    refine Zab [] (hA:=ZbC) (hr:=?_)
    repeat (first|refine wk ?_|refine Zaa (hr:=?_))
    exact fin2
  | y::y2::l,c1,c3,hll,hv =>
   rw[show ZaL old s x=(ZaO,⟨18, -1⟩) by unfold ZaL;rw[if_pos h0,if_pos h1,c1]]
   repeat (first|refine wk ?_|refine Zaa (hr:=?_))
   refine Zab [] (hA:=hv) (hr:=?_)
   repeat (first|refine wk ?_|refine Zaa (hr:=?_))
   refine Zab [] (hA:=ZbC) (hr:=?_)
   repeat (first|refine wk ?_|refine Zaa (hr:=?_))
   exact fin2
end Go.Proofs.YtbpmepgnjanhnaaGreat
