import Derived.Test.YtbpmepgnjanhnaaGreatQP1
import Derived.Test.YtbpmepgnjanhnaaGreatQTreeA
set_option linter.unusedVariables false
set_option linter.unusedSimpArgs false
set_option linter.unusedSectionVars false
namespace Go.Proofs.YtbpmepgnjanhnaaGreat
open Go.RowKit
set_option maxRecDepth 100000
theorem ZrD:∀ (N:Nat) {t:Bool} {l:List Tree},cnts l < N→cnts l≤100000000→ACalls Tryz.prog 223 [.d (Zap t l)] [] (I (cnts l)) []:=by
 intro N
 induction N with
 | zero=>intro t l h;omega
 | succ N ih =>
 intro t l hn hN
 have hl:=Nat.le_trans (ZbC l) hN
 refine ACalls.intro (n:=21) Tryz.func223 rfl rfl (by simp) (by rfl) ?_
 simp only[Zal]
 refine VA ?_
 refine Zak (X:=Nat×Nat) (fun x=>x.1≤l.length∧x.2+x.1=l.length+cnts (l.take x.1)) (fun x=>[(10,I x.1),(9,I l.length),(8,.d (Zap t l)),(3,I x.2)]) (fun _=>[]) (fun x=>l.length - x.1) (0,l.length) ⟨Nat.zero_le _,by simp[cnts]⟩ ?_
 rintro⟨i,v⟩ ⟨h1,h2⟩
 dsimp only at h1 h2 ⊢
 by_cases hlt:i < l.length
 ·have e1:=Zh0 hlt
  have e3:=ZcY (List.getElem_mem hlt)
  have e2:=Ze4 l[i]
  have e4:cnts l=cnts (l.take (i+1))+cnts (l.drop (i+1)):=by rw[←ZbG,List.take_append_drop]
  have e5:(l.take i).length≤cnts (l.take i):=ZbC _
  refine VA ?_
  refine Zab [] (hA:=ih (t:=t) (l:=l[i].kids) (by omega) (by omega)) (hr:=?_)
  refine VA ?_
  exact Zae (i+1,v+cnts l[i].kids) (a:=⟨by omega,by dsimp only;omega⟩) (b:=by dsimp only;omega)
 ·rw[List.take_of_length_le (by omega)] at h2
  obtain rfl:v=cnts l:=by omega
  refine VA ?_
  exact fin
theorem ZrE {t:Bool} {l:List Tree} (h:cnts l≤100000000:=by exact Vm):ACalls Tryz.prog 223 [.d (Zap t l)] [] (I (cnts l)) []:=ZrD _ (Nat.lt_succ_self _) h
abbrev mkH (b:Bool):Hp:=[(1000,.box 109 [B b])]
def fitR (l:List Tree):List Tree:=if cnts l≤400 then l else []
theorem ZoV (l:List Tree):cnts (fitR l)≤400:=by
 unfold fitR;split
 ·assumption
 ·simp[cnts]
theorem ZhJ {l:List Tree} {b:Bool} (h:cnts l≤100000000:=by exact Vm):ACalls Tryz.prog 207 [.ptr 1000 0,.d (Zap false l)] (mkH b) (.d (Zap false (fitR l))) (mkH (b || decide (400 < cnts l))):=by
 refine ACalls.intro (n:=12) Tryz.func207 rfl rfl (by simp) (by rfl) ?_
 simp only[Zal]
 refine VA ?_
 refine Zab [] (hA:=ZrE) (hr:=?_)
 by_cases h4:400 < cnts l
 ·rw[decide_eq_true h4,Bool.or_true,fitR,if_neg (by omega)]
  refine VA ?_
  exact fin
 ·rw[decide_eq_false h4,Bool.or_false,fitR,if_pos (by omega)]
  refine VA ?_
  exact fin
theorem ZuC:∀ (N:Nat) {l w:List Tree},cnts l < N→cnts l * (1+cnts w)≤100000000→ACalls Tryz.prog 208 [.d (Zap false l),.d (Zap false w)] [] (.d (Zap false (ZbO w l))) []:=by
 intro N
 induction N with
 | zero=>intro l w h;omega
 | succ N ih =>
 intro l w hn hN
 have hcl:cnts l≤cnts l * (1+cnts w):=Nat.le_mul_of_pos_right _ (by omega)
 have hl:=Nat.le_trans (ZbC l) (Nat.le_trans hcl hN)
 refine ACalls.intro (n:=32) Tryz.func208 rfl rfl (by simp) (by rfl) ?_
 simp only[Zal]
 refine VA ?_
 refine Zbi 5 900 56 2 rfl rfl rfl ?_
 refine Zak (X:=Nat) (fun i=>i≤l.length) (fun i=>[(10,I i),(9,I l.length),(8,.d (Zap false l)),(5,.own 900 (ZbO w (l.take i)).length),(1,.d (Zap false w))]) (fun i=>[(900,.row 56 2 ((ZbO w (l.take i)).map (ZaY false)))]) (fun i=>l.length - i) 0 (Nat.zero_le _) ?_
 intro i h1
 by_cases hlt:i < l.length
 ·have e1:=ZqM (w:=w) hlt
  have e2:=Zvr w l[i]
  have e3:=ZcY (List.getElem_mem hlt)
  have e4:=Ze4 l[i]
  have e5:=Nat.le_trans (ZbC _) (ZfR w (l.take (i+1)))
  have e6:cnts (l.take (i+1))≤cnts l:=by have:=ZbG (l.take (i+1)) (l.drop (i+1));rw[List.take_append_drop] at this;omega
  have e7:=Nat.le_trans e5 (Nat.mul_le_mul_right (1+cnts w) e6)
  have e8:=congrArg List.length e1
  rw[List.length_append] at e8
  by_cases hr:l[i].rule = -1
  ·rw[if_pos hr] at e2
   rw[e2] at e1 e8
   have e:=congrArg (List.map (ZaY false)) e1
   rw[List.map_append] at e
   refine VA ?_
   exact Zae (i+1)
  ·rw[if_neg hr] at e2
   rw[e2] at e1 e8
   have e:(ZbO w (l.take i)).map (ZaY false)++[D.agg [iD l[i].rule,Zap false (ZbO w l[i].kids)]]=(ZbO w (l.take (i+1))).map (ZaY false):=by rw[e1,List.map_append];simp only[List.map_cons,List.map_nil,ZcM];rfl
   have hk:=Nat.mul_le_mul_right (1+cnts w) (show cnts l[i].kids≤cnts l by omega)
   refine VA ?_
   refine Zab [] (hA:=ih (l:=l[i].kids) (w:=w) (by omega) (by omega)) (hr:=?_)
   refine VA ?_
   rw[e,List.length_map]
   exact Zae (i+1)
 ·rw[show l.take i=l from List.take_of_length_le (by omega)]
  refine Zav 900 rfl ?_
  refine VA ?_
  exact fin
theorem ZoW {l w:List Tree} (h1:cnts l≤400) (h2:cnts w≤400):ACalls Tryz.prog 208 [.d (Zap false l),.d (Zap false w)] [] (.d (Zap false (ZbO w l))) [] :=
 ZuC _ (Nat.lt_succ_self _) (Nat.le_trans (Nat.mul_le_mul h1 (show 1+cnts w≤401 by omega)) (by decide))
theorem Zlz {l w:List Tree} (h1:cnts l≤400) (h2:cnts w≤400):cnts (ZbO w l)≤160400:=Nat.le_trans (ZfR w l) (Nat.le_trans (Nat.mul_le_mul h1 (show 1+cnts w≤401 by omega)) (by decide))
abbrev ZxR (kids:List (List Tree)):D:=.sl false 1 (kids.map (Zap false))
theorem ZuD {m:Int} {l:List Frag} {i:Nat} {u:List Int} (hlt:i < l.length) (h:(usL m (l.drop i) u).1=true):(usF m l[i] u).1=true∧(usL m (l.drop (i+1)) (usF m l[i] u).2).1=true:=by
 rw[Zvm hlt] at h
 cases hc:(usF m l[i] u).1 with
 | true=>rw[hc] at h;exact⟨rfl,h⟩
 | false=>rw[hc] at h;cases h
theorem ZrF:∀ (l:List Frag),l.length≤cpL l
 | []=>Nat.zero_le _
 | x::l=>by
  have:=ZrF l
  have:1≤cpF x:=by rw[Zps];omega
  simp only[List.length_cons,cpL];omega
theorem ZuE {kids:List (List Tree)} {l:List Frag} (h:mkA kids l=none):mkL kids l=none:=by rw[mkL,h];rfl
set_option maxHeartbeats 4000000 in
theorem ZrG:∀ (N:Nat) {t:Bool} {l:List Frag} {kids:List (List Tree)} {m:Int} {u:List Int},cpL l < N→cpL l≤60→(usL m l u).1=true→u.length=kids.length→(∀ k∈kids,cnts k≤400)→kids.length≤100000000 →
  ACalls Tryz.prog 155 [.ptr 1000 0,.d (Zah t l),.d (ZxR kids)] (mkH false) (.d (Zap false ((mkL kids l).getD []))) (mkH (mkL kids l).isNone):=by
 intro N
 induction N with
 | zero=>intro t l kids m u h;omega
 | succ N ih =>
 intro t l kids m u hn h60 hus hk hk4 hkN
 have hl:l.length≤cpL l:=ZrF l
 refine ACalls.intro (n:=71) Tryz.func155 rfl rfl (by simp) (by rfl) ?_
 simp only[Zal]
 refine VA ?_
 refine Zbi 7 900 56 2 rfl rfl rfl ?_
 refine Zak (X:=Nat×List Tree×List Int) (fun x=>x.1≤l.length∧mkA kids (l.take x.1)=some x.2.1∧(usL m (l.drop x.1) x.2.2).1=true∧x.2.2.length=kids.length) (fun x=>[(12,I x.1),(11,I l.length),(10,.d (Zah t l)),(7,.own 900 x.2.1.length),(0,.ptr 1000 0),(2,.d (ZxR kids))]) (fun x=>(900,.row 56 2 (x.2.1.map (ZaY false)))::mkH false) (fun x=>l.length - x.1) (0,[],u) ⟨Nat.zero_le _,rfl,hus,hk⟩ ?_
 rintro⟨i,A,v⟩ ⟨h1,h2,h3,h4⟩
 dsimp only at h1 h2 h3 h4 ⊢
 by_cases hlt:i < l.length
 ·have e1:=Zvs (kids:=kids) hlt
  have e2:=Zwt kids l[i]
  have e3:=Zvl hlt
  have e4:=Zps l[i]
  have e5:cpL l=cpL (l.take (i+1))+cpL (l.drop (i+1)):=by rw[←ZcG,List.take_append_drop]
  obtain⟨g1,g2⟩:=ZuD hlt h3
  have g3:=Zyg m l[i] v
  have g4:=ZnU m l[i] v
  have hA:=Nat.le_trans (ZbC A) (ZkQ hk4 h2)
  have hti:(l.take i).length≤60:=by rw[List.length_take];omega
  rw[h2] at e1
  have hmany:mkA kids (l.take (i+1))=none→(mkL kids l)=none:=fun h=>ZuE (Zvt h)
  by_cases o1:l[i].op=1
  ·rw[if_pos (Or.inl o1)] at e4
   rw[if_pos o1] at e2 g3
   have g5:(usL m l[i].l v).1=true:=by
    rw[g3] at g1
    split at g1
    ·cases g1
    ·exact g1
   have hih:=ih (t:=t) (l:=l[i].l) (kids:=kids) (m:=m) (u:=v) (by omega) (by omega) g5 h4 hk4 hkN
   cases hc:mkL kids l[i].l with
   | none =>
    rw[hc] at hih e2
    rw[Option.getD_none,Option.isNone_none] at hih
    rw[e2] at e1
    rw[hmany e1,Option.getD_none,Option.isNone_none]
    refine VA ?_
    refine Zab [] (hA:=hih) (hr:=?_)
    refine VA ?_
    exact fin
   | some a =>
    rw[hc] at hih e2
    rw[Option.getD_some,Option.isNone_some] at hih
    rw[e2] at e1
    have e:A.map (ZaY false)++[D.agg [iD l[i].n,Zap false a]]=(A++[Tree.mk l[i].n a]).map (ZaY false):=by rw[List.map_append];simp only[List.map_cons,List.map_nil,ZcM];rfl
    refine VA ?_
    refine Zab [] (hA:=hih) (hr:=?_)
    refine VA ?_
    rw[e,List.length_map]
    exact Zae (i+1,A++[Tree.mk l[i].n a],(usF m l[i] v).2) (a:=⟨by omega,e1,g2,g4.trans h4⟩) (b:=by dsimp only;omega)
  ·rw[if_neg o1] at e2 g3
   by_cases o2:l[i].op=2
   ·rw[if_pos o2] at e2 g3
    have hn0:¬ (l[i].n < 0∨(v.length:Int)≤l[i].n):=fun h=>by rw[g3,if_pos h] at g1;cases g1
    have hnk:l[i].n=((l[i].n.toNat:Nat):Int):=by omega
    have hnl:l[i].n.toNat < kids.length:=by omega
    have hget:kids.getD l[i].n.toNat []=kids[l[i].n.toNat]:=by rw[List.getD_eq_getElem?_getD,List.getElem?_eq_getElem hnl];rfl
    have hkc:=hk4 _ (List.getElem_mem hnl)
    have hkl:=ZbC kids[l[i].n.toNat]
    rw[hget] at e2
    rw[e2] at e1
    have e:A.map (ZaY false)++kids[l[i].n.toNat].map (ZaY false)=(A++kids[l[i].n.toNat]).map (ZaY false):=by rw[List.map_append]
    refine VA ?_
    rw[e,List.length_map]
    exact Zae (i+1,A++kids[l[i].n.toNat],(usF m l[i] v).2) (a:=⟨by omega,e1,g2,g4.trans h4⟩) (b:=by dsimp only;omega)
   ·rw[if_neg o2] at e2 g3
    by_cases o3:l[i].op=3
    ·rw[if_pos o3] at e2
     rw[e2] at e1
     have e:(A++[Tree.mk (-1) []]).map (ZaY false)=A.map (ZaY false)++[D.agg [iD (-1),Zap false []]]:=by rw[List.map_append];simp only[List.map_cons,List.map_nil,ZcM];rfl
     refine VA ?_
     exact Zae (i+1,A++[Tree.mk (-1) []],(usF m l[i] v).2) (a:=⟨by omega,e1,g2,g4.trans h4⟩) (b:=by dsimp only;omega)
    ·rw[if_neg o3] at e2
     by_cases o4:l[i].op=4
     ·rw[if_pos o4] at e2 g3
      rw[if_pos (Or.inr o4)] at e4
      have hn0:¬ (l[i].n < 0∨(v.length:Int)≤l[i].n):=fun h=>by rw[g3,if_pos h] at g1;cases g1
      have g5:(usL m l[i].l (bump v l[i].n)).1=true:=by rw[g3,if_neg hn0] at g1;exact g1
      have hnk:l[i].n=((l[i].n.toNat:Nat):Int):=by omega
      have hnl:l[i].n.toNat < kids.length:=by omega
      have hget:kids.getD l[i].n.toNat []=kids[l[i].n.toNat]:=by rw[List.getD_eq_getElem?_getD,List.getElem?_eq_getElem hnl];rfl
      have hkc:=hk4 _ (List.getElem_mem hnl)
      rw[hget] at e2
      have hih:=ih (t:=t) (l:=l[i].l) (kids:=kids) (m:=m) (u:=bump v l[i].n) (by omega) (by omega) g5 (by rw[ZcH];exact h4) hk4 hkN
      cases hc:mkL kids l[i].l with
      | none =>
       rw[hc] at hih e2
       rw[Option.getD_none,Option.isNone_none] at hih
       rw[e2] at e1
       rw[hmany e1,Option.getD_none,Option.isNone_none]
       have hf:=ZoW (l:=kids[l[i].n.toNat]) (w:=[]) hkc (by simp[cnts])
       have hfc:=Zlz (l:=kids[l[i].n.toNat]) (w:=[]) hkc (by simp[cnts])
       have hfl:=ZbC (fitR (ZbO [] kids[l[i].n.toNat]))
       have hfr:cnts (fitR (ZbO [] kids[l[i].n.toNat]))≤400:=ZoV _
       have hft:=ZhJ (l:=ZbO [] kids[l[i].n.toNat]) (b:=true) (by omega)
       rw[Bool.true_or] at hft
       refine VA ?_
       refine Zab [] (hA:=hih) (hr:=?_)
       refine VA ?_
       refine Zab [] (hA:=hf) (hr:=?_)
       refine VA ?_
       refine Zab [] (hA:=hft) (hr:=?_)
       refine VA ?_
       exact fin
      | some a =>
       rw[hc] at hih e2
       rw[Option.getD_some,Option.isNone_some] at hih
       have hac:=(ZkP hc).2
       have hf:=ZoW (l:=kids[l[i].n.toNat]) (w:=a) hkc hac
       have hfc:=Zlz (l:=kids[l[i].n.toNat]) (w:=a) hkc hac
       have hft:=ZhJ (l:=ZbO a kids[l[i].n.toNat]) (b:=false) (by omega)
       rw[Bool.false_or] at hft
       have hfl:=ZbC (fitR (ZbO a kids[l[i].n.toNat]))
       have hfr:cnts (fitR (ZbO a kids[l[i].n.toNat]))≤400:=ZoV _
       by_cases hbig:400 < cnts (ZbO a kids[l[i].n.toNat])
       ·rw[decide_eq_true hbig] at hft
        have e3':(some a).bind (fun a=>Zer (ZbO a kids[l[i].n.toNat]))=none:=by show Zer _=none;unfold Zer;rw[if_neg (by omega)]
        rw[e3'] at e2
        rw[e2] at e1
        rw[hmany e1,Option.getD_none,Option.isNone_none]
        refine VA ?_
        refine Zab [] (hA:=hih) (hr:=?_)
        refine VA ?_
        refine Zab [] (hA:=hf) (hr:=?_)
        refine VA ?_
        refine Zab [] (hA:=hft) (hr:=?_)
        refine VA ?_
        exact fin
       ·rw[decide_eq_false hbig] at hft
        have e3':(some a).bind (fun a=>Zer (ZbO a kids[l[i].n.toNat]))=some (fitR (ZbO a kids[l[i].n.toNat])):=by show Zer _=_;unfold Zer fitR;rw[if_pos (by omega),if_pos (by omega)]
        rw[e3'] at e2
        rw[e2] at e1
        generalize fitR (ZbO a kids[l[i].n.toNat])=z at *
        have e:A.map (ZaY false)++z.map (ZaY false)=(A++z).map (ZaY false):=by rw[List.map_append]
        refine VA ?_
        refine Zab [] (hA:=hih) (hr:=?_)
        refine VA ?_
        refine Zab [] (hA:=hf) (hr:=?_)
        refine VA ?_
        refine Zab [] (hA:=hft) (hr:=?_)
        refine VA ?_
        rw[e,List.length_map]
        exact Zae (i+1,A++z,(usF m l[i] v).2) (a:=⟨by omega,e1,g2,g4.trans h4⟩) (b:=by dsimp only;omega)
     ·rw[if_neg o4] at e2
      rw[e2] at e1
      have e1':mkA kids (l.take (i+1))=some A:=by rw[e1];show some (A++[])=some A;rw[List.append_nil]
      refine VA ?_
      exact Zae (i+1,A,(usF m l[i] v).2) (a:=⟨by omega,e1',g2,g4.trans h4⟩) (b:=by dsimp only;omega)
 ·have e0:l.take i=l:=List.take_of_length_le (by omega)
  rw[e0] at h2
  have hA:=Nat.le_trans (ZbC A) (ZkQ hk4 h2)
  have hAc:=ZkQ hk4 h2
  have hm:mkL kids l=Zer A:=by rw[mkL,h2];rfl
  have r1:(Zer A).getD []=fitR A:=by unfold Zer fitR;split <;> rfl
  have r2:(Zer A).isNone=decide (400 < cnts A):=by
   unfold Zer;split
   ·rw[decide_eq_false (by omega)];rfl
   ·rw[decide_eq_true (by omega)];rfl
  rw[hm,r1,r2]
  refine VA ?_
  refine ZaO [] (hA:=ZhJ (l:=A) (b:=false)) (hr:=?_)
  rw[Bool.false_or]
  refine VA ?_
  exact fin
set_option maxRecDepth 100000
def Zwj (m:Int) (s:Step):Prop:=s.frags.length=s.g.rules.length∧∀ (i:Nat) (h:i < s.frags.length) (h2:i < s.g.rules.length),cpL s.frags[i]≤60∧(usL m s.frags[i] (List.replicate (kids s.g.rules[i].right).length 0)).1=true
set_option maxHeartbeats 4000000 in
theorem ZrH {t u:Bool} {m:Int} {s:Step} (hs:s.fit) (hok:Zwj m s):∀ (x:Tree) (v:Int),fits s.g x v=true→cnt x≤400→∀ b:Bool,
  ACalls Tryz.prog 81 [.ptr 1000 0,.d (Zcf t s),.d (Zbf u x)] (mkH b) (.d (Zap false (if b then [] else (valT s x).getD []))) (mkH (b || (valT s x).isNone)):=by
 refine Tree.ind fun x ih v hf hx b=>?_
 refine ACalls.intro (n:=38) Tryz.func81 rfl rfl (by simp) (by rfl) ?_
 simp only[Zal]
 obtain⟨r,hr,e1,e2,e3,e4,e5⟩:=ZeK hf
 have hkl:=ZcN (Nat.le_trans hx (show 400≤100000000 by decide))
 have hfl:=hs.frags
 have hgl:=hs.g.rules
 have hvt:=ZsT s x
 refine VA ?_
 refine Zbi 7 900 37 1 rfl rfl rfl ?_
 refine Zak (X:=Nat×List (List Tree)×Bool) (fun y=>y.1≤x.kids.length∧y.2.1.length=y.1∧y.2.2=(b || (valL s (x.kids.take y.1)).isNone)∧(y.2.2=false→valL s (x.kids.take y.1)=some y.2.1)) (fun y=>[(13,I y.1),(12,I x.kids.length),(11,.d (Zap u x.kids)),(7,.own 900 y.2.1.length),(0,.ptr 1000 0),(4,.ptr 4 0),(5,.ptr 5 0)])
  (fun y=>(900,.row 37 1 (y.2.1.map (Zap false)))::(4,Zbw t s)::(5,.box 56 [.d (iD x.rule),.d (Zap u x.kids)])::mkH y.2.2) (fun y=>x.kids.length - y.1) (0,[],b) ⟨Nat.zero_le _,rfl,by simp[valL],fun _=>by simp[valL]⟩ ?_
 rintro⟨i,K,c⟩ ⟨h1,h2,h3,h4⟩
 dsimp only at h1 h2 h3 h4 ⊢
 by_cases hlt:i < x.kids.length
 ·have hki:=ZkB e4 hlt (show i < (kids s.g.rules[r].right).length by omega)
  have hih:=ih x.kids[i] (List.getElem_mem hlt) _ hki (ZiD hx hlt).1 c
  have hvl:=ZsU (s:=s) hlt
  have hn:(c || (valT s x.kids[i]).isNone)=(b || (valL s (x.kids.take (i+1))).isNone):=by
   rw[hvl]
   cases c with
   | true =>
    cases b with
    | true=>rfl
    | false =>
     cases hq:valL s (x.kids.take i) with
     | none=>rfl
     | some a=>rw[hq] at h3;cases h3
   | false =>
    rw[h4 rfl]
    cases b with
    | true=>cases h3
    | false=>cases valT s x.kids[i] <;> rfl
  have hs2:(c || (valT s x.kids[i]).isNone)=false→valL s (x.kids.take (i+1))=some (K++[if c then [] else (valT s x.kids[i]).getD []]):=by
   intro h
   cases c with
   | true=>cases h
   | false =>
    rw[hvl,h4 rfl]
    cases hq:valT s x.kids[i] with
    | none=>rw[hq] at h;cases h
    | some a=>rfl
  generalize (c || (valT s x.kids[i]).isNone)=c' at *
  generalize (if c then [] else (valT s x.kids[i]).getD [])=R at *
  have e:K.map (Zap false)++[Zap false R]=(K++[R]).map (Zap false):=by rw[List.map_append];rfl
  refine VA ?_
  refine Zab [] (hA:=hih) (hr:=?_)
  refine VA ?_
  rw[e,List.length_map]
  exact Zae (i+1,K++[R],c') (a:=⟨by omega,by simp[h2],hn,hs2⟩) (b:=by dsimp only;omega)
 ·have e0:x.kids.take i=x.kids:=List.take_of_length_le (by omega)
  rw[e0] at h3 h4
  cases c with
  | true =>
   have r1:(b || (valT s x).isNone)=true:=by
    cases b with
    | true=>rfl
    | false =>
     rw[hvt]
     cases hq:valL s x.kids with
     | none=>rfl
     | some a=>rw[hq] at h3;cases h3
   have r2:(if b then [] else (valT s x).getD [])=([]:List Tree):=by
    cases b with
    | true=>rfl
    | false =>
     rw[hvt]
     cases hq:valL s x.kids with
     | none=>rfl
     | some a=>rw[hq] at h3;cases h3
   rw[r1,r2]
   refine VA ?_
   exact fin
  | false =>
   have hb:b=false:=by cases b with|false=>rfl|true=>cases h3
   subst hb
   have hK:=h4 rfl
   rw[hK] at hvt
   have hrf:r < s.frags.length:=by rw[hok.1];exact hr
   have hgd:s.frags.getD x.rule.toNat []=s.frags[r]:=by rw[e1,Int.toNat_natCast,List.getD_eq_getElem?_getD,List.getElem?_eq_getElem hrf];rfl
   rw[hgd] at hvt
   obtain⟨k1,k2⟩:=hok.2 r hrf hr
   have hap:=ZrG _ (t:=t) (l:=s.frags[r]) (kids:=K) (m:=m) (u:=List.replicate (kids s.g.rules[r].right).length 0) (Nat.lt_succ_self _) k1 k2 (by rw[List.length_replicate];omega) (Zpu hK).2 (by omega)
   rw[show (if false=true then [] else (valT s x).getD [])=(mkL K s.frags[r]).getD [] by rw[hvt];rfl,show (false || (valT s x).isNone)=(mkL K s.frags[r]).isNone by rw[hvt];rfl]
   refine VA ?_
   refine ZaO [] (hA:=hap) (hr:=?_)
   refine VA ?_
   exact fin
set_option maxRecDepth 100000
theorem ZhK {old:Gram}:∀ {ls:List (List Frag)} {rs:List Rule} {i:Nat},(Zda old ls rs i).code=0→∀ (j:Nat) (h1:j < ls.length) (h2:j < rs.length),Zax old ls[j] rs[j].right=0
 | [],_,_,_,j,h1,_=>by simp at h1
 | _::_,[],_,_,j,_,h2=>by simp at h2
 | l::ls,r::rs,i,h,j,h1,h2=>by
  rw[Zda] at h
  by_cases h0:Zax old l r.right=0
  ·rw[if_pos h0] at h
   match j with
   | 0=>exact h0
   | j+1=>exact ZhK h j (by simpa using h1) (by simpa using h2)
  ·rw[if_neg h0] at h;exact absurd h h0
theorem Ze3 {old:Gram} {s:Step} (h:(Zar old s).code=0):old.ok∧s.g.ok∧Zwj old.rules.length s:=by
 rw[Zar] at h
 by_cases h0:(Zac old).code=0
 ·rw[if_pos h0] at h
  by_cases h1:(Zac s.g).code=0
  ·rw[if_pos h1] at h
   by_cases h2:s.empty.length≤200
   ·rw[if_pos h2] at h
    by_cases h3:s.empty.any (ZbD old)=true
    ·rw[if_pos h3] at h;cases h
    ·rw[if_neg h3] at h
     by_cases h4:s.frags.length=s.g.rules.length
     ·rw[if_pos h4] at h
      refine⟨Za1 h0,Za1 h1,h4,fun i hi hi2=>?_⟩
      have:=ZhK h i hi hi2
      rw[Zax] at this
      by_cases c1:60 < cpL s.frags[i]
      ·rw[if_pos c1] at this;cases this
      ·rw[if_neg c1] at this
       by_cases c2:Zia old s.frags[i] s.g.rules[i].right=true
       ·unfold Zia at c2
        simp only[Bool.and_eq_true] at c2
        exact⟨by omega,c2.1⟩
       ·rw[if_neg c2] at this;cases this
     ·rw[if_neg h4] at h;cases h
   ·rw[if_neg h2] at h;cases h
  ·rw[if_neg h1] at h;exact absurd h h1
 ·rw[if_neg h0] at h;exact absurd h h0
set_option maxHeartbeats 4000000 in
theorem ZuF {t1 t2 t3:Bool} {old:Gram} {s:Step} {x:Tree} (ho:old.fit) (hs:s.fit) (hx:cnt x≤100000000) :
  ACalls Tryz.prog 46 [.d (Za6 t1 old),.d (Zcf t2 s),.d (Zbf t3 x)] [] (.tup [.d (Zbf false (Zce old s x).1),.d (Zba (Zce old s x).2)]) []:=by
 refine ACalls.intro (n:=65) Tryz.func46 rfl rfl (by simp) (by rfl) ?_
 simp only[Zal]
 have hol:=ho.rules
 have hgl:=hs.g.rules
 have hor:=ho.right
 have hgr:=hs.g.right
 refine VA ?_
 refine Zab [] (hA:=Zf7 ho hs) (hr:=?_)
 by_cases h0:(Zar old s).code=0
 rotate_left
 ·rw[show Zce old s x=(Zb6,Zar old s) by unfold Zce;rw[if_neg h0]]
  refine VA ?_
  exact fin2
 obtain⟨hg,hsg,hok⟩:=Ze3 h0
 refine VA ?_
 refine Zab [] (hA:=Zec hgl hgr hx) (hr:=?_)
 by_cases h1:(ZaN s.g x s.g.start).code=0
 rotate_left
 ·rw[show Zce old s x=(Zb6,ZaN s.g x s.g.start) by unfold Zce;rw[if_pos h0,if_neg h1]]
  refine VA ?_
  exact fin2
 obtain⟨_,k1,k2,k3⟩:=Ze5 h1
 have hv:=ZrH (t:=t2) (u:=t3) hs hok x _ k2 k1 false
 have hc0:∃ z,valT s x=z:=⟨_,rfl⟩
 obtain⟨z,hc⟩:=hc0
 cases z with
 | none =>
  rw[hc] at hv
  rw[show Zce old s x=(Zb6,⟨6, -1⟩) by unfold Zce;rw[if_pos h0,if_pos h1,hc]]
  refine VA ?_
  refine Zab [(1000,33)] (hA:=hv) (hr:=?_)
  refine VA ?_
  exact fin2
 | some l =>
  rw[hc] at hv
  have hlc:=Zpt hc
  have hll:=ZbC l
  match l,hc,hlc,hll,hv with
  | [],hc,hlc,hll,hv =>
   rw[show Zce old s x=(Zb6,⟨18, -1⟩) by unfold Zce;rw[if_pos h0,if_pos h1,hc]]
   refine VA ?_
   refine Zab [(1000,33)] (hA:=hv) (hr:=?_)
   refine VA ?_
   exact fin2
  | [y],hc,hlc,hll,hv =>
   have hyc:cnt y≤400:=by simp only[cnts] at hlc;omega
   have hv:ACalls Tryz.prog 81 [.ptr 1000 0,.d (Zcf t2 s),.d (Zbf t3 x)] (mkH false) (.d (.sl false 2 [Zbf false y])) (mkH false):=by
    have e:[Zbf false y]=[y].map (ZaY false):=by simp[ZcM]
    rw[e];exact hv
   refine VA ?_
   refine Zab [(1000,33)] (hA:=hv) (hr:=?_)
   refine VA ?_
   refine Zab [] (hA:=Zec (t:=t1) (u:=false) (x:=y) hol hor (Nat.le_trans hyc (by decide))) (hr:=?_)
   by_cases h2:(ZaN old y old.start).code=0
   ·rw[show Zce old s x=(y,⟨0,0⟩) by unfold Zce;rw[if_pos h0,if_pos h1,hc];show (if _ then _ else _)=_;rw[if_pos h2]]
    refine VA ?_
    refine Zab [] (hA:=ZiF (t:=false) y (Nat.le_trans hyc (by decide))) (hr:=?_)
    refine VA ?_
    exact fin2
   ·rw[show Zce old s x=(Zb6,⟨18, -1⟩) by unfold Zce;rw[if_pos h0,if_pos h1,hc];show (if _ then _ else _)=_;rw[if_neg h2]]
    refine VA ?_
    exact fin2
  | y::y2::l,hc,hlc,hll,hv =>
   rw[show Zce old s x=(Zb6,⟨18, -1⟩) by unfold Zce;rw[if_pos h0,if_pos h1,hc]]
   refine VA ?_
   refine Zab [(1000,33)] (hA:=hv) (hr:=?_)
   refine VA ?_
   exact fin2
end Go.Proofs.YtbpmepgnjanhnaaGreat
