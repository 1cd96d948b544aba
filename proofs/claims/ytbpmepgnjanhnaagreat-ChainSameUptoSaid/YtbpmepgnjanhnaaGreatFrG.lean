import Derived.Test.YtbpmepgnjanhnaaGreatFrE
set_option linter.unusedVariables false
set_option linter.unusedSimpArgs false
set_option linter.unusedSectionVars false
set_option maxHeartbeats 4000000
set_option maxRecDepth 100000
namespace Go.Proofs.YtbpmepgnjanhnaaGreat
open Go.RowKit
theorem Zwc:∀ (N:Nat) {t:Bool} {l:List Tree},cnts l < N→cnts l≤100000000→Af Tryz.prog 223 [.d (Zan t l)] [] (I (cnts l)) []:=by
 intro N
 induction N with
 | zero=>intro t l h;omega
 | succ N ih =>
 intro t l hn hN;have hl:=Hq (Zcb l) hN;refine Af.intro (n:=21) Tryz.func223 (hw:=?_);simp only[Zal];refine VA ?_;refine Zak (X:=Nat×Nat) (fun x=>x.1≤l.length∧x.2+x.1=l.length+cnts (l.take x.1)) (fun x=>[(10,I x.1),(9,I l.length),(8,.d (Zan t l)),(3,I x.2)]) (fun _=>[]) (fun x=>l.length - x.1) (0,l.length) ⟨Hh _,by simp[cnts]⟩ ?_;rintro⟨i,v⟩ ⟨h1,h2⟩;dsimp only at h1 h2 ⊢;by_cases hlt:i < l.length
 ·have e1:=ZkX hlt;have e3:=Zbn (He hlt);have e2:=ZcB l[i];have e4:cnts l=cnts (l.take (i+1))+cnts (l.drop (i+1)):=by rw[←ZaK,Gh]
  have e5:(l.take i).length≤cnts (l.take i):=Zcb _;refine VA ?_;refine Zab [] (hA:=ih (t:=t) (l:=l[i].Ab) (by omega) (by omega)) (hr:=?_);refine VA ?_;exact Zad (i+1,v+cnts l[i].Ab) (a:=⟨by omega,by dsimp only;omega⟩) (b:=by dsimp only;omega)
 ·rw[H6 (by omega)] at h2;obtain rfl:v=cnts l:=by omega
  refine VA ?_;exact fin
theorem Zwd {t:Bool} {l:List Tree} (h:cnts l≤100000000:=by exact Vm):Af Tryz.prog 223 [.d (Zan t l)] [] (I (cnts l)) []:=Zwc _ (Gk _) h
abbrev mkH (b:Bool):Hp:=[(1000,.box 109 [B b])]
def fitR (l:List Tree):List Tree:=if cnts l≤400 then l else []
theorem ZsJ (l:List Tree):cnts (fitR l)≤400:=by
 unfold fitR;split
 ·assumption
 ·simp[cnts]
theorem Zkg {l:List Tree} {b:Bool} (h:cnts l≤100000000:=by exact Vm):Af Tryz.prog 207 [.ptr 1000 0,.d (Zan false l)] (mkH b) (.d (Zan false (fitR l))) (mkH (b || decide (400 < cnts l))):=by
 refine Af.intro (n:=12) Tryz.func207 (hw:=?_);simp only[Zal];refine VA ?_;refine Zab [] (hA:=Zwd) (hr:=?_);by_cases h4:400 < cnts l
 ·rw[Hu h4,Bool.or_true,fitR,Ha (by omega)];refine VA ?_;exact fin
 ·rw[HC h4,Jk,fitR,Hb (by omega)];refine VA ?_;exact fin
theorem ZzK:∀ (N:Nat) {l w:List Tree},cnts l < N→cnts l * (1+cnts w)≤100000000→Af Tryz.prog 208 [.d (Zan false l),.d (Zan false w)] [] (.d (Zan false (ZaY w l))) []:=by
 intro N
 induction N with
 | zero=>intro l w h;omega
 | succ N ih =>
 intro l w hn hN;have hcl:cnts l≤cnts l * (1+cnts w):=Nat.le_mul_of_pos_right _ (by omega);have hl:=Hq (Zcb l) (Hq hcl hN);refine Af.intro (n:=32) Tryz.func208 (hw:=?_);simp only[Zal];refine VA ?_;refine ZbB 5 900 56 2 rfl rfl rfl ?_;refine Zak (X:=Nat) (fun i=>i≤l.length) (fun i=>[(10,I i),(9,I l.length),(8,.d (Zan false l)),(5,.own 900 (ZaY w (l.take i)).length),(1,.d (Zan false w))]) (fun i=>[(900,.row 56 2 ((ZaY w (l.take i)).map (ZaV false)))]) (fun i=>l.length - i) 0 (Hh _) ?_;intro i h1;by_cases hlt:i < l.length
 ·have e1:=Zu4 (w:=w) hlt;have e2:=ZjH w l[i];have e3:=Zbn (He hlt);have e4:=ZcB l[i];have e5:=Hq (Zcb _) (ZhO w (l.take (i+1)));have e6:cnts (l.take (i+1))≤cnts l:=by have:=ZaK (l.take (i+1)) (l.drop (i+1));rw[Gh] at this;omega
  have e7:=Hq e5 (Gi (1+cnts w) e6);have e8:=Hy List.length e1;rw[Hk] at e8;by_cases hr:l[i].rule = -1
  ·rw[Hb hr] at e2;rw[e2] at e1 e8;have e:=Hy (List.map (ZaV false)) e1;rw[Ho] at e;refine VA ?_;exact Zad (i+1)
  ·rw[Ha hr] at e2;rw[e2] at e1 e8;have e:(ZaY w (l.take i)).map (ZaV false)++[D.agg [iD l[i].rule,Zan false (ZaY w l[i].Ab)]]=(ZaY w (l.take (i+1))).map (ZaV false):=by rw[e1,Ho];simp only[Hm,HF,Zdz];rfl
   have hk:=Gi (1+cnts w) (show cnts l[i].Ab≤cnts l by omega);refine VA ?_;refine Zab [] (hA:=ih (l:=l[i].Ab) (w:=w) (by omega) (by omega)) (hr:=?_);refine VA ?_;rw[e,Hi];exact Zad (i+1)
 ·rw[show l.take i=l from H6 (by omega)];refine Zaz 900 rfl ?_;refine VA ?_;exact fin
theorem ZsK {l w:List Tree} (h1:cnts l≤400) (h2:cnts w≤400):Af Tryz.prog 208 [.d (Zan false l),.d (Zan false w)] [] (.d (Zan false (ZaY w l))) [] :=
 ZzK _ (Gk _) (Hq (Nat.mul_le_mul h1 (show 1+cnts w≤401 by omega)) (by decide))
theorem Zpa {l w:List Tree} (h1:cnts l≤400) (h2:cnts w≤400):cnts (ZaY w l)≤160400:=Hq (ZhO w l) (Hq (Nat.mul_le_mul h1 (show 1+cnts w≤401 by omega)) (by decide))
abbrev ZDH (Ab:List (List Tree)):D:=.sl false 1 (Ab.map (Zan false))
theorem ZzL {m:Int} {l:List Ad} {i:Nat} {u:List Int} (hlt:i < l.length) (h:(usL m (l.drop i) u).1=true):(usF m l[i] u).1=true∧(usL m (l.drop (i+1)) (usF m l[i] u).2).1=true:=by
 rw[ZzQ hlt] at h;cases hc:(usF m l[i] u).1 with
 | true=>rw[hc] at h;exact⟨rfl,h⟩
 | false=>rw[hc] at h;cases h
theorem Zwe:∀ (l:List Ad),l.length≤cpL l
 | []=>Hh _
 | x::l=>by
  have:=Zwe l;have:1≤cpF x:=by rw[ZsN];omega
  simp only[Hl,cpL];omega
theorem ZzM {Ab:List (List Tree)} {l:List Ad} (h:mkA Ab l=none):mkL Ab l=none:=by rw[mkL,h];rfl
theorem Zwf:∀ (N:Nat) {t:Bool} {l:List Ad} {Ab:List (List Tree)} {m:Int} {u:List Int},cpL l < N→cpL l≤60→(usL m l u).1=true→u.length=Ab.length→(∀ k∈Ab,cnts k≤400)→Ab.length≤100000000 →
  Af Tryz.prog 155 [.ptr 1000 0,.d (Zah t l),.d (ZDH Ab)] (mkH false) (.d (Zan false ((mkL Ab l).getD []))) (mkH (mkL Ab l).isNone):=by
 intro N
 induction N with
 | zero=>intro t l Ab m u h;omega
 | succ N ih =>
 intro t l Ab m u hn h60 hus hk hk4 hkN;have hl:l.length≤cpL l:=Zwe l;refine Af.intro (n:=71) Tryz.func155 (hw:=?_);simp only[Zal];refine VA ?_;refine ZbB 7 900 56 2 rfl rfl rfl ?_;refine Zak (X:=Nat×List Tree×List Int) (fun x=>x.1≤l.length∧mkA Ab (l.take x.1)=some x.2.1∧(usL m (l.drop x.1) x.2.2).1=true∧x.2.2.length=Ab.length) (fun x=>[(12,I x.1),(11,I l.length),(10,.d (Zah t l)),(7,.own 900 x.2.1.length),(0,.ptr 1000 0),(2,.d (ZDH Ab))]) (fun x=>(900,.row 56 2 (x.2.1.map (ZaV false)))::mkH false) (fun x=>l.length - x.1) (0,[],u) ⟨Hh _,rfl,hus,hk⟩ ?_;rintro⟨i,A,v⟩ ⟨h1,h2,h3,h4⟩;dsimp only at h1 h2 h3 h4 ⊢;by_cases hlt:i < l.length
 ·have e1:=ZAA (Ab:=Ab) hlt;have e2:=Zxx Ab l[i];have e3:=ZzP hlt;have e4:=ZsN l[i];have e5:cpL l=cpL (l.take (i+1))+cpL (l.drop (i+1)):=by rw[←Zdl,Gh]
  obtain⟨g1,g2⟩:=ZzL hlt h3;have g3:=ZDJ m l[i] v;have g4:=Zrf m l[i] v;have hA:=Hq (Zcb A) (ZnS hk4 h2);have hti:(l.take i).length≤60:=by rw[Hs];omega
  rw[h2] at e1;have hmany:mkA Ab (l.take (i+1))=none→(mkL Ab l)=none:=fun h=>ZzM (ZAB h)
  by_cases o1:l[i].op=1
  ·rw[Hb (Or.inl o1)] at e4;rw[Hb o1] at e2 g3;have g5:(usL m l[i].l v).1=true:=by
    rw[g3] at g1;split at g1
    ·cases g1
    ·exact g1
   have hih:=ih (t:=t) (l:=l[i].l) (Ab:=Ab) (m:=m) (u:=v) (by omega) (by omega) g5 h4 hk4 hkN;cases hc:mkL Ab l[i].l with
   | none =>
    rw[hc] at hih e2;rw[JI,JP] at hih;rw[e2] at e1;rw[hmany e1,JI,JP];refine VA ?_;refine Zab [] (hA:=hih) (hr:=?_);refine VA ?_;exact fin
   | some a =>
    rw[hc] at hih e2;rw[HW,Option.isNone_some] at hih;rw[e2] at e1;have e:A.map (ZaV false)++[D.agg [iD l[i].n,Zan false a]]=(A++[Tree.mk l[i].n a]).map (ZaV false):=(by rw[Ho];simp only[Hm,HF,Zdz];rfl);refine VA ?_;refine Zab [] (hA:=hih) (hr:=?_);refine VA ?_;rw[e,Hi];exact Zad (i+1,A++[Tree.mk l[i].n a],(usF m l[i] v).2) (a:=⟨by omega,e1,g2,g4.trans h4⟩) (b:=by dsimp only;omega)
  ·rw[Ha o1] at e2 g3;by_cases o2:l[i].op=2
   ·rw[Hb o2] at e2 g3;have hn0:¬ (l[i].n < 0∨(v.length:Int)≤l[i].n):=(fun h=>by rw[g3,Hb h] at g1;cases g1);have hnk:l[i].n=((l[i].n.toNat:Nat):Int):=(by omega);have hnl:l[i].n.toNat < Ab.length:=(by omega);have Ah:Ab.getD l[i].n.toNat []=Ab[l[i].n.toNat]:=(by rw[Hf,Hj hnl];rfl);have hkc:=hk4 _ (He hnl);have hkl:=Zcb Ab[l[i].n.toNat];rw[Ah] at e2;rw[e2] at e1;have e:A.map (ZaV false)++Ab[l[i].n.toNat].map (ZaV false)=(A++Ab[l[i].n.toNat]).map (ZaV false):=(by rw[Ho]);refine VA ?_;rw[e,Hi];exact Zad (i+1,A++Ab[l[i].n.toNat],(usF m l[i] v).2) (a:=⟨by omega,e1,g2,g4.trans h4⟩) (b:=by dsimp only;omega)
   ·rw[Ha o2] at e2 g3;by_cases o3:l[i].op=3
    ·rw[Hb o3] at e2;rw[e2] at e1;have e:(A++[Tree.mk (-1) []]).map (ZaV false)=A.map (ZaV false)++[D.agg [iD (-1),Zan false []]]:=(by rw[Ho];simp only[Hm,HF,Zdz];rfl);refine VA ?_;exact Zad (i+1,A++[Tree.mk (-1) []],(usF m l[i] v).2) (a:=⟨by omega,e1,g2,g4.trans h4⟩) (b:=by dsimp only;omega)
    ·rw[Ha o3] at e2;by_cases o4:l[i].op=4
     ·rw[Hb o4] at e2 g3;rw[Hb (Or.inr o4)] at e4;have hn0:¬ (l[i].n < 0∨(v.length:Int)≤l[i].n):=(fun h=>by rw[g3,Hb h] at g1;cases g1);have g5:(usL m l[i].l (bump v l[i].n)).1=true:=(by rw[g3,Ha hn0] at g1;exact g1);have hnk:l[i].n=((l[i].n.toNat:Nat):Int):=(by omega);have hnl:l[i].n.toNat < Ab.length:=(by omega);have Ah:Ab.getD l[i].n.toNat []=Ab[l[i].n.toNat]:=(by rw[Hf,Hj hnl];rfl);have hkc:=hk4 _ (He hnl);rw[Ah] at e2;have hih:=ih (t:=t) (l:=l[i].l) (Ab:=Ab) (m:=m) (u:=bump v l[i].n) (by omega) (by omega) g5 (by rw[Zdm];exact h4) hk4 hkN;cases hc:mkL Ab l[i].l with
      | none =>
       rw[hc] at hih e2;rw[JI,JP] at hih;rw[e2] at e1;rw[hmany e1,JI,JP];have hf:=ZsK (l:=Ab[l[i].n.toNat]) (w:=[]) hkc (by simp[cnts]);have hfc:=Zpa (l:=Ab[l[i].n.toNat]) (w:=[]) hkc (by simp[cnts]);have hfl:=Zcb (fitR (ZaY [] Ab[l[i].n.toNat]));have hfr:cnts (fitR (ZaY [] Ab[l[i].n.toNat]))≤400:=ZsJ _;have hft:=Zkg (l:=ZaY [] Ab[l[i].n.toNat]) (b:=true) (by omega);rw[Bool.true_or] at hft;refine VA ?_;refine Zab [] (hA:=hih) (hr:=?_);refine VA ?_;refine Zab [] (hA:=hf) (hr:=?_);refine VA ?_;refine Zab [] (hA:=hft) (hr:=?_);refine VA ?_;exact fin
      | some a =>
       rw[hc] at hih e2;rw[HW,Option.isNone_some] at hih;have hac:=(ZjI hc).2;have hf:=ZsK (l:=Ab[l[i].n.toNat]) (w:=a) hkc hac;have hfc:=Zpa (l:=Ab[l[i].n.toNat]) (w:=a) hkc hac;have hft:=Zkg (l:=ZaY a Ab[l[i].n.toNat]) (b:=false) (by omega);rw[GD] at hft;have hfl:=Zcb (fitR (ZaY a Ab[l[i].n.toNat]));have hfr:cnts (fitR (ZaY a Ab[l[i].n.toNat]))≤400:=ZsJ _;by_cases hbig:400 < cnts (ZaY a Ab[l[i].n.toNat])
       ·rw[Hu hbig] at hft;have e3':(some a).bind (fun a=>ZbV (ZaY a Ab[l[i].n.toNat]))=none:=(by show ZbV _=none;unfold ZbV;rw[Ha (by omega)]);rw[e3'] at e2;rw[e2] at e1;rw[hmany e1,JI,JP];refine VA ?_;refine Zab [] (hA:=hih) (hr:=?_);refine VA ?_;refine Zab [] (hA:=hf) (hr:=?_);refine VA ?_;refine Zab [] (hA:=hft) (hr:=?_);refine VA ?_;exact fin
       ·rw[HC hbig] at hft;have e3':(some a).bind (fun a=>ZbV (ZaY a Ab[l[i].n.toNat]))=some (fitR (ZaY a Ab[l[i].n.toNat])):=(by show ZbV _=_;unfold ZbV fitR;rw[Hb (by omega),Hb (by omega)]);rw[e3'] at e2;rw[e2] at e1;generalize fitR (ZaY a Ab[l[i].n.toNat])=z at *;have e:A.map (ZaV false)++z.map (ZaV false)=(A++z).map (ZaV false):=(by rw[Ho]);refine VA ?_;refine Zab [] (hA:=hih) (hr:=?_);refine VA ?_;refine Zab [] (hA:=hf) (hr:=?_);refine VA ?_;refine Zab [] (hA:=hft) (hr:=?_);refine VA ?_;rw[e,Hi];exact Zad (i+1,A++z,(usF m l[i] v).2) (a:=⟨by omega,e1,g2,g4.trans h4⟩) (b:=by dsimp only;omega)
     ·rw[Ha o4] at e2;rw[e2] at e1;have e1':mkA Ab (l.take (i+1))=some A:=(by rw[e1];show some (A++[])=some A;rw[Ht]);refine VA ?_;exact Zad (i+1,A,(usF m l[i] v).2) (a:=⟨by omega,e1',g2,g4.trans h4⟩) (b:=by dsimp only;omega)
 ·have e0:l.take i=l:=H6 (by omega);rw[e0] at h2;have hA:=Hq (Zcb A) (ZnS hk4 h2);have hAc:=ZnS hk4 h2;have hm:mkL Ab l=ZbV A:=by rw[mkL,h2];rfl
  have r1:(ZbV A).getD []=fitR A:=by unfold ZbV fitR;split <;> rfl
  have r2:(ZbV A).isNone=decide (400 < cnts A):=by
   unfold ZbV;split
   ·rw[HC (by omega)];rfl
   ·rw[Hu (by omega)];rfl
  rw[hm,r1,r2];refine VA ?_;refine ZaW [] (hA:=Zkg (l:=A) (b:=false)) (hr:=?_);rw[GD];refine VA ?_;exact fin
def ZBP (m:Int) (s:Step):Prop:=s.frags.length=s.g.Aa.length∧∀ (i:Nat) (h:i < s.frags.length) (h2:i < s.g.Aa.length),cpL s.frags[i]≤60∧(usL m s.frags[i] (List.replicate (Ab s.g.Aa[i].right).length 0)).1=true
theorem Zwg {t u:Bool} {m:Int} {s:Step} (hs:s.fit) (hok:ZBP m s):∀ (x:Tree) (v:Int),fits s.g x v=true→cnt x≤400→∀ b:Bool,
  Af Tryz.prog 81 [.ptr 1000 0,.d (ZdG t s),.d (Zbz u x)] (mkH b) (.d (Zan false (if b then [] else (valT s x).getD []))) (mkH (b || (valT s x).isNone)):=by
 refine Tree.ind fun x ih v hf hx b=>?_
 refine Af.intro (n:=38) Tryz.func81 (hw:=?_);simp only[Zal];obtain⟨r,hr,e1,e2,e3,e4,e5⟩:=ZaR hf;have hkl:=Zdx (Hq hx (show 400≤100000000 by decide));have hfl:=hs.frags;have hgl:=hs.g.Aa;have hvt:=Zxz s x;refine VA ?_;refine ZbB 7 900 37 1 rfl rfl rfl ?_;refine Zak (X:=Nat×List (List Tree)×Bool) (fun y=>y.1≤x.Ab.length∧y.2.1.length=y.1∧y.2.2=(b || (valL s (x.Ab.take y.1)).isNone)∧(y.2.2=false→valL s (x.Ab.take y.1)=some y.2.1)) (fun y=>[(13,I y.1),(12,I x.Ab.length),(11,.d (Zan u x.Ab)),(7,.own 900 y.2.1.length),(0,.ptr 1000 0),(4,.ptr 4 0),(5,.ptr 5 0)])
  (fun y=>(900,.row 37 1 (y.2.1.map (Zan false)))::(4,Zci t s)::(5,.box 56 [.d (iD x.rule),.d (Zan u x.Ab)])::mkH y.2.2) (fun y=>x.Ab.length - y.1) (0,[],b) ⟨Hh _,rfl,by simp[valL],fun _=>by simp[valL]⟩ ?_
 rintro⟨i,K,c⟩ ⟨h1,h2,h3,h4⟩;dsimp only at h1 h2 h3 h4 ⊢;by_cases hlt:i < x.Ab.length
 ·have hki:=Zbv e4 hlt (show i < (Ab s.g.Aa[r].right).length by omega);have hih:=ih x.Ab[i] (He hlt) _ hki (ZkK hx hlt).1 c;have hvl:=ZxA (s:=s) hlt;have hn:(c || (valT s x.Ab[i]).isNone)=(b || (valL s (x.Ab.take (i+1))).isNone):=by
   rw[hvl];cases c with
   | true =>
    cases b with
    | true=>rfl
    | false =>
     cases hq:valL s (x.Ab.take i) with
     | none=>rfl
     | some a=>rw[hq] at h3;cases h3
   | false =>
    rw[h4 rfl];cases b with
    | true=>cases h3
    | false=>cases valT s x.Ab[i] <;> rfl
  have hs2:(c || (valT s x.Ab[i]).isNone)=false→valL s (x.Ab.take (i+1))=some (K++[if c then [] else (valT s x.Ab[i]).getD []]):=by
   intro h;cases c with
   | true=>cases h
   | false =>
    rw[hvl,h4 rfl];cases hq:valT s x.Ab[i] with
    | none=>rw[hq] at h;cases h
    | some a=>rfl
  generalize (c || (valT s x.Ab[i]).isNone)=c' at *;generalize (if c then [] else (valT s x.Ab[i]).getD [])=R at *;have e:K.map (Zan false)++[Zan false R]=(K++[R]).map (Zan false):=by rw[Ho];rfl
  refine VA ?_;refine Zab [] (hA:=hih) (hr:=?_);refine VA ?_;rw[e,Hi];exact Zad (i+1,K++[R],c') (a:=⟨by omega,by simp[h2],hn,hs2⟩) (b:=by dsimp only;omega)
 ·have e0:x.Ab.take i=x.Ab:=H6 (by omega);rw[e0] at h3 h4;cases c with
  | true =>
   have r1:(b || (valT s x).isNone)=true:=by
    cases b with
    | true=>rfl
    | false =>
     rw[hvt];cases hq:valL s x.Ab with
     | none=>rfl
     | some a=>rw[hq] at h3;cases h3
   have r2:(if b then [] else (valT s x).getD [])=([]:List Tree):=by
    cases b with
    | true=>rfl
    | false =>
     rw[hvt];cases hq:valL s x.Ab with
     | none=>rfl
     | some a=>rw[hq] at h3;cases h3
   rw[r1,r2];refine VA ?_;exact fin
  | false =>
   have hb:b=false:=by cases b with|false=>rfl|true=>cases h3
   subst hb;have hK:=h4 rfl;rw[hK] at hvt;have hrf:r < s.frags.length:=by rw[hok.1];exact hr
   have hgd:s.frags.getD x.rule.toNat []=s.frags[r]:=by rw[e1,Hn,Hf,Hj hrf];rfl
   rw[hgd] at hvt;obtain⟨k1,k2⟩:=hok.2 r hrf hr;have hap:=Zwf _ (t:=t) (l:=s.frags[r]) (Ab:=K) (m:=m) (u:=List.replicate (Ab s.g.Aa[r].right).length 0) (Gk _) k1 k2 (by rw[HM];omega) (Ztg hK).2 (by omega);rw[show (if false=true then [] else (valT s x).getD [])=(mkL K s.frags[r]).getD [] by rw[hvt];rfl,show (false || (valT s x).isNone)=(mkL K s.frags[r]).isNone by rw[hvt];rfl];refine VA ?_;refine ZaW [] (hA:=hap) (hr:=?_);refine VA ?_;exact fin
theorem ZgP {old:Ac}:∀ {ls:List (List Ad)} {rs:List Rule} {i:Nat},(Zd7 old ls rs i).code=0→∀ (j:Nat) (h1:j < ls.length) (h2:j < rs.length),Zay old ls[j] rs[j].right=0
 | [],_,_,_,j,h1,_=>by simp at h1
 | _::_,[],_,_,j,_,h2=>by simp at h2
 | l::ls,r::rs,i,h,j,h1,h2=>by
  rw[Zd7] at h;by_cases h0:Zay old l r.right=0
  ·rw[Hb h0] at h
   match j with
   | 0=>exact h0
   | j+1=>exact ZgP h j (by simpa using h1) (by simpa using h2)
  ·rw[Ha h0] at h;exact absurd h h0
theorem Zb3 {old:Ac} {s:Step} (h:(Zam old s).code=0):old.ok∧s.g.ok∧ZBP old.Aa.length s:=by
 rw[Zam] at h;by_cases h0:(Zac old).code=0
 ·rw[Hb h0] at h;by_cases h1:(Zac s.g).code=0
  ·rw[Hb h1] at h;by_cases h2:s.empty.length≤200
   ·rw[Hb h2] at h;by_cases h3:s.empty.any (ZbX old)=true
    ·rw[Hb h3] at h;cases h
    ·rw[Ha h3] at h;by_cases h4:s.frags.length=s.g.Aa.length
     ·rw[Hb h4] at h;refine⟨Zbd h0,Zbd h1,h4,fun i hi hi2=>?_⟩;have:=ZgP h i hi hi2;rw[Zay] at this;by_cases c1:60 < cpL s.frags[i]
      ·rw[Hb c1] at this;cases this
      ·rw[Ha c1] at this;by_cases c2:Zhy old s.frags[i] s.g.Aa[i].right=true
       ·unfold Zhy at c2;simp only[Hr] at c2;exact⟨by omega,c2.1⟩
       ·rw[Ha c2] at this;cases this
     ·rw[Ha h4] at h;cases h
   ·rw[Ha h2] at h;cases h
  ·rw[Ha h1] at h;exact absurd h h1
 ·rw[Ha h0] at h;exact absurd h h0
theorem ZzN {t1 t2 t3:Bool} {old:Ac} {s:Step} {x:Tree} (ho:old.fit) (hs:s.fit) (hx:cnt x≤100000000) :
  Af Tryz.prog 46 [.d (Zbr t1 old),.d (ZdG t2 s),.d (Zbz t3 x)] [] (.tup [.d (Zbz false (Zb8 old s x).1),.d (Zbu (Zb8 old s x).2)]) []:=by
 refine Af.intro (n:=65) Tryz.func46 (hw:=?_);simp only[Zal];have hol:=ho.Aa;have hgl:=hs.g.Aa;have hor:=ho.right;have hgr:=hs.g.right;refine VA ?_;refine Zab [] (hA:=Zht ho hs) (hr:=?_);by_cases h0:(Zam old s).code=0
 rotate_left
 ·rw[show Zb8 old s x=(ZcI,Zam old s) by unfold Zb8;rw[Ha h0]];refine VA ?_;exact fin2
 obtain⟨hg,hsg,hok⟩:=Zb3 h0;refine VA ?_;refine Zab [] (hA:=Zft hgl hgr hx) (hr:=?_);by_cases h1:(ZaB s.g x s.g.start).code=0
 rotate_left
 ·rw[show Zb8 old s x=(ZcI,ZaB s.g x s.g.start) by unfold Zb8;rw[Hb h0,Ha h1]];refine VA ?_;exact fin2
 obtain⟨_,k1,k2,k3⟩:=ZgO h1;have hv:=Zwg (t:=t2) (u:=t3) hs hok x _ k2 k1 false;have hc0:∃ z,valT s x=z:=⟨_,rfl⟩
 obtain⟨z,hc⟩:=hc0;cases z with
 | none =>
  rw[hc] at hv;rw[show Zb8 old s x=(ZcI,⟨6, -1⟩) by unfold Zb8;rw[Hb h0,Hb h1,hc]];refine VA ?_;refine Zab [(1000,33)] (hA:=hv) (hr:=?_);refine VA ?_;exact fin2
 | some l =>
  rw[hc] at hv;have hlc:=ZnU hc;have hll:=Zcb l
  match l,hc,hlc,hll,hv with
  | [],hc,hlc,hll,hv =>
   rw[show Zb8 old s x=(ZcI,⟨18, -1⟩) by unfold Zb8;rw[Hb h0,Hb h1,hc]];refine VA ?_;refine Zab [(1000,33)] (hA:=hv) (hr:=?_);refine VA ?_;exact fin2
  | [y],hc,hlc,hll,hv =>
   have hyc:cnt y≤400:=by simp only[cnts] at hlc;omega
   have hv:Af Tryz.prog 81 [.ptr 1000 0,.d (ZdG t2 s),.d (Zbz t3 x)] (mkH false) (.d (.sl false 2 [Zbz false y])) (mkH false):=by
    have e:[Zbz false y]=[y].map (ZaV false):=(by simp[Zdz]);rw[e];exact hv
   refine VA ?_;refine Zab [(1000,33)] (hA:=hv) (hr:=?_);refine VA ?_;refine Zab [] (hA:=Zft (t:=t1) (u:=false) (x:=y) hol hor (Hq hyc (by decide))) (hr:=?_);by_cases h2:(ZaB old y old.start).code=0
   ·rw[show Zb8 old s x=(y,⟨0,0⟩) by unfold Zb8;rw[Hb h0,Hb h1,hc];show (if _ then _ else _)=_;rw[Hb h2]];refine VA ?_;refine Zab [] (hA:=ZkN (t:=false) y (Hq hyc (by decide))) (hr:=?_);refine VA ?_;exact fin2
   ·rw[show Zb8 old s x=(ZcI,⟨18, -1⟩) by unfold Zb8;rw[Hb h0,Hb h1,hc];show (if _ then _ else _)=_;rw[Ha h2]];refine VA ?_;exact fin2
  | y::y2::l,hc,hlc,hll,hv =>
   rw[show Zb8 old s x=(ZcI,⟨18, -1⟩) by unfold Zb8;rw[Hb h0,Hb h1,hc]];refine VA ?_;refine Zab [(1000,33)] (hA:=hv) (hr:=?_);refine VA ?_;exact fin2
end Go.Proofs.YtbpmepgnjanhnaaGreat
