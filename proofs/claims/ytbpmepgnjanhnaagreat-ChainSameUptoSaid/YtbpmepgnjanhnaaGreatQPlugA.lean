import Derived.Test.YtbpmepgnjanhnaaGreatTurnR
set_option linter.unusedVariables false
set_option linter.unusedSimpArgs false
set_option linter.unusedSectionVars false
set_option maxHeartbeats 8000000
set_option maxRecDepth 100000
namespace Go.Proofs.YtbpmepgnjanhnaaGreat
open Go.RowKit
theorem ZpQ:∀ (N:Nat) {t:Bool} {l:List Ad} {o b:Int},Aj l < N→Aj l≤100000000→NbL 1000000000 l → -1000000000≤b→b≤1000000000→Af Tryz.prog 201 [.d (Zah t l),I o,I b] [] (.d (Zah false (movL o b l))) []:=by
 intro N
 induction N with
 | zero=>intro t l o b h;omega
 | succ N ih =>
 intro t l o b hn hN hB hb0 hb1;have hl:=Hq (ZbW l) hN;refine Af.intro (n:=52) Tryz.func201 (hw:=?_);simp only[Zal];refine VA ?_;refine ZbB 7 900 102 3 rfl rfl rfl ?_;refine Zak (X:=Nat) (fun i=>i≤l.length) (fun i=>[(13,I i),(12,I l.length),(11,.d (Zah t l)),(7,.own 900 (movL o b (l.take i)).length),(1,I o),(2,I b)]) (fun i=>[(900,.row 102 3 ((movL o b (l.take i)).map (ZaN false)))]) (fun i=>l.length - i) 0 (Hh _) ?_;intro i h1;by_cases hlt:i < l.length
 ·have e1:=Zxj (o:=o) (b:=b) hlt;have e2:=ZCz o b l[i];have e3:=Zfj (He hlt);have e4:=Zhw l[i];have hm:=Zs7 o b (l.take i);obtain⟨⟨n0,n1⟩,hB2⟩:=ZBX (ZrF hB (He hlt));have hih:=ih (t:=t) (l:=l[i].l) (o:=o) (b:=b) (by omega) (by omega) hB2 hb0 hb1;have e:(movL o b (l.take i)).map (ZaN false)++[D.agg [iD l[i].op,iD (mvN l[i].op l[i].n o b),Zah false (movL o b l[i].l)]]=(movL o b (l.take (i+1))).map (ZaN false):=by rw[e1,e2,Ho];simp only[Hm,HF,Zcr];rfl
  have hlen:(movL o b (l.take i)).length≤100000000:=by rw[hm,Hs];omega
  by_cases hop:l[i].op=2∨l[i].op=4
  ·by_cases hov:o < l[i].n
   ·rw[show mvN l[i].op l[i].n o b=l[i].n+b from Hb ⟨hop,hov⟩] at e;replace e:(movL o b (l.take i)).map (ZaN false)++[D.agg [iD l[i].op,.raw (.int .i64 (l[i].n+b)),Zah false (movL o b l[i].l)]]=(movL o b (l.take (i+1))).map (ZaN false):=e;rcases hop with hop|hop
    ·refine VA ?_;refine Zab [] (hA:=hih) (hr:=?_);refine VA ?_;rw[e,Hi];exact Zad (i+1)
    ·refine VA ?_;refine Zab [] (hA:=hih) (hr:=?_);refine VA ?_;rw[e,Hi];exact Zad (i+1)
   ·rw[show mvN l[i].op l[i].n o b=l[i].n from Ha (fun h=>hov h.2)] at e;rcases hop with hop|hop
    ·refine VA ?_;refine Zab [] (hA:=hih) (hr:=?_);refine VA ?_;rw[e,Hi];exact Zad (i+1)
    ·refine VA ?_;refine Zab [] (hA:=hih) (hr:=?_);refine VA ?_;rw[e,Hi];exact Zad (i+1)
  ·rw[show mvN l[i].op l[i].n o b=l[i].n from Ha (fun h=>hop h.1)] at e;have h2:¬ l[i].op=2:=fun h=>hop (.inl h)
   have h4:¬ l[i].op=4:=fun h=>hop (.inr h)
   refine VA ?_;refine Zab [] (hA:=hih) (hr:=?_);refine VA ?_;refine VB ?_;refine VA ?_;rw[e,Hi];exact Zad (i+1)
 ·rw[show l.take i=l from H6 (by omega)];refine Zaz 900 rfl ?_;refine VA ?_;exact fin
theorem ZAH:∀ (N:Nat) {t u:Bool} {l w:List Ad},Aj l < N→Aj l * (1+Aj w)≤100000000→Af Tryz.prog 226 [.d (Zah false l),.d (Zah false w)] [] (.d (Zah false (gpL w l))) []:=by
 intro N
 induction N with
 | zero=>intro t u l w h;omega
 | succ N ih =>
 intro t u l w hn hN;have hcl:Aj l≤Aj l * (1+Aj w):=Nat.le_mul_of_pos_right _ (by omega);have hl:=Hq (ZbW l) (Hq hcl hN);refine Af.intro (n:=34) Tryz.func226 (hw:=?_);simp only[Zal];refine VA ?_;refine ZbB 5 900 102 3 rfl rfl rfl ?_;refine Zak (X:=Nat) (fun i=>i≤l.length) (fun i=>[(10,I i),(9,I l.length),(8,.d (Zah false l)),(5,.own 900 (gpL w (l.take i)).length),(1,.d (Zah false w))]) (fun i=>[(900,.row 102 3 ((gpL w (l.take i)).map (ZaN false)))]) (fun i=>l.length - i) 0 (Hh _) ?_;intro i h1;by_cases hlt:i < l.length
 ·have e1:=ZAk (w:=w) hlt;have e2:=ZD0 w l[i];have e3:=Zfj (He hlt);have e4:=Zhw l[i];have e5:=Hq (ZbW _) (ZnM w (l.take (i+1)));have e6:Aj (l.take (i+1))≤Aj l:=by have:=ZeU l (i+1);omega
  have e7:=Hq e5 (Gi (1+Aj w) e6);have e8:=Hy List.length e1;rw[Hk] at e8;by_cases hr:l[i].op=3
  ·rw[Hb hr] at e2;rw[e2] at e1 e8;have e:=Hy (List.map (ZaN false)) e1;rw[Ho] at e;refine VA ?_;exact Zad (i+1)
  ·rw[Ha hr] at e2;rw[e2] at e1 e8;have e:(gpL w (l.take i)).map (ZaN false)++[D.agg [iD l[i].op,iD l[i].n,Zah false (gpL w l[i].l)]]=(gpL w (l.take (i+1))).map (ZaN false):=by rw[e1,Ho];simp only[Hm,HF,Zcr];rfl
   have hk:=Gi (1+Aj w) (show Aj l[i].l≤Aj l by omega);refine VA ?_;refine Zab [] (hA:=ih (t:=false) (u:=false) (l:=l[i].l) (w:=w) (by omega) (by omega)) (hr:=?_);refine VA ?_;rw[e,Hi];exact Zad (i+1)
 ·rw[show l.take i=l from H6 (by omega)];refine Zaz 900 rfl ?_;refine VA ?_;exact fin
theorem ZCI:∀ (N:Nat) {l inn:List Ad} {k b:Int},Aj l < N→Aj l≤100000000→PtL k inn b l→NbL 1000000000 l → -1000000000≤b→b≤1000000000→Aj inn≤100000000 →
  ∀ t,Af Tryz.prog 219 [.d (Zah t l),I k,.d (Zah false inn),I b] [] (.d (Zah false (ptL k inn b l))) []:=by
 intro N
 induction N with
 | zero=>intro l inn k b h;omega
 | succ N ih =>
 intro l inn k b hn hN hP hB hb0 hb1 hi t;have hl:=Hq (ZbW l) hN;have hil:=Hq (ZbW inn) hi;have hsz:=Zs8 hP;have hpl:=Hq (ZbW _) hsz;refine Af.intro (n:=87) Tryz.func219 (hw:=?_);simp only[Zal];refine VA ?_;refine ZbB 9 900 102 3 rfl rfl rfl ?_;refine Zak (X:=Nat) (fun i=>i≤l.length) (fun i=>[(16,I i),(15,I l.length),(14,.d (Zah t l)),(9,.own 900 (ptL k inn b (l.take i)).length),(1,I k),(2,.d (Zah false inn)),(3,I b)]) (fun i=>[(900,.row 102 3 ((ptL k inn b (l.take i)).map (ZaN false)))]) (fun i=>l.length - i) 0 (Hh _) ?_;intro i h1;by_cases hlt:i < l.length
 ·have e1:=ZAl (k:=k) (inn:=inn) (b:=b) hlt;have e2:=ZD1 k inn b l[i];have e3:=Zfj (He hlt);have e4:=Zhw l[i];obtain⟨⟨n0,n1⟩,hB2⟩:=ZBX (ZrF hB (He hlt));obtain⟨p1,p2⟩:=ZD2 (Zxm hP (He hlt));have hih:=ih (l:=l[i].l) (inn:=inn) (k:=k) (b:=b) (by omega) (by omega) p1 hB2 hb0 hb1 hi t;have hlen:(ptL k inn b (l.take (i+1))).length≤100000000:=by
   have:=Hy List.length (ZiI k inn b (l.take (i+1)) (l.drop (i+1)));rw[Gh,Hk] at this;omega
  have e8:=Hy List.length e1;rw[Hk] at e8;by_cases h2:l[i].op=2
  ·have h4:¬ l[i].op=4:=by omega
   by_cases hk:l[i].n=k
   ·rw[Hb ⟨h2,hk⟩] at e2;rw[e2] at e1 e8;have e:=Hy (List.map (ZaN false)) e1;rw[Ho] at e;refine VA ?_;refine Zab [] (hA:=hih) (hr:=?_);refine VA ?_;exact Zad (i+1)
   ·rw[Ha (fun h=>hk h.2),Ha (fun h=>hk h.2)] at e2;rw[e2] at e1 e8;by_cases hov:k < l[i].n
    ·have e:(ptL k inn b (l.take i)).map (ZaN false)++[D.agg [iD l[i].op,.raw (.int .i64 (l[i].n+b)),Zah false (ptL k inn b l[i].l)]]=(ptL k inn b (l.take (i+1))).map (ZaN false):=by
      rw[e1,Ho,show mvN l[i].op l[i].n k b=l[i].n+b from Hb ⟨.inl h2,hov⟩];simp only[Hm,HF,Zcr];rfl
     refine VA ?_;refine Zab [] (hA:=hih) (hr:=?_);refine VA ?_;rw[e,Hi];exact Zad (i+1)
    ·have e:(ptL k inn b (l.take i)).map (ZaN false)++[D.agg [iD l[i].op,iD l[i].n,Zah false (ptL k inn b l[i].l)]]=(ptL k inn b (l.take (i+1))).map (ZaN false):=by
      rw[e1,Ho,show mvN l[i].op l[i].n k b=l[i].n from Ha (fun h=>hov h.2)];simp only[Hm,HF,Zcr];rfl
     refine VA ?_;refine Zab [] (hA:=hih) (hr:=?_);refine VA ?_;rw[e,Hi];exact Zad (i+1)
  ·by_cases h4:l[i].op=4
   ·by_cases hk:l[i].n=k
    ·rw[Ha (fun h=>h2 h.1),Hb ⟨h4,hk⟩] at e2;rw[e2] at e1 e8;have e:=Hy (List.map (ZaN false)) e1;rw[Ho] at e;have hg:=ZAH _ (t:=false) (u:=false) (l:=inn) (w:=ptL k inn b l[i].l) (Gk _) (p2 ⟨h4,hk⟩);refine VA ?_;refine Zab [] (hA:=hih) (hr:=?_);refine VA ?_;refine VB ?_;refine VA ?_;refine Zab [] (hA:=hg) (hr:=?_);refine VA ?_;exact Zad (i+1)
    ·rw[Ha (fun h=>h2 h.1),Ha (fun h=>hk h.2)] at e2;rw[e2] at e1 e8;by_cases hov:k < l[i].n
     ·have e:(ptL k inn b (l.take i)).map (ZaN false)++[D.agg [iD l[i].op,.raw (.int .i64 (l[i].n+b)),Zah false (ptL k inn b l[i].l)]]=(ptL k inn b (l.take (i+1))).map (ZaN false):=by
       rw[e1,Ho,show mvN l[i].op l[i].n k b=l[i].n+b from Hb ⟨.inr h4,hov⟩];simp only[Hm,HF,Zcr];rfl
      refine VA ?_;refine Zab [] (hA:=hih) (hr:=?_);refine VA ?_;refine VB ?_;refine VA ?_;rw[e,Hi];exact Zad (i+1)
     ·have e:(ptL k inn b (l.take i)).map (ZaN false)++[D.agg [iD l[i].op,iD l[i].n,Zah false (ptL k inn b l[i].l)]]=(ptL k inn b (l.take (i+1))).map (ZaN false):=by
       rw[e1,Ho,show mvN l[i].op l[i].n k b=l[i].n from Ha (fun h=>hov h.2)];simp only[Hm,HF,Zcr];rfl
      refine VA ?_;refine Zab [] (hA:=hih) (hr:=?_);refine VA ?_;refine VB ?_;refine VA ?_;rw[e,Hi];exact Zad (i+1)
   ·rw[Ha (fun h=>h2 h.1),Ha (fun h=>h4 h.1)] at e2;rw[e2] at e1 e8;have e:(ptL k inn b (l.take i)).map (ZaN false)++[D.agg [iD l[i].op,iD l[i].n,Zah false (ptL k inn b l[i].l)]]=(ptL k inn b (l.take (i+1))).map (ZaN false):=by
     rw[e1,Ho,show mvN l[i].op l[i].n k b=l[i].n from Ha (fun h=>by rcases h.1 with h|h;exact h2 h;exact h4 h)];simp only[Hm,HF,Zcr];rfl
    refine VA ?_;refine Zab [] (hA:=hih) (hr:=?_);refine VA ?_;refine VB ?_;refine VA ?_;refine VB ?_;refine VA ?_;rw[e,Hi];exact Zad (i+1)
 ·rw[show l.take i=l from H6 (by omega)];refine Zaz 900 rfl ?_;refine VA ?_;exact fin
theorem ZnW {t:Bool} {l:List Ad} (h1:Aj l≤100000000) (h2:NbL 1000000000 l):Af Tryz.prog 133 [.d (Zah t l)] [] (.d (Zah false l)) []:=by
 have hm:=ZpQ _ (t:=t) (l:=l) (o:=0) (b:=0) (Gk _) h1 h2 (by decide) (by decide);rw[ZbS] at hm;refine Af.intro (n:=5) Tryz.func133 (hw:=?_);simp only[Zal];refine VA ?_;refine Zab [] (hA:=hm) (hr:=?_);refine VA ?_;exact fin
theorem ZnX {t u:Bool} {l inn:List Ad} {k n:Int} (h1:Aj l≤100000000) (h2:Aj inn≤100000000) (h3:PtL k (movL (-1) k inn) (n - 1) l) (h4:NbL 1000000000 l) (h5:NbL 1000000000 inn) (h6:NbL 1000000000 (ZeL l k inn n)) (h7 : -1000000≤k) (h8:k≤1000000) (h9 : -1000000≤n) (h10:n≤1000000) :
  Af Tryz.prog 189 [.d (Zah t l),I k,.d (Zah u inn),I n] [] (.d (Zah false (ZeL l k inn n))) []:=by
 have m1:=ZpQ _ (t:=u) (l:=inn) (o := -1) (b:=k) (Gk _) h2 h5 (by omega) (by omega);have m2:=ZCI _ (l:=l) (inn:=movL (-1) k inn) (k:=k) (b:=n - 1) (Gk _) h1 h3 h4 (by omega) (by omega) (by rw[ZkE];exact h2) t;have m3:=ZnW (t:=false) (l:=ZeL l k inn n) (Zs8 h3) h6;unfold ZeL at m3 ⊢;refine Af.intro (n:=18) Tryz.func189 (hw:=?_);simp only[Zal];refine VA ?_;refine Zab [] (hA:=m1) (hr:=?_);refine VA ?_;refine Zab [] (hA:=m2) (hr:=?_);refine VA ?_;refine Zab [] (hA:=m3) (hr:=?_);refine VA ?_;exact fin
def Zbq (t:Bool) (w:Ae):D:=.agg [ints t w.right,Zah t w.l]
abbrev Zat (t:Bool) (l:List Ae):D:=.sl t 2 (l.map (Zbq t))
abbrev ZCJ (t:Bool) (w:Ae):Ob:=.box 181 [.d (ints t w.right),.d (Zah t w.l)]
theorem ZpR {t:Bool} {xs:List Int} (hl:xs.length≤100000000:=by exact Vm) :
  Af Tryz.prog 127 [.d (ints t xs)] [] (I (Ab xs).length) []:=by
 refine Af.intro (n:=7) Tryz.func127 (hw:=?_);simp only[Zal];refine VA ?_;refine Zab [] (hA:=ZcH) (hr:=?_);refine VA ?_;exact fin
theorem Zu5 {a b:List Int} (ha:0 < a.length):Zbb a b=true↔∃ h:0 < b.length,a[0]=b[0]:=by
 cases a with
 | nil=>simp at ha
 | cons x a=>cases b <;> simp[Zbb]
theorem ZkP:∀ (l:List Ae) (k:Nat),Zb7 [] l k=[]
 | [],_=>rfl
 | y::l,k=>by rw[Zb7,Ha (by simp[Zbb]),ZkP l (k+1)]
theorem ZpS {t:Bool} {l:List Ae} (hl:l.length≤100000) (hr:∀ w∈l,w.right.length≤100000) :
  Af Tryz.prog 193 [.d (Zat t l)] [] (.d (ints false (Zas l 0))) []:=by
 refine Af.intro (n:=58) Tryz.func193 (hw:=?_);simp only[Zal];refine VA ?_;refine Zak (X:=Nat) (fun i=>i≤l.length∧Zas l 0=Zas (l.drop i) i) (fun i=>[(9,I i),(8,I l.length),(7,.d (Zat t l)),(0,.d (Zat t l))]) (fun _=>[]) (fun i=>l.length - i) 0 ⟨Hh _,rfl⟩ ?_;rintro i ⟨hi,hp⟩;by_cases hlt:i < l.length
 ·have hs:=Zrt hlt;have hri:=hr _ (He hlt);by_cases h0:l[i].right.length=0
  ·have e:l[i].right=[]:=HX h0;rw[e,ZkP,Hb rfl] at hs;refine VA ?_;exact Zad (i+1) (a:=⟨by omega,hp.trans hs⟩)
  ·refine VA ?_;obtain⟨gl,hgl⟩:∃ gl:Nat→List Int,∀ k,gl k=(i:Int)::Zb7 l[i].right ((l.drop (i+1)).take (k - (i+1))) (i+1):=⟨_,fun _=>rfl⟩
   have e:gl (i+1)=[(i:Int)]:=by rw[hgl];simp[Zb7]
   refine Zak (X:=Nat) (fun k=>i+1≤k∧k≤l.length) (fun k=>[(6,I k),(5,.own 19 (gl k).length),(4,.ptr 4 0),(3,I i),(9,I i),(8,I l.length),(7,.d (Zat t l)),(0,.d (Zat t l))])
    (fun k=>[(19,.row 3 1 ((gl k).map iD)),(4,ZCJ t l[i])]) (fun k=>l.length - k) (i+1) (by omega) ?_
   clear e;rintro k ⟨hk1,hk2⟩;have hml:(gl k).length≤l.length:=by
    rw[hgl,Hl];have:=ZnJ l[i].right ((l.drop (i+1)).take (k - (i+1))) (i+1);simp only[Hs,HG] at this;omega
   by_cases hlk:k < l.length
   ·have hsn:gl (k+1)=gl k++(if Zbb l[i].right l[k].right=true then [(k:Int)] else []):=(by rw[hgl,hgl,ZuS hlk hk1];rfl);have hrk:=hr _ (He hlk);have hal:=Zu5 (a:=l[i].right) (b:=l[k].right) (by omega);by_cases h1:0 < l[k].right.length
    ·by_cases h2:l[k].right[0]=l[i].right[0]
     ·rw[Hb (hal.2 ⟨h1,h2.symm⟩)] at hsn;have h2b:decide (l[k].right[0]=l[i].right[0])=true:=Hu h2;have e:=hsn;refine VA ?_;exact Zad (k+1)
     ·rw[Ha (fun h=>h2 (hal.1 h).2.symm),Ht] at hsn;have h2b:decide (l[k].right[0]=l[i].right[0])=false:=HC h2;have e:=hsn;refine VA ?_;exact Zad (k+1)
    ·rw[Ha (fun h=>h1 (hal.1 h).1),Ht] at hsn;have e:=hsn;refine VA ?_;exact Zad (k+1)
   ·obtain rfl:k=l.length:=(by omega);have he:gl l.length=(i:Int)::Zb7 l[i].right (l.drop (i+1)) (i+1):=(by rw[hgl,H6 (by simp)]);by_cases hm:Zb7 l[i].right (l.drop (i+1)) (i+1)=[]
    ·rw[Hb hm] at hs;have hlen:(gl l.length).length=1:=(by rw[he,hm];rfl);refine VA ?_;exact Zad (i+1) (a:=⟨by omega,hp.trans hs⟩)
    ·rw[Ha hm,←he] at hs;have hlen:1 < (gl l.length).length:=by
      rw[he,Hl];cases hc:Zb7 l[i].right (l.drop (i+1)) (i+1) with
      | nil=>exact absurd hc hm
      | cons _ _=>simp
     rw[hp,hs];refine Zaz 19 rfl ?_;refine VA ?_;exact fin
 ·rw[hp,ZuT hlt];refine VA ?_;exact fin
abbrev ZAI (t:Bool) (w:Ae):Ob:=.box 188 [.d (ints t w.right),.d (Zah t w.l)]
theorem ZkQ {t:Bool} {xs:List Int} (hl:xs.length≤100000000:=by exact Vm) :
  Af Tryz.prog 129 [.d (ints t xs)] [] (I (Ab xs).length) []:=by
 refine Af.intro (n:=7) Tryz.func129 (hw:=?_);simp only[Zal];refine VA ?_;refine Zab [] (hA:=ZcH) (hr:=?_);refine VA ?_;exact fin
theorem Zu6:∀ (N:Nat) {t:Bool} {l:List Ad},Aj l < N→Aj l≤100000000→Af Tryz.prog 200 [.d (Zah t l)] [] (I (Aj l)) []:=by
 intro N
 induction N with
 | zero=>intro t l h;omega
 | succ N ih =>
 intro t l hN hle;have hl:=Hq (ZbW l) hle;refine Af.intro (n:=21) Tryz.func200 (hw:=?_);simp only[Zal];refine VA ?_;refine Zak (X:=Nat×Nat) (fun x=>x.1≤l.length∧x.2+x.1=l.length+Aj (l.take x.1)) (fun x=>[(10,I x.1),(9,I l.length),(8,.d (Zah t l)),(3,I x.2)]) (fun _=>[]) (fun x=>l.length - x.1) (0,l.length) ⟨Hh _,by simp[Aj]⟩ ?_;rintro⟨i,v⟩ ⟨h1,h2⟩;dsimp only at h1 h2 ⊢;by_cases hlt:i < l.length
 ·have e1:=Zhx hlt;have e3:=Zfj (He hlt);have e2:=Zhw l[i];have e4:Aj l=Aj (l.take (i+1))+Aj (l.drop (i+1)):=ZeU _ _;have e5:(l.take i).length≤Aj (l.take i):=ZbW _;refine VA ?_;refine Zab [] (hA:=ih (t:=t) (l:=l[i].l) (by omega) (by omega)) (hr:=?_);refine VA ?_;exact Zad (i+1,v+Aj l[i].l) (a:=⟨by omega,by dsimp only;omega⟩) (b:=by dsimp only;omega)
 ·rw[H6 (by omega)] at h2;obtain rfl:v=Aj l:=by omega
  refine VA ?_;exact fin
theorem ZxF {t u:Bool} {g:Ac} (hg:g.ok) {B B' C N:Nat} {o:Bool} {x y:Ae} {v:Int} (hx:TOk g B C N true x) (hy:TOk g B' C N o y) (hB:B≤4000) (hB':B'≤100) (hC:C≤20) (hu:hdI x.right=v) (h0:0≤v) (hm:TOk g (B+B') 40 N o (mixW x y)) :
  Af Tryz.prog 189 [.d (Zah t x.l),I 0,.d (Zah u y.l),I ((Ab y.right).length:Nat)] [] (.d (Zah false (mixW x y).l)) []:=by
 have hz:=hx.nz rfl (by omega);have s1:=hx.sz;have s2:=hy.sz;have r2:=hy.rl;have hk:=Zbj y.right;have hmul:Aj x.l * Aj y.l≤4000 * 100:=Nat.mul_le_mul (by omega) (by omega);have h3:PtL 0 (movL (-1) 0 y.l) (((Ab y.right).length:Int) - 1) x.l:=by rw[ZbS];exact ZpD x.l hx.wf hz (by omega)
 exact ZnX (t:=t) (u:=u) (l:=x.l) (inn:=y.l) (k:=0) (n:=((Ab y.right).length:Nat)) (by omega) (by omega) h3 (hx.nb hg (by omega)) (hy.nb hg (by omega)) (hm.nb hg (by omega)) (by decide) (by decide) (by omega) (by omega)
theorem ZCK (t:Bool):Zah t [gapF]=.sl t 3 [.agg [iD 3,iD 0,.sl t 3 []]]:=by simp[gapF,Zah,ZaN,ZeD]
theorem Zu7 {t:Bool} {g:Ac} (hg:g.ok) {B C N:Nat} {x:Ae} (hx:TOk g B C N true x) (hB:B≤4000) (hC:C≤20) (h0:0≤hdI x.right) :
  Af Tryz.prog 198 [.d (Zah t x.l)] [] (.d (Zah false (ZbC x).l)) []:=by
 have hgo:=Zgh hx h0;have hz:=hx.nz rfl h0;have s1:=hx.sz;have h3:PtL 0 (movL (-1) 0 [gapF]) ((0:Int) - 1) x.l:=by rw[ZbS];exact ZpD x.l hx.wf hz (by have:Aj [gapF]=1:=rfl;rw[this];omega)
 have hp:=ZnX (t:=t) (u:=false) (l:=x.l) (inn:=[gapF]) (k:=0) (n:=0) (by omega) (by decide) h3 (hx.nb hg (by omega)) ⟨⟨by decide,trivial⟩,trivial⟩ (hgo.nb hg (by omega)) (by decide) (by decide) (by decide) (by decide);rw[ZCK] at hp;have hp2:Af Tryz.prog 189 [.d (Zah t x.l),I 0,.d (.sl false 3 [.agg [iD 3,iD 0,nilT]]),I 0] [] (.d (Zah false (ZbC x).l)) []:=hp.le (args:=[.d (Zah t x.l),I 0,.d (.sl false 3 [.agg [iD 3,iD 0,nilT]]),I 0]) ⟨.refl _,.refl _,.sl (.cons (.agg (.cons (.refl _) (.cons (.refl _) (.cons (.nil _ _) .nil)))) .nil),.refl _,trivial⟩;refine Af.intro (n:=7) Tryz.func198 (hw:=?_);simp only[Zal];refine VA ?_;refine Zab [] (hA:=hp2) (hr:=?_);refine VA ?_;exact fin
theorem Zth {x:Ae} {v:Nat} (h1:x.right.length≤1000) (hv:v≤1000) :
  Af Tryz.prog 199 [.d (Zbq false x),I v] [] (.own 22 2) [(22,.row 188 2 ((ZbU (v:Int) x).map (Zbq false)))]:=by
 have hk:=Zbj x.right;have e1:x.right.map iD++[D.raw (.int .i64 (v:Int))]=(x.right++[(v:Int)]).map iD:=by simp[iD]
 refine Af.intro (n:=23) Tryz.func199 (hw:=?_);simp only[Zal];refine VA ?_;refine Zab [(5,905)] (hA:=ZcA) (hr:=?_);refine VA ?_;rw[e1];refine Zab [] (hA:=ZkQ) (hr:=?_);refine VA ?_;have e2:(ZbU (v:Int) x).map (Zbq false)=[D.agg [ints false x.right,Zah false x.l],D.agg [D.sl false 1 ((x.right++[(v:Int)]).map iD),D.sl false 3 [D.agg [D.raw (.int .i64 4),D.raw (.int .i64 ((Ab x.right).length:Int)),Zah false x.l]]]]:=by simp[ZbU,Zbq,ints,Zah,ZaN,iD,Zcq]
 rw[e2];exact finx
end Go.Proofs.YtbpmepgnjanhnaaGreat
