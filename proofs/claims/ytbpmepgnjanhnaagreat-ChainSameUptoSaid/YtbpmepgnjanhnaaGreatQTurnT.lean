import Derived.Test.YtbpmepgnjanhnaaGreatFcS
set_option linter.unusedVariables false
set_option linter.unusedSimpArgs false
set_option linter.unusedSectionVars false
namespace Go.Proofs.YtbpmepgnjanhnaaGreat
open Go.RowKit
theorem Zlg {Q:Ae→Prop} {x:Ae}:∀ {ys out out':List Ae},(∀ y∈ys,Q (mixW x y))→(∀ w∈out,Q w)→ZbE x ys out=some out'→∀ w∈out',Q w
 | [],out,out',_,ho,h=>by rw[ZbE] at h;cases h;exact ho
 | y::ys,out,out',hy,ho,h=>by
  rw[ZbE] at h;split at h
  ·cases h
  ·exact Zlg (fun z hz=>hy z (by simp[hz])) (fun w hw=>by
    rcases List.mem_append.1 hw with hw|hw
    ·exact ho w hw
    ·rw[List.mem_singleton.1 hw];exact hy y (by simp)) h
theorem ZiV {P Q:Ae→Prop} {A:List Ae} {u:Int} (h1:∀ x,P x→hdI x.right≠u→Q x) (h2:∀ x,P x→hdI x.right=u→∀ y∈A,Q (mixW x y)):∀ {l out l':List Ae},(∀ w∈l,P w)→(∀ w∈out,Q w)→ZbJ A u l out=some l'→∀ w∈l',Q w
 | [],out,l',_,ho,h=>by
  rw[ZbJ] at h;split at h
  ·cases h
  ·cases h;exact ho
 | x::l,out,l',hl,ho,h=>by
  have hx:=hl x (by simp);rw[ZbJ] at h;split at h
  ·rename_i hu;exact ZiV h1 h2 (fun w hw=>hl w (by simp[hw])) (fun w hw=>by
    rcases List.mem_append.1 hw with hw|hw
    ·exact ho w hw
    ·rw[List.mem_singleton.1 hw];exact h1 x hx hu) h
  ·rename_i hu;have hu:hdI x.right=u:=HN fun q=>hu q
   cases hc:ZbE x A out with
   | none=>rw[hc] at h;cases h
   | some out1 =>
    rw[hc] at h;exact ZiV h1 h2 (fun w hw=>hl w (by simp[hw])) (Zlg (h2 x hx hu) ho hc) h
structure HOk (g:Ac) (v u:Nat) (w:Ae):Prop where
 ne:w.right≠[]
 old:hdI w.right < g.vars
 from_:hdI w.right < 0∨(u:Int)≤hdI w.right
 unit:∀ s,w.right=[s]→0≤s→rnk g s < rnk g (v:Int)
structure Hd (g:Ac) (all:List (List Ae)) (k:Nat):Prop where
 old:∀ v,v < g.vars.toNat→∀ w∈all.getD v [],HOk g v (if v < k then v+1 else 0) w
 new:∀ u,g.vars.toNat≤u→∀ w∈all.getD u [],w.right≠[]∧hdI w.right < (u:Int)
theorem Zf9 {a b:List Int} (h:a≠[]):hdI (a++b)=hdI a:=by
 cases a with
 | nil=>exact absurd rfl h
 | cons x a=>rfl
theorem ZC6 {g:Ac} {v u:Nat} {x y:Ae} (hx:HOk g v u x) (hu:hdI x.right=(u:Int)) (hy:HOk g u (u+1) y):HOk g v (u+1) (mixW x y):=by
 have e:(mixW x y).right=y.right++x.right.tail:=rfl;refine⟨?_,?_,?_,fun s hs h0=>?_⟩
 ·rw[e];intro q;exact hy.ne (List.append_eq_nil_iff.1 q).1
 ·rw[e,Zf9 hy.ne];exact hy.old
 ·rw[e,Zf9 hy.ne];exact hy.from_
 ·rw[e] at hs;have hl:=Hy List.length hs;rw[Hk,HS] at hl;have h1:0 < y.right.length:=List.length_pos_iff.2 hy.ne;have ht:x.right.tail=[]:=List.length_eq_zero_iff.1 (by omega);rw[ht,Ht] at hs;have hc:=ZfN hx.ne hu;rw[ht] at hc;have q1:=hx.unit _ hc (by omega);have q2:=hy.unit s hs h0;omega
theorem ZmU {g:Ac} {all:List (List Ae)} {k v:Nat} (hH:Hd g all k) (hk:k≤g.vars.toNat):∀ (n u:Nat) {l l':List Ae},u+n≤k→(∀ w∈l,HOk g v u w)→Zca all u n l=some l'→∀ w∈l',HOk g v (u+n) w
 | 0,u,l,l',_,hl,h=>by rw[Zca] at h;cases h;exact hl
 | n+1,u,l,l',hn,hl,h=>by
  rw[Zca] at h;cases hc:ZbJ (all.getD u []) u l [] with
  | none=>rw[hc] at h;cases h
  | some l1 =>
   rw[hc] at h;have h1:=ZiV (P:=HOk g v u) (Q:=HOk g v (u+1)) (fun x hx hne=>⟨hx.ne,hx.old,by have:=hx.from_;omega,hx.unit⟩) (fun x hx hu y hy=>by
    have:=hH.old u (by omega) y hy;rw[Hb (by omega)] at this;exact ZC6 hx hu this) hl (fun w hw=>by cases hw) hc
   have:=ZmU hH hk n (u+1) (by omega) h1 h;rw[show u+1+n=u+(n+1) by omega] at this;exact this
theorem Zyz {g:Ac} {all:List (List Ae)} {v B:Nat} (hI:TInv g all) (hH:Hd g all v) (hv:v < g.vars.toNat) {l:List Ae} (hl:∀ w∈l,HOk g v v w) (ht:∀ w∈l,TOk g B 10 all.length true w):Hd g (Zbf all l v) (v+1):=by
 have hva:v < all.length:=Gm hv hI.vars;have hup:∀ x∈Zcv v l,HOk g v (v+1) x:=fun x hx=>by
  obtain⟨h1,h2⟩:=List.mem_filter.1 hx;have h:=hl x h1;have h3:¬ hdI x.right=v:=by simpa using h2
  exact⟨h.ne,h.old,by have:=h.from_;omega,h.unit⟩
 have hsame:∀ u,u < g.vars.toNat→u≠v→∀ w∈all.getD u [],HOk g u (if u < v+1 then u+1 else 0) w:=fun u hu hne w hw=>by
  have:=hH.old u hu w hw;by_cases q:u < v
  ·rw[Hb q] at this;rw[Hb (by omega)];exact this
  ·rw[Ha q] at this;rw[Ha (by omega)];exact this
 unfold Zbf;split
 ·rename_i h0;have hno:∀ w∈l,w∈Zcv v l:=fun w hw=>List.mem_filter.2 ⟨hw,by
   simp only[Bool.not_eq_true',G4];intro q;have:w∈l.filter fun x=>decide (hdI x.right=v):=List.mem_filter.2 ⟨hw,Hu q⟩
   have h1:(l.filter fun x=>decide (hdI x.right=v)).length=0:=by rw[←h0,ownW,Hi]
   rw[List.length_eq_zero_iff.1 h1] at this;cases this⟩
  refine⟨fun u hu w hw=>?_,fun u hu w hw=>?_⟩
  ·by_cases huv:u=v
   ·subst huv;rw[Hf,G8 hva,HW] at hw;rw[Hb (by omega)];exact hup w (hno w hw)
   ·rw[Hf,GO (fun e=>huv e.symm),←Hf] at hw;exact hsame u hu huv w hw
  ·rw[Hf,GO (by omega),←Hf] at hw;exact hH.new u hu w hw
 ·refine⟨fun u hu w hw=>?_,fun u hu w hw=>?_⟩
  ·by_cases huv:u=v
   ·subst huv;rw[Hf,G8 (by simp;omega),HW] at hw;rw[Hb (by omega)];obtain⟨x,hx,hw⟩:=List.mem_flatMap.1 hw;have h:=hup x hx;simp only[ZbU,Gq,GB,or_false] at hw;rcases hw with rfl|rfl
    ·exact h
    ·refine⟨by simp,?_,?_,fun s hs _=>?_⟩
     ·show hdI (x.right++_) < _;rw[Zf9 h.ne];exact h.old
     ·show hdI (x.right++_) < 0∨_≤hdI (x.right++_);rw[Zf9 h.ne];exact h.from_
     ·have hl:=Hy List.length (show x.right++[(all.length:Int)]=[s] from hs);rw[Hk,HS,HS] at hl;exact absurd (List.length_eq_zero_iff.1 (by omega)) h.ne
   ·rw[Hf,GO (fun e=>huv e.symm),←Hf] at hw;rw[Hf,GH (by have:=hI.vars;omega),←Hf] at hw;exact hsame u hu huv w hw
  ·rw[Hf,GO (by omega),←Hf] at hw;by_cases hua:u < all.length
   ·rw[Hf,GH hua,←Hf] at hw;exact hH.new u hu w hw
   ·by_cases hue:u=all.length
    ·subst hue;rw[Hf,Gp (Hg _),Ga] at hw;have hw:w∈(ownW v l).flatMap (ZbU all.length):=hw;obtain⟨x,hx,hw⟩:=List.mem_flatMap.1 hw;obtain⟨y,hy,rfl⟩:=List.mem_map.1 hx;obtain⟨hy1,hy2⟩:=List.mem_filter.1 hy;have hy2:=H0 hy2;have h:=hl y hy1;have hc:=ZfN h.ne hy2;have hne:y.right.tail≠[]:=fun q=>by
      rw[q] at hc;have:=h.unit _ hc (by omega);omega
     have hlt:hdI y.right.tail < (all.length:Int):=by
      have hm:hdI y.right.tail∈y.right.tail:=by
       cases hq:y.right.tail with
       | nil=>exact absurd hq hne
       | cons a r=>simp[hdI]
      exact ((ht y hy1).sym _ (JT hm)).2
     simp only[ZbU,Gq,GB,or_false] at hw;rcases hw with rfl|rfl
     ·exact⟨hne,hlt⟩
     ·refine⟨by simp,?_⟩;show hdI (y.right.tail++_) < _;rw[Zf9 hne];exact hlt
    ·rw[Hf,HI (by simp;omega)] at hw;cases hw
theorem ZmV {g:Ac} (hg:g.ok):∀ (n v:Nat) {all z:List (List Ae)},v+n=g.vars.toNat→TInv g all→Hd g all v→ZbF v n all=.ok z→Hd g z g.vars.toNat
 | 0,v,all,z,hv,hI,hH,h=>by rw[ZbF] at h;cases h;rw[←hv];exact hH
 | n+1,v,all,z,hv,hI,hH,h=>by
  rw[ZbF] at h;cases hc:Zca all 0 v (all.getD v []) with
  | none=>rw[hc] at h;cases h
  | some l =>
   rw[hc] at h;dsimp only at h;split at h
   ·rename_i hf;have h1:=Zj7 hg hI (by omega) hc hf;have h0:∀ w∈all.getD v [],TOk g 60 10 all.length true w:=fun w hw=>by
     have:=hI.ok v w hw;rw[Hu (by omega)] at this;exact this
    have h160:(all.getD v []).length≤160:=by
     by_cases q:v < all.length
     ·refine hI.wide _ ?_;rw[Hf,Hj q];exact He q
     ·rw[Hf,HI (by omega)];simp
    obtain⟨k1,k2⟩:=ZlN hI v 0 (by omega) h0 h160 hc;have k3:=ZmU (v:=v) hH (by omega) v 0 (by omega) (fun w hw=>by
     have:=hH.old v (by omega) w hw;rw[Ha (by omega)] at this;exact this) hc
    rw[HE] at k3;exact ZmV hg n (v+1) (by omega) h1 (Zyz hI hH (by omega) k3 k1) h
   ·cases h
theorem Zvy {g:Ac} {r:Rule} {s:Int} (hr:r∈g.Aa) (h:r.right=[s]) (h0:0≤s):s∈ZiL g r.left :=
 stepA_iff.2 ⟨r,hr,rfl,[],[],h,h0,rfl,rfl⟩
theorem ZBm {g:Ac} (hg:g.ok) (he:∀ r∈g.Aa,r.right≠[]) (hc:cycL g=[]):Hd g (Za5 g) 0:=by
 refine⟨fun v hv w hw=>?_,fun u hu w hw=>?_⟩
 ·rw[Zb4 hv] at hw;obtain⟨i,hi,rfl⟩:=List.mem_map.1 hw;obtain⟨j,hj,rfl,hl,e⟩:=ZkA hi;rw[e];have hm:=He hj;have hne:=he _ hm;refine⟨hne,?_,?_,fun s hs h0=>?_⟩
  ·show hdI g.Aa[j].right < _;cases hq:g.Aa[j].right with
   | nil=>exact absurd hq hne
   | cons a r =>
    have:=hg.hi _ hm a (by rw[hq];simp);exact this
  ·rw[Ha (by omega)];show hdI g.Aa[j].right < 0∨((0:Nat):Int)≤hdI g.Aa[j].right;omega
  ·have h1:=Zvy hm hs h0;have h2:=ZdO hg hc (hg.left0 _ hm) (hg.left _ hm) h1;rw[hl] at h2;exact h2
 ·rw[Zd1 (by omega)] at hw;cases hw
theorem ZC7 {h:Ac} (hh:h.ok) (he:∀ r∈h.Aa,r.right≠[]) (s:Int):has (Za1 false h) s=false:=by
 cases hc:has (Za1 false h) s with
 | false=>rfl
 | true =>
  exact (ZhB hh (fun _=>False) (fun q hq hin=>by
   cases hr:q.right with
   | nil=>exact he q hq hr
   | cons a r=>exact (hin a (by rw[hr];simp)).2) s hc).elim
abbrev gapN:Tree:=.mk (-1) []
def fil (b a:Tree):Tree:=if a.rule = -1 then b else .mk a.rule (ZaY [b] a.Ab)
theorem ZyA (b a:Tree):Zfs [b] a=[fil b a]:=by
 rw[ZjH];unfold fil;split <;> rfl
theorem ZC8 (b a:Tree):ZaY [b] [a]=[fil b a]:=by
 rw[ZaY,ZaY,Ht,ZyA]
theorem ZyB (b:Tree):fil b gapN=b:=Hb rfl
theorem Zqo (ks:List (List Tree)) (n:Int) (l:List Ad):muF ks (.mk 1 n l)=[.mk n (muL ks l)]:=by rw[muF,Hb rfl]
theorem Zot (ks:List (List Tree)) (n:Int) (l:List Ad):muF ks (.mk 2 n l)=ks.getD n.toNat []:=by rw[muF,Ha (by decide),Hb rfl]
theorem Zqp (ks:List (List Tree)) (n:Int) (l:List Ad):muF ks (.mk 3 n l)=[gapN]:=by rw[muF,Ha (by decide),Ha (by decide),Hb rfl]
theorem Zou (ks:List (List Tree)) (n:Int) (l:List Ad):muF ks (.mk 4 n l)=ZaY (muL ks l) (ks.getD n.toNat []):=by rw[muF,Ha (by decide),Ha (by decide),Ha (by decide),Hb rfl]
theorem ZyC (n:Int) (l:List Ad):kdF (.mk 1 n l)=kdL l:=by rw[kdF,Hb rfl]
theorem Zvz (n:Int) (l:List Ad):kdF (.mk 4 n l)=n::kdL l:=by rw[kdF,Ha (by decide),Ha (by decide),Hb rfl]
mutual
theorem ZC9 {m:Int} {ks ks':List (List Tree)}:∀ x:Ad,wfF m x→(∀ n∈kdF x,ks.getD n.toNat []=ks'.getD n.toNat [])→muF ks x=muF ks' x
 | .mk o n l,h,hk=>by
  rw[wfF] at h;rcases h with ⟨rfl,_,_,hl⟩|⟨rfl,rfl⟩|⟨rfl,_,rfl⟩|⟨rfl,hl⟩
  ·rw[ZyC] at hk;rw[Zqo,Zqo,Zov l hl hk]
  ·rw[ZkG] at hk;rw[Zot,Zot,hk n (by simp)]
  ·rw[Zqp,Zqp]
  ·rw[Zvz] at hk;rw[Zou,Zou,Zov l hl (fun q hq=>hk q (by simp[hq])),hk n (by simp)]
theorem Zov {m:Int} {ks ks':List (List Tree)}:∀ l:List Ad,wfL m l→(∀ n∈kdL l,ks.getD n.toNat []=ks'.getD n.toNat [])→muL ks l=muL ks' l
 | [],_,_=>rfl
 | x::r,h,hk=>by
  rw[kdL] at hk;rw[muL,muL,ZC9 x h.1 (fun n hn=>hk n (by simp[hn])),Zov r h.2 (fun n hn=>hk n (by simp[hn]))]
end
mutual
theorem ZDa {m b:Int} {ks ls:List (List Tree)} {inn:List Ad} (h0:muL ks inn=ls.getD 0 []) (hs:∀ n:Int,0 < n→ks.getD (n+b).toNat []=ls.getD n.toNat []):∀ x:Ad,wfF m x→nzF x→(∀ n∈kdF x,0≤n)→muL ks (ptF 0 inn b x)=muF ls x
 | .mk o n l,h,hz,hk=>by
  rw[wfF] at h;rw[nzF] at hz;rw[ptF];rcases h with ⟨rfl,_,_,hl⟩|⟨rfl,rfl⟩|⟨rfl,h1,rfl⟩|⟨rfl,hl⟩
  ·rw[ZyC] at hk;rw[Ha (fun q=>absurd q.1 (by decide)),Ha (fun q=>absurd q.1 (by decide)),muL,muL,Ht,Zqo,Zqo,Zlh h0 hs l hl hz.2 hk];have:mvN 1 n 0 b=n:=by
    unfold mvN;rw[Ha (fun q=>by rcases q.1 with q|q <;> exact absurd q (by decide))]
   rw[this]
  ·rw[ZkG] at hk;have h2:=hk n (by simp);by_cases e:n=0
   ·subst e;rw[Hb ⟨rfl,rfl⟩,Zot,h0];rfl
   ·rw[Ha (fun q=>e q.2),Ha (fun q=>absurd q.1 (by decide)),muL,muL,Ht,Zot,Zot,ZkF (.inl rfl),Hb (by omega)];exact hs n (by omega)
  ·rw[Ha (fun q=>absurd q.1 (by decide)),Ha (fun q=>absurd q.1 (by decide)),muL,muL,Ht,Zqp,Zqp]
  ·rw[Zvz] at hk;have h2:=hk n (by simp);have h3:¬ n=0:=fun q=>hz.1 ⟨rfl,q⟩
   rw[Ha (fun q=>absurd q.1 (by decide)),Ha (fun q=>h3 q.2),muL,muL,Ht,Zou,Zou,ZkF (.inr rfl),Hb (by omega),hs n (by omega),Zlh h0 hs l hl hz.2 (fun q hq=>hk q (by simp[hq]))]
theorem Zlh {m b:Int} {ks ls:List (List Tree)} {inn:List Ad} (h0:muL ks inn=ls.getD 0 []) (hs:∀ n:Int,0 < n→ks.getD (n+b).toNat []=ls.getD n.toNat []):∀ l:List Ad,wfL m l→nzL l→(∀ n∈kdL l,0≤n)→muL ks (ptL 0 inn b l)=muL ls l
 | [],_,_,_=>rfl
 | x::r,h,hz,hk=>by
  rw[kdL] at hk;rw[ptL,Zd0,muL,ZDa h0 hs x h.1 hz.1 (fun n hn=>hk n (by simp[hn])),Zlh h0 hs r h.2 hz.2 (fun n hn=>hk n (by simp[hn]))]
end
def catR:List Int→List (List Int)→List Int
 | [],_=>[]
 | s::r,ws=>if s < 0 then (-1 - s)::catR r ws else match ws with
  | w::ws=>w++catR r ws
  | []=>catR r []
theorem ZhX (ws:List (List Int)):catR [] ws=[]:=by rw[catR.eq_def]
theorem ZjS {s:Int} (h:s < 0) (r:List Int) (ws:List (List Int)):catR (s::r) ws=(-1 - s)::catR r ws:=by rw[catR.eq_def];simp[h]
theorem ZeE {s:Int} (h:¬ s < 0) (r:List Int) (w:List Int) (ws:List (List Int)):catR (s::r) (w::ws)=w++catR r ws:=by rw[catR.eq_def];simp[h]
theorem ZtP {s:Int} (h:¬ s < 0) (r:List Int):catR (s::r) []=catR r []:=by rw[catR.eq_def];simp[h]
mutual
def gwT (g:Ac):Tree→List Int
 | .mk r ks=>if r < 0 then [] else catR ((g.Aa[r.toNat]?).getD ⟨0,[]⟩).right (gwL g ks)
def gwL (g:Ac):List Tree→List (List Int)
 | []=>[]
 | x::l=>gwT g x::gwL g l
end
mutual
def c0T:Tree→Nat
 | .mk r ks=>(if r < 0 then 0 else 1)+c0L ks
def c0L:List Tree→Nat
 | []=>0
 | x::l=>c0T x+c0L l
end
abbrev gwK (g:Ac) (right:List Int) (xs:List Tree):List Int:=catR right (gwL g xs)
theorem ZyD (g:Ac):∀ l:List Tree,(gwL g l).length=l.length
 | []=>rfl
 | x::l=>by rw[gwL,Hl,Hl,ZyD g l]
theorem ZmW (g:Ac):∀ a b:List Tree,gwL g (a++b)=gwL g a++gwL g b
 | [],b=>rfl
 | x::a,b=>by rw[Hv,gwL,gwL,ZmW g a b];rfl
theorem Zg3:∀ {a b:List Int} {ws vs:List (List Int)},ws.length=(Ab a).length→catR (a++b) (ws++vs)=catR a ws++catR b vs
 | [],b,ws,vs,h=>by
  obtain rfl:ws=[]:=HX h;rw[ZhX];rfl
 | s::a,b,ws,vs,h=>by
  by_cases hs:s < 0
  ·rw[Zc2 hs] at h;rw[Hv,ZjS hs,ZjS hs,Zg3 h];rfl
  ·rw[ZbG hs] at h;cases ws with
   | nil=>simp at h
   | cons w ws =>
    rw[Hv,Hv,ZeE hs,ZeE hs,Zg3 (by simpa using h),HH]
theorem ZiW {g:Ac} {a b:List Int} {ys xs:List Tree} (h:ys.length=(Ab a).length):gwK g (a++b) (ys++xs)=gwK g a ys++gwK g b xs:=by
 unfold gwK;rw[ZmW,Zg3 (by rw[ZyD,h])]
abbrev gW (g:Ac) (_:Int) (l:List Tree):List Int:=l.flatMap (gwT g)
theorem Zow (g:Ac):∀ (ss:List Int) (xs:List Tree),catW (gW g) ss (sing xs)=gwK g ss xs
 | [],xs=>by rw[Zgl,gwK,ZhX]
 | s::ss,xs=>by
  by_cases hs:s < 0
  ·rw[Zfl hs,gwK,ZjS hs,Zow g ss xs]
  ·cases xs with
   | nil=>rw[gwK,gwL,ZtP hs];exact (Znx hs ss).trans (Zow g ss [])
   | cons x xs =>
    rw[gwK,gwL,ZeE hs,←gwK,←Zow g ss xs];show catW (gW g) (s::ss) ([x]::sing xs)=_;rw[Zez hs];simp
theorem ZjT {g:Ac}:∀ (ss:List Int) (xs:List Tree),(∀ y∈xs,gwT g y=Zbo g y)→gwK g ss xs=wordL g ss xs
 | [],xs,_=>by rw[gwK,ZhX,Zbe]
 | s::ss,xs,h=>by
  by_cases hs:s < 0
  ·rw[gwK,ZjS hs,Zbi hs,←gwK,ZjT ss xs h]
  ·cases xs with
   | nil=>rw[gwK,gwL,ZtP hs,ZdJ hs];exact ZjT ss [] h
   | cons x xs=>rw[gwK,gwL,ZeE hs,Za2 hs,h x (by simp),←gwK,ZjT ss xs fun y hy=>h y (by simp[hy])]
theorem ZB4 {g:Ac} {r:Nat} (hr:r < g.Aa.length) (ks:List Tree):gwT g (.mk (r:Int) ks)=gwK g g.Aa[r].right ks:=by
 rw[gwT,Ha (by omega),Hn,Hj hr];rfl
theorem ZDb {g:Ac}:∀ (x:Tree) (v:Int),fits g x v=true→gwT g x=Zbo g x:=by
 refine Tree.ind fun x ih v hf=>?_
 obtain⟨r,hr,e1,e2,e3,e4,e5⟩:=ZaR hf;have hx:x=.mk (r:Int) x.Ab:=by rw[←e1];exact Tree.eta x
 rw[e5]
 conv=>lhs;rw[hx]
 rw[ZB4 hr];refine ZjT _ _ fun y hy=>?_
 obtain⟨i,hi,rfl⟩:=List.mem_iff_getElem.1 hy;exact ih _ hy _ (Zbv e4 hi (by omega))
theorem ZDc {r:Nat} {ks:List Tree}:c0T (.mk (r:Int) ks)=1+c0L ks:=by
 rw[c0T,Ha (by omega)]
theorem ZB5:∀ {l:List Tree} {x:Tree},x∈l→c0T x≤c0L l
 | y::l,x,h=>by
  rw[c0L];rcases List.mem_cons.1 h with rfl|h
  ·omega
  ·have:=ZB5 h;omega
theorem ZB6 {x:Tree} (h:0≤x.rule):1≤c0T x:=by
 cases x with
 | mk r ks =>
  have h:0≤r:=h;rw[c0T,Ha (by omega)];omega
theorem ZB7:c0T gapN=0:=by decide
theorem ZyE {E:Int→Tree→Prop}:EL E [] []:=⟨rfl,fun i h1 _=>by simp at h1⟩
theorem EL_cons {E:Int→Tree→Prop} {x:Tree} {xs:List Tree} {u:Int} {us:List Int}:EL E (x::xs) (u::us)↔E u x∧EL E xs us:=by
 constructor
 ·rintro⟨h1,h2⟩;exact⟨h2 0 (by simp) (by simp),by simpa using h1,fun i q1 q2=>h2 (i+1) (by simpa using q1) (by simpa using q2)⟩
 ·rintro⟨h0,h1,h2⟩;refine⟨by simpa using h1,fun i q1 q2=>?_⟩;cases i with
  | zero=>exact h0
  | succ i=>exact h2 i (by simpa using q1) (by simpa using q2)
theorem ZtQ {E:Int→Tree→Prop}:∀ {ys xs:List Tree} {us vs:List Int},EL E ys us→EL E xs vs→EL E (ys++xs) (us++vs)
 | [],xs,us,vs,h1,h2=>by
  obtain rfl:us=[]:=HX h1.1.symm;exact h2
 | y::ys,xs,[],vs,h1,_=>by have:=h1.1;simp at this
 | y::ys,xs,u::us,vs,h1,h2=>by
  obtain⟨k1,k2⟩:=EL_cons.1 h1;exact EL_cons.2 ⟨k1,ZtQ k2 h2⟩
theorem Zgt {E:Int→Tree→Prop}:∀ {us vs:List Int} {zs:List Tree},EL E zs (us++vs)→∃ ys xs,zs=ys++xs∧EL E ys us∧EL E xs vs
 | [],vs,zs,h=>⟨[],zs,rfl,ZyE,h⟩
 | u::us,vs,[],h=>by have:=h.1;simp at this
 | u::us,vs,z::zs,h=>by
  obtain⟨k1,k2⟩:=EL_cons.1 h;obtain⟨ys,xs,rfl,h1,h2⟩:=Zgt k2;exact⟨z::ys,xs,rfl,EL_cons.2 ⟨k1,h1⟩,h2⟩
theorem Zeh {E E':Int→Tree→Prop} {us:List Int} {xs:List Tree} (h:∀ s∈us,∀ z,E s z→E' s z) (hx:EL E xs us):EL E' xs us :=
 ⟨hx.1,fun i h1 h2=>h _ (He h2) _ (hx.2 i h1 h2)⟩
def KE (E:Int→Tree→Prop):List Int→List Tree→Prop
 | [],xs=>xs=[]
 | s::r,xs=>if 0≤s then ∃ a ys,xs=a::ys∧EL E ys (Ab r) else EL E xs (Ab r)
theorem ZhY {E:Int→Tree→Prop} {s:Int} {r:List Int} {xs:List Tree} (h:0≤s):KE E (s::r) xs↔∃ a ys,xs=a::ys∧EL E ys (Ab r):=by rw[KE,Hb h]
theorem ZmX {E:Int→Tree→Prop} {s:Int} {r:List Int} {xs:List Tree} (h:¬ 0≤s):KE E (s::r) xs↔EL E xs (Ab r):=by rw[KE,Ha h]
theorem Zqq {E:Int→Tree→Prop} {right:List Int} {xs:List Tree} (h:EL E xs (Ab right)):KE E right xs:=by
 cases right with
 | nil=>exact HX h.1
 | cons s r =>
  by_cases hs:0≤s
  ·rw[ZbG (by omega)] at h;cases xs with
   | nil=>have:=h.1;simp at this
   | cons a ys=>exact (ZhY hs).2 ⟨a,ys,rfl,(EL_cons.1 h).2⟩
  ·rw[Zc2 (by omega)] at h;exact (ZmX hs).2 h
theorem Zcl {E:Int→Tree→Prop} {right:List Int} {xs:List Tree} (h:KE E right xs):xs.length=(Ab right).length:=by
 cases right with
 | nil=>rw[KE] at h;rw[h];rfl
 | cons s r =>
  by_cases hs:0≤s
  ·obtain⟨a,ys,rfl,h2⟩:=(ZhY hs).1 h;rw[ZbG (by omega),Hl,Hl,h2.1]
  ·have h2:EL E xs (Ab r):=(ZmX hs).1 h;rw[Zc2 (by omega),h2.1]
theorem Zli {E E':Int→Tree→Prop} {right:List Int} {xs:List Tree} (h:∀ s∈right,∀ z,E s z→E' s z) (hx:KE E right xs):KE E' right xs:=by
 cases right with
 | nil=>exact hx
 | cons s r =>
  have h':∀ s∈Ab r,∀ z,E s z→E' s z:=fun q hq=>h q (by simp[(List.mem_filter.1 hq).1])
  by_cases hs:0≤s
  ·obtain⟨a,ys,rfl,hy⟩:=(ZhY hs).1 hx;exact (ZhY hs).2 ⟨a,ys,rfl,Zeh h' hy⟩
  ·exact (ZmX hs).2 (Zeh h' ((ZmX hs).1 hx))
theorem ZdA (a b:List Int):Ab (a++b)=Ab a++Ab b:=by simp[Ab]
theorem ZtR {E:Int→Tree→Prop} {a b:List Int} {zs:List Tree} (ha:a≠[]) (h:KE E (a++b) zs):∃ ys xs,zs=ys++xs∧KE E a ys∧EL E xs (Ab b):=by
 cases a with
 | nil=>exact absurd rfl ha
 | cons s r =>
  rw[Hv] at h;by_cases hs:0≤s
  ·obtain⟨z,zs,rfl,h0⟩:=(ZhY hs).1 h;rw[ZdA] at h0;obtain⟨ys,xs,rfl,h1,h2⟩:=Zgt h0;exact⟨z::ys,xs,rfl,(ZhY hs).2 ⟨z,ys,rfl,h1⟩,h2⟩
  ·have h0:=(ZmX hs).1 h;rw[ZdA] at h0;obtain⟨ys,xs,rfl,h1,h2⟩:=Zgt h0;exact⟨ys,xs,rfl,(ZmX hs).2 h1,h2⟩
def XOk (g:Ac) (N:Nat) (x:Ae):Prop:=∃ B C,TOk g B C N true x
theorem Zox (a b:List Tree):sing (a++b)=sing a++sing b:=by simp[sing]
theorem ZvA {α:Type} {a b:List α} {d:α} {i:Nat} (h:i < a.length):(a++b).getD i d=a.getD i d:=by
 rw[Hf,GH h,←Hf]
theorem ZmY {α:Type} {a b:List α} {d:α} {i:Nat}:(a++b).getD (a.length+i) d=b.getD i d:=by
 rw[Hf,Gp (by omega),Hf];congr 2;omega
theorem ZtS {g:Ac} {B C N:Nat} {o:Bool} {x:Ae} (hx:TOk g B C N o x) {ys xs:List Tree} (hl:ys.length=(Ab x.right).length):muL (sing (ys++xs)) x.l=muL (sing ys) x.l:=by
 refine Zov x.l hx.wf fun n hn=>?_
 have:=upTo_mem.1 (hx.kd.mem_iff.1 hn);rw[Zox,ZvA (by rw[ZeA];omega)]
theorem Zqr {g:Ac} {N:Nat} {x y:Ae} (hx:XOk g N x) (hy:XOk g N y) (h0:0≤hdI x.right) {ys xs:List Tree} {b:Tree} (hl:ys.length=(Ab y.right).length) (hb:muL (sing ys) y.l=[b]):muL (sing (ys++xs)) (mixW x y).l=muL (sing (b::xs)) x.l:=by
 obtain⟨B,C,hx⟩:=hx;obtain⟨B',C',hy⟩:=hy;have e:(mixW x y).l=ptL 0 y.l (((Ab y.right).length:Int) - 1) x.l:=by
  show ZeL x.l 0 y.l _=_;unfold ZeL;rw[ZbS]
 rw[e];refine Zlh ?_ (fun n hn=>?_) x.l hx.wf (hx.nz rfl h0) hx.kd0
 ·rw[ZtS hy hl,hb];rfl
 ·obtain⟨j,rfl⟩:∃ j:Nat,n=(j:Int)+1:=⟨(n - 1).toNat,by omega⟩
  rw[show ((j:Int)+1+(((Ab y.right).length:Int) - 1)).toNat=(sing ys).length+j by rw[ZeA];omega,show ((j:Int)+1).toNat=j+1 by omega,Zox,ZmY];rfl
theorem ZtT {g:Ac} {N:Nat} {x:Ae} (hx:XOk g N x) (h0:0≤hdI x.right) (xs:List Tree):muL (sing xs) (ZbC x).l=muL (sing (gapN::xs)) x.l:=by
 obtain⟨B,C,hx⟩:=hx;have e:(ZbC x).l=ptL 0 [gapF] (-1) x.l:=by
  show ZeL x.l 0 [gapF] 0=_;unfold ZeL;rw[ZbS];rfl
 rw[e];refine Zlh ?_ (fun n hn=>?_) x.l hx.wf (hx.nz rfl h0) hx.kd0
 ·rw[muL,muL,Ht];exact Zqp _ _ _
 ·obtain⟨j,rfl⟩:∃ j:Nat,n=(j:Int)+1:=⟨(n - 1).toNat,by omega⟩
  rw[show ((j:Int)+1 + -1).toNat=j by omega,show ((j:Int)+1).toNat=j+1 by omega];rfl
theorem ZDd {g:Ac} {B C N:Nat} {o:Bool} {x:Ae} (hx:TOk g B C N o x) {ys:List Tree} {c:Tree} (hl:ys.length=(Ab x.right).length):muL (sing (ys++[c])) [.mk 4 (Ab x.right).length x.l]=ZaY (muL (sing ys) x.l) [c]:=by
 rw[muL,muL,Ht,Zou,ZtS hx hl,Hn,Zox];have:=ZmY (a:=sing ys) (b:=sing [c]) (d:=[]) (i:=0);rw[ZeA,Gx,hl] at this;rw[this];rfl
structure WS (g:Ac) (E:Int→Tree→Prop) (v:Nat) (x:Ae):Prop where
 one:∀ xs,KE E x.right xs→∃ y,muL (sing xs) x.l=[y]∧0≤y.rule∧gwT g y=gwK g x.right xs∧∀ k∈xs,c0T k < c0T y
 fit:∀ xs y,EL E xs (Ab x.right)→muL (sing xs) x.l=[y]→fits g y (v:Int)=true
 fill:∀ a xs y b,KE E x.right (a::xs)→0≤hdI x.right→muL (sing (a::xs)) x.l=[y]→muL (sing (fil b a::xs)) x.l=[fil b y]
 add:∀ a xs y z,KE E x.right (a::xs)→0≤hdI x.right→muL (sing (a::xs)) x.l=[y]→muL (sing (gapN::xs)) x.l=[z]→c0T y=c0T a+c0T z
 inj:∀ xs xs',KE E x.right xs→KE E x.right xs'→muL (sing xs) x.l=muL (sing xs') x.l→xs=xs'
def Dis (E:Int→Tree→Prop) (x x':Ae):Prop:=∀ xs xs',KE E x.right xs→KE E x'.right xs'→muL (sing xs) x.l≠muL (sing xs') x'.l
theorem Dis.symm {E:Int→Tree→Prop} {x x':Ae} (h:Dis E x x'):Dis E x' x:=fun xs xs' h1 h2 e=>h xs' xs h2 h1 e.symm
structure VS (g:Ac) (E:Int→Tree→Prop) (v:Nat) (l:List Ae):Prop where
 ws:∀ x∈l,WS g E v x
 dis:l.Pairwise (Dis E)
 surj:∀ z,fits g z (v:Int)=true→∃ x∈l,∃ xs,EL E xs (Ab x.right)∧muL (sing xs) x.l=[z]
theorem Zoy {E:Int→Tree→Prop} {x:Ae} (hne:x.right≠[]) (h0:0≤hdI x.right) {a:Tree} {xs:List Tree}:KE E x.right (a::xs)↔EL E xs (Ab x.right.tail):=by
 have hc:=ZfN hne rfl;constructor
 ·intro h;rw[hc] at h;obtain⟨_,_,e,h⟩:=(ZhY h0).1 h;cases e;exact h
 ·intro h;rw[hc];exact (ZhY h0).2 ⟨a,xs,rfl,h⟩
theorem ZjU {E:Int→Tree→Prop} {x:Ae} (hne:x.right≠[]) (h0:0≤hdI x.right) {zs:List Tree} (h:KE E x.right zs):∃ a xs,zs=a::xs:=by
 have hc:=ZfN hne rfl;rw[hc] at h;obtain⟨a,xs,e,_⟩:=(ZhY h0).1 h;exact⟨a,xs,e⟩
theorem XOk.ne {g:Ac} {N:Nat} {x:Ae} (h:XOk g N x):x.right≠[]:=by
 obtain⟨B,C,h⟩:=h;exact h.ne rfl
theorem XOk.sym {g:Ac} {N:Nat} {x:Ae} (h:XOk g N x):∀ s∈x.right,s < (N:Int):=by
 obtain⟨B,C,h⟩:=h;exact fun s hs=>(h.sym s hs).2
theorem ZiX {r:List Int} (hne:r≠[]) (h0:0≤hdI r):Ab r=hdI r::Ab r.tail:=by
 have hc:=ZfN hne rfl
 conv=>lhs;rw[hc]
 exact ZbG (by omega) _
section
variable {g:Ac} {E:Int→Tree→Prop} {N u v:Nat} {x y:Ae} (hx:XOk g N x) (hy:XOk g N y) (hu:hdI x.right=(u:Int))
include hx hy hu
theorem ZcC (hw:WS g E u y) {zs:List Tree} (hz:KE E (mixW x y).right zs):∃ ys xs b,zs=ys++xs∧KE E y.right ys∧EL E xs (Ab x.right.tail)∧muL (sing ys) y.l=[b]∧KE E x.right (b::xs)∧muL (sing zs) (mixW x y).l=muL (sing (b::xs)) x.l:=by
 obtain⟨ys,xs,rfl,h1,h2⟩:=ZtR (b:=x.right.tail) hy.ne hz;obtain⟨b,e,_⟩:=hw.one _ h1;exact⟨ys,xs,b,rfl,h1,h2,e,(Zoy hx.ne (by omega)).2 h2,Zqr hx hy (by omega) (Zcl h1) e⟩
theorem ZEq (hwx:WS g E v x) (hwy:WS g E u y) (hE:∀ s z,s < g.vars→(E s z↔fits g z s=true)) (huv:(u:Int) < g.vars):WS g E v (mixW x y) where
 one zs hz:=by
  obtain⟨ys,xs,b,rfl,h1,h2,e,h3,h4⟩:=ZcC hx hy hu hwy hz;obtain⟨b',e',_,b2,b3⟩:=hwy.one _ h1;obtain rfl:b=b':=by rw[e] at e';simpa using e'
  obtain⟨z,q1,q2,q3,q4⟩:=hwx.one _ h3;refine⟨z,by rw[h4,q1],q2,?_,fun k hk=>?_⟩
  ·rw[q3];have hc:=ZfN hx.ne rfl;show _=gwK g (y.right++x.right.tail) (ys++xs);rw[ZiW (Zcl h1),←b2]
   conv=>lhs;rw[hc]
   rw[gwK,gwL,ZeE (by omega)]
  ·rcases List.mem_append.1 hk with hk|hk
   ·exact Nat.lt_trans (b3 k hk) (q4 b (by simp))
   ·exact q4 k (by simp[hk])
 fit zs z hz hzz:=by
  have hz2:=hz;rw[show (mixW x y).right=y.right++x.right.tail from rfl,ZdA] at hz2;obtain⟨ys,xs,rfl,h1,h2⟩:=Zgt hz2;obtain⟨b,e,_⟩:=hwy.one _ (Zqq h1);have h3:=hwy.fit _ _ h1 e;refine hwx.fit (b::xs) z ?_ ?_
  ·rw[ZiX hx.ne (by omega),hu];exact EL_cons.2 ⟨(hE _ _ huv).2 h3,h2⟩
  ·rw[←Zqr hx hy (by omega) (by rw[h1.1]) e,hzz]
 fill a zs z b hz h0 hzz:=by
  have hh:hdI (mixW x y).right=hdI y.right:=Zf9 hy.ne;rw[hh] at h0;obtain⟨ys,xs,c,e1,h1,h2,e,h3,h4⟩:=ZcC hx hy hu hwy hz;obtain⟨a',ys,rfl⟩:=ZjU hy.ne h0 h1;obtain⟨rfl,rfl⟩:a=a'∧zs=ys++xs:=by simpa using e1
  have k1:=hwy.fill _ _ _ b h1 h0 e;have k2:=hwx.fill _ _ _ b h3 (by omega) (by rw[←h4,hzz]);rw[←k2,←Zqr hx hy (by omega) (by have:=Zcl h1;simpa using this) k1];rfl
 add a zs z w hz h0 hzz hww:=by
  have hh:hdI (mixW x y).right=hdI y.right:=Zf9 hy.ne;rw[hh] at h0;obtain⟨ys,xs,c,e1,h1,h2,e,h3,h4⟩:=ZcC hx hy hu hwy hz;obtain⟨a',ys,rfl⟩:=ZjU hy.ne h0 h1;obtain⟨rfl,rfl⟩:a=a'∧zs=ys++xs:=by simpa using e1
  have h1g:KE E y.right (gapN::ys):=(Zoy hy.ne h0).2 ((Zoy hy.ne h0).1 h1);obtain⟨d,e2,_⟩:=hwy.one _ h1g;have k1:=hwy.add _ _ _ _ h1 h0 e e2;have h3g:KE E x.right (gapN::xs):=(Zoy hx.ne (by omega)).2 h2;have h3d:KE E x.right (d::xs):=(Zoy hx.ne (by omega)).2 h2;obtain⟨f,e3,_⟩:=hwx.one _ h3g;have k2:=hwx.add _ _ _ _ h3 (by omega) (by rw[←h4,hzz]) e3;have k3:=hwx.add _ _ _ _ h3d (by omega) (by rw[←Zqr hx hy (by omega) (by have:=Zcl h1g;simpa using this) e2,←hww];rfl) e3;omega
 inj zs zs' hz hz' he:=by
  obtain⟨ys,xs,b,rfl,h1,h2,e,h3,h4⟩:=ZcC hx hy hu hwy hz;obtain⟨ys',xs',b',rfl,h1',h2',e',h3',h4'⟩:=ZcC hx hy hu hwy hz';rw[h4,h4'] at he;have:=hwx.inj _ _ h3 h3' he;obtain⟨rfl,rfl⟩:b=b'∧xs=xs':=by simpa using this
  rw[hwy.inj _ _ h1 h1' (by rw[e,e'])]
end
theorem ZDe {g:Ac} {E:Int→Tree→Prop} {N u v:Nat} {x y x' y':Ae} (hx:XOk g N x) (hy:XOk g N y) (hu:hdI x.right=(u:Int)) (hwy:WS g E u y) (hx':XOk g N x') (hy':XOk g N y') (hu':hdI x'.right=(u:Int)) (hwy':WS g E u y') (hd:Dis E x x'):Dis E (mixW x y) (mixW x' y'):=fun zs zs' hz hz' he=>by
 obtain⟨ys,xs,b,rfl,h1,h2,e,h3,h4⟩:=ZcC hx hy hu hwy hz;obtain⟨ys',xs',b',rfl,h1',h2',e',h3',h4'⟩:=ZcC hx' hy' hu' hwy' hz';rw[h4,h4'] at he;exact hd _ _ h3 h3' he
theorem ZtU {g:Ac} {E:Int→Tree→Prop} {N u v:Nat} {x y x':Ae} (hx:XOk g N x) (hy:XOk g N y) (hu:hdI x.right=(u:Int)) (hwy:WS g E u y) (hd:Dis E x x'):Dis E (mixW x y) x':=fun zs zs' hz hz' he=>by
 obtain⟨ys,xs,b,rfl,h1,h2,e,h3,h4⟩:=ZcC hx hy hu hwy hz;rw[h4] at he;exact hd _ _ h3 hz' he
theorem ZBn {g:Ac} {E:Int→Tree→Prop} {N u v:Nat} {x y y':Ae} (hx:XOk g N x) (hwx:WS g E v x) (hy:XOk g N y) (hu:hdI x.right=(u:Int)) (hwy:WS g E u y) (hy':XOk g N y') (hwy':WS g E u y') (hd:Dis E y y'):Dis E (mixW x y) (mixW x y'):=fun zs zs' hz hz' he=>by
 obtain⟨ys,xs,b,rfl,h1,h2,e,h3,h4⟩:=ZcC hx hy hu hwy hz;obtain⟨ys',xs',b',rfl,h1',h2',e',h3',h4'⟩:=ZcC hx hy' hu hwy' hz';rw[h4,h4'] at he;have:=hwx.inj _ _ h3 h3' he;obtain⟨rfl,rfl⟩:b=b'∧xs=xs':=by simpa using this
 exact hd _ _ h1 h1' (by rw[e,e'])
def ZlW (A:List Ae) (u:Int) (x:Ae):List Ae:=if hdI x.right≠u then [x] else A.map (mixW x)
theorem ZmZ {x:Ae}:∀ {ys out out':List Ae},ZbE x ys out=some out'→out'=out++ys.map (mixW x)
 | [],out,out',h=>by rw[ZbE] at h;cases h;simp
 | y::ys,out,out',h=>by
  rw[ZbE] at h;split at h
  ·cases h
  ·rw[ZmZ h];simp
theorem ZhZ {A:List Ae} {u:Int}:∀ {l out l':List Ae},ZbJ A u l out=some l'→l'=out++l.flatMap (ZlW A u)
 | [],out,l',h=>by
  rw[ZbJ] at h;split at h
  ·cases h
  ·cases h;simp
 | x::l,out,l',h=>by
  rw[ZbJ] at h;rw[HP];split at h
  ·rename_i hu;rw[ZhZ h,show ZlW A u x=[x] from Hb hu,HH]
  ·rename_i hu;rw[show ZlW A u x=A.map (mixW x) from Ha hu];cases hc:ZbE x A out with
   | none=>rw[hc] at h;cases h
   | some out1 =>
    rw[hc] at h;rw[ZhZ h,ZmZ hc,HH]
theorem Zgu {A:List Ae} {u:Int} {x w:Ae} (h:w∈ZlW A u x):(hdI x.right≠u∧w=x)∨(hdI x.right=u∧∃ y∈A,w=mixW x y):=by
 unfold ZlW at h;split at h
 ·rename_i hu;exact .inl ⟨hu,by simpa using h⟩
 ·rename_i hu;obtain⟨y,hy,rfl⟩:=List.mem_map.1 h;exact .inr ⟨HN fun q=>hu q,y,hy,rfl⟩
theorem VS.ahead {g:Ac} {E:Int→Tree→Prop} {N u v:Nat} {l A:List Ae} (hl:VS g E v l) (hA:VS g E u A) (hx:∀ x∈l,XOk g N x) (hy:∀ y∈A,XOk g N y) (hE:∀ s z,s < g.vars→(E s z↔fits g z s=true)) (huv:(u:Int) < g.vars):VS g E v (l.flatMap (ZlW A u)) where
 ws w hw:=by
  obtain⟨x,hxl,hw⟩:=List.mem_flatMap.1 hw;rcases Zgu hw with ⟨_,rfl⟩|⟨hu,y,hyA,rfl⟩
  ·exact hl.ws _ hxl
  ·exact ZEq (hx x hxl) (hy y hyA) hu (hl.ws x hxl) (hA.ws y hyA) hE huv
 dis:=by
  rw[G1];refine⟨fun x hxl=>?_,?_⟩
  ·unfold ZlW;split
   ·exact List.pairwise_singleton _ _
   ·rename_i hu;have hu:hdI x.right=(u:Int):=HN fun q=>hu q
    rw[Ge];refine GA (fun {y y'} h1 h2 hd=>?_) hA.dis;exact ZBn (v:=v) (hx x hxl) (hl.ws x hxl) (hy y h1) hu (hA.ws y h1) (hy y' h2) (hA.ws y' h2) hd
  ·refine GA (fun {x x'} h1 h2 hd w hw w' hw'=>?_) hl.dis;rcases Zgu hw with ⟨_,rfl⟩|⟨hu,y,hyA,rfl⟩
   ·rcases Zgu hw' with ⟨_,rfl⟩|⟨hu',y',hyA',rfl⟩
    ·exact hd
    ·exact (ZtU (v:=v) (hx x' h2) (hy y' hyA') hu' (hA.ws y' hyA') hd.symm).symm
   ·rcases Zgu hw' with ⟨_,rfl⟩|⟨hu',y',hyA',rfl⟩
    ·exact ZtU (v:=v) (hx x h1) (hy y hyA) hu (hA.ws y hyA) hd
    ·exact ZDe (v:=v) (hx x h1) (hy y hyA) hu (hA.ws y hyA) (hx x' h2) (hy y' hyA') hu' (hA.ws y' hyA') hd
 surj z hz:=by
  obtain⟨x,hxl,xs,h1,h2⟩:=hl.surj z hz;by_cases hu:hdI x.right=(u:Int)
  ·rw[ZiX (hx x hxl).ne (by omega),hu] at h1;cases xs with
   | nil=>have:=h1.1;simp at this
   | cons b xs =>
    obtain⟨hb,h1⟩:=EL_cons.1 h1;obtain⟨y,hyA,ys,k1,k2⟩:=hA.surj b ((hE _ _ huv).1 hb);refine⟨mixW x y,List.mem_flatMap.2 ⟨x,hxl,?_⟩,ys++xs,?_,?_⟩
    ·unfold ZlW;rw[Ha (fun q=>q hu)];exact List.mem_map.2 ⟨y,hyA,rfl⟩
    ·show EL E _ (Ab (y.right++x.right.tail));rw[ZdA];exact ZtQ k1 h1
    ·rw[Zqr (hx x hxl) (hy y hyA) (by omega) (by rw[k1.1]) k2,h2]
  ·refine⟨x,List.mem_flatMap.2 ⟨x,hxl,?_⟩,xs,h1,h2⟩;unfold ZlW;rw[Hb hu];simp
theorem XOk.mix {g:Ac} {N u:Nat} {x y:Ae} (hx:XOk g N x) (hy:XOk g N y) (hu:hdI x.right=(u:Int)):XOk g N (mixW x y):=by
 obtain⟨B,C,hx⟩:=hx;obtain⟨B',C',hy⟩:=hy;exact⟨_,_,Zum hx hy hu (by omega)⟩
theorem ZyF {g:Ac} {N u:Nat} {l A:List Ae} (hx:∀ x∈l,XOk g N x) (hy:∀ y∈A,XOk g N y):∀ w∈l.flatMap (ZlW A u),XOk g N w:=fun w hw=>by
 obtain⟨x,hxl,hw⟩:=List.mem_flatMap.1 hw;rcases Zgu hw with ⟨_,rfl⟩|⟨hu,y,hyA,rfl⟩
 ·exact hx _ hxl
 ·exact (hx x hxl).mix (hy y hyA) hu
theorem Zqs {g:Ac} {E:Int→Tree→Prop} {N v:Nat} {all:List (List Ae)} (hE:∀ s z,s < g.vars→(E s z↔fits g z s=true)):∀ (n u:Nat) {l l':List Ae},u+n≤g.vars.toNat→(∀ w,w < u+n→VS g E w (all.getD w [])∧∀ y∈all.getD w [],XOk g N y)→VS g E v l→(∀ x∈l,XOk g N x)→Zca all u n l=some l'→VS g E v l'∧∀ x∈l',XOk g N x
 | 0,u,l,l',_,_,h1,h2,h=>by rw[Zca] at h;cases h;exact⟨h1,h2⟩
 | n+1,u,l,l',hn,hA,h1,h2,h=>by
  rw[Zca] at h;cases hc:ZbJ (all.getD u []) u l [] with
  | none=>rw[hc] at h;cases h
  | some l1 =>
   rw[hc] at h;have e:=ZhZ hc;rw[H3] at e;subst e;obtain⟨k1,k2⟩:=hA u (by omega);exact Zqs hE n (u+1) (by omega) (fun w hw=>hA w (by omega)) (h1.ahead k1 h2 k2 hE (by omega)) (ZyF h2 k2) h
def E0 (g:Ac) (s:Int) (z:Tree):Prop:=fits g z s=true
theorem ZBo {g:Ac} (b a:Tree) {xs:List Tree} {us:List Int} (h:EL (E0 g) xs us):ZaY [b] (a::xs)=fil b a::xs:=by
 have key:∀ l:List Tree,(∀ y∈l,∃ u,fits g y u=true)→ZaY [b] l=l:=by
  intro l
  induction l with
  | nil=>intro _;rfl
  | cons y l ih =>
   intro hl;obtain⟨u,hu⟩:=hl y (by simp);rw[ZaY,Zo7 _ y u hu,ih fun z hz=>hl z (by simp[hz])];rfl
 rw[ZaY,ZyA,key xs fun y hy=>by
  obtain⟨i,hi,rfl⟩:=List.mem_iff_getElem.1 hy;exact⟨_,h.2 i hi (by have:=h.1;omega)⟩]
 rfl
theorem ZBp {g:Ac} {xs:List Tree} {us:List Int} (h:EL (E0 g) xs us):fitss g xs us=true:=ZeV h.1 h.2
theorem ZBq {g:Ac} {r:Nat} (hr:r < g.Aa.length) {v:Nat} (hv:g.Aa[r].left=(v:Int)):WS g (E0 g) v ⟨g.Aa[r].right,ZaJ r (Ab g.Aa[r].right).length⟩ where
 one xs h:=⟨.mk r xs,Zby r (Zcl h),by show 0≤(r:Int);omega,ZB4 hr xs,fun k hk=>by have:=ZB5 hk;rw[ZDc];omega⟩
 fit xs y h hy:=by
  rw[Zby r h.1] at hy;obtain rfl:Tree.mk r xs=y:=by simpa using hy
  exact (ZfW hr hv h.1 (ZBp h)).1
 fill a xs y b h h0 hy:=by
  rw[Zby r (Zcl h)] at hy;obtain rfl:Tree.mk r (a::xs)=y:=by simpa using hy
  have hne:g.Aa[r].right≠[]:=fun q=>by
   have:=Zcl h;rw[show (⟨g.Aa[r].right,ZaJ r (Ab g.Aa[r].right).length⟩:Ae).right=g.Aa[r].right from rfl,q] at this;simp[Ab] at this
  have hl:EL (E0 g) xs (Ab g.Aa[r].right.tail):=(Zoy (x:=⟨g.Aa[r].right,ZaJ r (Ab g.Aa[r].right).length⟩) hne h0).1 h;rw[Zby r (by have:=Zcl h;simpa using this)];rw[show fil b (Tree.mk (r:Int) (a::xs))=.mk r (ZaY [b] (a::xs)) from Ha (by show ¬ (r:Int) = -1;omega),ZBo b a hl]
 add a xs y z h h0 hy hz:=by
  rw[Zby r (Zcl h)] at hy;rw[Zby r (by have:=Zcl h;simpa using this)] at hz;obtain rfl:Tree.mk r (a::xs)=y:=by simpa using hy
  obtain rfl:Tree.mk r (gapN::xs)=z:=by simpa using hz
  rw[ZDc,ZDc,c0L,c0L,ZB7];omega
 inj xs xs' h h' e:=by
  rw[Zby r (Zcl h),Zby r (Zcl h')] at e;simpa using e
theorem ZFa (g:Ac) (v:Int):(by_ g v).Nodup:=by
 unfold by_;have:∀ (rs:List Rule) (i:Nat),(byR rs v i).Nodup∧∀ x∈byR rs v i,(i:Int)≤x:=by
  intro rs
  induction rs with
  | nil=>intro i;rw[byR];exact⟨H7,fun x hx=>by cases hx⟩
  | cons r rs ih =>
   intro i;obtain⟨h1,h2⟩:=ih (i+1);rw[byR];split
   ·refine⟨List.pairwise_cons.2 ⟨fun x hx q=>?_,h1⟩,fun x hx=>?_⟩
    ·have:=h2 x hx;omega
    ·rcases List.mem_cons.1 hx with rfl|hx
     ·exact Ja _
     ·have:=h2 x hx;omega
   ·exact⟨h1,fun x hx=>by have:=h2 x hx;omega⟩
 exact (this _ _).1
theorem Zqt {g:Ac} {v:Nat} {w:Ae} (h:w∈Zcx g v):∃ r,∃ hr:r < g.Aa.length,g.Aa[r].left=(v:Int)∧w=⟨g.Aa[r].right,ZaJ r (Ab g.Aa[r].right).length⟩:=by
 obtain⟨q,hq,rfl⟩:=List.mem_map.1 h;obtain⟨j,hj,rfl,e1,e2⟩:=ZkA hq;exact⟨j,hj,e1,by rw[e2]⟩
theorem ZBr {g:Ac} (v:Nat):VS g (E0 g) v (Zcx g v) where
 ws w hw:=by
  obtain⟨r,hr,e,rfl⟩:=Zqt hw;exact ZBq hr e
 dis:=by
  unfold Zcx;rw[Ge];refine GA (fun {q q'} h1 h2 hne xs xs' hx hx' e=>?_) (ZFa g v);rw[Zby q (Zcl hx),Zby q' (Zcl hx')] at e;simp at e;exact hne e.1
 surj z hz:=by
  obtain⟨r,hr,e1,e2,e3,e4,_⟩:=ZaR hz;have hm:(r:Int)∈by_ g v:=by_mem.2 ⟨r,hr,rfl,e2⟩;have he:ZdN g (r:Int)=g.Aa[r]:=by
   unfold ZdN;rw[Hn,Hf,Hj hr];rfl
  refine⟨_,List.mem_map.2 ⟨_,hm,rfl⟩,z.Ab,?_,?_⟩
  ·rw[he];exact⟨e3.symm,fun i h1 h2=>Zbv e4 h1 h2⟩
  ·rw[he];show muL _ (ZaJ r (Ab g.Aa[r].right).length)=_;rw[Zby r e3.symm,←e1,←Tree.eta]
end Go.Proofs.YtbpmepgnjanhnaaGreat
