import Derived.Test.YtbpmepgnjanhnaaGreatQSimPf
set_option linter.unusedVariables false
set_option linter.unusedSimpArgs false
set_option linter.unusedSectionVars false
namespace Go.Proofs.YtbpmepgnjanhnaaGreat
open Go.RowKit
abbrev ZoM:=Nat→Nat→Nat→List Tree
def lenC (L:ZoM):Cube:=fun v i j=>(L v i j).length
def symL (L:ZoM) (w:List Int) (s:Int) (i m:Nat) (K:List (List Tree)):List (List Tree):=if 0≤s then (L s.toNat i m).flatMap fun t=>K.map (t::·) else if m=i+1∧w[i]? = some (-1 - s) then K else []
def seqL (L:ZoM) (w:List Int):List Int→Nat→Nat→List (List Tree)
 | [],i,j=>if i=j then [[]] else []
 | s::r,i,j=>(List.range (j+1)).flatMap fun m=>if i≤m then symL L w s i m (seqL L w r m j) else []
def ZdP (g:Ac) (w:List Int):Nat→ZoM
 | 0=>fun _ _ _=>[]
 | H+1=>fun v i j=>(List.range g.Aa.length).flatMap fun r=>match g.Aa[r]? with
  | some x=>if x.left=(v:Int) then (seqL (ZdP g w H) w x.right i j).map (Tree.mk (r:Int)) else []
  | none=>[]
theorem Zhc {α:Type} (f:Nat→List α):∀ n,((List.range n).flatMap f).length=Al n fun m=>(f m).length
 | 0=>rfl
 | n+1=>by
  rw[Gn,JL,Hk,Zhc f n];simp[Al]
theorem Zia {α β:Type} (f:α→List β) (c:Nat):∀ l:List α,(∀ a∈l,(f a).length=c)→(l.flatMap f).length=l.length * c
 | [],_=>by simp
 | a::l,h=>by
  rw[HP,Hk,Zia f c l (fun b hb=>h b (by simp[hb])),h a (by simp),Hl,Gb];omega
theorem ZBE (L:ZoM) (w:List Int) (s:Int) (i m:Nat) (K:List (List Tree)):(symL L w s i m K).length=symN (lenC L) w s i m * K.length:=by
 unfold symL symN;split
 ·rw[Zia _ K.length _ (fun a _=>by simp)];rfl
 ·split
  ·rw[Nat.one_mul]
  ·simp
theorem Zt5 (L:ZoM) (w:List Int):∀ (r:List Int) (i j:Nat),(seqL L w r i j).length=wcn (lenC L) w r i j
 | [],i,j=>by rw[seqL,wcn];split <;> rfl
 | s::r,i,j=>by
  rw[seqL,wcn,Zhc];refine ZiB fun m _=>?_
  split
  ·rw[ZBE,Zt5 L w r m j]
  ·rfl
theorem ZvK (g:Ac) (w:List Int) (H v i j:Nat):(ZdP g w (H+1) v i j).length=Al g.Aa.length (fR g (lenC (ZdP g w H)) w v i j):=by
 rw[ZdP,Zhc];refine ZiB fun r _=>?_
 unfold fR;cases g.Aa[r]? with
 | none=>rfl
 | some x =>
  dsimp only;split
  ·rw[Hi,Zt5]
  ·rfl
theorem ZDu {M a b c d:Nat} (h1:min M a=min M c) (h2:min M b=min M d):min M (a * b)=min M (c * d):=by
 rw[←Zks,h1,Zks,←ZhE,h2,ZhE]
theorem Zy9 {M:Nat} {N N':Cube} {w:List Int} {V:Int} {j:Nat} (h:∀ v i m:Nat,(v:Int) < V→i≤m→m≤j→min M (N v i m)=min M (N' v i m)):∀ (r:List Int) (i:Nat),(∀ s∈r,s < V)→min M (wcn N w r i j)=min M (wcn N' w r i j)
 | [],i,_=>rfl
 | s::r,i,hs=>by
  rw[wcn,wcn];refine ZnG fun m hm=>?_
  split
  ·rename_i him;refine ZDu ?_ (Zy9 h r m (fun x hx=>hs x (by simp[hx])));unfold symN;split
   ·have:=hs s (by simp);exact h _ _ _ (by omega) him (by omega)
   ·rfl
  ·rfl
theorem Zhd {g:Ac} (hg:g.ok) {w:List Int} {M:Nat}:∀ (k v i j:Nat),(v:Int) < g.vars→i≤j→j≤w.length→rnds g w M k v i j=min M (ZdP g w k v i j).length
 | 0,v,i,j,_,_,_=>by show 0=_;simp[ZdP]
 | k+1,v,i,j,hv,hij,hj=>by
  show rnd g w M (rnds g w M k) v i j=_;unfold rnd;rw[Hb ⟨hv,hij,hj⟩,ZvK,Ztl];refine ZnG fun r hr=>?_
  unfold fR;rw[Hj hr];dsimp only;split
  ·refine Zy9 (V:=g.vars) (fun u a b hu hab hb=>?_) _ _ (fun s hs=>hg.hi _ (He hr) s hs);rw[Zhd hg k u a b hu hab (by omega)];show min M (min M _)=_;unfold lenC;omega
  ·rfl
variable {g:Ac} {w:List Int}
def IsT (g:Ac) (w:List Int) (v i j:Nat) (x:Tree):Prop:=fits g x (v:Int)=true∧Zbo g x=seg w i j
def IsR (g:Ac) (w:List Int) (r:List Int) (i j:Nat) (l:List Tree):Prop:=(Ab r).length=l.length∧fitss g l (Ab r)=true∧wordL g r l=seg w i j
theorem Zza {i j:Nat} (hij:i≤j) (hj:j≤w.length) {l:List Tree}:IsR g w [] i j l↔l=[]∧i=j:=by
 constructor
 ·rintro⟨h1,h2,h3⟩;rw[Zbe] at h3;have hl:=Hy List.length h3;rw[ZkV hij hj] at hl;simp only[HB] at hl;exact⟨HX h1.symm,by omega⟩
 ·rintro⟨rfl,rfl⟩;exact⟨rfl,by rw[fitss.eq_def],by rw[Zbe,Ztj]⟩
theorem Zt6 {s:Int} {r:List Int} {i j:Nat} {l:List Tree} (hs:s < 0) (hij:i≤j) (hj:j≤w.length):IsR g w (s::r) i j l↔i+1≤j∧w[i]? = some (-1 - s)∧IsR g w r (i+1) j l:=by
 unfold IsR;rw[Zc2 hs,Zbi hs];constructor
 ·rintro⟨h1,h2,h3⟩;obtain⟨k1,k2,k3⟩:=ZpY (a:=[-1 - s]) (b:=wordL g r l) h3 hij hj;simp only[Hl,HB,HE] at k1 k2 k3;have hi:i < w.length:=by omega
  refine⟨k1,?_,h1,h2,k3⟩;rw[Hj hi];unfold seg at k2;rw[show i+1 - i=1 by omega,Hw hi] at k2;simp only[GT,GW,Hz,HA] at k2;rw[k2]
 ·rintro⟨h1,h2,h3,h4,h5⟩;exact⟨h3,h4,by rw[h5,Ztk h1 h2]⟩
theorem Zzb {s:Nat} {r:List Int} {i j:Nat} {l:List Tree} (hij:i≤j) (hj:j≤w.length):IsR g w ((s:Int)::r) i j l↔∃ m x k,l=x::k∧i≤m∧m≤j∧IsT g w s i m x∧IsR g w r m j k:=by
 have hs:¬ (s:Int) < 0:=by omega
 unfold IsR IsT;rw[ZbG hs];constructor
 ·rintro⟨h1,h2,h3⟩;cases l with
  | nil=>cases h1
  | cons x k =>
   rw[Za2 hs] at h3;simp only[Hl,Nat.add_right_cancel_iff] at h1;rw[fitss,Hr] at h2;obtain⟨k1,k2,k3⟩:=ZpY h3 hij hj;exact⟨_,x,k,rfl,by omega,k1,⟨h2.1,k2⟩,h1,h2.2,k3⟩
 ·rintro⟨m,x,k,rfl,h1,h2,⟨h3,h4⟩,h5,h6,h7⟩;refine⟨by simp[h5],by rw[fitss,h3,h6];rfl,?_⟩;rw[Za2 hs,h4,h7,Zn2 h1 h2]
theorem isT_iff {v i j:Nat} {x:Tree}:IsT g w v i j x↔∃ r,∃ h:r < g.Aa.length,x.rule=(r:Int)∧g.Aa[r].left=(v:Int)∧IsR g w g.Aa[r].right i j x.Ab:=by
 constructor
 ·rintro⟨h1,h2⟩;obtain⟨r,hr,e1,e2,e3,e4,e5⟩:=ZaR h1;exact⟨r,hr,e1,e2,e3,e4,by rw[←e5,h2]⟩
 ·rintro⟨r,hr,e1,e2,e3,e4,e5⟩;refine⟨?_,?_⟩
  ·rw[Zf1,e1,Hb (by omega),Hn,Hj hr];simp[e2,e3,e4]
  ·rw[ZgA,e1,Hn,Hj hr];exact e5
theorem symL_mem {L:ZoM} {s:Int} {i m:Nat} {K:List (List Tree)} {l:List Tree}:l∈symL L w s i m K↔(∃ sn:Nat,s=(sn:Int)∧∃ t k,t∈L sn i m∧k∈K∧l=t::k)∨(s < 0∧m=i+1∧w[i]? = some (-1 - s)∧l∈K):=by
 unfold symL;by_cases h:0≤s
 ·rw[Hb h];obtain⟨sn,rfl⟩:∃ sn:Nat,s=(sn:Int):=⟨s.toNat,by omega⟩
  simp only[G0,Gv,Hn];constructor
  ·rintro⟨t,ht,k,hk,rfl⟩;exact .inl ⟨sn,rfl,t,k,ht,hk,rfl⟩
  ·rintro (⟨sn',e,t,k,ht,hk,rfl⟩|⟨h1,_⟩)
   ·obtain rfl:sn=sn':=(by omega);exact⟨t,ht,k,hk,rfl⟩
   ·omega
 ·rw[Ha h];by_cases h2:m=i+1∧w[i]? = some (-1 - s)
  ·rw[Hb h2];constructor
   ·intro hl;exact .inr ⟨by omega,h2.1,h2.2,hl⟩
   ·rintro (⟨sn,e,_⟩|⟨_,_,_,hl⟩)
    ·omega
    ·exact hl
  ·rw[Ha h2];constructor
   ·intro hl;cases hl
   ·rintro (⟨sn,e,_⟩|⟨_,h3,h4,_⟩)
    ·omega
    ·exact absurd ⟨h3,h4⟩ h2
theorem Zib {L:ZoM} {j:Nat} (hj:j≤w.length) {P:Tree→Prop} (hL:∀ v i m x,i≤m→m≤j→P x→(x∈L v i m↔IsT g w v i m x)):∀ (r:List Int) (i:Nat) (l:List Tree),(∀ x∈l,P x)→i≤j→(l∈seqL L w r i j↔IsR g w r i j l)
 | [],i,l,_,hij=>by
  rw[Zza hij hj,seqL];by_cases h:i=j
  ·rw[Hb h];simp[h]
  ·rw[Ha h];simp[h]
 | s::r,i,l,hP,hij=>by
  rw[seqL];simp only[G0,Jc];by_cases hs:s < 0
  ·rw[Zt6 hs hij hj];constructor
   ·rintro⟨m,hm,hl⟩;split at hl
    ·rcases symL_mem.1 hl with ⟨sn,e,_⟩|⟨_,e1,e2,e3⟩
     ·omega
     ·subst e1;exact⟨by omega,e2,(Zib hj hL r (i+1) l hP (by omega)).1 e3⟩
    ·cases hl
   ·rintro⟨h1,h2,h3⟩;refine⟨i+1,by omega,?_⟩;rw[Hb (by omega)];exact symL_mem.2 (.inr ⟨hs,rfl,h2,(Zib hj hL r (i+1) l hP h1).2 h3⟩)
  ·obtain⟨sn,rfl⟩:∃ sn:Nat,s=(sn:Int):=⟨s.toNat,by omega⟩
   rw[Zzb hij hj];constructor
   ·rintro⟨m,hm,hl⟩;split at hl
    ·rename_i him;rcases symL_mem.1 hl with ⟨sn',e,t,k,ht,hk,rfl⟩|⟨h1,_⟩
     ·obtain rfl:sn=sn':=(by omega);exact⟨m,t,k,rfl,him,by omega,(hL sn i m t him (by omega) (hP t (by simp))).1 ht,(Zib hj hL r m k (fun x hx=>hP x (by simp[hx])) (by omega)).1 hk⟩
     ·omega
    ·cases hl
   ·rintro⟨m,x,k,rfl,h1,h2,h3,h4⟩;refine⟨m,by omega,?_⟩;rw[Hb h1];exact symL_mem.2 (.inl ⟨sn,rfl,x,k,(hL sn i m x h1 h2 (hP x (by simp))).2 h3,(Zib hj hL r m k (fun x hx=>hP x (by simp[hx])) h2).2 h4,rfl⟩)
theorem treesH_step {H v i j:Nat} {x:Tree}:x∈ZdP g w (H+1) v i j↔∃ r,∃ h:r < g.Aa.length,x.rule=(r:Int)∧g.Aa[r].left=(v:Int)∧x.Ab∈seqL (ZdP g w H) w g.Aa[r].right i j:=by
 rw[ZdP];simp only[G0,Jc];constructor
 ·rintro⟨r,hr,hx⟩;rw[Hj hr] at hx;dsimp only at hx;split at hx
  ·rename_i e;obtain⟨l,hl,rfl⟩:=List.mem_map.1 hx;exact⟨r,hr,rfl,e,hl⟩
  ·cases hx
 ·rintro⟨r,hr,e1,e2,e3⟩;refine⟨r,hr,?_⟩;rw[Hj hr];dsimp only;rw[Hb e2];exact List.mem_map.2 ⟨x.Ab,e3,by rw[←e1];exact (Tree.eta x).symm⟩
theorem ZeF:∀ (H v i j:Nat) (x:Tree),i≤j→j≤w.length→x∈ZdP g w H v i j→IsT g w v i j x
 | 0,_,_,_,_,_,_,h=>by cases h
 | H+1,v,i,j,x,hij,hj,h=>by
  obtain⟨r,hr,e1,e2,e3⟩:=treesH_step.1 h;refine isT_iff.2 ⟨r,hr,e1,e2,?_⟩;clear h e1 e2;have hs:=fun v i m x h1 h2=>ZeF H v i m x h1 h2
  have key:∀ (rs:List Int) (i:Nat) (l:List Tree),i≤j→l∈seqL (ZdP g w H) w rs i j→IsR g w rs i j l:=by
   intro rs
   induction rs with
   | nil =>
    intro i l hij h;rw[seqL] at h;split at h
    ·rename_i e;rw[Zza hij hj];simpa[e] using h
    ·cases h
   | cons s rs ih =>
    intro i l hij h;rw[seqL] at h;simp only[G0,Jc] at h;obtain⟨m,hm,hl⟩:=h;split at hl
    ·rename_i him;rcases symL_mem.1 hl with ⟨sn,rfl,t,k,ht,hk,rfl⟩|⟨h1,e1,e2,e3⟩
     ·exact (Zzb hij hj).2 ⟨m,t,k,rfl,him,by omega,hs sn i m t him (by omega) ht,ih m k (by omega) hk⟩
     ·subst e1;exact (Zt6 h1 hij hj).2 ⟨by omega,e2,ih _ l (by omega) e3⟩
    ·cases hl
  exact key _ _ _ hij e3
theorem Zm7:∀ (H v i j:Nat) (x:Tree),i≤j→j≤w.length→cnt x≤H→IsT g w v i j x→x∈ZdP g w H v i j
 | 0,_,_,_,x,_,_,h,_=>by have:=Zf0 x;omega
 | H+1,v,i,j,x,hij,hj,hc,h=>by
  obtain⟨r,hr,e1,e2,e3⟩:=isT_iff.1 h;refine treesH_step.2 ⟨r,hr,e1,e2,?_⟩;rw[ZcB] at hc;exact (Zib hj (P:=fun t=>cnt t≤H) (fun v i m t h1 h2 h3=>⟨fun q=>ZeF H v i m t h1 (by omega) q,fun q=>Zm7 H v i m t h1 (by omega) h3 q⟩) _ i x.Ab (fun t ht=>by have:=Zbn ht;omega) hij).2 e3
theorem Zzc {v i j:Nat} {x:Tree} (h:IsT g w v i j x) (hij:i≤j) (hj:j≤w.length):(Zbo g x).length=j - i:=by rw[h.2,ZkV hij hj]
theorem Zm8 {L:ZoM} {j:Nat} (hj:j≤w.length) (hS:∀ v i m x,i≤m→m≤j→x∈L v i m→IsT g w v i m x) (hN:∀ v i m,i≤m→m≤j→(L v i m).Nodup):∀ (r:List Int) (i:Nat),i≤j→(seqL L w r i j).Nodup
 | [],i,_=>by rw[seqL];split <;> simp
 | s::r,i,hij=>by
  rw[seqL];unfold List.Nodup;rw[G1];refine⟨fun m hm=>?_,?_⟩
  ·have hm:=List.mem_range.1 hm;by_cases him:i≤m
   ·rw[Hb him];have ih:=Zm8 hj hS hN r m (by omega);unfold symL;split
    ·rw[G1];refine⟨fun t _=>?_,?_⟩
     ·rw[Ge];exact ih.imp fun h q=>h (HY q).2
     ·refine (hN _ i m him (by omega)).imp fun h=>?_
      intro x hx y hy;obtain⟨k,_,rfl⟩:=List.mem_map.1 hx;obtain⟨k',_,rfl⟩:=List.mem_map.1 hy;exact fun q=>h (HY q).1
    ·split
     ·exact ih
     ·exact H7
   ·rw[Ha him];exact H7
  ·refine (JR).imp_of_mem fun {a b} ha hb hab=>?_
   have ha:=List.mem_range.1 ha;have hb:=List.mem_range.1 hb;intro x hx y hy hxy;subst hxy;split at hx
   ·split at hy
    ·rename_i h1 h2;rcases symL_mem.1 hx with ⟨sn,rfl,t,k,ht,hk,rfl⟩|⟨q1,e1,e2,e3⟩
     ·rcases symL_mem.1 hy with ⟨sn',e,t',k',ht',hk',e'⟩|⟨q1,_⟩
      ·obtain rfl:sn=sn':=(by omega);obtain⟨rfl,rfl⟩:=HY e';have l1:=Zzc (hS sn i a t h1 (by omega) ht) h1 (by omega);have l2:=Zzc (hS sn i b t h2 (by omega) ht') h2 (by omega);omega
      ·omega
     ·rcases symL_mem.1 hy with ⟨sn',e,_⟩|⟨_,e1',_⟩
      ·omega
      ·omega
    ·cases hy
   ·cases hx
theorem Zjq:∀ (H v i j:Nat),i≤j→j≤w.length→(ZdP g w H v i j).Nodup
 | 0,_,_,_,_,_=>H7
 | H+1,v,i,j,hij,hj=>by
  rw[ZdP];unfold List.Nodup;rw[G1];refine⟨fun r hr=>?_,?_⟩
  ·have hr:=List.mem_range.1 hr;rw[Hj hr];dsimp only;split
   ·rw[Ge];have:=Zm8 hj (fun v i m x h1 h2 h3=>ZeF H v i m x h1 (by omega) h3) (fun v i m h1 h2=>Zjq H v i m h1 (by omega)) g.Aa[r].right i hij;exact this.imp fun h q=>h (Tree.mk.inj q).2
   ·exact H7
  ·refine (JR).imp_of_mem fun {a b} ha hb hab=>?_
   have ha:=List.mem_range.1 ha;have hb:=List.mem_range.1 hb;rw[Hj ha,Hj hb];dsimp only;intro x hx y hy hxy;subst hxy;split at hx
   ·split at hy
    ·obtain⟨k,_,rfl⟩:=List.mem_map.1 hx;obtain⟨k',_,e⟩:=List.mem_map.1 hy;have:=(Tree.mk.inj e).1;omega
    ·cases hy
   ·cases hx
theorem Zic {α:Type} [DecidableEq α]:∀ {l m:List α},l.Nodup→(∀ x∈l,x∈m)→l.length≤m.length
 | [],_,_,_=>by simp
 | x::l,m,h,hs=>by
  obtain⟨h1,h2⟩:=List.pairwise_cons.1 h;have:=Zic (m:=m.erase x) h2 (fun y hy=>(List.mem_erase_of_ne (fun e=>h1 y hy e.symm)).2 (hs y (by simp[hy])));rw[List.length_erase_of_mem (hs x (by simp))] at this;have:=List.length_pos_of_mem (hs x (by simp));simp only[Hl];omega
theorem ZvL (l:List Tree):∃ H,∀ x∈l,cnt x≤H:=⟨cnts l,fun _ h=>Zbn h⟩
theorem ZBF (hg:g.ok) {M v i j:Nat} (hv:(v:Int) < g.vars) (hij:i≤j) (hj:j≤w.length) {l:List Tree} (hd:l.Nodup) (hl:∀ x∈l,IsT g w v i j x):min M l.length≤Ak g w M v i j:=by
 classical
 obtain⟨H,hH⟩:=ZvL l;have h1:l.length≤(ZdP g w (many g w M+H) v i j).length:=Zic hd fun x hx=>Zm7 _ v i j x hij hj (by have:=hH x hx;omega) (hl x hx)
 have h2:=Zhd hg (M:=M) (many g w M+H) v i j hv hij hj;have h3:=ZhG (g:=g) (w:=w) (M:=M) (k:=many g w M) (ZnH g w M) H;rw[h3] at h2;show _≤rnds g w M (many g w M) v i j;omega
theorem ZBG (hg:g.ok) {M v i j:Nat} (hv:(v:Int) < g.vars) (hij:i≤j) (hj:j≤w.length):∃ l:List Tree,l.Nodup∧(∀ x∈l,IsT g w v i j x)∧Ak g w M v i j≤l.length:=by
 refine⟨ZdP g w (many g w M) v i j,Zjq _ v i j hij hj,fun x hx=>ZeF _ v i j x hij hj hx,?_⟩;have h2:=Zhd hg (M:=M) (many g w M) v i j hv hij hj;show rnds g w M (many g w M) v i j≤_;omega
end Go.Proofs.YtbpmepgnjanhnaaGreat
namespace Go.Proofs.YtbpmepgnjanhnaaGreat
open Go.RowKit
section
variable {g:Ac} {w:List Int}
abbrev stN (g:Ac):Nat:=g.start.toNat
theorem Ac.ok.stN (h:g.ok):((stN g:Nat):Int)=g.start:=by have:=h.start0;unfold Go.Proofs.YtbpmepgnjanhnaaGreat.stN;omega
def IsW (g:Ac) (w:List Int) (x:Tree):Prop:=fits g x g.start=true∧Zbo g x=w
theorem Zsh (hg:g.ok) {x:Tree}:IsW g w x↔IsT g w (stN g) 0 w.length x:=by
 unfold IsW IsT;rw[hg.stN,ZCM]
theorem Zj1 (hg:g.ok) {l:List Tree} (hd:l.Nodup) (hl:∀ x∈l,IsW g w x):min Zae l.length≤cntF g w :=
 ZBF hg (by rw[hg.stN];exact hg.start) (Hh _) (Hg _) hd (fun x hx=>(Zsh hg).1 (hl x hx))
theorem Zt7 (hg:g.ok):∃ l:List Tree,l.Nodup∧(∀ x∈l,IsW g w x)∧cntF g w≤l.length:=by
 obtain⟨l,h1,h2,h3⟩:=ZBG (w:=w) hg (M:=Zae) (v:=stN g) (by rw[hg.stN];exact hg.start) (Hh _) (Hg _);exact⟨l,h1,fun x hx=>(Zsh hg).2 (h2 x hx),h3⟩
theorem Zzd (g:Ac) (w:List Int):cntF g w≤Zae:=ZgT g w Zae _ _ _
theorem Zze {h:Ac} (hg:g.ok) (hh:h.ok) (f:Tree→Tree) (f1:∀ x,IsW h w x→IsW g w (f x)) (f2:∀ x y,IsW h w x→IsW h w y→f x=f y→x=y) (f3:∀ y,IsW g w y→∃ x,IsW h w x∧f x=y):cntF h w=cntF g w:=by
 have a1:=Zzd g w;have a2:=Zzd h w;have b1:cntF h w≤cntF g w:=by
  obtain⟨l,h1,h2,h3⟩:=Zt7 (w:=w) hh;have:(l.map f).Nodup:=by
   unfold List.Nodup;rw[Ge];exact GA (fun ha hb hne q=>hne (f2 _ _ (h2 _ ha) (h2 _ hb) q)) h1
  have:=Zj1 hg this (fun x hx=>by obtain⟨y,hy,rfl⟩:=List.mem_map.1 hx;exact f1 y (h2 y hy));rw[Hi] at this;omega
 have b2:cntF g w≤cntF h w:=by
  classical
  obtain⟨l,h1,h2,h3⟩:=Zt7 (w:=w) hg
  let b:Tree→Tree:=fun y=>if q:IsW g w y then (f3 y q).choose else y
  have hb:∀ y,IsW g w y→IsW h w (b y)∧f (b y)=y:=fun y hy=>by
   have e:b y=(f3 y hy).choose:=dif_pos hy;rw[e];exact (f3 y hy).choose_spec
  have:(l.map b).Nodup:=by
   unfold List.Nodup;rw[Ge];exact GA (fun {x y} ha hb' hne q=>hne (by rw[←(hb x (h2 _ ha)).2,←(hb y (h2 _ hb')).2,q])) h1
  have:=Zj1 hh this (fun x hx=>by obtain⟨y,hy,rfl⟩:=List.mem_map.1 hx;exact (hb y (h2 y hy)).1);rw[Hi] at this;omega
 omega
theorem Zt8:∀ (n k:Nat) (acc:List Tree),(ZdE g w n k acc).2.code=0→(ZdE g w n k acc).1.length=acc.length+n∧(∀ i,∀ h:i < acc.length,(ZdE g w n k acc).1[i]? = some acc[i])∧(∀ i,i < n→(atF g w (k+i)).2.1.code=0∧(ZdE g w n k acc).1[acc.length+i]? = some (atF g w (k+i)).1)
 | 0,k,acc,h=>by
  rw[ZdE];exact⟨rfl,fun i hi=>Hj hi,fun i hi=>by omega⟩
 | n+1,k,acc,h=>by
  rw[ZdE] at h ⊢;by_cases hc:(atF g w k).2.1.code=0
  ·rw[Hb hc] at h ⊢;obtain⟨h1,h2,h3⟩:=Zt8 n (k+1) (acc++[(atF g w k).1]) h;rw[Hk,HS] at h1 h3;refine⟨by omega,fun i hi=>?_,fun i hi=>?_⟩
   ·rw[h2 i (by simp;omega),Jp hi]
   ·cases i with
    | zero =>
     refine⟨hc,?_⟩;have:=h2 acc.length (by simp);simpa using this
    | succ i =>
     obtain⟨q1,q2⟩:=h3 i (by omega);rw[show k+(i+1)=k+1+i by omega,show acc.length+(i+1)=acc.length+1+i by omega];exact⟨q1,q2⟩
  ·rw[Ha hc] at h;exact absurd h hc
theorem ZlB:∀ (n k:Nat) (acc:List Tree),¬ (ZdE g w n k acc).2.code=0→(ZdE g w n k acc)=([],⟨6, -1⟩)
 | 0,k,acc,h=>absurd rfl h
 | n+1,k,acc,h=>by
  rw[ZdE] at h ⊢;by_cases hc:(atF g w k).2.1.code=0
  ·rw[Hb hc] at h ⊢;exact ZlB n (k+1) _ h
  ·rw[Ha hc];unfold atF at hc ⊢;split at hc
   ·exact absurd rfl hc
   ·rfl
theorem ZEE {k:Nat} (h:(atF g w k).2.1.code=0):∃ L,Zdi g (Ak g w Zae) w 400 g.start.toNat 0 w.length k 400=some ((atF g w k).1,L):=by
 unfold atF at h ⊢;split
 ·rename_i x L e;exact⟨L,e⟩
 ·rename_i e;rw[e] at h;simp at h
structure ListOk (g:Ac) (w:List Int) (l:List Tree):Prop where
 ch:ChOk g w
 few:cntF g w≤200
 len:l.length=cntF g w
 at_:∀ k,∀ h:k < l.length,∃ L,Zdi g (Ak g w Zae) w 400 g.start.toNat 0 w.length k 400=some (l[k],L)
theorem Zbg (h:(Zaw g w).2.code=0):ListOk g w (Zaw g w).1:=by
 have e:Zaw g w=if (opF g w).code=0 then (if 200 < cntF g w then ([],⟨6, -1⟩) else ZdE g w (cntF g w) 0 []) else ([],opF g w):=rfl
 rw[e] at h ⊢;by_cases hc:(opF g w).code=0
 ·rw[Hb hc] at h ⊢;by_cases hm:200 < cntF g w
  ·rw[Hb hm] at h;simp at h
  ·rw[Ha hm] at h ⊢;obtain⟨h1,h2,h3⟩:=Zt8 _ _ _ h;simp only[HB,HE] at h1 h3;refine⟨(Zp9 hc).1,by omega,h1,fun k hk=>?_⟩;obtain⟨q1,q2⟩:=h3 k (by omega);obtain⟨L,e⟩:=ZEE q1;rw[Hj hk] at q2;exact⟨L,by rw[e,GF q2]⟩
 ·rw[Ha hc] at h;exact absurd h hc
theorem ListOk.spec {l:List Tree} (h:ListOk g w l) {k:Nat} (hk:k < l.length):IsW g w l[k]∧cnt l[k]≤400∧rkT g (Ak g w Zae) w l[k] 0 w.length=k:=by
 obtain⟨L,e⟩:=h.at_ k hk;have hg:=h.ch.ok;have hl:=h.len;have hf:=h.few;have hcn:cntF g w=Ak g w Zae (stN g) 0 w.length:=rfl;have hmC:Zae=4611686018427387904:=rfl;obtain⟨h1,h2,h3,h4⟩:=Zmz hg (ZkW g w Zae) 400 (stN g) 0 w.length k 400 (l[k],L) (by rw[hg.stN];exact hg.start) (Hh _) (Hg _) (by omega) (by omega) e;dsimp only at h1 h2 h3 h4;exact⟨(Zsh hg).2 ⟨h1,h2⟩,by omega,h3⟩
theorem ListOk.nodup {l:List Tree} (h:ListOk g w l):l.Nodup:=by
 unfold List.Nodup;rw[JO];intro i j hi hj hij e;have h1:=(h.spec hi).2.2;have h2:=(h.spec hj).2.2;rw[e] at h1;omega
theorem ListOk.mem {l:List Tree} (h:ListOk g w l) {x:Tree} (hx:x∈l):IsW g w x∧cnt x≤400:=by
 obtain⟨k,hk,rfl⟩:=List.mem_iff_getElem.1 hx;exact⟨(h.spec hk).1,(h.spec hk).2.1⟩
theorem ListOk.all {l:List Tree} (h:ListOk g w l) {x:Tree} (hx:IsW g w x):x∈l:=HN fun hn=>by
 have h1:=Zj1 h.ch.ok (l:=x::l) (List.pairwise_cons.2 ⟨fun y hy e=>hn (e ▸ hy),h.nodup⟩) (fun y hy=>by
  rcases List.mem_cons.1 hy with rfl|hy
  ·exact hx
  ·exact (h.mem hy).1)
 have h2:=h.len;have h3:=h.few;have hmC:Zae=4611686018427387904:=rfl;rw[Hl] at h1;omega
end
def insT (x:Tree):List Tree→List Tree
 | []=>[x]
 | y::l=>if (y::l).all (fun z=>decide (0 < ordT z x)) then x::y::l else y::insT x l
def Zcg (l:List Tree):List Tree:=l.foldl (fun a x=>insT x a) []
theorem Zfb (x:Tree):∀ l,(insT x l).Perm (x::l)
 | []=>List.Perm.refl _
 | y::l=>by
  rw[insT];split
  ·exact List.Perm.refl _
  ·exact ((Zfb x l).cons y).trans (List.Perm.swap x y l)
def LeT (a b:Tree):Prop:=ordT a b≤0
theorem ZlC (x:Tree):∀ l,l.Pairwise LeT→(insT x l).Pairwise LeT
 | [],_=>List.pairwise_cons.2 ⟨fun _ h=>(nomatch h),H7⟩
 | y::l,h=>by
  rw[insT];split
  ·rename_i hall;simp only[HR,HZ] at hall;refine List.pairwise_cons.2 ⟨fun z hz=>?_,h⟩;have:=hall z hz;have:=ZdU x z;unfold LeT;omega
  ·rename_i hall;obtain⟨h1,h2⟩:=List.pairwise_cons.1 h;refine List.pairwise_cons.2 ⟨fun z hz=>?_,ZlC x l h2⟩;rcases List.mem_cons.1 ((Zfb x l).mem_iff.1 hz) with rfl|hz
   ·refine HN fun hn=>hall ?_
    simp only[HR,HZ];intro q hq;rcases List.mem_cons.1 hq with rfl|hq
    ·unfold LeT at hn;omega
    ·have h3:=h1 q hq;unfold LeT at h3 hn;refine HN fun h4=>hn (Zgo y q z h3 (by omega))
   ·exact h1 z hz
theorem Zm9:∀ (l a:List Tree),(l.foldl (fun a x=>insT x a) a).Perm (a++l)
 | [],a=>by rw[Ht];exact List.Perm.refl _
 | x::l,a=>by
  rw[List.foldl_cons];refine (Zm9 l _).trans ?_;refine ((Zfb x a).append_right l).trans ?_;exact (List.perm_middle).symm
theorem Zjr:∀ (l a:List Tree),a.Pairwise LeT→(l.foldl (fun a x=>insT x a) a).Pairwise LeT
 | [],a,h=>h
 | x::l,a,h=>by rw[List.foldl_cons];exact Zjr l _ (ZlC x a h)
theorem ZcV (l:List Tree):(Zcg l).Perm l:=by have:=Zm9 l [];rwa [H3] at this
theorem Zgd (l:List Tree):(Zcg l).Pairwise LeT:=Zjr l [] H7
theorem ZfF:∀ {a b:List Tree},a.Perm b→a.Pairwise LeT→b.Pairwise LeT→a=b
 | [],b,h,_,_=>(List.nil_perm.1 h).symm
 | x::a,[],h,_,_=>by have:=h.length_eq;simp at this
 | x::a,y::b,h,h1,h2=>by
  obtain⟨p1,p2⟩:=List.pairwise_cons.1 h1;obtain⟨q1,q2⟩:=List.pairwise_cons.1 h2;have e:x=y:=by
   rcases List.mem_cons.1 (h.mem_iff.1 (HT (a:=x))) with e|hx
   ·exact e
   ·rcases List.mem_cons.1 (h.mem_iff.2 (HT (a:=y))) with e|hy
    ·exact e.symm
    ·have h3:=p1 y hy;have h4:=q1 x hx;have h5:=ZdU x y;unfold LeT at h3 h4;exact Ze4 x y (by omega)
  subst e;rw[ZfF (List.Perm.cons_inv h) p2 q2]
theorem Zna {a b:List Tree} (h:a.Perm b):Zcg a=Zcg b:=ZfF ((ZcV a).trans (h.trans (ZcV b).symm)) (Zgd a) (Zgd b)
theorem Zsi {α:Type} [DecidableEq α]:∀ {l m:List α},l.Nodup→(∀ x∈l,x∈m)→m.length≤l.length→l.Perm m
 | [],m,_,_,h=>by
  rw[HX (l:=m) (by simpa using h)]
 | x::l,m,h,hs,hlen=>by
  obtain⟨h1,h2⟩:=List.pairwise_cons.1 h;have hx:x∈m:=hs x (by simp);have:=Zsi (l:=l) (m:=m.erase x) h2 (fun y hy=>(List.mem_erase_of_ne (fun e=>h1 y hy e.symm)).2 (hs y (by simp[hy]))) (by rw[List.length_erase_of_mem hx];simp only[Hl] at hlen;omega);exact (this.cons x).trans (List.perm_cons_erase hx).symm
theorem ZvM {g h:Ac} {w:List Int} {l m:List Tree} (hl:ListOk g w l) (hm:ListOk h w m) (f:Tree→Tree) (f1:∀ x,IsW h w x→IsW g w (f x)) (f2:∀ x y,IsW h w x→IsW h w y→f x=f y→x=y) (hc:cntF h w=cntF g w):Zcg (m.map f)=Zcg l:=by
 classical
 refine Zna (Zsi ?_ (fun x hx=>?_) ?_)
 ·unfold List.Nodup;rw[Ge];exact GA (fun ha hb hne q=>hne (f2 _ _ (hm.mem ha).1 (hm.mem hb).1 q)) hm.nodup
 ·obtain⟨y,hy,rfl⟩:=List.mem_map.1 hx;exact hl.all (f1 y (hm.mem hy).1)
 ·rw[Hi,hl.len,hm.len,hc];exact Hg _
end Go.Proofs.YtbpmepgnjanhnaaGreat
