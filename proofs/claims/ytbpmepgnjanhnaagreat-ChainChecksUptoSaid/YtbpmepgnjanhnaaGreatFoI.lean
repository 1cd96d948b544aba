import Derived.Test.YtbpmepgnjanhnaaGreatQSpD
set_option linter.unusedVariables false
set_option linter.unusedSimpArgs false
set_option linter.unusedSectionVars false
namespace Go.Proofs.YtbpmepgnjanhnaaGreat
open Go.RowKit
set_option maxRecDepth 100000
section
variable {t u:Bool} {g:Gram} {w:List Int}
theorem Zsx {M a b c:Nat} (h1:a * b≤c) (h2:c < M):a * min M b=a * b:=by
 cases a with
 | zero=>rw[Nat.zero_mul,Nat.zero_mul]
 | succ a =>
  have:1 * b≤(a+1) * b:=Nat.mul_le_mul_right _ (by omega)
  rw[Nat.min_eq_right (by omega)]
set_option maxHeartbeats 4000000 in
theorem Zsy (hC:ChOk g w) {d:Nat} (hd:d≤1000) (hT:∀ v i m k L,((v:Nat):Int) < g.vars→i≤m→m≤w.length→L≤d→k < wcns g w Zac v i m→wcns g w Zac v i m < Zac→Zu0 (buHN t u g w (wcns g w Zac)) 101 [.ptr 1000 0,I (v:Nat),I (i:Nat),I (m:Nat),I (k:Nat)] L (Zbq g (wcns g w Zac) w d v i m k L))
  (hTL:∀ v i m k L x,Zbq g (wcns g w Zac) w d v i m k L=some x→L≤d→x.2≤d) :
  ∀ (rs:List Int) (i j k L:Nat),rs.length≤10→(∀ s∈rs,s < g.vars ∧ -1000000≤s)→i≤j→j≤w.length→L≤d→k < wcn (wcns g w Zac) w rs i j→wcn (wcns g w Zac) w rs i j < Zac →
   Zv4 (buHN t u g w (wcns g w Zac)) 179 [.ptr 1000 0,.d (ints t rs),I (i:Nat),I (j:Nat),I (k:Nat)] L rs.length (rowF (wcns g w Zac) w (Zbq g (wcns g w Zac) w d) j rs i k L):=by
 intro rs
 induction rs with
 | nil =>
  intro i j k L hrl hrs hij hj hL hk hM
  rw[rowF]
  refine⟨[],true,L,.inl ⟨rfl,rfl⟩,Nat.zero_le _,?_⟩
  simp only[buHN]
  generalize wcns g w Zac=N at *
  refine ACalls.intro (n:=96) Tryz.func179 rfl rfl (by simp) (by rfl) ?_
  simp only[Zak]
  repeat (first|refine wk ?_|refine Zaa (hr:=?_))
  exact Fin.r2 rfl (.of_tmp rfl) (.of_tmp rfl) (Co.tup ⟨Co.nil false 2,Co.refl _,trivial⟩) ⟨HElt.of rfl,HElt.of rfl,trivial⟩ rfl
 | cons s r ih =>
 intro i j k L hrl hrs hij hj hL hk hM
 obtain⟨s1,s2⟩:=hC.small
 have hg:=hC.ok
 have hlen:=hC.len
 have hvm:=hg.vars
 have hN:=fun v i j=>Zd5 g w Zac v i j
 have hs:=hrs s (by simp)
 have hr:=fun x (h:x∈r)=>hrs x (by simp[h])
 simp only[List.length_cons] at hrl
 have hw1:=fun (m:Nat) (h:i≤m) (h2:m≤w.length)=>ZgP (g:=g) (t:=t) (u:=u) (v':=t) (w:=w) (rs:=[s]) (M:=Zac) (N:=wcns g w Zac) (i:=i) (j:=m) (by omega) (by simp) (by decide) (by decide) hN s1 s2 (fun x hx=>by rw[List.mem_singleton.1 hx];exact hs) h h2
 have hw2:=fun (m:Nat) (h:m≤j)=>ZgP (g:=g) (t:=t) (u:=u) (v':=t) (w:=w) (rs:=r) (M:=Zac) (N:=wcns g w Zac) (i:=m) (j:=j) (by omega) (by omega) (by decide) (by decide) hN s1 s2 hr h hj
 have hsy:∀ m,symN (wcns g w Zac) w s i m≤Zac:=fun m=>by
  unfold symN
  split
  ·exact hN _ _ _
  ·split
   ·decide
   ·decide
 have hw1':=fun (m:Nat) (h:i≤m) (h2:m≤w.length)=>by
  have h3:=hw1 m h h2
  rw[ZgT (by decide) h,Zur h,Nat.min_eq_right (hsy m)] at h3
  exact h3
 have hw2':=fun (m:Nat) (h:m≤j)=>by
  have h3:=hw2 m h
  rw[ZgT (by decide) h] at h3
  exact h3
 clear hw1 hw2
 obtain⟨m0,a0,e,h1,h2,h3,h4⟩:=ZhM hk hij
 have hpm:∀ m,i≤m→m≤m0→symN (wcns g w Zac) w s i m * min Zac (wcn (wcns g w Zac) w r m j)=symN (wcns g w Zac) w s i m * wcn (wcns g w Zac) w r m j:=fun m q1 q2=>Zsx (ZmV q1 (by omega)) hM
 have hle:=fun m (q1:i≤m) (q2:m≤m0)=>ZmV (N:=wcns g w Zac) (w:=w) (s:=s) (r:=r) q1 (show m≤j by omega)
 have hF1:∀ m,i≤m→sumN (m+1) (fM (wcns g w Zac) w s r i j)=sumN m (fM (wcns g w Zac) w s r i j)+symN (wcns g w Zac) w s i m * wcn (wcns g w Zac) w r m j:=fun m m1=>by
  show sumN m _+fM (wcns g w Zac) w s r i j m=_
  unfold fM;rw[if_pos m1]
 have hFu:∀ m,m≤m0→sumN m (fM (wcns g w Zac) w s r i j)+a0≤k:=fun m m1=>by
  have:=ZhL (F:=fM (wcns g w Zac) w s r i j) m1
  omega
 have hF0:sumN i (fM (wcns g w Zac) w s r i j)=0:=Zls (Nat.le_refl _)
 rw[rowF,e]
 dsimp only
 obtain⟨Q,hQ⟩:∃ Q:Int,Q=4611686018427387904:=⟨_,rfl⟩
 have hkM:((k:Nat):Int) < Q:=by have hmC:Zac=4611686018427387904:=rfl;omega
 have hq0:0 < wcn (wcns g w Zac) w r m0 j:=Nat.pos_of_ne_zero fun q=>by rw[q,Nat.mul_zero] at h3;omega
 have hn0:0 < symN (wcns g w Zac) w s i m0:=Nat.pos_of_ne_zero fun q=>by rw[q,Nat.zero_mul] at h3;omega
 have hb1:symN (wcns g w Zac) w s i m0 * 1≤symN (wcns g w Zac) w s i m0 * wcn (wcns g w Zac) w r m0 j:=Nat.mul_le_mul_left _ hq0
 have hb2:1 * wcn (wcns g w Zac) w r m0 j≤symN (wcns g w Zac) w s i m0 * wcn (wcns g w Zac) w r m0 j:=Nat.mul_le_mul_right _ hn0
 have hle0:=hle m0 h1 (Nat.le_refl _)
 have hqM:min Zac (wcn (wcns g w Zac) w r m0 j)=wcn (wcns g w Zac) w r m0 j:=Nat.min_eq_right (by omega)
 by_cases hs0:s < 0
 ·obtain⟨l,b,L2,hout,hl,hi⟩:=ih m0 j (a0 % wcn (wcns g w Zac) w r m0 j) L (by omega) hr h2 hj hL (Nat.mod_lt _ hq0) (by omega)
  refine⟨l,b,L2,?_,by simp only[List.length_cons];omega,?_⟩
  ·rw[if_pos hs0];exact hout
  clear hout
  simp only[buHN,buBx] at *
  generalize wcns g w Zac=N at *
  refine ACalls.intro (n:=96) Tryz.func179 rfl rfl (by simp) (by rfl) ?_
  simp only[Zak]
  repeat (first|refine wk ?_|refine Zaa (hr:=?_))
  refine Zai (X:=Nat) (fun m=>i≤m∧m≤m0) (fun m=>[(12,I m),(10,.d (.raw (.slice none 0 0))),(11,B false),(0,.ptr 1000 0),(1,.d (ints t (s::r))),(2,I i),(3,I j),(4,I ((k - sumN m (fM N w s r i j):Nat):Int))]) (fun _=>[(1000,buBx 1001 L),(1001,ctBx t u g w Zac N)]) (fun m=>m0 - m) i ⟨Nat.le_refl _,h1⟩ ?_ (hf:=⟨.of rfl,.of rfl,.of rfl,.of rfl,.of rfl,.of rfl,.of rfl,VLe.of (by rw[hF0];rfl),trivial⟩)
  rintro m ⟨m1,m2⟩
  have hmj:m≤j:=by omega
  have q1:=hw1' m m1 (by omega)
  have q2:=hw2' m hmj
  replace q1:ACalls Tryz.prog 176 [.ptr 1000 0,.d (.sl t 1 (List.drop 0 (List.take 1 (List.map iD (s::r))))),I (i:Nat),I (m:Nat)] [(1000,ctBx t u g w Zac N)] (I ((symN N w s i m:Nat):Int)) [(1000,ctBx t u g w Zac N)]:=q1
  replace q2:ACalls Tryz.prog 176 [.ptr 1000 0,.d (.sl t 1 (List.drop 1 (List.map iD (s::r)))),I (m:Nat),I (j:Nat)] [(1000,ctBx t u g w Zac N)] (I ((min Zac (wcn N w r m j):Nat):Int)) [(1000,ctBx t u g w Zac N)]:=q2
  have q3:=hpm m m1 m2
  have q4:=hle m m1 m2
  by_cases hm:m < m0
  ·have hu:=hFu (m+1) hm
   have hu1:=hF1 m m1
   have ea:((k - sumN m (fM N w s r i j):Nat):Int) - (symN N w s i m * wcn N w r m j:Nat)=((k - sumN (m+1) (fM N w s r i j):Nat):Int):=by omega
   have hac:((symN N w s i m * wcn N w r m j:Nat):Int)≤((k - sumN m (fM N w s r i j):Nat):Int):=by omega
   have hb:((k - sumN m (fM N w s r i j):Nat):Int) < Q:=by omega
   have em:((symN N w s i m:Nat):Int) * ((min Zac (wcn N w r m j):Nat):Int)=((symN N w s i m * wcn N w r m j:Nat):Int):=by rw[←q3,Int.natCast_mul]
   (try clear hsym hsn')
   clear hw1' hw2' hpm hle hF1 hFu hu hu1 hF0 q3 q4 hn0 hq0 hb1 hb2 hle0 hqM h3 h4 e hsy ih hi
   generalize symN N w s i m * wcn N w r m j=c at *
   generalize symN N w s i m=c1 at *
   generalize min Zac (wcn N w r m j)=c2 at *
   generalize k - sumN m (fM N w s r i j)=c3 at *
   generalize hc4:k - sumN (m+1) (fM N w s r i j)=c4 at *
   have hmb:(c1:Int) * (c2:Int) < Q:=by omega
   have hmp:0≤(c1:Int) * (c2:Int):=by omega
   repeat (first|refine wk ?_|refine Zaa (hr:=?_))
   refine Zaq [(1000,1001)] (hA:=q1) (hr:=?_)
   repeat (first|refine wk ?_|refine Zaa (hr:=?_))
   rw[List.take_length]
   refine Zaq [(1000,1001)] (hA:=q2) (hr:=?_)
   repeat (first|refine wk ?_|refine Zaa (hr:=?_))
   rw[em,ea]
   subst hc4
   exact Zad (m+1)
  obtain rfl:m=m0:=by omega
  rw[hqM] at q2 q3
  have hea:k - sumN m (fM N w s r i j)=a0:=by omega
  have hac:¬ (((symN N w s i m * wcn N w r m j:Nat):Int)≤(a0:Int)):=by omega
  have em:((symN N w s i m:Nat):Int) * ((wcn N w r m j:Nat):Int)=((symN N w s i m * wcn N w r m j:Nat):Int):=by rw[Int.natCast_mul]
  have hcQ:((symN N w s i m * wcn N w r m j:Nat):Int) < Q:=by have hmC:Zac=4611686018427387904:=rfl;omega
  have ha1:(a0:Int) / (wcn N w r m j:Nat)=(a0 / wcn N w r m j:Nat):=(Int.natCast_ediv _ _).symm
  have ha2:(a0:Int) % (wcn N w r m j:Nat)=(a0 % wcn N w r m j:Nat):=(Int.natCast_emod _ _).symm
  have hab:(a0:Int) < Q:=by omega
  have hqb:((wcn N w r m j:Nat):Int) < Q:=by omega
  have hqp:0 < ((wcn N w r m j:Nat):Int):=by omega
  rw[hea]
  (try clear hsym hsn')
  clear hw1' hw2' hpm hle hF1 hFu hF0 q3 q4 hn0 hq0 hb1 hb2 hle0 hqM h3 h4 e hsy ih hM hk hm
  generalize symN N w s i m * wcn N w r m j=c at *
  generalize symN N w s i m=c1 at *
  generalize a0 / wcn N w r m j=a1 at *
  generalize a0 % wcn N w r m j=a2 at *
  generalize wcn N w r m j=c2 at *
  have hmb:(c1:Int) * (c2:Int) < Q:=by omega
  have hmp:0≤(c1:Int) * (c2:Int):=by omega
  have hac':¬ ((c1:Int) * (c2:Int)≤(a0:Int)):=by omega
  repeat (first|refine wk ?_|refine Zaa (hr:=?_))
  refine Zaq [(1000,1001)] (hA:=q1) (hr:=?_)
  repeat (first|refine wk ?_|refine Zaa (hr:=?_))
  rw[List.take_length]
  refine Zaq [(1000,1001)] (hA:=q2) (hr:=?_)
  repeat (first|refine wk ?_|refine Zaa (hr:=?_))
  replace hi:ACalls Tryz.prog 179 [.ptr 1000 0,.d (.sl t 1 (List.drop 1 (List.map iD (s::r)))),I (m:Nat),I (j:Nat),I ((a2:Nat):Int)] [(1000,buBx 1001 L),(1001,ctBx t u g w Zac N)] (.tup [.d (Zal false l),B b]) [(1000,buBx 1001 L2),(1001,ctBx t u g w Zac N)]:=hi
  rw[List.take_length,ha2]
  refine Zab [(1000,1000),(1001,1001)] (hA:=hi) (hr:=?_)
  repeat (first|refine ZaF 94 rfl ?_|refine wk1 ?_)
  simp only[List.nil_append]
  exact Fin.r2 rfl (.of_tmp rfl) (.of_tmp rfl) (Co.tup ⟨Co.froz rfl rfl,Co.refl _,trivial⟩) ⟨HElt.of rfl,HElt.of rfl,trivial⟩ rfl
 obtain⟨sn,hsn⟩:∃ sn:Nat,s=(sn:Int):=⟨s.toNat,by omega⟩
 have hsym:symN (wcns g w Zac) w s i m0=wcns g w Zac sn i m0:=by rw[hsn,Zcx]
 rw[hsym] at h3 hn0 hb1 hb2 hle0
 have h6:a0 / wcn (wcns g w Zac) w r m0 j < wcns g w Zac sn i m0:=Nat.div_lt_of_lt_mul (by rw[Nat.mul_comm];exact h3)
 obtain⟨x,b1,L1,hout1,ht⟩:=hT sn i m0 (a0 / wcn (wcns g w Zac) w r m0 j) L (by rw[←hsn];exact hs.1) h1 (by omega) hL h6 (by omega)
 rw[←hsn] at ht
 have hsn':s.toNat=sn:=by omega
 have hs1:0≤s:=by omega
 rcases hout1 with ⟨hx,rfl⟩|⟨hx,rfl,rfl⟩
 ·obtain⟨l,b,L2,hout,hl,hi⟩:=ih m0 j (a0 % wcn (wcns g w Zac) w r m0 j) L1 (by omega) hr h2 hj (hTL _ _ _ _ _ _ hx hL) (Nat.mod_lt _ hq0) (by omega)
  refine⟨x::l,b,L2,?_,by simp only[List.length_cons];omega,?_⟩
  ·rw[if_neg hs0,hsn',hx]
   dsimp only
   rcases hout with ⟨h,hb⟩|⟨h,hb,hL2⟩
   ·exact .inl ⟨by rw[h],hb⟩
   ·exact .inr ⟨by rw[h],hb,hL2⟩
  clear hout hx hT hTL h6
  rw[←hsym] at h3 hn0 hb1 hb2 hle0
  simp only[buHN,buBx] at *
  generalize wcns g w Zac=N at *
  refine ACalls.intro (n:=96) Tryz.func179 rfl rfl (by simp) (by rfl) ?_
  simp only[Zak]
  repeat (first|refine wk ?_|refine Zaa (hr:=?_))
  refine Zai (X:=Nat) (fun m=>i≤m∧m≤m0) (fun m=>[(12,I m),(10,.d (.raw (.slice none 0 0))),(11,B false),(0,.ptr 1000 0),(1,.d (ints t (s::r))),(2,I i),(3,I j),(4,I ((k - sumN m (fM N w s r i j):Nat):Int))]) (fun _=>[(1000,buBx 1001 L),(1001,ctBx t u g w Zac N)]) (fun m=>m0 - m) i ⟨Nat.le_refl _,h1⟩ ?_ (hf:=⟨.of rfl,.of rfl,.of rfl,.of rfl,.of rfl,.of rfl,.of rfl,VLe.of (by rw[hF0];rfl),trivial⟩)
  rintro m ⟨m1,m2⟩
  have hmj:m≤j:=by omega
  have q1:=hw1' m m1 (by omega)
  have q2:=hw2' m hmj
  replace q1:ACalls Tryz.prog 176 [.ptr 1000 0,.d (.sl t 1 (List.drop 0 (List.take 1 (List.map iD (s::r))))),I (i:Nat),I (m:Nat)] [(1000,ctBx t u g w Zac N)] (I ((symN N w s i m:Nat):Int)) [(1000,ctBx t u g w Zac N)]:=q1
  replace q2:ACalls Tryz.prog 176 [.ptr 1000 0,.d (.sl t 1 (List.drop 1 (List.map iD (s::r)))),I (m:Nat),I (j:Nat)] [(1000,ctBx t u g w Zac N)] (I ((min Zac (wcn N w r m j):Nat):Int)) [(1000,ctBx t u g w Zac N)]:=q2
  have q3:=hpm m m1 m2
  have q4:=hle m m1 m2
  by_cases hm:m < m0
  ·have hu:=hFu (m+1) hm
   have hu1:=hF1 m m1
   have ea:((k - sumN m (fM N w s r i j):Nat):Int) - (symN N w s i m * wcn N w r m j:Nat)=((k - sumN (m+1) (fM N w s r i j):Nat):Int):=by omega
   have hac:((symN N w s i m * wcn N w r m j:Nat):Int)≤((k - sumN m (fM N w s r i j):Nat):Int):=by omega
   have hb:((k - sumN m (fM N w s r i j):Nat):Int) < Q:=by omega
   have em:((symN N w s i m:Nat):Int) * ((min Zac (wcn N w r m j):Nat):Int)=((symN N w s i m * wcn N w r m j:Nat):Int):=by rw[←q3,Int.natCast_mul]
   (try clear hsym hsn')
   clear hw1' hw2' hpm hle hF1 hFu hu hu1 hF0 q3 q4 hn0 hq0 hb1 hb2 hle0 hqM h3 h4 e hsy ih hi ht
   generalize symN N w s i m * wcn N w r m j=c at *
   generalize symN N w s i m=c1 at *
   generalize min Zac (wcn N w r m j)=c2 at *
   generalize k - sumN m (fM N w s r i j)=c3 at *
   generalize hc4:k - sumN (m+1) (fM N w s r i j)=c4 at *
   have hmb:(c1:Int) * (c2:Int) < Q:=by omega
   have hmp:0≤(c1:Int) * (c2:Int):=by omega
   repeat (first|refine wk ?_|refine Zaa (hr:=?_))
   refine Zaq [(1000,1001)] (hA:=q1) (hr:=?_)
   repeat (first|refine wk ?_|refine Zaa (hr:=?_))
   rw[List.take_length]
   refine Zaq [(1000,1001)] (hA:=q2) (hr:=?_)
   repeat (first|refine wk ?_|refine Zaa (hr:=?_))
   rw[em,ea]
   subst hc4
   exact Zad (m+1)
  obtain rfl:m=m0:=by omega
  rw[hqM] at q2 q3
  have hea:k - sumN m (fM N w s r i j)=a0:=by omega
  have hac:¬ (((symN N w s i m * wcn N w r m j:Nat):Int)≤(a0:Int)):=by omega
  have em:((symN N w s i m:Nat):Int) * ((wcn N w r m j:Nat):Int)=((symN N w s i m * wcn N w r m j:Nat):Int):=by rw[Int.natCast_mul]
  have hcQ:((symN N w s i m * wcn N w r m j:Nat):Int) < Q:=by have hmC:Zac=4611686018427387904:=rfl;omega
  have ha1:(a0:Int) / (wcn N w r m j:Nat)=(a0 / wcn N w r m j:Nat):=(Int.natCast_ediv _ _).symm
  have ha2:(a0:Int) % (wcn N w r m j:Nat)=(a0 % wcn N w r m j:Nat):=(Int.natCast_emod _ _).symm
  have hab:(a0:Int) < Q:=by omega
  have hqb:((wcn N w r m j:Nat):Int) < Q:=by omega
  have hqp:0 < ((wcn N w r m j:Nat):Int):=by omega
  rw[hea]
  (try clear hsym hsn')
  clear hw1' hw2' hpm hle hF1 hFu hF0 q3 q4 hn0 hq0 hb1 hb2 hle0 hqM h3 h4 e hsy ih hM hk hm
  generalize symN N w s i m * wcn N w r m j=c at *
  generalize symN N w s i m=c1 at *
  generalize a0 / wcn N w r m j=a1 at *
  generalize a0 % wcn N w r m j=a2 at *
  generalize wcn N w r m j=c2 at *
  have hmb:(c1:Int) * (c2:Int) < Q:=by omega
  have hmp:0≤(c1:Int) * (c2:Int):=by omega
  have hac':¬ ((c1:Int) * (c2:Int)≤(a0:Int)):=by omega
  repeat (first|refine wk ?_|refine Zaa (hr:=?_))
  refine Zaq [(1000,1001)] (hA:=q1) (hr:=?_)
  repeat (first|refine wk ?_|refine Zaa (hr:=?_))
  rw[List.take_length]
  refine Zaq [(1000,1001)] (hA:=q2) (hr:=?_)
  repeat (first|refine wk ?_|refine Zaa (hr:=?_))
  rw[ha1]
  refine Zab [(1000,1000),(1001,1001)] (hA:=ht) (hr:=?_)
  repeat (first|refine wk ?_|refine Zaa (hr:=?_))
  replace hi:ACalls Tryz.prog 179 [.ptr 1000 0,.d (.sl t 1 (List.drop 1 (List.map iD (s::r)))),I (m:Nat),I (j:Nat),I ((a2:Nat):Int)] [(1000,buBx 1001 L1),(1001,ctBx t u g w Zac N)] (.tup [.d (Zal false l),B b]) [(1000,buBx 1001 L2),(1001,ctBx t u g w Zac N)]:=hi
  rw[List.take_length,ha2]
  refine Zab [(1000,1000),(1001,1001)] (hA:=hi) (hr:=?_)
  repeat (first|refine ZaF 79 (xs:=[]++[D.agg [iD x.rule,Zal false x.kids]]++List.map (Zat false) l) rfl ?_|refine wk1 ?_)
  have el:[]++[D.agg [iD x.rule,Zal false x.kids]]++List.map (Zat false) l=List.map (Zat false) (x::l):=by
   rw[List.map_cons,Zbi];rfl
  rw[el]
  exact Fin.r2 rfl (.of_tmp rfl) (.of_tmp rfl) (Co.tup ⟨Co.froz rfl rfl,Co.refl _,trivial⟩) ⟨HElt.of rfl,HElt.of rfl,trivial⟩ rfl
 ·refine⟨[],false,0,?_,Nat.zero_le _,?_⟩
  ·rw[if_neg hs0,hsn',hx]
   exact .inr ⟨rfl,rfl,rfl⟩
  clear hx hT hTL h6
  rw[←hsym] at h3 hn0 hb1 hb2 hle0
  simp only[buHN,buBx] at *
  generalize wcns g w Zac=N at *
  refine ACalls.intro (n:=96) Tryz.func179 rfl rfl (by simp) (by rfl) ?_
  simp only[Zak]
  repeat (first|refine wk ?_|refine Zaa (hr:=?_))
  refine Zai (X:=Nat) (fun m=>i≤m∧m≤m0) (fun m=>[(12,I m),(10,.d (.raw (.slice none 0 0))),(11,B false),(0,.ptr 1000 0),(1,.d (ints t (s::r))),(2,I i),(3,I j),(4,I ((k - sumN m (fM N w s r i j):Nat):Int))]) (fun _=>[(1000,buBx 1001 L),(1001,ctBx t u g w Zac N)]) (fun m=>m0 - m) i ⟨Nat.le_refl _,h1⟩ ?_ (hf:=⟨.of rfl,.of rfl,.of rfl,.of rfl,.of rfl,.of rfl,.of rfl,VLe.of (by rw[hF0];rfl),trivial⟩)
  rintro m ⟨m1,m2⟩
  have hmj:m≤j:=by omega
  have q1:=hw1' m m1 (by omega)
  have q2:=hw2' m hmj
  replace q1:ACalls Tryz.prog 176 [.ptr 1000 0,.d (.sl t 1 (List.drop 0 (List.take 1 (List.map iD (s::r))))),I (i:Nat),I (m:Nat)] [(1000,ctBx t u g w Zac N)] (I ((symN N w s i m:Nat):Int)) [(1000,ctBx t u g w Zac N)]:=q1
  replace q2:ACalls Tryz.prog 176 [.ptr 1000 0,.d (.sl t 1 (List.drop 1 (List.map iD (s::r)))),I (m:Nat),I (j:Nat)] [(1000,ctBx t u g w Zac N)] (I ((min Zac (wcn N w r m j):Nat):Int)) [(1000,ctBx t u g w Zac N)]:=q2
  have q3:=hpm m m1 m2
  have q4:=hle m m1 m2
  by_cases hm:m < m0
  ·have hu:=hFu (m+1) hm
   have hu1:=hF1 m m1
   have ea:((k - sumN m (fM N w s r i j):Nat):Int) - (symN N w s i m * wcn N w r m j:Nat)=((k - sumN (m+1) (fM N w s r i j):Nat):Int):=by omega
   have hac:((symN N w s i m * wcn N w r m j:Nat):Int)≤((k - sumN m (fM N w s r i j):Nat):Int):=by omega
   have hb:((k - sumN m (fM N w s r i j):Nat):Int) < Q:=by omega
   have em:((symN N w s i m:Nat):Int) * ((min Zac (wcn N w r m j):Nat):Int)=((symN N w s i m * wcn N w r m j:Nat):Int):=by rw[←q3,Int.natCast_mul]
   (try clear hsym hsn')
   clear hw1' hw2' hpm hle hF1 hFu hu hu1 hF0 q3 q4 hn0 hq0 hb1 hb2 hle0 hqM h3 h4 e hsy ih ht
   generalize symN N w s i m * wcn N w r m j=c at *
   generalize symN N w s i m=c1 at *
   generalize min Zac (wcn N w r m j)=c2 at *
   generalize k - sumN m (fM N w s r i j)=c3 at *
   generalize hc4:k - sumN (m+1) (fM N w s r i j)=c4 at *
   have hmb:(c1:Int) * (c2:Int) < Q:=by omega
   have hmp:0≤(c1:Int) * (c2:Int):=by omega
   repeat (first|refine wk ?_|refine Zaa (hr:=?_))
   refine Zaq [(1000,1001)] (hA:=q1) (hr:=?_)
   repeat (first|refine wk ?_|refine Zaa (hr:=?_))
   rw[List.take_length]
   refine Zaq [(1000,1001)] (hA:=q2) (hr:=?_)
   repeat (first|refine wk ?_|refine Zaa (hr:=?_))
   rw[em,ea]
   subst hc4
   exact Zad (m+1)
  obtain rfl:m=m0:=by omega
  rw[hqM] at q2 q3
  have hea:k - sumN m (fM N w s r i j)=a0:=by omega
  have hac:¬ (((symN N w s i m * wcn N w r m j:Nat):Int)≤(a0:Int)):=by omega
  have em:((symN N w s i m:Nat):Int) * ((wcn N w r m j:Nat):Int)=((symN N w s i m * wcn N w r m j:Nat):Int):=by rw[Int.natCast_mul]
  have hcQ:((symN N w s i m * wcn N w r m j:Nat):Int) < Q:=by have hmC:Zac=4611686018427387904:=rfl;omega
  have ha1:(a0:Int) / (wcn N w r m j:Nat)=(a0 / wcn N w r m j:Nat):=(Int.natCast_ediv _ _).symm
  have ha2:(a0:Int) % (wcn N w r m j:Nat)=(a0 % wcn N w r m j:Nat):=(Int.natCast_emod _ _).symm
  have hab:(a0:Int) < Q:=by omega
  have hqb:((wcn N w r m j:Nat):Int) < Q:=by omega
  have hqp:0 < ((wcn N w r m j:Nat):Int):=by omega
  rw[hea]
  (try clear hsym hsn')
  clear hw1' hw2' hpm hle hF1 hFu hF0 q3 q4 hn0 hq0 hb1 hb2 hle0 hqM h3 h4 e hsy ih hM hk hm
  generalize symN N w s i m * wcn N w r m j=c at *
  generalize symN N w s i m=c1 at *
  generalize a0 / wcn N w r m j=a1 at *
  generalize a0 % wcn N w r m j=a2 at *
  generalize wcn N w r m j=c2 at *
  have hmb:(c1:Int) * (c2:Int) < Q:=by omega
  have hmp:0≤(c1:Int) * (c2:Int):=by omega
  have hac':¬ ((c1:Int) * (c2:Int)≤(a0:Int)):=by omega
  repeat (first|refine wk ?_|refine Zaa (hr:=?_))
  refine Zaq [(1000,1001)] (hA:=q1) (hr:=?_)
  repeat (first|refine wk ?_|refine Zaa (hr:=?_))
  rw[List.take_length]
  refine Zaq [(1000,1001)] (hA:=q2) (hr:=?_)
  repeat (first|refine wk ?_|refine Zaa (hr:=?_))
  rw[ha1]
  refine Zab [(1000,1000),(1001,1001)] (hA:=ht) (hr:=?_)
  repeat (first|refine wk ?_|refine Zaa (hr:=?_))
  exact Fin.r2 rfl (.of_tmp rfl) (.of_tmp rfl) (Co.tup ⟨Co.nil false 2,Co.refl _,trivial⟩) ⟨HElt.of rfl,HElt.of rfl,trivial⟩ rfl
end
end Go.Proofs.YtbpmepgnjanhnaaGreat
namespace Go.Proofs.YtbpmepgnjanhnaaGreat
open Go.RowKit
set_option maxRecDepth 100000
section
variable {t u:Bool} {g:Gram} {w:List Int}
theorem ZkA (hC:ChOk g w):∀ d,d≤1000→∀ v i j k L,((v:Nat):Int) < g.vars→i≤j→j≤w.length→L≤d→k < wcns g w Zac v i j→wcns g w Zac v i j < Zac→Zu0 (buHN t u g w (wcns g w Zac)) 101 [.ptr 1000 0,I (v:Nat),I (i:Nat),I (j:Nat),I (k:Nat)] L (Zbq g (wcns g w Zac) w d v i j k L)
 | 0,_,v,i,j,k,L,hv,hij,hj,hL,hk,hM=>by
  obtain rfl:L=0:=by omega
  exact⟨_,false,0,.inr ⟨rfl,rfl,rfl⟩,Zjk⟩
 | d+1,hd,v,i,j,k,L,hv,hij,hj,hL,hk,hM=>by
  have ih:=ZkA hC d (by omega)
  refine ZpD hC (fun r i j k L h h1 h2 h3 h4 h5=>Zsy hC (by omega) ih (fun v i m k L x e hL=>Nat.le_trans (Zmg d v i m k L x e) hL) g.rules[r].right i j k L (hC.ok.right _ (List.getElem_mem h)) (fun s hs=>⟨hC.ok.hi _ (List.getElem_mem h) s hs,?_⟩) h1 h2 h3 h4 h5) hv hij hj hL (by omega) hk hM
  have:=hC.ok.lo _ (List.getElem_mem h) s hs
  have:=hC.ok.terms
  omega
theorem bAt (hC:ChOk g w) {k:Nat} (hk:k < cntF g w) (hM:cntF g w < Zac):∃ x b L',outP (Zbq g (wcns g w Zac) w 400 g.start.toNat 0 w.length k 400) x b L' ∧
  ACalls Tryz.prog 101 [.ptr 1000 0,I g.start,I 0,I w.length,I (k:Nat)] [(1000,buBx 1001 400),(1001,ctBx t u g w Zac (wcns g w Zac))] (.tup [.d (ZaE false x),B b]) [(1000,buBx 1001 L'),(1001,ctBx t u g w Zac (wcns g w Zac))]:=by
 have h1:=hC.ok.start
 have h2:=hC.ok.start0
 have h:=ZkA (t:=t) (u:=u) hC 400 (by omega) g.start.toNat 0 w.length k 400 (by omega) (Nat.zero_le _) (Nat.le_refl _) (Nat.le_refl _) hk hM
 rw[show ((g.start.toNat:Nat):Int)=g.start by omega] at h
 exact h
end
end Go.Proofs.YtbpmepgnjanhnaaGreat
namespace Go.Proofs.YtbpmepgnjanhnaaGreat
open Go.RowKit
set_option maxRecDepth 100000
section
variable {t u:Bool} {g:Gram} {w:List Int}
set_option maxHeartbeats 4000000 in
theorem Zmh (hf:g.fit) (hw:w.length≤100000000):ACalls Tryz.prog 61 [.d (ZaH t g),.d (ints u w)] [] (.tup [.d (Zal false (ZaG g w).1),.d (ZaN (ZaG g w).2)]) []:=by
 have hcf:=Ziu (t:=t) (u:=u) hf hw
 by_cases hc0:(chF g w).code=0
 ·obtain⟨hC,hz⟩:=ZqQ hc0
  obtain⟨s1,s2⟩:=hC.small
  have hg:=hC.ok
  rw[hz] at hcf
  have hcs:=ZkN (t:=t) (u:=u) (w:=w) (M:=Zac) hg s1 s2 (by decide) (Nat.le_refl _)
  have hof:=Zuq (g:=g) (t:=t) (u:=u) (M:=Zac) (N:=wcns g w Zac) s1 g.start 0 w.length
  rw[Zem hg] at hof
  have hat:=fun (kn:Nat) (h:kn < cntF g w) hM=>bAt (t:=t) (u:=u) hC h hM
  have hop:opF g w=if cntF g w=Zac then ⟨6, -1⟩ else ⟨0,0⟩:=by unfold opF;rw[if_pos hc0]
  have hmC:Zac=4611686018427387904:=rfl
  by_cases hm:200 < cntF g w
  ·rw[show ZaG g w=([],⟨6, -1⟩) by
    unfold ZaG;rw[hop]
    by_cases q:cntF g w=Zac
    ·rw[if_pos q,if_neg (by simp)]
    ·rw[if_neg q,if_pos rfl,if_pos hm]]
   clear hat hop hmC
   generalize cntF g w=c at *
   generalize wcns g w Zac=N at *
   have hm':(200:Int) < (c:Int):=by omega
   refine ACalls.intro (n:=58) Tryz.func61 rfl rfl (by simp) (by rfl) ?_
   simp only[Zak]
   repeat (first|refine wk ?_|refine Zaa (hr:=?_))
   refine Zab [] (hA:=hcf) (hr:=?_)
   repeat (first|refine wk ?_|refine Zaa (hr:=?_))
   refine Zab [(21,921)] (hA:=hcs) (hr:=?_)
   repeat (first|refine wk ?_|refine Zaa (hr:=?_))
   refine Zaq [(1000,921)] (hA:=hof) (hr:=?_)
   repeat (first|refine wk ?_|refine Zaa (hr:=?_))
   refine Zab [] (hA:=ZbC) (hr:=?_)
   repeat (first|refine wk ?_|refine Zaa (hr:=?_))
   exact fin
  ·have hop':opF g w=⟨0,0⟩:=by rw[hop,if_neg (by omega)]
   have hres:ZaG g w=ZcZ g w (cntF g w) 0 []:=by unfold ZaG;rw[hop',if_pos rfl,if_neg hm]
   clear hop'
   generalize hRes:ZaG g w=RS at *
   obtain⟨rl,rf⟩:=RS
   have hm':¬ (200:Int) < (cntF g w:Int):=by omega
   have hrange:∀ k,k < cntF g w→atF g w k=match Zbq g (wcns g w Zac) w 400 g.start.toNat 0 w.length k 400 with
    | some (x,L)=>(x,⟨0,0⟩,L)
    | none=>(.mk 0 [],⟨6, -1⟩,0):=fun k _=>rfl
   replace hat:=fun kn h=>hat kn h (by omega)
   simp only[buBx] at hat
   generalize hcc:cntF g w=c at *
   generalize wcns g w Zac=N at *
   clear hmC hop
   refine ACalls.intro (n:=58) Tryz.func61 rfl rfl (by simp) (by rfl) ?_
   simp only[Zak]
   repeat (first|refine wk ?_|refine Zaa (hr:=?_))
   refine Zab [] (hA:=hcf) (hr:=?_)
   repeat (first|refine wk ?_|refine Zaa (hr:=?_))
   refine Zab [(21,921)] (hA:=hcs) (hr:=?_)
   repeat (first|refine wk ?_|refine Zaa (hr:=?_))
   refine Zaq [(1000,921)] (hA:=hof) (hr:=?_)
   repeat (first|refine wk ?_|refine Zaa (hr:=?_))
   refine ZaU 9 900 56 2 rfl rfl rfl ?_
   refine Zai (X:=Nat×List Tree) (fun y=>y.1≤c∧y.2.length=y.1∧(rl,rf)=ZcZ g w (c - y.1) y.1 y.2) (fun y=>[(10,I y.1),(8,I c),(9,.own 900 y.2.length),(7,.ptr 921 0),(5,.ptr 5 0),(2,.ptr 2 0),(1,.d (ints u w))]) (fun y=>[(900,.row 56 2 (y.2.map (Zat false))),(5,.box 31 [I 0,I 0]),(2,Zar t g),(921,ctBx t u g w Zac N)]) (fun y=>c - y.1) (0,[]) ⟨Nat.zero_le _,rfl,by rw[Nat.sub_zero];exact hres⟩ ?_
   rintro⟨k,acc⟩ ⟨h1,h2,h3⟩
   dsimp only at h1 h2 h3 ⊢
   by_cases hlt:k < c
   ·obtain⟨x,b,L',hout,ht⟩:=hat k hlt
    have e:=hrange k hlt
    rw[show c - k=(c - (k+1))+1 by omega,ZcZ] at h3
    have ec:acc.map (Zat false)++[.agg [iD x.rule,Zal false x.kids]]=(acc++[x]).map (Zat false):=by rw[List.map_append,List.map_cons,List.map_nil,Zbi]
    rcases hout with ⟨hx,rfl⟩|⟨hx,rfl,rfl⟩
    ·rw[hx] at e
     dsimp only at e
     rw[e,if_pos rfl] at h3
     dsimp only at h3
     clear hat hrange hx e
     repeat (first|refine wk ?_|refine Zaa (hr:=?_))
     refine Zab [(1000,40),(1001,921)] (hA:=ht) (hr:=?_)
     repeat (first|refine wk ?_|refine Zaa (hr:=?_))
     rw[ec]
     exact Zad (k+1,acc++[x]) (a:=⟨by omega,by simp[h2],h3⟩) (b:=by dsimp only;omega)
    ·rw[hx] at e
     dsimp only at e
     rw[e,if_neg (by simp)] at h3
     cases h3
     clear hat hrange hx e
     repeat (first|refine wk ?_|refine Zaa (hr:=?_))
     refine Zab [(1000,40),(1001,921)] (hA:=ht) (hr:=?_)
     repeat (first|refine wk ?_|refine Zaa (hr:=?_))
     refine Zab [] (hA:=ZbC) (hr:=?_)
     repeat (first|refine wk ?_|refine Zaa (hr:=?_))
     exact fin
   ·obtain rfl:k=c:=by omega
    rw[Nat.sub_self,ZcZ] at h3
    cases h3
    clear hat hrange
    refine ZaF 900 rfl ?_
    repeat (first|refine wk ?_|refine Zaa (hr:=?_))
    exact fin
 ·rw[show ZaG g w=([],chF g w) by unfold ZaG opF;rw[if_neg hc0,if_neg hc0]]
  generalize chF g w=cf at *
  obtain⟨cc,ca⟩:=cf
  dsimp only at hc0
  refine ACalls.intro (n:=58) Tryz.func61 rfl rfl (by simp) (by rfl) ?_
  simp only[Zak]
  repeat (first|refine wk ?_|refine Zaa (hr:=?_))
  refine Zab [] (hA:=hcf) (hr:=?_)
  repeat (first|refine wk ?_|refine Zaa (hr:=?_))
  exact fin
end
end Go.Proofs.YtbpmepgnjanhnaaGreat
