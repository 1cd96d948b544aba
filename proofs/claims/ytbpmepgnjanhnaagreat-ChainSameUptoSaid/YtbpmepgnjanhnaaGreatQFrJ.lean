import Derived.Test.YtbpmepgnjanhnaaGreatQChnP
import Derived.Shelf.SlSortCmp.InsertionK
import Derived.Shelf.SlSortCmp.WholeK
import Derived.Shelf.SlSortCmp.NoneTotal
import Derived.Test.YtbpmepgnjanhnaaGreatChecked
set_option linter.unusedVariables false
set_option linter.unusedSimpArgs false
set_option linter.unusedSectionVars false
set_option maxHeartbeats 4000000
set_option maxRecDepth 100000
namespace Go.Proofs.YtbpmepgnjanhnaaGreat
open Go.RowKit
theorem Zu2 {t u:Bool} {g:Ac} {w:List Int} (h0:(Zaw g w).2.code=0):Af Tryz.prog 18 [.d (Zbr t g),.d (ints u w)] [] (.tup [.own 900 (Zaw g w).1.length,.d (Zbu ⟨0,0⟩)]) [(900,.row 56 2 ((Zaw g w).1.map (ZaV false)))]:=by
 have hc:(opF g w).code=0:=HN fun q=>by
  unfold Zaw at h0;rw[Ha q] at h0;exact q h0
 have hm:¬ 200 < cntF g w:=fun q=>by
  unfold Zaw at h0;rw[Hb hc,Hb q] at h0;cases h0
 have ho:=ZiP (t:=t) (u:=u) hc;obtain⟨hC,hz,hlt⟩:=Zp9 hc;obtain⟨s1,s2⟩:=hC.small;have hct:=ZeY hC.ok hC.cyc s1 s2;rw[Zhs hC.ok] at hct;have hat:=fun (L kn:Nat) (h:kn < cntF g w)=>ZrV (t:=t) (u:=u) (L:=L) hC h hlt
 clear hlt;have hres:Zaw g w=ZdE g w (cntF g w) 0 []:=by unfold Zaw;rw[Hb hc,Ha hm]
 generalize hRes:Zaw g w=RS at *;obtain⟨rl,rf⟩:=RS;have hm':¬ (200:Int) < (cntF g w:Int):=by omega
 have hrange:∀ k,k < cntF g w→∃ x f L',atF g w k=(x,f,L'):=fun k _=>⟨_,_,_,rfl⟩
 simp only[frH0,frH] at ho hat;generalize hcc:cntF g w=c at *;generalize Ak g w Zae=N at *;generalize nulB g=NB at *;refine Af.intro (n:=55) Tryz.func18 (hw:=?_);simp only[Zal];refine VA ?_;refine Zab [(25,925),(962,962),(960,960)] (hA:=ho) (hr:=?_);refine VA ?_;refine Zau [(1000,962),(1001,960)] (hA:=hct) (hr:=?_);refine VA ?_;refine Zau [(1000,962),(1001,960)] (hA:=hct) (hr:=?_);refine VA ?_;refine ZbB 8 900 56 2 rfl rfl rfl ?_;refine Zak (X:=Nat×List Tree×Nat) (fun y=>y.1≤c∧y.2.1.length=y.1∧(rl,rf)=ZdE g w (c - y.1) y.1 y.2.1) (fun y=>[(34,I y.1),(33,I c),(8,.own 900 y.2.1.length),(6,.ptr 925 0),(5,.ptr 5 0),(1,.d (ints u w))]) (fun y=>[(900,.row 56 2 (y.2.1.map (ZaV false))),(5,.box 31 [I 0,I 0]),(925,frBx t g 962 y.2.2),(962,cxBx g w NB 960),(960,.mp (ZbD N))]) (fun y=>c - y.1) (0,[],0) ⟨Hh _,rfl,by rw[Jn];exact hres⟩ ?_;rintro⟨k,acc,L⟩ ⟨h1,h2,h3⟩;dsimp only at h1 h2 h3 ⊢;by_cases hlt:k < c
 ·have ha:=hat L k hlt;obtain⟨x,⟨fc,fa⟩,L',e⟩:=hrange k hlt;rw[show c - k=(c - (k+1))+1 by omega,ZdE] at h3;rw[e] at ha h3;dsimp only at ha h3;have ec:acc.map (ZaV false)++[.agg [iD x.rule,Zan false x.Ab]]=(acc++[x]).map (ZaV false):=by rw[Ho,Hm,HF,Zdy]
  by_cases hz0:fc=0
  ·rw[Hb hz0] at h3;clear hat;refine VA ?_;refine Zab [(1000,925),(1001,962),(1002,960)] (hA:=ha) (hr:=?_);refine VA ?_;rw[ec];exact Zad (k+1,acc++[x],L') (a:=⟨by omega,by simp[h2],h3⟩) (b:=by dsimp only;omega)
  ·rw[Ha hz0] at h3;cases h3;exact absurd h0 hz0
 ·obtain rfl:k=c:=by omega
  rw[Ga,ZdE] at h3;cases h3;clear hat;refine VA ?_;exact fin
open Go.RowKit Go.Sort
theorem Zxt:∀ {a b:World},a.heap=b.heap→a.tape=b.tape→a.drawn=b.drawn→a.os=b.os→a.output=b.output→a=b
 | ⟨_,_,_,_,_⟩,⟨_,_,_,_,_⟩,rfl,rfl,rfl,rfl,rfl=>rfl
theorem ZAs {S:Nat→Prop} {w w':World} (h:Ext S w w') (hS:∀ k,¬ S k):∃ q os,w'=grow (w.drewN q) os:=by
 have hd:=h.drawn;have hz:=h.size;refine⟨w'.drawn - w.drawn,w'.heap.extract w.heap.size w'.heap.size,Zxt ?_ h.tape ?_ h.os h.output⟩
 ·show w'.heap=w.heap++_;apply Array.ext_getElem?;intro k;by_cases hk:k < w.heap.size
  ·rw[JQ hk];exact h.block k hk (hS k)
  ·rw[Array.getElem?_append_right (by omega),Array.getElem?_extract];by_cases hk2:k < w'.heap.size
   ·rw[Hb (by omega),show w.heap.size+(k - w.heap.size)=k by omega]
   ·rw[Ha (by omega),Array.getElem?_eq_none (by omega)]
 ·show w'.drawn=w.drawn+(w'.drawn - w.drawn)
  omega
structure TP (M:Bars) (w:World) where
 t:Tree
 c:List Value
 rep:D.Rep M w (Zbz false t) c
 small:cnt t≤100000000
theorem ZAt (M:Bars) (w:World):D.Rep M w (Zbz false (.mk 0 [])) [.int .i64 0,.slice none 0 0]:=by
 simp only[Zbz,D.Rep,D.Reps,iD];refine⟨[.int .i64 0],[.slice none 0 0],rfl,⟨rfl,rfl⟩,[.slice none 0 0],[],rfl,?_,rfl⟩;simp only[Zan,Tree.Ab,HF,D.Rep,D.Reps];exact⟨none,0,[],rfl,Hg _,by simp[maxLen],by simp,rfl,fun h=>absurd rfl h⟩
instance (M:Bars) (w:World):Inhabited (TP M w):=⟨⟨.mk 0 [],[.int .i64 0,.slice none 0 0],ZAt M w,by decide⟩⟩
def encP {M:Bars} {w:World} (p:TP M w):List Value:=p.c
def treP {M:Bars} {w:World} (p:TP M w):Tree:=p.t
theorem ZnQ {M:Bars} {w:World} (p:TP M w):(encP p).length=2:=D.Rep.length p.rep
theorem ZAu {M:Bars} {w:World} (p:TP M w):∀ v∈encP p,v.oneCell'=true:=D.Rep.one p.rep
def cfP {M:Bars} {w:World} (x y:TP M w):Int:=ordT (treP x) (treP y)
theorem ltP {M:Bars} {w:World} (x y:TP M w):ltOf cfP x y=decide (ordT (treP x) (treP y) < 0):=rfl
theorem swoP {M:Bars} {w:World}:SWO (ltOf (cfP (M:=M) (w:=w))) where
 irrefl x:=by rw[ltP,ZkY];rfl
 trans x y z h1 h2:=by
  rw[ltP,HZ] at *;have a:=Zgo _ _ _ (Int.le_of_lt h1) (Int.le_of_lt h2);rcases Int.lt_or_eq_of_le a with a|a
  ·exact a
  ·have e:=Ze4 _ _ a;rw[e,ZdU] at h1;omega
 ntrans x y z h1 h2:=by
  rw[ltP,G4] at *;have n1:=ZdU (treP x) (treP y);have n2:=ZdU (treP y) (treP z);have n3:=ZdU (treP x) (treP z);have:=Zgo (treP z) (treP y) (treP x) (by omega) (by omega);omega
theorem Zte {M:Bars} {w:World}:∀ {l:List Tree} {cs:List Value},(∀ x∈l,cnt x≤100000000)→D.Reps M w (l.map (Zbz false)) cs→∃ ps:List (TP M w),ps.map treP=l∧ps.flatMap encP=cs
 | [],cs,_,h=>by simp only[HF,D.Reps] at h;exact⟨[],rfl,h.symm⟩
 | x::l,cs,hc,h=>by
  simp only[Hm,D.Reps] at h;obtain⟨c,r,rfl,h1,h2⟩:=h;obtain⟨ps,e1,e2⟩:=Zte (fun y hy=>hc y (by simp[hy])) h2;exact⟨(⟨x,c,h1,hc x (by simp)⟩:TP M w)::ps,by rw[Hm,e1];rfl,by rw[HP,e2];rfl⟩
theorem Ztf {M:Bars} {w:World}:∀ ps:List (TP M w),D.Reps M w ((ps.map treP).map (Zbz false)) (ps.flatMap encP)
 | []=>by simp[D.Reps]
 | p::ps=>by
  simp only[Hm,HP,D.Reps];exact⟨_,_,rfl,p.rep,Ztf ps⟩
theorem ZpI {α:Type} [Inhabited α] (enc:α→List Value) (k:Nat) (hk0:0 < k) (hk:∀ x,(enc x).length=k):∀ (ds:List α),(List.range (ds.length * k)).map (fun t=>(enc ds[t / k]!)[t % k]!)=ds.flatMap enc
 | []=>by simp
 | x::ds=>by
  rw[Hl,Gb,Nat.one_mul,Nat.add_comm,List.range_add,Ho,HP,←ZpI enc k hk0 hk ds];congr 1
  ·refine GP (by simp[hk]) fun i h1 h2=>?_
   have hi:i < k:=by simpa using h1
   rw[Gu,List.getElem_range,Nat.div_eq_of_lt hi,Nat.mod_eq_of_lt hi];show (enc x)[i]! = _;rw[getElem!_pos _ i (by rw[hk];exact hi)]
  ·rw[H8];refine GL fun t _=>?_
   show (enc (x::ds)[(k+t) / k]!)[(k+t) % k]! = _;rw[Nat.add_div_left t hk0,Nat.add_mod_left];congr 2
theorem Zmx {α:Type} [Inhabited α] (enc:α→List Value) (k:Nat) (hk0:0 < k) (hk:∀ x,(enc x).length=k) (d:Array α):(flatK enc k d).toList=d.toList.flatMap enc:=by
 rw[←ZpI enc k hk0 hk d.toList];unfold flatK;rw[Array.toList_map,Array.toList_range,Jy];refine GL fun t _=>?_
 have e:d.toList[t / k]! = d[t / k]! := Array.getElem!_toList (xs:=d);rw[e]
theorem ZAv {α:Type} [Inhabited α] {d d':Array α} (h:PermIn 0 d.size d d'):d'.toList.Perm d.toList:=by
 obtain⟨h1,_,h3⟩:=h;rw[Array.extract_size] at h3;have:d'.extract 0 d.size=d':=by rw[←h1,Array.extract_size]
 rw[this] at h3;exact h3
theorem Zu3 {M:Bars} {w:World} {d:Array (TP M w)} {n:Nat} (hn:n=d.size) (h:SortedIn (ltOf cfP) 0 n d):(d.toList.map treP).Pairwise LeT:=by
 rw[Ge,JO];intro i j hi hj hij;have hi':i < d.size:=by simpa using hi
 have hj':j < d.size:=by simpa using hj
 have h1:=h i j (Hh _) hij (by omega);rw[getElem!_pos d i hi',getElem!_pos d j hj',ltP,G4] at h1;have n1:=ZdU (treP d[i]) (treP d[j]);show ordT (treP d.toList[i]) (treP d.toList[j])≤0;simp only[Array.getElem_toList];omega
end Go.Proofs.YtbpmepgnjanhnaaGreat
namespace Go.Proofs
open Go.Shelf
def Tryz.sortRen:Go.Shelf.Ren:=⟨fun|6=>48|14=>82|15=>83|20=>156|21=>157|22=>158|23=>159|24=>160|25=>161|26=>162|27=>163|28=>164|29=>165|46=>209|47=>210|48=>211|49=>212|50=>213|57=>224|n=>n,fun|0=>0|3=>3|4=>4|5=>5|9=>9|22=>37|24=>56|25=>84|39=>53|45=>213|46=>214|50=>124|53=>220|55=>117|66=>248|70=>252|76=>259|77=>260|n=>n,fun|n=>n⟩
theorem Tryz.sortLay:SlLaysF0.n6 Tryz.prog Tryz.sortRen:={
 mixed:=by kernel_rfl
 f6:=⟨Tryz.f48.name,by kernel_rfl,Tryz.func48.trans (congrArg some (by kernel_rfl))⟩
 f14:=⟨Tryz.f82.name,by kernel_rfl,Tryz.func82.trans (congrArg some (by kernel_rfl))⟩
 f15:=Tryz.func83.trans (congrArg some (by kernel_rfl))
 f20:=⟨Tryz.f156.name,by kernel_rfl,Tryz.func156.trans (congrArg some (by kernel_rfl))⟩
 f21:=⟨Tryz.f157.name,by kernel_rfl,Tryz.func157.trans (congrArg some (by kernel_rfl))⟩
 f22:=⟨Tryz.f158.name,by kernel_rfl,Tryz.func158.trans (congrArg some (by kernel_rfl))⟩
 f23:=⟨Tryz.f159.name,by kernel_rfl,Tryz.func159.trans (congrArg some (by kernel_rfl))⟩
 f24:=⟨Tryz.f160.name,by kernel_rfl,Tryz.func160.trans (congrArg some (by kernel_rfl))⟩
 f25:=⟨Tryz.f161.name,by kernel_rfl,Tryz.func161.trans (congrArg some (by kernel_rfl))⟩
 f26:=⟨Tryz.f162.name,by kernel_rfl,Tryz.func162.trans (congrArg some (by kernel_rfl))⟩
 f27:=⟨Tryz.f163.name,by kernel_rfl,Tryz.func163.trans (congrArg some (by kernel_rfl))⟩
 f28:=Tryz.func164.trans (congrArg some (by kernel_rfl))
 f29:=Tryz.func165.trans (congrArg some (by kernel_rfl))
 f46:=⟨Tryz.f209.name,by kernel_rfl,Tryz.func209.trans (congrArg some (by kernel_rfl))⟩
 f47:=Tryz.func210.trans (congrArg some (by kernel_rfl))
 f48:=Tryz.func211.trans (congrArg some (by kernel_rfl))
 f49:=⟨Tryz.f212.name,by kernel_rfl,Tryz.func212.trans (congrArg some (by kernel_rfl))⟩
 f50:=⟨Tryz.f213.name,by kernel_rfl,Tryz.func213.trans (congrArg some (by kernel_rfl))⟩
 f57:=⟨Tryz.f224.name,by kernel_rfl,Tryz.func224.trans (congrArg some (by kernel_rfl))⟩
 t0:=Tryz.underlying0
 a0:=Tryz.isAgg0
 z0:=Tryz.sizeOf0
 v0:=Tryz.zeroValue0
 t3:=Tryz.underlying3
 a3:=Tryz.isAgg3
 z3:=Tryz.sizeOf3
 v3:=Tryz.zeroValue3
 t4:=Tryz.underlying4
 a4:=Tryz.isAgg4
 z4:=Tryz.sizeOf4
 v4:=Tryz.zeroValue4
 t5:=Tryz.underlying5
 a5:=Tryz.isAgg5
 z5:=Tryz.sizeOf5
 v5:=Tryz.zeroValue5
 t9:=Tryz.underlying9
 a9:=Tryz.isAgg9
 z9:=Tryz.sizeOf9
 v9:=Tryz.zeroValue9
 t22:=Tryz.underlying37
 a22:=Tryz.isAgg37
 z22:=Tryz.sizeOf37
 v22:=Tryz.zeroValue37
 t25:=Tryz.underlying84
 a25:=Tryz.isAgg84
 z25:=Tryz.sizeOf84
 v25:=Tryz.zeroValue84
 t39:=Tryz.underlying53
 a39:=Tryz.isAgg53
 z39:=Tryz.sizeOf53
 v39:=Tryz.zeroValue53
 t45:=Tryz.underlying213
 a45:=Tryz.isAgg213
 z45:=Tryz.sizeOf213
 v45:=Tryz.zeroValue213
 t46:=Tryz.underlying214
 a46:=Tryz.isAgg214
 z46:=Tryz.sizeOf214
 v46:=Tryz.zeroValue214
 t50:=Tryz.underlying124
 a50:=Tryz.isAgg124
 z50:=Tryz.sizeOf124
 v50:=Tryz.zeroValue124
 t53:=Tryz.underlying220
 a53:=Tryz.isAgg220
 z53:=Tryz.sizeOf220
 v53:=Tryz.zeroValue220
 t55:=Tryz.underlying117
 a55:=Tryz.isAgg117
 z55:=Tryz.sizeOf117
 v55:=Tryz.zeroValue117
 t66:=Tryz.underlying248
 a66:=Tryz.isAgg248
 z66:=Tryz.sizeOf248
 v66:=Tryz.zeroValue248
 t70:=Tryz.underlying252
 a70:=Tryz.isAgg252
 z70:=Tryz.sizeOf252
 v70:=Tryz.zeroValue252
 t76:=Tryz.underlying259
 a76:=Tryz.isAgg259
 z76:=Tryz.sizeOf259
 v76:=Tryz.zeroValue259
 t77:=Tryz.underlying260
 a77:=Tryz.isAgg260
 z77:=Tryz.sizeOf260
 v77:=Tryz.zeroValue260 }
end Go.Proofs
namespace Go.Proofs.YtbpmepgnjanhnaaGreat
open Go.RowKit Go.Sort
theorem ZrJ {W:World} {g off:Nat} {F cur:Array Value} {e:TypeId} {fr:Nat×Nat} (h:Go.Sort.Holds (id:Value→Value) W g off F) (hg:W.heap[g]? = some (.cells cur e fr)) (hs:off+F.size≤cur.size):(cur.toList.drop off).take F.size=F.toList:=by
 refine GP (by simp;omega) fun j h1 h2=>?_
 have hj:j < F.size:=by simpa using h2
 have:=(h j hj).1;simp only[World.cell?,hg] at this;rw[getElem!_pos F j hj] at this;have h3:cur[off+j]? = some F[j]:=by simpa using this
 have h4:off+j < cur.size:=by omega
 rw[JW h4] at h3;simp only[List.getElem_take,Jq,Array.getElem_toList];exact GF h3
theorem ZrK {W:World} {g off:Nat} {F cur:Array Value} {e:TypeId} (hg:W.heap[g]? = some (.cells cur e (0,0))) (hs:(cur.toList.drop off).take F.size=F.toList) (hz:off+F.size≤cur.size):Go.Sort.Holds (id:Value→Value) W g off F:=fun j hj=>by
 constructor
 ·simp only[World.cell?,hg];have h4:off+j < cur.size:=by omega
  have h1:((cur.toList.drop off).take F.size)[j]? = F.toList[j]? := by rw[hs]
  rw[GC,Hb hj,Gy] at h1;simp only[JN] at h1;rw[getElem!_pos F j hj];simp only[Option.isSome_none,Bool.false_eq_true,if_false,id];rw[h1,JW hj]
 ·simp only[World.frozen?,hg];simp
abbrev ZdK (l:List Tree):Hp:=[(1000,.row 56 2 (l.map (Zbz false)))]
theorem sort_blk {E:Env} {l l':List Tree} {k b:Nat}:Ai E (ZdK l) k b↔Ai E (ZdK l') k b:=by
 unfold Ai;simp only[Ah];cases Nat.beq 1000 k <;> exact Iff.rfl
theorem Zxu {E:Env} {l l':List Tree}:Live E (ZdK l)=Live E (ZdK l'):=by
 funext b;exact propext ⟨fun ⟨k,h⟩=>⟨k,sort_blk.1 h⟩,fun ⟨k,h⟩=>⟨k,sort_blk.1 h⟩⟩
theorem Zxv {E:Env} {l l':List Tree} {o:Bars}:bars E (ZdK l) o=bars E (ZdK l') o:=by
 unfold bars;rw[Zxu (l:=l) (l':=l')]
def ZCD:Env:=⟨fun _=>0,fun _=>.slice none 0 0,fun _=>[]⟩
theorem ZAw {M:Bars} {w:World} {g off n:Nat} (hM:∀ t b,M t b→b < w.heap.size) (hMs:∀ b,M true b→M false b) (hg:∀ t,M t g) (hgs:g < w.heap.size):CmpLays Tryz.prog 49 #[] (encP (M:=M) (w:=w)) 2 cfP g off n w:=fun m os dk hs x y=>by
 have hA:=(ZxC (t:=false) (u:=false) x.t x.small y.t y.small).run;have hcar:Carry M M w (sortWorldK encP 2 w g off m dk os):=by
  refine⟨fun t k hk hn=>⟨?_,hn⟩,size_sortWorldK_c encP 2 w g off m dk os⟩;have hne:g≠k:=fun e=>hn (e ▸ hg t)
  show (((Sort.ahead w m).heap.modify g _)++os)[k]? = _;rw[JQ (by simp[Sort.ahead];exact hk)];simp only[JD];rw[Ha hne];rfl
 have hbar:bars ZCD [] M=M:=by
  funext t b;refine propext ⟨fun h=>?_,.inr⟩;rcases h with ⟨k,hk⟩|h
  ·exact absurd hk (by simp[Ai,Ah])
  ·exact h
 have hlv:∀ b,¬ Live ZCD [] b:=fun b ⟨k,hk⟩=>by simp[Ai,Ah] at hk
 have hx:=D.Rep.carry hcar x.rep;have hy:=D.Rep.carry hcar y.rep;have hsz:=size_sortWorldK_c encP 2 w g off m dk os;generalize sortWorldK encP 2 w g off m dk os=W at *;have hr:=hA ZCD W [.agg x.c.toArray,.agg y.c.toArray] M ⟨fun k ob hk=>by simp[Ah] at hk,fun k k' b hk=>by simp[Ai,Ah] at hk,fun k ob hk=>by simp[Ah] at hk⟩ (by
  rw[hbar];simp only[V.Reps,V.Rep];exact⟨_,_,rfl,⟨x.c,rfl,hx⟩,_,_,rfl,⟨y.c,rfl,hy⟩,rfl⟩) (fun k hk=>by simp[V.keyss,V.keys] at hk) (fun t b h=>⟨Gm (hM t b h) hsz,hlv b⟩) hMs
 refine Calls.mono hr ?_;rintro e w' ⟨E',u,rfl,_,hu,_,hext,_⟩;simp only[V.Rep,D.RepV,D.Rep,Hz,HA] at hu;obtain⟨q,os',rfl⟩:=ZAs hext hlv;exact⟨by rw[hu.1];rfl,q,os',rfl⟩
theorem ZpJ {l:List Tree} (hl:l.length≤100000000) (hc:∀ x∈l,cnt x≤100000000) :
  Af Tryz.prog 48 [.own 1000 l.length,.fn (.func 49) [] []] (ZdK l) (.tup []) (ZdK (Zcg l)):=by
 refine⟨⟨_,Tryz.func48,rfl,rfl⟩,fun E w us o H hr hk ho hs=>?_⟩;simp only[V.Reps,V.Rep,Hz,HA] at hr;obtain⟨u,_,rfl,⟨m,v1,v2,v3,v4⟩,_,_,rfl,⟨a,c,rfl,rfl,rfl⟩,rfl⟩:=hr;have hk1:Ah (ZdK l) 1000=some (.row 56 2 (l.map (Zbz false))):=rfl;have e1:m=l.length:=Za9 v1 (.inl ⟨_,_,_,hk1,by simp⟩);have hu:=v4 e1.symm;subst hu;have hrow:=H.obs 1000 _ hk1;simp only[ObRep] at hrow;have hlen:(Zcg l).length=l.length:=(ZcV l).length_eq;have hhist:Hist E (ZdK l) E (ZdK (Zcg l)):=fun k hk1000 hks=>by
  simp only[Ah] at hks;split at hks
  ·rename_i hb;have:=HQ hb;subst this;refine⟨rfl,rfl,fun m hm=>⟨m,.inl ⟨_,_,_,rfl,?_⟩,Hg _,fun _=>rfl⟩,fun sz n hv=>?_⟩
   ·have:m=l.length:=Za9 hm (.inl ⟨_,_,_,hk1,by simp⟩)
    rw[this,Hi,hlen]
   ·rcases hv with ⟨_,_,h1,h2⟩|⟨_,_,_,_,h1,_⟩
    ·cases h1;exact⟨_,.inl ⟨_,_,hk1,rfl⟩⟩
    ·cases h1
  ·cases hks
 have hblk:∀ k b,Ai E (ZdK (Zcg l)) k b→Live E (ZdK l) b:=fun k b hb=>⟨k,sort_blk.1 hb⟩
 have hclosed:∀ k ob,Ah (ZdK (Zcg l)) k=some ob→∀ j∈ob.keys,(Ah (ZdK (Zcg l)) j).isSome=true:=fun k ob hk j hj=>by
  simp only[Ah] at hk;split at hk
  ·cases hk;simp[Ob.keys] at hj
  ·cases hk
 have hapart:∀ k k' b,Ai E (ZdK (Zcg l)) k b→Ai E (ZdK (Zcg l)) k' b→k=k':=fun k k' b h1 h2=>H.apart k k' b (sort_blk.1 h1) (sort_blk.1 h2)
 have hend:∀ w',RowAt (bars E (ZdK l) o) w' 56 2 (E.row 1000) ((Zcg l).map (Zbz false))→HRep E (ZdK (Zcg l)) o w':=fun w' hR=>by
  refine⟨fun k ob hk=>?_,hapart,hclosed⟩;rw[Zxv (l:=Zcg l) (l':=l)];simp only[Ah] at hk;split at hk
  ·rename_i hb;have:=HQ hb;subst this;cases hk;exact hR
  ·cases hk
 have hsz2:∀ y∈(Zcg l).map (Zbz false),y.size=2:=fun y hy=>by
  obtain⟨t,_,rfl⟩:=List.mem_map.1 hy;rfl
 obtain⟨_,⟨a,hv,hn⟩|⟨g,off,cap,cur,hv,h0,hg,hlc,hcm,hcs,hreps⟩⟩:=hrow
 ·have hl0:l=[]:=by simpa using hn
  subst hl0;rw[hv];refine Calls.mono (AnyF.slices_SortFunc_none (ρ:=Tryz.sortRen) { Tryz.sortLay with } a 0 (.func (.func 49) #[] #[]) w) ?_;rintro e w' ⟨rfl,rfl⟩;refine⟨E,_,rfl,hend _ ?_,by simp only[V.Rep,V.Reps];exact⟨[],rfl,rfl⟩,by simp[V.keys,V.keyss],Ext.refl _ _,hhist,fun k b hb=>.inl (hblk k b hb)⟩;exact⟨hsz2,.inl ⟨a,hv,rfl⟩⟩
 ·rw[Hi] at hv hlc hreps;have hlive:Live E (ZdK l) g:=⟨1000,by unfold Ai;rw[hk1,hv];simp[obOf];omega⟩
  have hgs:g < w.heap.size:=(Array.getElem?_eq_some_iff.1 hg).1;have hM:∀ t b,bars E (ZdK l) o t b→b < w.heap.size:=fun t b h=>by
   rcases h with ⟨k,h⟩|h
   ·exact H.lt h
   ·exact (ho t b h).1
  have hMs:∀ b,bars E (ZdK l) o true b→bars E (ZdK l) o false b:=fun b h=>by
   rcases h with h|h
   ·exact .inl h
   ·exact .inr (hs b h)
  generalize hMM:bars E (ZdK l) o=M at *;have hMg:∀ t,M t g:=fun t=>by rw[←hMM];exact .inl hlive
  obtain⟨ps,p1,p2⟩:=Zte (M:=M) (w:=w) hc hreps;have hpl:ps.length=l.length:=by rw[←p1,Hi]
  have hF:(flatK encP 2 ps.toArray).toList=ps.flatMap encP:=Zmx encP 2 (by decide) ZnQ ps.toArray;have hFs:(flatK encP 2 ps.toArray).size=l.length * 2:=by rw[size_flatK];simp[hpl]
  have hcs2:off+l.length * 2≤cur.size:=by have:=Gi 2 hlc;omega
  have hH:HoldsK encP 2 w g off ps.toArray:=ZrK hg (by rw[hFs,hF,p2]) (by rw[hFs];exact hcs2);have hcall:=AnyQ.slices_SortFunc (ρ:=Tryz.sortRen) Tryz.sortLay 2 Tryz.isAgg56 Tryz.sizeOf56 (encP (M:=M) (w:=w)) ZnQ ZAu cfP swoP 49 #[] g off cap ps.toArray w
   (fun args w=>enters_of Tryz.func49 (by kernel_rfl) rfl args w) (ZAw hM hMs hMg hgs) hH hgs (by simp[hpl];omega)
  rw[hv];have hsz:ps.toArray.size=l.length:=by simp[hpl]
  rw[hsz] at hcall;refine Calls.mono hcall ?_;rintro e w' ⟨rfl,d',n,os,hp,hso,rfl⟩;have hd':d'.size=ps.toArray.size:=hp.1;have hH':=holdsK_sortWorldK_c encP 2 w g off ps.toArray d' n os hH hgs hd';have hg':(sortWorldK encP 2 w g off n d' os).heap[g]? = some (.cells (putCells id off (flatK encP 2 d') cur) 56 (0,0)):=by
   show (((Sort.ahead w n).heap.modify g _)++os)[g]? = _;rw[JQ (by simp[Sort.ahead];exact hgs)];simp only[JD,if_true];show (w.heap[g]?).map _=_;rw[hg];rfl
  have hpe:d'.toList.Perm ps:=ZAv (d:=ps.toArray) (by rw[hsz];exact hp);have hsort:d'.toList.map treP=Zcg l:=by
   refine ZfF ?_ (Zu3 (by rw[hd',hsz]) hso) (Zgd l);refine ((hpe.map treP).trans ?_).trans (ZcV l).symm;rw[p1]
  have hcar:Carry M M w (sortWorldK encP 2 w g off n d' os):=by
   refine⟨fun t k hk hn=>⟨?_,hn⟩,size_sortWorldK_c encP 2 w g off n d' os⟩;have hne:g≠k:=fun e=>hn (e ▸ hMg t)
   show (((Sort.ahead w n).heap.modify g _)++os)[k]? = _;rw[JQ (by simp[Sort.ahead];exact hk)];simp only[JD];rw[Ha hne];rfl
  have hFs':(flatK encP 2 d').size=l.length * 2:=by rw[size_flatK,hd',hsz]
  have hps:(putCells id off (flatK encP 2 d') cur).size=cur.size:=by simp[putCells]
  refine⟨E,_,rfl,hend _ ?_,by simp only[V.Rep,V.Reps];exact⟨[],rfl,rfl⟩,by simp[V.keys,V.keyss],⟨rfl,rfl,rfl,size_sortWorldK_c encP 2 w g off n d' os,fun k hk hn=>?_,Nat.le_add_right _ _⟩,hhist,fun k b hb=>.inl (hblk k b hb)⟩
  ·refine⟨hsz2,.inr ⟨g,off,cap,_,by rw[Hi,hlen];exact hv,h0,hg',by rw[Hi,hlen];exact hlc,hcm,by rw[hps];exact hcs,?_⟩⟩;rw[Hi,hlen,←hFs',ZrJ hH' hg' (by rw[hps,hFs'];exact hcs2),Zmx encP 2 (by decide) ZnQ d',←hsort];exact D.Reps.carry hcar (Ztf d'.toList)
  ·have hne:g≠k:=fun e=>hn (e ▸ hlive)
   show (((Sort.ahead w n).heap.modify g _)++os)[k]? = _;rw[JQ (by simp[Sort.ahead];exact hk)];simp only[JD];rw[Ha hne];rfl
end Go.Proofs.YtbpmepgnjanhnaaGreat
