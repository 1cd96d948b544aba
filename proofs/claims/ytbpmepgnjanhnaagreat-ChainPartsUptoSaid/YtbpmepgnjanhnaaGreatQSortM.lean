import Derived.Test.YtbpmepgnjanhnaaGreatQShortD
import Derived.Test.YtbpmepgnjanhnaaGreatSmN
import Derived.Test.YtbpmepgnjanhnaaGreatS5
set_option linter.unusedVariables false
set_option linter.unusedSimpArgs false
set_option linter.unusedSectionVars false
namespace Go.Proofs.YtbpmepgnjanhnaaGreat
open Go.RowKit Go.Sort
set_option maxRecDepth 100000
theorem Zob {W:World} {g off:Nat} {F cur:Array Value} {e:TypeId} {fr:Nat×Nat} (h:Go.Sort.Holds (id:Value→Value) W g off F) (hg:W.heap[g]? = some (.cells cur e fr)) (hs:off+F.size≤cur.size):(cur.toList.drop off).take F.size=F.toList:=by
 refine List.ext_getElem (by simp;omega) fun j h1 h2=>?_
 have hj:j < F.size:=by simpa using h2
 have:=(h j hj).1
 simp only[World.cell?,hg] at this
 rw[getElem!_pos F j hj] at this
 have h3:cur[off+j]? = some F[j]:=by simpa using this
 have h4:off+j < cur.size:=by omega
 rw[Array.getElem?_eq_getElem h4] at h3
 simp only[List.getElem_take,List.getElem_drop,Array.getElem_toList]
 exact Option.some.inj h3
theorem Zoc {W:World} {g off:Nat} {F cur:Array Value} {e:TypeId} (hg:W.heap[g]? = some (.cells cur e (0,0))) (hs:(cur.toList.drop off).take F.size=F.toList) (hz:off+F.size≤cur.size):Go.Sort.Holds (id:Value→Value) W g off F:=fun j hj=>by
 constructor
 ·simp only[World.cell?,hg]
  have h4:off+j < cur.size:=by omega
  have h1:((cur.toList.drop off).take F.size)[j]? = F.toList[j]? := by rw[hs]
  rw[List.getElem?_take,if_pos hj,List.getElem?_drop] at h1
  simp only[Array.getElem?_toList] at h1
  rw[getElem!_pos F j hj]
  simp only[Option.isSome_none,Bool.false_eq_true,if_false,id]
  rw[h1,Array.getElem?_eq_getElem hj]
 ·simp only[World.frozen?,hg];simp
abbrev ZcU (l:List Tree):Hp:=[(1000,.row 56 2 (l.map (Zbf false)))]
theorem sort_blk {E:Env} {l l':List Tree} {k b:Nat}:blkOf E (ZcU l) k b↔blkOf E (ZcU l') k b:=by
 unfold blkOf
 simp only[hget]
 cases Nat.beq 1000 k <;> exact Iff.rfl
theorem Ztm {E:Env} {l l':List Tree}:Live E (ZcU l)=Live E (ZcU l'):=by
 funext b
 exact propext ⟨fun ⟨k,h⟩=>⟨k,sort_blk.1 h⟩,fun ⟨k,h⟩=>⟨k,sort_blk.1 h⟩⟩
theorem Ztn {E:Env} {l l':List Tree} {o:Bars}:bars E (ZcU l) o=bars E (ZcU l') o:=by
 unfold bars
 rw[Ztm (l:=l) (l':=l')]
def Zxh:Env:=⟨fun _=>0,fun _=>.slice none 0 0,fun _=>[]⟩
set_option maxHeartbeats 1000000 in
theorem ZvI {M:Bars} {w:World} {g off n:Nat} (hM:∀ t b,M t b→b < w.heap.size) (hMs:∀ b,M true b→M false b) (hg:∀ t,M t g) (hgs:g < w.heap.size):CmpLays Tryz.prog 49 #[] (encP (M:=M) (w:=w)) 2 cfP g off n w:=fun m os dk hs x y=>by
 have hA:=(ZtH (t:=false) (u:=false) x.t x.small y.t y.small).run
 have hcar:Carry M M w (sortWorldK encP 2 w g off m dk os):=by
  refine⟨fun t k hk hn=>⟨?_,hn⟩,size_sortWorldK_c encP 2 w g off m dk os⟩
  have hne:g≠k:=fun e=>hn (e ▸ hg t)
  show (((Sort.ahead w m).heap.modify g _)++os)[k]? = _
  rw[Array.getElem?_append_left (by simp[Sort.ahead];exact hk)]
  simp only[Array.getElem?_modify]
  rw[if_neg hne];rfl
 have hbar:bars Zxh [] M=M:=by
  funext t b
  refine propext ⟨fun h=>?_,.inr⟩
  rcases h with ⟨k,hk⟩|h
  ·exact absurd hk (by simp[blkOf,hget])
  ·exact h
 have hlv:∀ b,¬ Live Zxh [] b:=fun b ⟨k,hk⟩=>by simp[blkOf,hget] at hk
 have hx:=D.Rep.carry hcar x.rep
 have hy:=D.Rep.carry hcar y.rep
 have hsz:=size_sortWorldK_c encP 2 w g off m dk os
 generalize sortWorldK encP 2 w g off m dk os=W at *
 have hr:=hA Zxh W [.agg x.c.toArray,.agg y.c.toArray] M ⟨fun k ob hk=>by simp[hget] at hk,fun k k' b hk=>by simp[blkOf,hget] at hk,fun k ob hk=>by simp[hget] at hk⟩ (by
  rw[hbar]
  simp only[V.Reps,V.Rep]
  exact⟨_,_,rfl,⟨x.c,rfl,hx⟩,_,_,rfl,⟨y.c,rfl,hy⟩,rfl⟩) (fun k hk=>by simp[V.keyss,V.keys] at hk) (fun t b h=>⟨Nat.lt_of_lt_of_le (hM t b h) hsz,hlv b⟩) hMs
 refine Calls.mono hr ?_
 rintro e w' ⟨E',u,rfl,_,hu,_,hext,_⟩
 simp only[V.Rep,D.RepV,D.Rep,List.cons.injEq,and_true] at hu
 obtain⟨q,os',rfl⟩:=ZvC hext hlv
 exact⟨by rw[hu.1];rfl,q,os',rfl⟩
set_option maxHeartbeats 2000000 in
theorem ZmJ {l:List Tree} (hl:l.length≤100000000) (hc:∀ x∈l,cnt x≤100000000) :
  ACalls Tryz.prog 48 [.own 1000 l.length,.fn (.func 49) [] []] (ZcU l) (.tup []) (ZcU (Zey l)):=by
 refine⟨⟨_,Tryz.func48,rfl,rfl⟩,fun E w us o H hr hk ho hs=>?_⟩
 simp only[V.Reps,V.Rep,List.cons.injEq,and_true] at hr
 obtain⟨u,_,rfl,⟨m,v1,v2,v3,v4⟩,_,_,rfl,⟨a,c,rfl,rfl,rfl⟩,rfl⟩:=hr
 have hk1:hget (ZcU l) 1000=some (.row 56 2 (l.map (Zbf false))):=rfl
 have e1:m=l.length:=ZaS v1 (.inl ⟨_,_,_,hk1,by simp⟩)
 have hu:=v4 e1.symm
 subst hu
 have hrow:=H.obs 1000 _ hk1
 simp only[ObRep] at hrow
 have hlen:(Zey l).length=l.length:=(ZgI l).length_eq
 have hhist:Hist E (ZcU l) E (ZcU (Zey l)):=fun k hk1000 hks=>by
  simp only[hget] at hks
  split at hks
  ·rename_i hb
   have:=Nat.eq_of_beq_eq_true hb
   subst this
   refine⟨rfl,rfl,fun m hm=>⟨m,.inl ⟨_,_,_,rfl,?_⟩,Nat.le_refl _,fun _=>rfl⟩,fun sz n hv=>?_⟩
   ·have:m=l.length:=ZaS hm (.inl ⟨_,_,_,hk1,by simp⟩)
    rw[this,List.length_map,hlen]
   ·rcases hv with ⟨_,_,h1,h2⟩|⟨_,_,_,_,h1,_⟩
    ·cases h1
     exact⟨_,.inl ⟨_,_,hk1,rfl⟩⟩
    ·cases h1
  ·cases hks
 have hblk:∀ k b,blkOf E (ZcU (Zey l)) k b→Live E (ZcU l) b:=fun k b hb=>⟨k,sort_blk.1 hb⟩
 have hclosed:∀ k ob,hget (ZcU (Zey l)) k=some ob→∀ j∈ob.keys,(hget (ZcU (Zey l)) j).isSome=true:=fun k ob hk j hj=>by
  simp only[hget] at hk
  split at hk
  ·cases hk;simp[Ob.keys] at hj
  ·cases hk
 have hapart:∀ k k' b,blkOf E (ZcU (Zey l)) k b→blkOf E (ZcU (Zey l)) k' b→k=k':=fun k k' b h1 h2=>H.apart k k' b (sort_blk.1 h1) (sort_blk.1 h2)
 have hend:∀ w',RowAt (bars E (ZcU l) o) w' 56 2 (E.row 1000) ((Zey l).map (Zbf false))→HRep E (ZcU (Zey l)) o w':=fun w' hR=>by
  refine⟨fun k ob hk=>?_,hapart,hclosed⟩
  rw[Ztn (l:=Zey l) (l':=l)]
  simp only[hget] at hk
  split at hk
  ·rename_i hb
   have:=Nat.eq_of_beq_eq_true hb
   subst this
   cases hk
   exact hR
  ·cases hk
 have hsz2:∀ y∈(Zey l).map (Zbf false),y.size=2:=fun y hy=>by
  obtain⟨t,_,rfl⟩:=List.mem_map.1 hy;rfl
 obtain⟨_,⟨a,hv,hn⟩|⟨g,off,cap,cur,hv,h0,hg,hlc,hcm,hcs,hreps⟩⟩:=hrow
 ·have hl0:l=[]:=by simpa using hn
  subst hl0
  rw[hv]
  refine Calls.mono (AnyF.slices_SortFunc_none (ρ:=Tryz.sortRen) { Tryz.sortLay with } a 0 (.func (.func 49) #[] #[]) w) ?_
  rintro e w' ⟨rfl,rfl⟩
  refine⟨E,_,rfl,hend _ ?_,by simp only[V.Rep,V.Reps];exact⟨[],rfl,rfl⟩,by simp[V.keys,V.keyss],Ext.refl _ _,hhist,fun k b hb=>.inl (hblk k b hb)⟩
  exact⟨hsz2,.inl ⟨a,hv,rfl⟩⟩
 ·rw[List.length_map] at hv hlc hreps
  have hlive:Live E (ZcU l) g:=⟨1000,by unfold blkOf;rw[hk1,hv];simp[obOf];omega⟩
  have hgs:g < w.heap.size:=(Array.getElem?_eq_some_iff.1 hg).1
  have hM:∀ t b,bars E (ZcU l) o t b→b < w.heap.size:=fun t b h=>by
   rcases h with ⟨k,h⟩|h
   ·exact H.lt h
   ·exact (ho t b h).1
  have hMs:∀ b,bars E (ZcU l) o true b→bars E (ZcU l) o false b:=fun b h=>by
   rcases h with h|h
   ·exact .inl h
   ·exact .inr (hs b h)
  generalize hMM:bars E (ZcU l) o=M at *
  have hMg:∀ t,M t g:=fun t=>by rw[←hMM];exact .inl hlive
  obtain⟨ps,p1,p2⟩:=ZpG (M:=M) (w:=w) hc hreps
  have hpl:ps.length=l.length:=by rw[←p1,List.length_map]
  have hF:(flatK encP 2 ps.toArray).toList=ps.flatMap encP:=ZjT encP 2 (by decide) Zk3 ps.toArray
  have hFs:(flatK encP 2 ps.toArray).size=l.length * 2:=by rw[size_flatK];simp[hpl]
  have hcs2:off+l.length * 2≤cur.size:=by have:=Nat.mul_le_mul_right 2 hlc;omega
  have hH:HoldsK encP 2 w g off ps.toArray:=Zoc hg (by rw[hFs,hF,p2]) (by rw[hFs];exact hcs2)
  have hcall:=AnyQ.slices_SortFunc (ρ:=Tryz.sortRen) Tryz.sortLay 2 Tryz.isAgg56 Tryz.sizeOf56 (encP (M:=M) (w:=w)) Zk3 ZvE cfP swoP 49 #[] g off cap ps.toArray w
   (fun args w=>enters_of Tryz.func49 (by kernel_rfl) rfl args w) (ZvI hM hMs hMg hgs) hH hgs (by simp[hpl];omega)
  rw[hv]
  have hsz:ps.toArray.size=l.length:=by simp[hpl]
  rw[hsz] at hcall
  refine Calls.mono hcall ?_
  rintro e w' ⟨rfl,d',n,os,hp,hso,rfl⟩
  have hd':d'.size=ps.toArray.size:=hp.1
  have hH':=holdsK_sortWorldK_c encP 2 w g off ps.toArray d' n os hH hgs hd'
  have hg':(sortWorldK encP 2 w g off n d' os).heap[g]? = some (.cells (putCells id off (flatK encP 2 d') cur) 56 (0,0)):=by
   show (((Sort.ahead w n).heap.modify g _)++os)[g]? = _
   rw[Array.getElem?_append_left (by simp[Sort.ahead];exact hgs)]
   simp only[Array.getElem?_modify,if_true]
   show (w.heap[g]?).map _=_
   rw[hg];rfl
  have hpe:d'.toList.Perm ps:=ZvF (d:=ps.toArray) (by rw[hsz];exact hp)
  have hsort:d'.toList.map treP=Zey l:=by
   refine ZfV ?_ (ZqX (by rw[hd',hsz]) hso) (Zmx l)
   refine ((hpe.map treP).trans ?_).trans (ZgI l).symm
   rw[p1]
  have hcar:Carry M M w (sortWorldK encP 2 w g off n d' os):=by
   refine⟨fun t k hk hn=>⟨?_,hn⟩,size_sortWorldK_c encP 2 w g off n d' os⟩
   have hne:g≠k:=fun e=>hn (e ▸ hMg t)
   show (((Sort.ahead w n).heap.modify g _)++os)[k]? = _
   rw[Array.getElem?_append_left (by simp[Sort.ahead];exact hk)]
   simp only[Array.getElem?_modify]
   rw[if_neg hne];rfl
  have hFs':(flatK encP 2 d').size=l.length * 2:=by rw[size_flatK,hd',hsz]
  have hps:(putCells id off (flatK encP 2 d') cur).size=cur.size:=by simp[putCells]
  refine⟨E,_,rfl,hend _ ?_,by simp only[V.Rep,V.Reps];exact⟨[],rfl,rfl⟩,by simp[V.keys,V.keyss],⟨rfl,rfl,rfl,size_sortWorldK_c encP 2 w g off n d' os,fun k hk hn=>?_,Nat.le_add_right _ _⟩,hhist,fun k b hb=>.inl (hblk k b hb)⟩
  ·refine⟨hsz2,.inr ⟨g,off,cap,_,by rw[List.length_map,hlen];exact hv,h0,hg',by rw[List.length_map,hlen];exact hlc,hcm,by rw[hps];exact hcs,?_⟩⟩
   rw[List.length_map,hlen,←hFs',Zob hH' hg' (by rw[hps,hFs'];exact hcs2),ZjT encP 2 (by decide) Zk3 d',←hsort]
   exact D.Reps.carry hcar (ZpH d'.toList)
  ·have hne:g≠k:=fun e=>hn (e ▸ hlive)
   show (((Sort.ahead w n).heap.modify g _)++os)[k]? = _
   rw[Array.getElem?_append_left (by simp[Sort.ahead];exact hk)]
   simp only[Array.getElem?_modify]
   rw[if_neg hne];rfl
open Go.RowKit
set_option maxRecDepth 100000
theorem ZvJ {g:Gram} {ss:List Step} {w:List Int} {i:Nat} (h:i < ss.length) (l:List Tree):trN g ss w (i+1) l=match ledA (ZaE g (ss.take i)) ss[i] l [] with
  | .error c=>([],⟨c,(i:Int)⟩)
  | .ok out=>trN g ss w i (out++if w.length=0 then ss[i].empty else []):=by rw[trN,Zs1 h];rfl
theorem Zto {old:Gram} {s:Step} {l out:List Tree} {j:Nat} (h:j < l.length):ledA old s (l.drop j) out=if ¬ (Zce old s l[j]).2.code=0 then .error (Zce old s l[j]).2.code else ledA old s (l.drop (j+1)) (out++[(Zce old s l[j]).1]):=by
 conv=>lhs;rw[List.drop_eq_getElem_cons h,ledA]
set_option maxHeartbeats 8000000 in
theorem Zod {g:Gram} {ss:List Step} {w:List Int} (hf:g.fit) (hs:∀ s∈ss,s.fit) (hl:ss.length≤100000000) (hw:w.length≤100000000) :
  ACalls Tryz.prog 19 [.d (Za6 false g),.d (ZcR false false ss),.d (ints false w)] [] (.tup [.d (Zap false (ZjN g ss w).1),.d (Zba (ZjN g ss w).2)]) []:=by
 refine ACalls.intro (n:=101) Tryz.func19 rfl rfl (by simp) (by rfl) ?_
 simp only[Zal]
 have hck:=Zn1 (t:=false) (u:=false) (v:=false) hf hs hl
 have hla:=ZfW (t:=false) (u:=false) (v:=false) hf hs hl
 have hlf:=ZdP hf hs
 have hfl:=ZmI (t:=false) (u:=false) (g:=ZaE g ss) (w:=w) hlf hw
 have hfo:=ZqW (t:=false) (u:=false) (g:=ZaE g ss) (w:=w)
 have hfb:(ZaK (ZaE g ss) w).2.code=0→(ZaK (ZaE g ss) w).1.length≤200∧∀ x∈(ZaK (ZaE g ss) w).1,cnt x≤400:=fun h=>by
  have hok:=Zc2 h
  exact⟨by rw[hok.len];exact hok.few,fun x hx=>(hok.mem hx).2⟩
 have hr:∃ r,ZjN g ss w=r:=⟨_,rfl⟩
 obtain⟨r,hr⟩:=hr
 rw[hr]
 unfold ZjN at hr
 have hcf:=fun h=>(Zxg (g:=g) (ss:=ss) h).2
 generalize ZaK (ZaE g ss) w=FL at *
 generalize ZaE g ss=L at *
 generalize chnF g ss=CF at *
 by_cases h0:CF.code=0
 ·rw[if_neg (fun q=>q h0)] at hr
  obtain⟨h8,hst⟩:=hcf h0
  by_cases h1:FL.2.code=0
  ·rw[if_neg (fun q=>q h1)] at hr
   have hfo:=hfo h1
   obtain⟨hl200,hc400⟩:=hfb h1
   refine VA ?_
   refine Zab [] (hA:=hck) (hr:=?_)
   refine VA ?_
   refine Zab [] (hA:=hla) (hr:=?_)
   refine VA ?_
   refine Zab [(900,909)] (hA:=hfo) (hr:=?_)
   refine VA ?_
   clear hfl hfo hfb hla hcf hlf hck
   obtain⟨l0,fc,fa⟩:=FL
   dsimp only at h1 hr hl200 hc400 ⊢
   refine Zak (X:=Nat×List Tree) (fun y=>y.1≤ss.length∧y.2.length+200 * y.1≤1800∧(∀ x∈y.2,cnt x≤400)∧trN g ss w y.1 y.2=r) (fun y=>[(11,I ((y.1:Int) - 1)),(9,.own 909 y.2.length),(7,.ptr 7 0),(3,.ptr 3 0),(0+1,.d (ZcR false false ss)),(0+1+1,.d (ints false w))]) (fun y=>[(909,.row 56 2 (y.2.map (ZaY false))),(7,.box 31 [.d (iD 0),.d (iD 0)]),(3,Zay false g)]) (fun y=>y.1) (ss.length,l0) ⟨Nat.le_refl _,by dsimp only;omega,hc400,hr⟩ ?_
   clear hr hl200 hc400
   rintro⟨k,l⟩ ⟨i1,i2,i3,i4⟩
   dsimp only at i1 i2 i3 i4 ⊢
   cases k with
   | zero =>
    rw[trN] at i4
    subst i4
    have hso:=ZmJ (l:=l) (by omega) (fun x hx=>Nat.le_trans (i3 x hx) (by decide))
    unfold ZcU at hso
    rw[show (Zbf false)=ZaY false from funext fun x=>(ZcM false x).symm] at hso
    have hsl:(Zey l).length=l.length:=(ZgI l).length_eq
    refine VA ?_
    refine Zab [(1000,909)] (hA:=hso) (hr:=?_)
    repeat (first|refine Zav 909 rfl ?_|refine wk1 ?_|refine Zaa (hr:=?_))
    rw[←hsl]
    exact fin
   | succ n =>
    have hlt:n < ss.length:=by omega
    rw[ZvJ hlt] at i4
    rw[show (((n+1:Nat):Int)) - 1=(n:Int) by omega]
    have hla:=ZfW (t:=false) (u:=false) (v:=false) (ss:=ss.take n) hf (fun s hs'=>hs s (List.mem_of_mem_take hs')) (by rw[List.length_take];omega)
    have hlf:=ZdP hf (ss:=ss.take n) (fun s hs'=>hs s (List.mem_of_mem_take hs'))
    have hse:=ZqP (hst n hlt)
    generalize hL:ZaE g (ss.take n)=old at *
    have hbk:∀ y:Tree,cnt y≤400→ACalls Tryz.prog 46 [.d (Za6 false old),.d (stpV false ss[n]),.d (Zbf false y)] [] (.tup [.d (Zbf false (Zce old ss[n] y).1),.d (Zba (Zce old ss[n] y).2)]) []:=fun y hy=>ZuF hlf (hs _ (List.getElem_mem hlt)) (by omega)
    have hR:∃ R,ledA old ss[n] l []=R:=⟨_,rfl⟩
    obtain⟨R,hR⟩:=hR
    have hRk:=fun z (h:R=.ok z)=>Zs4 (hR.trans h) (fun x hx=>(by cases hx))
    rw[hR] at i4
    refine VA ?_
    refine Zbi 12 912 56 2 rfl rfl rfl ?_
    refine VA ?_
    refine Zak (X:=Nat×List Tree) (fun y=>y.1≤l.length∧y.2.length=y.1∧ledA old ss[n] (l.drop y.1) y.2=R) (fun y=>[(47,I y.1),(46,I l.length),(45,.own 909 l.length),(12,.own 912 y.2.length),(11,I n),(9,.own 909 l.length),(7,.ptr 7 0),(3,.ptr 3 0),(0+1,.d (ZcR false false ss)),(0+1+1,.d (ints false w))]) (fun y=>[(912,.row 56 2 (y.2.map (ZaY false))),(909,.row 56 2 (l.map (ZaY false))),(7,.box 31 [.d (iD 0),.d (iD 0)]),(3,Zay false g)]) (fun y=>l.length - y.1) (0,[]) ⟨Nat.zero_le _,rfl,hR⟩ ?_
    rintro⟨j,out⟩ ⟨j1,j2,j3⟩
    dsimp only at j1 j2 j3 ⊢
    by_cases hjl:j < l.length
    ·have hb:=hbk l[j] (i3 _ (List.getElem_mem hjl))
     rw[Zto hjl] at j3
     by_cases hc:(Zce old ss[n] l[j]).2.code=0
     ·rw[if_neg (fun q=>q hc)] at j3
      have ec:out.map (ZaY false)++[.agg [iD (Zce old ss[n] l[j]).1.rule,Zap false (Zce old ss[n] l[j]).1.kids]]=(out++[(Zce old ss[n] l[j]).1]).map (ZaY false):=by rw[List.map_append,List.map_cons,List.map_nil,ZeR]
      refine VA ?_
      rw[ZcL]
      refine Zab [] (hA:=hla) (hr:=?_)
      refine VA ?_
      refine Zab [] (hA:=hb) (hr:=?_)
      refine VA ?_
      rw[ec]
      exact Zae (j+1,out++[(Zce old ss[n] l[j]).1]) (a:=⟨by dsimp only;omega,by simp[j2],j3⟩) (b:=by dsimp only;omega)
     ·rw[if_pos hc] at j3
      subst j3
      dsimp only at i4
      subst i4
      refine VA ?_
      rw[ZcL]
      refine Zab [] (hA:=hla) (hr:=?_)
      refine VA ?_
      refine Zab [] (hA:=hb) (hr:=?_)
      refine VA ?_
      exact fin
    ·have hj:j=l.length:=by omega
     subst hj
     rw[List.drop_length,ledA] at j3
     subst j3
     dsimp only at i4
     obtain⟨z1,z2⟩:=hRk _ rfl
     have hse2:=hse.1
     refine VA ?_
     have hend:∀ (z:List Tree),z=out++(if w.length=0 then ss[n].empty else [])→z.length+200 * n≤1800∧(∀ x∈z,cnt x≤400)∧trN g ss w n z=r:=fun z hz=>by
      subst hz
      refine⟨?_,fun x hx=>?_,i4⟩
      ·rw[List.length_append]
       split <;> (try simp only[List.length_nil]) <;> omega
      ·rcases List.mem_append.1 hx with hx|hx
       ·exact z2 x hx
       ·split at hx
        ·exact hse.2 x hx
        ·cases hx
     by_cases hw0:w.length=0
     ·rw[if_pos hw0] at hend
      refine Zak (X:=Nat) (fun e=>e≤ss[n].empty.length) (fun e=>[(83,I e),(82,I ss[n].empty.length),(81,.d (Zap false ss[n].empty)),(12,.own 912 (out++ss[n].empty.take e).length),(11,I n),(9,.own 909 l.length),(7,.ptr 7 0),(3,.ptr 3 0),(0+1,.d (ZcR false false ss)),(0+1+1,.d (ints false w))]) (fun e=>[(912,.row 56 2 ((out++ss[n].empty.take e).map (ZaY false))),(909,.row 56 2 (l.map (ZaY false))),(7,.box 31 [.d (iD 0),.d (iD 0)]),(3,Zay false g)]) (fun e=>ss[n].empty.length - e) 0 (Nat.zero_le _) ?_
      intro e he
      by_cases hel:e < ss[n].empty.length
      ·have hto:=ZiF (t:=false) ss[n].empty[e] (Nat.le_trans (hse.2 _ (List.getElem_mem hel)) (by decide))
       have ec:(out++ss[n].empty.take e).map (ZaY false)++[Zbf false ss[n].empty[e]]=(out++ss[n].empty.take (e+1)).map (ZaY false):=by
        rw[List.take_succ_eq_append_getElem hel,←List.append_assoc,List.map_append (l₂:=[ss[n].empty[e]]),List.map_cons,List.map_nil,ZeR]
       refine VA ?_
       refine Zab [] (hA:=hto) (hr:=?_)
       refine VA ?_
       rw[ec,List.length_map]
       exact Zae (e+1)
      ·have he:e=ss[n].empty.length:=by omega
       subst he
       rw[List.take_length]
       obtain⟨b1,b2,b3⟩:=hend _ rfl
       generalize out++ss[n].empty=z at *
       repeat (first|refine Zuo 9 912 909 rfl rfl (by simp) [(11,I n),(7,.ptr 7 0),(3,.ptr 3 0),(0+1,.d (ZcR false false ss)),(0+1+1,.d (ints false w))] [(7,.box 31 [.d (iD 0),.d (iD 0)]),(3,Zay false g)] rfl rfl rfl (by repeat' (first|exact trivial|exact VLe.refl _|refine And.intro ?_ ?_)) (by repeat' (first|exact trivial|exact HElt.of rfl|refine And.intro ?_ ?_)) ?_|refine wk1 ?_)
       exact Zae (n,z) (a:=⟨by dsimp only;omega,b1,b2,b3⟩) (b:=by dsimp only;omega)
     ·rw[if_neg hw0,List.append_nil] at hend
      obtain⟨b1,b2,b3⟩:=hend _ rfl
      refine Zak (X:=Nat) (fun e=>e≤ss[n].empty.length) (fun e=>[(83,I e),(82,I ss[n].empty.length),(81,.d (Zap false ss[n].empty)),(12,.own 912 out.length),(11,I n),(9,.own 909 l.length),(7,.ptr 7 0),(3,.ptr 3 0),(0+1,.d (ZcR false false ss)),(0+1+1,.d (ints false w))]) (fun e=>[(912,.row 56 2 (out.map (ZaY false))),(909,.row 56 2 (l.map (ZaY false))),(7,.box 31 [.d (iD 0),.d (iD 0)]),(3,Zay false g)]) (fun e=>ss[n].empty.length - e) 0 (Nat.zero_le _) ?_
      intro e he
      by_cases hel:e < ss[n].empty.length
      ·refine VA ?_
       exact Zae (e+1)
      ·have he:e=ss[n].empty.length:=by omega
       subst he
       repeat (first|refine Zuo 9 912 909 rfl rfl (by simp) [(11,I n),(7,.ptr 7 0),(3,.ptr 3 0),(0+1,.d (ZcR false false ss)),(0+1+1,.d (ints false w))] [(7,.box 31 [.d (iD 0),.d (iD 0)]),(3,Zay false g)] rfl rfl rfl (by repeat' (first|exact trivial|exact VLe.refl _|refine And.intro ?_ ?_)) (by repeat' (first|exact trivial|exact HElt.of rfl|refine And.intro ?_ ?_)) ?_|refine wk1 ?_)
       exact Zae (n,out) (a:=⟨by dsimp only;omega,b1,b2,b3⟩) (b:=by dsimp only;omega)
  ·rw[if_pos h1] at hr
   subst hr
   refine VA ?_
   refine Zab [] (hA:=hck) (hr:=?_)
   refine VA ?_
   refine Zab [] (hA:=hla) (hr:=?_)
   refine VA ?_
   refine Zab [] (hA:=hfl) (hr:=?_)
   refine VA ?_
   exact fin
 ·rw[if_pos h0] at hr
  subst hr
  refine VA ?_
  refine Zab [] (hA:=hck) (hr:=?_)
  refine VA ?_
  exact fin
end Go.Proofs.YtbpmepgnjanhnaaGreat
