import Derived.Test.YtbpmepgnjanhnaaGreatQSpA
set_option linter.unusedVariables false
set_option linter.unusedSimpArgs false
set_option linter.unusedSectionVars false
set_option maxHeartbeats 4000000
set_option maxRecDepth 100000
namespace Go.Proofs.YtbpmepgnjanhnaaGreat
open Go.RowKit
theorem Zlg (K:List Bool) (v:Int):(Za8 K).any (fun y=>decide (v=y))=has K v:=by
 rw[GS,Jj];constructor
 ·rintro⟨x,hx,h⟩;have:=H3 h;subst this;exact listB_mem.1 hx
 ·intro h;exact⟨v,listB_mem.2 h,by simp⟩
def idxQ (p:Rule→Bool):List Rule→Nat→Int
 | [],_ => -1
 | x::xs,i=>bif p x then (i:Int) else idxQ p xs (i+1)
theorem Ztz (p:Rule→Bool):∀ (xs:List Rule) (i:Nat),decide (0≤idxQ p xs i)=xs.any p
 | [],_=>by simp[idxQ]
 | x::xs,i=>by
  simp only[idxQ,List.any_cons];by_cases h:p x=true
  ·simp[h]
  ·simp only[G9] at h;simpa[h] using Ztz p xs (i+1)
theorem Zyr {p:Rule→Bool} {xs:List Rule} {k:Nat} (h:k < xs.length):idxQ p (xs.drop k) k=bif p xs[k] then (k:Int) else idxQ p (xs.drop (k+1)) (k+1):=by
 rw[Hw h,idxQ]
theorem ZAY {p:Rule→Bool} {xs:List Rule} {k:Nat} (h:¬ k < xs.length):idxQ p (xs.drop k) k = -1:=by
 rw[HL (by omega),idxQ]
theorem ZlP {t:Bool} {clos:Nat} {caps:List V} {H:Hp} {xs:List Rule} {p:Rule→Bool} (hC:Clo H caps) (hc:∀ x∈xs,Af Tryz.prog clos (.d (Za2 t x)::caps) H (B (p x)) H) (hl:xs.length≤100000000:=by exact Vm) :
  Af Tryz.prog 184 [.d (ZaS t xs),.fn (.func clos) [] caps] H (I (idxQ p xs 0)) H:=by
 refine Af.intro (n:=19) Tryz.func184 (hw:=?_);simp only[Zal];have h1:=hC.self;have h2:=hC.inn;have h3:=hC.caps
 (try refine wk ?_)
 refine Zak (X:=Nat) (fun k=>k≤xs.length∧idxQ p xs 0=idxQ p (xs.drop k) k) (fun k=>[(8,I k),(7,I xs.length),(1,.fn (.func clos) [] caps),(0,.d (ZaS t xs))]) (fun _=>H) (fun k=>xs.length - k) 0 ⟨Hi _,rfl⟩ ?_;rintro k ⟨hk,hp⟩;by_cases hlt:k < xs.length
 ·have hs:=Zyr (p:=p) hlt
  (try refine wk ?_)
  refine Znb hC (hA:=hc xs[k] (He hlt)) (hr:=?_);cases hpx:p xs[k] with
  | true =>
   rw[hpx] at hs
   (try refine wk ?_)
   rw[hp,hs];exact fin
  | false =>
   rw[hpx] at hs
   (try refine wk ?_)
   exact Zad (k+1) (a:=⟨by omega,hp.trans hs⟩)
 ·(try refine wk ?_)
  rw[hp,ZAY hlt];exact fin
theorem Ze9 {t:Bool} {clos:Nat} {caps:List V} {H:Hp} {xs:List Rule} {p:Rule→Bool} (hC:Clo H caps) (hc:∀ x∈xs,Af Tryz.prog clos (.d (Za2 t x)::caps) H (B (p x)) H) (hl:xs.length≤100000000:=by exact Vm) :
  Af Tryz.prog 117 [.d (ZaS t xs),.fn (.func clos) [] caps] H (B (xs.any p)) H:=by
 refine Af.intro (n:=9) Tryz.func117 (hw:=?_);simp only[Zal];have h1:=hC.self;have h2:=hC.inn;have h3:=hC.caps
 (try refine wk ?_)
 refine Znb hC.bare (hA:=ZlP hC hc) (hr:=?_)
 (try refine wk ?_)
 rw[←Ztz p xs 0];exact fin
theorem Zqf {t u:Bool} {x r:Rule} (hx:x.right.length≤100000000:=by exact Vm) (hr:r.right.length≤100000000:=by exact Vm) :
  Af Tryz.prog 118 [.d (Za2 t x),.ptr 1000 0] [(1000,ZgQ u r)] (B (decide (x=r))) [(1000,ZgQ u r)]:=by
 refine Af.intro (n:=16) Tryz.func118 (hw:=?_);simp only[Zal];by_cases h:x.left=r.left
 ·have e:decide (x=r)=decide (x.right=r.right):=decide_eq_decide.2 ⟨fun h=>h ▸ rfl,fun h2=>by cases x;cases r;simp_all⟩;rw[e]
  (try refine wk ?_)
  refine Zab [] (hA:=Zxo) (hr:=?_)
  (try refine wk ?_)
  exact fin
 ·have e:decide (x=r)=false:=HA (fun h2=>h (h2 ▸ rfl));rw[e]
  (try refine wk ?_)
  exact fin
abbrev Zoh (u:Bool) (xs:List Int):Ob:=.box 25 [.d (ints u xs)]
theorem Zys {u:Bool} {ks:List Int} {v:Int} (hl:ks.length≤100000000:=by exact Vm) :
  Af Tryz.prog 182 [I v,.ptr 1000 0] [(1000,Zoh u ks)] (B (!ks.any (fun y=>decide (v=y)))) [(1000,Zoh u ks)]:=by
 refine Af.intro (n:=8) Tryz.func182 (hw:=?_);simp only[Zal]
 (try refine wk ?_)
 refine Zab [] (hA:=Zdy) (hr:=?_)
 (try refine wk ?_)
 exact fin
def ZfC (K:List Bool):List Rule→Nat→List Int
 | [],_=>[]
 | r::rs,i=>if rOk K r=true then (i:Int)::ZfC K rs (i+1) else ZfC K rs (i+1)
theorem Zjn (K:List Bool):∀ (a b:List Rule) (i:Nat),ZfC K (a++b) i=ZfC K a i++ZfC K b (i+a.length)
 | [],b,i=>by simp[ZfC]
 | r::a,b,i=>by
  simp only[Hv,ZfC,Zjn K a b (i+1),Hl];rw[show i+1+a.length=i+(a.length+1) by omega];split <;> rfl
theorem Zva {K:List Bool} {rs:List Rule} {i:Nat} (h:i < rs.length):ZfC K (rs.take (i+1)) 0=ZfC K (rs.take i) 0++(if rOk K rs[i]=true then [(i:Int)] else []):=by
 rw[HE h,Zjn];simp only[ZfC,Hs,HD];rw[Gx (by omega)]
theorem Zoi (K:List Bool):∀ (rs:List Rule) (i:Nat),(ZfC K rs i).length≤rs.length
 | [],i=>by simp[ZfC]
 | r::rs,i=>by
  have:=Zoi K rs (i+1);simp only[ZfC];split <;> simp <;> omega
theorem Zvb {K:List Bool} {rs:List Rule} {i:Nat} (h:i < rs.length):(rs.take (i+1)).filter (rOk K)=(rs.take i).filter (rOk K)++(if rOk K rs[i]=true then [rs[i]] else []):=by
 rw[HE h,GR];congr 1;by_cases hs:rOk K rs[i]=true <;> simp[hs]
theorem ZAZ (K:List Bool) (r:Rule):(Ab r.right++[r.left]).any (fun v=>!(Za8 K).any (fun y=>decide (v=y)))=!rOk K r:=by
 simp only[Zlg];rw[GS];simp only[rOk,ZaQ,List.any_append,List.any_cons,List.any_nil,Jf,Gi,Bool.not_eq_true',Bool.and_eq_false_iff,Jj,List.all_eq_false,G9];constructor
 ·rintro (⟨x,h1,h2⟩|h)
  ·exact .inr ⟨x,h1,by simpa using h2⟩
  ·exact .inl h
 ·rintro (h|⟨x,h1,h2⟩)
  ·exact .inr h
  ·exact .inl ⟨x,h1,by simpa using h2⟩
theorem ZA0 {g:Ac} {K:List Bool} (hg:g.ok) (hK:K.length≤100000:=by exact Vm) :
  Af Tryz.prog 113 [.d (Zbo false g),.d (ints false (Za8 K))] [] (.tup [.d (ZaS false (g.Aa.filter (rOk K))),.d (ints false (ZfC K g.Aa 0))]) []:=by
 refine Af.intro (n:=38) Tryz.func113 (hw:=?_);simp only[Zal];have hlen:=hg.Aa;have hB:=ZdQ K
 (try refine wk ?_)
 refine ZbB 6 900 68 2 rfl rfl rfl ?_;refine ZbB 7 901 3 1 rfl rfl rfl ?_;refine Zak (X:=Nat) (fun i=>i≤g.Aa.length) (fun i=>[(13,I i),(12,I g.Aa.length),(11,.d (ZaS false g.Aa)),(6,.own 900 ((g.Aa.take i).filter (rOk K)).length),(7,.own 901 (ZfC K (g.Aa.take i) 0).length),(2,.ptr 2 0),(3,.ptr 3 0)]) (fun i=>[(900,.row 68 2 (((g.Aa.take i).filter (rOk K)).map (Za2 false))),(901,.row 3 1 ((ZfC K (g.Aa.take i) 0).map iD)),(2,ZaD false g),(3,Zoh false (Za8 K))]) (fun i=>g.Aa.length - i) 0 (Hi _) ?_;intro i hi;by_cases hlt:i < g.Aa.length
 ·have hmem:=He hlt;have a3:=hg.right _ hmem;have hkl:=Zbi g.Aa[i].right;have e1:=Zvb (K:=K) hlt;have e2:=Zva (K:=K) hlt;have l1:((g.Aa.take i).filter (rOk K)).length≤g.Aa.length:=Hq (Gc _ _) (by simp;omega);have l2:(ZfC K (g.Aa.take i) 0).length≤g.Aa.length:=Hq (Zoi K _ 0) (by simp;omega);have hany:=ZAZ K g.Aa[i];have hc:=Zb0 (t:=true) (clos:=182) (caps:=[.ptr 1000 0]) (H:=[(1000,Zoh false (Za8 K))]) (xs:=Ab g.Aa[i].right++[g.Aa[i].left]) (p:=fun v=>!(Za8 K).any (fun y=>decide (v=y))) ⟨rfl,rfl,rfl,rfl,trivial⟩ (fun x _=>Zys) (by simp;omega);rw[hany] at hc;have hm:(Ab g.Aa[i].right).map iD++[iD g.Aa[i].left]=(Ab g.Aa[i].right++[g.Aa[i].left]).map iD:=by simp
  cases hb:rOk K g.Aa[i] with
  | true =>
   rw[hb,Hb rfl] at e1 e2;rw[hb] at hc;have e3:((g.Aa.take (i+1)).filter (rOk K)).map (Za2 false)=((g.Aa.take i).filter (rOk K)).map (Za2 false)++[D.agg [iD g.Aa[i].left,ints false g.Aa[i].right]]:=by rw[e1];simp[Za2]
   have e3':=e3.symm;have e:=GU e1 e2
   (try refine wk ?_)
   refine Zab [(3,902)] (hA:=ZcG) (hr:=?_)
   (try refine wk ?_)
   rw[hm];refine Zab [(1000,3)] (hA:=hc) (hr:=?_)
   (try refine wk ?_)
   exact Zad (i+1)
  | false =>
   rw[hb,Ha (by decide),Hu] at e1 e2;rw[hb] at hc;have e:=GU e1 e2
   (try refine wk ?_)
   refine Zab [(3,902)] (hA:=ZcG) (hr:=?_)
   (try refine wk ?_)
   rw[hm];refine Zab [(1000,3)] (hA:=hc) (hr:=?_)
   (try refine wk ?_)
   exact Zad (i+1)
 ·obtain rfl:i=g.Aa.length:=by omega
  rw[HP];refine Zaz 900 rfl ?_;refine Zaz 901 rfl ?_
  (try refine wk ?_)
  exact Fin.r2 rfl (.of_tmp rfl) (.of_tmp rfl) (Co.tup ⟨Co.froz rfl (by simp),Co.froz rfl (by simp),trivial⟩) trivial rfl
theorem Zlh:∀ (k:Nat),Aj (ZaE k)=k
 | 0=>rfl
 | k+1=>by rw[show ZaE (k+1)=ZaE k++[.mk 2 k []] by simp[ZaE,Gq],Zbv,Zlh k];simp[Aj,fsz]
theorem Zqg (r:Int) (k:Nat):Aj (ZaJ r k)=k+1:=by simp[ZaJ,Aj,fsz,Zlh];omega
def SP.slim (s:SP):Prop:=∀ l∈s.frags,Aj l≤100
theorem SP.slim.lifts:∀ {l:List Int} {s:SP},s.slim→(s.lifts l).slim
 | [],_,h=>h
 | x::l,s,h=>by
  refine SP.slim.lifts (l:=l) (s:=s.lift x) ?_;unfold SP.lift;split
  ·exact h
  ·split
   ·intro y hy;rcases List.mem_append.1 hy with hy|hy
    ·exact h y hy
    ·rw[List.mem_singleton.1 hy];simp[Aj]
   ·exact h
theorem ZmT (r:Int):∀ (k:Nat),∀ l∈ZhY r k,Aj l≤100
 | 0,l,h=>by simp[ZhY] at h
 | k+1,l,h=>by
  rcases List.mem_append.1 h with h|h
  ·exact ZmT r k l h
  ·rw[List.mem_singleton.1 h];split <;> simp[ZbQ,Aj,fsz]
theorem SP.slim.one {s:SP} (h:s.slim) {r:Nat} {x:Rule} (hx:x.right.length≤10):(s.one r x).slim:=by
 have hk:=Zbi x.right;unfold SP.one;split
 ·intro y hy;rcases List.mem_append.1 hy with hy|hy
  ·exact h y hy
  ·rw[List.mem_singleton.1 hy,Zqg];omega
 ·intro y hy;rcases List.mem_append.1 hy with hy|hy
  ·exact (SP.slim.lifts h) y hy
  ·exact ZmT _ _ y hy
theorem Zjo:∀ {rs:List Rule} {s s':SP} {i:Nat},s.slim→(∀ r∈rs,r.right.length≤10)→ZbR s rs i=.ok s'→s'.slim
 | [],s,s',i,h,_,e=>by rw[ZbR] at e;cases e;exact h
 | x::rs,s,s',i,h,hr,e=>by
  rw[ZbR] at e;cases hc:(s.one i x).many with
  | true=>rw[hc] at e;cases e
  | false=>rw[hc] at e;exact Zjo (h.one (hr x (by simp))) (fun r h=>hr r (by simp[h])) e
theorem Zf6:Ag.fit:=⟨⟨by decide,fun r hr=>by simp[Ag] at hr⟩,by decide,fun l hl=>by simp[Ag] at hl,by decide⟩
theorem ZmU (g:Ac):(Zc2 g).1.fit:=by
 rcases Zjk g with ⟨_,h⟩|⟨i,h⟩|⟨s,hg,h1,h⟩
 ·rw[h];exact Zf6
 ·rw[h];exact Zf6
 ·rw[h];obtain⟨k1,k2,k3⟩:=Zlb hg h1;have hs:s.slim:=Zjo (s:=Za0 g) (fun l hl=>by simp[Za0] at hl) hg.right h1;obtain⟨f1,f2⟩:=Zdt hg;obtain⟨f3,f4⟩:=ZiP hg f1 f2 (fun r hr=>hg.rule hr) (by omega) h1;have hp:=f3.parts.len;have hm:=ZrV f4;exact⟨k1.fit,(by show s.frags.length≤_;omega),fun l hl=>Hq (hs l hl) (by decide),by simp[Zc1,cnts]⟩
theorem ZCO {g:Ac} {r:Rule} (hr:r∈g.Aa):(subG g).Aa.any (fun x=>decide (x=r))=(has (Zch g) g.start && rOk (Zch g) r):=by
 rw[GS,Jj];simp only[subG,Hr,HY];constructor
 ·rintro⟨x,h1,rfl⟩;split at h1
  ·rename_i hs;exact⟨hs,(List.mem_filter.1 h1).2⟩
  ·cases h1
 ·rintro⟨h1,h2⟩;rw[Hb h1];exact⟨r,List.mem_filter.2 ⟨hr,h2⟩,rfl⟩
theorem ZA1 {g:Ac} (hg:g.ok) (hs:¬ has (Zch g) g.start=true):Za8 (Zav g)=[g.start]:=by
 have h1:((Za8 (Zav g)).length:Int)=1:=Hz Ac.vars (ZCF hg hs);have h2:g.start∈Za8 (Zav g):=listB_mem.2 (Zd2 hg)
 match hl:Za8 (Zav g),h1,h2 with
 | [x],_,h2=>rw[List.mem_singleton.1 h2]
theorem Zqh {g:Ac} (hs:has (Zch g) g.start=true):subG g=⟨g.vars,g.terms,g.start,g.Aa.filter (rOk (Zch g))⟩:=by rw[subG,Hb hs];rfl
theorem ZA2 {g:Ac} (hs:¬ has (Zch g) g.start=true):subG g=⟨g.vars,g.terms,g.start,[]⟩:=by rw[subG,Ha hs]
theorem Zyt {g:Ac} (hg:g.ok) (p:Rule→Bool):(⟨g.vars,g.terms,g.start,g.Aa.filter p⟩:Ac).ok:=by
 have hl:=Gc p g.Aa;have:=hg.Aa;exact⟨hg.vars1,hg.vars,hg.terms0,hg.terms,hg.start0,hg.start,by dsimp only;omega,fun r hr=>hg.right r (List.mem_filter.1 hr).1,fun r hr=>hg.left0 r (List.mem_filter.1 hr).1,fun r hr=>hg.left r (List.mem_filter.1 hr).1,fun r hr=>hg.lo r (List.mem_filter.1 hr).1,fun r hr=>hg.hi r (List.mem_filter.1 hr).1⟩
theorem Ac.ok.code {g:Ac} (hg:g.ok):(Zac g).code=0:=by rw[hg.fault]
theorem Zyu {g:Ac} {r:Rule} (hr:r∈g.Aa):stay g r=((subG g).Aa.any (fun x=>decide (x=r)) && has (Zav g) r.left):=by
 rw[ZCO hr,stay,Bool.and_assoc]
abbrev tmF (i n:Nat) (rs:List Rule) (ks:List Int):Fr:=[(60,I i),(59,I n),(58,.d (ZaS false rs)),(2,.ptr 2 0),(3,.ptr 3 0),(6,.ptr 6 0),(7,.d (ints false ks)),(9,.ptr 9 0)]
abbrev tmH (g:Ac) (S:List Rule) (n:Nat) (s:Int) (R:List Rule) (F:List (List Ad)):Hp:=[(2,Zce false Ag),(3,.box 31 [.d (iD 0),.d (iD 0)]),(6,.box 24 [.d (iD g.vars),.d (iD g.terms),.d (iD g.start),.d (ZaS false S)]),
 (9,.box 39 [.d (iD n),.d (iD g.terms),.d (iD s),.own 901 R.length,.own 902 F.length,.d nilT]),(901,.row 68 2 (R.map (Za2 false))),(902,.row 75 1 (F.map (Zah false)))]
theorem Zqi {g:Ac} (hf:g.fit) :
  Af Tryz.prog 67 [.d (Zbo false g)] [] (.tup [.d (ZdB false (ZiK g).1),.d (Zbu (ZiK g).2)]) []:=by
 refine Af.intro (n:=122) Tryz.func67 (hw:=?_);simp only[Zal];have hr1:=hf.Aa;have hr2:=hf.right;have hp:=ZlJ (t:=false) hf;by_cases hc:(Zac g).code=0
 rotate_left
 ·rw[show Zq3 g=[] by rw[Zq3,Ha hc]] at hp;rw[show ZiK g=(Ag,Zac g) by rw[ZiK,Ha hc]]
  (try refine wk ?_)
  refine ZaV [] (hA:=hp) (hr:=?_)
  (try refine wk ?_)
  exact fin2
 have hg:=Zbe hc;rw[show ZiK g=(ZaY g,⟨0,0⟩) by rw[ZiK,Hb hc]];rw[show Zq3 g=Za8 (Zch g) by rw[Zq3,Hb hc];rfl] at hp;have hK:(Zch g).length≤64:=by
  have h1:=ZcL (t:=true) hg;have h2:=hg.vars;show (ZaZ true g).length≤64;omega
 have hKl:=ZdQ (Zch g);have ho:=ZA0 (K:=Zch g) hg (by omega);have hfo:=Zyt hg (rOk (Zch g));have hre:=Znt (t:=false) hfo.fit;rw[hfo.fault,show Zo6 ⟨g.vars,g.terms,g.start,g.Aa.filter (rOk (Zch g))⟩=Za8 (Zc0 ⟨g.vars,g.terms,g.start,g.Aa.filter (rOk (Zch g))⟩) by rw[Zo6,Hb hfo.code]] at hre;have hco:=Zdy (t:=false) (xs:=Za8 (Zch g)) (v:=g.start) (by omega);rw[Zlg] at hco;have hN:(ZfC (Zch g) g.Aa 0).length≤g.Aa.length:=Zoi _ _ _;have hR:(g.Aa.filter (rOk (Zch g))).length≤g.Aa.length:=Gc _ _;generalize ZfC (Zch g) g.Aa 0=N0 at ho hN;have hsg:has (Zch g) g.start=true→subG g=⟨g.vars,g.terms,g.start,g.Aa.filter (rOk (Zch g))⟩∧Zav g=Zc0 ⟨g.vars,g.terms,g.start,g.Aa.filter (rOk (Zch g))⟩:=fun h=>⟨Zqh h,by rw[Zav,Zqh h]⟩
 have hkl2:=ZdQ (Zc0 ⟨g.vars,g.terms,g.start,g.Aa.filter (rOk (Zch g))⟩);have hkl3:=Zfz ⟨g.vars,g.terms,g.start,g.Aa.filter (rOk (Zch g))⟩;generalize g.Aa.filter (rOk (Zch g))=R0 at *;generalize Zc0 ⟨g.vars,g.terms,g.start,R0⟩=K0 at *;obtain⟨ks,hks⟩:∃ ks,ks=Za8 K0:=⟨_,rfl⟩
 obtain⟨gs,hgs⟩:∃ gs,gs=Za8 (Zch g):=⟨_,rfl⟩
 rw[←hks] at hre;rw[←hgs] at hp ho hco
 (try refine wk ?_)
 refine ZaV [] (hA:=hp) (hr:=?_)
 (try refine wk ?_)
 refine ZaV [] (hA:=ho) (hr:=?_)
 (try refine wk ?_)
 refine ZaV [] (hA:=hre) (hr:=?_)
 (try refine wk ?_)
 generalize hb:has (Zch g) g.start=b at hco;refine ZaV [] (hA:=hco) (hr:=?_);have hkk0:∀ v,has (Zav g) v=true→Af Tryz.prog 116 [.d (ints false (Za8 (Zav g))),I v] [] (I (rk (Zav g) v)) []:=fun v hv=>by
  have h:=Zpi (t:=false) (xs:=Za8 (Zav g)) (v:=v) (by have:=ZdQ (Zav g);have:=ZeC g;have:=hg.vars;omega)
  rwa [ZD1 hv] at h
 have hkc0:∀ v,Af Tryz.prog 115 [.d (ints false (Za8 (Zav g))),I v] [] (B (has (Zav g) v)) []:=fun v=>by
  have h:=Zdy (t:=false) (xs:=Za8 (Zav g)) (v:=v) (by have:=ZdQ (Zav g);have:=ZeC g;have:=hg.vars;omega)
  rwa [Zlg] at h
 have hks2:=Zd2 hg;have hix:=hkk0 _ hks2;have hT0:ZbN g []=[]:=rfl;cases b with
 | true =>
  obtain⟨e1,e2⟩:=hsg hb;have e3:ks=Za8 (Zav g):=by rw[hks,e2]
  have e4:R0=(subG g).Aa:=by rw[e1]
  rw[e3,e4];clear hks e3 e4 e1 e2 hsg hre ho;have hkl:(Za8 (Zav g)).length≤64:=by have:=ZdQ (Zav g);have:=ZeC g;have:=hg.vars;omega
  generalize hkk:Za8 (Zav g)=kk at *
  (try refine wk ?_)
  refine ZaV [] (hA:=hix) (hr:=?_)
  (try refine wk ?_)
  refine ZaC 9 3 901 68 2 rfl rfl rfl rfl ?_;refine ZaC 9 4 902 75 1 rfl rfl rfl rfl ?_;refine Zak (X:=Nat) (fun i=>i≤g.Aa.length) (fun i=>tmF i g.Aa.length g.Aa kk) (fun i=>tmH g (subG g).Aa kk.length (rk (Zav g) g.start) (ZbN g (g.Aa.take i)) (Zbs g (g.Aa.take i) 0)) (fun i=>g.Aa.length - i) 0 (Hi _) ?_;intro i hi;by_cases hlt:i < g.Aa.length
  ·have hmem:=He hlt;have hrr:=hg.right _ hmem;have e1:=Zk1 (g:=g) hlt;have e2:=Zk2 (g:=g) hlt;have hst:=Zyu hmem;have hkeep:=Zdz hg hmem;have l1:(ZbN g (g.Aa.take i)).length≤i:=by
    rw[ZbN,Hh];exact Hq (Gc _ _) (by simp;omega)
   have l2:(Zbs g (g.Aa.take i) 0).length≤i:=by rw[tLen];exact l1
   have hcc:=hkc0 g.Aa[i].left;have hii:=hkk0 g.Aa[i].left;have hany:=Ze9 (t:=false) (clos:=118) (caps:=[.ptr 1000 0]) (H:=[(1000,ZgQ false g.Aa[i])]) (xs:=(subG g).Aa) (p:=fun x=>decide (x=g.Aa[i])) ⟨rfl,rfl,rfl,rfl,trivial⟩ (fun x hx=>Zqf (by have:=(ZiL hg).right x hx;omega) (by omega)) (by have:=(ZiL hg).Aa;omega);have hr160:=hg.Aa;generalize (subG g).Aa=S at *;generalize S.any (fun x=>decide (x=g.Aa[i]))=b1 at hst hany;generalize ZbN g (g.Aa.take i)=TR at *;generalize Zbs g (g.Aa.take i) 0=TF at *;generalize hb2:has (Zav g) g.Aa[i].left=b2 at *
   (try refine wk ?_)
   refine ZaV [(1000,11)] (hA:=hany) (hr:=?_);cases b1 with
   | false =>
    rw[hst,Gy,Ha (by decide),Hu] at e1 e2
    (try refine wk ?_)
    rw[←e1,←e2];exact Zad (i+1)
   | true =>
    (try refine wk ?_)
    refine ZaV [] (hA:=hcc) (hr:=?_);cases b2 with
    | false =>
     rw[hst,H0,Ha (by decide),Hu] at e1 e2
     (try refine wk ?_)
     rw[←e1,←e2];exact Zad (i+1)
    | true =>
     have hs1:stay g g.Aa[i]=true:=(by rw[hst];rfl);rw[hs1,Hb rfl] at e1 e2;have hkeep:=hkeep hs1
     (try refine wk ?_)
     refine ZaV [] (hA:=hii rfl) (hr:=?_)
     (try refine wk ?_)
     refine ZaC 12 1 916 3 1 rfl rfl rfl rfl ?_;have et:ZlO (Zav g) g.Aa[i]=⟨rk (Zav g) g.Aa[i].left,g.Aa[i].right.map (ZaO (Zav g))⟩:=rfl;rw[et] at e1;clear hany hcc hii hst hs1 et;generalize g.Aa[i]=r at *;refine Zak (X:=Nat) (fun j=>j≤r.right.length) (fun j=>(85,I j)::(84,I r.right.length)::(83,.d (ints false r.right))::(10,I i)::(11,.ptr 11 0)::(12,.ptr 12 0)::tmF i g.Aa.length g.Aa kk)
      (fun j=>(11,ZgQ false r)::(12,.box 68 [.d (iD (rk (Zav g) r.left)),.own 916 j])::(916,.row 3 1 (((r.right.take j).map (ZaO (Zav g))).map iD))::tmH g S kk.length (rk (Zav g) g.start) TR TF) (fun j=>r.right.length - j) 0 (Hi _) ?_
     intro j hj;have hlm:((r.right.take j).map (ZaO (Zav g))).length=j:=(by simp;omega);by_cases hjl:j < r.right.length
     ·have e3:(r.right.take (j+1)).map (ZaO (Zav g))=(r.right.take j).map (ZaO (Zav g))++[ZaO (Zav g) r.right[j]]:=by
       rw[HE hjl,Ho];rfl
      by_cases hx:r.right[j]≥0
      ·have e4:ZaO (Zav g) r.right[j]=rk (Zav g) r.right[j]:=(by rw[ZaO,Hb hx]);have hix2:=hkk0 r.right[j] (hkeep _ (by simp[Ab,hx]));rw[e4] at e3;have e:=e3
       (try refine wk ?_)
       refine ZaV [] (hA:=hix2) (hr:=?_)
       (try refine wk ?_)
       exact Zad (j+1)
      ·have e4:ZaO (Zav g) r.right[j]=r.right[j]:=(by rw[ZaO,Ha hx]);rw[e4] at e3;have e:=e3
       (try refine wk ?_)
       exact Zad (j+1)
     ·obtain rfl:j=r.right.length:=(by omega);rw[HP];have hrl:(r.right.map (ZaO (Zav g))).length=r.right.length:=Hh _;have hkl2:=Zbi r.right;rw[HP] at hlm;generalize r.right.map (ZaO (Zav g))=rr at *
      (try refine wk ?_)
      refine Zab [(3,917)] (hA:=ZcG) (hr:=?_)
      (try refine wk ?_)
      refine Zab [(20,918)] (hA:=Zft) (hr:=?_)
      (try refine wk ?_)
      have f1:TR.map (Za2 false)++[D.agg [iD (rk (Zav g) r.left),ints false rr]]=(ZbN g (g.Aa.take (i+1))).map (Za2 false):=(by rw[e1];simp[Za2]);have f2:TF.map (Zah false)++[Zah false (ZaJ i (Ab r.right).length)]=(Zbs g (g.Aa.take (i+1)) 0).map (Zah false):=(by rw[e2];simp);rw[f1,f2];exact Zad (i+1)
  ·obtain rfl:i=g.Aa.length:=by omega
   rw[HP];have eo:ZaY g=⟨⟨(kk.length:Nat),g.terms,rk (Zav g) g.start,ZbN g g.Aa⟩,Zbs g g.Aa 0,[]⟩:=by rw[ZaY,hkk]
   rw[eo];generalize ZbN g g.Aa=TR at *;generalize Zbs g g.Aa 0=TF at *;refine Zaz 901 rfl ?_;refine Zaz 902 rfl ?_
   (try refine wk ?_)
   exact fin2
 | false =>
  have e3:=ZA1 hg (by rw[hb];decide);have e4:(subG g).Aa=[]:=by rw[ZA2 (g:=g) (by rw[hb];decide)]
  have hkl:(Za8 (Zav g)).length≤64:=by have:=ZdQ (Zav g);have:=ZeC g;have:=hg.vars;omega
  clear hks hsg hre ho;iterate 16 (refine wk1 ?_)
  refine Zaz 45 rfl ?_;refine Zy2 7 (v:=.d (ints false [g.start])) (Co.froz rfl (by simp)) rfl ?_;rw[←e3];refine Zr3 [(7,.d (ints false (Za8 (Zav g)))),(1,.ptr 1 0),(2,.ptr 2 0),(3,.ptr 3 0),(6,.ptr 6 0)] [(1,ZaD false g),(2,Zce false Ag),(3,.box 31 [.d (iD 0),.d (iD 0)]),(6,.box 24 [.d (iD g.vars),.d (iD g.terms),.d (iD g.start),.d (ZaS false (subG g).Aa)])] ?_ ?_ rfl ?_
  ·exact⟨VLe.refl _,VLe.refl _,VLe.refl _,VLe.refl _,VLe.refl _,trivial⟩
  ·rw[e4];exact⟨.of rfl,ZcE rfl ⟨.refl _,.refl _,.refl _,.nil _ _,.nil _ _,.nil _ _,trivial⟩,.of rfl,ZcE rfl ⟨.refl _,.refl _,.refl _,.nil _ _,trivial⟩,trivial⟩
  generalize hkk:Za8 (Zav g)=kk at *
  (try refine wk ?_)
  refine ZaV [] (hA:=hix) (hr:=?_)
  (try refine wk ?_)
  refine ZaC 9 3 901 68 2 rfl rfl rfl rfl ?_;refine ZaC 9 4 902 75 1 rfl rfl rfl rfl ?_;refine Zak (X:=Nat) (fun i=>i≤g.Aa.length) (fun i=>tmF i g.Aa.length g.Aa kk) (fun i=>tmH g (subG g).Aa kk.length (rk (Zav g) g.start) (ZbN g (g.Aa.take i)) (Zbs g (g.Aa.take i) 0)) (fun i=>g.Aa.length - i) 0 (Hi _) ?_;intro i hi;by_cases hlt:i < g.Aa.length
  ·have hmem:=He hlt;have hrr:=hg.right _ hmem;have e1:=Zk1 (g:=g) hlt;have e2:=Zk2 (g:=g) hlt;have hst:=Zyu hmem;have hkeep:=Zdz hg hmem;have l1:(ZbN g (g.Aa.take i)).length≤i:=by
    rw[ZbN,Hh];exact Hq (Gc _ _) (by simp;omega)
   have l2:(Zbs g (g.Aa.take i) 0).length≤i:=by rw[tLen];exact l1
   have hcc:=hkc0 g.Aa[i].left;have hii:=hkk0 g.Aa[i].left;have hany:=Ze9 (t:=false) (clos:=118) (caps:=[.ptr 1000 0]) (H:=[(1000,ZgQ false g.Aa[i])]) (xs:=(subG g).Aa) (p:=fun x=>decide (x=g.Aa[i])) ⟨rfl,rfl,rfl,rfl,trivial⟩ (fun x hx=>Zqf (by have:=(ZiL hg).right x hx;omega) (by omega)) (by have:=(ZiL hg).Aa;omega);have hr160:=hg.Aa;generalize (subG g).Aa=S at *;generalize S.any (fun x=>decide (x=g.Aa[i]))=b1 at hst hany;generalize ZbN g (g.Aa.take i)=TR at *;generalize Zbs g (g.Aa.take i) 0=TF at *;generalize hb2:has (Zav g) g.Aa[i].left=b2 at *
   (try refine wk ?_)
   refine ZaV [(1000,11)] (hA:=hany) (hr:=?_);cases b1 with
   | false =>
    rw[hst,Gy,Ha (by decide),Hu] at e1 e2
    (try refine wk ?_)
    rw[←e1,←e2];exact Zad (i+1)
   | true =>
    (try refine wk ?_)
    refine ZaV [] (hA:=hcc) (hr:=?_);cases b2 with
    | false =>
     rw[hst,H0,Ha (by decide),Hu] at e1 e2
     (try refine wk ?_)
     rw[←e1,←e2];exact Zad (i+1)
    | true =>
     have hs1:stay g g.Aa[i]=true:=(by rw[hst];rfl);rw[hs1,Hb rfl] at e1 e2;have hkeep:=hkeep hs1
     (try refine wk ?_)
     refine ZaV [] (hA:=hii rfl) (hr:=?_)
     (try refine wk ?_)
     refine ZaC 12 1 916 3 1 rfl rfl rfl rfl ?_;have et:ZlO (Zav g) g.Aa[i]=⟨rk (Zav g) g.Aa[i].left,g.Aa[i].right.map (ZaO (Zav g))⟩:=rfl;rw[et] at e1;clear hany hcc hii hst hs1 et;generalize g.Aa[i]=r at *;refine Zak (X:=Nat) (fun j=>j≤r.right.length) (fun j=>(85,I j)::(84,I r.right.length)::(83,.d (ints false r.right))::(10,I i)::(11,.ptr 11 0)::(12,.ptr 12 0)::tmF i g.Aa.length g.Aa kk)
      (fun j=>(11,ZgQ false r)::(12,.box 68 [.d (iD (rk (Zav g) r.left)),.own 916 j])::(916,.row 3 1 (((r.right.take j).map (ZaO (Zav g))).map iD))::tmH g S kk.length (rk (Zav g) g.start) TR TF) (fun j=>r.right.length - j) 0 (Hi _) ?_
     intro j hj;have hlm:((r.right.take j).map (ZaO (Zav g))).length=j:=(by simp;omega);by_cases hjl:j < r.right.length
     ·have e3:(r.right.take (j+1)).map (ZaO (Zav g))=(r.right.take j).map (ZaO (Zav g))++[ZaO (Zav g) r.right[j]]:=by
       rw[HE hjl,Ho];rfl
      by_cases hx:r.right[j]≥0
      ·have e4:ZaO (Zav g) r.right[j]=rk (Zav g) r.right[j]:=(by rw[ZaO,Hb hx]);have hix2:=hkk0 r.right[j] (hkeep _ (by simp[Ab,hx]));rw[e4] at e3;have e:=e3
       (try refine wk ?_)
       refine ZaV [] (hA:=hix2) (hr:=?_)
       (try refine wk ?_)
       exact Zad (j+1)
      ·have e4:ZaO (Zav g) r.right[j]=r.right[j]:=(by rw[ZaO,Ha hx]);rw[e4] at e3;have e:=e3
       (try refine wk ?_)
       exact Zad (j+1)
     ·obtain rfl:j=r.right.length:=(by omega);rw[HP];have hrl:(r.right.map (ZaO (Zav g))).length=r.right.length:=Hh _;have hkl2:=Zbi r.right;rw[HP] at hlm;generalize r.right.map (ZaO (Zav g))=rr at *
      (try refine wk ?_)
      refine Zab [(3,917)] (hA:=ZcG) (hr:=?_)
      (try refine wk ?_)
      refine Zab [(20,918)] (hA:=Zft) (hr:=?_)
      (try refine wk ?_)
      have f1:TR.map (Za2 false)++[D.agg [iD (rk (Zav g) r.left),ints false rr]]=(ZbN g (g.Aa.take (i+1))).map (Za2 false):=(by rw[e1];simp[Za2]);have f2:TF.map (Zah false)++[Zah false (ZaJ i (Ab r.right).length)]=(Zbs g (g.Aa.take (i+1)) 0).map (Zah false):=(by rw[e2];simp);rw[f1,f2];exact Zad (i+1)
  ·obtain rfl:i=g.Aa.length:=by omega
   rw[HP];have eo:ZaY g=⟨⟨(kk.length:Nat),g.terms,rk (Zav g) g.start,ZbN g g.Aa⟩,Zbs g g.Aa 0,[]⟩:=by rw[ZaY,hkk]
   rw[eo];generalize ZbN g g.Aa=TR at *;generalize Zbs g g.Aa 0=TF at *;refine Zaz 901 rfl ?_;refine Zaz 902 rfl ?_
   (try refine wk ?_)
   exact fin2
end Go.Proofs.YtbpmepgnjanhnaaGreat
