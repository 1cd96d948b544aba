import Derived.Test.YtbpmepgnjanhnaaGreatQSpA
set_option linter.unusedVariables false
set_option linter.unusedSimpArgs false
set_option linter.unusedSectionVars false
set_option maxHeartbeats 4000000
set_option maxRecDepth 100000
namespace Go.Proofs.YtbpmepgnjanhnaaGreat
open Go.RowKit
theorem Zle (K:List Bool) (v:Int):(Zba K).any (fun y=>decide (v=y))=has K v:=by
 rw[GX,Jm];constructor
 ·rintro⟨x,hx,h⟩;have:=H0 h;subst this;exact listB_mem.1 hx
 ·intro h;exact⟨v,listB_mem.2 h,by simp⟩
def idxQ (p:Rule→Bool):List Rule→Nat→Int
 | [],_ => -1
 | x::xs,i=>bif p x then (i:Int) else idxQ p xs (i+1)
theorem ZtD (p:Rule→Bool):∀ (xs:List Rule) (i:Nat),decide (0≤idxQ p xs i)=xs.any p
 | [],_=>by simp[idxQ]
 | x::xs,i=>by
  simp only[idxQ,List.any_cons];by_cases h:p x=true
  ·simp[h]
  ·simp only[Jb] at h;simpa[h] using ZtD p xs (i+1)
theorem Zyo {p:Rule→Bool} {xs:List Rule} {k:Nat} (h:k < xs.length):idxQ p (xs.drop k) k=bif p xs[k] then (k:Int) else idxQ p (xs.drop (k+1)) (k+1):=by
 rw[Hw h,idxQ]
theorem ZA9 {p:Rule→Bool} {xs:List Rule} {k:Nat} (h:¬ k < xs.length):idxQ p (xs.drop k) k = -1:=by
 rw[HL (by omega),idxQ]
theorem ZlU {t:Bool} {clos:Nat} {caps:List V} {H:Hp} {xs:List Rule} {p:Rule→Bool} (hC:Clo H caps) (hc:∀ x∈xs,Af Tryz.prog clos (.d (Za3 t x)::caps) H (B (p x)) H) (hl:xs.length≤100000000:=by exact Vm) :
  Af Tryz.prog 184 [.d (ZaS t xs),.fn (.func clos) [] caps] H (I (idxQ p xs 0)) H:=by
 refine Af.intro (n:=19) Tryz.func184 (hw:=?_);simp only[Zal];have h1:=hC.self;have h2:=hC.inn;have h3:=hC.caps
 (try refine wk ?_)
 refine Zak (X:=Nat) (fun k=>k≤xs.length∧idxQ p xs 0=idxQ p (xs.drop k) k) (fun k=>[(8,I k),(7,I xs.length),(1,.fn (.func clos) [] caps),(0,.d (ZaS t xs))]) (fun _=>H) (fun k=>xs.length - k) 0 ⟨Hh _,rfl⟩ ?_;rintro k ⟨hk,hp⟩;by_cases hlt:k < xs.length
 ·have hs:=Zyo (p:=p) hlt
  (try refine wk ?_)
  refine Znb hC (hA:=hc xs[k] (He hlt)) (hr:=?_);cases hpx:p xs[k] with
  | true =>
   rw[hpx] at hs
   (try refine wk ?_)
   rw[hp,hs];exact fin
  | false =>
   rw[hpx] at hs
   (try refine wk ?_)
   exact Zad (k+1) (a:=⟨by omega,hp.trans hs⟩)
 ·(try refine wk ?_)
  rw[hp,ZA9 hlt];exact fin
theorem Ze5 {t:Bool} {clos:Nat} {caps:List V} {H:Hp} {xs:List Rule} {p:Rule→Bool} (hC:Clo H caps) (hc:∀ x∈xs,Af Tryz.prog clos (.d (Za3 t x)::caps) H (B (p x)) H) (hl:xs.length≤100000000:=by exact Vm) :
  Af Tryz.prog 117 [.d (ZaS t xs),.fn (.func clos) [] caps] H (B (xs.any p)) H:=by
 refine Af.intro (n:=9) Tryz.func117 (hw:=?_);simp only[Zal];have h1:=hC.self;have h2:=hC.inn;have h3:=hC.caps
 (try refine wk ?_)
 refine Znb hC.bare (hA:=ZlU hC hc) (hr:=?_)
 (try refine wk ?_)
 rw[←ZtD p xs 0];exact fin
theorem Zqf {t u:Bool} {x r:Rule} (hx:x.right.length≤100000000:=by exact Vm) (hr:r.right.length≤100000000:=by exact Vm) :
  Af Tryz.prog 118 [.d (Za3 t x),.ptr 1000 0] [(1000,ZgV u r)] (B (decide (x=r))) [(1000,ZgV u r)]:=by
 refine Af.intro (n:=16) Tryz.func118 (hw:=?_);simp only[Zal];by_cases h:x.left=r.left
 ·have e:decide (x=r)=decide (x.right=r.right):=decide_eq_decide.2 ⟨fun h=>h ▸ rfl,fun h2=>by cases x;cases r;simp_all⟩;rw[e]
  (try refine wk ?_)
  refine Zab [] (hA:=Zwj) (hr:=?_)
  (try refine wk ?_)
  exact fin
 ·have e:decide (x=r)=false:=HC (fun h2=>h (h2 ▸ rfl));rw[e]
  (try refine wk ?_)
  exact fin
abbrev Zoj (u:Bool) (xs:List Int):Ob:=.box 25 [.d (ints u xs)]
theorem Zyp {u:Bool} {ks:List Int} {v:Int} (hl:ks.length≤100000000:=by exact Vm) :
  Af Tryz.prog 182 [I v,.ptr 1000 0] [(1000,Zoj u ks)] (B (!ks.any (fun y=>decide (v=y)))) [(1000,Zoj u ks)]:=by
 refine Af.intro (n:=8) Tryz.func182 (hw:=?_);simp only[Zal]
 (try refine wk ?_)
 refine Zab [] (hA:=ZdD) (hr:=?_)
 (try refine wk ?_)
 exact fin
def Zfy (K:List Bool):List Rule→Nat→List Int
 | [],_=>[]
 | r::rs,i=>if rOk K r=true then (i:Int)::Zfy K rs (i+1) else Zfy K rs (i+1)
theorem Zjk (K:List Bool):∀ (a b:List Rule) (i:Nat),Zfy K (a++b) i=Zfy K a i++Zfy K b (i+a.length)
 | [],b,i=>by simp[Zfy]
 | r::a,b,i=>by
  simp only[Hv,Zfy,Zjk K a b (i+1),Hl];rw[show i+1+a.length=i+(a.length+1) by omega];split <;> rfl
theorem Zvp {K:List Bool} {rs:List Rule} {i:Nat} (h:i < rs.length):Zfy K (rs.take (i+1)) 0=Zfy K (rs.take i) 0++(if rOk K rs[i]=true then [(i:Int)] else []):=by
 rw[HD h,Zjk];simp only[Zfy,Hs,HE];rw[Gs (by omega)]
theorem Zok (K:List Bool):∀ (rs:List Rule) (i:Nat),(Zfy K rs i).length≤rs.length
 | [],i=>by simp[Zfy]
 | r::rs,i=>by
  have:=Zok K rs (i+1);simp only[Zfy];split <;> simp <;> omega
theorem Zvq {K:List Bool} {rs:List Rule} {i:Nat} (h:i < rs.length):(rs.take (i+1)).filter (rOk K)=(rs.take i).filter (rOk K)++(if rOk K rs[i]=true then [rs[i]] else []):=by
 rw[HD h,GS];congr 1;by_cases hs:rOk K rs[i]=true <;> simp[hs]
theorem ZBa (K:List Bool) (r:Rule):(Ab r.right++[r.left]).any (fun v=>!(Zba K).any (fun y=>decide (v=y)))=!rOk K r:=by
 simp only[Zle];rw[GX];simp only[rOk,ZaQ,List.any_append,List.any_cons,List.any_nil,Jk,Gj,Bool.not_eq_true',Bool.and_eq_false_iff,Jm,List.all_eq_false,Jb];constructor
 ·rintro (⟨x,h1,h2⟩|h)
  ·exact .inr ⟨x,h1,by simpa using h2⟩
  ·exact .inl h
 ·rintro (h|⟨x,h1,h2⟩)
  ·exact .inr h
  ·exact .inl ⟨x,h1,by simpa using h2⟩
theorem ZBb {g:Ac} {K:List Bool} (hg:g.ok) (hK:K.length≤100000:=by exact Vm) :
  Af Tryz.prog 113 [.d (Zbr false g),.d (ints false (Zba K))] [] (.tup [.d (ZaS false (g.Aa.filter (rOk K))),.d (ints false (Zfy K g.Aa 0))]) []:=by
 refine Af.intro (n:=38) Tryz.func113 (hw:=?_);simp only[Zal];have hlen:=hg.Aa;have hB:=ZdS K
 (try refine wk ?_)
 refine ZbB 6 900 68 2 rfl rfl rfl ?_;refine ZbB 7 901 3 1 rfl rfl rfl ?_;refine Zak (X:=Nat) (fun i=>i≤g.Aa.length) (fun i=>[(13,I i),(12,I g.Aa.length),(11,.d (ZaS false g.Aa)),(6,.own 900 ((g.Aa.take i).filter (rOk K)).length),(7,.own 901 (Zfy K (g.Aa.take i) 0).length),(2,.ptr 2 0),(3,.ptr 3 0)]) (fun i=>[(900,.row 68 2 (((g.Aa.take i).filter (rOk K)).map (Za3 false))),(901,.row 3 1 ((Zfy K (g.Aa.take i) 0).map iD)),(2,ZaE false g),(3,Zoj false (Zba K))]) (fun i=>g.Aa.length - i) 0 (Hh _) ?_;intro i hi;by_cases hlt:i < g.Aa.length
 ·have hmem:=He hlt;have a3:=hg.right _ hmem;have hkl:=Zbj g.Aa[i].right;have e1:=Zvq (K:=K) hlt;have e2:=Zvp (K:=K) hlt;have l1:((g.Aa.take i).filter (rOk K)).length≤g.Aa.length:=Hq (Gd _ _) (by simp;omega);have l2:(Zfy K (g.Aa.take i) 0).length≤g.Aa.length:=Hq (Zok K _ 0) (by simp;omega);have hany:=ZBa K g.Aa[i];have hc:=Zb0 (t:=true) (clos:=182) (caps:=[.ptr 1000 0]) (H:=[(1000,Zoj false (Zba K))]) (xs:=Ab g.Aa[i].right++[g.Aa[i].left]) (p:=fun v=>!(Zba K).any (fun y=>decide (v=y))) ⟨rfl,rfl,rfl,rfl,trivial⟩ (fun x _=>Zyp) (by simp;omega);rw[hany] at hc;have hm:(Ab g.Aa[i].right).map iD++[iD g.Aa[i].left]=(Ab g.Aa[i].right++[g.Aa[i].left]).map iD:=by simp
  cases hb:rOk K g.Aa[i] with
  | true =>
   rw[hb,Hb rfl] at e1 e2;rw[hb] at hc;have e3:((g.Aa.take (i+1)).filter (rOk K)).map (Za3 false)=((g.Aa.take i).filter (rOk K)).map (Za3 false)++[D.agg [iD g.Aa[i].left,ints false g.Aa[i].right]]:=by rw[e1];simp[Za3]
   have e3':=e3.symm;have e:=GY e1 e2
   (try refine wk ?_)
   refine Zab [(3,902)] (hA:=ZcH) (hr:=?_)
   (try refine wk ?_)
   rw[hm];refine Zab [(1000,3)] (hA:=hc) (hr:=?_)
   (try refine wk ?_)
   exact Zad (i+1)
  | false =>
   rw[hb,Ha (by decide),Ht] at e1 e2;rw[hb] at hc;have e:=GY e1 e2
   (try refine wk ?_)
   refine Zab [(3,902)] (hA:=ZcH) (hr:=?_)
   (try refine wk ?_)
   rw[hm];refine Zab [(1000,3)] (hA:=hc) (hr:=?_)
   (try refine wk ?_)
   exact Zad (i+1)
 ·obtain rfl:i=g.Aa.length:=by omega
  rw[HO];refine Zaz 900 rfl ?_;refine Zaz 901 rfl ?_
  (try refine wk ?_)
  exact Fin.r2 rfl (.of_tmp rfl) (.of_tmp rfl) (Co.tup ⟨Co.froz rfl (by simp),Co.froz rfl (by simp),trivial⟩) trivial rfl
theorem Zlf:∀ (k:Nat),Aj (ZaF k)=k
 | 0=>rfl
 | k+1=>by rw[show ZaF (k+1)=ZaF k++[.mk 2 k []] by simp[ZaF,Gn],Zbw,Zlf k];simp[Aj,fsz]
theorem Zqg (r:Int) (k:Nat):Aj (ZaJ r k)=k+1:=by simp[ZaJ,Aj,fsz,Zlf];omega
def SP.slim (s:SP):Prop:=∀ l∈s.frags,Aj l≤100
theorem SP.slim.lifts:∀ {l:List Int} {s:SP},s.slim→(s.lifts l).slim
 | [],_,h=>h
 | x::l,s,h=>by
  refine SP.slim.lifts (l:=l) (s:=s.lift x) ?_;unfold SP.lift;split
  ·exact h
  ·split
   ·intro y hy;rcases List.mem_append.1 hy with hy|hy
    ·exact h y hy
    ·rw[List.mem_singleton.1 hy];simp[Aj]
   ·exact h
theorem ZmS (r:Int):∀ (k:Nat),∀ l∈Zhz r k,Aj l≤100
 | 0,l,h=>by simp[Zhz] at h
 | k+1,l,h=>by
  rcases List.mem_append.1 h with h|h
  ·exact ZmS r k l h
  ·rw[List.mem_singleton.1 h];split <;> simp[ZbP,Aj,fsz]
theorem SP.slim.one {s:SP} (h:s.slim) {r:Nat} {x:Rule} (hx:x.right.length≤10):(s.one r x).slim:=by
 have hk:=Zbj x.right;unfold SP.one;split
 ·intro y hy;rcases List.mem_append.1 hy with hy|hy
  ·exact h y hy
  ·rw[List.mem_singleton.1 hy,Zqg];omega
 ·intro y hy;rcases List.mem_append.1 hy with hy|hy
  ·exact (SP.slim.lifts h) y hy
  ·exact ZmS _ _ y hy
theorem Zjl:∀ {rs:List Rule} {s s':SP} {i:Nat},s.slim→(∀ r∈rs,r.right.length≤10)→ZbQ s rs i=.ok s'→s'.slim
 | [],s,s',i,h,_,e=>by rw[ZbQ] at e;cases e;exact h
 | x::rs,s,s',i,h,hr,e=>by
  rw[ZbQ] at e;cases hc:(s.one i x).many with
  | true=>rw[hc] at e;cases e
  | false=>rw[hc] at e;exact Zjl (h.one (hr x (by simp))) (fun r h=>hr r (by simp[h])) e
theorem Zf7:Ag.fit:=⟨⟨by decide,fun r hr=>by simp[Ag] at hr⟩,by decide,fun l hl=>by simp[Ag] at hl,by decide⟩
theorem ZmT (g:Ac):(Zcz g).1.fit:=by
 rcases ZfV g with ⟨_,h⟩|⟨i,h⟩|⟨s,hg,h1,h⟩
 ·rw[h];exact Zf7
 ·rw[h];exact Zf7
 ·rw[h];obtain⟨k1,k2,k3⟩:=ZgQ hg h1;have hs:s.slim:=Zjl (s:=Za0 g) (fun l hl=>by simp[Za0] at hl) hg.right h1;obtain⟨f1,f2⟩:=Zdv hg;obtain⟨f3,f4⟩:=Zir hg f1 f2 (fun r hr=>hg.rule hr) (by omega) h1;have hp:=f3.parts.len;have hm:=Zri f4;exact⟨k1.fit,(by show s.frags.length≤_;omega),fun l hl=>Hq (hs l hl) (by decide),by simp[ZcZ,cnts]⟩
theorem Zr0 {g:Ac} (h:(Zcz g).2.code=0):(Zam g (Zcz g).1)=⟨0,0⟩:=by
 rcases ZfV g with ⟨h0,e⟩|⟨i,e⟩|⟨s,hg,h1,e⟩
 ·rw[e] at h;exact absurd h h0
 ·rw[e] at h;cases h
 ·rw[e];exact (ZgQ hg h1).2.1
theorem ZCZ {g:Ac} {r:Rule} (hr:r∈g.Aa):(subG g).Aa.any (fun x=>decide (x=r))=(has (Zck g) g.start && rOk (Zck g) r):=by
 rw[GX,Jm];simp only[subG,Hr,HZ];constructor
 ·rintro⟨x,h1,rfl⟩;split at h1
  ·rename_i hs;exact⟨hs,(List.mem_filter.1 h1).2⟩
  ·cases h1
 ·rintro⟨h1,h2⟩;rw[Hb h1];exact⟨r,List.mem_filter.2 ⟨hr,h2⟩,rfl⟩
theorem ZBc {g:Ac} (hg:g.ok) (hs:¬ has (Zck g) g.start=true):Zba (Zav g)=[g.start]:=by
 have h1:((Zba (Zav g)).length:Int)=1:=Hy Ac.vars (ZCX hg hs);have h2:g.start∈Zba (Zav g):=listB_mem.2 (Zd3 hg)
 match hl:Zba (Zav g),h1,h2 with
 | [x],_,h2=>rw[List.mem_singleton.1 h2]
theorem Zqh {g:Ac} (hs:has (Zck g) g.start=true):subG g=⟨g.vars,g.terms,g.start,g.Aa.filter (rOk (Zck g))⟩:=by rw[subG,Hb hs];rfl
theorem ZBd {g:Ac} (hs:¬ has (Zck g) g.start=true):subG g=⟨g.vars,g.terms,g.start,[]⟩:=by rw[subG,Ha hs]
theorem Zyq {g:Ac} (hg:g.ok) (p:Rule→Bool):(⟨g.vars,g.terms,g.start,g.Aa.filter p⟩:Ac).ok:=by
 have hl:=Gd p g.Aa;have:=hg.Aa;exact⟨hg.vars1,hg.vars,hg.terms0,hg.terms,hg.start0,hg.start,by dsimp only;omega,fun r hr=>hg.right r (List.mem_filter.1 hr).1,fun r hr=>hg.left0 r (List.mem_filter.1 hr).1,fun r hr=>hg.left r (List.mem_filter.1 hr).1,fun r hr=>hg.lo r (List.mem_filter.1 hr).1,fun r hr=>hg.hi r (List.mem_filter.1 hr).1⟩
theorem Ac.ok.code {g:Ac} (hg:g.ok):(Zac g).code=0:=by rw[hg.fault]
theorem Zyr {g:Ac} {r:Rule} (hr:r∈g.Aa):stay g r=((subG g).Aa.any (fun x=>decide (x=r)) && has (Zav g) r.left):=by
 rw[ZCZ hr,stay,Bool.and_assoc]
abbrev tmF (i n:Nat) (rs:List Rule) (ks:List Int):Fr:=[(60,I i),(59,I n),(58,.d (ZaS false rs)),(2,.ptr 2 0),(3,.ptr 3 0),(6,.ptr 6 0),(7,.d (ints false ks)),(9,.ptr 9 0)]
abbrev tmH (g:Ac) (S:List Rule) (n:Nat) (s:Int) (R:List Rule) (F:List (List Ad)):Hp:=[(2,Zci false Ag),(3,.box 31 [.d (iD 0),.d (iD 0)]),(6,.box 24 [.d (iD g.vars),.d (iD g.terms),.d (iD g.start),.d (ZaS false S)]),
 (9,.box 39 [.d (iD n),.d (iD g.terms),.d (iD s),.own 901 R.length,.own 902 F.length,.d nilT]),(901,.row 68 2 (R.map (Za3 false))),(902,.row 75 1 (F.map (Zah false)))]
theorem Zqi {g:Ac} (hf:g.fit) :
  Af Tryz.prog 67 [.d (Zbr false g)] [] (.tup [.d (ZdG false (Zf6 g).1),.d (Zbu (Zf6 g).2)]) []:=by
 refine Af.intro (n:=122) Tryz.func67 (hw:=?_);simp only[Zal];have hr1:=hf.Aa;have hr2:=hf.right;have hp:=ZlQ (t:=false) hf;by_cases hc:(Zac g).code=0
 rotate_left
 ·rw[show Zrq g=[] by rw[Zrq,Ha hc]] at hp;rw[show Zf6 g=(Ag,Zac g) by rw[Zf6,Ha hc]]
  (try refine wk ?_)
  refine ZaW [] (hA:=hp) (hr:=?_)
  (try refine wk ?_)
  exact fin2
 have hg:=Zbd hc;rw[show Zf6 g=(ZaZ g,⟨0,0⟩) by rw[Zf6,Hb hc]];rw[show Zrq g=Zba (Zck g) by rw[Zrq,Hb hc];rfl] at hp;have hK:(Zck g).length≤64:=by
  have h1:=ZcR (t:=true) hg;have h2:=hg.vars;show (Za1 true g).length≤64;omega
 have hKl:=ZdS (Zck g);have ho:=ZBb (K:=Zck g) hg (by omega);have hfo:=Zyq hg (rOk (Zck g));have hre:=Znk (t:=false) hfo.fit;rw[hfo.fault,show ZoZ ⟨g.vars,g.terms,g.start,g.Aa.filter (rOk (Zck g))⟩=Zba (Zdg ⟨g.vars,g.terms,g.start,g.Aa.filter (rOk (Zck g))⟩) by rw[ZoZ,Hb hfo.code]] at hre;have hco:=ZdD (t:=false) (xs:=Zba (Zck g)) (v:=g.start) (by omega);rw[Zle] at hco;have hN:(Zfy (Zck g) g.Aa 0).length≤g.Aa.length:=Zok _ _ _;have hR:(g.Aa.filter (rOk (Zck g))).length≤g.Aa.length:=Gd _ _;generalize Zfy (Zck g) g.Aa 0=N0 at ho hN;have hsg:has (Zck g) g.start=true→subG g=⟨g.vars,g.terms,g.start,g.Aa.filter (rOk (Zck g))⟩∧Zav g=Zdg ⟨g.vars,g.terms,g.start,g.Aa.filter (rOk (Zck g))⟩:=fun h=>⟨Zqh h,by rw[Zav,Zqh h]⟩
 have hkl2:=ZdS (Zdg ⟨g.vars,g.terms,g.start,g.Aa.filter (rOk (Zck g))⟩);have hkl3:=ZfM ⟨g.vars,g.terms,g.start,g.Aa.filter (rOk (Zck g))⟩;generalize g.Aa.filter (rOk (Zck g))=R0 at *;generalize Zdg ⟨g.vars,g.terms,g.start,R0⟩=K0 at *;obtain⟨ks,hks⟩:∃ ks,ks=Zba K0:=⟨_,rfl⟩
 obtain⟨gs,hgs⟩:∃ gs,gs=Zba (Zck g):=⟨_,rfl⟩
 rw[←hks] at hre;rw[←hgs] at hp ho hco
 (try refine wk ?_)
 refine ZaW [] (hA:=hp) (hr:=?_)
 (try refine wk ?_)
 refine ZaW [] (hA:=ho) (hr:=?_)
 (try refine wk ?_)
 refine ZaW [] (hA:=hre) (hr:=?_)
 (try refine wk ?_)
 generalize hb:has (Zck g) g.start=b at hco;refine ZaW [] (hA:=hco) (hr:=?_);have hkk0:∀ v,has (Zav g) v=true→Af Tryz.prog 116 [.d (ints false (Zba (Zav g))),I v] [] (I (rk (Zav g) v)) []:=fun v hv=>by
  have h:=ZpA (t:=false) (xs:=Zba (Zav g)) (v:=v) (by have:=ZdS (Zav g);have:=ZeC g;have:=hg.vars;omega)
  rwa [ZEk hv] at h
 have hkc0:∀ v,Af Tryz.prog 115 [.d (ints false (Zba (Zav g))),I v] [] (B (has (Zav g) v)) []:=fun v=>by
  have h:=ZdD (t:=false) (xs:=Zba (Zav g)) (v:=v) (by have:=ZdS (Zav g);have:=ZeC g;have:=hg.vars;omega)
  rwa [Zle] at h
 have hks2:=Zd3 hg;have hix:=hkk0 _ hks2;have hT0:ZbO g []=[]:=rfl;cases b with
 | true =>
  obtain⟨e1,e2⟩:=hsg hb;have e3:ks=Zba (Zav g):=by rw[hks,e2]
  have e4:R0=(subG g).Aa:=by rw[e1]
  rw[e3,e4];clear hks e3 e4 e1 e2 hsg hre ho;have hkl:(Zba (Zav g)).length≤64:=by have:=ZdS (Zav g);have:=ZeC g;have:=hg.vars;omega
  generalize hkk:Zba (Zav g)=kk at *
  (try refine wk ?_)
  refine ZaW [] (hA:=hix) (hr:=?_)
  (try refine wk ?_)
  refine ZaD 9 3 901 68 2 rfl rfl rfl rfl ?_;refine ZaD 9 4 902 75 1 rfl rfl rfl rfl ?_;refine Zak (X:=Nat) (fun i=>i≤g.Aa.length) (fun i=>tmF i g.Aa.length g.Aa kk) (fun i=>tmH g (subG g).Aa kk.length (rk (Zav g) g.start) (ZbO g (g.Aa.take i)) (Zbt g (g.Aa.take i) 0)) (fun i=>g.Aa.length - i) 0 (Hh _) ?_;intro i hi;by_cases hlt:i < g.Aa.length
  ·have hmem:=He hlt;have hrr:=hg.right _ hmem;have e1:=Zk7 (g:=g) hlt;have e2:=Zk8 (g:=g) hlt;have hst:=Zyr hmem;have hkeep:=ZdF hg hmem;have l1:(ZbO g (g.Aa.take i)).length≤i:=by
    rw[ZbO,Hi];exact Hq (Gd _ _) (by simp;omega)
   have l2:(Zbt g (g.Aa.take i) 0).length≤i:=by rw[tLen];exact l1
   have hcc:=hkc0 g.Aa[i].left;have hii:=hkk0 g.Aa[i].left;have hany:=Ze5 (t:=false) (clos:=118) (caps:=[.ptr 1000 0]) (H:=[(1000,ZgV false g.Aa[i])]) (xs:=(subG g).Aa) (p:=fun x=>decide (x=g.Aa[i])) ⟨rfl,rfl,rfl,rfl,trivial⟩ (fun x hx=>Zqf (by have:=(ZiR hg).right x hx;omega) (by omega)) (by have:=(ZiR hg).Aa;omega);have hr160:=hg.Aa;generalize (subG g).Aa=S at *;generalize S.any (fun x=>decide (x=g.Aa[i]))=b1 at hst hany;generalize ZbO g (g.Aa.take i)=TR at *;generalize Zbt g (g.Aa.take i) 0=TF at *;generalize hb2:has (Zav g) g.Aa[i].left=b2 at *
   (try refine wk ?_)
   refine ZaW [(1000,11)] (hA:=hany) (hr:=?_);cases b1 with
   | false =>
    rw[hst,Gz,Ha (by decide),Ht] at e1 e2
    (try refine wk ?_)
    rw[←e1,←e2];exact Zad (i+1)
   | true =>
    (try refine wk ?_)
    refine ZaW [] (hA:=hcc) (hr:=?_);cases b2 with
    | false =>
     rw[hst,H5,Ha (by decide),Ht] at e1 e2
     (try refine wk ?_)
     rw[←e1,←e2];exact Zad (i+1)
    | true =>
     have hs1:stay g g.Aa[i]=true:=(by rw[hst];rfl);rw[hs1,Hb rfl] at e1 e2;have hkeep:=hkeep hs1
     (try refine wk ?_)
     refine ZaW [] (hA:=hii rfl) (hr:=?_)
     (try refine wk ?_)
     refine ZaD 12 1 916 3 1 rfl rfl rfl rfl ?_;have et:ZlT (Zav g) g.Aa[i]=⟨rk (Zav g) g.Aa[i].left,g.Aa[i].right.map (ZaO (Zav g))⟩:=rfl;rw[et] at e1;clear hany hcc hii hst hs1 et;generalize g.Aa[i]=r at *;refine Zak (X:=Nat) (fun j=>j≤r.right.length) (fun j=>(85,I j)::(84,I r.right.length)::(83,.d (ints false r.right))::(10,I i)::(11,.ptr 11 0)::(12,.ptr 12 0)::tmF i g.Aa.length g.Aa kk)
      (fun j=>(11,ZgV false r)::(12,.box 68 [.d (iD (rk (Zav g) r.left)),.own 916 j])::(916,.row 3 1 (((r.right.take j).map (ZaO (Zav g))).map iD))::tmH g S kk.length (rk (Zav g) g.start) TR TF) (fun j=>r.right.length - j) 0 (Hh _) ?_
     intro j hj;have hlm:((r.right.take j).map (ZaO (Zav g))).length=j:=(by simp;omega);by_cases hjl:j < r.right.length
     ·have e3:(r.right.take (j+1)).map (ZaO (Zav g))=(r.right.take j).map (ZaO (Zav g))++[ZaO (Zav g) r.right[j]]:=by
       rw[HD hjl,Ho];rfl
      by_cases hx:r.right[j]≥0
      ·have e4:ZaO (Zav g) r.right[j]=rk (Zav g) r.right[j]:=(by rw[ZaO,Hb hx]);have hix2:=hkk0 r.right[j] (hkeep _ (by simp[Ab,hx]));rw[e4] at e3;have e:=e3
       (try refine wk ?_)
       refine ZaW [] (hA:=hix2) (hr:=?_)
       (try refine wk ?_)
       exact Zad (j+1)
      ·have e4:ZaO (Zav g) r.right[j]=r.right[j]:=(by rw[ZaO,Ha hx]);rw[e4] at e3;have e:=e3
       (try refine wk ?_)
       exact Zad (j+1)
     ·obtain rfl:j=r.right.length:=(by omega);rw[HO];have hrl:(r.right.map (ZaO (Zav g))).length=r.right.length:=Hi _;have hkl2:=Zbj r.right;rw[HO] at hlm;generalize r.right.map (ZaO (Zav g))=rr at *
      (try refine wk ?_)
      refine Zab [(3,917)] (hA:=ZcH) (hr:=?_)
      (try refine wk ?_)
      refine Zab [(20,918)] (hA:=Zfu) (hr:=?_)
      (try refine wk ?_)
      have f1:TR.map (Za3 false)++[D.agg [iD (rk (Zav g) r.left),ints false rr]]=(ZbO g (g.Aa.take (i+1))).map (Za3 false):=(by rw[e1];simp[Za3]);have f2:TF.map (Zah false)++[Zah false (ZaJ i (Ab r.right).length)]=(Zbt g (g.Aa.take (i+1)) 0).map (Zah false):=(by rw[e2];simp);rw[f1,f2];exact Zad (i+1)
  ·obtain rfl:i=g.Aa.length:=by omega
   rw[HO];have eo:ZaZ g=⟨⟨(kk.length:Nat),g.terms,rk (Zav g) g.start,ZbO g g.Aa⟩,Zbt g g.Aa 0,[]⟩:=by rw[ZaZ,hkk]
   rw[eo];generalize ZbO g g.Aa=TR at *;generalize Zbt g g.Aa 0=TF at *;refine Zaz 901 rfl ?_;refine Zaz 902 rfl ?_
   (try refine wk ?_)
   exact fin2
 | false =>
  have e3:=ZBc hg (by rw[hb];decide);have e4:(subG g).Aa=[]:=by rw[ZBd (g:=g) (by rw[hb];decide)]
  have hkl:(Zba (Zav g)).length≤64:=by have:=ZdS (Zav g);have:=ZeC g;have:=hg.vars;omega
  clear hks hsg hre ho;iterate 16 (refine wk1 ?_)
  refine Zaz 45 rfl ?_;refine ZyX 7 (v:=.d (ints false [g.start])) (Co.froz rfl (by simp)) rfl ?_;rw[←e3];refine Zr7 [(7,.d (ints false (Zba (Zav g)))),(1,.ptr 1 0),(2,.ptr 2 0),(3,.ptr 3 0),(6,.ptr 6 0)] [(1,ZaE false g),(2,Zci false Ag),(3,.box 31 [.d (iD 0),.d (iD 0)]),(6,.box 24 [.d (iD g.vars),.d (iD g.terms),.d (iD g.start),.d (ZaS false (subG g).Aa)])] ?_ ?_ rfl ?_
  ·exact⟨VLe.refl _,VLe.refl _,VLe.refl _,VLe.refl _,VLe.refl _,trivial⟩
  ·rw[e4];exact⟨.of rfl,ZcG rfl ⟨.refl _,.refl _,.refl _,.nil _ _,.nil _ _,.nil _ _,trivial⟩,.of rfl,ZcG rfl ⟨.refl _,.refl _,.refl _,.nil _ _,trivial⟩,trivial⟩
  generalize hkk:Zba (Zav g)=kk at *
  (try refine wk ?_)
  refine ZaW [] (hA:=hix) (hr:=?_)
  (try refine wk ?_)
  refine ZaD 9 3 901 68 2 rfl rfl rfl rfl ?_;refine ZaD 9 4 902 75 1 rfl rfl rfl rfl ?_;refine Zak (X:=Nat) (fun i=>i≤g.Aa.length) (fun i=>tmF i g.Aa.length g.Aa kk) (fun i=>tmH g (subG g).Aa kk.length (rk (Zav g) g.start) (ZbO g (g.Aa.take i)) (Zbt g (g.Aa.take i) 0)) (fun i=>g.Aa.length - i) 0 (Hh _) ?_;intro i hi;by_cases hlt:i < g.Aa.length
  ·have hmem:=He hlt;have hrr:=hg.right _ hmem;have e1:=Zk7 (g:=g) hlt;have e2:=Zk8 (g:=g) hlt;have hst:=Zyr hmem;have hkeep:=ZdF hg hmem;have l1:(ZbO g (g.Aa.take i)).length≤i:=by
    rw[ZbO,Hi];exact Hq (Gd _ _) (by simp;omega)
   have l2:(Zbt g (g.Aa.take i) 0).length≤i:=by rw[tLen];exact l1
   have hcc:=hkc0 g.Aa[i].left;have hii:=hkk0 g.Aa[i].left;have hany:=Ze5 (t:=false) (clos:=118) (caps:=[.ptr 1000 0]) (H:=[(1000,ZgV false g.Aa[i])]) (xs:=(subG g).Aa) (p:=fun x=>decide (x=g.Aa[i])) ⟨rfl,rfl,rfl,rfl,trivial⟩ (fun x hx=>Zqf (by have:=(ZiR hg).right x hx;omega) (by omega)) (by have:=(ZiR hg).Aa;omega);have hr160:=hg.Aa;generalize (subG g).Aa=S at *;generalize S.any (fun x=>decide (x=g.Aa[i]))=b1 at hst hany;generalize ZbO g (g.Aa.take i)=TR at *;generalize Zbt g (g.Aa.take i) 0=TF at *;generalize hb2:has (Zav g) g.Aa[i].left=b2 at *
   (try refine wk ?_)
   refine ZaW [(1000,11)] (hA:=hany) (hr:=?_);cases b1 with
   | false =>
    rw[hst,Gz,Ha (by decide),Ht] at e1 e2
    (try refine wk ?_)
    rw[←e1,←e2];exact Zad (i+1)
   | true =>
    (try refine wk ?_)
    refine ZaW [] (hA:=hcc) (hr:=?_);cases b2 with
    | false =>
     rw[hst,H5,Ha (by decide),Ht] at e1 e2
     (try refine wk ?_)
     rw[←e1,←e2];exact Zad (i+1)
    | true =>
     have hs1:stay g g.Aa[i]=true:=(by rw[hst];rfl);rw[hs1,Hb rfl] at e1 e2;have hkeep:=hkeep hs1
     (try refine wk ?_)
     refine ZaW [] (hA:=hii rfl) (hr:=?_)
     (try refine wk ?_)
     refine ZaD 12 1 916 3 1 rfl rfl rfl rfl ?_;have et:ZlT (Zav g) g.Aa[i]=⟨rk (Zav g) g.Aa[i].left,g.Aa[i].right.map (ZaO (Zav g))⟩:=rfl;rw[et] at e1;clear hany hcc hii hst hs1 et;generalize g.Aa[i]=r at *;refine Zak (X:=Nat) (fun j=>j≤r.right.length) (fun j=>(85,I j)::(84,I r.right.length)::(83,.d (ints false r.right))::(10,I i)::(11,.ptr 11 0)::(12,.ptr 12 0)::tmF i g.Aa.length g.Aa kk)
      (fun j=>(11,ZgV false r)::(12,.box 68 [.d (iD (rk (Zav g) r.left)),.own 916 j])::(916,.row 3 1 (((r.right.take j).map (ZaO (Zav g))).map iD))::tmH g S kk.length (rk (Zav g) g.start) TR TF) (fun j=>r.right.length - j) 0 (Hh _) ?_
     intro j hj;have hlm:((r.right.take j).map (ZaO (Zav g))).length=j:=(by simp;omega);by_cases hjl:j < r.right.length
     ·have e3:(r.right.take (j+1)).map (ZaO (Zav g))=(r.right.take j).map (ZaO (Zav g))++[ZaO (Zav g) r.right[j]]:=by
       rw[HD hjl,Ho];rfl
      by_cases hx:r.right[j]≥0
      ·have e4:ZaO (Zav g) r.right[j]=rk (Zav g) r.right[j]:=(by rw[ZaO,Hb hx]);have hix2:=hkk0 r.right[j] (hkeep _ (by simp[Ab,hx]));rw[e4] at e3;have e:=e3
       (try refine wk ?_)
       refine ZaW [] (hA:=hix2) (hr:=?_)
       (try refine wk ?_)
       exact Zad (j+1)
      ·have e4:ZaO (Zav g) r.right[j]=r.right[j]:=(by rw[ZaO,Ha hx]);rw[e4] at e3;have e:=e3
       (try refine wk ?_)
       exact Zad (j+1)
     ·obtain rfl:j=r.right.length:=(by omega);rw[HO];have hrl:(r.right.map (ZaO (Zav g))).length=r.right.length:=Hi _;have hkl2:=Zbj r.right;rw[HO] at hlm;generalize r.right.map (ZaO (Zav g))=rr at *
      (try refine wk ?_)
      refine Zab [(3,917)] (hA:=ZcH) (hr:=?_)
      (try refine wk ?_)
      refine Zab [(20,918)] (hA:=Zfu) (hr:=?_)
      (try refine wk ?_)
      have f1:TR.map (Za3 false)++[D.agg [iD (rk (Zav g) r.left),ints false rr]]=(ZbO g (g.Aa.take (i+1))).map (Za3 false):=(by rw[e1];simp[Za3]);have f2:TF.map (Zah false)++[Zah false (ZaJ i (Ab r.right).length)]=(Zbt g (g.Aa.take (i+1)) 0).map (Zah false):=(by rw[e2];simp);rw[f1,f2];exact Zad (i+1)
  ·obtain rfl:i=g.Aa.length:=by omega
   rw[HO];have eo:ZaZ g=⟨⟨(kk.length:Nat),g.terms,rk (Zav g) g.start,ZbO g g.Aa⟩,Zbt g g.Aa 0,[]⟩:=by rw[ZaZ,hkk]
   rw[eo];generalize ZbO g g.Aa=TR at *;generalize Zbt g g.Aa 0=TF at *;refine Zaz 901 rfl ?_;refine Zaz 902 rfl ?_
   (try refine wk ?_)
   exact fin2
end Go.Proofs.YtbpmepgnjanhnaaGreat
