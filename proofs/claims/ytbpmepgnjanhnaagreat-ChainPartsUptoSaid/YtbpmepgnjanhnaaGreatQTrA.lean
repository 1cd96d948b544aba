import Derived.Test.YtbpmepgnjanhnaaGreatQSpA
import Derived.Test.YtbpmepgnjanhnaaGreatQFactorB
import Derived.Test.YtbpmepgnjanhnaaGreatF2
import Derived.Test.YtbpmepgnjanhnaaGreatQTreeA
import Derived.Test.YtbpmepgnjanhnaaGreatS5
set_option linter.unusedVariables false
set_option linter.unusedSimpArgs false
set_option linter.unusedSectionVars false
namespace Go.Proofs.YtbpmepgnjanhnaaGreat
open Go.RowKit
set_option maxRecDepth 100000
theorem ZiB (K:List Bool) (v:Int):(Za2 K).any (fun y=>decide (v=y))=has K v:=by
 rw[Bool.eq_iff_iff,List.any_eq_true]
 constructor
 ·rintro⟨x,hx,h⟩
  have:=of_decide_eq_true h
  subst this
  exact listB_mem.1 hx
 ·intro h;exact⟨v,listB_mem.2 h,by simp⟩
def idxQ (p:Rule→Bool):List Rule→Nat→Int
 | [],_ => -1
 | x::xs,i=>bif p x then (i:Int) else idxQ p xs (i+1)
theorem ZpO (p:Rule→Bool):∀ (xs:List Rule) (i:Nat),decide (0≤idxQ p xs i)=xs.any p
 | [],_=>by simp[idxQ]
 | x::xs,i=>by
  simp only[idxQ,List.any_cons]
  by_cases h:p x=true
  ·simp[h]
  ·simp only[Bool.not_eq_true] at h
   simpa[h] using ZpO p xs (i+1)
theorem ZtC {p:Rule→Bool} {xs:List Rule} {k:Nat} (h:k < xs.length):idxQ p (xs.drop k) k=bif p xs[k] then (k:Int) else idxQ p (xs.drop (k+1)) (k+1):=by
 rw[List.drop_eq_getElem_cons h,idxQ]
theorem ZvR {p:Rule→Bool} {xs:List Rule} {k:Nat} (h:¬ k < xs.length):idxQ p (xs.drop k) k = -1:=by
 rw[List.drop_of_length_le (by omega),idxQ]
theorem Zja {t:Bool} {clos:Nat} {caps:List V} {H:Hp} {xs:List Rule} {p:Rule→Bool} (hC:Clo H caps) (hc:∀ x∈xs,ACalls Tryz.prog clos (.d (ZaR t x)::caps) H (B (p x)) H) (hl:xs.length≤100000000:=by exact Vm) :
  ACalls Tryz.prog 184 [.d (ZaL t xs),.fn (.func clos) [] caps] H (I (idxQ p xs 0)) H:=by
 refine ACalls.intro (n:=19) Tryz.func184 rfl rfl (by simp) (by rfl) ?_
 simp only[Zal]
 have h1:=hC.self
 have h2:=hC.inn
 have h3:=hC.caps
 repeat (first|refine wk ?_)
 refine Zak (X:=Nat) (fun k=>k≤xs.length∧idxQ p xs 0=idxQ p (xs.drop k) k) (fun k=>[(8,I k),(7,I xs.length),(1,.fn (.func clos) [] caps),(0,.d (ZaL t xs))]) (fun _=>H) (fun k=>xs.length - k) 0 ⟨Nat.zero_le _,rfl⟩ ?_
 rintro k ⟨hk,hp⟩
 by_cases hlt:k < xs.length
 ·have hs:=ZtC (p:=p) hlt
  repeat (first|refine wk ?_)
  refine Zkg hC (hA:=hc xs[k] (List.getElem_mem hlt)) (hr:=?_)
  cases hpx:p xs[k] with
  | true =>
   rw[hpx] at hs
   repeat (first|refine wk ?_)
   rw[hp,hs]
   exact fin
  | false =>
   rw[hpx] at hs
   repeat (first|refine wk ?_)
   exact Zae (k+1) (a:=⟨by omega,hp.trans hs⟩)
 ·repeat (first|refine wk ?_)
  rw[hp,ZvR hlt]
  exact fin
theorem ZdQ {t:Bool} {clos:Nat} {caps:List V} {H:Hp} {xs:List Rule} {p:Rule→Bool} (hC:Clo H caps) (hc:∀ x∈xs,ACalls Tryz.prog clos (.d (ZaR t x)::caps) H (B (p x)) H) (hl:xs.length≤100000000:=by exact Vm) :
  ACalls Tryz.prog 117 [.d (ZaL t xs),.fn (.func clos) [] caps] H (B (xs.any p)) H:=by
 refine ACalls.intro (n:=9) Tryz.func117 rfl rfl (by simp) (by rfl) ?_
 simp only[Zal]
 have h1:=hC.self
 have h2:=hC.inn
 have h3:=hC.caps
 repeat (first|refine wk ?_)
 refine Zkg hC.bare (hA:=Zja hC hc) (hr:=?_)
 repeat (first|refine wk ?_)
 rw[←ZpO p xs 0]
 exact fin
theorem ZmN {t u:Bool} {x r:Rule} (hx:x.right.length≤100000000:=by exact Vm) (hr:r.right.length≤100000000:=by exact Vm) :
  ACalls Tryz.prog 118 [.d (ZaR t x),.ptr 1000 0] [(1000,Zfe u r)] (B (decide (x=r))) [(1000,Zfe u r)]:=by
 refine ACalls.intro (n:=16) Tryz.func118 rfl rfl (by simp) (by rfl) ?_
 simp only[Zal]
 by_cases h:x.left=r.left
 ·have e:decide (x=r)=decide (x.right=r.right):=decide_eq_decide.2 ⟨fun h=>h ▸ rfl,fun h2=>by cases x;cases r;simp_all⟩
  rw[e]
  repeat (first|refine wk ?_)
  refine Zab [] (hA:=ZrJ) (hr:=?_)
  repeat (first|refine wk ?_)
  exact fin
 ·have e:decide (x=r)=false:=decide_eq_false (fun h2=>h (h2 ▸ rfl))
  rw[e]
  repeat (first|refine wk ?_)
  exact fin
abbrev Zk8 (u:Bool) (xs:List Int):Ob:=.box 25 [.d (ints u xs)]
theorem ZtD {u:Bool} {ks:List Int} {v:Int} (hl:ks.length≤100000000:=by exact Vm) :
  ACalls Tryz.prog 182 [I v,.ptr 1000 0] [(1000,Zk8 u ks)] (B (!ks.any (fun y=>decide (v=y)))) [(1000,Zk8 u ks)]:=by
 refine ACalls.intro (n:=8) Tryz.func182 rfl rfl (by simp) (by rfl) ?_
 simp only[Zal]
 repeat (first|refine wk ?_)
 refine Zab [] (hA:=ZcQ) (hr:=?_)
 repeat (first|refine wk ?_)
 exact fin
def Zeb (K:List Bool):List Rule→Nat→List Int
 | [],_=>[]
 | r::rs,i=>if rOk K r=true then (i:Int)::Zeb K rs (i+1) else Zeb K rs (i+1)
theorem Zhe (K:List Bool):∀ (a b:List Rule) (i:Nat),Zeb K (a++b) i=Zeb K a i++Zeb K b (i+a.length)
 | [],b,i=>by simp[Zeb]
 | r::a,b,i=>by
  simp only[List.cons_append,Zeb,Zhe K a b (i+1),List.length_cons]
  rw[show i+1+a.length=i+(a.length+1) by omega]
  split <;> rfl
theorem Zq6 {K:List Bool} {rs:List Rule} {i:Nat} (h:i < rs.length):Zeb K (rs.take (i+1)) 0=Zeb K (rs.take i) 0++(if rOk K rs[i]=true then [(i:Int)] else []):=by
 rw[List.take_succ_eq_append_getElem h,Zhe]
 simp only[Zeb,List.length_take,Nat.zero_add]
 rw[Nat.min_eq_left (by omega)]
theorem Zk9 (K:List Bool):∀ (rs:List Rule) (i:Nat),(Zeb K rs i).length≤rs.length
 | [],i=>by simp[Zeb]
 | r::rs,i=>by
  have:=Zk9 K rs (i+1)
  simp only[Zeb];split <;> simp <;> omega
theorem Zq7 {K:List Bool} {rs:List Rule} {i:Nat} (h:i < rs.length):(rs.take (i+1)).filter (rOk K)=(rs.take i).filter (rOk K)++(if rOk K rs[i]=true then [rs[i]] else []):=by
 rw[List.take_succ_eq_append_getElem h,List.filter_append]
 congr 1
 by_cases hs:rOk K rs[i]=true <;> simp[hs]
theorem ZvS (K:List Bool) (r:Rule):(kids r.right++[r.left]).any (fun v=>!(Za2 K).any (fun y=>decide (v=y)))=!rOk K r:=by
 simp only[ZiB]
 rw[Bool.eq_iff_iff]
 simp only[rOk,Zcn,List.any_append,List.any_cons,List.any_nil,Bool.or_false,Bool.or_eq_true,Bool.not_eq_true',Bool.and_eq_false_iff,List.any_eq_true,List.all_eq_false,Bool.not_eq_true]
 constructor
 ·rintro (⟨x,h1,h2⟩|h)
  ·exact .inr ⟨x,h1,by simpa using h2⟩
  ·exact .inl h
 ·rintro (h|⟨x,h1,h2⟩)
  ·exact .inr h
  ·exact .inl ⟨x,h1,by simpa using h2⟩
set_option maxRecDepth 100000
set_option maxHeartbeats 400000 in
theorem ZvT {g:Gram} {K:List Bool} (hg:g.ok) (hK:K.length≤100000:=by exact Vm) :
  ACalls Tryz.prog 113 [.d (Za6 false g),.d (ints false (Za2 K))] [] (.tup [.d (ZaL false (g.rules.filter (rOk K))),.d (ints false (Zeb K g.rules 0))]) []:=by
 refine ACalls.intro (n:=38) Tryz.func113 rfl rfl (by simp) (by rfl) ?_
 simp only[Zal]
 have hlen:=hg.rules
 have hB:=ZcX K
 repeat (first|refine wk ?_)
 refine Zbi 6 900 68 2 rfl rfl rfl ?_
 refine Zbi 7 901 3 1 rfl rfl rfl ?_
 refine Zak (X:=Nat) (fun i=>i≤g.rules.length) (fun i=>[(13,I i),(12,I g.rules.length),(11,.d (ZaL false g.rules)),(6,.own 900 ((g.rules.take i).filter (rOk K)).length),(7,.own 901 (Zeb K (g.rules.take i) 0).length),(2,.ptr 2 0),(3,.ptr 3 0)]) (fun i=>[(900,.row 68 2 (((g.rules.take i).filter (rOk K)).map (ZaR false))),(901,.row 3 1 ((Zeb K (g.rules.take i) 0).map iD)),(2,Zay false g),(3,Zk8 false (Za2 K))]) (fun i=>g.rules.length - i) 0 (Nat.zero_le _) ?_
 intro i hi
 by_cases hlt:i < g.rules.length
 ·have hmem:=List.getElem_mem hlt
  have a3:=hg.right _ hmem
  have hkl:=Za3 g.rules[i].right
  have e1:=Zq7 (K:=K) hlt
  have e2:=Zq6 (K:=K) hlt
  have l1:((g.rules.take i).filter (rOk K)).length≤g.rules.length:=Nat.le_trans (List.length_filter_le _ _) (by simp;omega)
  have l2:(Zeb K (g.rules.take i) 0).length≤g.rules.length:=Nat.le_trans (Zk9 K _ 0) (by simp;omega)
  have hany:=ZvS K g.rules[i]
  have hc:=Zbx (t:=true) (clos:=182) (caps:=[.ptr 1000 0]) (H:=[(1000,Zk8 false (Za2 K))]) (xs:=kids g.rules[i].right++[g.rules[i].left]) (p:=fun v=>!(Za2 K).any (fun y=>decide (v=y))) ⟨rfl,rfl,rfl,rfl,trivial⟩ (fun x _=>ZtD) (by simp;omega)
  rw[hany] at hc
  have hm:(kids g.rules[i].right).map iD++[iD g.rules[i].left]=(kids g.rules[i].right++[g.rules[i].left]).map iD:=by simp
  cases hb:rOk K g.rules[i] with
  | true =>
   rw[hb,if_pos rfl] at e1 e2
   rw[hb] at hc
   have e3:((g.rules.take (i+1)).filter (rOk K)).map (ZaR false)=((g.rules.take i).filter (rOk K)).map (ZaR false)++[D.agg [iD g.rules[i].left,ints false g.rules[i].right]]:=by rw[e1];simp[ZaR]
   have e3':=e3.symm
   have e:=And.intro e1 e2
   repeat (first|refine wk ?_)
   refine Zab [(3,902)] (hA:=Zb5) (hr:=?_)
   repeat (first|refine wk ?_)
   rw[hm]
   refine Zab [(1000,3)] (hA:=hc) (hr:=?_)
   repeat (first|refine wk ?_)
   exact Zae (i+1)
  | false =>
   rw[hb,if_neg (by decide),List.append_nil] at e1 e2
   rw[hb] at hc
   have e:=And.intro e1 e2
   repeat (first|refine wk ?_)
   refine Zab [(3,902)] (hA:=Zb5) (hr:=?_)
   repeat (first|refine wk ?_)
   rw[hm]
   refine Zab [(1000,3)] (hA:=hc) (hr:=?_)
   repeat (first|refine wk ?_)
   exact Zae (i+1)
 ·obtain rfl:i=g.rules.length:=by omega
  rw[List.take_length]
  refine Zav 900 rfl ?_
  refine Zav 901 rfl ?_
  repeat (first|refine wk ?_)
  exact Fin.r2 rfl (.of_tmp rfl) (.of_tmp rfl) (Co.tup ⟨Co.froz rfl (by simp),Co.froz rfl (by simp),trivial⟩) trivial rfl
set_option maxRecDepth 100000
set_option maxRecDepth 100000
theorem ZiC:∀ (k:Nat),fszs (ZaH k)=k
 | 0=>rfl
 | k+1=>by rw[show ZaH (k+1)=ZaH k++[.mk 2 k []] by simp[ZaH,List.range_succ],Zbc,ZiC k];simp[fszs,fsz]
theorem ZmO (r:Int) (k:Nat):fszs (ZaQ r k)=k+1:=by simp[ZaQ,fszs,fsz,ZiC];omega
def SP.slim (s:SP):Prop:=∀ l∈s.frags,fszs l≤100
theorem SP.slim.lifts:∀ {l:List Int} {s:SP},s.slim→(s.lifts l).slim
 | [],_,h=>h
 | x::l,s,h=>by
  refine SP.slim.lifts (l:=l) (s:=s.lift x) ?_
  unfold SP.lift
  split
  ·exact h
  ·split
   ·intro y hy
    rcases List.mem_append.1 hy with hy|hy
    ·exact h y hy
    ·rw[List.mem_singleton.1 hy];simp[fszs]
   ·exact h
theorem Zj3 (r:Int):∀ (k:Nat),∀ l∈Zhn r k,fszs l≤100
 | 0,l,h=>by simp[Zhn] at h
 | k+1,l,h=>by
  rcases List.mem_append.1 h with h|h
  ·exact Zj3 r k l h
  ·rw[List.mem_singleton.1 h];split <;> simp[ZbY,fszs,fsz]
theorem SP.slim.one {s:SP} (h:s.slim) {r:Nat} {x:Rule} (hx:x.right.length≤10):(s.one r x).slim:=by
 have hk:=Za3 x.right
 unfold SP.one
 split
 ·intro y hy
  rcases List.mem_append.1 hy with hy|hy
  ·exact h y hy
  ·rw[List.mem_singleton.1 hy,ZmO];omega
 ·intro y hy
  rcases List.mem_append.1 hy with hy|hy
  ·exact (SP.slim.lifts h) y hy
  ·exact Zj3 _ _ y hy
theorem Zhf:∀ {rs:List Rule} {s s':SP} {i:Nat},s.slim→(∀ r∈rs,r.right.length≤10)→ZbU s rs i=.ok s'→s'.slim
 | [],s,s',i,h,_,e=>by rw[ZbU] at e;cases e;exact h
 | x::rs,s,s',i,h,hr,e=>by
  rw[ZbU] at e
  cases hc:(s.one i x).many with
  | true=>rw[hc] at e;cases e
  | false=>rw[hc] at e;exact Zhf (h.one (hr x (by simp))) (fun r h=>hr r (by simp[h])) e
theorem Zez:zeroStep.fit:=⟨⟨by decide,fun r hr=>by simp[zeroStep] at hr⟩,by decide,fun l hl=>by simp[zeroStep] at hl,by decide⟩
theorem Zj4 (g:Gram):(ZbZ g).1.fit:=by
 rcases Zg6 g with ⟨_,h⟩|⟨i,h⟩|⟨s,hg,h1,h⟩
 ·rw[h];exact Zez
 ·rw[h];exact Zez
 ·rw[h]
  obtain⟨k1,k2,k3⟩:=Zid hg h1
  have hs:s.slim:=Zhf (s:=Za9 g) (fun l hl=>by simp[Za9] at hl) hg.right h1
  obtain⟨f1,f2⟩:=Zdy hg
  obtain⟨f3,f4⟩:=ZgD hg f1 f2 (fun r hr=>hg.rule hr) (by omega) h1
  have hp:=f3.parts.len
  have hm:=ZnX f4
  exact⟨k1.fit,(by show s.frags.length≤_;omega),fun l hl=>Nat.le_trans (hs l hl) (by decide),by simp[ZeM,cnts]⟩
theorem Zof {g:Gram} (h:(ZbZ g).2.code=0):(Zar g (ZbZ g).1)=⟨0,0⟩:=by
 rcases Zg6 g with ⟨h0,e⟩|⟨i,e⟩|⟨s,hg,h1,e⟩
 ·rw[e] at h;exact absurd h h0
 ·rw[e] at h;cases h
 ·rw[e];exact (Zid hg h1).2.1
set_option maxRecDepth 100000
theorem Zxo {g:Gram} {r:Rule} (hr:r∈g.rules):(subG g).rules.any (fun x=>decide (x=r))=(has (ZbV g) g.start && rOk (ZbV g) r):=by
 rw[Bool.eq_iff_iff,List.any_eq_true]
 simp only[subG,Bool.and_eq_true,decide_eq_true_eq]
 constructor
 ·rintro⟨x,h1,rfl⟩
  split at h1
  ·rename_i hs;exact⟨hs,(List.mem_filter.1 h1).2⟩
  ·cases h1
 ·rintro⟨h1,h2⟩
  rw[if_pos h1]
  exact⟨r,List.mem_filter.2 ⟨hr,h2⟩,rfl⟩
theorem ZvU {g:Gram} (hg:g.ok) (hs:¬ has (ZbV g) g.start=true):Za2 (ZaI g)=[g.start]:=by
 have h1:((Za2 (ZaI g)).length:Int)=1:=congrArg Gram.vars (Zxm hg hs)
 have h2:g.start∈Za2 (ZaI g):=listB_mem.2 (ZeQ hg)
 match hl:Za2 (ZaI g),h1,h2 with
 | [x],_,h2=>rw[List.mem_singleton.1 h2]
theorem ZmP {g:Gram} (hs:has (ZbV g) g.start=true):subG g=⟨g.vars,g.terms,g.start,g.rules.filter (rOk (ZbV g))⟩:=by rw[subG,if_pos hs];rfl
theorem ZvV {g:Gram} (hs:¬ has (ZbV g) g.start=true):subG g=⟨g.vars,g.terms,g.start,[]⟩:=by rw[subG,if_neg hs]
theorem ZtE {g:Gram} (hg:g.ok) (p:Rule→Bool):(⟨g.vars,g.terms,g.start,g.rules.filter p⟩:Gram).ok:=by
 have hl:=List.length_filter_le p g.rules
 have:=hg.rules
 exact⟨hg.vars1,hg.vars,hg.terms0,hg.terms,hg.start0,hg.start,by dsimp only;omega,fun r hr=>hg.right r (List.mem_filter.1 hr).1,fun r hr=>hg.left0 r (List.mem_filter.1 hr).1,fun r hr=>hg.left r (List.mem_filter.1 hr).1,fun r hr=>hg.lo r (List.mem_filter.1 hr).1,fun r hr=>hg.hi r (List.mem_filter.1 hr).1⟩
theorem Gram.ok.code {g:Gram} (hg:g.ok):(Zac g).code=0:=by rw[hg.fault]
theorem ZtF {g:Gram} {r:Rule} (hr:r∈g.rules):stay g r=((subG g).rules.any (fun x=>decide (x=r)) && has (ZaI g) r.left):=by
 rw[Zxo hr,stay,Bool.and_assoc]
abbrev tmF (i n:Nat) (rs:List Rule) (ks:List Int):Fr:=[(60,I i),(59,I n),(58,.d (ZaL false rs)),(2,.ptr 2 0),(3,.ptr 3 0),(6,.ptr 6 0),(7,.d (ints false ks)),(9,.ptr 9 0)]
abbrev tmH (g:Gram) (S:List Rule) (n:Nat) (s:Int) (R:List Rule) (F:List (List Frag)):Hp:=[(2,Zbw false zeroStep),(3,.box 31 [.d (iD 0),.d (iD 0)]),(6,.box 24 [.d (iD g.vars),.d (iD g.terms),.d (iD g.start),.d (ZaL false S)]),
 (9,.box 39 [.d (iD n),.d (iD g.terms),.d (iD s),.own 901 R.length,.own 902 F.length,.d nilT]),(901,.row 68 2 (R.map (ZaR false))),(902,.row 75 1 (F.map (Zah false)))]
set_option maxHeartbeats 4000000 in
theorem ZmQ {g:Gram} (hf:g.fit) :
  ACalls Tryz.prog 67 [.d (Za6 false g)] [] (.tup [.d (Zcf false (Zf5 g).1),.d (Zba (Zf5 g).2)]) []:=by
 refine ACalls.intro (n:=122) Tryz.func67 rfl rfl (by simp) (by rfl) ?_
 simp only[Zal]
 have hr1:=hf.rules
 have hr2:=hf.right
 have hp:=Zi5 (t:=false) hf
 by_cases hc:(Zac g).code=0
 rotate_left
 ·rw[show ZnE g=[] by rw[ZnE,if_neg hc]] at hp
  rw[show Zf5 g=(zeroStep,Zac g) by rw[Zf5,if_neg hc]]
  repeat (first|refine wk ?_)
  refine ZaO [] (hA:=hp) (hr:=?_)
  repeat (first|refine wk ?_)
  exact fin2
 have hg:=Za1 hc
 rw[show Zf5 g=(ZbH g,⟨0,0⟩) by rw[Zf5,if_pos hc]]
 rw[show ZnE g=Za2 (ZbV g) by rw[ZnE,if_pos hc];rfl] at hp
 have hK:(ZbV g).length≤64:=by
  have h1:=Zcd (t:=true) hg
  have h2:=hg.vars
  show (ZaT true g).length≤64
  omega
 have hKl:=ZcX (ZbV g)
 have ho:=ZvT (K:=ZbV g) hg (by omega)
 have hfo:=ZtE hg (rOk (ZbV g))
 have hre:=Zkh (t:=false) hfo.fit
 rw[hfo.fault,show Zls ⟨g.vars,g.terms,g.start,g.rules.filter (rOk (ZbV g))⟩=Za2 (Zcr ⟨g.vars,g.terms,g.start,g.rules.filter (rOk (ZbV g))⟩) by rw[Zls,if_pos hfo.code]] at hre
 have hco:=ZcQ (t:=false) (xs:=Za2 (ZbV g)) (v:=g.start) (by omega)
 rw[ZiB] at hco
 have hN:(Zeb (ZbV g) g.rules 0).length≤g.rules.length:=Zk9 _ _ _
 have hR:(g.rules.filter (rOk (ZbV g))).length≤g.rules.length:=List.length_filter_le _ _
 generalize Zeb (ZbV g) g.rules 0=N0 at ho hN
 have hsg:has (ZbV g) g.start=true→subG g=⟨g.vars,g.terms,g.start,g.rules.filter (rOk (ZbV g))⟩∧ZaI g=Zcr ⟨g.vars,g.terms,g.start,g.rules.filter (rOk (ZbV g))⟩:=fun h=>⟨ZmP h,by rw[ZaI,ZmP h]⟩
 have hkl2:=ZcX (Zcr ⟨g.vars,g.terms,g.start,g.rules.filter (rOk (ZbV g))⟩)
 have hkl3:=Zd2 ⟨g.vars,g.terms,g.start,g.rules.filter (rOk (ZbV g))⟩
 generalize g.rules.filter (rOk (ZbV g))=R0 at *
 generalize Zcr ⟨g.vars,g.terms,g.start,R0⟩=K0 at *
 obtain⟨ks,hks⟩:∃ ks,ks=Za2 K0:=⟨_,rfl⟩
 obtain⟨gs,hgs⟩:∃ gs,gs=Za2 (ZbV g):=⟨_,rfl⟩
 rw[←hks] at hre
 rw[←hgs] at hp ho hco
 repeat (first|refine wk ?_)
 refine ZaO [] (hA:=hp) (hr:=?_)
 repeat (first|refine wk ?_)
 refine ZaO [] (hA:=ho) (hr:=?_)
 repeat (first|refine wk ?_)
 refine ZaO [] (hA:=hre) (hr:=?_)
 repeat (first|refine wk ?_)
 generalize hb:has (ZbV g) g.start=b at hco
 refine ZaO [] (hA:=hco) (hr:=?_)
 have hkk0:∀ v,has (ZaI g) v=true→ACalls Tryz.prog 116 [.d (ints false (Za2 (ZaI g))),I v] [] (I (rk (ZaI g) v)) []:=fun v hv=>by
  have h:=ZlP (t:=false) (xs:=Za2 (ZaI g)) (v:=v) (by have:=ZcX (ZaI g);have:=ZeP g;have:=hg.vars;omega)
  rwa [Zys hv] at h
 have hkc0:∀ v,ACalls Tryz.prog 115 [.d (ints false (Za2 (ZaI g))),I v] [] (B (has (ZaI g) v)) []:=fun v=>by
  have h:=ZcQ (t:=false) (xs:=Za2 (ZaI g)) (v:=v) (by have:=ZcX (ZaI g);have:=ZeP g;have:=hg.vars;omega)
  rwa [ZiB] at h
 have hks2:=ZeQ hg
 have hix:=hkk0 _ hks2
 have hT0:Zbu g []=[]:=rfl
 cases b with
 | true =>
  obtain⟨e1,e2⟩:=hsg hb
  have e3:ks=Za2 (ZaI g):=by rw[hks,e2]
  have e4:R0=(subG g).rules:=by rw[e1]
  rw[e3,e4]
  clear hks e3 e4 e1 e2 hsg hre ho
  have hkl:(Za2 (ZaI g)).length≤64:=by have:=ZcX (ZaI g);have:=ZeP g;have:=hg.vars;omega
  generalize hkk:Za2 (ZaI g)=kk at *
  repeat (first|refine wk ?_)
  refine ZaO [] (hA:=hix) (hr:=?_)
  repeat (first|refine wk ?_)
  refine ZaB 9 3 901 68 2 rfl rfl rfl rfl ?_
  refine ZaB 9 4 902 75 1 rfl rfl rfl rfl ?_
  refine Zak (X:=Nat) (fun i=>i≤g.rules.length) (fun i=>tmF i g.rules.length g.rules kk) (fun i=>tmH g (subG g).rules kk.length (rk (ZaI g) g.start) (Zbu g (g.rules.take i)) (Zbh g (g.rules.take i) 0)) (fun i=>g.rules.length - i) 0 (Nat.zero_le _) ?_
  intro i hi
  by_cases hlt:i < g.rules.length
  ·have hmem:=List.getElem_mem hlt
   have hrr:=hg.right _ hmem
   have e1:=Ziu (g:=g) hlt
   have e2:=Ziv (g:=g) hlt
   have hst:=ZtF hmem
   have hkeep:=Zix hg hmem
   have l1:(Zbu g (g.rules.take i)).length≤i:=by
    rw[Zbu,List.length_map]
    exact Nat.le_trans (List.length_filter_le _ _) (by simp;omega)
   have l2:(Zbh g (g.rules.take i) 0).length≤i:=by rw[tLen];exact l1
   have hcc:=hkc0 g.rules[i].left
   have hii:=hkk0 g.rules[i].left
   have hany:=ZdQ (t:=false) (clos:=118) (caps:=[.ptr 1000 0]) (H:=[(1000,Zfe false g.rules[i])]) (xs:=(subG g).rules) (p:=fun x=>decide (x=g.rules[i])) ⟨rfl,rfl,rfl,rfl,trivial⟩ (fun x hx=>ZmN (by have:=(ZgO hg).right x hx;omega) (by omega)) (by have:=(ZgO hg).rules;omega)
   have hr160:=hg.rules
   generalize (subG g).rules=S at *
   generalize S.any (fun x=>decide (x=g.rules[i]))=b1 at hst hany
   generalize Zbu g (g.rules.take i)=TR at *
   generalize Zbh g (g.rules.take i) 0=TF at *
   generalize hb2:has (ZaI g) g.rules[i].left=b2 at *
   repeat (first|refine wk ?_)
   refine ZaO [(1000,11)] (hA:=hany) (hr:=?_)
   cases b1 with
   | false =>
    rw[hst,Bool.false_and,if_neg (by decide),List.append_nil] at e1 e2
    repeat (first|refine wk ?_)
    rw[←e1,←e2]
    exact Zae (i+1)
   | true =>
    repeat (first|refine wk ?_)
    refine ZaO [] (hA:=hcc) (hr:=?_)
    cases b2 with
    | false =>
     rw[hst,Bool.true_and,if_neg (by decide),List.append_nil] at e1 e2
     repeat (first|refine wk ?_)
     rw[←e1,←e2]
     exact Zae (i+1)
    | true =>
     have hs1:stay g g.rules[i]=true:=by rw[hst];rfl
     rw[hs1,if_pos rfl] at e1 e2
     have hkeep:=hkeep hs1
     repeat (first|refine wk ?_)
     refine ZaO [] (hA:=hii rfl) (hr:=?_)
     repeat (first|refine wk ?_)
     refine ZaB 12 1 916 3 1 rfl rfl rfl rfl ?_
     have et:Zq1 (ZaI g) g.rules[i]=⟨rk (ZaI g) g.rules[i].left,g.rules[i].right.map (Zbe (ZaI g))⟩:=rfl
     rw[et] at e1
     clear hany hcc hii hst hs1 et
     generalize g.rules[i]=r at *
     refine Zak (X:=Nat) (fun j=>j≤r.right.length) (fun j=>(85,I j)::(84,I r.right.length)::(83,.d (ints false r.right))::(10,I i)::(11,.ptr 11 0)::(12,.ptr 12 0)::tmF i g.rules.length g.rules kk)
      (fun j=>(11,Zfe false r)::(12,.box 68 [.d (iD (rk (ZaI g) r.left)),.own 916 j])::(916,.row 3 1 (((r.right.take j).map (Zbe (ZaI g))).map iD))::tmH g S kk.length (rk (ZaI g) g.start) TR TF) (fun j=>r.right.length - j) 0 (Nat.zero_le _) ?_
     intro j hj
     have hlm:((r.right.take j).map (Zbe (ZaI g))).length=j:=by simp;omega
     by_cases hjl:j < r.right.length
     ·have e3:(r.right.take (j+1)).map (Zbe (ZaI g))=(r.right.take j).map (Zbe (ZaI g))++[Zbe (ZaI g) r.right[j]]:=by
       rw[List.take_succ_eq_append_getElem hjl,List.map_append];rfl
      by_cases hx:r.right[j]≥0
      ·have e4:Zbe (ZaI g) r.right[j]=rk (ZaI g) r.right[j]:=by rw[Zbe,if_pos hx]
       have hix2:=hkk0 r.right[j] (hkeep _ (by simp[kids,hx]))
       rw[e4] at e3
       have e:=e3
       repeat (first|refine wk ?_)
       refine ZaO [] (hA:=hix2) (hr:=?_)
       repeat (first|refine wk ?_)
       exact Zae (j+1)
      ·have e4:Zbe (ZaI g) r.right[j]=r.right[j]:=by rw[Zbe,if_neg hx]
       rw[e4] at e3
       have e:=e3
       repeat (first|refine wk ?_)
       exact Zae (j+1)
     ·obtain rfl:j=r.right.length:=by omega
      rw[List.take_length]
      have hrl:(r.right.map (Zbe (ZaI g))).length=r.right.length:=List.length_map _
      have hkl2:=Za3 r.right
      rw[List.take_length] at hlm
      generalize r.right.map (Zbe (ZaI g))=rr at *
      repeat (first|refine wk ?_)
      refine Zab [(3,917)] (hA:=Zb5) (hr:=?_)
      repeat (first|refine wk ?_)
      refine Zab [(20,918)] (hA:=Zed) (hr:=?_)
      repeat (first|refine wk ?_)
      have f1:TR.map (ZaR false)++[D.agg [iD (rk (ZaI g) r.left),ints false rr]]=(Zbu g (g.rules.take (i+1))).map (ZaR false):=by rw[e1];simp[ZaR]
      have f2:TF.map (Zah false)++[Zah false (ZaQ i (kids r.right).length)]=(Zbh g (g.rules.take (i+1)) 0).map (Zah false):=by rw[e2];simp
      rw[f1,f2]
      exact Zae (i+1)
  ·obtain rfl:i=g.rules.length:=by omega
   rw[List.take_length]
   have eo:ZbH g=⟨⟨(kk.length:Nat),g.terms,rk (ZaI g) g.start,Zbu g g.rules⟩,Zbh g g.rules 0,[]⟩:=by rw[ZbH,hkk]
   rw[eo]
   generalize Zbu g g.rules=TR at *
   generalize Zbh g g.rules 0=TF at *
   refine Zav 901 rfl ?_
   refine Zav 902 rfl ?_
   repeat (first|refine wk ?_)
   exact fin2
 | false =>
  have e3:=ZvU hg (by rw[hb];decide)
  have e4:(subG g).rules=[]:=by rw[ZvV (g:=g) (by rw[hb];decide)]
  have hkl:(Za2 (ZaI g)).length≤64:=by have:=ZcX (ZaI g);have:=ZeP g;have:=hg.vars;omega
  clear hks hsg hre ho
  iterate 16 (refine wk1 ?_)
  refine Zav 45 rfl ?_
  refine Zrh 7 (v:=.d (ints false [g.start])) (Co.froz rfl (by simp)) rfl ?_
  rw[←e3]
  refine Zol [(7,.d (ints false (Za2 (ZaI g)))),(1,.ptr 1 0),(2,.ptr 2 0),(3,.ptr 3 0),(6,.ptr 6 0)] [(1,Zay false g),(2,Zbw false zeroStep),(3,.box 31 [.d (iD 0),.d (iD 0)]),(6,.box 24 [.d (iD g.vars),.d (iD g.terms),.d (iD g.start),.d (ZaL false (subG g).rules)])] ?_ ?_ rfl ?_
  ·exact⟨VLe.refl _,VLe.refl _,VLe.refl _,VLe.refl _,VLe.refl _,trivial⟩
  ·rw[e4]
   exact⟨.of rfl,Zb4 rfl ⟨.refl _,.refl _,.refl _,.nil _ _,.nil _ _,.nil _ _,trivial⟩,.of rfl,Zb4 rfl ⟨.refl _,.refl _,.refl _,.nil _ _,trivial⟩,trivial⟩
  generalize hkk:Za2 (ZaI g)=kk at *
  repeat (first|refine wk ?_)
  refine ZaO [] (hA:=hix) (hr:=?_)
  repeat (first|refine wk ?_)
  refine ZaB 9 3 901 68 2 rfl rfl rfl rfl ?_
  refine ZaB 9 4 902 75 1 rfl rfl rfl rfl ?_
  refine Zak (X:=Nat) (fun i=>i≤g.rules.length) (fun i=>tmF i g.rules.length g.rules kk) (fun i=>tmH g (subG g).rules kk.length (rk (ZaI g) g.start) (Zbu g (g.rules.take i)) (Zbh g (g.rules.take i) 0)) (fun i=>g.rules.length - i) 0 (Nat.zero_le _) ?_
  intro i hi
  by_cases hlt:i < g.rules.length
  ·have hmem:=List.getElem_mem hlt
   have hrr:=hg.right _ hmem
   have e1:=Ziu (g:=g) hlt
   have e2:=Ziv (g:=g) hlt
   have hst:=ZtF hmem
   have hkeep:=Zix hg hmem
   have l1:(Zbu g (g.rules.take i)).length≤i:=by
    rw[Zbu,List.length_map]
    exact Nat.le_trans (List.length_filter_le _ _) (by simp;omega)
   have l2:(Zbh g (g.rules.take i) 0).length≤i:=by rw[tLen];exact l1
   have hcc:=hkc0 g.rules[i].left
   have hii:=hkk0 g.rules[i].left
   have hany:=ZdQ (t:=false) (clos:=118) (caps:=[.ptr 1000 0]) (H:=[(1000,Zfe false g.rules[i])]) (xs:=(subG g).rules) (p:=fun x=>decide (x=g.rules[i])) ⟨rfl,rfl,rfl,rfl,trivial⟩ (fun x hx=>ZmN (by have:=(ZgO hg).right x hx;omega) (by omega)) (by have:=(ZgO hg).rules;omega)
   have hr160:=hg.rules
   generalize (subG g).rules=S at *
   generalize S.any (fun x=>decide (x=g.rules[i]))=b1 at hst hany
   generalize Zbu g (g.rules.take i)=TR at *
   generalize Zbh g (g.rules.take i) 0=TF at *
   generalize hb2:has (ZaI g) g.rules[i].left=b2 at *
   repeat (first|refine wk ?_)
   refine ZaO [(1000,11)] (hA:=hany) (hr:=?_)
   cases b1 with
   | false =>
    rw[hst,Bool.false_and,if_neg (by decide),List.append_nil] at e1 e2
    repeat (first|refine wk ?_)
    rw[←e1,←e2]
    exact Zae (i+1)
   | true =>
    repeat (first|refine wk ?_)
    refine ZaO [] (hA:=hcc) (hr:=?_)
    cases b2 with
    | false =>
     rw[hst,Bool.true_and,if_neg (by decide),List.append_nil] at e1 e2
     repeat (first|refine wk ?_)
     rw[←e1,←e2]
     exact Zae (i+1)
    | true =>
     have hs1:stay g g.rules[i]=true:=by rw[hst];rfl
     rw[hs1,if_pos rfl] at e1 e2
     have hkeep:=hkeep hs1
     repeat (first|refine wk ?_)
     refine ZaO [] (hA:=hii rfl) (hr:=?_)
     repeat (first|refine wk ?_)
     refine ZaB 12 1 916 3 1 rfl rfl rfl rfl ?_
     have et:Zq1 (ZaI g) g.rules[i]=⟨rk (ZaI g) g.rules[i].left,g.rules[i].right.map (Zbe (ZaI g))⟩:=rfl
     rw[et] at e1
     clear hany hcc hii hst hs1 et
     generalize g.rules[i]=r at *
     refine Zak (X:=Nat) (fun j=>j≤r.right.length) (fun j=>(85,I j)::(84,I r.right.length)::(83,.d (ints false r.right))::(10,I i)::(11,.ptr 11 0)::(12,.ptr 12 0)::tmF i g.rules.length g.rules kk)
      (fun j=>(11,Zfe false r)::(12,.box 68 [.d (iD (rk (ZaI g) r.left)),.own 916 j])::(916,.row 3 1 (((r.right.take j).map (Zbe (ZaI g))).map iD))::tmH g S kk.length (rk (ZaI g) g.start) TR TF) (fun j=>r.right.length - j) 0 (Nat.zero_le _) ?_
     intro j hj
     have hlm:((r.right.take j).map (Zbe (ZaI g))).length=j:=by simp;omega
     by_cases hjl:j < r.right.length
     ·have e3:(r.right.take (j+1)).map (Zbe (ZaI g))=(r.right.take j).map (Zbe (ZaI g))++[Zbe (ZaI g) r.right[j]]:=by
       rw[List.take_succ_eq_append_getElem hjl,List.map_append];rfl
      by_cases hx:r.right[j]≥0
      ·have e4:Zbe (ZaI g) r.right[j]=rk (ZaI g) r.right[j]:=by rw[Zbe,if_pos hx]
       have hix2:=hkk0 r.right[j] (hkeep _ (by simp[kids,hx]))
       rw[e4] at e3
       have e:=e3
       repeat (first|refine wk ?_)
       refine ZaO [] (hA:=hix2) (hr:=?_)
       repeat (first|refine wk ?_)
       exact Zae (j+1)
      ·have e4:Zbe (ZaI g) r.right[j]=r.right[j]:=by rw[Zbe,if_neg hx]
       rw[e4] at e3
       have e:=e3
       repeat (first|refine wk ?_)
       exact Zae (j+1)
     ·obtain rfl:j=r.right.length:=by omega
      rw[List.take_length]
      have hrl:(r.right.map (Zbe (ZaI g))).length=r.right.length:=List.length_map _
      have hkl2:=Za3 r.right
      rw[List.take_length] at hlm
      generalize r.right.map (Zbe (ZaI g))=rr at *
      repeat (first|refine wk ?_)
      refine Zab [(3,917)] (hA:=Zb5) (hr:=?_)
      repeat (first|refine wk ?_)
      refine Zab [(20,918)] (hA:=Zed) (hr:=?_)
      repeat (first|refine wk ?_)
      have f1:TR.map (ZaR false)++[D.agg [iD (rk (ZaI g) r.left),ints false rr]]=(Zbu g (g.rules.take (i+1))).map (ZaR false):=by rw[e1];simp[ZaR]
      have f2:TF.map (Zah false)++[Zah false (ZaQ i (kids r.right).length)]=(Zbh g (g.rules.take (i+1)) 0).map (Zah false):=by rw[e2];simp
      rw[f1,f2]
      exact Zae (i+1)
  ·obtain rfl:i=g.rules.length:=by omega
   rw[List.take_length]
   have eo:ZbH g=⟨⟨(kk.length:Nat),g.terms,rk (ZaI g) g.start,Zbu g g.rules⟩,Zbh g g.rules 0,[]⟩:=by rw[ZbH,hkk]
   rw[eo]
   generalize Zbu g g.rules=TR at *
   generalize Zbh g g.rules 0=TF at *
   refine Zav 901 rfl ?_
   refine Zav 902 rfl ?_
   repeat (first|refine wk ?_)
   exact fin2
set_option maxRecDepth 100000
end Go.Proofs.YtbpmepgnjanhnaaGreat
