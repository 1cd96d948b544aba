import Derived.Test.YtbpmepgnjanhnaaGreatQTreeA
import Derived.Test.YtbpmepgnjanhnaaGreatQP1
import Derived.Test.YtbpmepgnjanhnaaGreatS5
import Derived.Test.YtbpmepgnjanhnaaGreatQSaP
import Derived.Test.YtbpmepgnjanhnaaGreatQFactorD
import Derived.Test.YtbpmepgnjanhnaaGreatF2
set_option linter.unusedVariables false
set_option linter.unusedSimpArgs false
set_option linter.unusedSectionVars false
namespace Go.Proofs.YtbpmepgnjanhnaaGreat
open Go.RowKit
set_option maxRecDepth 100000
abbrev spHr (g:Gram) (v:Int) (R F:List D) (n1 n2:Nat) (many:Bool) (tm:List D):Hp:=[(1000,.box 171 [.d (iD v),.d (iD g.terms),.d (iD g.start),.own 1001 n1,.own 1002 n2,.d nilT,.own 1003 g.terms.toNat,.d (bD many)]),(1001,.row 68 2 R),(1002,.row 75 1 F),(1003,.row 3 1 tm)]
abbrev spH (g:Gram) (s:SP) (tm:List D):Hp:=spHr g s.vars (s.rules.map (ZaR false)) (s.frags.map (Zah false)) s.rules.length s.frags.length s.many tm
theorem ZjW (s:SP):s.fresh.many=(s.many || decide (s.vars=64)):=by
 have h:s.fresh.vars=s.vars+1:=rfl
 have h2:s.fresh.rules=s.rules:=rfl
 rw[Bool.eq_iff_iff];simp only[SP.many,h,h2,Bool.or_eq_true,decide_eq_true_eq]
 constructor <;> (intro h3;omega)
theorem Ztp (s:SP) (v:Int) (right:List Int) (l:List Frag):(s.rule v right l).many=(s.many || decide ((s.rules.length:Int)=160)):=by
 have h:(s.rule v right l).vars=s.vars:=rfl
 have h2:(s.rule v right l).rules.length=s.rules.length+1:=by simp[SP.rule]
 rw[Bool.eq_iff_iff];simp only[SP.many,h,h2,Bool.or_eq_true,decide_eq_true_eq]
 constructor <;> (intro h3;omega)
theorem Zc3 {k:Int}:ACalls Tryz.prog 192 [I k] [] (.d (.agg [iD 2,iD k,nilT])) []:=by
 refine ACalls.intro (n:=5) Tryz.func192 rfl rfl (by simp) (by rfl) ?_
 simp only[Zal]
 refine VA ?_
 exact fin
theorem ZmK {g:Gram} {s:SP} {tm:List D} (h0:0≤s.vars:=by exact Vm) (h1:s.vars≤100000:=by exact Vm) :
  ACalls Tryz.prog 191 [.ptr 1000 0] (spH g s tm) (I s.vars) (spH g s.fresh tm):=by
 refine ACalls.intro (n:=37) Tryz.func191 rfl rfl (by simp) (by rfl) ?_
 simp only[Zal]
 have e0:s.vars+1 - 1=s.vars:=by omega
 cases hm:s.many with
 | true =>
  rw[show spH g s.fresh tm=spHr g (s.vars+1) (s.rules.map (ZaR false)) (s.frags.map (Zah false)) s.rules.length s.frags.length true tm by simp only[spH,ZjW,hm];rfl]
  refine VA ?_
  exact fin
 | false =>
  rw[show spH g s.fresh tm=spHr g (s.vars+1) (s.rules.map (ZaR false)) (s.frags.map (Zah false)) s.rules.length s.frags.length (decide (s.vars=64)) tm by simp only[spH,ZjW,hm];rfl]
  refine VA ?_
  exact fin
theorem ZhB {g:Gram} {s:SP} {tm:List D} {v:Int} {right:List Int} {l:List Frag} (h1:s.rules.length≤100000:=by exact Vm) (h2:s.frags.length≤100000:=by exact Vm) :
  ACalls Tryz.prog 125 [.ptr 1000 0,I v,.d (ints false right),.d (Zah false l)] (spH g s tm) (.tup []) (spH g (s.rule v right l) tm):=by
 refine ACalls.intro (n:=53) Tryz.func125 rfl rfl (by simp) (by rfl) ?_
 simp only[Zal]
 have hH:spH g (s.rule v right l) tm=spHr g s.vars (s.rules.map (ZaR false)++[.agg [iD v,ints false right]]) (s.frags.map (Zah false)++[Zah false l]) (s.rules.map (ZaR false)++[D.agg [iD v,ints false right]]).length (s.frags.map (Zah false)++[Zah false l]).length (s.many || decide ((s.rules.length:Int)=160)) tm:=by
  rw[←Ztp s v right l];simp[SP.rule,ZaR]
 rw[hH]
 cases hm:s.many with
 | true =>
  refine VA ?_
  exact fin
 | false =>
  refine VA ?_
  exact fin
set_option maxRecDepth 100000
theorem Ztq {g:Gram} {s:SP} {tm:List D} {v:Int} {right:List Int} (h1:s.rules.length≤100000:=by exact Vm) (h2:s.frags.length≤100000:=by exact Vm) :
  ACalls Tryz.prog 125 [.ptr 1000 0,I v,.d (ints false right),.d nilT] (spH g s tm) (.tup []) (spH g (s.rule v right []) tm) :=
 (ZhB (l:=[]) h1 h2).le ⟨.refl _,.refl _,.refl _,.nil _ _,trivial⟩
theorem SP.lift_new {s:SP} {x:Int} {k:Nat} (hk : -1 - x=(k:Int)) (hl:k < s.term.length) (h1:s.term[k] < 0) :
  s.lift x=SP.rule ⟨s.vars+1,s.rules,s.frags,s.term.set k s.vars⟩ s.vars [x] []∧s.lifted x=s.vars:=by
 have e:(-1 - x).toNat=k:=by omega
 have e2:s.lift x=SP.rule ⟨s.vars+1,s.rules,s.frags,s.term.set k s.vars⟩ s.vars [x] []:=by
  rw[SP.lift,if_neg (by omega),e,List.getD_eq_getElem?_getD,List.getElem?_eq_getElem hl,Option.getD_some,if_pos h1];rfl
 refine⟨e2,?_⟩
 rw[SP.lifted,if_neg (by omega),e2,e]
 simp[SP.rule,List.getD_eq_getElem?_getD,hl]
theorem SP.lift_old {s:SP} {x:Int} {k:Nat} (hk : -1 - x=(k:Int)) (hl:k < s.term.length) (h1:¬ s.term[k] < 0) :
  s.lift x=s∧s.lifted x=s.term[k]:=by
 have e:(-1 - x).toNat=k:=by omega
 have e2:s.lift x=s:=by
  rw[SP.lift,if_neg (by omega),e,List.getD_eq_getElem?_getD,List.getElem?_eq_getElem hl,Option.getD_some,if_neg h1]
 refine⟨e2,?_⟩
 rw[SP.lifted,if_neg (by omega),e2,e,List.getD_eq_getElem?_getD,List.getElem?_eq_getElem hl];rfl
set_option maxHeartbeats 2000000 in
theorem ZvK {g:Gram} {s:SP} {x:Int} (hx : -g.terms≤x:=by exact Vm) (ht:(s.term.length:Int)=g.terms:=by exact Vm) (ht4:g.terms≤90000:=by exact Vm) (h0:0≤s.vars:=by exact Vm) (h1:s.vars≤90000:=by exact Vm) (h2:s.rules.length≤90000:=by exact Vm) (h3:s.frags.length≤90000:=by exact Vm) :
  ACalls Tryz.prog 190 [.ptr 1000 0,I x] (spH g s (s.term.map iD)) (I (s.lifted x)) (spH g (s.lift x) ((s.lift x).term.map iD)):=by
 refine ACalls.intro (n:=46) Tryz.func190 rfl rfl (by simp) (by rfl) ?_
 simp only[Zal]
 by_cases hp:0≤x
 ·rw[show s.lift x=s by rw[SP.lift,if_pos hp],show s.lifted x=x by rw[SP.lifted,if_pos hp]]
  repeat (first|refine wk ?_)
  exact fin
 obtain⟨k,hk⟩:∃ k:Nat, -1 - x=(k:Int):=⟨(-1 - x).toNat,by omega⟩
 have hl:k < s.term.length:=by omega
 have hlt:k < g.terms.toNat:=by omega
 have hlm:(s.term.map iD).length=g.terms.toNat:=by simp;omega
 by_cases hn:s.term[k] < 0
 ·obtain⟨e1,e2⟩:=SP.lift_new hk hl hn
  have e3:(s.term.map iD).set k (D.raw (.int .i64 s.vars))=(s.term.set k s.vars).map iD:=by rw[List.map_set];rfl
  have hlm2:((s.term.set k s.vars).map iD).length=g.terms.toNat:=by simp;omega
  have hl2:k < (s.term.set k s.vars).length:=by simpa using hl
  have e4:(s.term.set k s.vars)[k]=s.vars:=by simp
  have f1:s.fresh.rules.length≤100000:=by show s.rules.length≤_;omega
  have f2:s.fresh.frags.length≤100000:=by show s.frags.length≤_;omega
  rw[e1,e2]
  repeat (first|refine ZiP TY (d:=19) (by exact rfl) Zaf (by exact rfl) (by exact rfl) (by exact rfl) (by exact rfl) (by exact rfl) ?_|refine Zuk TY (d:=20) (by exact rfl) Zaf (by exact rfl) (by exact rfl) (by exact rfl) (by exact rfl) (by exact rfl) (by exact rfl) ?_|refine wk1 ?_)
  refine Zab [] (hA:=ZmK) (hr:=?_)
  repeat (first|refine wk ?_)
  refine Zul (u:=[(1003,_),(1000,_),(1001,_),(1002,_),(1003,_)]) ?_ rfl ?_
  rotate_left
  ·intro q hq e
   simp only[List.mem_cons,List.not_mem_nil,or_false] at hq
   rcases hq with rfl|rfl|rfl|rfl|rfl
   ·simp at e
   ·exact⟨_,_,rfl,rfl⟩
   ·simp at e
   ·simp at e
   ·simp at e
  rw[e3]
  repeat (first|refine wk ?_)
  rw[e4]
  refine Zab [] (hA:=Ztq (s:=s.fresh) (v:=s.vars) (right:=[x])) (hr:=?_)
  repeat (first|refine wk ?_)
  rw[e4,show spH g (SP.rule ⟨s.vars+1,s.rules,s.frags,s.term.set k s.vars⟩ s.vars [x] []) ((SP.rule ⟨s.vars+1,s.rules,s.frags,s.term.set k s.vars⟩ s.vars [x] []).term.map iD)=spH g (s.fresh.rule s.vars [x] []) ((s.term.set k s.vars).map iD) from rfl]
  exact fin
 ·obtain⟨e1,e2⟩:=SP.lift_old hk hl hn
  rw[e1,e2]
  repeat (first|refine wk ?_)
  exact fin
set_option maxRecDepth 100000
theorem SP.lift_small (s:SP) (x:Int):s.vars≤(s.lift x).vars∧(s.lift x).vars≤s.vars+1∧(s.lift x).rules.length≤s.rules.length+1∧(s.lift x).frags.length≤s.frags.length+1:=by
 unfold SP.lift
 split
 ·omega
 ·split
  ·simp;omega
  ·omega
theorem SP.lifts_small:∀ (l:List Int) (s:SP),s.vars≤(s.lifts l).vars∧(s.lifts l).vars≤s.vars+l.length∧(s.lifts l).rules.length≤s.rules.length+l.length∧(s.lifts l).frags.length≤s.frags.length+l.length
 | [],s=>by simp[SP.lifts]
 | x::l,s=>by
  have h1:=s.lift_small x
  have h2:=SP.lifts_small l (s.lift x)
  simp only[SP.lifts,List.length_cons]
  omega
theorem SP.lifts_term:∀ (l:List Int) (s:SP),(s.lifts l).term.length=s.term.length
 | [],s=>rfl
 | x::l,s=>by rw[SP.lifts,SP.lifts_term l,SP.lift_term]
theorem SP.lifteds_snoc (s:SP) (l:List Int) (x:Int):s.lifteds (l++[x])=s.lifteds l++[(s.lifts l).lifted x]:=by rw[SP.lifteds_append];rfl
theorem SP.lifts_snoc (s:SP) (l:List Int) (x:Int):s.lifts (l++[x])=(s.lifts l).lift x:=by rw[SP.lifts_append];rfl
def SP.more (s:SP) (n:Nat):SP:=⟨s.vars+n,s.rules,s.frags,s.term⟩
theorem SP.more_fresh (s:SP) (n:Nat):(s.more n).fresh=s.more (n+1):=by simp[SP.more,SP.fresh];omega
def SP.pairs (s:SP) (v r:Int) (l rs:List Int) (k:Nat):SP:=⟨s.vars,s.rules++Zi9 v l rs k,s.frags++Zhn r k,s.term⟩
theorem SP.pairs_rule (s:SP) (v r:Int) (l rs:List Int) (k:Nat):(s.pairs v r l rs k).rule (if k=0 then v else rs.getD (k - 1) 0) [l.getD k 0,rs.getD k 0] (if k=0 then [.mk 1 r ZbY] else ZbY)=s.pairs v r l rs (k+1):=by
 simp[SP.pairs,SP.rule,Zi9,Zhn]
theorem ZpJ:Zah false ZbY=.sl false 3 [.agg [iD 2,iD 0,Zah false []],.agg [iD 2,iD 1,Zah false []]]:=by simp[ZbY,Zah,ZaG,Zdv]
abbrev Ztr (k:Int):D:=.agg [iD 2,iD k,nilT]
theorem ZhC (k:Int):DLe (Ztr k) (.agg [iD 2,iD k,Zah false []]):=.agg (.cons (.refl _) (.cons (.refl _) (.cons (.nil _ _) .nil)))
theorem Zts {g:Gram} {s:SP} {tm:List D} {v r:Int} {right:List Int} (h1:s.rules.length≤100000:=by exact Vm) (h2:s.frags.length≤100000:=by exact Vm) :
  ACalls Tryz.prog 125 [.ptr 1000 0,I v,.d (ints false right),.d (.sl false 3 [.agg [iD 1,iD r,.sl false 3 [Ztr 0,Ztr 1]]])] (spH g s tm) (.tup []) (spH g (s.rule v right [.mk 1 r ZbY]) tm):=by
 have h:=ZhB (g:=g) (s:=s) (tm:=tm) (v:=v) (right:=right) (l:=[.mk 1 r ZbY]) h1 h2
 rw[show Zah false [.mk 1 r ZbY]=.sl false 3 [.agg [iD 1,iD r,Zah false ZbY]] by simp[Zah,ZaG,ZbP],ZpJ] at h
 exact h.le ⟨.refl _,.refl _,.refl _,.sl (.cons (.agg (.cons (.refl _) (.cons (.refl _) (.cons (.sl (.cons (ZhC _) (.cons (ZhC _) .nil))) .nil)))) .nil),trivial⟩
theorem Ztt {g:Gram} {s:SP} {tm:List D} {v:Int} {right:List Int} (h1:s.rules.length≤100000:=by exact Vm) (h2:s.frags.length≤100000:=by exact Vm) :
  ACalls Tryz.prog 125 [.ptr 1000 0,I v,.d (ints false right),.d (.sl false 3 [Ztr 0,Ztr 1])] (spH g s tm) (.tup []) (spH g (s.rule v right ZbY) tm):=by
 have h:=ZhB (g:=g) (s:=s) (tm:=tm) (v:=v) (right:=right) (l:=ZbY) h1 h2
 rw[ZpJ] at h
 exact h.le ⟨.refl _,.refl _,.refl _,.sl (.cons (ZhC _) (.cons (ZhC _) .nil)),trivial⟩
set_option maxHeartbeats 4000000 in
theorem Ztu {t:Bool} {g:Gram} {s:SP} {v r:Int} {right:List Int} (hx:∀ x∈right, -g.terms≤x) (h2:2≤right.length) (h10:right.length≤10) (ht:(s.term.length:Int)=g.terms) (ht4:g.terms≤80000) (h0:0≤s.vars) (h1:s.vars≤80000) (h3:s.rules.length≤80000) (h4:s.frags.length≤80000) :
  ACalls Tryz.prog 126 [.ptr 1000 0,I v,I r,.d (ints t right)] (spH g s (s.term.map iD)) (.tup []) (spH g (s.split v r right) ((s.split v r right).term.map iD)):=by
 refine ACalls.intro (n:=87) Tryz.func126 rfl rfl (by simp) (by rfl) ?_
 simp only[Zal]
 repeat (first|refine wk ?_)
 refine Zbi 8 900 3 1 rfl rfl rfl ?_
 refine Zak (X:=Nat) (fun k=>k≤right.length) (fun k=>[(15,I k),(14,I right.length),(13,.d (ints t right)),(0,.ptr 1000 0),(1,I v),(2,I r),(8,.own 900 (s.lifteds (right.take k)).length)])
  (fun k=>(900,.row 3 1 ((s.lifteds (right.take k)).map iD))::spH g (s.lifts (right.take k)) ((s.lifts (right.take k)).term.map iD)) (fun k=>right.length - k) 0 (Nat.zero_le _) ?_
 intro k hk
 have hle:=SP.lifteds_length s (right.take k)
 have hsm:=SP.lifts_small (right.take k) s
 have htk:(right.take k).length=k:=by simp;omega
 rw[htk] at hle hsm
 by_cases hlt:k < right.length
 ·have e1:=SP.lifteds_snoc s (right.take k) right[k]
  have e2:=SP.lifts_snoc s (right.take k) right[k]
  rw[←List.take_succ_eq_append_getElem hlt] at e1 e2
  have hxk:=hx _ (List.getElem_mem hlt)
  have htm:=SP.lifts_term (right.take k) s
  have e:=e1
  generalize s.lifts (right.take k)=q at *
  generalize s.lifteds (right.take k)=ls at *
  repeat (first|refine wk ?_)
  refine Zab [] (hA:=ZvK (s:=q)) (hr:=?_)
  repeat (first|refine wk ?_)
  rw[←e2]
  exact Zae (k+1)
 ·obtain rfl:k=right.length:=by omega
  rw[List.take_length]
  rw[List.take_length] at hle hsm
  obtain⟨m,hm⟩:∃ m:Nat,right.length=m+2:=⟨right.length - 2,by omega⟩
  have hls:(s.lifteds right).length=m+2:=by omega
  have hlift:(s.split v r right)=((s.lifts right).more m).pairs v r (s.lifteds right) (Zhm (s.lifts right).vars (s.lifteds right)) (m+1):=by
   rw[SP.split,hm];simp[SP.pairs,SP.more]
  have hN:(((s.lifteds right).length:Nat):Int) - 2=(m:Int):=by omega
  rw[hlift,hls,hm]
  clear hlift hle hk hlt htk
  have hterm:=SP.lifts_term right s
  generalize s.lifts right=q at *
  generalize s.lifteds right=ls at *
  repeat (first|refine wk ?_)
  rw[hN]
  have e0:q=q.more 0:=by simp[SP.more]
  have hq:spH g q (q.term.map iD)=spH g (q.more 0) (q.term.map iD):=by rw[←e0]
  rw[hq]
  refine Zbi 11 901 3 1 rfl rfl rfl ?_
  refine Zak (X:=Nat) (fun k=>k≤m) (fun k=>[(29,I k),(28,I m),(0,.ptr 1000 0),(1,I v),(2,I r),(8,.own 900 (m+2)),(11,.own 901 k)])
   (fun k=>(900,.row 3 1 (ls.map iD))::(901,.row 3 1 (((List.range k).map (fun (i:Nat)=>q.vars+(i:Int))).map iD))::spH g (q.more k) (q.term.map iD)) (fun k=>m - k) 0 (Nat.zero_le _) ?_
  intro k hk
  have a1:(q.more k).vars=q.vars+k:=rfl
  have hrl:(List.range k).length=k:=List.length_range
  by_cases hlt:k < m
  ·repeat (first|refine wk ?_)
   refine Zab [] (hA:=ZmK (s:=q.more k)) (hr:=?_)
   repeat (first|refine wk ?_)
   rw[SP.more_fresh]
   have e:(List.range (k+1)).map (fun (i:Nat)=>q.vars+(i:Int))=(List.range k).map (fun (i:Nat)=>q.vars+(i:Int))++[(q.more k).vars]:=by rw[List.range_succ];simp[SP.more]
   exact Zae (k+1)
  ·obtain rfl:k=m:=by omega
   have hidx:((ls.length:Nat):Int) - 1=((k+1:Nat):Int):=by omega
   repeat (first|refine wk ?_)
   have hget:ls[k+1]=ls.getD (ls.length - 1) 0:=by rw[List.getD_eq_getElem?_getD,List.getElem?_eq_getElem (by omega)];simp;congr 1;omega
   have hrs:((List.range k).map (fun (i:Nat)=>q.vars+(i:Int))).map iD++[iD ls[k+1]]=(Zhm q.vars ls).map iD:=by
    rw[Zhm,hget,show ls.length - 2=k by omega,List.map_append];rfl
   have hrl2:(Zhm q.vars ls).length=k+1:=by rw[Zg5 _ (by omega)];omega
   have hrl3:((Zhm q.vars ls).map iD).length=k+1:=by simp[hrl2]
   rw[hrs,hrl3]
   generalize Zhm q.vars ls=rs at *
   have b1:(q.more k).rules.length=q.rules.length:=rfl
   have b2:(q.more k).frags.length=q.frags.length:=rfl
   have c1:(q.more k).rules.length≤100000:=by omega
   have c2:(q.more k).frags.length≤100000:=by omega
   repeat (first|refine wk ?_)
   refine Zab [] (hA:=Zc3) (hr:=?_)
   repeat (first|refine wk ?_)
   refine Zab [] (hA:=Zc3) (hr:=?_)
   repeat (first|refine wk ?_)
   refine Zab [] (hA:=Zts (s:=q.more k) (v:=v) (r:=r) (right:=[ls[0],rs[0]]) c1 c2) (hr:=?_)
   repeat (first|refine wk ?_)
   have ZgN:∀ (xs:List Int) (i:Nat) (h:i < xs.length),xs.getD i 0=xs[i]:=fun xs i h=>by rw[List.getD_eq_getElem?_getD,List.getElem?_eq_getElem h];rfl
   have hp1:(q.more k).rule v [ls[0],rs[0]] [.mk 1 r ZbY]=(q.more k).pairs v r ls rs 1:=by
    have:=SP.pairs_rule (q.more k) v r ls rs 0
    rw[if_pos rfl,if_pos rfl,ZgN ls 0 (by omega),ZgN rs 0 (by omega)] at this
    rw[←this];simp[SP.pairs,SP.more,Zi9,Zhn]
   rw[hp1]
   refine Zak (X:=Nat) (fun j=>1≤j∧j≤k+1) (fun j=>[(12,I j),(0,.ptr 1000 0),(1,I v),(2,I r),(8,.own 900 (k+2)),(11,.own 901 (k+1))])
    (fun j=>(900,.row 3 1 (ls.map iD))::(901,.row 3 1 (rs.map iD))::spH g ((q.more k).pairs v r ls rs j) (q.term.map iD)) (fun j=>k+1 - j) 1 (by omega) ?_
   rintro j ⟨hj1,hj2⟩
   by_cases hlj:j < k+1
   ·have hj0:(j:Int) - 1=((j - 1:Nat):Int):=by omega
    have hp2:((q.more k).pairs v r ls rs j).rule rs[j - 1] [ls[j],rs[j]] ZbY=(q.more k).pairs v r ls rs (j+1):=by
     have:=SP.pairs_rule (q.more k) v r ls rs j
     rwa [if_neg (by omega),if_neg (by omega),ZgN ls j (by omega),ZgN rs j (by omega),ZgN rs (j - 1) (by omega)] at this
    have d1:((q.more k).pairs v r ls rs j).rules.length≤100000:=by simp[SP.pairs,Zg3];omega
    have d2:((q.more k).pairs v r ls rs j).frags.length≤100000:=by simp[SP.pairs,Zg4];omega
    repeat (first|refine wk ?_)
    refine Zab [] (hA:=Zc3) (hr:=?_)
    repeat (first|refine wk ?_)
    refine Zab [] (hA:=Zc3) (hr:=?_)
    repeat (first|refine wk ?_)
    refine Zab [] (hA:=Ztt (s:=(q.more k).pairs v r ls rs j) (v:=rs[j - 1]) (right:=[ls[j],rs[j]]) d1 d2) (hr:=?_)
    repeat (first|refine wk ?_)
    rw[hp2]
    exact Zae (j+1)
   ·obtain rfl:j=k+1:=by omega
    repeat (first|refine wk ?_)
    exact fin
set_option maxRecDepth 100000
abbrev ZyW (g:Gram) (s:SP):Ob:=.box 171 [.d (iD s.vars),.d (iD g.terms),.d (iD g.start),.own 901 s.rules.length,.own 902 s.frags.length,.d nilT,.own 903 g.terms.toNat,.d (bD s.many)]
set_option maxHeartbeats 4000000 in
theorem Zf4 {t:Bool} {g:Gram} (hf:g.fit) :
  ACalls Tryz.prog 70 [.d (Za6 t g)] [] (.tup [.d (Zcf false (ZbZ g).1),.d (Zba (ZbZ g).2)]) []:=by
 refine ACalls.intro (n:=86) Tryz.func70 rfl rfl (by simp) (by rfl) ?_
 simp only[Zal]
 have hr1:=hf.rules
 have hr2:=hf.right
 repeat (first|refine wk ?_)
 refine Zab [] (hA:=ZaM) (hr:=?_)
 by_cases hc:(Zac g).code=0
 rotate_left
 ·rw[show ZbZ g=(zeroStep,Zac g) by rw[ZbZ,if_neg hc]]
  repeat (first|refine wk ?_)
  exact fin2
 have hg:=Za1 hc
 have hv1:=hg.vars1
 have hv2:=hg.vars
 have ht1:=hg.terms0
 have ht2:=hg.terms
 repeat (first|refine wk ?_)
 refine ZaB 16 3 901 68 2 rfl rfl rfl rfl ?_
 refine ZaB 16 4 902 75 1 rfl rfl rfl rfl ?_
 refine ZaB 16 6 903 3 1 rfl rfl rfl rfl ?_
 have ht0:((g.terms.toNat:Nat):Int)=g.terms:=by omega
 refine Zak (X:=Nat) (fun k=>k≤g.terms.toNat) (fun k=>[(30,I k),(29,.d (iD g.terms)),(5,.ptr 16 0),(3,.ptr 3 0),(2,.ptr 2 0),(1,.ptr 1 0)])
  (fun k=>[(16,.box 171 [.d (iD g.vars),.d (iD g.terms),.d (iD g.start),.own 901 0,.own 902 0,.d nilT,.own 903 k,.d (bD false)]),(901,.row 68 2 []),(902,.row 75 1 []),(903,.row 3 1 ((List.replicate k (-1:Int)).map iD)),(1,Zay t g),(2,Zbw false zeroStep),(3,.box 31 [.d (iD 0),.d (iD 0)])]) (fun k=>g.terms.toNat - k) 0 (Nat.zero_le _) ?_
 ·intro k hk
  have hrep:(List.replicate k (-1:Int)).length=k:=List.length_replicate
  by_cases hlt:(k:Int) < g.terms
  ·have e:List.replicate (k+1) (-1:Int)=List.replicate k (-1:Int)++[-1]:=List.replicate_succ'
   repeat (first|refine wk ?_)
   exact Zae (k+1)
  ·obtain rfl:k=g.terms.toNat:=by omega
   repeat (first|refine wk ?_)
   clear hrep hlt hk
   have hfit:=Zdy hg
   have hm0:bD false=bD (Za9 g).many:=by rw[hfit.2]
   rw[hm0]
   refine Zak (X:=Nat×SP) (fun x=>x.1≤g.rules.length∧ZbU (Za9 g) g.rules 0=ZbU x.2 (g.rules.drop x.1) x.1∧x.2.fit g∧x.2.many=false) (fun x=>[(45,I x.1),(44,I g.rules.length),(43,.d (ZaL t g.rules)),(5,.ptr 16 0),(3,.ptr 3 0),(2,.ptr 2 0)])
    (fun x=>[(16,ZyW g x.2),(901,.row 68 2 (x.2.rules.map (ZaR false))),(902,.row 75 1 (x.2.frags.map (Zah false))),(903,.row 3 1 (x.2.term.map iD)),(2,Zbw false zeroStep),(3,.box 31 [.d (iD 0),.d (iD 0)])]) (fun x=>g.rules.length - x.1) (0,Za9 g) ⟨Nat.zero_le _,rfl,hfit.1,hfit.2⟩ ?_
   rintro⟨i,s⟩ ⟨h1,h2,h3,h4⟩
   dsimp only at h1 h2 h3 h4 ⊢
   by_cases hlt:i < g.rules.length
   ·have hmem:=List.getElem_mem hlt
    have hrf:=hg.rule hmem
    have hone:=h3.one hg hlt hrf
    have hgo:ZbU s (g.rules.drop i) i=bif (s.one i g.rules[i]).many then .error i else ZbU (s.one i g.rules[i]) (g.rules.drop (i+1)) (i+1):=by
     rw[List.drop_eq_getElem_cons hlt,ZbU]
    have hb:=ZnX h4
    have hpl:=h3.parts.len
    have hrr:=hg.right _ hmem
    by_cases h5:g.rules[i].right.length < 2
    ·have e1:s.one i g.rules[i]=s.rule g.rules[i].left g.rules[i].right (ZaQ i (kids g.rules[i].right).length):=by rw[SP.one,if_pos h5]
     have hkl:=Za3 g.rules[i].right
     repeat (first|refine wk ?_)
     refine Zab [(3,905)] (hA:=Zb5) (hr:=?_)
     repeat (first|refine wk ?_)
     refine Zab [(20,906)] (hA:=Zed) (hr:=?_)
     repeat (first|refine wk ?_)
     refine Zab [(1000,16),(1001,901),(1002,902),(1003,903)] (hA:=ZhB (g:=g) (s:=s)) (hr:=?_)
     repeat (first|refine wk ?_)
     rw[e1] at hone hgo
     by_cases hm:(s.rule g.rules[i].left g.rules[i].right (ZaQ i (kids g.rules[i].right).length)).many=true
     ·rw[show ZbZ g=(zeroStep,⟨6,i⟩) by rw[ZbZ,if_pos hc,h2,hgo,hm];rfl]
      repeat (first|refine wk ?_)
      exact fin2
     ·rw[Bool.not_eq_true] at hm
      repeat (first|refine wk ?_)
      exact Zae (i+1,(s.rule g.rules[i].left g.rules[i].right (ZaQ i (kids g.rules[i].right).length))) (a:=⟨by dsimp only;omega,by rw[h2,hgo,hm];rfl,hone,hm⟩)
    ·have e1:s.one i g.rules[i]=s.split g.rules[i].left i g.rules[i].right:=by rw[SP.one,if_neg h5]
     have hlo:=hg.lo _ hmem
     have htl:=h3.tlen
     have hv:=h3.vars
     repeat (first|refine wk ?_)
     have h5':2≤g.rules[i].right.length:=by omega
     have b1:g.terms≤80000:=by omega
     have b2:0≤s.vars:=by omega
     have b3:s.vars≤80000:=by omega
     have b4:s.rules.length≤80000:=by omega
     have b5:s.frags.length≤80000:=by omega
     refine Zab [(1000,16),(1001,901),(1002,902),(1003,903)] (hA:=Ztu (s:=s) (g:=g) (r:=i) (v:=g.rules[i].left) (right:=g.rules[i].right) hlo h5' hrr htl b1 b2 b3 b4 b5) (hr:=?_)
     repeat (first|refine wk ?_)
     rw[e1] at hone hgo
     generalize s.split g.rules[i].left i g.rules[i].right=q at *
     by_cases hm:q.many=true
     ·rw[show ZbZ g=(zeroStep,⟨6,i⟩) by rw[ZbZ,if_pos hc,h2,hgo,hm];rfl]
      repeat (first|refine wk ?_)
      exact fin2
     ·rw[Bool.not_eq_true] at hm
      repeat (first|refine wk ?_)
      exact Zae (i+1,q) (a:=⟨by dsimp only;omega,by rw[h2,hgo,hm];rfl,hone,hm⟩)
   ·obtain rfl:i=g.rules.length:=by omega
    rw[show ZbZ g=(⟨⟨s.vars,g.terms,g.start,s.rules⟩,s.frags,[]⟩,⟨0,0⟩) by rw[ZbZ,if_pos hc,h2,List.drop_length];rfl]
    refine Zav 901 rfl ?_
    refine Zav 902 rfl ?_
    repeat (first|refine wk ?_)
    exact fin2
set_option maxRecDepth 100000
theorem ZgN {xs:List Int} {i:Nat} (h:i < xs.length):xs.getD i 0=xs[i]:=by rw[List.getD_eq_getElem?_getD,List.getElem?_eq_getElem h];rfl
set_option maxRecDepth 100000
abbrev Zwx (k:Nat) (ss:List Step):Hp:=[(k,.row 39 6 (ss.map (Zcf false)))]
set_option maxHeartbeats 4000000 in
theorem Ztv {t:Bool} {g:Gram} {ss:List Step} (hf:g.fit) (hs:∀ s∈ss,s.fit) (hl:ss.length≤100000000) :
  ACalls Tryz.prog 15 [.d (Za6 t g),.own 1000 ss.length] (Zwx 1000 ss) (.d (Za6 false (ZaE g ss))) (Zwx 1000 ss):=by
 refine ACalls.intro (n:=17) Tryz.func15 rfl rfl (by simp) (by rfl) ?_
 simp only[Zal]
 have hml:(ss.map (Zcf false)).length=ss.length:=List.length_map _
 by_cases h0:0 < ss.length
 ·obtain⟨n,hn⟩:∃ n,ss.length=n+1:=⟨ss.length - 1,by omega⟩
  have hlt:n < ss.length:=by omega
  have e:=ZpD g hn
  have hsf:=(hs _ (List.getElem_mem hlt)).g
  have ho:=ZfI (t:=false) hsf
  have ei:(ss.length:Int) - 1=(n:Int):=by omega
  rw[e]
  refine VA ?_
  rw[ei]
  refine VA ?_
  refine Zp3 TY rfl Zaf rfl (IsElt.stpO rfl (by simp) hlt) rfl rfl rfl rfl ?_
  refine VA ?_
  refine Zab [] (hA:=ho) (hr:=?_)
  repeat (first|refine Zav 900 rfl ?_|refine wk1 ?_|refine Zaa (hr:=?_))
  exact fin
 ·have:ss=[]:=List.eq_nil_of_length_eq_zero (by omega)
  subst this
  have ho:=ZfI (t:=t) hf
  rw[show ZaE g []=g from rfl]
  refine VA ?_
  refine Zab [] (hA:=ho) (hr:=?_)
  repeat (first|refine Zav 900 rfl ?_|refine wk1 ?_|refine Zaa (hr:=?_))
  exact fin
def pasT (k:Int) (g:Gram):Step×Fault:=if k=4 then ZbZ g else Ze0 g
set_option maxHeartbeats 4000000 in
theorem ZvL {k:Int} (hk:k=4∨k=6) {g:Gram} (hf:g.fit):ACalls Tryz.prog 37 [I k,.d (Za6 false g)] [] (.tup [.d (Zcf false (pasT k g).1),.d (Zba (pasT k g).2)]) []:=by
 refine ACalls.intro (n:=45) Tryz.func37 rfl rfl (by simp) (by rfl) ?_
 simp only[Zal]
 have h1:=Zf4 (t:=false) hf
 have h2:=ZgZ hf
 unfold pasT
 rcases hk with rfl|rfl
 ·rw[if_pos rfl]
  refine VA ?_
  refine Zab [] (hA:=h1) (hr:=?_)
  refine VA ?_
  exact fin2
 ·rw[if_neg (by decide)]
  refine VA ?_
  refine Zab [] (hA:=h2) (hr:=?_)
  refine VA ?_
  exact fin2
theorem ZvM {P:Int→Gram→Step×Fault} {g:Gram} {ks:List Int} {i:Nat} {out:List Step} (h:i < ks.length):mkC P g (ks.drop i) i out=if ¬ (P ks[i] (ZaE g out)).2.code=0 then ([],⟨(P ks[i] (ZaE g out)).2.code,(i:Int)⟩) else mkC P g (ks.drop (i+1)) (i+1) (out++[(P ks[i] (ZaE g out)).1]):=by
 conv=>lhs;rw[List.drop_eq_getElem_cons h,mkC]
set_option maxHeartbeats 4000000 in
theorem ZjX {t u:Bool} {P:Int→Gram→Step×Fault} {g:Gram} {ks:List Int} (hf:g.fit) (hk:ks.length≤100000000)
  (hp:∀ k∈ks,∀ g:Gram,g.fit→ACalls Tryz.prog 37 [I k,.d (Za6 false g)] [] (.tup [.d (Zcf false (P k g).1),.d (Zba (P k g).2)]) []∧(P k g).1.fit) :
  ACalls Tryz.prog 11 [.d (Za6 t g),.d (ints u ks)] [] (.tup [.d (ZcR false false (Za5 P g ks).1),.d (Zba (Za5 P g ks).2)]) []:=by
 refine ACalls.intro (n:=51) Tryz.func11 rfl rfl (by simp) (by rfl) ?_
 simp only[Zal]
 have hgc:=ZaM (t:=t) hf.rules hf.right
 have hr:∃ r,Za5 P g ks=r:=⟨_,rfl⟩
 obtain⟨r,hr⟩:=hr
 rw[hr]
 unfold Za5 at hr
 by_cases h0:(Zac g).code=0
 ·rw[if_neg (fun q=>q h0)] at hr
  by_cases h8:8 < ks.length
  ·rw[if_pos h8] at hr
   subst hr
   refine VA ?_
   refine Zab [] (hA:=hgc) (hr:=?_)
   refine VA ?_
   exact fin
  ·rw[if_neg h8] at hr
   refine VA ?_
   refine Zab [] (hA:=hgc) (hr:=?_)
   refine VA ?_
   refine Zbi 7 907 39 6 rfl rfl rfl ?_
   refine VA ?_
   refine Zak (X:=Nat×List Step) (fun y=>y.1≤ks.length∧y.2.length=y.1∧(∀ s∈y.2,s.fit)∧mkC P g (ks.drop y.1) y.1 y.2=r) (fun y=>[(24,I y.1),(23,I ks.length),(22,.d (ints u ks)),(7,.own 907 y.2.length),(2,.ptr 2 0),(5,.ptr 5 0)]) (fun y=>[(907,.row 39 6 (y.2.map (Zcf false))),(2,Zay t g),(5,.box 31 [.d (iD 0),.d (iD 0)])]) (fun y=>ks.length - y.1) (0,[]) ⟨Nat.zero_le _,rfl,(fun s h=>by cases h),hr⟩ ?_
   rintro⟨i,out⟩ ⟨i1,i2,i3,i4⟩
   dsimp only at i1 i2 i3 i4 ⊢
   by_cases hlt:i < ks.length
   ·have hla:=Ztv (t:=t) hf i3 (by omega)
    obtain⟨hps,hpf⟩:=hp ks[i] (List.getElem_mem hlt) _ (ZdP hf i3)
    rw[ZvM hlt] at i4
    generalize P ks[i] (ZaE g out)=S at *
    obtain⟨s,fc,fa⟩:=S
    dsimp only at i4 hps hpf
    by_cases hc:fc=0
    ·rw[if_neg (fun q=>q hc)] at i4
     have ec:out.map (Zcf false)++[.agg [iD s.g.vars,iD s.g.terms,iD s.g.start,ZaL false s.g.rules,.sl false 1 (s.frags.map (Zah false)),Zap false s.empty]]=(out++[s]).map (Zcf false):=by rw[List.map_append];rfl
     refine VA ?_
     refine Zab [(1000,907)] (hA:=hla) (hr:=?_)
     refine VA ?_
     refine Zab [] (hA:=hps) (hr:=?_)
     refine VA ?_
     rw[ec]
     exact Zae (i+1,out++[s]) (a:=⟨by dsimp only;omega,by simp[i2],fun x hx=>by
      rcases List.mem_append.1 hx with hx|hx
      ·exact i3 x hx
      ·rw[List.mem_singleton.1 hx];exact hpf,i4⟩) (b:=by dsimp only;omega)
    ·rw[if_pos hc] at i4
     subst i4
     refine VA ?_
     refine Zab [(1000,907)] (hA:=hla) (hr:=?_)
     refine VA ?_
     refine Zab [] (hA:=hps) (hr:=?_)
     refine VA ?_
     exact fin
   ·have hi:i=ks.length:=by omega
    subst hi
    rw[List.drop_length,mkC] at i4
    subst i4
    refine Zav 907 rfl ?_
    refine VA ?_
    exact fin
 ·rw[if_pos h0] at hr
  subst hr
  refine VA ?_
  refine Zab [] (hA:=hgc) (hr:=?_)
  refine VA ?_
  exact fin
def rOk (K:List Bool) (r:Rule):Bool:=has K r.left && Zcn (kids r.right) K
def ZbV (g:Gram):List Bool:=ZaT true g
def Zxi (g:Gram):List Rule:=g.rules.filter (rOk (ZbV g))
def subG (g:Gram):Gram:=⟨g.vars,g.terms,g.start,if has (ZbV g) g.start=true then Zxi g else []⟩
def ZaI (g:Gram):List Bool:=Zcr (subG g)
def stay (g:Gram) (r:Rule):Bool:=has (ZbV g) g.start && (rOk (ZbV g) r && has (ZaI g) r.left)
def rk (K:List Bool) (v:Int):Int:=(ZdZ (setN K) v.toNat).length
def Zbe (K:List Bool) (s:Int):Int:=if 0≤s then rk K s else s
def Zq1 (K:List Bool) (r:Rule):Rule:=⟨rk K r.left,r.right.map (Zbe K)⟩
def Zbu (g:Gram) (rs:List Rule):List Rule:=(rs.filter (stay g)).map (Zq1 (ZaI g))
def Zbh (g:Gram):List Rule→Nat→List (List Frag)
 | [],_=>[]
 | r::rs,i=>if stay g r=true then ZaQ i (kids r.right).length::Zbh g rs (i+1) else Zbh g rs (i+1)
def ZbH (g:Gram):Step:=⟨⟨(Za2 (ZaI g)).length,g.terms,rk (ZaI g) g.start,Zbu g g.rules⟩,Zbh g g.rules 0,[]⟩
def Zf5 (g:Gram):Step×Fault:=if (Zac g).code=0 then (ZbH g,⟨0,0⟩) else (zeroStep,Zac g)
theorem Ziu {g:Gram} {rs:List Rule} {i:Nat} (h:i < rs.length):Zbu g (rs.take (i+1))=Zbu g (rs.take i)++(if stay g rs[i]=true then [Zq1 (ZaI g) rs[i]] else []):=by
 rw[List.take_succ_eq_append_getElem h,Zbu,Zbu,List.filter_append,List.map_append]
 congr 1
 by_cases hs:stay g rs[i]=true <;> simp[hs]
theorem Zf6 (g:Gram):∀ (a b:List Rule) (i:Nat),Zbh g (a++b) i=Zbh g a i++Zbh g b (i+a.length)
 | [],b,i=>by simp[Zbh]
 | r::a,b,i=>by
  simp only[List.cons_append,Zbh,Zf6 g a b (i+1),List.length_cons]
  rw[show i+1+a.length=i+(a.length+1) by omega]
  split <;> rfl
theorem Ziv {g:Gram} {rs:List Rule} {i:Nat} (h:i < rs.length):Zbh g (rs.take (i+1)) 0=Zbh g (rs.take i) 0++(if stay g rs[i]=true then [ZaQ i (kids rs[i].right).length] else []):=by
 rw[List.take_succ_eq_append_getElem h,Zf6]
 congr 1
 simp only[Zbh,List.length_take,Nat.zero_add]
 rw[Nat.min_eq_left (by omega)]
theorem tLen (g:Gram):∀ (rs:List Rule) (i:Nat),(Zbh g rs i).length=(Zbu g rs).length
 | [],_=>rfl
 | r::rs,i=>by
  have ih:=tLen g rs (i+1)
  unfold Zbu at ih ⊢
  rw[Zbh]
  by_cases hs:stay g r=true
  ·rw[if_pos hs,List.filter_cons_of_pos hs];simp only[List.map_cons,List.length_cons,ih]
  ·rw[if_neg hs,List.filter_cons_of_neg hs];exact ih
theorem Ziw (K:List Bool):Za2 K=ZdZ (setN K) K.length:=(ZlK (Nat.le_refl _)).symm
theorem Zoe (s:Nat) {n m:Nat} (h:n≤m):∃ r,ZdZ s m=ZdZ s n++r:=by
 obtain⟨d,rfl⟩:∃ d,m=n+d:=⟨m - n,by omega⟩
 clear h
 induction d with
 | zero=>exact⟨[],by simp⟩
 | succ d ih =>
  obtain⟨r,hr⟩:=ih
  exact⟨r++(if s.testBit (n+d)=true then [((n+d:Nat):Int)] else []),by rw[←Nat.add_assoc,ZdJ,hr,List.append_assoc]⟩
theorem ZvN {s n:Nat} {x:Int} (h:x∈ZdZ s n):0≤x∧x < n:=by
 unfold ZdZ at h
 obtain⟨k,hk,rfl⟩:=List.mem_map.1 h
 have:=List.mem_range.1 (List.mem_filter.1 hk).1
 omega
theorem ZpK {K:List Bool} {v:Int} (h:has K v=true):∃ r,Za2 K=ZdZ (setN K) v.toNat++v::r:=by
 obtain⟨h0,h1⟩:=Ze6 h
 obtain⟨k,rfl⟩:∃ k:Nat,v=(k:Int):=⟨v.toNat,by omega⟩
 obtain⟨r,hr⟩:=Zoe (setN K) (show k+1≤K.length by omega)
 rw[Zbl] at h
 rw[ZdJ (setN K) k,ZbM,h,if_pos rfl,List.append_assoc] at hr
 exact⟨r,by rw[Ziw,hr];rfl⟩
theorem ZpL {p:Int→Bool} {x:Int} {r:List Int} (hx:p x=true):∀ (a:List Int) (i:Nat),(∀ y∈a,p y=false)→idxR p (a++x::r) i=((i+a.length:Nat):Int)
 | [],i,_=>by simp[idxR,hx]
 | y::a,i,h=>by
  rw[List.cons_append,idxR,h y (by simp),cond_false,ZpL hx a (i+1) (fun z hz=>h z (by simp[hz]))]
  congr 1
  simp only[List.length_cons];omega
theorem Zys {K:List Bool} {v:Int} (h:has K v=true):idxR (fun y=>decide (v=y)) (Za2 K) 0=rk K v:=by
 obtain⟨r,hr⟩:=ZpK h
 have h0:=(Ze6 h).1
 rw[hr,ZpL (by simp) _ _ (fun y hy=>decide_eq_false (by have:=(ZvN hy).2;omega))]
 simp[rk]
theorem Zxj {K:List Bool} {v:Int} (h:has K v=true):0≤rk K v∧rk K v < (Za2 K).length:=by
 obtain⟨r,hr⟩:=ZpK h
 rw[hr,rk];simp;omega
theorem ZmL (K:List Bool):∀ xs:List Int,(kids (xs.map (Zbe K))).length=(kids xs).length
 | []=>rfl
 | x::xs=>by
  have ih:=ZmL K xs
  unfold kids at ih ⊢
  rw[List.map_cons]
  by_cases h:0≤x
  ·have h2:0≤Zbe K x:=by rw[Zbe,if_pos h];unfold rk;omega
   rw[List.filter_cons_of_pos (by simpa using h2),List.filter_cons_of_pos (by simpa using h)]
   simp[ih]
  ·have h2:¬ 0≤Zbe K x:=by rw[Zbe,if_neg h];exact h
   rw[List.filter_cons_of_neg (by simpa using h2),List.filter_cons_of_neg (by simpa using h)]
   exact ih
theorem ZgO {g:Gram} (hg:g.ok):(subG g).ok:=by
 have hs:∀ r∈(subG g).rules,r∈g.rules:=fun r hr=>by
  unfold subG at hr
  dsimp only at hr
  split at hr
  ·exact (List.mem_filter.1 hr).1
  ·cases hr
 have hl:(subG g).rules.length≤g.rules.length:=by
  unfold subG
  dsimp only
  split
  ·exact List.length_filter_le _ _
  ·simp
 have:=hg.rules
 exact⟨hg.vars1,hg.vars,hg.terms0,hg.terms,hg.start0,hg.start,by omega,fun r hr=>hg.right r (hs r hr),fun r hr=>hg.left0 r (hs r hr),fun r hr=>hg.left r (hs r hr),fun r hr=>hg.lo r (hs r hr),fun r hr=>hg.hi r (hs r hr)⟩
theorem ZeP (g:Gram):(ZaI g).length=g.vars.toNat:=Zd2 (subG g)
theorem ZeQ {g:Gram} (hg:g.ok):has (ZaI g) g.start=true:=ZkH (ZgO hg)
theorem Zix {g:Gram} (hg:g.ok) {r:Rule} (hr:r∈g.rules) (hs:stay g r=true):∀ v∈kids r.right,has (ZaI g) v=true:=by
 simp only[stay,Bool.and_eq_true] at hs
 refine Zme (ZgO hg) r ?_ hs.2.2
 show r∈(if has (ZbV g) g.start=true then Zxi g else [])
 rw[if_pos hs.1]
 exact List.mem_filter.2 ⟨hr,hs.2.1⟩
theorem ZjY {g:Gram} (hg:g.ok):∀ (rs:List Rule) (i:Nat),(∀ r∈rs,r∈g.rules)→i+rs.length≤g.rules.length→Zd3 g (Zbh g rs i) (Zbu g rs)
 | [],_,_,_=>.nil
 | r::rs,i,h,hi=>by
  simp only[List.length_cons] at hi
  have ih:=ZjY hg rs (i+1) (fun q hq=>h q (by simp[hq])) (by omega)
  unfold Zbu at ih ⊢
  rw[Zbh]
  by_cases hs:stay g r=true
  ·rw[if_pos hs,List.filter_cons_of_pos hs,List.map_cons]
   refine .cons ?_ ih
   have hk:=ZmL (ZaI g) r.right
   have h10:=hg.right r (h r (by simp))
   have hkl:=Za3 r.right
   show Zax g (ZaQ i (kids r.right).length) (r.right.map (Zbe (ZaI g)))=0
   rw[←hk]
   exact Zic (by omega) (by omega)
  ·rw[if_neg hs,List.filter_cons_of_neg hs];exact ih
theorem ZjZ {g:Gram} (hg:g.ok):(ZbH g).g.ok:=by
 have hl:=ZcX (ZaI g)
 have hkl:=ZeP g
 have hv:=hg.vars
 have hs:=Zxj (ZeQ hg)
 have hm:∀ r∈(ZbH g).g.rules,∃ q∈g.rules,stay g q=true∧r=Zq1 (ZaI g) q:=fun r hr=>by
  obtain⟨q,hq,rfl⟩:=List.mem_map.1 hr
  obtain⟨h1,h2⟩:=List.mem_filter.1 hq
  exact⟨q,h1,h2,rfl⟩
 have hrl:(ZbH g).g.rules.length≤g.rules.length:=by
  show ((g.rules.filter (stay g)).map (Zq1 (ZaI g))).length≤_
  rw[List.length_map];exact List.length_filter_le _ _
 have:=hg.rules
 have hK:(ZbH g).g.vars=((Za2 (ZaI g)).length:Int):=rfl
 have hleft:∀ r∈(ZbH g).g.rules,0≤r.left∧r.left < (ZbH g).g.vars:=fun r hr=>by
  obtain⟨q,h1,h2,rfl⟩:=hm r hr
  simp only[stay,Bool.and_eq_true] at h2
  exact Zxj h2.2.2
 have hsym:∀ r∈(ZbH g).g.rules,∀ s∈r.right, -g.terms≤s∧s < (ZbH g).g.vars:=fun r hr s hs=>by
  obtain⟨q,h1,h2,rfl⟩:=hm r hr
  obtain⟨x,hx,rfl⟩:=List.mem_map.1 hs
  have ht:=hg.terms0
  by_cases h0:0≤x
  ·rw[Zbe,if_pos h0]
   have:=Zxj (Zix hg h1 h2 x (by simp[kids,hx,h0]))
   rw[hK];omega
  ·rw[Zbe,if_neg h0]
   have:=hg.lo q h1 x hx
   rw[hK];omega
 refine⟨by rw[hK];omega,by rw[hK];omega,hg.terms0,hg.terms,hs.1,hs.2,by omega,fun r hr=>?_,fun r hr=>(hleft r hr).1,fun r hr=>(hleft r hr).2,fun r hr s hs=>(hsym r hr s hs).1,fun r hr s hs=>(hsym r hr s hs).2⟩
 obtain⟨q,h1,h2,rfl⟩:=hm r hr
 show (q.right.map _).length≤10
 rw[List.length_map];exact hg.right q h1
theorem Ztw {g:Gram} (hg:g.ok):Zar g (ZbH g)=⟨0,0⟩ :=
 Zib hg (ZjZ hg) rfl (ZjY hg g.rules 0 (fun _ h=>h) (by omega))
theorem Zxk (K:List Bool):rk K ((0:Nat):Int)=0:=by simp[rk,ZdZ]
theorem Zxl (K:List Bool) (k:Nat):rk K ((k+1:Nat):Int)=rk K (k:Int)+(if has K k=true then 1 else 0):=by
 unfold rk
 rw[Int.toNat_natCast,Int.toNat_natCast,ZdJ,Zbl,ZbM]
 split <;> simp
theorem Zyt (K:List Bool):rk K (K.length:Nat)=(Za2 K).length:=by rw[rk,Int.toNat_natCast,Ziw]
theorem Ztx {K:List Bool} {s:Nat} (h:∀ v:Int,has K v=true↔v=s):∀ k:Nat,rk K (k:Int)=if k≤s then 0 else 1
 | 0=>by rw[Zxk];simp
 | k+1=>by
  rw[Zxl,Ztx h k]
  by_cases e:k=s
  ·subst e
   have ht:has K (k:Int)=true:=(h _).2 rfl
   rw[if_pos ht,if_pos (Nat.le_refl _),if_neg (by omega)];rfl
  ·have hf:¬ has K (k:Int)=true:=fun hh=>e (by have:=(h _).1 hh;omega)
   rw[if_neg hf]
   by_cases h2:k≤s
   ·rw[if_pos h2,if_pos (by omega)];rfl
   ·rw[if_neg h2,if_neg (by omega)];rfl
section
variable {g:Gram} (hg:g.ok)
include hg
theorem ZvO (hs:¬ has (ZbV g) g.start=true):∀ v:Int,has (ZaI g) v=true↔v=g.start.toNat:=by
 have hst:=hg.start0
 have hst2:=hg.start
 intro v
 constructor
 ·intro h
  have h1:Sub (ZaI g) (put (Zd0 g) g.start):=ZkI (by rw[ZbN,Zbb];rfl) (by show has (put (Zd0 g) g.start) g.start=true;rw[Zew hst (by rw[Zbb];omega)];simp) (fun r hr=>by
   have:(subG g).rules=[]:=by
    show (if has (ZbV g) g.start=true then Zxi g else [])=[]
    rw[if_neg hs]
   rw[this] at hr;cases hr)
  have h2:=h1.sub v h
  rw[Zew hst (by rw[Zbb];omega),ZkE] at h2
  have h3:v=g.start:=by simpa using h2
  omega
 ·rintro rfl
  rw[show ((g.start.toNat:Nat):Int)=g.start by omega]
  exact ZeQ hg
theorem Zxm (hs:¬ has (ZbV g) g.start=true):(ZbH g).g=⟨1,g.terms,0,[]⟩:=by
 have hk:=ZvO hg hs
 have hst:=hg.start0
 have hst2:=hg.start
 have h1:=Zyt (ZaI g)
 have hkl:=ZeP g
 rw[hkl,Ztx hk,if_neg (by omega)] at h1
 have h2:=Ztx hk g.start.toNat
 rw[if_pos (Nat.le_refl _),show ((g.start.toNat:Nat):Int)=g.start by omega] at h2
 have h3:Zbu g g.rules=[]:=by
  have:g.rules.filter (stay g)=[]:=List.filter_eq_nil_iff.2 (fun r hr=>by
   simp only[stay,Bool.and_eq_true]
   exact fun h=>hs h.1)
  rw[Zbu,this];rfl
 show Gram.mk _ _ _ _=_
 rw[←h1,h2,h3]
end
end Go.Proofs.YtbpmepgnjanhnaaGreat
