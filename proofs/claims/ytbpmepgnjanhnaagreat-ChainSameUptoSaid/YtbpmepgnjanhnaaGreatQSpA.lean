import Derived.Test.YtbpmepgnjanhnaaGreatQFactorD
set_option linter.unusedVariables false
set_option linter.unusedSimpArgs false
set_option linter.unusedSectionVars false
set_option maxHeartbeats 4000000
set_option maxRecDepth 100000
namespace Go.Proofs.YtbpmepgnjanhnaaGreat
open Go.RowKit
abbrev spHr (g:Ac) (v:Int) (R F:List D) (n1 n2:Nat) (many:Bool) (tm:List D):Hp:=[(1000,.box 171 [.d (iD v),.d (iD g.terms),.d (iD g.start),.own 1001 n1,.own 1002 n2,.d nilT,.own 1003 g.terms.toNat,.d (bD many)]),(1001,.row 68 2 R),(1002,.row 75 1 F),(1003,.row 3 1 tm)]
abbrev spH (g:Ac) (s:SP) (tm:List D):Hp:=spHr g s.vars (s.Aa.map (Za3 false)) (s.frags.map (Zah false)) s.Aa.length s.frags.length s.many tm
theorem ZmM (s:SP):s.fresh.many=(s.many || decide (s.vars=64)):=by
 have h:s.fresh.vars=s.vars+1:=rfl;have h2:s.fresh.Aa=s.Aa:=rfl;rw[GX];simp only[SP.many,h,h2,Gj,HZ];constructor <;> (intro h3;omega)
theorem Zx9 (s:SP) (v:Int) (right:List Int) (l:List Ad):(s.rule v right l).many=(s.many || decide ((s.Aa.length:Int)=160)):=by
 have h:(s.rule v right l).vars=s.vars:=rfl;have h2:(s.rule v right l).Aa.length=s.Aa.length+1:=by simp[SP.rule]
 rw[GX];simp only[SP.many,h,h2,Gj,HZ];constructor <;> (intro h3;omega)
theorem ZdV {k:Int}:Af Tryz.prog 192 [I k] [] (.d (.agg [iD 2,iD k,nilT])) []:=by
 refine Af.intro (n:=5) Tryz.func192 (hw:=?_);simp only[Zal];refine VA ?_;exact fin
theorem Zqc {g:Ac} {s:SP} {tm:List D} (h0:0≤s.vars:=by exact Vm) (h1:s.vars≤100000:=by exact Vm) :
  Af Tryz.prog 191 [.ptr 1000 0] (spH g s tm) (I s.vars) (spH g s.fresh tm):=by
 refine Af.intro (n:=37) Tryz.func191 (hw:=?_);simp only[Zal];have e0:s.vars+1 - 1=s.vars:=by omega
 cases hm:s.many with
 | true =>
  rw[show spH g s.fresh tm=spHr g (s.vars+1) (s.Aa.map (Za3 false)) (s.frags.map (Zah false)) s.Aa.length s.frags.length true tm by simp only[spH,ZmM,hm];rfl];refine VA ?_;exact fin
 | false =>
  rw[show spH g s.fresh tm=spHr g (s.vars+1) (s.Aa.map (Za3 false)) (s.frags.map (Zah false)) s.Aa.length s.frags.length (decide (s.vars=64)) tm by simp only[spH,ZmM,hm];rfl];refine VA ?_;exact fin
theorem ZjN {g:Ac} {s:SP} {tm:List D} {v:Int} {right:List Int} {l:List Ad} (h1:s.Aa.length≤100000:=by exact Vm) (h2:s.frags.length≤100000:=by exact Vm) :
  Af Tryz.prog 125 [.ptr 1000 0,I v,.d (ints false right),.d (Zah false l)] (spH g s tm) (.tup []) (spH g (s.rule v right l) tm):=by
 refine Af.intro (n:=53) Tryz.func125 (hw:=?_);simp only[Zal];have hH:spH g (s.rule v right l) tm=spHr g s.vars (s.Aa.map (Za3 false)++[.agg [iD v,ints false right]]) (s.frags.map (Zah false)++[Zah false l]) (s.Aa.map (Za3 false)++[D.agg [iD v,ints false right]]).length (s.frags.map (Zah false)++[Zah false l]).length (s.many || decide ((s.Aa.length:Int)=160)) tm:=by
  rw[←Zx9 s v right l];simp[SP.rule,Za3]
 rw[hH];cases hm:s.many with
 | true =>
  refine VA ?_;exact fin
 | false =>
  refine VA ?_;exact fin
theorem Zya {g:Ac} {s:SP} {tm:List D} {v:Int} {right:List Int} (h1:s.Aa.length≤100000:=by exact Vm) (h2:s.frags.length≤100000:=by exact Vm) :
  Af Tryz.prog 125 [.ptr 1000 0,I v,.d (ints false right),.d nilT] (spH g s tm) (.tup []) (spH g (s.rule v right []) tm) :=
 (ZjN (l:=[]) h1 h2).le ⟨.refl _,.refl _,.refl _,.nil _ _,trivial⟩
theorem SP.lift_new {s:SP} {x:Int} {k:Nat} (hk : -1 - x=(k:Int)) (hl:k < s.term.length) (h1:s.term[k] < 0) :
  s.lift x=SP.rule ⟨s.vars+1,s.Aa,s.frags,s.term.set k s.vars⟩ s.vars [x] []∧s.lifted x=s.vars:=by
 have e:(-1 - x).toNat=k:=by omega
 have e2:s.lift x=SP.rule ⟨s.vars+1,s.Aa,s.frags,s.term.set k s.vars⟩ s.vars [x] []:=by
  rw[SP.lift,Ha (by omega),e,Hf,Hj hl,HW,Hb h1];rfl
 refine⟨e2,?_⟩;rw[SP.lifted,Ha (by omega),e2,e];simp[SP.rule,Hf,hl]
theorem SP.lift_old {s:SP} {x:Int} {k:Nat} (hk : -1 - x=(k:Int)) (hl:k < s.term.length) (h1:¬ s.term[k] < 0) :
  s.lift x=s∧s.lifted x=s.term[k]:=by
 have e:(-1 - x).toNat=k:=by omega
 have e2:s.lift x=s:=by
  rw[SP.lift,Ha (by omega),e,Hf,Hj hl,HW,Ha h1]
 refine⟨e2,?_⟩;rw[SP.lifted,Ha (by omega),e2,e,Hf,Hj hl];rfl
theorem ZA2 {g:Ac} {s:SP} {x:Int} (hx : -g.terms≤x:=by exact Vm) (ht:(s.term.length:Int)=g.terms:=by exact Vm) (ht4:g.terms≤90000:=by exact Vm) (h0:0≤s.vars:=by exact Vm) (h1:s.vars≤90000:=by exact Vm) (h2:s.Aa.length≤90000:=by exact Vm) (h3:s.frags.length≤90000:=by exact Vm) :
  Af Tryz.prog 190 [.ptr 1000 0,I x] (spH g s (s.term.map iD)) (I (s.lifted x)) (spH g (s.lift x) ((s.lift x).term.map iD)):=by
 refine Af.intro (n:=46) Tryz.func190 (hw:=?_);simp only[Zal];by_cases hp:0≤x
 ·rw[show s.lift x=s by rw[SP.lift,Hb hp],show s.lifted x=x by rw[SP.lifted,Hb hp]]
  (try refine wk ?_)
  exact fin
 obtain⟨k,hk⟩:∃ k:Nat, -1 - x=(k:Int):=⟨(-1 - x).toNat,by omega⟩
 have hl:k < s.term.length:=by omega
 have hlt:k < g.terms.toNat:=by omega
 have hlm:(s.term.map iD).length=g.terms.toNat:=by simp;omega
 by_cases hn:s.term[k] < 0
 ·obtain⟨e1,e2⟩:=SP.lift_new hk hl hn;have e3:(s.term.map iD).set k (D.raw (.int .i64 s.vars))=(s.term.set k s.vars).map iD:=by rw[GN];rfl
  have hlm2:((s.term.set k s.vars).map iD).length=g.terms.toNat:=by simp;omega
  have hl2:k < (s.term.set k s.vars).length:=by simpa using hl
  have e4:(s.term.set k s.vars)[k]=s.vars:=by simp
  have f1:s.fresh.Aa.length≤100000:=by show s.Aa.length≤_;omega
  have f2:s.fresh.frags.length≤100000:=by show s.frags.length≤_;omega
  rw[e1,e2];repeat (first|refine Zlp TY (d:=19) (by exact rfl) Zag (by exact rfl) (by exact rfl) (by exact rfl) (by exact rfl) (by exact rfl) ?_|refine ZxM TY (d:=20) (by exact rfl) Zag (by exact rfl) (by exact rfl) (by exact rfl) (by exact rfl) (by exact rfl) (by exact rfl) ?_|refine wk1 ?_)
  refine Zab [] (hA:=Zqc) (hr:=?_)
  (try refine wk ?_)
  refine ZxN (u:=[(1003,_),(1000,_),(1001,_),(1002,_),(1003,_)]) ?_ rfl ?_
  rotate_left
  ·intro q hq e;simp only[Gq,GB,or_false] at hq;rcases hq with rfl|rfl|rfl|rfl|rfl
   ·simp at e
   ·exact⟨_,_,rfl,rfl⟩
   ·simp at e
   ·simp at e
   ·simp at e
  rw[e3]
  (try refine wk ?_)
  rw[e4];refine Zab [] (hA:=Zya (s:=s.fresh) (v:=s.vars) (right:=[x])) (hr:=?_)
  (try refine wk ?_)
  rw[e4,show spH g (SP.rule ⟨s.vars+1,s.Aa,s.frags,s.term.set k s.vars⟩ s.vars [x] []) ((SP.rule ⟨s.vars+1,s.Aa,s.frags,s.term.set k s.vars⟩ s.vars [x] []).term.map iD)=spH g (s.fresh.rule s.vars [x] []) ((s.term.set k s.vars).map iD) from rfl];exact fin
 ·obtain⟨e1,e2⟩:=SP.lift_old hk hl hn;rw[e1,e2]
  (try refine wk ?_)
  exact fin
theorem SP.lift_small (s:SP) (x:Int):s.vars≤(s.lift x).vars∧(s.lift x).vars≤s.vars+1∧(s.lift x).Aa.length≤s.Aa.length+1∧(s.lift x).frags.length≤s.frags.length+1:=by
 unfold SP.lift;split
 ·omega
 ·split
  ·simp;omega
  ·omega
theorem SP.lifts_small:∀ (l:List Int) (s:SP),s.vars≤(s.lifts l).vars∧(s.lifts l).vars≤s.vars+l.length∧(s.lifts l).Aa.length≤s.Aa.length+l.length∧(s.lifts l).frags.length≤s.frags.length+l.length
 | [],s=>by simp[SP.lifts]
 | x::l,s=>by
  have h1:=s.lift_small x;have h2:=SP.lifts_small l (s.lift x);simp only[SP.lifts,Hl];omega
theorem SP.lifts_term:∀ (l:List Int) (s:SP),(s.lifts l).term.length=s.term.length
 | [],s=>rfl
 | x::l,s=>by rw[SP.lifts,SP.lifts_term l,SP.lift_term]
theorem SP.lifteds_snoc (s:SP) (l:List Int) (x:Int):s.lifteds (l++[x])=s.lifteds l++[(s.lifts l).lifted x]:=by rw[SP.lifteds_append];rfl
theorem SP.lifts_snoc (s:SP) (l:List Int) (x:Int):s.lifts (l++[x])=(s.lifts l).lift x:=by rw[SP.lifts_append];rfl
def SP.more (s:SP) (n:Nat):SP:=⟨s.vars+n,s.Aa,s.frags,s.term⟩
theorem SP.more_fresh (s:SP) (n:Nat):(s.more n).fresh=s.more (n+1):=by simp[SP.more,SP.fresh];omega
def SP.pairs (s:SP) (v r:Int) (l rs:List Int) (k:Nat):SP:=⟨s.vars,s.Aa++Zjw v l rs k,s.frags++Zhz r k,s.term⟩
theorem SP.pairs_rule (s:SP) (v r:Int) (l rs:List Int) (k:Nat):(s.pairs v r l rs k).rule (if k=0 then v else rs.getD (k - 1) 0) [l.getD k 0,rs.getD k 0] (if k=0 then [.mk 1 r ZbP] else ZbP)=s.pairs v r l rs (k+1):=by
 simp[SP.pairs,SP.rule,Zjw,Zhz]
theorem ZtA:Zah false ZbP=.sl false 3 [.agg [iD 2,iD 0,Zah false []],.agg [iD 2,iD 1,Zah false []]]:=by simp[ZbP,Zah,ZaN,ZeD]
abbrev Zyb (k:Int):D:=.agg [iD 2,iD k,nilT]
theorem ZjO (k:Int):DLe (Zyb k) (.agg [iD 2,iD k,Zah false []]):=.agg (.cons (.refl _) (.cons (.refl _) (.cons (.nil _ _) .nil)))
theorem Zyc {g:Ac} {s:SP} {tm:List D} {v r:Int} {right:List Int} (h1:s.Aa.length≤100000:=by exact Vm) (h2:s.frags.length≤100000:=by exact Vm) :
  Af Tryz.prog 125 [.ptr 1000 0,I v,.d (ints false right),.d (.sl false 3 [.agg [iD 1,iD r,.sl false 3 [Zyb 0,Zyb 1]]])] (spH g s tm) (.tup []) (spH g (s.rule v right [.mk 1 r ZbP]) tm):=by
 have h:=ZjN (g:=g) (s:=s) (tm:=tm) (v:=v) (right:=right) (l:=[.mk 1 r ZbP]) h1 h2;rw[show Zah false [.mk 1 r ZbP]=.sl false 3 [.agg [iD 1,iD r,Zah false ZbP]] by simp[Zah,ZaN,Zcq],ZtA] at h;exact h.le ⟨.refl _,.refl _,.refl _,.sl (.cons (.agg (.cons (.refl _) (.cons (.refl _) (.cons (.sl (.cons (ZjO _) (.cons (ZjO _) .nil))) .nil)))) .nil),trivial⟩
theorem Zyd {g:Ac} {s:SP} {tm:List D} {v:Int} {right:List Int} (h1:s.Aa.length≤100000:=by exact Vm) (h2:s.frags.length≤100000:=by exact Vm) :
  Af Tryz.prog 125 [.ptr 1000 0,I v,.d (ints false right),.d (.sl false 3 [Zyb 0,Zyb 1])] (spH g s tm) (.tup []) (spH g (s.rule v right ZbP) tm):=by
 have h:=ZjN (g:=g) (s:=s) (tm:=tm) (v:=v) (right:=right) (l:=ZbP) h1 h2;rw[ZtA] at h;exact h.le ⟨.refl _,.refl _,.refl _,.sl (.cons (ZjO _) (.cons (ZjO _) .nil)),trivial⟩
theorem Zye {t:Bool} {g:Ac} {s:SP} {v r:Int} {right:List Int} (hx:∀ x∈right, -g.terms≤x) (h2:2≤right.length) (h10:right.length≤10) (ht:(s.term.length:Int)=g.terms) (ht4:g.terms≤80000) (h0:0≤s.vars) (h1:s.vars≤80000) (h3:s.Aa.length≤80000) (h4:s.frags.length≤80000) :
  Af Tryz.prog 126 [.ptr 1000 0,I v,I r,.d (ints t right)] (spH g s (s.term.map iD)) (.tup []) (spH g (s.split v r right) ((s.split v r right).term.map iD)):=by
 refine Af.intro (n:=87) Tryz.func126 (hw:=?_);simp only[Zal]
 (try refine wk ?_)
 refine ZbB 8 900 3 1 rfl rfl rfl ?_;refine Zak (X:=Nat) (fun k=>k≤right.length) (fun k=>[(15,I k),(14,I right.length),(13,.d (ints t right)),(0,.ptr 1000 0),(1,I v),(2,I r),(8,.own 900 (s.lifteds (right.take k)).length)])
  (fun k=>(900,.row 3 1 ((s.lifteds (right.take k)).map iD))::spH g (s.lifts (right.take k)) ((s.lifts (right.take k)).term.map iD)) (fun k=>right.length - k) 0 (Hh _) ?_
 intro k hk;have hle:=SP.lifteds_length s (right.take k);have hsm:=SP.lifts_small (right.take k) s;have htk:(right.take k).length=k:=by simp;omega
 rw[htk] at hle hsm;by_cases hlt:k < right.length
 ·have e1:=SP.lifteds_snoc s (right.take k) right[k];have e2:=SP.lifts_snoc s (right.take k) right[k];rw[←HD hlt] at e1 e2;have hxk:=hx _ (He hlt);have htm:=SP.lifts_term (right.take k) s;have e:=e1;generalize s.lifts (right.take k)=q at *;generalize s.lifteds (right.take k)=ls at *
  (try refine wk ?_)
  refine Zab [] (hA:=ZA2 (s:=q)) (hr:=?_)
  (try refine wk ?_)
  rw[←e2];exact Zad (k+1)
 ·obtain rfl:k=right.length:=by omega
  rw[HO];rw[HO] at hle hsm;obtain⟨m,hm⟩:∃ m:Nat,right.length=m+2:=⟨right.length - 2,by omega⟩
  have hls:(s.lifteds right).length=m+2:=by omega
  have hlift:(s.split v r right)=((s.lifts right).more m).pairs v r (s.lifteds right) (ZeK (s.lifts right).vars (s.lifteds right)) (m+1):=by
   rw[SP.split,hm];simp[SP.pairs,SP.more]
  have hN:(((s.lifteds right).length:Nat):Int) - 2=(m:Int):=by omega
  rw[hlift,hls,hm];clear hlift hle hk hlt htk;have hterm:=SP.lifts_term right s;generalize s.lifts right=q at *;generalize s.lifteds right=ls at *
  (try refine wk ?_)
  rw[hN];have e0:q=q.more 0:=by simp[SP.more]
  have hq:spH g q (q.term.map iD)=spH g (q.more 0) (q.term.map iD):=by rw[←e0]
  rw[hq];refine ZbB 11 901 3 1 rfl rfl rfl ?_;refine Zak (X:=Nat) (fun k=>k≤m) (fun k=>[(29,I k),(28,I m),(0,.ptr 1000 0),(1,I v),(2,I r),(8,.own 900 (m+2)),(11,.own 901 k)])
   (fun k=>(900,.row 3 1 (ls.map iD))::(901,.row 3 1 (((List.range k).map (fun (i:Nat)=>q.vars+(i:Int))).map iD))::spH g (q.more k) (q.term.map iD)) (fun k=>m - k) 0 (Hh _) ?_
  intro k hk;have a1:(q.more k).vars=q.vars+k:=rfl;have hrl:(List.range k).length=k:=List.length_range;by_cases hlt:k < m
  ·(try refine wk ?_)
   refine Zab [] (hA:=Zqc (s:=q.more k)) (hr:=?_)
   (try refine wk ?_)
   rw[SP.more_fresh];have e:(List.range (k+1)).map (fun (i:Nat)=>q.vars+(i:Int))=(List.range k).map (fun (i:Nat)=>q.vars+(i:Int))++[(q.more k).vars]:=by rw[Gn];simp[SP.more]
   exact Zad (k+1)
  ·obtain rfl:k=m:=by omega
   have hidx:((ls.length:Nat):Int) - 1=((k+1:Nat):Int):=by omega
   (try refine wk ?_)
   have Ah:ls[k+1]=ls.getD (ls.length - 1) 0:=by rw[Hf,Hj (by omega)];simp;congr 1;omega
   have hrs:((List.range k).map (fun (i:Nat)=>q.vars+(i:Int))).map iD++[iD ls[k+1]]=(ZeK q.vars ls).map iD:=by
    rw[ZeK,Ah,show ls.length - 2=k by omega,Ho];rfl
   have hrl2:(ZeK q.vars ls).length=k+1:=by rw[Zjc _ (by omega)];omega
   have hrl3:((ZeK q.vars ls).map iD).length=k+1:=by simp[hrl2]
   rw[hrs,hrl3];generalize ZeK q.vars ls=rs at *;have b1:(q.more k).Aa.length=q.Aa.length:=rfl;have b2:(q.more k).frags.length=q.frags.length:=rfl;have c1:(q.more k).Aa.length≤100000:=by omega
   have c2:(q.more k).frags.length≤100000:=by omega
   (try refine wk ?_)
   refine Zab [] (hA:=ZdV) (hr:=?_)
   (try refine wk ?_)
   refine Zab [] (hA:=ZdV) (hr:=?_)
   (try refine wk ?_)
   refine Zab [] (hA:=Zyc (s:=q.more k) (v:=v) (r:=r) (right:=[ls[0],rs[0]]) c1 c2) (hr:=?_)
   (try refine wk ?_)
   have ZiQ:∀ (xs:List Int) (i:Nat) (h:i < xs.length),xs.getD i 0=xs[i]:=fun xs i h=>by rw[Hf,Hj h];rfl
   have hp1:(q.more k).rule v [ls[0],rs[0]] [.mk 1 r ZbP]=(q.more k).pairs v r ls rs 1:=by
    have:=SP.pairs_rule (q.more k) v r ls rs 0;rw[Hb rfl,Hb rfl,ZiQ ls 0 (by omega),ZiQ rs 0 (by omega)] at this;rw[←this];simp[SP.pairs,SP.more,Zjw,Zhz]
   rw[hp1];refine Zak (X:=Nat) (fun j=>1≤j∧j≤k+1) (fun j=>[(12,I j),(0,.ptr 1000 0),(1,I v),(2,I r),(8,.own 900 (k+2)),(11,.own 901 (k+1))])
    (fun j=>(900,.row 3 1 (ls.map iD))::(901,.row 3 1 (rs.map iD))::spH g ((q.more k).pairs v r ls rs j) (q.term.map iD)) (fun j=>k+1 - j) 1 (by omega) ?_
   rintro j ⟨hj1,hj2⟩;by_cases hlj:j < k+1
   ·have hj0:(j:Int) - 1=((j - 1:Nat):Int):=(by omega);have hp2:((q.more k).pairs v r ls rs j).rule rs[j - 1] [ls[j],rs[j]] ZbP=(q.more k).pairs v r ls rs (j+1):=by
     have:=SP.pairs_rule (q.more k) v r ls rs j
     rwa [Ha (by omega),Ha (by omega),ZiQ ls j (by omega),ZiQ rs j (by omega),ZiQ rs (j - 1) (by omega)] at this
    have d1:((q.more k).pairs v r ls rs j).Aa.length≤100000:=(by simp[SP.pairs,Zja];omega);have d2:((q.more k).pairs v r ls rs j).frags.length≤100000:=by simp[SP.pairs,Zjb];omega
    (try refine wk ?_)
    refine Zab [] (hA:=ZdV) (hr:=?_)
    (try refine wk ?_)
    refine Zab [] (hA:=ZdV) (hr:=?_)
    (try refine wk ?_)
    refine Zab [] (hA:=Zyd (s:=(q.more k).pairs v r ls rs j) (v:=rs[j - 1]) (right:=[ls[j],rs[j]]) d1 d2) (hr:=?_)
    (try refine wk ?_)
    rw[hp2];exact Zad (j+1)
   ·obtain rfl:j=k+1:=by omega
    (try refine wk ?_)
    exact fin
abbrev ZE1 (g:Ac) (s:SP):Ob:=.box 171 [.d (iD s.vars),.d (iD g.terms),.d (iD g.start),.own 901 s.Aa.length,.own 902 s.frags.length,.d nilT,.own 903 g.terms.toNat,.d (bD s.many)]
theorem ZhT {t:Bool} {g:Ac} (hf:g.fit) :
  Af Tryz.prog 70 [.d (Zbr t g)] [] (.tup [.d (ZdG false (Zcz g).1),.d (Zbu (Zcz g).2)]) []:=by
 refine Af.intro (n:=86) Tryz.func70 (hw:=?_);simp only[Zal];have hr1:=hf.Aa;have hr2:=hf.right
 (try refine wk ?_)
 refine Zab [] (hA:=ZaT) (hr:=?_);by_cases hc:(Zac g).code=0
 rotate_left
 ·rw[show Zcz g=(Ag,Zac g) by rw[Zcz,Ha hc]]
  (try refine wk ?_)
  exact fin2
 have hg:=Zbd hc;have hv1:=hg.vars1;have hv2:=hg.vars;have ht1:=hg.terms0;have ht2:=hg.terms
 (try refine wk ?_)
 refine ZaD 16 3 901 68 2 rfl rfl rfl rfl ?_;refine ZaD 16 4 902 75 1 rfl rfl rfl rfl ?_;refine ZaD 16 6 903 3 1 rfl rfl rfl rfl ?_;have ht0:((g.terms.toNat:Nat):Int)=g.terms:=by omega
 refine Zak (X:=Nat) (fun k=>k≤g.terms.toNat) (fun k=>[(30,I k),(29,.d (iD g.terms)),(5,.ptr 16 0),(3,.ptr 3 0),(2,.ptr 2 0),(1,.ptr 1 0)])
  (fun k=>[(16,.box 171 [.d (iD g.vars),.d (iD g.terms),.d (iD g.start),.own 901 0,.own 902 0,.d nilT,.own 903 k,.d (bD false)]),(901,.row 68 2 []),(902,.row 75 1 []),(903,.row 3 1 ((List.replicate k (-1:Int)).map iD)),(1,ZaE t g),(2,Zci false Ag),(3,.box 31 [.d (iD 0),.d (iD 0)])]) (fun k=>g.terms.toNat - k) 0 (Hh _) ?_
 ·intro k hk;have hrep:(List.replicate k (-1:Int)).length=k:=HM;by_cases hlt:(k:Int) < g.terms
  ·have e:List.replicate (k+1) (-1:Int)=List.replicate k (-1:Int)++[-1]:=Jr
   (try refine wk ?_)
   exact Zad (k+1)
  ·obtain rfl:k=g.terms.toNat:=by omega
   (try refine wk ?_)
   clear hrep hlt hk;have hfit:=Zdv hg;have hm0:bD false=bD (Za0 g).many:=by rw[hfit.2]
   rw[hm0];refine Zak (X:=Nat×SP) (fun x=>x.1≤g.Aa.length∧ZbQ (Za0 g) g.Aa 0=ZbQ x.2 (g.Aa.drop x.1) x.1∧x.2.fit g∧x.2.many=false) (fun x=>[(45,I x.1),(44,I g.Aa.length),(43,.d (ZaS t g.Aa)),(5,.ptr 16 0),(3,.ptr 3 0),(2,.ptr 2 0)])
    (fun x=>[(16,ZE1 g x.2),(901,.row 68 2 (x.2.Aa.map (Za3 false))),(902,.row 75 1 (x.2.frags.map (Zah false))),(903,.row 3 1 (x.2.term.map iD)),(2,Zci false Ag),(3,.box 31 [.d (iD 0),.d (iD 0)])]) (fun x=>g.Aa.length - x.1) (0,Za0 g) ⟨Hh _,rfl,hfit.1,hfit.2⟩ ?_
   rintro⟨i,s⟩ ⟨h1,h2,h3,h4⟩;dsimp only at h1 h2 h3 h4 ⊢;by_cases hlt:i < g.Aa.length
   ·have hmem:=He hlt;have hrf:=hg.rule hmem;have hone:=h3.one hg hlt hrf;have hgo:ZbQ s (g.Aa.drop i) i=bif (s.one i g.Aa[i]).many then .error i else ZbQ (s.one i g.Aa[i]) (g.Aa.drop (i+1)) (i+1):=by
     rw[Hw hlt,ZbQ]
    have hb:=Zri h4;have hpl:=h3.parts.len;have hrr:=hg.right _ hmem;by_cases h5:g.Aa[i].right.length < 2
    ·have e1:s.one i g.Aa[i]=s.rule g.Aa[i].left g.Aa[i].right (ZaJ i (Ab g.Aa[i].right).length):=(by rw[SP.one,Hb h5]);have hkl:=Zbj g.Aa[i].right
     (try refine wk ?_)
     refine Zab [(3,905)] (hA:=ZcH) (hr:=?_)
     (try refine wk ?_)
     refine Zab [(20,906)] (hA:=Zfu) (hr:=?_)
     (try refine wk ?_)
     refine Zab [(1000,16),(1001,901),(1002,902),(1003,903)] (hA:=ZjN (g:=g) (s:=s)) (hr:=?_)
     (try refine wk ?_)
     rw[e1] at hone hgo;by_cases hm:(s.rule g.Aa[i].left g.Aa[i].right (ZaJ i (Ab g.Aa[i].right).length)).many=true
     ·rw[show Zcz g=(Ag,⟨6,i⟩) by rw[Zcz,Hb hc,h2,hgo,hm];rfl]
      (try refine wk ?_)
      exact fin2
     ·rw[Jb] at hm
      (try refine wk ?_)
      exact Zad (i+1,(s.rule g.Aa[i].left g.Aa[i].right (ZaJ i (Ab g.Aa[i].right).length))) (a:=⟨by dsimp only;omega,by rw[h2,hgo,hm];rfl,hone,hm⟩)
    ·have e1:s.one i g.Aa[i]=s.split g.Aa[i].left i g.Aa[i].right:=(by rw[SP.one,Ha h5]);have hlo:=hg.lo _ hmem;have htl:=h3.tlen;have hv:=h3.vars
     (try refine wk ?_)
     have h5':2≤g.Aa[i].right.length:=(by omega);have b1:g.terms≤80000:=(by omega);have b2:0≤s.vars:=(by omega);have b3:s.vars≤80000:=(by omega);have b4:s.Aa.length≤80000:=(by omega);have b5:s.frags.length≤80000:=(by omega);refine Zab [(1000,16),(1001,901),(1002,902),(1003,903)] (hA:=Zye (s:=s) (g:=g) (r:=i) (v:=g.Aa[i].left) (right:=g.Aa[i].right) hlo h5' hrr htl b1 b2 b3 b4 b5) (hr:=?_)
     (try refine wk ?_)
     rw[e1] at hone hgo;generalize s.split g.Aa[i].left i g.Aa[i].right=q at *;by_cases hm:q.many=true
     ·rw[show Zcz g=(Ag,⟨6,i⟩) by rw[Zcz,Hb hc,h2,hgo,hm];rfl]
      (try refine wk ?_)
      exact fin2
     ·rw[Jb] at hm
      (try refine wk ?_)
      exact Zad (i+1,q) (a:=⟨by dsimp only;omega,by rw[h2,hgo,hm];rfl,hone,hm⟩)
   ·obtain rfl:i=g.Aa.length:=(by omega);rw[show Zcz g=(⟨⟨s.vars,g.terms,g.start,s.Aa⟩,s.frags,[]⟩,⟨0,0⟩) by rw[Zcz,Hb hc,h2,GM];rfl];refine Zaz 901 rfl ?_;refine Zaz 902 rfl ?_
    (try refine wk ?_)
    exact fin2
theorem ZiQ {xs:List Int} {i:Nat} (h:i < xs.length):xs.getD i 0=xs[i]:=by rw[Hf,Hj h];rfl
abbrev ZBZ (k:Nat) (ss:List Step):Hp:=[(k,.row 39 6 (ss.map (ZdG false)))]
theorem Zyf {t:Bool} {g:Ac} {ss:List Step} (hf:g.fit) (hs:∀ s∈ss,s.fit) (hl:ss.length≤100000000) :
  Af Tryz.prog 15 [.d (Zbr t g),.own 1000 ss.length] (ZBZ 1000 ss) (.d (Zbr false (Za7 g ss))) (ZBZ 1000 ss):=by
 refine Af.intro (n:=17) Tryz.func15 (hw:=?_);simp only[Zal];have hml:(ss.map (ZdG false)).length=ss.length:=Hi _;by_cases h0:0 < ss.length
 ·obtain⟨n,hn⟩:∃ n,ss.length=n+1:=⟨ss.length - 1,by omega⟩
  have hlt:n < ss.length:=by omega
  have e:=Zs4 g hn;have hsf:=(hs _ (He hlt)).g;have ho:=ZhD (t:=false) hsf;have ei:(ss.length:Int) - 1=(n:Int):=by omega
  rw[e];refine VA ?_;rw[ei];refine VA ?_;refine Zt0 TY rfl Zag rfl (Ao.stpO rfl (by simp) hlt) rfl rfl rfl rfl ?_;refine VA ?_;refine Zab [] (hA:=ho) (hr:=?_);repeat (first|refine Zaz 900 rfl ?_|refine wk1 ?_|refine Zaa (hr:=?_))
  exact fin
 ·have:ss=[]:=HX (by omega)
  subst this;have ho:=ZhD (t:=t) hf;rw[show Za7 g []=g from rfl];refine VA ?_;refine Zab [] (hA:=ho) (hr:=?_);repeat (first|refine Zaz 900 rfl ?_|refine wk1 ?_|refine Zaa (hr:=?_))
  exact fin
def pasT (k:Int) (g:Ac):Step×Zcf:=if k=4 then Zcz g else ZfO g
theorem ZA3 {k:Int} (hk:k=4∨k=6) {g:Ac} (hf:g.fit):Af Tryz.prog 37 [I k,.d (Zbr false g)] [] (.tup [.d (ZdG false (pasT k g).1),.d (Zbu (pasT k g).2)]) []:=by
 refine Af.intro (n:=45) Tryz.func37 (hw:=?_);simp only[Zal];have h1:=ZhT (t:=false) hf;have h2:=Zje hf;unfold pasT;rcases hk with rfl|rfl
 ·rw[Hb rfl];refine VA ?_;refine Zab [] (hA:=h1) (hr:=?_);refine VA ?_;exact fin2
 ·rw[Ha (by decide)];refine VA ?_;refine Zab [] (hA:=h2) (hr:=?_);refine VA ?_;exact fin2
theorem ZA4 {P:Int→Ac→Step×Zcf} {g:Ac} {ks:List Int} {i:Nat} {out:List Step} (h:i < ks.length):mkC P g (ks.drop i) i out=if ¬ (P ks[i] (Za7 g out)).2.code=0 then ([],⟨(P ks[i] (Za7 g out)).2.code,(i:Int)⟩) else mkC P g (ks.drop (i+1)) (i+1) (out++[(P ks[i] (Za7 g out)).1]):=by
 conv=>lhs;rw[Hw h,mkC]
theorem ZmN {t u:Bool} {P:Int→Ac→Step×Zcf} {g:Ac} {ks:List Int} (hf:g.fit) (hk:ks.length≤100000000)
  (hp:∀ k∈ks,∀ g:Ac,g.fit→Af Tryz.prog 37 [I k,.d (Zbr false g)] [] (.tup [.d (ZdG false (P k g).1),.d (Zbu (P k g).2)]) []∧(P k g).1.fit) :
  Af Tryz.prog 11 [.d (Zbr t g),.d (ints u ks)] [] (.tup [.d (Zec false false (Zc0 P g ks).1),.d (Zbu (Zc0 P g ks).2)]) []:=by
 refine Af.intro (n:=51) Tryz.func11 (hw:=?_);simp only[Zal];have hgc:=ZaT (t:=t) hf.Aa hf.right;have hr:∃ r,Zc0 P g ks=r:=⟨_,rfl⟩
 obtain⟨r,hr⟩:=hr;rw[hr];unfold Zc0 at hr;by_cases h0:(Zac g).code=0
 ·rw[Ha (fun q=>q h0)] at hr;by_cases h8:8 < ks.length
  ·rw[Hb h8] at hr;subst hr;refine VA ?_;refine Zab [] (hA:=hgc) (hr:=?_);refine VA ?_;exact fin
  ·rw[Ha h8] at hr;refine VA ?_;refine Zab [] (hA:=hgc) (hr:=?_);refine VA ?_;refine ZbB 7 907 39 6 rfl rfl rfl ?_;refine VA ?_;refine Zak (X:=Nat×List Step) (fun y=>y.1≤ks.length∧y.2.length=y.1∧(∀ s∈y.2,s.fit)∧mkC P g (ks.drop y.1) y.1 y.2=r) (fun y=>[(24,I y.1),(23,I ks.length),(22,.d (ints u ks)),(7,.own 907 y.2.length),(2,.ptr 2 0),(5,.ptr 5 0)]) (fun y=>[(907,.row 39 6 (y.2.map (ZdG false))),(2,ZaE t g),(5,.box 31 [.d (iD 0),.d (iD 0)])]) (fun y=>ks.length - y.1) (0,[]) ⟨Hh _,rfl,(fun s h=>by cases h),hr⟩ ?_;rintro⟨i,out⟩ ⟨i1,i2,i3,i4⟩;dsimp only at i1 i2 i3 i4 ⊢;by_cases hlt:i < ks.length
   ·have hla:=Zyf (t:=t) hf i3 (by omega);obtain⟨hps,hpf⟩:=hp ks[i] (He hlt) _ (Ze1 hf i3);rw[ZA4 hlt] at i4;generalize P ks[i] (Za7 g out)=S at *;obtain⟨s,fc,fa⟩:=S;dsimp only at i4 hps hpf;by_cases hc:fc=0
    ·rw[Ha (fun q=>q hc)] at i4;have ec:out.map (ZdG false)++[.agg [iD s.g.vars,iD s.g.terms,iD s.g.start,ZaS false s.g.Aa,.sl false 1 (s.frags.map (Zah false)),Zan false s.empty]]=(out++[s]).map (ZdG false):=(by rw[Ho];rfl);refine VA ?_;refine Zab [(1000,907)] (hA:=hla) (hr:=?_);refine VA ?_;refine Zab [] (hA:=hps) (hr:=?_);refine VA ?_;rw[ec];exact Zad (i+1,out++[s]) (a:=⟨by dsimp only;omega,by simp[i2],fun x hx=>by
      rcases List.mem_append.1 hx with hx|hx
      ·exact i3 x hx
      ·rw[List.mem_singleton.1 hx];exact hpf,i4⟩) (b:=by dsimp only;omega)
    ·rw[Hb hc] at i4;subst i4;refine VA ?_;refine Zab [(1000,907)] (hA:=hla) (hr:=?_);refine VA ?_;refine Zab [] (hA:=hps) (hr:=?_);refine VA ?_;exact fin
   ·have hi:i=ks.length:=(by omega);subst hi;rw[GM,mkC] at i4;subst i4;refine Zaz 907 rfl ?_;refine VA ?_;exact fin
 ·rw[Hb h0] at hr;subst hr;refine VA ?_;refine Zab [] (hA:=hgc) (hr:=?_);refine VA ?_;exact fin
def rOk (K:List Bool) (r:Rule):Bool:=has K r.left && ZaQ (Ab r.right) K
def Zck (g:Ac):List Bool:=Za1 true g
def ZCV (g:Ac):List Rule:=g.Aa.filter (rOk (Zck g))
def subG (g:Ac):Ac:=⟨g.vars,g.terms,g.start,if has (Zck g) g.start=true then ZCV g else []⟩
def Zav (g:Ac):List Bool:=Zdg (subG g)
def stay (g:Ac) (r:Rule):Bool:=has (Zck g) g.start && (rOk (Zck g) r && has (Zav g) r.left)
def rk (K:List Bool) (v:Int):Int:=(Zfo (setN K) v.toNat).length
def ZaO (K:List Bool) (s:Int):Int:=if 0≤s then rk K s else s
def ZlT (K:List Bool) (r:Rule):Rule:=⟨rk K r.left,r.right.map (ZaO K)⟩
def ZbO (g:Ac) (rs:List Rule):List Rule:=(rs.filter (stay g)).map (ZlT (Zav g))
def Zbt (g:Ac):List Rule→Nat→List (List Ad)
 | [],_=>[]
 | r::rs,i=>if stay g r=true then ZaJ i (Ab r.right).length::Zbt g rs (i+1) else Zbt g rs (i+1)
def ZaZ (g:Ac):Step:=⟨⟨(Zba (Zav g)).length,g.terms,rk (Zav g) g.start,ZbO g g.Aa⟩,Zbt g g.Aa 0,[]⟩
def Zf6 (g:Ac):Step×Zcf:=if (Zac g).code=0 then (ZaZ g,⟨0,0⟩) else (Ag,Zac g)
theorem Zk7 {g:Ac} {rs:List Rule} {i:Nat} (h:i < rs.length):ZbO g (rs.take (i+1))=ZbO g (rs.take i)++(if stay g rs[i]=true then [ZlT (Zav g) rs[i]] else []):=by
 rw[HD h,ZbO,ZbO,GS,Ho];congr 1;by_cases hs:stay g rs[i]=true <;> simp[hs]
theorem ZhU (g:Ac):∀ (a b:List Rule) (i:Nat),Zbt g (a++b) i=Zbt g a i++Zbt g b (i+a.length)
 | [],b,i=>by simp[Zbt]
 | r::a,b,i=>by
  simp only[Hv,Zbt,ZhU g a b (i+1),Hl];rw[show i+1+a.length=i+(a.length+1) by omega];split <;> rfl
theorem Zk8 {g:Ac} {rs:List Rule} {i:Nat} (h:i < rs.length):Zbt g (rs.take (i+1)) 0=Zbt g (rs.take i) 0++(if stay g rs[i]=true then [ZaJ i (Ab rs[i].right).length] else []):=by
 rw[HD h,ZhU];congr 1;simp only[Zbt,Hs,HE];rw[Gs (by omega)]
theorem tLen (g:Ac):∀ (rs:List Rule) (i:Nat),(Zbt g rs i).length=(ZbO g rs).length
 | [],_=>rfl
 | r::rs,i=>by
  have ih:=tLen g rs (i+1);unfold ZbO at ih ⊢;rw[Zbt];by_cases hs:stay g r=true
  ·rw[Hb hs,Gr hs];simp only[Hm,Hl,ih]
  ·rw[Ha hs,GJ hs];exact ih
theorem Zk9 (K:List Bool):Zba K=Zfo (setN K) K.length:=(Zps (Hg _)).symm
theorem ZrY (s:Nat) {n m:Nat} (h:n≤m):∃ r,Zfo s m=Zfo s n++r:=by
 obtain⟨d,rfl⟩:∃ d,m=n+d:=⟨m - n,by omega⟩
 clear h
 induction d with
 | zero=>exact⟨[],by simp⟩
 | succ d ih =>
  obtain⟨r,hr⟩:=ih;exact⟨r++(if s.testBit (n+d)=true then [((n+d:Nat):Int)] else []),by rw[←GR,Ze0,hr,HH]⟩
theorem ZA5 {s n:Nat} {x:Int} (h:x∈Zfo s n):0≤x∧x < n:=by
 unfold Zfo at h;obtain⟨k,hk,rfl⟩:=List.mem_map.1 h;have:=List.mem_range.1 (List.mem_filter.1 hk).1;omega
theorem ZjP {K:List Bool} {v:Int} (h:has K v=true):∃ r,Zba K=Zfo (setN K) v.toNat++v::r:=by
 obtain⟨h0,h1⟩:=Zfe h;obtain⟨k,rfl⟩:∃ k:Nat,v=(k:Int):=⟨v.toNat,by omega⟩
 obtain⟨r,hr⟩:=ZrY (setN K) (show k+1≤K.length by omega);rw[ZbH] at h;rw[Ze0 (setN K) k,Zct,h,Hb rfl,HH] at hr;exact⟨r,by rw[Zk9,hr];rfl⟩
theorem ZtB {p:Int→Bool} {x:Int} {r:List Int} (hx:p x=true):∀ (a:List Int) (i:Nat),(∀ y∈a,p y=false)→idxR p (a++x::r) i=((i+a.length:Nat):Int)
 | [],i,_=>by simp[idxR,hx]
 | y::a,i,h=>by
  rw[Hv,idxR,h y (by simp),cond_false,ZtB hx a (i+1) (fun z hz=>h z (by simp[hz]))];congr 1;simp only[Hl];omega
theorem ZEk {K:List Bool} {v:Int} (h:has K v=true):idxR (fun y=>decide (v=y)) (Zba K) 0=rk K v:=by
 obtain⟨r,hr⟩:=ZjP h;have h0:=(Zfe h).1;rw[hr,ZtB (by simp) _ _ (fun y hy=>HC (by have:=(ZA5 hy).2;omega))];simp[rk]
theorem ZCW {K:List Bool} {v:Int} (h:has K v=true):0≤rk K v∧rk K v < (Zba K).length:=by
 obtain⟨r,hr⟩:=ZjP h;rw[hr,rk];simp;omega
theorem Zqd (K:List Bool):∀ xs:List Int,(Ab (xs.map (ZaO K))).length=(Ab xs).length
 | []=>rfl
 | x::xs=>by
  have ih:=Zqd K xs;unfold Ab at ih ⊢;rw[Hm];by_cases h:0≤x
  ·have h2:0≤ZaO K x:=by rw[ZaO,Hb h];unfold rk;omega
   rw[Gr (by simpa using h2),Gr (by simpa using h)];simp[ih]
  ·have h2:¬ 0≤ZaO K x:=by rw[ZaO,Ha h];exact h
   rw[GJ (by simpa using h2),GJ (by simpa using h)];exact ih
theorem ZiR {g:Ac} (hg:g.ok):(subG g).ok:=by
 have hs:∀ r∈(subG g).Aa,r∈g.Aa:=fun r hr=>by
  unfold subG at hr;dsimp only at hr;split at hr
  ·exact (List.mem_filter.1 hr).1
  ·cases hr
 have hl:(subG g).Aa.length≤g.Aa.length:=by
  unfold subG;dsimp only;split
  ·exact Gd _ _
  ·simp
 have:=hg.Aa;exact⟨hg.vars1,hg.vars,hg.terms0,hg.terms,hg.start0,hg.start,by omega,fun r hr=>hg.right r (hs r hr),fun r hr=>hg.left0 r (hs r hr),fun r hr=>hg.left r (hs r hr),fun r hr=>hg.lo r (hs r hr),fun r hr=>hg.hi r (hs r hr)⟩
theorem ZeC (g:Ac):(Zav g).length=g.vars.toNat:=ZfM (subG g)
theorem Zd3 {g:Ac} (hg:g.ok):has (Zav g) g.start=true:=ZoV (ZiR hg)
theorem ZdF {g:Ac} (hg:g.ok) {r:Rule} (hr:r∈g.Aa) (hs:stay g r=true):∀ v∈Ab r.right,has (Zav g) v=true:=by
 simp only[stay,Hr] at hs;refine ZqZ (ZiR hg) r ?_ hs.2.2;show r∈(if has (Zck g) g.start=true then ZCV g else []);rw[Hb hs.1];exact List.mem_filter.2 ⟨hr,hs.2.1⟩
theorem ZmO {g:Ac} (hg:g.ok):∀ (rs:List Rule) (i:Nat),(∀ r∈rs,r∈g.Aa)→i+rs.length≤g.Aa.length→Zfk g (Zbt g rs i) (ZbO g rs)
 | [],_,_,_=>.nil
 | r::rs,i,h,hi=>by
  simp only[Hl] at hi;have ih:=ZmO hg rs (i+1) (fun q hq=>h q (by simp[hq])) (by omega);unfold ZbO at ih ⊢;rw[Zbt];by_cases hs:stay g r=true
  ·rw[Hb hs,Gr hs,Hm];refine .cons ?_ ih;have hk:=Zqd (Zav g) r.right;have h10:=hg.right r (h r (by simp));have hkl:=Zbj r.right;show Zay g (ZaJ i (Ab r.right).length) (r.right.map (ZaO (Zav g)))=0;rw[←hk];exact Zkj (by omega) (by omega)
  ·rw[Ha hs,GJ hs];exact ih
theorem Zgp {g:Ac} (hg:g.ok):(ZaZ g).g.ok:=by
 have hl:=ZdS (Zav g);have hkl:=ZeC g;have hv:=hg.vars;have hs:=ZCW (Zd3 hg);have hm:∀ r∈(ZaZ g).g.Aa,∃ q∈g.Aa,stay g q=true∧r=ZlT (Zav g) q:=fun r hr=>by
  obtain⟨q,hq,rfl⟩:=List.mem_map.1 hr;obtain⟨h1,h2⟩:=List.mem_filter.1 hq;exact⟨q,h1,h2,rfl⟩
 have hrl:(ZaZ g).g.Aa.length≤g.Aa.length:=by
  show ((g.Aa.filter (stay g)).map (ZlT (Zav g))).length≤_;rw[Hi];exact Gd _ _
 have:=hg.Aa;have hK:(ZaZ g).g.vars=((Zba (Zav g)).length:Int):=rfl;have hleft:∀ r∈(ZaZ g).g.Aa,0≤r.left∧r.left < (ZaZ g).g.vars:=fun r hr=>by
  obtain⟨q,h1,h2,rfl⟩:=hm r hr;simp only[stay,Hr] at h2;exact ZCW h2.2.2
 have hsym:∀ r∈(ZaZ g).g.Aa,∀ s∈r.right, -g.terms≤s∧s < (ZaZ g).g.vars:=fun r hr s hs=>by
  obtain⟨q,h1,h2,rfl⟩:=hm r hr;obtain⟨x,hx,rfl⟩:=List.mem_map.1 hs;have ht:=hg.terms0;by_cases h0:0≤x
  ·rw[ZaO,Hb h0];have:=ZCW (ZdF hg h1 h2 x (by simp[Ab,hx,h0]));rw[hK];omega
  ·rw[ZaO,Ha h0];have:=hg.lo q h1 x hx;rw[hK];omega
 refine⟨by rw[hK];omega,by rw[hK];omega,hg.terms0,hg.terms,hs.1,hs.2,by omega,fun r hr=>?_,fun r hr=>(hleft r hr).1,fun r hr=>(hleft r hr).2,fun r hr s hs=>(hsym r hr s hs).1,fun r hr s hs=>(hsym r hr s hs).2⟩;obtain⟨q,h1,h2,rfl⟩:=hm r hr;show (q.right.map _).length≤10;rw[Hi];exact hg.right q h1
theorem Zla {g:Ac} (hg:g.ok):Zam g (ZaZ g)=⟨0,0⟩ :=
 Zki hg (Zgp hg) rfl (ZmO hg g.Aa 0 (fun _ h=>h) (by omega))
theorem Zyg (K:List Bool):rk K ((0:Nat):Int)=0:=by simp[rk,Zfo]
theorem Zyh (K:List Bool) (k:Nat):rk K ((k+1:Nat):Int)=rk K (k:Int)+(if has K k=true then 1 else 0):=by
 unfold rk;rw[Hn,Hn,Ze0,ZbH,Zct];split <;> simp
theorem ZB0 (K:List Bool):rk K (K.length:Nat)=(Zba K).length:=by rw[rk,Hn,Zk9]
theorem ZrZ {K:List Bool}:∀ (n:Nat) (u:Int),0≤u→u < rk K (n:Int)→∃ v,has K v=true∧rk K v=u
 | 0,u,h0,h=>by rw[Zyg] at h;omega
 | n+1,u,h0,h=>by
  rw[Zyh] at h;by_cases hb:has K n=true
  ·rw[Hb hb] at h;by_cases e:u=rk K n
   ·exact⟨n,hb,e.symm⟩
   ·exact ZrZ n u h0 (by omega)
  ·rw[Ha hb] at h;exact ZrZ n u h0 (by omega)
theorem Zyi {K:List Bool} {s:Nat} (h:∀ v:Int,has K v=true↔v=s):∀ k:Nat,rk K (k:Int)=if k≤s then 0 else 1
 | 0=>by rw[Zyg];simp
 | k+1=>by
  rw[Zyh,Zyi h k];by_cases e:k=s
  ·subst e;have ht:has K (k:Int)=true:=(h _).2 rfl;rw[Hb ht,Hb (Hg _),Ha (by omega)];rfl
  ·have hf:¬ has K (k:Int)=true:=fun hh=>e (by have:=(h _).1 hh;omega)
   rw[Ha hf];by_cases h2:k≤s
   ·rw[Hb h2,Hb (by omega)];rfl
   ·rw[Ha h2,Ha (by omega)];rfl
section
variable {g:Ac} (hg:g.ok)
include hg
theorem Zyj:((ZaZ g).g.vars.toNat:Int)=rk (Zav g) (g.vars.toNat:Int):=by
 have h1:=ZB0 (Zav g);rw[ZeC] at h1;rw[h1];show (((Zba (Zav g)).length:Int).toNat:Int)=_;omega
theorem ZA6 (hs:¬ has (Zck g) g.start=true):∀ v:Int,has (Zav g) v=true↔v=g.start.toNat:=by
 have hst:=hg.start0;have hst2:=hg.start;intro v;constructor
 ·intro h;have h1:Sub (Zav g) (put (Zff g) g.start):=ZoW (by rw[Zcu,Zbl];rfl) (by show has (put (Zff g) g.start) g.start=true;rw[Zgg hst (by rw[Zbl];omega)];simp) (fun r hr=>by
   have:(subG g).Aa=[]:=by
    show (if has (Zck g) g.start=true then ZCV g else [])=[]
    rw[Ha hs]
   rw[this] at hr;cases hr)
  have h2:=h1.sub v h;rw[Zgg hst (by rw[Zbl];omega),Zie] at h2;have h3:v=g.start:=by simpa using h2
  omega
 ·rintro rfl;rw[show ((g.start.toNat:Nat):Int)=g.start by omega];exact Zd3 hg
theorem ZCX (hs:¬ has (Zck g) g.start=true):(ZaZ g).g=⟨1,g.terms,0,[]⟩:=by
 have hk:=ZA6 hg hs;have hst:=hg.start0;have hst2:=hg.start;have h1:=ZB0 (Zav g);have hkl:=ZeC g;rw[hkl,Zyi hk,Ha (by omega)] at h1;have h2:=Zyi hk g.start.toNat;rw[Hb (Hg _),show ((g.start.toNat:Nat):Int)=g.start by omega] at h2;have h3:ZbO g g.Aa=[]:=by
  have:g.Aa.filter (stay g)=[]:=List.filter_eq_nil_iff.2 (fun r hr=>by
   simp only[stay,Hr];exact fun h=>hs h.1)
  rw[ZbO,this];rfl
 show Ac.mk _ _ _ _=_;rw[←h1,h2,h3]
end
end Go.Proofs.YtbpmepgnjanhnaaGreat
