import Derived.Test.YtbpmepgnjanhnaaGreatQChartM
set_option linter.unusedVariables false
set_option linter.unusedSimpArgs false
set_option linter.unusedSectionVars false
set_option maxHeartbeats 4000000
set_option maxRecDepth 100000
namespace Go.Proofs.YtbpmepgnjanhnaaGreat
open Go.RowKit
theorem ZxS {g:Ac} (hg:g.ok) (hc:cycL g=[]) {t:Bool} {v:Int}:∀ (n:Nat) (v0:Int) (p:List Int) (i:Int) (s:SS),0≤v0→v0 < g.vars→i∈by_ g v0→rnk g v0 < n→p.length+n≤70→(∀ x∈p,0≤x∧x≤160)→GOk g s.gv→s.F.length=s.R.length→s.R.length+(Zdo g i).length≤160 →
  Af Tryz.prog 124 [.ptr 1000 0,I v,I i,.d (Zah false (Zce p (ZaJ i (kN g i))))] (shH t g s.gv s.R s.F) (B (rulM g v n p i s).1) (shH t g (rulM g v n p i s).2.gv (rulM g v n p i s).2.R (rulM g v n p i s).2.F):=by
 intro n
 induction n with
 | zero=>intro v0 p i s _ _ _ h;omega
 | succ n ih =>
 intro v0 p i s h0 h1 hi hn hp hpb hgv hF hR;obtain⟨k,hk,ek,_⟩:=by_mem.1 hi;have hrk:Zaj g i=g.Aa[k].right:=by rw[ek];exact Zax hk
 have hrr:=hg.right _ (He hk);have hrl:=hg.Aa;have hun:Af Tryz.prog 187 [.d (.agg [iD g.Aa[k].left,ints t g.Aa[k].right])] [] (I (ZaC (Zaj g i))) []:=by rw[hrk];exact ZsZ (by omega)
 have hkn:kN g i≤10:=by
  unfold kN;rw[hrk];have:=Zbj g.Aa[k].right;omega
 obtain⟨gv,R,F⟩:=s;dsimp only at hgv hF hR ⊢;rw[rulM];by_cases hu:ZaC (Zaj g i) < 0
 ·rw[Hb hu];have hE:Zdo g i=[[i]]:=by unfold Zdo;rw[Hb hu]
  rw[hE] at hR;simp only[HS] at hR;have hsz:=Zgn p (ZaJ i (kN g i));rw[Zix] at hsz;have hpt:=ZuL _ (t:=false) (l:=Zce p (ZaJ i (kN g i))) (Gk _) (by omega);have hge:=Zpn (Zaj g i);have e:R.map (Za3 false)++[.agg [.raw (.int .i64 v),.sl false 1 ([]++g.Aa[k].right.map iD)]]=(R++[(⟨v,Zaj g i⟩:Rule)]).map (Za3 false):=by rw[hrk,Ho];rfl
  generalize Zce p (ZaJ i (kN g i))=W at *;have e2:F.map (Zah false)++[Zah false W]=(F++[W]).map (Zah false):=by rw[Ho];rfl
  have e3:decide ((Aj W:Int)≤60)=decide (Aj W≤60):=decide_eq_decide.2 (by omega);rw[←e3];generalize ZaC (Zaj g i)=un at *;refine Af.intro (n:=96) Tryz.func124 (hw:=?_);simp only[Zal];refine VA ?_;refine Zab [] (hA:=hun) (hr:=?_);refine VA ?_;refine Zab [] (hA:=hpt) (hr:=?_);repeat (first|refine wkr ?_|refine Zaa (hr:=?_))
  rw[e,e2,Hi,Hi];refine VA ?_;exact fin
 ·rw[Ha hu];have hs:=Zeb hi (by omega);obtain⟨u0,u1⟩:=ZeM hg h0 h1 hs;have hr:=ZdO hg hc h0 h1 hs;have hwe:=Zkq hg hc u0 u1;have hE:Zdo g i=(ways g (ZaC (Zaj g i))).map (i::·):=by unfold Zdo;rw[Ha hu]
  rw[hE,Hi,hwe] at hR;rw[ZCo (g:=g) (i:=i) (by omega)];obtain⟨u,hu2⟩:∃ u:Nat,ZaC (Zaj g i)=(u:Int):=⟨(ZaC (Zaj g i)).toNat,by omega⟩
  rw[hu2] at hun u0 u1 hr hR ⊢;have hct:=Zpp hg hc (t:=t) (R:=R) (F:=F) 65 u gv (by have:=ZpT hg u0 u1;omega) u1 hgv;have hok1:=Ziy (g:=g) 65 u gv hgv;rw[Hn];generalize cntM g 65 u gv=gv1 at *;have hcr:=ZnE g u;by_cases hz:cw g u=0
  ·rw[Hb hz];rw[hz] at hct;refine Af.intro (n:=96) Tryz.func124 (hw:=?_);simp only[Zal];refine VA ?_;refine Zab [] (hA:=hun) (hr:=?_);refine VA ?_;refine Zab [] (hA:=hct) (hr:=?_);refine VA ?_;exact fin
  ·rw[Ha hz];have hby:=Zmd (t:=t) (g:=g) (v:=(u:Int)) (by omega);have hbll:=ZwP g u;have hin:∀ x∈by_ g u,x∈by_ g (u:Int):=fun x h=>h
   generalize hbl:by_ g (u:Int)=bl at *;generalize cw g u=cu at *;obtain⟨b,sf,hres⟩:∃ b sf,rulL (fun k s=>rulM g v n (p++[i]) k s) bl ⟨gv1,R,F⟩=(b,sf):=⟨_,_,rfl⟩
   rw[hres];obtain⟨fg,fR,fF⟩:=sf;dsimp only;refine Af.intro (n:=96) Tryz.func124 (hw:=?_);simp only[Zal];refine VA ?_;refine Zab [] (hA:=hun) (hr:=?_);refine VA ?_;refine Zab [] (hA:=hct) (hr:=?_);refine VA ?_;refine Zab [] (hA:=hby) (hr:=?_);refine VA ?_;refine Zak (X:=Nat×SS) (fun x=>x.1≤bl.length∧rulL (fun k s=>rulM g v n (p++[i]) k s) (bl.drop x.1) x.2=(b,⟨fg,fR,fF⟩)∧GOk g x.2.gv∧x.2.F.length=x.2.R.length∧x.2.R.length+((bl.drop x.1).flatMap (Zdo g)).length≤160)
    (fun x=>[(70,I x.1),(69,I bl.length),(68,.own 5 bl.length),(3,.d (Zah false (Zce p (ZaJ i 1)))),(1,I v),(0,.ptr 1000 0)]) (fun x=>(5,.row 3 1 (bl.map iD))::shH t g x.2.gv x.2.R x.2.F) (fun x=>bl.length - x.1) (0,⟨gv1,R,F⟩) ⟨Hh _,hres,hok1,hF,hR⟩ ?_
   rintro⟨j,gw,Rw,Fw⟩ ⟨j1,j2,j3,j4,j5⟩;dsimp only at j1 j2 j3 j4 j5 ⊢;by_cases hlt:j < bl.length
   ·have hm:bl[j]∈by_ g (u:Int):=(by rw[hbl];exact He hlt);obtain⟨k2,hk2,ek2,_⟩:=by_mem.1 hm;have hrk2:Zaj g bl[j]=g.Aa[k2].right:=(by rw[ek2];exact Zax hk2);have hrr2:=hg.right _ (He hk2);have hkn2:kN g bl[j]=(Ab g.Aa[k2].right).length:=(by unfold kN;rw[hrk2]);have hkl:=Zbj g.Aa[k2].right;have hkd:=ZcH (t:=t) (l:=g.Aa[k2].left) (xs:=g.Aa[k2].right) (by omega);rw[Hw hlt,rulL] at j2;rw[Hw hlt,HP,Hk] at j5;have hpb2:∀ x∈p++[i],0≤x∧x≤160:=fun x hx=>by
     rcases List.mem_append.1 hx with hx|hx
     ·exact hpb x hx
     ·rw[List.mem_singleton.1 hx];omega
    have hG:=ZiA hg hc v n u (p++[i]) bl[j] ⟨gw,Rw,Fw⟩ u0 u1 hm (by omega);have hih:=ih u (p++[i]) bl[j] ⟨gw,Rw,Fw⟩ u0 u1 hm (by omega) (by simp;omega) hpb2 j3 j4 (by dsimp only;omega);have hnd:=Zfu (r:=bl[j]) (k:=kN g bl[j]) (by omega);have hplug:Af Tryz.prog 189 [.d (Zah false (Zce p (ZaJ i 1))),I 0,.d (Zah true (ZaJ bl[j] (kN g bl[j]))),I (kN g bl[j])] [] (.d (Zah false (Zce (p++[i]) (ZaJ bl[j] (kN g bl[j]))))) []:=by
     have hs1:=Zgn p (ZaJ i 1);rw[Zix] at hs1;have hs2:=Zix bl[j] (kN g bl[j]);have hnb2:NbL 1000000000 (ZaJ bl[j] (kN g bl[j])):=ZsW (by omega) (by omega) (by omega);have h:=ZnX (t:=false) (u:=true) (l:=Zce p (ZaJ i 1)) (inn:=ZaJ bl[j] (kN g bl[j])) (k:=0) (n:=(kN g bl[j]:Int)) (by omega) (by omega) (by rw[ZbS];exact ZsX (by omega) (by omega)) (ZnD (ZsW (by omega) (by omega) (by omega)) (fun x hx=>by have:=hpb x hx;omega)) hnb2 (by rw[Zpo];exact ZnD hnb2 (fun x hx=>by have:=hpb2 x hx;omega)) (by omega) (by omega) (by omega) (by omega);rw[Zpo] at h;exact h
    dsimp only at hih;rw[hkn2] at hnd hplug hih;generalize rulM g v n (p++[i]) bl[j] ⟨gw,Rw,Fw⟩=q at *;obtain⟨b2,gz,Rz,Fz⟩:=q;have hG3:=hG.gv j3;have hG4:=hG.len j4;have hGa:=hG.all;dsimp only at hih hG3 hG4 hGa j2;have hWl:(ZaJ bl[j] (Ab g.Aa[k2].right).length).length=1:=rfl;generalize hWW:ZaJ bl[j] (Ab g.Aa[k2].right).length=WW at *;generalize Zce (p++[i]) WW=W2 at *;generalize Zce p (ZaJ i 1)=W1 at *;cases b2 with
    | true =>
     rw[Hb rfl] at j2;have hlen:Rz.length=Rw.length+(Zdo g bl[j]).length:=(by rw[(hGa rfl).1,Hk,Hi]);refine VA ?_;refine Zab [] (hA:=hkd) (hr:=?_);refine VA ?_;refine Zab [] (hA:=hnd) (hr:=?_);refine VA ?_;refine Zab [] (hA:=hplug) (hr:=?_);refine VA ?_;refine Zab [] (hA:=hih) (hr:=?_);refine VA ?_;exact Zad (j+1,⟨gz,Rz,Fz⟩) (a:=⟨by omega,j2,hG3,hG4,by dsimp only;omega⟩) (b:=by dsimp only;omega)
    | false =>
     rw[Ha (by decide)] at j2;obtain⟨rfl,rfl,rfl,rfl⟩:false=b∧gz=fg∧Rz=fR∧Fz=fF:=by injection j2 with a1 a2;injection a2 with a2 a3 a4;exact⟨a1,a2,a3,a4⟩
     refine VA ?_;refine Zab [] (hA:=hkd) (hr:=?_);refine VA ?_;refine Zab [] (hA:=hnd) (hr:=?_);refine VA ?_;refine Zab [] (hA:=hplug) (hr:=?_);refine VA ?_;refine Zab [] (hA:=hih) (hr:=?_);refine VA ?_;exact fin
   ·rw[HL (by omega),rulL] at j2;obtain⟨rfl,rfl,rfl,rfl⟩:true=b∧gw=fg∧Rw=fR∧Fw=fF:=by injection j2 with a1 a2;injection a2 with a2 a3 a4;exact⟨a1,a2,a3,a4⟩
    refine VA ?_;exact fin
def ZD9 (sz m:Nat) (ob:Ob):Prop:=∃ e xs,ob=.row e sz xs∧xs.length=m
section
variable {P:Program} {n:Nat} {ops:Array Oper} {K:Exit→Fr→Hp→Prop} {dr:Bool} {rest:List Oper} {log:List Rec} {fr:Fr} {h:Hp} {d:Nat} {ty:TypeId} {pos:String} {after:Array Edge} {g:Option (Nat×Bool)}
variable (T:TT P)
theorem ZEa {x:Operand} {t e sz k m:Nat} {et:TypeId} {ys:List D} {y:Ty} (hdn:Nat.blt d n=true) (hg:gOk ops fr g) (hx:oev fr x=.own k m) (hk:Ah h k=some (.row et sz ys)) (hm:ys.length=m) (ht:T.rows[t]? = some y) (hel:y.elem=some e) (hlog:(log.all fun r=>r.wk.all fun j=>!Nat.beq j k)=true)
  (hr:dops P n dr ops rest (⟨(gIns ops g++ZaG x (.own k m)).map Prod.fst,[d],[],[]⟩::log) (fun e fr' h'=>K e fr' h'∧(e=.normal→∃ u,h'=u++h∧∀ q∈u,q.1=k→ZD9 sz m q.2)) ((d,I m)::fr) h):dops P n dr ops (⟨some d,.call { callee:=.builtin .len,args:=#[x],argTypes:=#[t] },ty,pos,after,g⟩::rest) log K fr h:=by
 refine .inr ⟨gIns ops g++ZaG x (.own k m),k,ZD9 sz m,I m,?_,fun p hp=>?_,⟨_,hk,et,ys,rfl,hm⟩,fun r hr hm'=>?_,hr⟩
 ·intro G E fr' h' a w K Q hPan hn C hi ho hK;obtain⟨ob,hk',et',ys',rfl,hm'⟩:=ho;have hgo:gOk ops fr' g:=Zh5 hg (fun p hp=>hi p (List.mem_append.2 (.inl hp)));obtain⟨r,_⟩:=C.oev (ZcE hx (fun p hp=>hi p (List.mem_append.2 (.inr hp)))) (Zao (Zap hx rfl));have ha:At h' sz (.own k m) ys' [(k,some (.row et' sz ys'))]:=.own hk' hm';obtain⟨ad,c,news,h1,_⟩:=ha.slArg C r;obtain⟨_,ds,_,k2,_,_,_,_,k7,_⟩:=ZaH (T.at ht);have hds:=k7 e hel;subst hds;have he:(execOp a.eval ⟨some d,.call { callee:=.builtin .len,args:=#[x],argTypes:=#[t] },ty,pos,after,g⟩).run P w=.ok (.value (.int .i64 ys'.length)) w:=by
   refine Zlu ?_;rw[h1];simp[Builtin.len_,run_underlying k2,goInt]
  unfold wpS;rw[Hb (Zcs C hgo)];refine .inl ?_;unfold Oper.wp;rw[he];simp only[Oper.upon];refine hK E _ w ?_;refine C.put (by rw[hn];simpa[HU] using hdn) ?_ (fun j hj=>by simp[V.keys] at hj);rw[hm'];simp[V.Rep,D.RepV,D.Rep,Value.oneCell']
 ·rcases List.mem_append.1 hp with hp|hp
  ·exact ZdL hg p hp
  ·exact ZbN hx p hp
 ·rw[HR] at hlog;have h1:=hlog r hr;rw[HR] at h1;have h2:=h1 k hm';rw[Gt] at h2;cases h2
end
def Zcj (g:Ac) (k:Nat):List Rule:=(List.range k).flatMap fun (v:Nat)=>(ways g v).map (ZgS g v)
def Zdj (g:Ac) (k:Nat):List (List Ad):=(List.range k).flatMap fun (v:Nat)=>(ways g v).map (wayF g)
def Zed (g:Ac) (v:Nat):Bool:=decide ((Zcj g v).length+(ways g v).length≤160) && (ways g v).all fun w=>decide (Aj (wayF g w)≤60)
def Zbs (g:Ac):Step:=⟨⟨g.vars,g.terms,g.start,Zcj g g.vars.toNat⟩,Zdj g g.vars.toNat,[]⟩
def Zb1 (g:Ac):Step×Zcf :=
 if (Zac g).code=0 then
  if 0 < (cycL g).length then (Ag,⟨10, -1⟩) else
   match (List.range g.vars.toNat).find? (fun v=>!Zed g v) with
   | some v=>(Ag,⟨6,v⟩)
   | none=>(Zbs g,⟨0,0⟩)
 else (Ag,Zac g)
theorem Zee (g:Ac) (k:Nat):Zcj g (k+1)=Zcj g k++(ways g k).map (ZgS g k):=by simp[Zcj,Gn]
theorem Zfv (g:Ac) (k:Nat):Zdj g (k+1)=Zdj g k++(ways g k).map (wayF g):=by simp[Zdj,Gn]
theorem ZrM (g:Ac):∀ k,(Zdj g k).length=(Zcj g k).length
 | 0=>rfl
 | k+1=>by rw[Zee,Zfv,Hk,Hk,ZrM g k];simp
theorem ZxT {g:Ac} {n v:Nat} (hv:v < n) (hb:∀ u,u < v→Zed g u=true) (hv2:Zed g v=false):(List.range n).find? (fun v=>!Zed g v)=some v:=by
 rw[List.find?_eq_some_iff_append];refine⟨by rw[hv2];rfl,List.range v,(List.range n).drop (v+1),?_,fun u hu=>by rw[hb u (List.mem_range.1 hu)];rfl⟩;have h1:v < (List.range n).length:=by simpa using hv
 have h2:=(Gh v (List.range n)).symm;rw[Hw h1,List.getElem_range,List.take_range,Gs (by omega)] at h2;exact h2
theorem ZxU {g:Ac} {n:Nat} (hb:∀ u,u < n→Zed g u=true):(List.range n).find? (fun v=>!Zed g v)=none:=by
 rw[List.find?_eq_none];intro u hu;rw[hb u (List.mem_range.1 hu)];simp
abbrev shB (g:Ac) (r f:Nat):Ob:=.box 166 [I g.vars,I g.terms,I g.start,.d (ZaS false g.Aa),.own 901 g.vars.toNat,I g.vars,I g.terms,I g.start,.own 902 r,.own 903 f,.d (.raw (.slice none 0 0))]
theorem Zn4 {g:Ac} (hf:g.fit) :
  Af Tryz.prog 69 [.d (Zbr false g)] [] (.tup [.d (ZdG false (Zb1 g).1),.d (Zbu (Zb1 g).2)]) []:=by
 refine Af.intro (n:=107) Tryz.func69 (hw:=?_);simp only[Zal];have hcy:=ZeR (t:=false) hf;by_cases hc:(Zac g).code=0
 rotate_left
 ·rw[show Zb1 g=(Ag,Zac g) by rw[Zb1,Ha hc]];generalize Zac g=gf at *;refine VA ?_;refine Zab [] (hA:=hcy) (hr:=?_);refine VA ?_;exact fin2
 have hg:=Zbd hc;have hgf:=hg.fault;rw[hgf] at hcy;have hcl:(cycL g).length≤100000000:=by
  have h1:=hg.vars;unfold cycL ZfT;rw[Hb hc,Hi];have h2:=Gd (fun (v:Nat)=>has (rowM (ledM false g) v) v) (List.range g.vars.toNat);rw[List.length_range] at h2;omega
 by_cases hn:0 < (cycL g).length
 ·rw[show Zb1 g=(Ag,⟨10, -1⟩) by rw[Zb1,Hb hc,Hb hn]];generalize cycL g=cl at *;refine VA ?_;refine Zab [] (hA:=hcy) (hr:=?_);refine VA ?_;exact fin2
 have hcn:cycL g=[]:=List.length_eq_zero_iff.1 (by omega);rw[hcn] at hcy;have hv1:=hg.vars1;have hv2:=hg.vars;have hv0:((g.vars.toNat:Nat):Int)=g.vars:=by omega
 refine VA ?_;refine Zab [] (hA:=hcy) (hr:=?_);refine VA ?_;refine ZaD 28 4 901 3 1 rfl rfl rfl rfl ?_;refine ZaD 28 8 902 68 2 rfl rfl rfl rfl ?_;refine ZaD 28 9 903 75 1 rfl rfl rfl rfl ?_;refine Zak (X:=Nat) (fun k=>k≤g.vars.toNat) (fun k=>[(42,I k),(41,.d (iD g.vars)),(6,.ptr 28 0),(3,.ptr 3 0),(2,.ptr 2 0),(1,.ptr 1 0)])
  (fun k=>[(28,.box 166 [I g.vars,I g.terms,I g.start,.d (ZaS false g.Aa),.own 901 k,I g.vars,I g.terms,I g.start,.own 902 0,.own 903 0,.d (.raw (.slice none 0 0))]),(901,.row 3 1 ((List.replicate k (-1:Int)).map iD)),(902,.row 68 2 []),(903,.row 75 1 []),(1,ZaE false g),(2,Zci false Ag),(3,.box 31 [.d (iD 0),.d (iD 0)])]) (fun k=>g.vars.toNat - k) 0 (Hh _) ?_
 intro k hk;have hrep:(List.replicate k (-1:Int)).length=k:=HM;by_cases hlt:(k:Int) < g.vars
 ·have e:List.replicate (k+1) (-1:Int)=List.replicate k (-1:Int)++[-1]:=Jr;refine VA ?_;exact Zad (k+1)
 ·obtain rfl:k=g.vars.toNat:=by omega
  refine VA ?_;clear hrep hlt hk;have hgv0:GOk g (List.replicate g.vars.toNat (-1)):=⟨HM,fun k h=>.inl (by simp)⟩
  refine Zak (X:=Nat×List Int) (fun x=>x.1≤g.vars.toNat∧GOk g x.2∧(Zcj g x.1).length≤160∧∀ u,u < x.1→Zed g u=true)
   (fun x=>[(56,I x.1),(55,.d (iD g.vars)),(6,.ptr 28 0),(3,.ptr 3 0),(2,.ptr 2 0),(1,.ptr 1 0)])
   (fun x=>[(28,shB g (Zcj g x.1).length (Zdj g x.1).length),(901,.row 3 1 (x.2.map iD)),(902,.row 68 2 ((Zcj g x.1).map (Za3 false))),(903,.row 75 1 ((Zdj g x.1).map (Zah false))),(1,ZaE false g),(2,Zci false Ag),(3,.box 31 [.d (iD 0),.d (iD 0)])]) (fun x=>g.vars.toNat - x.1) (0,List.replicate g.vars.toNat (-1)) ⟨Hh _,hgv0,by simp[Zcj],fun u h=>by omega⟩ ?_
  rintro⟨v,gv⟩ ⟨j1,j2,j3,j4⟩;dsimp only at j1 j2 j3 j4 ⊢;have hfl:=ZrM g v;by_cases hlt:(v:Int) < g.vars
  ·have hct:=Zpp hg hcn (t:=false) (R:=Zcj g v) (F:=Zdj g v) 65 v gv (by have:=ZpT hg (v:=(v:Int)) (by omega) hlt;omega) hlt j2;have hok1:=Ziy (g:=g) 65 v gv j2;have hcr:=ZnE g v;generalize cntM g 65 v gv=gv1 at *;repeat (first|refine ZxM TY (d:=64) (by exact rfl) Zag (by exact rfl) (by exact rfl) (by exact rfl) (by exact rfl) (by exact rfl) (by exact rfl) ?_|refine ZEa TY (d:=65) (by exact rfl) Zag (by exact rfl) (by exact rfl) (by exact Hi _) (by exact rfl) (by exact rfl) (by exact rfl) ?_|refine wk1 ?_)
   refine Zab [(1000,28),(1001,901),(1002,902),(1003,903)] (hA:=hct) (hr:=?_);refine VA ?_;refine⟨?_,fun _=>⟨[(28,_),(901,_),(902,_),(903,_)],rfl,?_⟩⟩
   rotate_left
   ·intro q hq e;simp only[Gq,GB,or_false] at hq;rcases hq with rfl|rfl|rfl|rfl
    ·simp at e
    ·simp at e
    ·exact⟨_,_,rfl,by simp⟩
    ·simp at e
   refine⟨?_,fun _=>⟨[(28,_),(901,_),(902,_),(903,_)],rfl,?_⟩⟩
   rotate_left
   ·intro q hq e;simp only[Gq,GB,or_false] at hq;rcases hq with rfl|rfl|rfl|rfl
    ·exact⟨_,_,rfl,rfl⟩
    ·simp at e
    ·simp at e
    ·simp at e
   have hby:=Zmd (t:=false) (g:=g) (v:=(v:Int)) (by have:=hg.Aa;omega);have hbll:=ZwP g v;have hrl:=hg.Aa;have hwe:=Zkq hg hcn (v:=(v:Int)) (by omega) hlt;have hG:=Ziz (g:=g) (v:=v) (p:=[]) (f:=fun k s=>rulM g v 65 [] k s) (by_ g v) ⟨gv1,Zcj g v,Zdj g v⟩ (fun k hk s=>ZiA hg hcn v 65 v [] k s (by omega) hlt hk (by have:=ZpT hg (v:=(v:Int)) (by omega) hlt;omega));rw[←hwe] at hG;have hcw:cw g v=min ((ways g v).length:Int) 161:=rfl;have hin:∀ x∈by_ g (v:Int),x∈by_ g (v:Int):=fun x h=>h
   have hfm:(by_ g (v:Int)).flatMap (Zdo g)=ways g v:=hwe.symm;have hs1:=Zee g v;have hs2:=Zfv g v;have hsg:Zed g v=(decide ((Zcj g v).length+(ways g v).length≤160) && (ways g v).all fun w=>decide (Aj (wayF g w)≤60)):=rfl;generalize hbl:by_ g (v:Int)=bl at *;generalize Zcj g v=R0 at *;generalize Zdj g v=F0 at *;obtain⟨RES,hres⟩:∃ RES,rulL (fun k s=>rulM g v 65 [] k s) bl ⟨gv1,R0,F0⟩=RES:=⟨_,rfl⟩
   rw[hres] at hG;refine VA ?_;refine Zab [(5,907)] (hA:=hby) (hr:=?_);refine VA ?_;obtain⟨b0,hb0⟩:∃ b0:Bool,decide ((R0.length:Int)+cw g v≤160)=b0:=⟨_,rfl⟩
   have hinit:(b0=true∧rulL (fun k s=>rulM g v 65 [] k s) (bl.drop 0) ⟨gv1,R0,F0⟩=RES∧R0.length+((bl.drop 0).flatMap (Zdo g)).length≤160)∨(b0=false∧Zed g v=false):=by
    cases b0 with
    | true =>
     have:=H0 hb0;refine .inl ⟨rfl,hres,?_⟩;rw[Gl,hfm];omega
    | false =>
     have:=of_decide_eq_false hb0;refine .inr ⟨rfl,?_⟩;rw[hsg,HC (by omega)];rfl
   refine Zak (X:=Nat×Bool×SS) (fun x=>x.1≤bl.length∧GOk g x.2.2.gv∧x.2.2.F.length=x.2.2.R.length∧((x.2.1=true∧rulL (fun k s=>rulM g v 65 [] k s) (bl.drop x.1) x.2.2=RES∧x.2.2.R.length+((bl.drop x.1).flatMap (Zdo g)).length≤160)∨(x.2.1=false∧Zed g v=false)))
    (fun x=>[(75,I x.1),(74,I bl.length),(73,.own 907 bl.length),(8,B x.2.1),(7,I v),(56,I v),(55,.d (iD g.vars)),(6,.ptr 28 0),(3,.ptr 3 0),(2,.ptr 2 0),(1,.ptr 1 0)])
    (fun x=>[(907,.row 3 1 (bl.map iD)),(28,shB g x.2.2.R.length x.2.2.F.length),(901,.row 3 1 (x.2.2.gv.map iD)),(902,.row 68 2 (x.2.2.R.map (Za3 false))),(903,.row 75 1 (x.2.2.F.map (Zah false))),(1,ZaE false g),(2,Zci false Ag),(3,.box 31 [.d (iD 0),.d (iD 0)])]) (fun x=>bl.length - x.1) (0,b0,⟨gv1,R0,F0⟩) ⟨Hh _,hok1,hfl,hinit⟩ ?_ (hf:=?_)
   rotate_left
   ·exact⟨.of rfl,.of rfl,.of rfl,ZbT rfl hb0,.of rfl,.of rfl,.of rfl,.of rfl,.of rfl,.of rfl,.of rfl,trivial⟩
   rintro⟨j,b,gw,Rw,Fw⟩ ⟨m1,m2,m3,m4⟩;dsimp only at m1 m2 m3 m4 ⊢;by_cases hlt2:j < bl.length
   ·have hm:bl[j]∈by_ g (v:Int):=(by rw[hbl];exact He hlt2);obtain⟨k2,hk2,ek2,_⟩:=by_mem.1 hm;rcases m4 with ⟨rfl,m5,m6⟩|⟨rfl,m5⟩
    ·have hrk2:Zaj g bl[j]=g.Aa[k2].right:=(by rw[ek2];exact Zax hk2);have hrr2:=hg.right _ (He hk2);have hkn2:kN g bl[j]=(Ab g.Aa[k2].right).length:=(by unfold kN;rw[hrk2]);have hkl:=Zbj g.Aa[k2].right;have hkd:=ZcH (t:=false) (l:=g.Aa[k2].left) (xs:=g.Aa[k2].right) (by omega);rw[Hw hlt2,rulL] at m5;rw[Hw hlt2,HP,Hk] at m6;have hrv:=ZpT hg (v:=(v:Int)) (by omega) hlt;have hG2:=ZiA hg hcn v 65 v [] bl[j] ⟨gw,Rw,Fw⟩ (by omega) hlt hm (by omega);have hih:=ZxS hg hcn (t:=false) (v:=(v:Int)) 65 v [] bl[j] ⟨gw,Rw,Fw⟩ (by omega) hlt hm (by omega) (by simp) (by simp) m2 m3 (by dsimp only;omega);have hnd:=Zfu (r:=bl[j]) (k:=kN g bl[j]) (by omega);dsimp only at hih;rw[show Zce [] (ZaJ bl[j] (kN g bl[j]))=ZaJ bl[j] (kN g bl[j]) from rfl] at hih;rw[hkn2] at hnd hih;generalize rulM g v 65 [] bl[j] ⟨gw,Rw,Fw⟩=q at *;obtain⟨b2,gz,Rz,Fz⟩:=q;have hG3:=hG2.gv m2;have hG4:=hG2.len m3;have hGa:=hG2.all;dsimp only at hih hG3 hG4 hGa m5;have hWl:(ZaJ bl[j] (Ab g.Aa[k2].right).length).length=1:=rfl;generalize hWW:ZaJ bl[j] (Ab g.Aa[k2].right).length=WW at *;cases b2 with
     | true =>
      rw[Hb rfl] at m5;have hlen:Rz.length=Rw.length+(Zdo g bl[j]).length:=(by rw[(hGa rfl).1,Hk,Hi]);refine VA ?_;refine Zab [(3,905)] (hA:=hkd) (hr:=?_);refine VA ?_;refine Zab [(20,906)] (hA:=hnd) (hr:=?_);refine VA ?_;refine ZaW [(1000,28),(1001,901),(1002,902),(1003,903)] (hA:=hih) (hr:=?_);refine VA ?_;exact Zad (j+1,true,⟨gz,Rz,Fz⟩) (a:=⟨by omega,hG3,hG4,.inl ⟨rfl,m5,by dsimp only;omega⟩⟩) (b:=by dsimp only;omega)
     | false =>
      rw[Ha (by decide)] at m5;subst m5;have hbad:Zed g v=false:=by
       obtain⟨w,hw,hsz⟩:=hG.one rfl;rw[hsg,Bool.and_eq_false_iff];refine .inr ?_;cases hall:(ways g (v:Int)).all (fun w=>decide (Aj (wayF g w)≤60)) with
       | false=>rfl
       | true =>
        have:=H0 (List.all_eq_true.1 hall w hw);have h3:Aj (Zce [] (wayF g w))=Aj (wayF g w):=rfl;omega
      refine VA ?_;refine Zab [(3,905)] (hA:=hkd) (hr:=?_);refine VA ?_;refine Zab [(20,906)] (hA:=hnd) (hr:=?_);refine VA ?_;refine ZaW [(1000,28),(1001,901),(1002,902),(1003,903)] (hA:=hih) (hr:=?_);refine VA ?_;exact Zad (j+1,false,⟨gz,Rz,Fz⟩) (a:=⟨by omega,hG3,hG4,.inr ⟨rfl,hbad⟩⟩) (b:=by dsimp only;omega)
    ·refine VB ?_;refine VA ?_;exact Zad (j+1,false,⟨gw,Rw,Fw⟩) (a:=⟨by omega,m2,m3,.inr ⟨rfl,m5⟩⟩) (b:=by dsimp only;omega)
   ·rcases m4 with ⟨rfl,m5,m6⟩|⟨rfl,m5⟩
    ·rw[HL (by omega),rulL] at m5;subst m5;obtain⟨a1,a2,a3⟩:=hG.all rfl;dsimp only at a1 a2;have e1:Rw=Zcj g (v+1):=(by rw[hs1,a1]);have e2:Fw=Zdj g (v+1):=(by rw[hs2,a2];rfl);have hgood:Zed g v=true:=by
      have hl:=Hy List.length a1;rw[Hk,Hi] at hl;have hle:=m6;rw[HL (by omega)] at hle;simp only[List.flatMap_nil,HB,Gx] at hle;rw[hsg,Hu (by omega),H5,HR];exact fun w hw=>Hu (a3 w hw)
     have hlen:Rw.length≤160:=by
      have hle:=m6;rw[HL (by omega)] at hle;simpa using hle
     subst e1;subst e2;refine VA ?_;exact Zad (v+1,gw) (a:=⟨by omega,m2,hlen,fun u hu=>by rcases Nat.lt_succ_iff_lt_or_eq.1 hu with h|h;exact j4 u h;rw[h];exact hgood⟩) (b:=by dsimp only;omega)
    ·rw[show Zb1 g=(Ag,⟨6,v⟩) by rw[Zb1,Hb hc,Ha hn,ZxT (by omega) j4 m5]];refine VA ?_;exact fin2
  ·obtain rfl:v=g.vars.toNat:=by omega
   rw[show Zb1 g=(⟨⟨g.vars,g.terms,g.start,Zcj g g.vars.toNat⟩,Zdj g g.vars.toNat,[]⟩,⟨0,0⟩) by rw[Zb1,Hb hc,Ha hn,ZxU j4];rfl];refine Zaz 902 rfl ?_;refine Zaz 903 rfl ?_;refine VA ?_;exact fin2
end Go.Proofs.YtbpmepgnjanhnaaGreat
